/- The texts HS, HF, HG, LibM, in build order. -/
import Derived.Test.YtnhggfnnolfcdaaGreatZai
import Derived.Lib.MinMax
import Derived.Laws.MakeOwn

/- Chapter 4: the error of rules (Check). -/
namespace Go.Proofs.YtnhggfnnolfcdaaGreat
open Go.RowKit Go.Oche Go.Proofs
def emptyR (r : Rul) : Bool :=
 ((if r.kind = 1 then 0 else r.last) == 0) && !(if r.kind = 1 then false else r.bull) && !(if r.kind = 1 then false else r.jump) && ((if r.kind = 2 ∨ r.kind = 3 then 0 else r.rounds) == 0) && !(if r.kind = 2 then false else r.cut) &&
  ((if r.kind = 4 then 0 else r.nums.length) == 0) && ((if r.kind = 4 then 0 else r.lives) == 0) && !(if r.kind = 4 then false else r.own)
theorem restA_eq (r : Rul) (nv : Value) : restA r nv = #[.int .i64 r.kind,.int .i64 r.players,.int .i64 (if r.kind = 1 then 0 else r.last),.bool (if r.kind = 1 then false else r.bull),.bool (if r.kind = 1 then false else r.jump),.int .i64 (if r.kind = 2 ∨ r.kind = 3 then 0 else r.rounds),.bool (if r.kind = 2 then false else r.cut),(if r.kind = 4 then .slice none 0 0 else nv),.int .i64 (if r.kind = 4 then 0 else r.lives),.bool (if r.kind = 4 then false else r.own)]:=by
 unfold restA
 by_cases k1 : r.kind = 1
 ·simp [k1]
 by_cases k2 : r.kind = 2
 ·simp [k2]
 by_cases k3 : r.kind = 3
 ·simp [k3]
 by_cases k4 : r.kind = 4
 ·simp [k4]
 simp [k1,k2,k3,k4]
theorem okRul_eq (r : Rul) : okRul r = (okUs r && emptyR r):=by
 unfold okRul okUs emptyR areB
 rw [Bool.eq_iff_iff]
 by_cases k1 : r.kind = 1
 ·simp [k1]; constructor <;> intro h <;> simp_all
 by_cases k2 : r.kind = 2
 ·simp [k2]; constructor <;> intro h <;> simp_all
 by_cases k3 : r.kind = 3
 ·simp [k3]; constructor <;> intro h <;> simp_all
 by_cases k4 : r.kind = 4
 ·simp [k4]; constructor <;> intro h <;> simp_all
 simp [k1,k2,k3,k4]
theorem sl_same {S : Nat → Prop} {w : World} {a : Option Addr} {n c : Nat} {xs : List Value} (h : Sl S w (.slice a n c) xs) : xs.length = n:=by
 obtain ⟨_,_,e,_⟩ := h
 simp only [Value.slice.injEq] at e
 exact e.2.1.symm
set_option maxRecDepth 100000 in
set_option maxHeartbeats 4000000 in
theorem check_any {S : Nat → Prop} (r : Rul) (nv : Value) (w : World) (hs : Sl S w nv (ints r.nums)) :
  Calls Tryz.prog 58 #[.agg (rulA r nv)] w fun e w' => e = .returned (.int .i64 (checkR r)) ∧ Below w.heap.size w w':=by
 obtain ⟨er,her⟩ : ∃ er,checkR r = er:=⟨_,rfl⟩
 rw [her]
 unfold checkR at her
 rw [okRul_eq] at her
 have hus:=isUsed_any r nv (w.alloc (.cells (rulA r nv) 29)) (hs.below (aB _ _))
 rw [restA_eq] at hus
 obtain ⟨va,vc,rfl,hl1,hl2⟩ := hs.form
 rw [ints_length] at *
 obtain ⟨nl,hnl⟩ : ∃ nl,r.nums.length = nl:=⟨_,rfl⟩
 unfold maxLen at hl2
 have hslf : ∃ na ne nc,(if r.kind = 4 then Value.slice none 0 0 else .slice va nl vc) = .slice na ne nc ∧ ne = (if r.kind = 4 then 0 else nl) ∧ ne ≤ nl:=by
  by_cases k4 : r.kind = 4
  ·exact ⟨none,0,0,by rw [if_pos k4],by rw [if_pos k4],by omega⟩
  ·exact ⟨va,nl,vc,by rw [if_neg k4],by rw [if_neg k4],by omega⟩
 obtain ⟨na,ne,nc,hsl,hne,hnb⟩ := hslf
 rw [hnl] at hus her hl1 ⊢
 rw [hsl] at hus
 obtain ⟨eb,heb⟩ : ∃ eb,emptyR r = eb:=⟨_,rfl⟩
 rw [heb] at her
 have heb':=heb
 unfold emptyR at heb'
 rw [hnl,← hne] at heb'
 obtain ⟨la,hla⟩ : ∃ x,(if r.kind = 1 then 0 else r.last) = x:=⟨_,rfl⟩
 obtain ⟨bu,hbu⟩ : ∃ x,(if r.kind = 1 then false else r.bull) = x:=⟨_,rfl⟩
 obtain ⟨ju,hju⟩ : ∃ x,(if r.kind = 1 then false else r.jump) = x:=⟨_,rfl⟩
 obtain ⟨ro,hro⟩ : ∃ x,(if r.kind = 2 ∨ r.kind = 3 then 0 else r.rounds) = x:=⟨_,rfl⟩
 obtain ⟨cu,hcu⟩ : ∃ x,(if r.kind = 2 then false else r.cut) = x:=⟨_,rfl⟩
 obtain ⟨li,hli⟩ : ∃ x,(if r.kind = 4 then 0 else r.lives) = x:=⟨_,rfl⟩
 obtain ⟨ow,how⟩ : ∃ x,(if r.kind = 4 then false else r.own) = x:=⟨_,rfl⟩
 rw [hla,hbu,hju,hro,hcu,hli,how] at hus heb'
 obtain ⟨ob,hob⟩ : ∃ ob,okUs r = ob:=⟨_,rfl⟩
 rw [hob] at hus her
 have HER:=Lib.hid her
 have HEB:=Lib.hid heb'
 have HUS:=Lib.hid hus
 clear her heb heb' hus hs hsl hne hla hbu hju hro hcu hli how hob hnl
 unfold rulA at HUS ⊢
 obtain ⟨w0,hw0⟩ : ∃ w0,w.alloc (.cells #[.int .i64 r.kind,.int .i64 r.players,.int .i64 r.last,.bool r.bull,.bool r.jump,.int .i64 r.rounds,.bool r.cut,.slice va nl vc,.int .i64 r.lives,.bool r.own] 29) = w0:=⟨_,rfl⟩
 have hb0 : Below w.heap.size w w0:=by rw [← hw0]; exact aB _ _
 obtain ⟨q,hq⟩ : ∃ q,w.heap.size = q:=⟨_,rfl⟩
 have c7 : w0.cell? ⟨q,7,none⟩ = some (.slice va nl vc):=by rw [← hw0,← hq,cell_of_heap (World.alloc_heap_new _ _)]; rfl
 rw [hw0] at HUS
 have HB0:=Lib.hid hb0
 have HW0:=Lib.hid hw0
 have HQ:=Lib.hid hq
 clear hb0 hw0 hq
 go_enter Tryz.func58,Tryz.ntmps58
 go_wp2_with fail
 rw [HW0.out,HQ.out]
 (with_reducible refine HUS.out.mono ?_)
 rintro e w1 ⟨rfl,hb1⟩
 replace c7:=bAt hb1 c7
 have HB1:=Lib.hid (bThen HB0.out hb1)
 clear hb1
 obtain ⟨B,hB⟩ : ∃ B,w1.heap.size = B:=⟨_,rfl⟩
 have HB2 : Hid (Below w.heap.size w (w1.alloc (.cells #[.int .i64 r.kind,.int .i64 r.players,.int .i64 la,.bool bu,.bool ju,.int .i64 ro,.bool cu,.slice na ne nc,.int .i64 li,.bool ow] 29))):=Lib.hid (bThen HB1.out (aB _ _))
 have hh : ∀ j,(w1.alloc (.cells #[.int .i64 r.kind,.int .i64 r.players,.int .i64 la,.bool bu,.bool ju,.int .i64 ro,.bool cu,.slice na ne nc,.int .i64 li,.bool ow] 29)).cell? ⟨w1.heap.size,j,none⟩ = (#[.int .i64 r.kind,.int .i64 r.players,.int .i64 la,.bool bu,.bool ju,.int .i64 ro,.bool cu,.slice na ne nc,.int .i64 li,.bool ow] : Array Value)[j]? := fun j => cell_of_heap (o:=j) (World.alloc_heap_new _ _)
 have r2:=hh 2
 have r3:=hh 3
 have r4:=hh 4
 have r5:=hh 5
 have r6:=hh 6
 have r7:=hh 7
 have r8:=hh 8
 have r9:=hh 9
 simp only [List.getElem?_toArray,List.getElem?_cons_zero,List.getElem?_cons_succ] at r2 r3 r4 r5 r6 r7 r8 r9
 replace c7:=bAt (aB w1 (.cells #[.int .i64 r.kind,.int .i64 r.players,.int .i64 la,.bool bu,.bool ju,.int .i64 ro,.bool cu,.slice na ne nc,.int .i64 li,.bool ow] 29)) c7
 clear hB hh
 obtain ⟨b1,hb1⟩ : ∃ b,(la == 0) = b:=⟨_,rfl⟩
 obtain ⟨b2,hb2⟩ : ∃ b,(ro == 0) = b:=⟨_,rfl⟩
 obtain ⟨b3,hb3⟩ : ∃ b,(ne == 0) = b:=⟨_,rfl⟩
 obtain ⟨b4,hb4⟩ : ∃ b,(li == 0) = b:=⟨_,rfl⟩
 rw [hb1,hb2,hb3,hb4] at HEB
 have hb3' : ((ne : Int) == 0) = b3:=by rw [← hb3,Bool.eq_iff_iff]; simp
 obtain ⟨b8,hb8⟩ : ∃ b,decide (8 < nl) = b:=⟨_,rfl⟩
 have hb8' : decide ((8 : Int) < (nl : Int)) = b8:=by rw [← hb8]; exact decide_eq_decide.2 (by omega)
 have HER2 : Hid (er = if b8 = true then 5 else if (ob && eb) = true then 0 else 2):=Lib.hid (by
  rw [← HER.out,← hb8]
  by_cases h : 8 < nl
  ·rw [if_pos h,decide_eq_true h]; rfl
  ·rw [if_neg h,decide_eq_false h]; simp)
 clear hl1 hl2 hnb

 cases b8
 ·cases ob
  ·cases b1
   ·have he : eb = false:=by have h:=HEB.out; first | exact h.symm | (simp at h; first | exact h | exact h.symm)
    have HR : Hid (er = 2):=Lib.hid (by rw [HER2.out,he]; rfl)
    clear he
    go_wp2
    go_ret
    exact ⟨ret_int HR.out.symm,HB2.out⟩
   ·cases bu
    ·cases ju
     ·cases b2
      ·have he : eb = false:=by have h:=HEB.out; first | exact h.symm | (simp at h; first | exact h | exact h.symm)
       have HR : Hid (er = 2):=Lib.hid (by rw [HER2.out,he]; rfl)
       clear he
       go_wp2
       go_ret
       exact ⟨ret_int HR.out.symm,HB2.out⟩
      ·cases cu
       ·cases b3
        ·have he : eb = false:=by have h:=HEB.out; first | exact h.symm | (simp at h; first | exact h | exact h.symm)
         have HR : Hid (er = 2):=Lib.hid (by rw [HER2.out,he]; rfl)
         clear he
         go_wp2
         go_ret
         exact ⟨ret_int HR.out.symm,HB2.out⟩
        ·cases b4
         ·have he : eb = false:=by have h:=HEB.out; first | exact h.symm | (simp at h; first | exact h | exact h.symm)
          have HR : Hid (er = 2):=Lib.hid (by rw [HER2.out,he]; rfl)
          clear he
          go_wp2
          go_ret
          exact ⟨ret_int HR.out.symm,HB2.out⟩
         ·cases ow
          ·have he : eb = true:=by have h:=HEB.out; first | exact h.symm | (simp at h; first | exact h | exact h.symm)
           have HR : Hid (er = 2):=Lib.hid (by rw [HER2.out,he]; rfl)
           clear he
           go_wp2
           go_ret
           exact ⟨ret_int HR.out.symm,HB2.out⟩
          ·have he : eb = false:=by have h:=HEB.out; first | exact h.symm | (simp at h; first | exact h | exact h.symm)
           have HR : Hid (er = 2):=Lib.hid (by rw [HER2.out,he]; rfl)
           clear he
           go_wp2
           go_ret
           exact ⟨ret_int HR.out.symm,HB2.out⟩
       ·have he : eb = false:=by have h:=HEB.out; first | exact h.symm | (simp at h; first | exact h | exact h.symm)
        have HR : Hid (er = 2):=Lib.hid (by rw [HER2.out,he]; rfl)
        clear he
        go_wp2
        go_ret
        exact ⟨ret_int HR.out.symm,HB2.out⟩
     ·have he : eb = false:=by have h:=HEB.out; first | exact h.symm | (simp at h; first | exact h | exact h.symm)
      have HR : Hid (er = 2):=Lib.hid (by rw [HER2.out,he]; rfl)
      clear he
      go_wp2
      go_ret
      exact ⟨ret_int HR.out.symm,HB2.out⟩
    ·have he : eb = false:=by have h:=HEB.out; first | exact h.symm | (simp at h; first | exact h | exact h.symm)
     have HR : Hid (er = 2):=Lib.hid (by rw [HER2.out,he]; rfl)
     clear he
     go_wp2
     go_ret
     exact ⟨ret_int HR.out.symm,HB2.out⟩
  ·cases b1
   ·have he : eb = false:=by have h:=HEB.out; first | exact h.symm | (simp at h; first | exact h | exact h.symm)
    have HR : Hid (er = 2):=Lib.hid (by rw [HER2.out,he]; rfl)
    clear he
    go_wp2
    go_ret
    exact ⟨ret_int HR.out.symm,HB2.out⟩
   ·cases bu
    ·cases ju
     ·cases b2
      ·have he : eb = false:=by have h:=HEB.out; first | exact h.symm | (simp at h; first | exact h | exact h.symm)
       have HR : Hid (er = 2):=Lib.hid (by rw [HER2.out,he]; rfl)
       clear he
       go_wp2
       go_ret
       exact ⟨ret_int HR.out.symm,HB2.out⟩
      ·cases cu
       ·cases b3
        ·have he : eb = false:=by have h:=HEB.out; first | exact h.symm | (simp at h; first | exact h | exact h.symm)
         have HR : Hid (er = 2):=Lib.hid (by rw [HER2.out,he]; rfl)
         clear he
         go_wp2
         go_ret
         exact ⟨ret_int HR.out.symm,HB2.out⟩
        ·cases b4
         ·have he : eb = false:=by have h:=HEB.out; first | exact h.symm | (simp at h; first | exact h | exact h.symm)
          have HR : Hid (er = 2):=Lib.hid (by rw [HER2.out,he]; rfl)
          clear he
          go_wp2
          go_ret
          exact ⟨ret_int HR.out.symm,HB2.out⟩
         ·cases ow
          ·have he : eb = true:=by have h:=HEB.out; first | exact h.symm | (simp at h; first | exact h | exact h.symm)
           have HR : Hid (er = 0):=Lib.hid (by rw [HER2.out,he]; rfl)
           clear he
           go_wp2
           go_ret
           exact ⟨ret_int HR.out.symm,HB2.out⟩
          ·have he : eb = false:=by have h:=HEB.out; first | exact h.symm | (simp at h; first | exact h | exact h.symm)
           have HR : Hid (er = 2):=Lib.hid (by rw [HER2.out,he]; rfl)
           clear he
           go_wp2
           go_ret
           exact ⟨ret_int HR.out.symm,HB2.out⟩
       ·have he : eb = false:=by have h:=HEB.out; first | exact h.symm | (simp at h; first | exact h | exact h.symm)
        have HR : Hid (er = 2):=Lib.hid (by rw [HER2.out,he]; rfl)
        clear he
        go_wp2
        go_ret
        exact ⟨ret_int HR.out.symm,HB2.out⟩
     ·have he : eb = false:=by have h:=HEB.out; first | exact h.symm | (simp at h; first | exact h | exact h.symm)
      have HR : Hid (er = 2):=Lib.hid (by rw [HER2.out,he]; rfl)
      clear he
      go_wp2
      go_ret
      exact ⟨ret_int HR.out.symm,HB2.out⟩
    ·have he : eb = false:=by have h:=HEB.out; first | exact h.symm | (simp at h; first | exact h | exact h.symm)
     have HR : Hid (er = 2):=Lib.hid (by rw [HER2.out,he]; rfl)
     clear he
     go_wp2
     go_ret
     exact ⟨ret_int HR.out.symm,HB2.out⟩
 ·cases b1
  ·have he : eb = false:=by have h:=HEB.out; first | exact h.symm | (simp at h; first | exact h | exact h.symm)
   have HR : Hid (er = 5):=Lib.hid (by rw [HER2.out,he]; rfl)
   clear he
   go_wp2
   go_ret
   exact ⟨ret_int HR.out.symm,HB2.out⟩
  ·cases bu
   ·cases ju
    ·cases b2
     ·have he : eb = false:=by have h:=HEB.out; first | exact h.symm | (simp at h; first | exact h | exact h.symm)
      have HR : Hid (er = 5):=Lib.hid (by rw [HER2.out,he]; rfl)
      clear he
      go_wp2
      go_ret
      exact ⟨ret_int HR.out.symm,HB2.out⟩
     ·cases cu
      ·cases b3
       ·have he : eb = false:=by have h:=HEB.out; first | exact h.symm | (simp at h; first | exact h | exact h.symm)
        have HR : Hid (er = 5):=Lib.hid (by rw [HER2.out,he]; rfl)
        clear he
        go_wp2
        go_ret
        exact ⟨ret_int HR.out.symm,HB2.out⟩
       ·cases b4
        ·have he : eb = false:=by have h:=HEB.out; first | exact h.symm | (simp at h; first | exact h | exact h.symm)
         have HR : Hid (er = 5):=Lib.hid (by rw [HER2.out,he]; rfl)
         clear he
         go_wp2
         go_ret
         exact ⟨ret_int HR.out.symm,HB2.out⟩
        ·cases ow
         ·have he : eb = true:=by have h:=HEB.out; first | exact h.symm | (simp at h; first | exact h | exact h.symm)
          have HR : Hid (er = 5):=Lib.hid (by rw [HER2.out,he]; rfl)
          clear he
          go_wp2
          go_ret
          exact ⟨ret_int HR.out.symm,HB2.out⟩
         ·have he : eb = false:=by have h:=HEB.out; first | exact h.symm | (simp at h; first | exact h | exact h.symm)
          have HR : Hid (er = 5):=Lib.hid (by rw [HER2.out,he]; rfl)
          clear he
          go_wp2
          go_ret
          exact ⟨ret_int HR.out.symm,HB2.out⟩
      ·have he : eb = false:=by have h:=HEB.out; first | exact h.symm | (simp at h; first | exact h | exact h.symm)
       have HR : Hid (er = 5):=Lib.hid (by rw [HER2.out,he]; rfl)
       clear he
       go_wp2
       go_ret
       exact ⟨ret_int HR.out.symm,HB2.out⟩
    ·have he : eb = false:=by have h:=HEB.out; first | exact h.symm | (simp at h; first | exact h | exact h.symm)
     have HR : Hid (er = 5):=Lib.hid (by rw [HER2.out,he]; rfl)
     clear he
     go_wp2
     go_ret
     exact ⟨ret_int HR.out.symm,HB2.out⟩
   ·have he : eb = false:=by have h:=HEB.out; first | exact h.symm | (simp at h; first | exact h | exact h.symm)
    have HR : Hid (er = 5):=Lib.hid (by rw [HER2.out,he]; rfl)
    clear he
    go_wp2
    go_ret
    exact ⟨ret_int HR.out.symm,HB2.out⟩
end Go.Proofs.YtnhggfnnolfcdaaGreat

/- Chapter 4: a dart of round. -/
namespace Go.Proofs.YtnhggfnnolfcdaaGreat
open Go.RowKit Go.Oche Go.Proofs
def DartPost (t pb : Nat) (r : Rul) (cap : Nat) (wv nv : Value) (w : World) (d : Gam × List Int) (e : Ending) (w' : World) : Prop :=
 ∃ v,e = .returned v ∧ Sl (WS t pb) w' v (ints d.2) ∧ TabAt w' t pb r d.1 cap wv nv ∧ Rel (TO t pb) w (TO t pb) w'
set_option maxRecDepth 100000 in
set_option maxHeartbeats 1000000 in
theorem targets_any (r : Rul) (nv : Value) (w : World) (hl : 0 ≤ r.last ∧ r.last ≤ 20) :
  Calls Tryz.prog 102 #[.agg (rulA r nv)] w fun e w' => e = .returned (.int .i64 (targetsR r)) ∧ Below w.heap.size w w':=by
 unfold rulA targetsR
 cases hb : r.bull
 ·go_enter Tryz.func102,Tryz.ntmps102
  go_wp2
  go_ret
  exact ⟨by simp,aB _ _⟩
 ·go_enter Tryz.func102,Tryz.ntmps102
  go_wp2
  go_ret
  exact ⟨by simp,aB _ _⟩
theorem targets_r (r : Rul) (nv : Value) (L T : Int) (hL : Hid (r.last = L)) (hT : Hid (targetsR r = T)) (w : World) (hl : 1 ≤ L ∧ L ≤ 20) :
  Calls Tryz.prog 102 #[.agg #[.int .i64 r.kind,.int .i64 r.players,.int .i64 L,.bool r.bull,.bool r.jump,.int .i64 r.rounds,.bool r.cut,nv,.int .i64 r.lives,.bool r.own]] w fun e w' => e = .returned (.int .i64 T) ∧ Below w.heap.size w w':=by
 rw [← hT.out,← hL.out]; exact targets_any r nv w (by rw [hL.out]; omega)
theorem TabAt.at_pts {w : World} {t pb cap : Nat} {r : Rul} {g : Gam} {wv nv : Value} (h : TabAt w t pb r g cap wv nv) {i : Nat} {x : Int} (hp : i < g.pls.length ∧ (plr g i).pts = x) : w.cell? ⟨pb,i * 9,none⟩ = some (.int .i64 x):=by
 rw [← hp.2,← plr_at hp.1]; exact h.pls.pts hp.1
set_option maxRecDepth 100000 in
set_option maxHeartbeats 4000000 in
theorem dart1_any (t pb cap : Nat) (r : Rul) (g : Gam) (wv nv : Value) (f n M : Int) (w : World) (h : TabAt w t pb r g cap wv nv) (hi : Run r M g) (k : r.kind = 1) (hM : M ≤ 1000000) (hf : 0 ≤ f ∧ f ≤ 4) :
  Calls Tryz.prog 100 #[.agg (rulA r nv),.pointer (some ⟨t,0,none⟩),.agg #[.int .i64 f,.int .i64 n]] w (DartPost t pb r cap wv nv w (dartRound r g f n)):=by
 have hc:=ok1 hi.ok k
 have hme:=hi.each _ (plr_mem hi.pl)
 obtain ⟨P,hP⟩ : ∃ P,(plr g g.player).pts = P:=⟨_,rfl⟩
 obtain ⟨L,hL⟩ : ∃ L,r.last = L:=⟨_,rfl⟩
 obtain ⟨TT,hTT⟩ : ∃ T,targetsR r = T:=⟨_,rfl⟩
 have hPb : 0 ≤ P ∧ P ≤ 1000000:=by have:=hme.1.nn; have:=hme.2; omega
 have hLb : 1 ≤ L ∧ L ≤ 20:=by omega
 have hTb : L ≤ TT ∧ TT ≤ L + 1:=by rw [← hTT,← hL]; unfold targetsR; split <;> omega
 obtain ⟨d,hd⟩ : ∃ d,dartRound r g f n = d:=⟨_,rfl⟩
 have HD:=Lib.hid hd
 rw [hd]
 clear hd
 unfold rulA
 obtain ⟨w0,hw0⟩ : ∃ w0,(w.alloc (.cells #[.int .i64 r.kind,.int .i64 r.players,.int .i64 r.last,.bool r.bull,.bool r.jump,.int .i64 r.rounds,.bool r.cut,nv,.int .i64 r.lives,.bool r.own] 110)).alloc (.cells #[.int .i64 f,.int .i64 n] 61) = w0:=⟨_,rfl⟩
 have hb0 : Below w.heap.size w w0:=by rw [← hw0]; exact (aB _ _).alloc (by simp) _
 obtain ⟨q,hq⟩ : ∃ q,w.heap.size = q:=⟨_,rfl⟩
 have k0 : w0.heap[q]? = some (.cells #[.int .i64 r.kind,.int .i64 r.players,.int .i64 L,.bool r.bull,.bool r.jump,.int .i64 r.rounds,.bool r.cut,nv,.int .i64 r.lives,.bool r.own] 110 (0,0)):=by rw [← hw0,← hq,← hL]; exact heap_old (World.alloc_heap_new _ _)
 have k1 : w0.heap[q + 1]? = some (.cells #[.int .i64 f,.int .i64 n] 61 (0,0)):=by rw [← hw0,← hq]; exact heap_two _ _ _
 have HT:=Lib.hid (h.below hb0)
 have HB0:=Lib.hid hb0
 have HW0:=Lib.hid hw0
 have HP:=Lib.hid hP
 have HL:=Lib.hid hL
 have HTT:=Lib.hid hTT
 have HPL:=Lib.hid hi.pl
 have HLB:=Lib.hid hLb
 have HH:=Lib.hid h
 have K0:=Lib.hid k0
 have K1:=Lib.hid k1
 have HQ:=Lib.hid hq
 clear hb0 hw0 k0 k1 hq hP hL hTT h hi hme hc k
 go_enter Tryz.func100,Tryz.ntmps100
 go_wp2_with fail
 rw [HW0.out,HQ.out]
 refine wp_region_seq 14 [.is (.pointer (some ⟨t,0,none⟩)),.is (.pointer (some ⟨pb,g.player * 9,none⟩)),.is (.pointer (some ⟨t,0,none⟩)),.is (.pointer (some ⟨pb,g.player * 9,none⟩)),.is (.pointer (some ⟨pb,g.player * 9,none⟩)),.is (.pointer (some ⟨pb,g.player * 9,none⟩)),.is (.int .i64 P),.is (.int .i64 (P + 1)),.is (.pointer (some ⟨q,0,none⟩)),.is (.pointer (some ⟨q,2,none⟩)),.is (.int .i64 L),.is (.pointer (some ⟨pb,g.player * 9,none⟩)),.is (.int .i64 (P + 1)),.is (.int .i64 L)] rfl mix (by kernel_rfl) (by kernel_rfl) ?seqm
 case seqm =>
  simp only [List.take_succ_cons,List.take_zero]
  refine seq_on (by rfl) (fun w3 hb3 _ => ?_) ?_
  ·have hwP : IntKind.i64.wrap (P + 1) = P + 1:=wrap_small _ (by omega) (by omega)
   have ht:=HT.out.below hb3
   have c0 : ∀ j,w3.cell? ⟨q,j,none⟩ = _:=fun j => cell_of_heap (o:=j) ((hb3.block _ (Array.getElem?_eq_some_iff.1 K0.out).1).trans K0.out)
   have c1 : ∀ j,w3.cell? ⟨q + 1,j,none⟩ = _:=fun j => cell_of_heap (o:=j) ((hb3.block _ (Array.getElem?_eq_some_iff.1 K1.out).1).trans K1.out)
   have p0 : w3.cell? ⟨pb,g.player * 9,none⟩ = some (.int .i64 P):=by rw [← HP.out,← plr_at HPL.out]; exact ht.pls.pts HPL.out
   simp [opOK,go_sem,Below.refl]
   try exact rfl
  simp only [Act.put,List.setIfInBounds_toArray,List.set_cons_succ,List.set_cons_zero]
  refine seq_on (by rfl) (fun w3 hb3 hH => ?_) ?_
  ·have hwP : IntKind.i64.wrap (P + 1) = P + 1:=wrap_small _ (by omega) (by omega)
   have ht:=HT.out.below hb3
   have c0 : ∀ j,w3.cell? ⟨q,j,none⟩ = _:=fun j => cell_of_heap (o:=j) ((hb3.block _ (Array.getElem?_eq_some_iff.1 K0.out).1).trans K0.out)
   have c1 : ∀ j,w3.cell? ⟨q + 1,j,none⟩ = _:=fun j => cell_of_heap (o:=j) ((hb3.block _ (Array.getElem?_eq_some_iff.1 K1.out).1).trans K1.out)
   have p0 : w3.cell? ⟨pb,g.player * 9,none⟩ = some (.int .i64 P):=by rw [← HP.out,← plr_at HPL.out]; exact ht.pls.pts HPL.out
   refine opOK_call (f:=104) (args:=#[.pointer (some ⟨t,0,none⟩)]) (by simp [go_sem]) ?_
   exact (now_any t pb cap r g wv nv w3 ht HPL.out).mono fun e W' ⟨he,hb⟩ => ⟨_,he,rfl,by obtain ⟨nd,hb⟩ := hb; rw [hb]; exact bDrew _ _⟩
  simp only [Act.put,List.setIfInBounds_toArray,List.set_cons_succ,List.set_cons_zero]
  refine seq_on (by rfl) (fun w3 hb3 _ => ?_) ?_
  ·have hwP : IntKind.i64.wrap (P + 1) = P + 1:=wrap_small _ (by omega) (by omega)
   have ht:=HT.out.below hb3
   have c0 : ∀ j,w3.cell? ⟨q,j,none⟩ = _:=fun j => cell_of_heap (o:=j) ((hb3.block _ (Array.getElem?_eq_some_iff.1 K0.out).1).trans K0.out)
   have c1 : ∀ j,w3.cell? ⟨q + 1,j,none⟩ = _:=fun j => cell_of_heap (o:=j) ((hb3.block _ (Array.getElem?_eq_some_iff.1 K1.out).1).trans K1.out)
   have p0 : w3.cell? ⟨pb,g.player * 9,none⟩ = some (.int .i64 P):=by rw [← HP.out,← plr_at HPL.out]; exact ht.pls.pts HPL.out
   simp [opOK,go_sem,Below.refl]
   try exact rfl
  simp only [Act.put,List.setIfInBounds_toArray,List.set_cons_succ,List.set_cons_zero]
  refine seq_on (by rfl) (fun w3 hb3 hH => ?_) ?_
  ·have hwP : IntKind.i64.wrap (P + 1) = P + 1:=wrap_small _ (by omega) (by omega)
   have ht:=HT.out.below hb3
   have c0 : ∀ j,w3.cell? ⟨q,j,none⟩ = _:=fun j => cell_of_heap (o:=j) ((hb3.block _ (Array.getElem?_eq_some_iff.1 K0.out).1).trans K0.out)
   have c1 : ∀ j,w3.cell? ⟨q + 1,j,none⟩ = _:=fun j => cell_of_heap (o:=j) ((hb3.block _ (Array.getElem?_eq_some_iff.1 K1.out).1).trans K1.out)
   have p0 : w3.cell? ⟨pb,g.player * 9,none⟩ = some (.int .i64 P):=by rw [← HP.out,← plr_at HPL.out]; exact ht.pls.pts HPL.out
   refine opOK_call (f:=104) (args:=#[.pointer (some ⟨t,0,none⟩)]) (by simp [go_sem]) ?_
   exact (now_any t pb cap r g wv nv w3 ht HPL.out).mono fun e W' ⟨he,hb⟩ => ⟨_,he,rfl,by obtain ⟨nd,hb⟩ := hb; rw [hb]; exact bDrew _ _⟩
  simp only [Act.put,List.setIfInBounds_toArray,List.set_cons_succ,List.set_cons_zero]
  iterate 10
   refine seq_on (by rfl) (fun w3 hb3 _ => ?_) ?_
   ·have hwP : IntKind.i64.wrap (P + 1) = P + 1:=wrap_small _ (by omega) (by omega)
    have ht:=HT.out.below hb3
    have c0 : ∀ j,w3.cell? ⟨q,j,none⟩ = _:=fun j => cell_of_heap (o:=j) ((hb3.block _ (Array.getElem?_eq_some_iff.1 K0.out).1).trans K0.out)
    have c1 : ∀ j,w3.cell? ⟨q + 1,j,none⟩ = _:=fun j => cell_of_heap (o:=j) ((hb3.block _ (Array.getElem?_eq_some_iff.1 K1.out).1).trans K1.out)
    have p0 : w3.cell? ⟨pb,g.player * 9,none⟩ = some (.int .i64 P):=by rw [← HP.out,← plr_at HPL.out]; exact ht.pls.pts HPL.out
    simp [opOK,go_sem,c0,p0,hwP,Below.refl]
    try exact rfl
   simp only [Act.put,List.setIfInBounds_toArray,List.set_cons_succ,List.set_cons_zero]
  refine seq_end fun w3 hb3 _ => ?_
  simp only [List.drop_succ_cons,List.drop_zero]
  have HB3:=Lib.hid (bThen HB0.out hb3)
  have HT3:=Lib.hid (HT.out.below hb3)
  have K3:=Lib.hid ((hb3.block _ (Array.getElem?_eq_some_iff.1 K0.out).1).trans K0.out)
  have k1:=(hb3.block _ (Array.getElem?_eq_some_iff.1 K1.out).1).trans K1.out
  have c00 : ∀ j,w3.cell? ⟨q,j,none⟩ = _:=fun j => cell_of_heap (o:=j) K3.out
  have c01:=c00 1
  have c02:=c00 2
  have c03:=c00 3
  have c04:=c00 4
  have c05:=c00 5
  have c06:=c00 6
  have c07:=c00 7
  have c08:=c00 8
  have c09:=c00 9
  replace c00:=c00 0
  simp at c00 c01 c02 c03 c04 c05 c06 c07 c08 c09
  have c10 : w3.cell? ⟨q + 1,0,none⟩ = some (.int .i64 f):=by rw [cell_of_heap k1]; rfl
  have c11 : w3.cell? ⟨q + 1,1,none⟩ = some (.int .i64 n):=by rw [cell_of_heap k1]; rfl
  have pp : w3.cell? ⟨pb,g.player * 9,none⟩ = some (.int .i64 P):=by rw [← HP.out,← plr_at HPL.out]; exact HT3.out.pls.pts HPL.out
  clear hb3 k1
  cases hgt : decide (L < P + 1)
  ·as_aux_lemma =>
    clear c01 c03 c05 c06 c07 c08 c09
    have fz:=HT3.out.pls.free (g.player * 9)
    cases hn : (n != (P + 1))
    ·have hne : n = (P + 1):=by simpa using hn
     cases hj : r.jump
     all_goals
      obtain ⟨Z,hZ⟩ : ∃ Z,min L (P + (if r.jump = true then f else 1)) = Z:=⟨_,rfl⟩
      have HD2 : Hid (d = (setP g g.player { plr g g.player with pts:=Z },if Z = TT then [(g.player : Int)] else [])):=Lib.hid (by
       rw [← HD.out]; unfold dartRound; dsimp only; rw [HP.out,HL.out,HTT.out,hgt]; simp only [Bool.false_eq_true,if_false]; rw [if_pos hne,hZ])
      have HNE:=Lib.hid hne
      rw [hj] at hZ
      simp only [Bool.false_eq_true,if_false,if_true] at hZ
      have HJ:=Lib.hid hj
      clear hne
      rw [HJ.out] at c04
      clear hj
      go_wp2_with fail
      obtain ⟨w4,hw4⟩ : ∃ w4,w3.setCell ⟨pb,g.player * 9,none⟩ (.int .i64 Z) = w4:=⟨_,rfl⟩
      have HT4:=Lib.hid (HT3.out.setPts HPL.out Z)
      rw [hw4] at HT4
      have K4:=Lib.hid ((Below.heap_setCell w3 ⟨pb,g.player * 9,none⟩ (.int .i64 Z) q (by have:=HH.out.lt pb (.inr rfl); have:=HQ.out; dsimp only; omega)).trans K3.out)
      rw [hw4] at K4
      have hr4 : Rel (TO t pb) w (TO t pb) w4:=by rw [← hw4]; exact (Rel.of_below HB3.out HH.out.lt).setCell (.inr rfl) _
      have HR4:=Lib.hid hr4
      have HP4 : Hid (g.player < (setP g g.player { plr g g.player with pts:=Z }).pls.length ∧ (plr (setP g g.player { plr g g.player with pts:=Z }) g.player).pts = Z):=Lib.hid ⟨by rw [setP_len]; exact HPL.out,by rw [plr_setP HPL.out,if_pos rfl]⟩
      have HW4:=Lib.hid hw4
      clear hr4 hw4 hZ c00 c02 c04 c10 c11 pp fz
      obtain ⟨zb,hzb⟩ : ∃ zb,(Z == TT) = zb:=⟨_,rfl⟩
      rw [HW4.out]
      refine wp_region_seq 7 [.is (.pointer (some ⟨pb,g.player * 9,none⟩)),.is (.pointer (some ⟨pb,g.player * 9,none⟩)),.is (.pointer (some ⟨pb,g.player * 9,none⟩)),.is (.int .i64 Z),.is (.agg #[.int .i64 r.kind,.int .i64 r.players,.int .i64 L,.bool r.bull,.bool r.jump,.int .i64 r.rounds,.bool r.cut,nv,.int .i64 r.lives,.bool r.own]),.is (.int .i64 TT),.is (.bool zb)] rfl mix (by kernel_rfl) (by kernel_rfl) ?seqm
      case seqm =>
       simp only [List.take_succ_cons,List.take_zero]
       iterate 5
        refine seq_on (by rfl) (fun w3 hb3 _ => ?_) ?_
        ·have ht:=HT4.out.below hb3
         have c0 : ∀ j,w3.cell? ⟨q,j,none⟩ = _:=fun j => cell_of_heap (o:=j) ((hb3.block _ (Array.getElem?_eq_some_iff.1 K4.out).1).trans K4.out)
         have p0 : w3.cell? ⟨pb,g.player * 9,none⟩ = some (.int .i64 Z):=ht.at_pts HP4.out
         simp [opOK,go_sem,c0,p0,Below.refl]
         try exact rfl
        simp only [Act.put,List.setIfInBounds_toArray,List.set_cons_succ,List.set_cons_zero]
       refine seq_on (by rfl) (fun w3 hb3 hH => ?_) ?_
       ·have ht:=HT4.out.below hb3
        have c0 : ∀ j,w3.cell? ⟨q,j,none⟩ = _:=fun j => cell_of_heap (o:=j) ((hb3.block _ (Array.getElem?_eq_some_iff.1 K4.out).1).trans K4.out)
        have p0 : w3.cell? ⟨pb,g.player * 9,none⟩ = some (.int .i64 Z):=ht.at_pts HP4.out
        refine opOK_call (f:=102) (args:=#[.agg #[.int .i64 r.kind,.int .i64 r.players,.int .i64 L,.bool r.bull,.bool r.jump,.int .i64 r.rounds,.bool r.cut,nv,.int .i64 r.lives,.bool r.own]]) (by simp [go_sem]) ?_
        exact (targets_r r nv L TT HL HTT w3 HLB.out).mono fun e W' ⟨he,hb⟩ => ⟨_,he,rfl,hb⟩
       simp only [Act.put,List.setIfInBounds_toArray,List.set_cons_succ,List.set_cons_zero]
       refine seq_on (by rfl) (fun w3 hb3 _ => ?_) ?_
       ·have ht:=HT4.out.below hb3
        have c0 : ∀ j,w3.cell? ⟨q,j,none⟩ = _:=fun j => cell_of_heap (o:=j) ((hb3.block _ (Array.getElem?_eq_some_iff.1 K4.out).1).trans K4.out)
        have p0 : w3.cell? ⟨pb,g.player * 9,none⟩ = some (.int .i64 Z):=ht.at_pts HP4.out
        simp [opOK,go_sem,hzb,Below.refl]
        try exact rfl
       simp only [Act.put,List.setIfInBounds_toArray,List.set_cons_succ,List.set_cons_zero]
       refine seq_end fun w3 hb3 _ => ?_
       simp only [List.drop_succ_cons,List.drop_zero]
       have HB4:=Lib.hid hb3
       have HT5:=Lib.hid (HT4.out.below hb3)
       have HR5:=Lib.hid (HR4.out.ext hb3)
       clear hb3
       have HZB:=Lib.hid hzb
       clear hzb
       have tp : w3.cell? ⟨t,1,none⟩ = some (.int .i64 g.player):=HT5.out.at_ rfl
       cases zb
       ·have HZ : Z ≠ TT:=by simpa using HZB.out
        have HD3:=Lib.hid (HD2.out.trans (by rw [if_neg HZ]))
        clear HZ
        go_wp2
        go_ret
        exact ⟨_,rfl,by rw [HD3.out]; exact Sl.nil _ _,by rw [HD3.out]; exact HT5.out,HR5.out⟩
       ·have HZ : Z = TT:=by simpa using HZB.out
        have HD3:=Lib.hid (HD2.out.trans (by rw [if_pos HZ]))
        clear HZ
        go_wp2
        go_ret
        refine ⟨_,rfl, ?_, ?_, ?_⟩
        ·rw [HD3.out]; exact Sl.new1 _ _ ⟨HT5.out.lt t (.inl rfl),by have:=HT5.out.lt pb (.inr rfl); omega⟩ 3 _
        ·rw [HD3.out]; exact HT5.out.below (aB _ _)
        ·exact HR5.out.ext (aB _ _)
    ·have hne : n ≠ (P + 1):=by simpa using hn
     have HD2 : Hid (d = (g,[])):=Lib.hid (by
       rw [← HD.out]; unfold dartRound; dsimp only; rw [HP.out,HL.out,hgt]; simp only [Bool.false_eq_true,if_false]; rw [if_neg hne])
     clear hne
     go_wp2
     go_ret
     exact ⟨_,rfl,by rw [HD2.out]; exact Sl.nil _ _,by rw [HD2.out]; exact HT3.out,Rel.of_below HB3.out HH.out.lt⟩
  ·as_aux_lemma =>
    go_wp2_with fail
    refine (targets_r r nv L TT HL HTT _ HLB.out).mono ?_
    rintro e w5 ⟨rfl,hb5⟩
    clear c01 c03 c05 c06 c07 c08 c09
    replace c00:=bAt hb5 c00
    replace c02:=bAt hb5 c02
    replace c04:=bAt hb5 c04
    replace c10:=bAt hb5 c10
    replace c11:=bAt hb5 c11
    replace pp:=bAt hb5 pp
    replace HB3:=Lib.hid (bThen HB3.out hb5)
    replace HT3:=Lib.hid (HT3.out.below hb5)
    replace K3:=Lib.hid ((hb5.block _ (Array.getElem?_eq_some_iff.1 K3.out).1).trans K3.out)
    clear hb5
    have fz:=HT3.out.pls.free (g.player * 9)
    cases hn : (n != 25)
    ·have hne : n = 25:=by simpa using hn
     cases hj : r.jump
     all_goals
      obtain ⟨Z,hZ⟩ : ∃ Z,min TT (P + (if r.jump = true then f else 1)) = Z:=⟨_,rfl⟩
      have HD2 : Hid (d = (setP g g.player { plr g g.player with pts:=Z },if Z = TT then [(g.player : Int)] else [])):=Lib.hid (by
       rw [← HD.out]; unfold dartRound; dsimp only; rw [HP.out,HL.out,HTT.out,hgt]; simp only [if_true]; rw [if_pos hne,hZ])
      have HNE:=Lib.hid hne
      rw [hj] at hZ
      simp only [Bool.false_eq_true,if_false,if_true] at hZ
      have HJ:=Lib.hid hj
      clear hne
      rw [HJ.out] at c04
      clear hj
      go_wp2_with fail
      obtain ⟨w4,hw4⟩ : ∃ w4,w5.setCell ⟨pb,g.player * 9,none⟩ (.int .i64 Z) = w4:=⟨_,rfl⟩
      have HT4:=Lib.hid (HT3.out.setPts HPL.out Z)
      rw [hw4] at HT4
      have K4:=Lib.hid ((Below.heap_setCell w5 ⟨pb,g.player * 9,none⟩ (.int .i64 Z) q (by have:=HH.out.lt pb (.inr rfl); have:=HQ.out; dsimp only; omega)).trans K3.out)
      rw [hw4] at K4
      have hr4 : Rel (TO t pb) w (TO t pb) w4:=by rw [← hw4]; exact (Rel.of_below HB3.out HH.out.lt).setCell (.inr rfl) _
      have HR4:=Lib.hid hr4
      have HP4 : Hid (g.player < (setP g g.player { plr g g.player with pts:=Z }).pls.length ∧ (plr (setP g g.player { plr g g.player with pts:=Z }) g.player).pts = Z):=Lib.hid ⟨by rw [setP_len]; exact HPL.out,by rw [plr_setP HPL.out,if_pos rfl]⟩
      have HW4:=Lib.hid hw4
      clear hr4 hw4 hZ c00 c02 c04 c10 c11 pp fz
      obtain ⟨zb,hzb⟩ : ∃ zb,(Z == TT) = zb:=⟨_,rfl⟩
      rw [HW4.out]
      refine wp_region_seq 7 [.is (.pointer (some ⟨pb,g.player * 9,none⟩)),.is (.pointer (some ⟨pb,g.player * 9,none⟩)),.is (.pointer (some ⟨pb,g.player * 9,none⟩)),.is (.int .i64 Z),.is (.agg #[.int .i64 r.kind,.int .i64 r.players,.int .i64 L,.bool r.bull,.bool r.jump,.int .i64 r.rounds,.bool r.cut,nv,.int .i64 r.lives,.bool r.own]),.is (.int .i64 TT),.is (.bool zb)] rfl mix (by kernel_rfl) (by kernel_rfl) ?seqm
      case seqm =>
       simp only [List.take_succ_cons,List.take_zero]
       iterate 5
        refine seq_on (by rfl) (fun w3 hb3 _ => ?_) ?_
        ·have ht:=HT4.out.below hb3
         have c0 : ∀ j,w3.cell? ⟨q,j,none⟩ = _:=fun j => cell_of_heap (o:=j) ((hb3.block _ (Array.getElem?_eq_some_iff.1 K4.out).1).trans K4.out)
         have p0 : w3.cell? ⟨pb,g.player * 9,none⟩ = some (.int .i64 Z):=ht.at_pts HP4.out
         simp [opOK,go_sem,c0,p0,Below.refl]
         try exact rfl
        simp only [Act.put,List.setIfInBounds_toArray,List.set_cons_succ,List.set_cons_zero]
       refine seq_on (by rfl) (fun w3 hb3 hH => ?_) ?_
       ·have ht:=HT4.out.below hb3
        have c0 : ∀ j,w3.cell? ⟨q,j,none⟩ = _:=fun j => cell_of_heap (o:=j) ((hb3.block _ (Array.getElem?_eq_some_iff.1 K4.out).1).trans K4.out)
        have p0 : w3.cell? ⟨pb,g.player * 9,none⟩ = some (.int .i64 Z):=ht.at_pts HP4.out
        refine opOK_call (f:=102) (args:=#[.agg #[.int .i64 r.kind,.int .i64 r.players,.int .i64 L,.bool r.bull,.bool r.jump,.int .i64 r.rounds,.bool r.cut,nv,.int .i64 r.lives,.bool r.own]]) (by simp [go_sem]) ?_
        exact (targets_r r nv L TT HL HTT w3 HLB.out).mono fun e W' ⟨he,hb⟩ => ⟨_,he,rfl,hb⟩
       simp only [Act.put,List.setIfInBounds_toArray,List.set_cons_succ,List.set_cons_zero]
       refine seq_on (by rfl) (fun w3 hb3 _ => ?_) ?_
       ·have ht:=HT4.out.below hb3
        have c0 : ∀ j,w3.cell? ⟨q,j,none⟩ = _:=fun j => cell_of_heap (o:=j) ((hb3.block _ (Array.getElem?_eq_some_iff.1 K4.out).1).trans K4.out)
        have p0 : w3.cell? ⟨pb,g.player * 9,none⟩ = some (.int .i64 Z):=ht.at_pts HP4.out
        simp [opOK,go_sem,hzb,Below.refl]
        try exact rfl
       simp only [Act.put,List.setIfInBounds_toArray,List.set_cons_succ,List.set_cons_zero]
       refine seq_end fun w3 hb3 _ => ?_
       simp only [List.drop_succ_cons,List.drop_zero]
       have HB4:=Lib.hid hb3
       have HT5:=Lib.hid (HT4.out.below hb3)
       have HR5:=Lib.hid (HR4.out.ext hb3)
       clear hb3
       have HZB:=Lib.hid hzb
       clear hzb
       have tp : w3.cell? ⟨t,1,none⟩ = some (.int .i64 g.player):=HT5.out.at_ rfl
       cases zb
       ·have HZ : Z ≠ TT:=by simpa using HZB.out
        have HD3:=Lib.hid (HD2.out.trans (by rw [if_neg HZ]))
        clear HZ
        go_wp2
        go_ret
        exact ⟨_,rfl,by rw [HD3.out]; exact Sl.nil _ _,by rw [HD3.out]; exact HT5.out,HR5.out⟩
       ·have HZ : Z = TT:=by simpa using HZB.out
        have HD3:=Lib.hid (HD2.out.trans (by rw [if_pos HZ]))
        clear HZ
        go_wp2
        go_ret
        refine ⟨_,rfl, ?_, ?_, ?_⟩
        ·rw [HD3.out]; exact Sl.new1 _ _ ⟨HT5.out.lt t (.inl rfl),by have:=HT5.out.lt pb (.inr rfl); omega⟩ 3 _
        ·rw [HD3.out]; exact HT5.out.below (aB _ _)
        ·exact HR5.out.ext (aB _ _)
    ·have hne : n ≠ 25:=by simpa using hn
     have HD2 : Hid (d = (g,[])):=Lib.hid (by
       rw [← HD.out]; unfold dartRound; dsimp only; rw [HP.out,HL.out,hgt]; simp only [if_true]; rw [if_neg hne])
     clear hne
     go_wp2
     go_ret
     exact ⟨_,rfl,by rw [HD2.out]; exact Sl.nil _ _,by rw [HD2.out]; exact HT3.out,Rel.of_below HB3.out HH.out.lt⟩
end Go.Proofs.YtnhggfnnolfcdaaGreat

/- Chapter 4: a dart of shanghai. -/
namespace Go.Proofs.YtnhggfnnolfcdaaGreat
open Go.RowKit Go.Oche Go.Proofs
theorem TabAt.setHit {w : World} {t pb cap : Nat} {r : Rul} {g : Gam} {wv nv : Value} (h : TabAt w t pb r g cap wv nv) (h5 : g.hit.length = 5) {f : Nat} (hf : f < 5) : TabAt (w.setCell ⟨t,16 + f,none⟩ (.bool true)) t pb r { g with hit:=g.hit.set f true } cap wv nv:=by
 refine h.setT ?_ rfl rfl
 obtain ⟨rd,pl,da,pls,win,hit⟩ := g
 match hit,h5 with
 | [a,b,c,d,e],_ =>
  obtain rfl | rfl | rfl | rfl | rfl : f = 0 ∨ f = 1 ∨ f = 2 ∨ f = 3 ∨ f = 4:=by omega
  all_goals rfl
set_option maxRecDepth 100000 in
set_option maxHeartbeats 4000000 in
theorem dart3_any (t pb cap : Nat) (r : Rul) (g : Gam) (wv nv : Value) (f n M : Int) (w : World) (h : TabAt w t pb r g cap wv nv) (hi : Run r M g) (k : r.kind = 3) (hM : M ≤ 1000000) (hb : okHit f n) :
  Calls Tryz.prog 121 #[.agg (rulA r nv),.pointer (some ⟨t,0,none⟩),.agg #[.int .i64 f,.int .i64 n]] w (DartPost t pb r cap wv nv w (dartShanghai g f n)):=by
 have hc:=ok3 hi.ok k
 have hme:=hi.each _ (plr_mem hi.pl)
 have hrd:=hi.rd (by omega)
 obtain ⟨P,hP⟩ : ∃ P,(plr g g.player).pts = P:=⟨_,rfl⟩
 have hPb : 0 ≤ P ∧ P ≤ 1000000:=by have:=hme.1.nn; have:=hme.2; omega
 have hrb : g.round < 20:=by omega
 obtain ⟨d,hd⟩ : ∃ d,dartShanghai g f n = d:=⟨_,rfl⟩
 have HD:=Lib.hid hd
 rw [hd]
 clear hd
 unfold rulA
 obtain ⟨w0,hw0⟩ : ∃ w0,(w.alloc (.cells #[.int .i64 r.kind,.int .i64 r.players,.int .i64 r.last,.bool r.bull,.bool r.jump,.int .i64 r.rounds,.bool r.cut,nv,.int .i64 r.lives,.bool r.own] 112)).alloc (.cells #[.int .i64 f,.int .i64 n] 61) = w0:=⟨_,rfl⟩
 have hb0 : Below w.heap.size w w0:=by rw [← hw0]; exact (aB _ _).alloc (by simp) _
 obtain ⟨q,hq⟩ : ∃ q,w.heap.size = q:=⟨_,rfl⟩
 have k1 : w0.heap[q + 1]? = some (.cells #[.int .i64 f,.int .i64 n] 61 (0,0)):=by rw [← hw0,← hq]; exact heap_two _ _ _
 have ht0:=h.below hb0
 have c10 : w0.cell? ⟨q + 1,0,none⟩ = some (.int .i64 f):=by rw [cell_of_heap k1]; rfl
 have c11 : w0.cell? ⟨q + 1,1,none⟩ = some (.int .i64 n):=by rw [cell_of_heap k1]; rfl
 have t0 : w0.cell? ⟨t,0,none⟩ = some (.int .i64 g.round):=ht0.at_ rfl
 obtain ⟨nb,hnb⟩ : ∃ nb,(n != (g.round : Int) + 1) = nb:=⟨_,rfl⟩
 have hqq : t < q ∧ pb < q:=by rw [← hq]; exact ⟨h.lt t (.inl rfl),h.lt pb (.inr rfl)⟩
 have hff:=hb.f
 have hnn:=hb.n
 have h0 : 0 ≤ f * n:=Int.mul_nonneg (by omega) (by omega)
 have h2 : f * n ≤ 4 * 25:=Int.mul_le_mul (by omega) (by omega) (by omega) (by omega)
 have HT:=Lib.hid ht0
 have HB0:=Lib.hid hb0
 have HW0:=Lib.hid hw0
 have HPP:=Lib.hid (And.intro hi.pl hP)
 have HH:=Lib.hid h
 have H5:=Lib.hid hi.hit
 have K1:=Lib.hid k1
 have HQ:=Lib.hid hq
 have HNB:=Lib.hid hnb
 have HBH:=Lib.hid hb
 clear hb0 hw0 k1 hq hP h hi hme hc k ht0 hrd hb
 go_enter Tryz.func121,Tryz.ntmps121
 go_wp2_with fail
 rw [HW0.out,HQ.out]
 refine wp_region_seq 9 [.is (.pointer (some ⟨q + 1,1,none⟩)),.is (.int .i64 n),.is (.pointer (some ⟨t,0,none⟩)),.is (.pointer (some ⟨t,0,none⟩)),.is (.pointer (some ⟨t,0,none⟩)),.is (.pointer (some ⟨t,0,none⟩)),.is (.int .i64 g.round),.is (.int .i64 (g.round + 1)),.is (.bool nb)] rfl mix (by kernel_rfl) (by kernel_rfl) ?seqm
 case seqm =>
  simp only [List.take_succ_cons,List.take_zero]
  iterate 9
   refine seq_on (by rfl) (fun w3 hb3 _ => ?_) ?_
   ·have c11':=bAt hb3 c11
    have t0':=bAt hb3 t0
    have hwr : IntKind.i64.wrap ((g.round : Int) + 1) = (g.round : Int) + 1:=wrap_small _ (by omega) (by omega)
    simp [opOK,go_sem,c11',t0',hwr,hnb,Below.refl]
    try exact rfl
   simp only [Act.put,List.setIfInBounds_toArray,List.set_cons_succ,List.set_cons_zero]
  refine seq_end fun w3 hb3 _ => ?_
  simp only [List.drop_succ_cons,List.drop_zero]
  have HB3:=Lib.hid (bThen HB0.out hb3)
  replace HT:=Lib.hid (HT.out.below hb3)
  replace K1:=Lib.hid ((hb3.block _ (Array.getElem?_eq_some_iff.1 K1.out).1).trans K1.out)
  clear hb3 hnb t0
  cases nb
  ·have hne : n = g.round + 1:=by simpa using HNB.out
   have hF : ∃ F : Nat,f = F ∧ 1 ≤ F ∧ F < 5:=⟨f.toNat,by omega,by rcases HBH.out with e | e | e <;> omega,by omega⟩
   obtain ⟨F,rfl,hF1,hF5⟩ := hF
   obtain ⟨prd,hfn⟩ : ∃ prd,(F : Int) * n = prd:=⟨_,rfl⟩
   rw [hfn] at h0 h2
   obtain ⟨Z,hZ⟩ : ∃ Z,P + prd = Z:=⟨_,rfl⟩
   have hfw : IntKind.i64.wrap ((F : Int) * n) = prd:=by rw [hfn]; exact wrap_small _ (by omega) (by omega)
   have hZw : IntKind.i64.wrap (P + prd) = Z:=by rw [hZ]; exact wrap_small _ (by omega) (by omega)
   have HFN:=Lib.hid hfn
   have HZ:=Lib.hid hZ
   have HNE:=Lib.hid hne
   have HG2 : Hid (d = ({ setP g g.player { plr g g.player with pts:=Z } with hit:=g.hit.set F true },if ((g.hit.set F true).getD 1 false && (g.hit.set F true).getD 2 false && (g.hit.set F true).getD 3 false) = true then [(g.player : Int)] else [])):=Lib.hid (by
    rw [← HD.out]; unfold dartShanghai; rw [if_pos hne]; dsimp only; rw [HPP.out.2,hfn,hZ,show ((F : Nat) : Int).toNat = F by omega])
   clear hfn hZ hne
   go_wp2_with fail
   refine wp_region_seq 13 [.is (.pointer (some ⟨t,0,none⟩)),.is (.pointer (some ⟨pb,g.player * 9,none⟩)),.is (.pointer (some ⟨pb,g.player * 9,none⟩)),.is (.pointer (some ⟨pb,g.player * 9,none⟩)),.is (.int .i64 P),.is (.pointer (some ⟨q + 1,0,none⟩)),.is (.int .i64 F),.is (.pointer (some ⟨q + 1,1,none⟩)),.is (.int .i64 n),.is (.int .i64 prd),.is (.int .i64 Z),.is (.pointer (some ⟨pb,g.player * 9,none⟩)),.is (.pointer (some ⟨pb,g.player * 9,none⟩))] rfl mix (by kernel_rfl) (by kernel_rfl) ?seqm
   case seqm =>
    simp only [List.take_succ_cons,List.take_zero]
    refine seq_on (by rfl) (fun w3 hb3 _ => ?_) ?_
    ·have ht:=HT.out.below hb3
     have c1 : ∀ j,w3.cell? ⟨q + 1,j,none⟩ = _:=fun j => cell_of_heap (o:=j) ((hb3.block _ (Array.getElem?_eq_some_iff.1 K1.out).1).trans K1.out)
     have p0 : w3.cell? ⟨pb,g.player * 9,none⟩ = some (.int .i64 P):=ht.at_pts HPP.out
     simp [opOK,go_sem,Below.refl]
     try exact rfl
    simp only [Act.put,List.setIfInBounds_toArray,List.set_cons_succ,List.set_cons_zero]
    refine seq_on (by rfl) (fun w3 hb3 hH => ?_) ?_
    ·have ht:=HT.out.below hb3
     have c1 : ∀ j,w3.cell? ⟨q + 1,j,none⟩ = _:=fun j => cell_of_heap (o:=j) ((hb3.block _ (Array.getElem?_eq_some_iff.1 K1.out).1).trans K1.out)
     have p0 : w3.cell? ⟨pb,g.player * 9,none⟩ = some (.int .i64 P):=ht.at_pts HPP.out
     refine opOK_call (f:=104) (args:=#[.pointer (some ⟨t,0,none⟩)]) (by simp [go_sem]) ?_
     exact (now_any t pb cap r g wv nv w3 ht HPP.out.1).mono fun e W' ⟨he,hb⟩ => ⟨_,he,rfl,by obtain ⟨nd,hb⟩ := hb; rw [hb]; exact bDrew _ _⟩
    simp only [Act.put,List.setIfInBounds_toArray,List.set_cons_succ,List.set_cons_zero]
    iterate 11
     refine seq_on (by rfl) (fun w3 hb3 _ => ?_) ?_
     ·have ht:=HT.out.below hb3
      have c1 : ∀ j,w3.cell? ⟨q + 1,j,none⟩ = _:=fun j => cell_of_heap (o:=j) ((hb3.block _ (Array.getElem?_eq_some_iff.1 K1.out).1).trans K1.out)
      have p0 : w3.cell? ⟨pb,g.player * 9,none⟩ = some (.int .i64 P):=ht.at_pts HPP.out
      simp [opOK,go_sem,c1,p0,hfw,hZw,Below.refl]
      try exact rfl
     simp only [Act.put,List.setIfInBounds_toArray,List.set_cons_succ,List.set_cons_zero]
    refine seq_end fun w3 hb3 _ => ?_
    simp only [List.drop_succ_cons,List.drop_zero]
    have HB4:=Lib.hid (bThen HB3.out hb3)
    have HT4:=Lib.hid (HT.out.below hb3)
    have k4:=(hb3.block _ (Array.getElem?_eq_some_iff.1 K1.out).1).trans K1.out
    have fz:=HT4.out.pls.free (g.player * 9)
    have pp : w3.cell? ⟨pb,g.player * 9,none⟩ = some (.int .i64 P):=HT4.out.at_pts HPP.out
    clear hb3
    obtain ⟨w4,hw4⟩ : ∃ w4,w3.setCell ⟨pb,g.player * 9,none⟩ (.int .i64 Z) = w4:=⟨_,rfl⟩
    have HW4:=Lib.hid hw4
    have HT5:=Lib.hid (HT4.out.setPts HPP.out.1 Z)
    rw [hw4] at HT5
    have K4:=Lib.hid ((Below.heap_setCell w3 ⟨pb,g.player * 9,none⟩ (.int .i64 Z) (q + 1) (by dsimp only; omega)).trans k4)
    rw [hw4] at K4
    have hr4 : Rel (TO t pb) w (TO t pb) w4:=by rw [← hw4]; exact (Rel.of_below HB4.out HH.out.lt).setCell (.inr rfl) _
    have HR4:=Lib.hid hr4
    clear hr4 hw4 k4
    go_wp2_with fail
    rw [HW4.out]
    clear pp fz
    refine wp_region_seq 6 [.is (.pointer (some ⟨t,0,none⟩)),.is (.pointer (some ⟨q + 1,0,none⟩)),.is (.int .i64 F),.is (.pointer (some ⟨t,0,none⟩)),.is (.pointer (some ⟨t,16,none⟩)),.is (.pointer (some ⟨t,16 + F,none⟩))] rfl mix (by kernel_rfl) (by kernel_rfl) ?seqm
    case seqm =>
     simp only [List.take_succ_cons,List.take_zero]
     iterate 6
      refine seq_on (by rfl) (fun w3 hb3 _ => ?_) ?_
      ·have hlt5 : ((F : Nat) : Int) < 5:=by omega
       have c1 : ∀ j,w3.cell? ⟨q + 1,j,none⟩ = _:=fun j => cell_of_heap (o:=j) ((hb3.block _ (Array.getElem?_eq_some_iff.1 K4.out).1).trans K4.out)
       simp [opOK,go_sem,c1,hlt5,Below.refl]
       try exact rfl
      simp only [Act.put,List.setIfInBounds_toArray,List.set_cons_succ,List.set_cons_zero]
     refine seq_end fun w3 hb3 _ => ?_
     simp only [List.drop_succ_cons,List.drop_zero]
     have HT6:=Lib.hid (HT5.out.below hb3)
     have HR6:=Lib.hid (HR4.out.ext hb3)
     have tc : ∀ j v,(tabA r (setP g g.player { plr g g.player with pts:=Z }) (.slice (some ⟨pb,0,none⟩) (setP g g.player { plr g g.player with pts:=Z }).pls.length cap) wv nv)[j]? = some v → w3.cell? ⟨t,j,none⟩ = some v:=fun j v h => HT6.out.at_ h
     have tf : w3.cell? ⟨t,16 + F,none⟩ = some (.bool (hitB g F)):=tc _ _ (by
      obtain rfl | rfl | rfl | rfl : F = 1 ∨ F = 2 ∨ F = 3 ∨ F = 4:=by omega
      all_goals rfl)
     have fz:=HT6.out.free (16 + F)
     clear hb3 tc
     obtain ⟨w6,hw6⟩ : ∃ w6,w3.setCell ⟨t,16 + F,none⟩ (.bool true) = w6:=⟨_,rfl⟩
     have HW6:=Lib.hid hw6
     have HT7:=Lib.hid (HT6.out.setHit (by exact H5.out) hF5)
     rw [hw6] at HT7
     have hr7 : Rel (TO t pb) w (TO t pb) w6:=by rw [← hw6]; exact HR6.out.setCell (.inl rfl) _
     have HR7:=Lib.hid hr7
     clear hr7
     obtain ⟨b1,hb1⟩ : ∃ b,(g.hit.set F true).getD 1 false = b:=⟨_,rfl⟩
     obtain ⟨b2,hb2⟩ : ∃ b,(g.hit.set F true).getD 2 false = b:=⟨_,rfl⟩
     obtain ⟨b3,hb3⟩ : ∃ b,(g.hit.set F true).getD 3 false = b:=⟨_,rfl⟩
     have s1 : (w3.setCell ⟨t,16 + F,none⟩ (.bool true)).cell? ⟨t,17,none⟩ = some (.bool b1):=by rw [hw6,← hb1]; exact HT7.out.at_ rfl
     have s2 : (w3.setCell ⟨t,16 + F,none⟩ (.bool true)).cell? ⟨t,18,none⟩ = some (.bool b2):=by rw [hw6,← hb2]; exact HT7.out.at_ rfl
     have s3 : (w3.setCell ⟨t,16 + F,none⟩ (.bool true)).cell? ⟨t,19,none⟩ = some (.bool b3):=by rw [hw6,← hb3]; exact HT7.out.at_ rfl
     have s4 : (w3.setCell ⟨t,16 + F,none⟩ (.bool true)).cell? ⟨t,1,none⟩ = some (.int .i64 g.player):=by rw [hw6]; exact HT7.out.at_ rfl
     rw [hb1,hb2,hb3] at HG2
     clear hb1 hb2 hb3 hw6
     cases b1
     ·go_wp2
      go_ret
      exact ⟨_,rfl,by rw [HG2.out]; exact Sl.nil _ _,by rw [HG2.out,HW6.out]; exact HT7.out,by rw [HW6.out]; exact HR7.out⟩
     ·cases b2
      ·go_wp2
       go_ret
       exact ⟨_,rfl,by rw [HG2.out]; exact Sl.nil _ _,by rw [HG2.out,HW6.out]; exact HT7.out,by rw [HW6.out]; exact HR7.out⟩
      ·cases b3
       ·go_wp2
        go_ret
        exact ⟨_,rfl,by rw [HG2.out]; exact Sl.nil _ _,by rw [HG2.out,HW6.out]; exact HT7.out,by rw [HW6.out]; exact HR7.out⟩
       ·go_wp2
        go_ret
        rw [HW6.out]
        refine ⟨_,rfl, ?_, ?_, ?_⟩
        ·have hsz : w6.heap.size = w3.heap.size:=by rw [← HW6.out]; simp
         have hsl:=Sl.new1 (WS t pb) w6 ⟨HT7.out.lt t (.inl rfl),by have:=HT7.out.lt pb (.inr rfl); omega⟩ 3 (.int .i64 g.player)
         rw [hsz] at hsl
         rw [HG2.out]; exact hsl
        ·rw [HG2.out]; exact HT7.out.below (aB _ _)
        ·exact HR7.out.ext (aB _ _)
  ·have hne : n ≠ g.round + 1:=by simpa using HNB.out
   have HD2 : Hid (d = (g,[])):=Lib.hid (by rw [← HD.out]; unfold dartShanghai; rw [if_neg hne])
   clear hne
   go_wp2
   go_ret
   exact ⟨_,rfl,by rw [HD2.out]; exact Sl.nil _ _,by rw [HD2.out]; exact HT.out,Rel.of_below HB3.out HH.out.lt⟩
end Go.Proofs.YtnhggfnnolfcdaaGreat

/- Making slices of integers. -/
namespace Go.Proofs.YtnhggfnnolfcdaaGreat
open Go.RowKit Go.Oche Go.Proofs
theorem info3 : (Tryz.prog.info? 3).map (fun i => (i.zero,i.size,i.bytes)) = some (some (.int .i64 0),1,8):=by kernel_rfl
end Go.Proofs.YtnhggfnnolfcdaaGreat
