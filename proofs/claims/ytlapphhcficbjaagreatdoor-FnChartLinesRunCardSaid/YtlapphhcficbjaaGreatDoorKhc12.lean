/- Parts of the proof, laid as one text by a program of mine. -/
import Derived.Deep.RegionHeld3
import Derived.Test.YtlapphhcficbjaaGreatDoorKhc10
import Derived.Test.YtlapphhcficbjaaGreatDoorKhc11
import Derived.Test.YtlapphhcficbjaaGreatDoorKhc4
import Derived.Test.YtlapphhcficbjaaGreatDoorKhc5
namespace Go.Proofs.YtlapphhcficbjaaGreatDoor
set_option linter.unusedVariables false
set_option linter.unusedSimpArgs false
open Go.RowKit Go.Shelf Bits
open Go.Proofs.YtlapphhcficbjaaGreatDoorW.PrintWords Go.Proofs.YtlapphhcficbjaaGreatDoorW.PrintLast Go.Proofs.YtlapphhcficbjaaGreatDoorW.PrintMore
def running (M : Mach) : Int := ((elems (diff M.b M.o)).length : Nat)
def inOrder (log : List Ev) (k : Nat) : Bool := !(decide (0 < k) && decide ((rdEv log (k - 1)).f0 > (rdEv log k).f0))
def lastOf (log : List Ev) (k : Nat) : Bool := decide (k + 1 = log.length) || decide ((rdEv log (k + 1)).f0 > (rdEv log k).f0)
def replayN (g : List Tk) (ns : List Nat) (log : List Ev) : Nat → Option (Mach × Int)
 | 0 => some (Mach.zero, 0)
 | k + 1 => (replayN g ns log k).bind fun p => if inOrder log k = false then none else (stepM g ns p.1 (rdEv log k)).map fun M => (M, if lastOf log k then max p.2 (running M) else p.2)
def ReplayPost (g : List Tk) (ns : List Nat) (log : List Ev) (w : World) (e : Ending) (w' : World) : Prop :=
 match replayN g ns log log.length with
 | some p => ∃ h C, e = .returned (.tuple #[.pointer (some ⟨h, 0, none⟩), .int .i64 p.2, .bool true]) ∧ MAt h C p.1 w' ∧ IsGraph w' C g ns ∧ MInv p.1 ∧ Below w.heap.size w w'
 | none => e = .returned (.tuple #[.pointer none, .int .i64 0, .bool false]) ∧ Below w.heap.size w w'
theorem replayN_none {g : List Tk} {ns : List Nat} {log : List Ev} {k : Nat} (h : replayN g ns log k = none) : ∀ m, k ≤ m → replayN g ns log m = none := by
 intro m hm
 induction m with
 | zero =>
  have : k = 0 := by omega
  subst this; exact h
 | succ m ih =>
  rcases Nat.lt_or_ge m k with h1 | h1
  ·
   have : k = m + 1 := by omega
   subst this; exact h
  ·
   simp only [replayN, ih h1, Option.bind_none]
theorem ReplayPost.none {g : List Tk} {ns : List Nat} {log : List Ev} {w w' : World} {e : Ending} {k : Nat} (h : replayN g ns log k = .none) (hk : k ≤ log.length)
  (he : e = .returned (.tuple #[.pointer .none, .int .i64 0, .bool false])) (hB : Below w.heap.size w w') : ReplayPost g ns log w e w' := by
 unfold ReplayPost
 rw [replayN_none h _ hk]
 exact ⟨he, hB⟩
theorem replayN_order {g : List Tk} {ns : List Nat} {log : List Ev} {k : Nat} {p : Mach × Int} (h : replayN g ns log k = some p) (ho : inOrder log k = false) : replayN g ns log (k + 1) = .none := by
 simp only [replayN, h, Option.bind_some, if_pos ho]
theorem replayN_none1 {g : List Tk} {ns : List Nat} {log : List Ev} {k : Nat} {M : Mach} {most : Int} (h : replayN g ns log k = some (M, most)) (ho : inOrder log k = true) (hs : stepM g ns M (rdEv log k) = .none) :
  replayN g ns log (k + 1) = .none := by
 have ho' : ¬ (inOrder log k = false) := by rw [ho]; simp
 simp only [replayN, h, Option.bind_some, if_neg ho', hs, Option.map_none]
theorem replayN_some1 {g : List Tk} {ns : List Nat} {log : List Ev} {k : Nat} {M M' : Mach} {most : Int} (h : replayN g ns log k = some (M, most)) (ho : inOrder log k = true) (hs : stepM g ns M (rdEv log k) = some M') :
  replayN g ns log (k + 1) = some (M', if lastOf log k then max most (running M') else most) := by
 have ho' : ¬ (inOrder log k = false) := by rw [ho]; simp
 simp only [replayN, h, Option.bind_some, if_neg ho', hs, Option.map_some]
theorem max_run (M : Mach) (most : Int) : max most (running M) = if most < (((els (diff M.b M.o)).length : Nat) : Int) then (((els (diff M.b M.o)).length : Nat) : Int) else most := by
 have e : running M = (((els (diff M.b M.o)).length : Nat) : Int) := by unfold running els; rw [List.length_map]
 rw [e]
 split <;> omega
theorem max_bound {most : Int} (h : 0 ≤ most ∧ most ≤ 16) (M : Mach) : 0 ≤ max most (running M) ∧ max most (running M) ≤ 16 := by
 have := els_length (diff M.b M.o)
 have e : running M = (((els (diff M.b M.o)).length : Nat) : Int) := by unfold running els; rw [List.length_map]
 rw [e]
 omega
theorem MAt.made (w1 : World) (C : Nat) : MAt w1.heap.size C Mach.zero (w1.alloc (.cells #[.pointer (some ⟨C, 0, none⟩), .int .u16 0, .int .u16 0, .int .i64 0, .int .i64 0, .int .i64 0, .int .i64 0, .int .i64 0, .int .i64 0, .int .i64 0, .int .i64 0, .int .i64 0, .int .i64 0, .int .i64 0, .int .i64 0, .int .i64 0, .int .i64 0, .int .i64 0, .int .i64 0] 132)) := by
 refine ⟨by simp, by simp [Mach.zero], by simp [Mach.zero], fun i hi => ?_, fun i hi => ?_, fun j hj => World.frozen?_alloc_at _ _ _ _ rfl, by simp [Mach.zero], by simp [Mach.zero], by simp⟩
 ·
  rw [World.cell?_alloc_new]
  rcases i with _ | _ | _ | _ | _ | _ | _ | _ | i <;> first | rfl | omega
 ·
  rw [World.cell?_alloc_new]
  rcases i with _ | _ | _ | _ | _ | _ | _ | _ | i <;> first | rfl | omega
set_option maxRecDepth 100000 in
set_option maxHeartbeats 40000000 in
theorem replay_calls (A : Option Addr) (c : Nat) (g : List Tk) (A' : Option Addr) (c' : Nat) (log : List Ev) (w : World) (ns : List Nat) (hr : kTk.C w A g.length g) (hr' : kEv.C w A' log.length log) (hT : Tab w) (hg : graphN g = some ns)
  (hlen : log.length ≤ 16) (ht : ∀ i, 0 ≤ (rdTk g i).f0 ∧ (rdTk g i).f0 ≤ 20) (hx : ∀ i, ns.getD i 0 < 65536) :
  Calls Tryz.prog 46 #[.slice A g.length c, .slice A' log.length c'] w fun e w' => ReplayPost g ns log w e w' := by
 have hd16 : decide ((16 : Int) < (log.length : Int)) = false := decide_eq_false (by omega)
 have HR := Lib.hid hr
 have HR' := Lib.hid hr'
 have HT := Lib.hid hT
 have HG := Lib.hid hg
 have HTM := Lib.hid ht
 have HX := Lib.hid hx
 clear hr hr' hT hg ht hx
 go_enter Tryz.func46, Tryz.ntmps46
 go_wp2_with (go_at_call 49; refine (graphOf_yes _ _ _ _ _ HR.out HT.out HG.out).mono ?_; rintro e w1 ⟨C, rfl, hC, hB1⟩)
 have HA0 : Hid (MAt w1.heap.size C Mach.zero (w1.alloc (.cells #[.pointer (some ⟨C, 0, none⟩), .int .u16 0, .int .u16 0, .int .i64 0, .int .i64 0, .int .i64 0, .int .i64 0, .int .i64 0, .int .i64 0, .int .i64 0, .int .i64 0, .int .i64 0, .int .i64 0, .int .i64 0, .int .i64 0, .int .i64 0, .int .i64 0, .int .i64 0, .int .i64 0] 132))) := Lib.hid (MAt.made w1 C)
 have HGL : Hid (g.length ≤ 8) := Lib.hid (graphN_some HG.out).2.2.1
 have HNL : Hid (ns.length = g.length) := Lib.hid (graphN_some HG.out).2.2.2
 have HC := Lib.hid hC
 have HB1 := Lib.hid hB1
 have HR1 := Lib.hid (Kd.C_below HR'.out hB1)
 clear hC hB1
 go_loopw [10, 30] (fun m i wr => ∃ (k : Nat) (M : Mach) (most : Int), k ≤ log.length ∧ m = .int .i64 most ∧ i = .int .i64 k ∧ Hid (replayN g ns log k = some (M, most)) ∧ Hid (MInv M) ∧ Hid (0 ≤ most ∧ most ≤ 16) ∧ Hid (MAt w1.heap.size C M wr) ∧ Hid (Below w1.heap.size w1 wr)) (fun _ i _ => log.length - (intOf i).toNat)
 case atStart => exact ⟨0, Mach.zero, 0, Nat.zero_le _, rfl, rfl, Lib.hid rfl, Lib.hid MInv.zero, Lib.hid (by omega), HA0, Lib.hid ((Below.refl _ w1).alloc (Nat.le_refl _) _)⟩
 case round =>
  clear HA0
  obtain ⟨k, M, most, hk, rfl, rfl, HN, HI, HMo, HM, HB⟩ := hrel
  by_cases hlt : k < log.length
  ·
   rcases Nat.eq_zero_or_pos k with rfl | hkpos
   ·
    rw [Int.natCast_zero]
    have hlti : (0 : Int) < (log.length : Int) := by omega
    obtain ⟨ad, rfl, hx0, hx1, hx2⟩ : ∃ ad, A' = some ad ∧ wr.cell? ad = some (.int .i64 (rdEv log 0).f0) ∧ wr.cell? ⟨ad.block, ad.off + 1, none⟩ = some (.int .i64 (rdEv log 0).f1) ∧ wr.cell? ⟨ad.block, ad.off + 2, none⟩ = some (.bool (rdEv log 0).f2) := by
     obtain ⟨ad, e, x0, x1, x2⟩ := at_Ev (Kd.C_below HR1.out HB.out) 0 hlt
     simp at x0 x1 x2
     exact ⟨ad, e, x0, x1, x2⟩
    clear hlt hk
    go_wp2
    have HNEQ : Hid (w1.heap.size ≠ wr.heap.size) := Lib.hid (Nat.ne_of_lt HM.out.2.2.2.2.2.2.2.2)
    obtain ⟨w5, hw5⟩ : ∃ w5, w5 = wr.alloc (.cells #[.int .i64 (rdEv log 0).f0, .int .i64 (rdEv log 0).f1, .bool (rdEv log 0).f2] 75) := ⟨_, rfl⟩
    rw [← hw5]
    have hq5 : Below wr.heap.size wr w5 := by rw [hw5]; exact (Below.refl _ wr).alloc (Nat.le_refl _) _
    have HM5 : Hid (∀ n, MAt w1.heap.size C M (w5.drewN n)) := Lib.hid fun n => (HM.out.below hq5).below (pw_below_drewN (Below.refl _ w5) n)
    have HB5 : Hid (Below w1.heap.size w1 w5) := Lib.hid (HB.out.trans (hq5.mono HB.out.size))
    have HG5 : Hid (∀ n, IsGraph (w5.drewN n) C g ns) := Lib.hid fun n => (HC.out.below (HB5.out)).below (pw_below_drewN (Below.refl _ w5) n)
    have HS5 : Hid (w1.heap.size ≤ wr.heap.size ∧ wr.heap.size < w5.heap.size) := Lib.hid ⟨HB.out.size, by rw [hw5]; simp⟩
    have he0 : w5.cell? ⟨wr.heap.size, 0, none⟩ = some (.int .i64 (rdEv log 0).f0) := by rw [hw5]; simp
    have he1 : w5.cell? ⟨wr.heap.size, 1, none⟩ = some (.int .i64 (rdEv log 0).f1) := by rw [hw5]; simp
    have he2 : w5.cell? ⟨wr.heap.size, 2, none⟩ = some (.bool (rdEv log 0).f2) := by rw [hw5]; simp
    clear hw5 hq5 hx0 hx1 hx2
    have HIO : Hid (inOrder log 0 = true) := Lib.hid rfl
    cases hs : stepM g ns M (rdEv log 0) with
    | none =>
     have HF : Hid (replayN g ns log (0 + 1) = none) := Lib.hid (replayN_none1 HN.out HIO.out hs)
     have HS := Lib.hid hs
     clear hs HIO
     generalize rdEv log 0 = x at *
     (with_reducible refine wp_region_still_tail 16 mixed (by kernel_rfl) ?_; simp only [List.take_succ_cons, List.take_zero, List.drop_succ_cons, List.drop_zero]; repeat (with_reducible refine wpStill_step (fun K hK => ?_); go_simp; with_reducible refine hK _ ?_; clear hK K); try with_reducible refine wpStill_nil ?_)
     change wpList _ _ _ _ _ w5.drew
     go_wp2_with (go_at_call 86; refine (take_none C w1.heap.size g ns M x _ (HG5.out 1) HGL.out HNL.out (HM5.out 1) HI.out HTM.out HX.out HS.out).mono ?_; rintro e w6 ⟨rfl, hB6⟩)
     go_ret3
     exact ReplayPost.none HF.out (by omega) rfl (HB1.out.trans ((HB5.out.drew.trans (hB6.mono HB5.out.size)).mono HB1.out.size))
    | some M' =>
     have HN1 : Hid (replayN g ns log (0 + 1) = some (M', if lastOf log 0 then max most (running M') else most)) := Lib.hid (replayN_some1 HN.out HIO.out hs)
     have HI1 := Lib.hid (HI.out.step hs)
     have HS := Lib.hid hs
     clear hs HIO
     generalize hxx : rdEv log 0 = x at *
     (with_reducible refine wp_region_still_tail 16 mixed (by kernel_rfl) ?_; simp only [List.take_succ_cons, List.take_zero, List.drop_succ_cons, List.drop_zero]; repeat (with_reducible refine wpStill_step (fun K hK => ?_); go_simp; with_reducible refine hK _ ?_; clear hK K); try with_reducible refine wpStill_nil ?_)
     change wpList _ _ _ _ _ w5.drew
     go_wp2_with (go_at_call 86; refine (take_some C w1.heap.size g ns M x _ (HG5.out 1) HGL.out HNL.out (HM5.out 1) HI.out HTM.out HX.out M' (Nat.lt_of_le_of_lt HS5.out.1 HS5.out.2) HS.out).mono ?_; rintro e w6 ⟨rfl, hM6, hB6, hO6⟩)
     have HM6 := Lib.hid hM6
     have HB6 : Hid (Below w1.heap.size w1 w6) := Lib.hid (HB5.out.drew.trans hB6)
     have hf0 : w6.cell? ⟨wr.heap.size, 0, none⟩ = some (.int .i64 x.f0) := by rw [hO6.cell _ HS5.out.2 (show wr.heap.size ≠ w1.heap.size from HNEQ.out.symm)]; exact he0
     have hwl : IntKind.i64.wrap ((log.length : Int) - 1) = (log.length : Int) - 1 := IntWalk.i64_in _ (by omega)
     clear he0 he1 he2 hM6 hB6 hO6 HM5 HB5 HG5 HM HB
     by_cases hla : 0 + 1 = log.length
     ·
      have hl1 : ((0 : Int) == (log.length : Int) - 1) = true := beq_iff_eq.2 (by omega)
      have HN2 : Hid (replayN g ns log (0 + 1) = some (M', max most (running M'))) := Lib.hid (by have := HN1.out; rwa [show lastOf log 0 = true by unfold lastOf; rw [decide_eq_true hla]; rfl, if_pos rfl] at this)
      clear hla HN1
      go_quiet (fail)
      clear hwl
      go_wp2
      generalize hw7 : w6.drewN _ = w7
      have HM7 : Hid (∀ W, Below w7.heap.size w7 W → MAt w1.heap.size C M' W) := Lib.hid fun W hW => MAt.below (by rw [← hw7]; exact HM6.out.below (pw_below_drewN (Below.refl _ w6) _)) hW
      have HB7 : Hid (Below w1.heap.size w1 w7) := Lib.hid (by rw [← hw7]; exact pw_below_drewN HB6.out _)
      have hm := HM7.out _ (Below.refl _ w7)
      have hm1 := hm.2.1
      have hm2 := hm.2.2.1
      have hbd : bits BinOp.andNot IntKind.u16 (M'.b : Int) (M'.o : Int) = ((diff M'.b M'.o : Nat) : Int) := bits_andNot_u16 _ _ hm.2.2.2.2.2.2.1
      have HDL : Hid (diff M'.b M'.o < 65536) := Lib.hid (diff_lt (n := 16) hm.2.2.2.2.2.2.1)
      have HT7 : Hid (Tab w7) := Lib.hid (HT.out.keep HT.out.lt (HB1.out.trans (HB7.out.mono HB1.out.size)))
      have HMX : Hid (w1.heap.size < w7.heap.size) := Lib.hid hm.2.2.2.2.2.2.2.2
      clear hw7 hm hf0 HM6 HB6
      have HLK : Hid (∀ W, (W.cell? ⟨w1.heap.size, 1, none⟩ = some (.int .u16 M'.b) ∧ W.cell? ⟨w1.heap.size, 2, none⟩ = some (.int .u16 M'.o) ∧ Below w7.heap.size w7 W) → Calls Tryz.prog 29 #[.int .u16 (diff M'.b M'.o : Nat)] W fun e w' =>
        ∃ A9 c9, e = .returned (.slice A9 (els (diff M'.b M'.o)).length c9) ∧ w'.cell? ⟨w1.heap.size, 1, none⟩ = some (.int .u16 M'.b) ∧ w'.cell? ⟨w1.heap.size, 2, none⟩ = some (.int .u16 M'.o) ∧ Below w7.heap.size w7 w') := Lib.hid (by
       intro W ⟨_, _, hW⟩
       refine (list_calls (diff M'.b M'.o) HDL.out W (HT7.out.keep HT7.out.lt hW)).mono ?_
       rintro e w8 ⟨v, rfl, hR8, hB8⟩
       obtain ⟨A9, c9, rfl, hl9, hC9⟩ := Kd.R_reads hR8
       have hB9 : Below w7.heap.size w7 w8 := hW.trans (hB8.mono hW.size)
       exact ⟨A9, c9, rfl, (hB9.cell (p := ⟨w1.heap.size, 1, none⟩) HMX.out).trans hm1, (hB9.cell (p := ⟨w1.heap.size, 2, none⟩) HMX.out).trans hm2, hB9⟩)
      go_region_held3 (fun w' => w'.cell? ⟨w1.heap.size, 1, none⟩ = some (.int .u16 M'.b) ∧ w'.cell? ⟨w1.heap.size, 2, none⟩ = some (.int .u16 M'.o) ∧ Below w7.heap.size w7 w') (first | exact ⟨hm1, hm2, (Below.refl _ w7).drew⟩ | go_keep | (trace_state; fail))
       (first | (go_at_call 29; refine (HLK.out _ ?_).mono ?_; (first | assumption | (refine ⟨?_, ?_, ?_⟩ <;> assumption) | (trace_state; fail)); rintro e w8 ⟨A9, c9, rfl, hS1, hS2, hS3⟩))
      go_wp2
      go_roundw
      case rel => exact ⟨0 + 1, M', max most (running M'), by omega, by rw [max_run], by go_num, HN2, HI1, Lib.hid (max_bound HMo.out M'), Lib.hid (HM7.out _ hS3), Lib.hid (HB7.out.trans (hS3.mono (Nat.le_of_lt HMX.out)))⟩
      case measure => simp [intOf]; omega
     ·
      have hl1 : ((0 : Int) == (log.length : Int) - 1) = false := beq_eq_false_iff_ne.2 (by omega)
      have hln : 0 + 1 < log.length := by omega
      obtain ⟨z, hze, hz⟩ : ∃ z, z = (rdEv log (0 + 1)).f0 ∧ w6.cell? ⟨ad.block, ad.off + 3, none⟩ = some (.int .i64 z) := by
       obtain ⟨ad', e, hz0, _, _⟩ := at_Ev (Kd.C_below HR1.out HB6.out) (0 + 1) hln
       cases e
       exact ⟨_, rfl, (by simpa [Addr.add] using hz0)⟩
      have hwa : (1 : Int) < (log.length : Int) := by clear hwl; omega
      have hw8 : IntKind.i64.wrap 1 = 1 := IntWalk.i64_in _ (by clear hwl; omega)
      by_cases hzg : x.f0 < z
      ·
       have d3 : decide (x.f0 < z) = true := decide_eq_true hzg
       have HN2 : Hid (replayN g ns log (0 + 1) = some (M', max most (running M'))) := Lib.hid (by have := HN1.out; rwa [show lastOf log 0 = true by unfold lastOf; rw [hxx, ← hze, decide_eq_true (show z > x.f0 from hzg), Bool.or_true], if_pos rfl] at this)
       clear hla HN1 hze hzg
       go_quiet (fail)
       clear hwl hw8
       go_wp2
       generalize hw7 : w6.drewN _ = w7
       have HM7 : Hid (∀ W, Below w7.heap.size w7 W → MAt w1.heap.size C M' W) := Lib.hid fun W hW => MAt.below (by rw [← hw7]; exact HM6.out.below (pw_below_drewN (Below.refl _ w6) _)) hW
       have HB7 : Hid (Below w1.heap.size w1 w7) := Lib.hid (by rw [← hw7]; exact pw_below_drewN HB6.out _)
       have hm := HM7.out _ (Below.refl _ w7)
       have hm1 := hm.2.1
       have hm2 := hm.2.2.1
       have hbd : bits BinOp.andNot IntKind.u16 (M'.b : Int) (M'.o : Int) = ((diff M'.b M'.o : Nat) : Int) := bits_andNot_u16 _ _ hm.2.2.2.2.2.2.1
       have HDL : Hid (diff M'.b M'.o < 65536) := Lib.hid (diff_lt (n := 16) hm.2.2.2.2.2.2.1)
       have HT7 : Hid (Tab w7) := Lib.hid (HT.out.keep HT.out.lt (HB1.out.trans (HB7.out.mono HB1.out.size)))
       have HMX : Hid (w1.heap.size < w7.heap.size) := Lib.hid hm.2.2.2.2.2.2.2.2
       clear hw7 hm hf0 HM6 HB6
       have HLK : Hid (∀ W, (W.cell? ⟨w1.heap.size, 1, none⟩ = some (.int .u16 M'.b) ∧ W.cell? ⟨w1.heap.size, 2, none⟩ = some (.int .u16 M'.o) ∧ Below w7.heap.size w7 W) → Calls Tryz.prog 29 #[.int .u16 (diff M'.b M'.o : Nat)] W fun e w' =>
         ∃ A9 c9, e = .returned (.slice A9 (els (diff M'.b M'.o)).length c9) ∧ w'.cell? ⟨w1.heap.size, 1, none⟩ = some (.int .u16 M'.b) ∧ w'.cell? ⟨w1.heap.size, 2, none⟩ = some (.int .u16 M'.o) ∧ Below w7.heap.size w7 w') := Lib.hid (by
        intro W ⟨_, _, hW⟩
        refine (list_calls (diff M'.b M'.o) HDL.out W (HT7.out.keep HT7.out.lt hW)).mono ?_
        rintro e w8 ⟨v, rfl, hR8, hB8⟩
        obtain ⟨A9, c9, rfl, hl9, hC9⟩ := Kd.R_reads hR8
        have hB9 : Below w7.heap.size w7 w8 := hW.trans (hB8.mono hW.size)
        exact ⟨A9, c9, rfl, (hB9.cell (p := ⟨w1.heap.size, 1, none⟩) HMX.out).trans hm1, (hB9.cell (p := ⟨w1.heap.size, 2, none⟩) HMX.out).trans hm2, hB9⟩)
       go_region_held3 (fun w' => w'.cell? ⟨w1.heap.size, 1, none⟩ = some (.int .u16 M'.b) ∧ w'.cell? ⟨w1.heap.size, 2, none⟩ = some (.int .u16 M'.o) ∧ Below w7.heap.size w7 w') (first | exact ⟨hm1, hm2, (Below.refl _ w7).drew⟩ | go_keep | (trace_state; fail))
        (first | (go_at_call 29; refine (HLK.out _ ?_).mono ?_; (first | assumption | (refine ⟨?_, ?_, ?_⟩ <;> assumption) | (trace_state; fail)); rintro e w8 ⟨A9, c9, rfl, hS1, hS2, hS3⟩))
       go_wp2
       go_roundw
       case rel => exact ⟨0 + 1, M', max most (running M'), by omega, by rw [max_run], by go_num, HN2, HI1, Lib.hid (max_bound HMo.out M'), Lib.hid (HM7.out _ hS3), Lib.hid (HB7.out.trans (hS3.mono (Nat.le_of_lt HMX.out)))⟩
       case measure => simp [intOf]; omega
      ·
       have d3 : decide (x.f0 < z) = false := decide_eq_false hzg
       have HN2 : Hid (replayN g ns log (0 + 1) = some (M', most)) := Lib.hid (by have := HN1.out; rwa [show lastOf log 0 = false by unfold lastOf; rw [hxx, ← hze, decide_eq_false (show ¬ (z > x.f0) from hzg), decide_eq_false hla]; rfl, if_neg (by simp)] at this)
       clear hla HN1 hze hzg
       go_quiet (fail)
       clear hwl hw8
       go_wp2
       go_roundw
       case rel => exact ⟨0 + 1, M', most, by omega, rfl, by go_num, HN2, HI1, HMo, Lib.hid (HM6.out.below (pw_below_drewN (Below.refl _ w6) _)), Lib.hid (pw_below_drewN HB6.out _)⟩
       case measure => simp [intOf]; omega
   ·
    obtain ⟨ad, rfl, hx0, hx1, hx2⟩ := at_Ev (Kd.C_below HR1.out HB.out) k hlt
    go_wp2
    have HNEQ : Hid (w1.heap.size ≠ wr.heap.size) := Lib.hid (Nat.ne_of_lt HM.out.2.2.2.2.2.2.2.2)
    obtain ⟨w5, hw5⟩ : ∃ w5, w5 = wr.alloc (.cells #[.int .i64 (rdEv log k).f0, .int .i64 (rdEv log k).f1, .bool (rdEv log k).f2] 75) := ⟨_, rfl⟩
    rw [← hw5]
    have hq5 : Below wr.heap.size wr w5 := by rw [hw5]; exact (Below.refl _ wr).alloc (Nat.le_refl _) _
    have HM5 : Hid (∀ n, MAt w1.heap.size C M (w5.drewN n)) := Lib.hid fun n => (HM.out.below hq5).below (pw_below_drewN (Below.refl _ w5) n)
    have HB5 : Hid (Below w1.heap.size w1 w5) := Lib.hid (HB.out.trans (hq5.mono HB.out.size))
    have HG5 : Hid (∀ n, IsGraph (w5.drewN n) C g ns) := Lib.hid fun n => (HC.out.below (HB5.out)).below (pw_below_drewN (Below.refl _ w5) n)
    have HS5 : Hid (w1.heap.size ≤ wr.heap.size ∧ wr.heap.size < w5.heap.size) := Lib.hid ⟨HB.out.size, by rw [hw5]; simp⟩
    have he0 : w5.cell? ⟨wr.heap.size, 0, none⟩ = some (.int .i64 (rdEv log k).f0) := by rw [hw5]; simp
    have he1 : w5.cell? ⟨wr.heap.size, 1, none⟩ = some (.int .i64 (rdEv log k).f1) := by rw [hw5]; simp
    have he2 : w5.cell? ⟨wr.heap.size, 2, none⟩ = some (.bool (rdEv log k).f2) := by rw [hw5]; simp
    clear hw5 hq5 hx0 hx1 hx2
    obtain ⟨y, hye, hy⟩ : ∃ y, y = (rdEv log (k - 1)).f0 ∧ w5.cell? (ad.add ((k - 1) * 3)) = some (.int .i64 y) := by
     obtain ⟨ad', e, hy0, _, _⟩ := at_Ev (Kd.C_below HR1.out HB5.out) (k - 1) (by omega)
     cases e
     exact ⟨_, rfl, hy0⟩
    have hk0 : decide ((0 : Int) < (k : Int)) = true := decide_eq_true (by omega)
    have hw3 : (0 : Int) ≤ (k : Int) - 1 := by omega
    have hw4 : (1 : Int) ≤ (k : Int) := by omega
    have hw5 : (k : Int) - 1 < (log.length : Int) := by omega
    have hw2 : ((k : Int) - 1).toNat = k - 1 := by omega
    have hw1 : IntKind.i64.wrap ((k : Int) - 1) = (k : Int) - 1 := IntWalk.i64_in _ (by omega)
    by_cases hgt : (rdEv log k).f0 < y
    ·
     have d2 : decide ((rdEv log k).f0 < y) = true := decide_eq_true hgt
     have HF : Hid (replayN g ns log (k + 1) = none) := Lib.hid (by
      have hio : inOrder log k = false := by unfold inOrder; rw [decide_eq_true hkpos, ← hye, decide_eq_true (show y > (rdEv log k).f0 from hgt)]; rfl
      exact replayN_order HN.out hio)
     clear hye hgt
     generalize rdEv log k = x at *
     go_quiet (fail)
     clear hw1 hw2
     go_wp2
     go_ret3
     exact ReplayPost.none HF.out (by omega) rfl (pw_below_drewN (HB1.out.trans (HB5.out.mono HB1.out.size)) _)
    ·
     have d2 : decide ((rdEv log k).f0 < y) = false := decide_eq_false hgt
     have HIO : Hid (inOrder log k = true) := Lib.hid (by unfold inOrder; rw [← hye, decide_eq_false (show ¬ (y > (rdEv log k).f0) from hgt), Bool.and_false]; rfl)
     clear hye hgt
     cases hs : stepM g ns M (rdEv log k) with
     | none =>
      have HF : Hid (replayN g ns log (k + 1) = none) := Lib.hid (replayN_none1 HN.out HIO.out hs)
      have HS := Lib.hid hs
      clear hs HIO
      generalize rdEv log k = x at *
      (with_reducible refine wp_region_still_tail 16 mixed (by kernel_rfl) ?_; simp only [List.take_succ_cons, List.take_zero, List.drop_succ_cons, List.drop_zero]; repeat (with_reducible refine wpStill_step (fun K hK => ?_); go_simp; with_reducible refine hK _ ?_; clear hK K); try with_reducible refine wpStill_nil ?_)
      clear hw1 hw2
      change wpList _ _ _ _ _ w5.drew
      go_wp2_with (go_at_call 86; refine (take_none C w1.heap.size g ns M x _ (HG5.out 1) HGL.out HNL.out (HM5.out 1) HI.out HTM.out HX.out HS.out).mono ?_; rintro e w6 ⟨rfl, hB6⟩)
      go_ret3
      exact ReplayPost.none HF.out (by omega) rfl (HB1.out.trans ((HB5.out.drew.trans (hB6.mono HB5.out.size)).mono HB1.out.size))
     | some M' =>
      have HN1 : Hid (replayN g ns log (k + 1) = some (M', if lastOf log k then max most (running M') else most)) := Lib.hid (replayN_some1 HN.out HIO.out hs)
      have HI1 := Lib.hid (HI.out.step hs)
      have HS := Lib.hid hs
      clear hs HIO
      generalize hxx : rdEv log k = x at *
      (with_reducible refine wp_region_still_tail 16 mixed (by kernel_rfl) ?_; simp only [List.take_succ_cons, List.take_zero, List.drop_succ_cons, List.drop_zero]; repeat (with_reducible refine wpStill_step (fun K hK => ?_); go_simp; with_reducible refine hK _ ?_; clear hK K); try with_reducible refine wpStill_nil ?_)
      clear hw1 hw2
      change wpList _ _ _ _ _ w5.drew
      go_wp2_with (go_at_call 86; refine (take_some C w1.heap.size g ns M x _ (HG5.out 1) HGL.out HNL.out (HM5.out 1) HI.out HTM.out HX.out M' (Nat.lt_of_le_of_lt HS5.out.1 HS5.out.2) HS.out).mono ?_; rintro e w6 ⟨rfl, hM6, hB6, hO6⟩)
      have HM6 := Lib.hid hM6
      have HB6 : Hid (Below w1.heap.size w1 w6) := Lib.hid (HB5.out.drew.trans hB6)
      have hf0 : w6.cell? ⟨wr.heap.size, 0, none⟩ = some (.int .i64 x.f0) := by rw [hO6.cell _ HS5.out.2 (show wr.heap.size ≠ w1.heap.size from HNEQ.out.symm)]; exact he0
      have hwl : IntKind.i64.wrap ((log.length : Int) - 1) = (log.length : Int) - 1 := IntWalk.i64_in _ (by omega)
      clear he0 he1 he2 hM6 hB6 hO6 HM5 HB5 HG5 HM HB
      by_cases hla : k + 1 = log.length
      ·
       have hl1 : (((k : Nat) : Int) == (log.length : Int) - 1) = true := beq_iff_eq.2 (by omega)
       have HN2 : Hid (replayN g ns log (k + 1) = some (M', max most (running M'))) := Lib.hid (by have := HN1.out; rwa [show lastOf log k = true by unfold lastOf; rw [decide_eq_true hla]; rfl, if_pos rfl] at this)
       clear hla HN1
       go_quiet (fail)
       clear hwl
       go_wp2
       generalize hw7 : w6.drewN _ = w7
       have HM7 : Hid (∀ W, Below w7.heap.size w7 W → MAt w1.heap.size C M' W) := Lib.hid fun W hW => MAt.below (by rw [← hw7]; exact HM6.out.below (pw_below_drewN (Below.refl _ w6) _)) hW
       have HB7 : Hid (Below w1.heap.size w1 w7) := Lib.hid (by rw [← hw7]; exact pw_below_drewN HB6.out _)
       have hm := HM7.out _ (Below.refl _ w7)
       have hm1 := hm.2.1
       have hm2 := hm.2.2.1
       have hbd : bits BinOp.andNot IntKind.u16 (M'.b : Int) (M'.o : Int) = ((diff M'.b M'.o : Nat) : Int) := bits_andNot_u16 _ _ hm.2.2.2.2.2.2.1
       have HDL : Hid (diff M'.b M'.o < 65536) := Lib.hid (diff_lt (n := 16) hm.2.2.2.2.2.2.1)
       have HT7 : Hid (Tab w7) := Lib.hid (HT.out.keep HT.out.lt (HB1.out.trans (HB7.out.mono HB1.out.size)))
       have HMX : Hid (w1.heap.size < w7.heap.size) := Lib.hid hm.2.2.2.2.2.2.2.2
       clear hw7 hm hf0 HM6 HB6
       have HLK : Hid (∀ W, (W.cell? ⟨w1.heap.size, 1, none⟩ = some (.int .u16 M'.b) ∧ W.cell? ⟨w1.heap.size, 2, none⟩ = some (.int .u16 M'.o) ∧ Below w7.heap.size w7 W) → Calls Tryz.prog 29 #[.int .u16 (diff M'.b M'.o : Nat)] W fun e w' =>
         ∃ A9 c9, e = .returned (.slice A9 (els (diff M'.b M'.o)).length c9) ∧ w'.cell? ⟨w1.heap.size, 1, none⟩ = some (.int .u16 M'.b) ∧ w'.cell? ⟨w1.heap.size, 2, none⟩ = some (.int .u16 M'.o) ∧ Below w7.heap.size w7 w') := Lib.hid (by
        intro W ⟨_, _, hW⟩
        refine (list_calls (diff M'.b M'.o) HDL.out W (HT7.out.keep HT7.out.lt hW)).mono ?_
        rintro e w8 ⟨v, rfl, hR8, hB8⟩
        obtain ⟨A9, c9, rfl, hl9, hC9⟩ := Kd.R_reads hR8
        have hB9 : Below w7.heap.size w7 w8 := hW.trans (hB8.mono hW.size)
        exact ⟨A9, c9, rfl, (hB9.cell (p := ⟨w1.heap.size, 1, none⟩) HMX.out).trans hm1, (hB9.cell (p := ⟨w1.heap.size, 2, none⟩) HMX.out).trans hm2, hB9⟩)
       go_region_held3 (fun w' => w'.cell? ⟨w1.heap.size, 1, none⟩ = some (.int .u16 M'.b) ∧ w'.cell? ⟨w1.heap.size, 2, none⟩ = some (.int .u16 M'.o) ∧ Below w7.heap.size w7 w') (first | exact ⟨hm1, hm2, (Below.refl _ w7).drew⟩ | go_keep | (trace_state; fail))
        (first | (go_at_call 29; refine (HLK.out _ ?_).mono ?_; (first | assumption | (refine ⟨?_, ?_, ?_⟩ <;> assumption) | (trace_state; fail)); rintro e w8 ⟨A9, c9, rfl, hS1, hS2, hS3⟩))
       go_wp2
       go_roundw
       case rel => exact ⟨k + 1, M', max most (running M'), by omega, by rw [max_run], by go_num, HN2, HI1, Lib.hid (max_bound HMo.out M'), Lib.hid (HM7.out _ hS3), Lib.hid (HB7.out.trans (hS3.mono (Nat.le_of_lt HMX.out)))⟩
       case measure => simp [intOf]; omega
      ·
       have hl1 : (((k : Nat) : Int) == (log.length : Int) - 1) = false := beq_eq_false_iff_ne.2 (by omega)
       have hln : k + 1 < log.length := by omega
       obtain ⟨z, hze, hz⟩ : ∃ z, z = (rdEv log (k + 1)).f0 ∧ w6.cell? (ad.add ((k + 1) * 3)) = some (.int .i64 z) := by
        obtain ⟨ad', e, hz0, _, _⟩ := at_Ev (Kd.C_below HR1.out HB6.out) (k + 1) hln
        cases e
        exact ⟨_, rfl, hz0⟩
       have hw8 : IntKind.i64.wrap ((k : Int) + 1) = (k : Int) + 1 := IntWalk.i64_in _ (by clear hwl; omega)
       have hw9 : ((k : Int) + 1).toNat = k + 1 := by clear hwl hw8; omega
       have hwa : (k : Int) + 1 < (log.length : Int) := by clear hwl hw8; omega
       have hwb : (0 : Int) ≤ (k : Int) + 1 := by clear hwl hw8; omega
       by_cases hzg : x.f0 < z
       ·
        have d3 : decide (x.f0 < z) = true := decide_eq_true hzg
        have HN2 : Hid (replayN g ns log (k + 1) = some (M', max most (running M'))) := Lib.hid (by have := HN1.out; rwa [show lastOf log k = true by unfold lastOf; rw [hxx, ← hze, decide_eq_true (show z > x.f0 from hzg), Bool.or_true], if_pos rfl] at this)
        clear hla HN1 hze hzg
        go_quiet (fail)
        clear hwl hw8 hw9
        go_wp2
        generalize hw7 : w6.drewN _ = w7
        have HM7 : Hid (∀ W, Below w7.heap.size w7 W → MAt w1.heap.size C M' W) := Lib.hid fun W hW => MAt.below (by rw [← hw7]; exact HM6.out.below (pw_below_drewN (Below.refl _ w6) _)) hW
        have HB7 : Hid (Below w1.heap.size w1 w7) := Lib.hid (by rw [← hw7]; exact pw_below_drewN HB6.out _)
        have hm := HM7.out _ (Below.refl _ w7)
        have hm1 := hm.2.1
        have hm2 := hm.2.2.1
        have hbd : bits BinOp.andNot IntKind.u16 (M'.b : Int) (M'.o : Int) = ((diff M'.b M'.o : Nat) : Int) := bits_andNot_u16 _ _ hm.2.2.2.2.2.2.1
        have HDL : Hid (diff M'.b M'.o < 65536) := Lib.hid (diff_lt (n := 16) hm.2.2.2.2.2.2.1)
        have HT7 : Hid (Tab w7) := Lib.hid (HT.out.keep HT.out.lt (HB1.out.trans (HB7.out.mono HB1.out.size)))
        have HMX : Hid (w1.heap.size < w7.heap.size) := Lib.hid hm.2.2.2.2.2.2.2.2
        clear hw7 hm hf0 HM6 HB6
        have HLK : Hid (∀ W, (W.cell? ⟨w1.heap.size, 1, none⟩ = some (.int .u16 M'.b) ∧ W.cell? ⟨w1.heap.size, 2, none⟩ = some (.int .u16 M'.o) ∧ Below w7.heap.size w7 W) → Calls Tryz.prog 29 #[.int .u16 (diff M'.b M'.o : Nat)] W fun e w' =>
          ∃ A9 c9, e = .returned (.slice A9 (els (diff M'.b M'.o)).length c9) ∧ w'.cell? ⟨w1.heap.size, 1, none⟩ = some (.int .u16 M'.b) ∧ w'.cell? ⟨w1.heap.size, 2, none⟩ = some (.int .u16 M'.o) ∧ Below w7.heap.size w7 w') := Lib.hid (by
         intro W ⟨_, _, hW⟩
         refine (list_calls (diff M'.b M'.o) HDL.out W (HT7.out.keep HT7.out.lt hW)).mono ?_
         rintro e w8 ⟨v, rfl, hR8, hB8⟩
         obtain ⟨A9, c9, rfl, hl9, hC9⟩ := Kd.R_reads hR8
         have hB9 : Below w7.heap.size w7 w8 := hW.trans (hB8.mono hW.size)
         exact ⟨A9, c9, rfl, (hB9.cell (p := ⟨w1.heap.size, 1, none⟩) HMX.out).trans hm1, (hB9.cell (p := ⟨w1.heap.size, 2, none⟩) HMX.out).trans hm2, hB9⟩)
        go_region_held3 (fun w' => w'.cell? ⟨w1.heap.size, 1, none⟩ = some (.int .u16 M'.b) ∧ w'.cell? ⟨w1.heap.size, 2, none⟩ = some (.int .u16 M'.o) ∧ Below w7.heap.size w7 w') (first | exact ⟨hm1, hm2, (Below.refl _ w7).drew⟩ | go_keep | (trace_state; fail))
         (first | (go_at_call 29; refine (HLK.out _ ?_).mono ?_; (first | assumption | (refine ⟨?_, ?_, ?_⟩ <;> assumption) | (trace_state; fail)); rintro e w8 ⟨A9, c9, rfl, hS1, hS2, hS3⟩))
        go_wp2
        go_roundw
        case rel => exact ⟨k + 1, M', max most (running M'), by omega, by rw [max_run], by go_num, HN2, HI1, Lib.hid (max_bound HMo.out M'), Lib.hid (HM7.out _ hS3), Lib.hid (HB7.out.trans (hS3.mono (Nat.le_of_lt HMX.out)))⟩
        case measure => simp [intOf]; omega
       ·
        have d3 : decide (x.f0 < z) = false := decide_eq_false hzg
        have HN2 : Hid (replayN g ns log (k + 1) = some (M', most)) := Lib.hid (by have := HN1.out; rwa [show lastOf log k = false by unfold lastOf; rw [hxx, ← hze, decide_eq_false (show ¬ (z > x.f0) from hzg), decide_eq_false hla]; rfl, if_neg (by simp)] at this)
        clear hla HN1 hze hzg
        go_quiet (fail)
        clear hwl hw8 hw9
        go_wp2
        go_roundw
        case rel => exact ⟨k + 1, M', most, by omega, rfl, by go_num, HN2, HI1, HMo, Lib.hid (HM6.out.below (pw_below_drewN (Below.refl _ w6) _)), Lib.hid (pw_below_drewN HB6.out _)⟩
        case measure => simp [intOf]; omega
  ·
   have hkl : k = log.length := by omega
   subst hkl
   go_wp2
   go_ret3
   unfold ReplayPost
   rw [HN.out]
   exact ⟨w1.heap.size, C, rfl, HM.out, HC.out.below HB.out, HI.out, HB1.out.trans (HB.out.mono HB1.out.size)⟩
end Go.Proofs.YtlapphhcficbjaaGreatDoor

namespace Go.Proofs.YtlapphhcficbjaaGreatDoor
set_option linter.unusedVariables false
set_option linter.unusedSimpArgs false
open Go.RowKit Go.Shelf Bits
open Go.Proofs.YtlapphhcficbjaaGreatDoorW.PrintWords Go.Proofs.YtlapphhcficbjaaGreatDoorW.PrintLast Go.Proofs.YtlapphhcficbjaaGreatDoorW.PrintMore
def replayB (g : List Tk) (log : List Ev) : Option (Mach × Int) :=
 (graphN g).bind fun ns => if log.length ≤ 16 then replayN g ns log log.length else none
set_option maxRecDepth 100000 in
set_option maxHeartbeats 8000000 in
theorem replay_nograph (A : Option Addr) (c : Nat) (g : List Tk) (A' : Option Addr) (c' : Nat) (log : List Ev) (w : World) (hr : kTk.C w A g.length g) (hg : graphN g = none) (hll : log.length ≤ 9223372036854775807) :
  Calls Tryz.prog 46 #[.slice A g.length c, .slice A' log.length c'] w fun e w' => e = .returned (.tuple #[.pointer none, .int .i64 0, .bool false]) ∧ Below w.heap.size w w' := by
 have HR := Lib.hid hr
 have HG := Lib.hid hg
 clear hr hg
 go_enter Tryz.func46, Tryz.ntmps46
 go_wp2_with (go_at_call 49; refine (graphOf_no _ _ _ _ HR.out HG.out).mono ?_; rintro e w1 ⟨rfl, hB1⟩)
 go_ret3
 exact ⟨rfl, hB1⟩
set_option maxRecDepth 100000 in
set_option maxHeartbeats 8000000 in
theorem replay_long (A : Option Addr) (c : Nat) (g : List Tk) (A' : Option Addr) (c' : Nat) (log : List Ev) (w : World) (ns : List Nat) (hr : kTk.C w A g.length g) (hT : Tab w) (hg : graphN g = some ns) (hlen : 16 < log.length) (hll : log.length ≤ 9223372036854775807) :
  Calls Tryz.prog 46 #[.slice A g.length c, .slice A' log.length c'] w fun e w' => e = .returned (.tuple #[.pointer none, .int .i64 0, .bool false]) ∧ Below w.heap.size w w' := by
 have hd16 : decide ((16 : Int) < (log.length : Int)) = true := decide_eq_true (by omega)
 have HR := Lib.hid hr
 have HT := Lib.hid hT
 have HG := Lib.hid hg
 clear hr hg hT
 go_enter Tryz.func46, Tryz.ntmps46
 go_wp2_with (go_at_call 49; refine (graphOf_yes _ _ _ _ _ HR.out HT.out HG.out).mono ?_; rintro e w1 ⟨C, rfl, hC, hB1⟩)
 go_ret3
 exact ⟨rfl, hB1⟩
def ReplayAll (g : List Tk) (log : List Ev) (w : World) (e : Ending) (w' : World) : Prop :=
 match replayB g log with
 | some p => ∃ h C ns, graphN g = some ns ∧ e = .returned (.tuple #[.pointer (some ⟨h, 0, none⟩), .int .i64 p.2, .bool true]) ∧ MAt h C p.1 w' ∧ IsGraph w' C g ns ∧ MInv p.1 ∧ Below w.heap.size w w'
 | none => e = .returned (.tuple #[.pointer none, .int .i64 0, .bool false]) ∧ Below w.heap.size w w'
theorem replay_all (A : Option Addr) (c : Nat) (g : List Tk) (A' : Option Addr) (c' : Nat) (log : List Ev) (w : World) (hr : kTk.C w A g.length g) (hr' : kEv.C w A' log.length log) (hT : Tab w) :
  Calls Tryz.prog 46 #[.slice A g.length c, .slice A' log.length c'] w fun e w' => ReplayAll g log w e w' := by
 have hll := (C_len hr').2
 cases hg : graphN g with
 | none =>
  refine (replay_nograph A c g A' c' log w hr hg hll).mono fun e w' h => ?_
  unfold ReplayAll replayB
  rw [hg]
  exact h
 | some ns =>
  by_cases hlen : log.length ≤ 16
  ·
   refine (replay_calls A c g A' c' log w ns hr hr' hT hg hlen (graphN_time hg) (graphN_need_u16 hg)).mono fun e w' h => ?_
   unfold ReplayPost at h
   unfold ReplayAll replayB
   rw [hg, Option.bind_some, if_pos hlen]
   split at h
   ·
    rename_i p hp
    try rw [hp]
    obtain ⟨m, C, h1, h2, h3, h4, h5⟩ := h
    exact ⟨m, C, ns, rfl, h1, h2, h3, h4, h5⟩
   ·
    rename_i hp
    try rw [hp]
    exact h
  ·
   refine (replay_long A c g A' c' log w ns hr hT hg (by omega) hll).mono fun e w' h => ?_
   unfold ReplayAll replayB
   rw [hg, Option.bind_some, if_neg hlen]
   exact h
set_option maxRecDepth 100000 in
theorem ValidLog_impl (A : Option Addr) (c : Nat) (g : List Tk) (A' : Option Addr) (c' : Nat) (log : List Ev) (w : World) (hr : kTk.C w A g.length g) (hr' : kEv.C w A' log.length log) (hT : Tab w) :
  Calls Tryz.prog 22 #[.slice A g.length c, .slice A' log.length c'] w fun e w' => e = .returned (.bool (replayB g log).isSome) ∧ Below w.heap.size w w' := by
 cases hb : replayB g log with
 | none =>
  have HP : Hid (Calls Tryz.prog 46 #[.slice A g.length c, .slice A' log.length c'] w fun e w' => e = .returned (.tuple #[.pointer none, .int .i64 0, .bool false]) ∧ Below w.heap.size w w') := Lib.hid ((replay_all A c g A' c' log w hr hr' hT).mono fun e w' h => by unfold ReplayAll at h; rw [hb] at h; exact h)
  clear hr hr' hT hb
  go_enter Tryz.func22, Tryz.ntmps22
  go_wp2_with (go_at_call 46; refine HP.out.mono ?_; rintro e w1 ⟨rfl, hB1⟩)
  go_ret
  exact ⟨rfl, hB1⟩
 | some p =>
  have HP : Hid (Calls Tryz.prog 46 #[.slice A g.length c, .slice A' log.length c'] w fun e w' => (∃ h, e = .returned (.tuple #[.pointer (some ⟨h, 0, none⟩), .int .i64 p.2, .bool true])) ∧ Below w.heap.size w w') := Lib.hid ((replay_all A c g A' c' log w hr hr' hT).mono fun e w' h => by
   unfold ReplayAll at h; rw [hb] at h
   obtain ⟨m, C, ns, _, h1, _, _, _, h5⟩ := h
   exact ⟨⟨m, h1⟩, h5⟩)
  clear hr hr' hT hb
  go_enter Tryz.func22, Tryz.ntmps22
  go_wp2_with (go_at_call 46; refine HP.out.mono ?_; rintro e w1 ⟨⟨m, rfl⟩, hB1⟩)
  go_ret
  exact ⟨rfl, hB1⟩
end Go.Proofs.YtlapphhcficbjaaGreatDoor

namespace Go.Proofs.YtlapphhcficbjaaGreatDoor
set_option linter.unusedVariables false
set_option linter.unusedSimpArgs false
open Go.RowKit Go.Shelf Bits
theorem setOfL_bits (n : Int) : ∀ (l : List Int) (last : Int) (s r : Nat), -1 ≤ last → setOfL n l last s = some r → ∀ j, r.testBit j = (s.testBit j || decide ((j : Int) ∈ l))
 | [], last, s, r, _, h, j => by
  simp only [setOfL, Option.some.injEq] at h
  subst h
  simp
 | i :: l, last, s, r, hl, h, j => by
  rw [setOfL_cons] at h
  split at h
  ·
   rename_i hc
   rw [setOfL_bits n l i _ r (by omega) h j, or_bit]
   have e : decide (i.toNat = j) = decide ((j : Int) = i) := decide_eq_decide.2 (by omega)
   rw [e]
   simp only [List.mem_cons, Bool.or_assoc, Bool.decide_or]
  ·
   cases h
theorem setOfN_bits {l : List Int} {n s : Nat} (h : setOfN l n = some s) (j : Nat) : s.testBit j = decide ((j : Int) ∈ l) := by
 rw [setOfL_bits n l _ _ _ (by omega) h j]
 simp
theorem setOfL_mem (n : Int) : ∀ (l : List Int) (last : Int) (s r : Nat), -1 ≤ last → setOfL n l last s = some r → ∀ x ∈ l, 0 ≤ x ∧ x ≤ n - 1
 | [], _, _, _, _, _, x, hx => by cases hx
 | i :: l, last, s, r, hl, h, x, hx => by
  rw [setOfL_cons] at h
  split at h
  ·
   rename_i hc
   rcases List.mem_cons.1 hx with rfl | hx
   ·
    omega
   ·
    exact setOfL_mem n l i _ r (by omega) h x hx
  ·
   cases h
structure Link (g : List Tk) (pre : List Ev) (M : Mach) : Prop where
 b : ∀ i, M.b.testBit i = decide (0 ≤ begunL (i : Nat) pre (-1))
 q : ∀ i, M.b.testBit i = true → M.bg i = begunL (i : Nat) pre (-1)
 o : ∀ i, M.o.testBit i = decide (((i : Nat) : Int) ∈ overL pre)
theorem Link.zero (g : List Tk) : Link g [] Mach.zero := ⟨fun i => by simp [Mach.zero, begunL], fun i h => by simp [Mach.zero] at h, fun i => by simp [Mach.zero, overL]⟩
theorem mayBegin_fit {g : List Tk} {ns : List Nat} {pre : List Ev} {M : Mach} {e : Ev} (hg : graphN g = some ns) (hL : Link g pre M) (he : evIn g e = true) (h2 : e.f2 = false) : mayBegin ns M e = evFit g pre e := by
 obtain ⟨h0, h1, hi⟩ := evIn_num he
 have hs := ((graphN_all hg).2.2 e.i hi).2
 unfold mayBegin evFit
 rw [h2]
 simp only [Bool.false_eq_true, if_false]
 rw [h1, Int.toNat_natCast, hL.b]
 congr 1
 ·
  by_cases hx : 0 ≤ begunL ((e.i : Nat) : Int) pre (-1)
  ·
   rw [decide_eq_true hx, decide_eq_false (by omega)]; rfl
  ·
   rw [decide_eq_false hx, decide_eq_true (by omega)]; rfl
 ·
  unfold allDoneB
  rw [Bool.eq_iff_iff, decide_eq_true_iff, diff_zero, List.all_eq_true]
  constructor
  ·
   intro h x hx
   obtain ⟨hx0, hx1⟩ := setOfL_mem _ _ _ _ _ (by omega) hs x hx
   have hxe : x = ((x.toNat : Nat) : Int) := by omega
   have := h x.toNat (by rw [setOfN_bits hs]; exact decide_eq_true (by rw [← hxe]; exact hx))
   rw [hL.o, ← hxe] at this
   exact this
  ·
   intro h j hj
   rw [setOfN_bits hs] at hj
   rw [hL.o]
   exact h _ (of_decide_eq_true hj)
theorem mayEnd_fit {g : List Tk} {pre : List Ev} {M : Mach} {e : Ev} (hL : Link g pre M) (he : evIn g e = true) (h2 : e.f2 = true) : mayEnd g M e = evFit g pre e := by
 obtain ⟨h0, h1, hi⟩ := evIn_num he
 unfold mayEnd evFit
 rw [h2]
 simp only [if_true]
 rw [h1, Int.toNat_natCast]
 cases hb : M.b.testBit e.i
 ·
  have := hL.b e.i
  rw [hb] at this
  rw [← this]; rfl
 ·
  have h3 := hL.b e.i
  rw [hb] at h3
  rw [← h3, hL.o, hL.q e.i hb, Bool.true_and, Bool.true_and]
theorem step_fit {g : List Tk} {ns : List Nat} {pre : List Ev} {M : Mach} {e : Ev} (hg : graphN g = some ns) (hL : Link g pre M) : (stepM g ns M e).isSome = (evIn g e && evFit g pre e) := by
 unfold stepM
 cases he : evIn g e
 ·
  rfl
 ·
  rw [if_neg (by simp), Bool.true_and]
  cases h2 : e.f2
  ·
   rw [if_pos rfl, ← mayBegin_fit hg hL he h2]
   cases mayBegin ns M e <;> rfl
  ·
   rw [if_neg (by simp), ← mayEnd_fit hL he h2]
   cases mayEnd g M e <;> rfl
theorem Link.step {g : List Tk} {ns : List Nat} {pre : List Ev} {M M' : Mach} {e : Ev} (hL : Link g pre M) (h : stepM g ns M e = some M') : Link g (pre ++ [e]) M' := by
 obtain ⟨he, ⟨h2, hm, rfl⟩ | ⟨h2, hm, rfl⟩⟩ := stepM_some h
 ·
  obtain ⟨h0, h1, hi⟩ := evIn_num he
  have h00 := (inB_true.1 h0).1
  refine ⟨fun i => ?_, fun i hb => ?_, fun i => ?_⟩
  ·
   rw [begunL_snoc, h2]
   simp only [Mach.begin, or_bit, Bool.false_eq_true, if_false]
   by_cases hie : e.f1 = (i : Int)
   ·
    rw [if_pos hie, decide_eq_true (show e.i = i by omega), Bool.or_true, decide_eq_true h00]
   ·
    rw [if_neg hie, decide_eq_false (show ¬ e.i = i by omega), Bool.or_false, hL.b]
  ·
   rw [begunL_snoc, h2]
   simp only [Mach.begin, or_bit, Bool.false_eq_true, if_false] at hb ⊢
   by_cases hie : e.f1 = (i : Int)
   ·
    rw [if_pos hie, if_pos (show i = e.i by omega)]
   ·
    rw [if_neg hie, if_neg (show ¬ i = e.i by omega)]
    rw [decide_eq_false (show ¬ e.i = i by omega), Bool.or_false] at hb
    exact hL.q i hb
  ·
   rw [overL_snoc, h2]
   simp only [Mach.begin, Bool.false_eq_true, if_false]
   exact hL.o i
 ·
  obtain ⟨h0, h1, hi⟩ := evIn_num he
  refine ⟨fun i => ?_, fun i hb => ?_, fun i => ?_⟩
  ·
   rw [begunL_snoc, h2]
   simp only [Mach.finish, if_true]
   exact hL.b i
  ·
   rw [begunL_snoc, h2]
   simp only [Mach.finish, if_true] at hb ⊢
   exact hL.q i hb
  ·
   rw [overL_snoc, h2]
   simp only [Mach.finish, or_bit, if_true, List.mem_append, List.mem_singleton, Bool.decide_or]
   rw [hL.o]
   congr 1
   exact decide_eq_decide.2 (by omega)
end Go.Proofs.YtlapphhcficbjaaGreatDoor
namespace Go.Proofs.YtlapphhcficbjaaGreatDoor
set_option linter.unusedVariables false
set_option linter.unusedSimpArgs false
open Go.RowKit Go.Shelf Bits
theorem eventOk_eq (g : List Tk) (log : List Ev) (k : Nat) : eventOkB g log k = (evIn g (rdEv log k) && inOrder log k && evFit g (log.take k) (rdEv log k)) := by
 unfold eventOkB evIn inOrder eventFitsB
 show (_ && (!(_ && decide ((rdEv log (k - 1)).f0 > (rdEv log k).f0))) && _ && _) = _
 generalize inB (rdEv log k).f0 0 200 = a
 generalize (!(decide (0 < k) && decide ((rdEv log (k - 1)).f0 > (rdEv log k).f0))) = b
 generalize inB (rdEv log k).f1 0 (g.length - 1) = c
 generalize evFit g (log.take k) (rdEv log k) = d
 cases a <;> cases b <;> cases c <;> cases d <;> rfl
theorem replayN_law {g : List Tk} {ns : List Nat} {log : List Ev} (hg : graphN g = some ns) : ∀ k, k ≤ log.length →
  ((∀ j, j < k → eventOkB g log j = true) ∧ ∃ p, replayN g ns log k = some p ∧ Link g (log.take k) p.1) ∨ ((∃ j, j < k ∧ eventOkB g log j = false) ∧ replayN g ns log k = none)
 | 0, _ => Or.inl ⟨fun j h => absurd h (Nat.not_lt_zero _), (Mach.zero, 0), rfl, Link.zero g⟩
 | k + 1, hk => by
  rcases replayN_law (log := log) hg k (by omega) with ⟨hall, ⟨M, most⟩, hp, hL⟩ | ⟨⟨j, hj, hf⟩, hn⟩
  ·
   have hsf := step_fit (e := rdEv log k) hg hL
   cases hio : inOrder log k
   ·
    refine Or.inr ⟨⟨k, Nat.lt_succ_self _, ?_⟩, replayN_order hp hio⟩
    rw [eventOk_eq, hio]
    simp
   ·
    cases hs : stepM g ns M (rdEv log k) with
    | none =>
     refine Or.inr ⟨⟨k, Nat.lt_succ_self _, ?_⟩, replayN_none1 hp hio hs⟩
     rw [hs] at hsf
     rw [eventOk_eq, hio, Bool.and_true]
     exact hsf.symm
    | some M' =>
     refine Or.inl ⟨fun j hj => ?_, _, replayN_some1 hp hio hs, ?_⟩
     ·
      rcases Nat.lt_succ_iff_lt_or_eq.1 hj with h | rfl
      ·
       exact hall j h
      ·
       rw [hs] at hsf
       rw [eventOk_eq, hio, Bool.and_true]
       exact hsf.symm
     ·
      rw [take_snocE (by omega)]
      exact hL.step hs
  ·
   exact Or.inr ⟨⟨j, by omega, hf⟩, replayN_none hn (k + 1) (by omega)⟩
theorem validLog_law {g : List Tk} {log : List Ev} (hgs : specValid g = (graphN g).isSome) : validLogB g log = (replayB g log).isSome := by
 unfold validLogB replayB
 rw [hgs]
 cases hg : graphN g with
 | none => rfl
 | some ns =>
  rw [Option.bind_some]
  by_cases hlen : log.length ≤ 16
  ·
   rw [if_pos hlen, decide_eq_true hlen]
   simp only [Option.isSome_some, Bool.true_and]
   rcases replayN_law (log := log) hg log.length (Nat.le_refl _) with ⟨hall, p, hp, _⟩ | ⟨⟨j, hj, hf⟩, hn⟩
   ·
    rw [hp, Option.isSome_some, List.all_eq_true]
    exact fun j hj => hall j (List.mem_range.1 hj)
   ·
    rw [hn, Option.isSome_none, List.all_eq_false]
    exact ⟨j, List.mem_range.2 hj, by rw [hf]; simp⟩
  ·
   rw [if_neg hlen, decide_eq_false hlen]
   simp
end Go.Proofs.YtlapphhcficbjaaGreatDoor
namespace Go.Proofs.YtlapphhcficbjaaGreatDoor
set_option linter.unusedVariables false
set_option linter.unusedSimpArgs false
open Go.RowKit Go.Shelf Bits
theorem setOfL_isSome (n : Int) : ∀ (l : List Int) (last : Int) (s : Nat), (setOfL n l last s).isSome = true ↔ (∀ j, j < l.length → last < l.getD j 0 ∧ l.getD j 0 ≤ n - 1) ∧ (∀ j, j + 1 < l.length → l.getD j 0 < l.getD (j + 1) 0)
 | [], last, s => by simp [setOfL]
 | i :: l, last, s => by
  rw [setOfL_cons]
  split
  ·
   rename_i hc
   rw [setOfL_isSome n l i]
   constructor
   ·
    rintro ⟨h1, h2⟩
    refine ⟨fun j hj => ?_, fun j hj => ?_⟩
    ·
     cases j with
     | zero => show last < i ∧ i ≤ n - 1; omega
     | succ j =>
      have := h1 j (by simpa using hj)
      show last < l.getD j 0 ∧ l.getD j 0 ≤ n - 1
      omega
    ·
     cases j with
     | zero => exact (h1 0 (by simpa using hj)).1
     | succ j => exact h2 j (by simpa using hj)
   ·
    rintro ⟨h1, h2⟩
    have chain : ∀ j, j < l.length → i < l.getD j 0 := by
     intro j
     induction j with
     | zero => exact fun hj => h2 0 (by simpa using hj)
     | succ j ih => exact fun hj => Int.lt_trans (ih (by omega)) (h2 (j + 1) (by simpa using hj))
    exact ⟨fun j hj => ⟨chain j hj, (h1 (j + 1) (by simpa using hj)).2⟩, fun j hj => h2 (j + 1) (by simpa using hj)⟩
  ·
   rename_i hc
   simp only [Option.isSome_none, Bool.false_eq_true, false_iff, not_and]
   intro h1
   exfalso
   have := h1 0 (by simp)
   apply hc
   have e : (i :: l).getD 0 0 = i := rfl
   rw [e] at this
   omega
theorem all_getD {p : Int → Bool} {l : List Int} : l.all p = true ↔ ∀ j, j < l.length → p (l.getD j 0) = true := by
 rw [List.all_eq_true]
 constructor
 ·
  intro h j hj
  rw [List.getD_eq_getElem?_getD, List.getElem?_eq_getElem hj]
  exact h _ (List.getElem_mem hj)
 ·
  intro h x hx
  obtain ⟨j, hj, rfl⟩ := List.getElem_of_mem hx
  have := h j hj
  rwa [List.getD_eq_getElem?_getD, List.getElem?_eq_getElem hj] at this
theorem setOfN_isSome (l : List Int) (n : Nat) : (setOfN l n).isSome = (allInB l 0 (n - 1) && ascB l) := by
 rw [Bool.eq_iff_iff, Bool.and_eq_true]
 unfold setOfN allInB ascB
 rw [setOfL_isSome, all_getD, List.all_eq_true]
 simp only [List.mem_range, decide_eq_true_eq, inB_true]
 constructor
 ·
  rintro ⟨h1, h2⟩
  exact ⟨fun j hj => by have := h1 j hj; omega, fun j hj => h2 j (by omega)⟩
 ·
  rintro ⟨h1, h2⟩
  exact ⟨fun j hj => by have := h1 j hj; omega, fun j hj => h2 j (by omega)⟩
theorem taskFine_eq (n : Nat) (t : Tk) : taskFineB n t = (taskOk t && (setOfN t.f1 n).isSome) := by
 unfold taskFineB taskOk
 rw [setOfN_isSome, Bool.and_assoc]
theorem needsL_isSome (n : Nat) : ∀ l : List Tk, (needsL n l).isSome = l.all (taskFineB n)
 | [] => rfl
 | t :: r => by
  rw [List.all_cons, taskFine_eq, ← needsL_isSome n r]
  cases h1 : setOfN t.f1 n with
  | none => rw [needsL_bad (Or.inl h1)]; simp
  | some s =>
   cases h2 : taskOk t with
   | false => rw [needsL_bad (Or.inr h2)]; rfl
   | true => rw [needsL_good h1 h2]; simp
theorem tasksFine_eq (g : List Tk) : tasksFineB g = (needsN g).isSome := by
 unfold tasksFineB needsN
 rw [← needsL_isSome]
 by_cases h : 8 < g.length
 ·
  rw [if_pos h, decide_eq_false (by omega), Bool.and_false]; rfl
 ·
  rw [if_neg h, decide_eq_true (by omega), Bool.and_true]
theorem find_congr {α : Type} {p q : α → Bool} : ∀ {l : List α}, (∀ x ∈ l, p x = q x) → l.find? p = l.find? q
 | [], _ => rfl
 | x :: l, h => by
  rw [List.find?_cons, List.find?_cons, h x (List.mem_cons_self ..), find_congr fun y hy => h y (List.mem_cons_of_mem _ hy)]
theorem mem_intsN {i : Nat} {l : List Nat} : ((i : Nat) : Int) ∈ ints l ↔ i ∈ l := by
 unfold ints
 rw [List.mem_map]
 constructor
 ·
  rintro ⟨j, hj, e⟩
  have : j = i := Int.ofNat.inj e
  rwa [← this]
 ·
  exact fun h => ⟨i, h, rfl⟩
theorem ord_top {g : List Tk} {ns : List Nat} (hn : ns.length = g.length) (hg : ∀ i, i < g.length → setOfN (rdTk g i).f1 g.length = some (ns.getD i 0)) :
  ∀ k, topN g k = (ordN ns k).1 ∧ ∀ i, (ordN ns k).2.testBit i = decide (i ∈ (ordN ns k).1)
 | 0 => ⟨rfl, fun i => by simp [ordN]⟩
 | k + 1 => by
  obtain ⟨h1, h2⟩ := ord_top hn hg k
  have hr : ∀ i, i < g.length → specReady g (topN g k) i = isReady ns (ordN ns k).2 i := by
   intro i hi
   unfold specReady isReady
   rw [h2, h1]
   congr 1
   ·
    rw [decide_eq_decide.2 mem_intsN]
   ·
    unfold allDoneB
    rw [Bool.eq_iff_iff, decide_eq_true_iff, diff_zero, List.all_eq_true]
    constructor
    ·
     intro h j hj
     rw [setOfN_bits (hg i hi)] at hj
     rw [h2]
     have := of_decide_eq_true (h _ (of_decide_eq_true hj))
     exact decide_eq_true (mem_intsN.1 this)
    ·
     intro h x hx
     obtain ⟨hx0, hx1⟩ := setOfL_mem _ _ _ _ _ (by omega) (hg i hi) x hx
     have hxe : x = ((x.toNat : Nat) : Int) := by omega
     have := h x.toNat (by rw [setOfN_bits (hg i hi)]; exact decide_eq_true (by rw [← hxe]; exact hx))
     rw [h2] at this
     rw [hxe]
     exact decide_eq_true (mem_intsN.2 (of_decide_eq_true this))
  have hf : topFirst g (topN g k) = firstReady ns (ordN ns k).2 := by
   unfold topFirst firstReady
   rw [hn]
   exact find_congr fun i hi => hr i (List.mem_range.1 hi)
  show topStep g (topN g k) = (ordStep ns (ordN ns k)).1 ∧ ∀ i, (ordStep ns (ordN ns k)).2.testBit i = decide (i ∈ (ordStep ns (ordN ns k)).1)
  unfold topStep ordStep
  rw [hf]
  cases firstReady ns (ordN ns k).2 with
  | none => exact ⟨h1, h2⟩
  | some i =>
   refine ⟨by rw [h1], fun j => ?_⟩
   simp only [or_bit, h2, List.mem_append, List.mem_singleton, Bool.decide_or]
   congr 1
   exact decide_eq_decide.2 eq_comm
def cntW : Nat → Nat → Nat
 | 0, _ => 0
 | n + 1, s => cntW n s + if s.testBit n then 1 else 0
theorem cntW_high {i s : Nat} : ∀ n, n ≤ i → cntW n (s ||| 2 ^ i) = cntW n s
 | 0, _ => rfl
 | n + 1, h => by
  unfold cntW
  rw [cntW_high n (by omega), or_bit, decide_eq_false (show ¬ i = n by omega), Bool.or_false]
theorem cntW_step {i s : Nat} (hs : s.testBit i = false) : ∀ n, i < n → cntW n (s ||| 2 ^ i) = cntW n s + 1
 | n + 1, h => by
  unfold cntW
  rw [or_bit]
  by_cases hi : i = n
  ·
   subst hi
   rw [cntW_high i (Nat.le_refl _), hs]
   simp
  ·
   rw [cntW_step hs n (by omega), decide_eq_false hi, Bool.or_false]
   omega
theorem cntW_le (s : Nat) : ∀ n, cntW n s ≤ n
 | 0 => Nat.le_refl _
 | n + 1 => by
  unfold cntW
  have := cntW_le s n
  split <;> omega
theorem cntW_full (s : Nat) : ∀ n, cntW n s = n ↔ ∀ j, j < n → s.testBit j = true
 | 0 => by simp [cntW]
 | n + 1 => by
  unfold cntW
  have h1 := cntW_le s n
  have h2 := cntW_full s n
  constructor
  ·
   intro h j hj
   split at h
   ·
    rename_i hb
    rcases Nat.lt_succ_iff_lt_or_eq.1 hj with h3 | rfl
    ·
     exact h2.1 (by omega) j h3
    ·
     exact hb
   ·
    omega
  ·
   intro h
   rw [if_pos (h n (Nat.lt_succ_self _)), h2.2 fun j hj => h j (by omega)]
theorem cnt_zero : ∀ n, cntW n 0 = 0
 | 0 => rfl
 | n + 1 => by unfold cntW; rw [cnt_zero n]; simp
theorem ord_cnt (ns : List Nat) : ∀ k, (ordN ns k).1.length = cntW ns.length (ordN ns k).2
 | 0 => (cnt_zero _).symm
 | k + 1 => by
  show (ordStep ns (ordN ns k)).1.length = cntW ns.length (ordStep ns (ordN ns k)).2
  have h0 := ord_cnt ns k
  unfold ordStep
  cases hf : firstReady ns (ordN ns k).2 with
  | none => exact h0
  | some i =>
   obtain ⟨hi, hr⟩ := firstReady_spec hf
   unfold isReady at hr
   rw [Bool.and_eq_true, Bool.not_eq_true'] at hr
   rw [cntW_step hr.1 _ hi, ← h0]
   simp
theorem full_iff {s n : Nat} (h : s < 2 ^ n) : (∀ j, j < n → s.testBit j = true) ↔ s = 2 ^ n - 1 := by
 constructor
 ·
  intro hb
  apply Nat.eq_of_testBit_eq
  intro j
  rw [Nat.testBit_two_pow_sub_one]
  by_cases hj : j < n
  ·
   rw [hb j hj, decide_eq_true hj]
  ·
   rw [decide_eq_false hj]
   exact Nat.testBit_lt_two_pow (Nat.lt_of_lt_of_le h (Nat.pow_le_pow_right (by omega) (by omega)))
 ·
  rintro rfl j hj
  rw [Nat.testBit_two_pow_sub_one, decide_eq_true hj]
theorem specValid_eq (g : List Tk) : specValid g = (graphN g).isSome := by
 unfold specValid graphN
 rw [tasksFine_eq]
 cases hn : needsN g with
 | none => rfl
 | some ns =>
  have hl := needsN_length hn
  have hall := (needsL_all _ _ _ (needsN_some hn).2).2
  have ht := (ord_top hl (fun i hi => (hall i hi).2) g.length).1
  rw [Option.bind_some, Option.isSome_some, Bool.true_and]
  show decide ((topN g g.length).length = g.length) = _
  rw [ht, ord_cnt, hl]
  have hlt := (ordN_lt ns g.length).1
  rw [hl] at hlt
  rw [decide_eq_decide.2 ((cntW_full _ _).trans (full_iff hlt))]
  by_cases h : (ordN ns g.length).2 = 2 ^ g.length - 1
  ·
   rw [if_pos h, decide_eq_true h]; rfl
  ·
   rw [if_neg h, decide_eq_false h]; rfl
theorem validLog_eq (g : List Tk) (log : List Ev) : validLogB g log = (replayB g log).isSome := validLog_law (specValid_eq g)
end Go.Proofs.YtlapphhcficbjaaGreatDoor
