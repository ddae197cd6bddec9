/- impl replay. -/
import Derived.Deep.RegionHeld3
import Derived.Test.YtpmfghbjkampkaaDoorList
import Derived.Test.YtpmfghbjkampkaaDoorTake2
namespace Go.Proofs.YtpmfghbjkampkaaDoor
set_option linter.unusedVariables false
set_option linter.unusedSimpArgs false
open Go.RowKit Go.Shelf Bits
open Go.Proofs.YtpmfghbjkampkaaDoorW.PrintWords Go.Proofs.YtpmfghbjkampkaaDoorW.PrintLast Go.Proofs.YtpmfghbjkampkaaDoorW.PrintMore
def running (M : Mach) : Int := ((elems (diff M.b M.o)).length : Nat)
def inOrder (log : List Ev) (k : Nat) : Bool := !(decide (0 < k) && decide ((rdEv log (k - 1)).f0 > (rdEv log k).f0))
def lastOf (log : List Ev) (k : Nat) : Bool := decide (k + 1 = log.length) || decide ((rdEv log (k + 1)).f0 > (rdEv log k).f0)
def replayN (g : List Tk) (ns : List Nat) (log : List Ev) : Nat → Option (Mach × Int)
 | 0 => some (Mach.zero, 0)
 | k + 1 => (replayN g ns log k).bind fun p => if inOrder log k = false then none else (stepM g ns p.1 (rdEv log k)).map fun M => (M, if lastOf log k then max p.2 (running M) else p.2)
def ReplayPost (g : List Tk) (ns : List Nat) (log : List Ev) (w : World) (e : Ending) (w' : World) : Prop :=
 match replayN g ns log log.length with
 | some p => ∃ h C, e = .returned (.tuple #[.pointer (some ⟨h, 0, none⟩), .int .i64 p.2, .bool true]) ∧ MAt h C p.1 w' ∧ IsGraph w' C g ns ∧ MInv p.1 ∧ Below w.heap.size w w'
 | none => e = .returned (.tuple #[.pointer none, .int .i64 0, .bool false]) ∧ Below w.heap.size w w'
theorem replayN_none {g : List Tk} {ns : List Nat} {log : List Ev} {k : Nat} (h : replayN g ns log k = none) : ∀ m, k ≤ m → replayN g ns log m = none := by
 intro m hm
 induction m with
 | zero =>
  have : k = 0 := by omega
  subst this; exact h
 | succ m ih =>
  rcases Nat.lt_or_ge m k with h1 | h1
  ·
   have : k = m + 1 := by omega
   subst this; exact h
  ·
   simp only [replayN, ih h1, Option.bind_none]
theorem ReplayPost.none {g : List Tk} {ns : List Nat} {log : List Ev} {w w' : World} {e : Ending} {k : Nat} (h : replayN g ns log k = .none) (hk : k ≤ log.length)
  (he : e = .returned (.tuple #[.pointer .none, .int .i64 0, .bool false])) (hB : Below w.heap.size w w') : ReplayPost g ns log w e w' := by
 unfold ReplayPost
 rw [replayN_none h _ hk]
 exact ⟨he, hB⟩
theorem replayN_order {g : List Tk} {ns : List Nat} {log : List Ev} {k : Nat} {p : Mach × Int} (h : replayN g ns log k = some p) (ho : inOrder log k = false) : replayN g ns log (k + 1) = .none := by
 simp only [replayN, h, Option.bind_some, if_pos ho]
theorem replayN_none1 {g : List Tk} {ns : List Nat} {log : List Ev} {k : Nat} {M : Mach} {most : Int} (h : replayN g ns log k = some (M, most)) (ho : inOrder log k = true) (hs : stepM g ns M (rdEv log k) = .none) :
  replayN g ns log (k + 1) = .none := by
 have ho' : ¬ (inOrder log k = false) := by rw [ho]; simp
 simp only [replayN, h, Option.bind_some, if_neg ho', hs, Option.map_none]
theorem replayN_some1 {g : List Tk} {ns : List Nat} {log : List Ev} {k : Nat} {M M' : Mach} {most : Int} (h : replayN g ns log k = some (M, most)) (ho : inOrder log k = true) (hs : stepM g ns M (rdEv log k) = some M') :
  replayN g ns log (k + 1) = some (M', if lastOf log k then max most (running M') else most) := by
 have ho' : ¬ (inOrder log k = false) := by rw [ho]; simp
 simp only [replayN, h, Option.bind_some, if_neg ho', hs, Option.map_some]
theorem max_run (M : Mach) (most : Int) : max most (running M) = if most < (((els (diff M.b M.o)).length : Nat) : Int) then (((els (diff M.b M.o)).length : Nat) : Int) else most := by
 have e : running M = (((els (diff M.b M.o)).length : Nat) : Int) := by unfold running els; rw [List.length_map]
 rw [e]
 split <;> omega
theorem max_bound {most : Int} (h : 0 ≤ most ∧ most ≤ 16) (M : Mach) : 0 ≤ max most (running M) ∧ max most (running M) ≤ 16 := by
 have := els_length (diff M.b M.o)
 have e : running M = (((els (diff M.b M.o)).length : Nat) : Int) := by unfold running els; rw [List.length_map]
 rw [e]
 omega
theorem MAt.made (w1 : World) (C : Nat) : MAt w1.heap.size C Mach.zero (w1.alloc (.cells #[.pointer (some ⟨C, 0, none⟩), .int .u16 0, .int .u16 0, .int .i64 0, .int .i64 0, .int .i64 0, .int .i64 0, .int .i64 0, .int .i64 0, .int .i64 0, .int .i64 0, .int .i64 0, .int .i64 0, .int .i64 0, .int .i64 0, .int .i64 0, .int .i64 0, .int .i64 0, .int .i64 0] 85)) := by
 refine ⟨by simp, by simp [Mach.zero], by simp [Mach.zero], fun i hi => ?_, fun i hi => ?_, fun j hj => World.frozen?_alloc_at _ _ _ _ rfl, by simp [Mach.zero], by simp [Mach.zero], by simp⟩
 ·
  rw [World.cell?_alloc_new]
  rcases i with _ | _ | _ | _ | _ | _ | _ | _ | i <;> first | rfl | omega
 ·
  rw [World.cell?_alloc_new]
  rcases i with _ | _ | _ | _ | _ | _ | _ | _ | i <;> first | rfl | omega
set_option maxRecDepth 100000 in
set_option maxHeartbeats 40000000 in
theorem replay_calls (A : Option Addr) (c : Nat) (g : List Tk) (A' : Option Addr) (c' : Nat) (log : List Ev) (w : World) (ns : List Nat) (hr : kTk.C w A g.length g) (hr' : kEv.C w A' log.length log) (hT : Tab w) (hg : graphN g = some ns)
  (hlen : log.length ≤ 16) (ht : ∀ i, 0 ≤ (rdTk g i).f0 ∧ (rdTk g i).f0 ≤ 20) (hx : ∀ i, ns.getD i 0 < 65536) :
  Calls Tryd.prog 58 #[.slice A g.length c, .slice A' log.length c'] w fun e w' => ReplayPost g ns log w e w' := by
 have hd16 : decide ((16 : Int) < (log.length : Int)) = false := decide_eq_false (by omega)
 have HR := Lib.hid hr
 have HR' := Lib.hid hr'
 have HT := Lib.hid hT
 have HG := Lib.hid hg
 have HTM := Lib.hid ht
 have HX := Lib.hid hx
 clear hr hr' hT hg ht hx
 go_enter Tryd.func58, Tryd.ntmps58
 go_wp2_with (go_at_call 79; refine (graphOf_yes _ _ _ _ _ HR.out HT.out HG.out).mono ?_; rintro e w1 ⟨C, rfl, hC, hB1⟩)
 have HA0 : Hid (MAt w1.heap.size C Mach.zero (w1.alloc (.cells #[.pointer (some ⟨C, 0, none⟩), .int .u16 0, .int .u16 0, .int .i64 0, .int .i64 0, .int .i64 0, .int .i64 0, .int .i64 0, .int .i64 0, .int .i64 0, .int .i64 0, .int .i64 0, .int .i64 0, .int .i64 0, .int .i64 0, .int .i64 0, .int .i64 0, .int .i64 0, .int .i64 0] 85))) := Lib.hid (MAt.made w1 C)
 have HGL : Hid (g.length ≤ 8) := Lib.hid (graphN_some HG.out).2.2.1
 have HNL : Hid (ns.length = g.length) := Lib.hid (graphN_some HG.out).2.2.2
 have HC := Lib.hid hC
 have HB1 := Lib.hid hB1
 have HR1 := Lib.hid (Kd.C_below HR'.out hB1)
 clear hC hB1
 go_loopw [10, 30] (fun m i wr => ∃ (k : Nat) (M : Mach) (most : Int), k ≤ log.length ∧ m = .int .i64 most ∧ i = .int .i64 k ∧ Hid (replayN g ns log k = some (M, most)) ∧ Hid (MInv M) ∧ Hid (0 ≤ most ∧ most ≤ 16) ∧ Hid (MAt w1.heap.size C M wr) ∧ Hid (Below w1.heap.size w1 wr)) (fun _ i _ => log.length - (intOf i).toNat)
 case atStart => exact ⟨0, Mach.zero, 0, Nat.zero_le _, rfl, rfl, Lib.hid rfl, Lib.hid MInv.zero, Lib.hid (by omega), HA0, Lib.hid ((Below.refl _ w1).alloc (Nat.le_refl _) _)⟩
 case round =>
  clear HA0
  obtain ⟨k, M, most, hk, rfl, rfl, HN, HI, HMo, HM, HB⟩ := hrel
  by_cases hlt : k < log.length
  ·
   rcases Nat.eq_zero_or_pos k with rfl | hkpos
   ·
    rw [Int.natCast_zero]
    have hlti : (0 : Int) < (log.length : Int) := by omega
    obtain ⟨ad, rfl, hx0, hx1, hx2⟩ : ∃ ad, A' = some ad ∧ wr.cell? ad = some (.int .i64 (rdEv log 0).f0) ∧ wr.cell? ⟨ad.block, ad.off + 1, none⟩ = some (.int .i64 (rdEv log 0).f1) ∧ wr.cell? ⟨ad.block, ad.off + 2, none⟩ = some (.bool (rdEv log 0).f2) := by
     obtain ⟨ad, e, x0, x1, x2⟩ := at_Ev (Kd.C_below HR1.out HB.out) 0 hlt
     simp at x0 x1 x2
     exact ⟨ad, e, x0, x1, x2⟩
    clear hlt hk
    go_wp2
    have HNEQ : Hid (w1.heap.size ≠ wr.heap.size) := Lib.hid (Nat.ne_of_lt HM.out.2.2.2.2.2.2.2.2)
    obtain ⟨w5, hw5⟩ : ∃ w5, w5 = wr.alloc (.cells #[.int .i64 (rdEv log 0).f0, .int .i64 (rdEv log 0).f1, .bool (rdEv log 0).f2] 75) := ⟨_, rfl⟩
    rw [← hw5]
    have hq5 : Below wr.heap.size wr w5 := by rw [hw5]; exact (Below.refl _ wr).alloc (Nat.le_refl _) _
    have HM5 : Hid (∀ n, MAt w1.heap.size C M (w5.drewN n)) := Lib.hid fun n => (HM.out.below hq5).below (pw_below_drewN (Below.refl _ w5) n)
    have HB5 : Hid (Below w1.heap.size w1 w5) := Lib.hid (HB.out.trans (hq5.mono HB.out.size))
    have HG5 : Hid (∀ n, IsGraph (w5.drewN n) C g ns) := Lib.hid fun n => (HC.out.below (HB5.out)).below (pw_below_drewN (Below.refl _ w5) n)
    have HS5 : Hid (w1.heap.size ≤ wr.heap.size ∧ wr.heap.size < w5.heap.size) := Lib.hid ⟨HB.out.size, by rw [hw5]; simp⟩
    have he0 : w5.cell? ⟨wr.heap.size, 0, none⟩ = some (.int .i64 (rdEv log 0).f0) := by rw [hw5]; simp
    have he1 : w5.cell? ⟨wr.heap.size, 1, none⟩ = some (.int .i64 (rdEv log 0).f1) := by rw [hw5]; simp
    have he2 : w5.cell? ⟨wr.heap.size, 2, none⟩ = some (.bool (rdEv log 0).f2) := by rw [hw5]; simp
    clear hw5 hq5 hx0 hx1 hx2
    have HIO : Hid (inOrder log 0 = true) := Lib.hid rfl
    cases hs : stepM g ns M (rdEv log 0) with
    | none =>
     have HF : Hid (replayN g ns log (0 + 1) = none) := Lib.hid (replayN_none1 HN.out HIO.out hs)
     have HS := Lib.hid hs
     clear hs HIO
     generalize rdEv log 0 = x at *
     (with_reducible refine wp_region_still_tail 16 mixed (by kernel_rfl) ?_; simp only [List.take_succ_cons, List.take_zero, List.drop_succ_cons, List.drop_zero]; repeat (with_reducible refine wpStill_step (fun K hK => ?_); go_simp; with_reducible refine hK _ ?_; clear hK K); try with_reducible refine wpStill_nil ?_)
     change wpList _ _ _ _ _ w5.drew
     go_wp2_with (go_at_call 97; refine (take_none C w1.heap.size g ns M x _ (HG5.out 1) HGL.out HNL.out (HM5.out 1) HI.out HTM.out HX.out HS.out).mono ?_; rintro e w6 ⟨rfl, hB6⟩)
     go_ret3
     exact ReplayPost.none HF.out (by omega) rfl (HB1.out.trans ((HB5.out.drew.trans (hB6.mono HB5.out.size)).mono HB1.out.size))
    | some M' =>
     have HN1 : Hid (replayN g ns log (0 + 1) = some (M', if lastOf log 0 then max most (running M') else most)) := Lib.hid (replayN_some1 HN.out HIO.out hs)
     have HI1 := Lib.hid (HI.out.step hs)
     have HS := Lib.hid hs
     clear hs HIO
     generalize hxx : rdEv log 0 = x at *
     (with_reducible refine wp_region_still_tail 16 mixed (by kernel_rfl) ?_; simp only [List.take_succ_cons, List.take_zero, List.drop_succ_cons, List.drop_zero]; repeat (with_reducible refine wpStill_step (fun K hK => ?_); go_simp; with_reducible refine hK _ ?_; clear hK K); try with_reducible refine wpStill_nil ?_)
     change wpList _ _ _ _ _ w5.drew
     go_wp2_with (go_at_call 97; refine (take_some C w1.heap.size g ns M x _ (HG5.out 1) HGL.out HNL.out (HM5.out 1) HI.out HTM.out HX.out M' (Nat.lt_of_le_of_lt HS5.out.1 HS5.out.2) HS.out).mono ?_; rintro e w6 ⟨rfl, hM6, hB6, hO6⟩)
     have HM6 := Lib.hid hM6
     have HB6 : Hid (Below w1.heap.size w1 w6) := Lib.hid (HB5.out.drew.trans hB6)
     have hf0 : w6.cell? ⟨wr.heap.size, 0, none⟩ = some (.int .i64 x.f0) := by rw [hO6.cell _ HS5.out.2 (show wr.heap.size ≠ w1.heap.size from HNEQ.out.symm)]; exact he0
     have hwl : IntKind.i64.wrap ((log.length : Int) - 1) = (log.length : Int) - 1 := IntWalk.i64_in _ (by omega)
     clear he0 he1 he2 hM6 hB6 hO6 HM5 HB5 HG5 HM HB
     by_cases hla : 0 + 1 = log.length
     ·
      have hl1 : ((0 : Int) == (log.length : Int) - 1) = true := beq_iff_eq.2 (by omega)
      have HN2 : Hid (replayN g ns log (0 + 1) = some (M', max most (running M'))) := Lib.hid (by have := HN1.out; rwa [show lastOf log 0 = true by unfold lastOf; rw [decide_eq_true hla]; rfl, if_pos rfl] at this)
      clear hla HN1
      go_quiet (fail)
      clear hwl
      go_wp2
      generalize hw7 : w6.drewN _ = w7
      have HM7 : Hid (∀ W, Below w7.heap.size w7 W → MAt w1.heap.size C M' W) := Lib.hid fun W hW => MAt.below (by rw [← hw7]; exact HM6.out.below (pw_below_drewN (Below.refl _ w6) _)) hW
      have HB7 : Hid (Below w1.heap.size w1 w7) := Lib.hid (by rw [← hw7]; exact pw_below_drewN HB6.out _)
      have hm := HM7.out _ (Below.refl _ w7)
      have hm1 := hm.2.1
      have hm2 := hm.2.2.1
      have hbd : bits BinOp.andNot IntKind.u16 (M'.b : Int) (M'.o : Int) = ((diff M'.b M'.o : Nat) : Int) := bits_andNot_u16 _ _ hm.2.2.2.2.2.2.1
      have HDL : Hid (diff M'.b M'.o < 65536) := Lib.hid (diff_lt (n := 16) hm.2.2.2.2.2.2.1)
      have HT7 : Hid (Tab w7) := Lib.hid (HT.out.keep HT.out.lt (HB1.out.trans (HB7.out.mono HB1.out.size)))
      have HMX : Hid (w1.heap.size < w7.heap.size) := Lib.hid hm.2.2.2.2.2.2.2.2
      clear hw7 hm hf0 HM6 HB6
      have HLK : Hid (∀ W, (W.cell? ⟨w1.heap.size, 1, none⟩ = some (.int .u16 M'.b) ∧ W.cell? ⟨w1.heap.size, 2, none⟩ = some (.int .u16 M'.o) ∧ Below w7.heap.size w7 W) → Calls Tryd.prog 61 #[.int .u16 (diff M'.b M'.o : Nat)] W fun e w' =>
        ∃ A9 c9, e = .returned (.slice A9 (els (diff M'.b M'.o)).length c9) ∧ w'.cell? ⟨w1.heap.size, 1, none⟩ = some (.int .u16 M'.b) ∧ w'.cell? ⟨w1.heap.size, 2, none⟩ = some (.int .u16 M'.o) ∧ Below w7.heap.size w7 w') := Lib.hid (by
       intro W ⟨_, _, hW⟩
       refine (list_calls (diff M'.b M'.o) HDL.out W (HT7.out.keep HT7.out.lt hW)).mono ?_
       rintro e w8 ⟨v, rfl, hR8, hB8⟩
       obtain ⟨A9, c9, rfl, hl9, hC9⟩ := Kd.R_reads hR8
       have hB9 : Below w7.heap.size w7 w8 := hW.trans (hB8.mono hW.size)
       exact ⟨A9, c9, rfl, (hB9.cell (p := ⟨w1.heap.size, 1, none⟩) HMX.out).trans hm1, (hB9.cell (p := ⟨w1.heap.size, 2, none⟩) HMX.out).trans hm2, hB9⟩)
      go_region_held3 (fun w' => w'.cell? ⟨w1.heap.size, 1, none⟩ = some (.int .u16 M'.b) ∧ w'.cell? ⟨w1.heap.size, 2, none⟩ = some (.int .u16 M'.o) ∧ Below w7.heap.size w7 w') (first | exact ⟨hm1, hm2, (Below.refl _ w7).drew⟩ | go_keep | (trace_state; fail))
       (first | (go_at_call 61; refine (HLK.out _ ?_).mono ?_; (first | assumption | (refine ⟨?_, ?_, ?_⟩ <;> assumption) | (trace_state; fail)); rintro e w8 ⟨A9, c9, rfl, hS1, hS2, hS3⟩))
      go_wp2
      go_roundw
      case rel => exact ⟨0 + 1, M', max most (running M'), by omega, by rw [max_run], by go_num, HN2, HI1, Lib.hid (max_bound HMo.out M'), Lib.hid (HM7.out _ hS3), Lib.hid (HB7.out.trans (hS3.mono (Nat.le_of_lt HMX.out)))⟩
      case measure => simp [intOf]; omega
     ·
      have hl1 : ((0 : Int) == (log.length : Int) - 1) = false := beq_eq_false_iff_ne.2 (by omega)
      have hln : 0 + 1 < log.length := by omega
      obtain ⟨z, hze, hz⟩ : ∃ z, z = (rdEv log (0 + 1)).f0 ∧ w6.cell? ⟨ad.block, ad.off + 3, none⟩ = some (.int .i64 z) := by
       obtain ⟨ad', e, hz0, _, _⟩ := at_Ev (Kd.C_below HR1.out HB6.out) (0 + 1) hln
       cases e
       exact ⟨_, rfl, (by simpa [Addr.add] using hz0)⟩
      have hwa : (1 : Int) < (log.length : Int) := by clear hwl; omega
      have hw8 : IntKind.i64.wrap 1 = 1 := IntWalk.i64_in _ (by clear hwl; omega)
      by_cases hzg : x.f0 < z
      ·
       have d3 : decide (x.f0 < z) = true := decide_eq_true hzg
       have HN2 : Hid (replayN g ns log (0 + 1) = some (M', max most (running M'))) := Lib.hid (by have := HN1.out; rwa [show lastOf log 0 = true by unfold lastOf; rw [hxx, ← hze, decide_eq_true (show z > x.f0 from hzg), Bool.or_true], if_pos rfl] at this)
       clear hla HN1 hze hzg
       go_quiet (fail)
       clear hwl hw8
       go_wp2
       generalize hw7 : w6.drewN _ = w7
       have HM7 : Hid (∀ W, Below w7.heap.size w7 W → MAt w1.heap.size C M' W) := Lib.hid fun W hW => MAt.below (by rw [← hw7]; exact HM6.out.below (pw_below_drewN (Below.refl _ w6) _)) hW
       have HB7 : Hid (Below w1.heap.size w1 w7) := Lib.hid (by rw [← hw7]; exact pw_below_drewN HB6.out _)
       have hm := HM7.out _ (Below.refl _ w7)
       have hm1 := hm.2.1
       have hm2 := hm.2.2.1
       have hbd : bits BinOp.andNot IntKind.u16 (M'.b : Int) (M'.o : Int) = ((diff M'.b M'.o : Nat) : Int) := bits_andNot_u16 _ _ hm.2.2.2.2.2.2.1
       have HDL : Hid (diff M'.b M'.o < 65536) := Lib.hid (diff_lt (n := 16) hm.2.2.2.2.2.2.1)
       have HT7 : Hid (Tab w7) := Lib.hid (HT.out.keep HT.out.lt (HB1.out.trans (HB7.out.mono HB1.out.size)))
       have HMX : Hid (w1.heap.size < w7.heap.size) := Lib.hid hm.2.2.2.2.2.2.2.2
       clear hw7 hm hf0 HM6 HB6
       have HLK : Hid (∀ W, (W.cell? ⟨w1.heap.size, 1, none⟩ = some (.int .u16 M'.b) ∧ W.cell? ⟨w1.heap.size, 2, none⟩ = some (.int .u16 M'.o) ∧ Below w7.heap.size w7 W) → Calls Tryd.prog 61 #[.int .u16 (diff M'.b M'.o : Nat)] W fun e w' =>
         ∃ A9 c9, e = .returned (.slice A9 (els (diff M'.b M'.o)).length c9) ∧ w'.cell? ⟨w1.heap.size, 1, none⟩ = some (.int .u16 M'.b) ∧ w'.cell? ⟨w1.heap.size, 2, none⟩ = some (.int .u16 M'.o) ∧ Below w7.heap.size w7 w') := Lib.hid (by
        intro W ⟨_, _, hW⟩
        refine (list_calls (diff M'.b M'.o) HDL.out W (HT7.out.keep HT7.out.lt hW)).mono ?_
        rintro e w8 ⟨v, rfl, hR8, hB8⟩
        obtain ⟨A9, c9, rfl, hl9, hC9⟩ := Kd.R_reads hR8
        have hB9 : Below w7.heap.size w7 w8 := hW.trans (hB8.mono hW.size)
        exact ⟨A9, c9, rfl, (hB9.cell (p := ⟨w1.heap.size, 1, none⟩) HMX.out).trans hm1, (hB9.cell (p := ⟨w1.heap.size, 2, none⟩) HMX.out).trans hm2, hB9⟩)
       go_region_held3 (fun w' => w'.cell? ⟨w1.heap.size, 1, none⟩ = some (.int .u16 M'.b) ∧ w'.cell? ⟨w1.heap.size, 2, none⟩ = some (.int .u16 M'.o) ∧ Below w7.heap.size w7 w') (first | exact ⟨hm1, hm2, (Below.refl _ w7).drew⟩ | go_keep | (trace_state; fail))
        (first | (go_at_call 61; refine (HLK.out _ ?_).mono ?_; (first | assumption | (refine ⟨?_, ?_, ?_⟩ <;> assumption) | (trace_state; fail)); rintro e w8 ⟨A9, c9, rfl, hS1, hS2, hS3⟩))
       go_wp2
       go_roundw
       case rel => exact ⟨0 + 1, M', max most (running M'), by omega, by rw [max_run], by go_num, HN2, HI1, Lib.hid (max_bound HMo.out M'), Lib.hid (HM7.out _ hS3), Lib.hid (HB7.out.trans (hS3.mono (Nat.le_of_lt HMX.out)))⟩
       case measure => simp [intOf]; omega
      ·
       have d3 : decide (x.f0 < z) = false := decide_eq_false hzg
       have HN2 : Hid (replayN g ns log (0 + 1) = some (M', most)) := Lib.hid (by have := HN1.out; rwa [show lastOf log 0 = false by unfold lastOf; rw [hxx, ← hze, decide_eq_false (show ¬ (z > x.f0) from hzg), decide_eq_false hla]; rfl, if_neg (by simp)] at this)
       clear hla HN1 hze hzg
       go_quiet (fail)
       clear hwl hw8
       go_wp2
       go_roundw
       case rel => exact ⟨0 + 1, M', most, by omega, rfl, by go_num, HN2, HI1, HMo, Lib.hid (HM6.out.below (pw_below_drewN (Below.refl _ w6) _)), Lib.hid (pw_below_drewN HB6.out _)⟩
       case measure => simp [intOf]; omega
   ·
    obtain ⟨ad, rfl, hx0, hx1, hx2⟩ := at_Ev (Kd.C_below HR1.out HB.out) k hlt
    go_wp2
    have HNEQ : Hid (w1.heap.size ≠ wr.heap.size) := Lib.hid (Nat.ne_of_lt HM.out.2.2.2.2.2.2.2.2)
    obtain ⟨w5, hw5⟩ : ∃ w5, w5 = wr.alloc (.cells #[.int .i64 (rdEv log k).f0, .int .i64 (rdEv log k).f1, .bool (rdEv log k).f2] 75) := ⟨_, rfl⟩
    rw [← hw5]
    have hq5 : Below wr.heap.size wr w5 := by rw [hw5]; exact (Below.refl _ wr).alloc (Nat.le_refl _) _
    have HM5 : Hid (∀ n, MAt w1.heap.size C M (w5.drewN n)) := Lib.hid fun n => (HM.out.below hq5).below (pw_below_drewN (Below.refl _ w5) n)
    have HB5 : Hid (Below w1.heap.size w1 w5) := Lib.hid (HB.out.trans (hq5.mono HB.out.size))
    have HG5 : Hid (∀ n, IsGraph (w5.drewN n) C g ns) := Lib.hid fun n => (HC.out.below (HB5.out)).below (pw_below_drewN (Below.refl _ w5) n)
    have HS5 : Hid (w1.heap.size ≤ wr.heap.size ∧ wr.heap.size < w5.heap.size) := Lib.hid ⟨HB.out.size, by rw [hw5]; simp⟩
    have he0 : w5.cell? ⟨wr.heap.size, 0, none⟩ = some (.int .i64 (rdEv log k).f0) := by rw [hw5]; simp
    have he1 : w5.cell? ⟨wr.heap.size, 1, none⟩ = some (.int .i64 (rdEv log k).f1) := by rw [hw5]; simp
    have he2 : w5.cell? ⟨wr.heap.size, 2, none⟩ = some (.bool (rdEv log k).f2) := by rw [hw5]; simp
    clear hw5 hq5 hx0 hx1 hx2
    obtain ⟨y, hye, hy⟩ : ∃ y, y = (rdEv log (k - 1)).f0 ∧ w5.cell? (ad.add ((k - 1) * 3)) = some (.int .i64 y) := by
     obtain ⟨ad', e, hy0, _, _⟩ := at_Ev (Kd.C_below HR1.out HB5.out) (k - 1) (by omega)
     cases e
     exact ⟨_, rfl, hy0⟩
    have hk0 : decide ((0 : Int) < (k : Int)) = true := decide_eq_true (by omega)
    have hw3 : (0 : Int) ≤ (k : Int) - 1 := by omega
    have hw4 : (1 : Int) ≤ (k : Int) := by omega
    have hw5 : (k : Int) - 1 < (log.length : Int) := by omega
    have hw2 : ((k : Int) - 1).toNat = k - 1 := by omega
    have hw1 : IntKind.i64.wrap ((k : Int) - 1) = (k : Int) - 1 := IntWalk.i64_in _ (by omega)
    by_cases hgt : (rdEv log k).f0 < y
    ·
     have d2 : decide ((rdEv log k).f0 < y) = true := decide_eq_true hgt
     have HF : Hid (replayN g ns log (k + 1) = none) := Lib.hid (by
      have hio : inOrder log k = false := by unfold inOrder; rw [decide_eq_true hkpos, ← hye, decide_eq_true (show y > (rdEv log k).f0 from hgt)]; rfl
      exact replayN_order HN.out hio)
     clear hye hgt
     generalize rdEv log k = x at *
     go_quiet (fail)
     clear hw1 hw2
     go_wp2
     go_ret3
     exact ReplayPost.none HF.out (by omega) rfl (pw_below_drewN (HB1.out.trans (HB5.out.mono HB1.out.size)) _)
    ·
     have d2 : decide ((rdEv log k).f0 < y) = false := decide_eq_false hgt
     have HIO : Hid (inOrder log k = true) := Lib.hid (by unfold inOrder; rw [← hye, decide_eq_false (show ¬ (y > (rdEv log k).f0) from hgt), Bool.and_false]; rfl)
     clear hye hgt
     cases hs : stepM g ns M (rdEv log k) with
     | none =>
      have HF : Hid (replayN g ns log (k + 1) = none) := Lib.hid (replayN_none1 HN.out HIO.out hs)
      have HS := Lib.hid hs
      clear hs HIO
      generalize rdEv log k = x at *
      (with_reducible refine wp_region_still_tail 16 mixed (by kernel_rfl) ?_; simp only [List.take_succ_cons, List.take_zero, List.drop_succ_cons, List.drop_zero]; repeat (with_reducible refine wpStill_step (fun K hK => ?_); go_simp; with_reducible refine hK _ ?_; clear hK K); try with_reducible refine wpStill_nil ?_)
      clear hw1 hw2
      change wpList _ _ _ _ _ w5.drew
      go_wp2_with (go_at_call 97; refine (take_none C w1.heap.size g ns M x _ (HG5.out 1) HGL.out HNL.out (HM5.out 1) HI.out HTM.out HX.out HS.out).mono ?_; rintro e w6 ⟨rfl, hB6⟩)
      go_ret3
      exact ReplayPost.none HF.out (by omega) rfl (HB1.out.trans ((HB5.out.drew.trans (hB6.mono HB5.out.size)).mono HB1.out.size))
     | some M' =>
      have HN1 : Hid (replayN g ns log (k + 1) = some (M', if lastOf log k then max most (running M') else most)) := Lib.hid (replayN_some1 HN.out HIO.out hs)
      have HI1 := Lib.hid (HI.out.step hs)
      have HS := Lib.hid hs
      clear hs HIO
      generalize hxx : rdEv log k = x at *
      (with_reducible refine wp_region_still_tail 16 mixed (by kernel_rfl) ?_; simp only [List.take_succ_cons, List.take_zero, List.drop_succ_cons, List.drop_zero]; repeat (with_reducible refine wpStill_step (fun K hK => ?_); go_simp; with_reducible refine hK _ ?_; clear hK K); try with_reducible refine wpStill_nil ?_)
      clear hw1 hw2
      change wpList _ _ _ _ _ w5.drew
      go_wp2_with (go_at_call 97; refine (take_some C w1.heap.size g ns M x _ (HG5.out 1) HGL.out HNL.out (HM5.out 1) HI.out HTM.out HX.out M' (Nat.lt_of_le_of_lt HS5.out.1 HS5.out.2) HS.out).mono ?_; rintro e w6 ⟨rfl, hM6, hB6, hO6⟩)
      have HM6 := Lib.hid hM6
      have HB6 : Hid (Below w1.heap.size w1 w6) := Lib.hid (HB5.out.drew.trans hB6)
      have hf0 : w6.cell? ⟨wr.heap.size, 0, none⟩ = some (.int .i64 x.f0) := by rw [hO6.cell _ HS5.out.2 (show wr.heap.size ≠ w1.heap.size from HNEQ.out.symm)]; exact he0
      have hwl : IntKind.i64.wrap ((log.length : Int) - 1) = (log.length : Int) - 1 := IntWalk.i64_in _ (by omega)
      clear he0 he1 he2 hM6 hB6 hO6 HM5 HB5 HG5 HM HB
      by_cases hla : k + 1 = log.length
      ·
       have hl1 : (((k : Nat) : Int) == (log.length : Int) - 1) = true := beq_iff_eq.2 (by omega)
       have HN2 : Hid (replayN g ns log (k + 1) = some (M', max most (running M'))) := Lib.hid (by have := HN1.out; rwa [show lastOf log k = true by unfold lastOf; rw [decide_eq_true hla]; rfl, if_pos rfl] at this)
       clear hla HN1
       go_quiet (fail)
       clear hwl
       go_wp2
       generalize hw7 : w6.drewN _ = w7
       have HM7 : Hid (∀ W, Below w7.heap.size w7 W → MAt w1.heap.size C M' W) := Lib.hid fun W hW => MAt.below (by rw [← hw7]; exact HM6.out.below (pw_below_drewN (Below.refl _ w6) _)) hW
       have HB7 : Hid (Below w1.heap.size w1 w7) := Lib.hid (by rw [← hw7]; exact pw_below_drewN HB6.out _)
       have hm := HM7.out _ (Below.refl _ w7)
       have hm1 := hm.2.1
       have hm2 := hm.2.2.1
       have hbd : bits BinOp.andNot IntKind.u16 (M'.b : Int) (M'.o : Int) = ((diff M'.b M'.o : Nat) : Int) := bits_andNot_u16 _ _ hm.2.2.2.2.2.2.1
       have HDL : Hid (diff M'.b M'.o < 65536) := Lib.hid (diff_lt (n := 16) hm.2.2.2.2.2.2.1)
       have HT7 : Hid (Tab w7) := Lib.hid (HT.out.keep HT.out.lt (HB1.out.trans (HB7.out.mono HB1.out.size)))
       have HMX : Hid (w1.heap.size < w7.heap.size) := Lib.hid hm.2.2.2.2.2.2.2.2
       clear hw7 hm hf0 HM6 HB6
       have HLK : Hid (∀ W, (W.cell? ⟨w1.heap.size, 1, none⟩ = some (.int .u16 M'.b) ∧ W.cell? ⟨w1.heap.size, 2, none⟩ = some (.int .u16 M'.o) ∧ Below w7.heap.size w7 W) → Calls Tryd.prog 61 #[.int .u16 (diff M'.b M'.o : Nat)] W fun e w' =>
         ∃ A9 c9, e = .returned (.slice A9 (els (diff M'.b M'.o)).length c9) ∧ w'.cell? ⟨w1.heap.size, 1, none⟩ = some (.int .u16 M'.b) ∧ w'.cell? ⟨w1.heap.size, 2, none⟩ = some (.int .u16 M'.o) ∧ Below w7.heap.size w7 w') := Lib.hid (by
        intro W ⟨_, _, hW⟩
        refine (list_calls (diff M'.b M'.o) HDL.out W (HT7.out.keep HT7.out.lt hW)).mono ?_
        rintro e w8 ⟨v, rfl, hR8, hB8⟩
        obtain ⟨A9, c9, rfl, hl9, hC9⟩ := Kd.R_reads hR8
        have hB9 : Below w7.heap.size w7 w8 := hW.trans (hB8.mono hW.size)
        exact ⟨A9, c9, rfl, (hB9.cell (p := ⟨w1.heap.size, 1, none⟩) HMX.out).trans hm1, (hB9.cell (p := ⟨w1.heap.size, 2, none⟩) HMX.out).trans hm2, hB9⟩)
       go_region_held3 (fun w' => w'.cell? ⟨w1.heap.size, 1, none⟩ = some (.int .u16 M'.b) ∧ w'.cell? ⟨w1.heap.size, 2, none⟩ = some (.int .u16 M'.o) ∧ Below w7.heap.size w7 w') (first | exact ⟨hm1, hm2, (Below.refl _ w7).drew⟩ | go_keep | (trace_state; fail))
        (first | (go_at_call 61; refine (HLK.out _ ?_).mono ?_; (first | assumption | (refine ⟨?_, ?_, ?_⟩ <;> assumption) | (trace_state; fail)); rintro e w8 ⟨A9, c9, rfl, hS1, hS2, hS3⟩))
       go_wp2
       go_roundw
       case rel => exact ⟨k + 1, M', max most (running M'), by omega, by rw [max_run], by go_num, HN2, HI1, Lib.hid (max_bound HMo.out M'), Lib.hid (HM7.out _ hS3), Lib.hid (HB7.out.trans (hS3.mono (Nat.le_of_lt HMX.out)))⟩
       case measure => simp [intOf]; omega
      ·
       have hl1 : (((k : Nat) : Int) == (log.length : Int) - 1) = false := beq_eq_false_iff_ne.2 (by omega)
       have hln : k + 1 < log.length := by omega
       obtain ⟨z, hze, hz⟩ : ∃ z, z = (rdEv log (k + 1)).f0 ∧ w6.cell? (ad.add ((k + 1) * 3)) = some (.int .i64 z) := by
        obtain ⟨ad', e, hz0, _, _⟩ := at_Ev (Kd.C_below HR1.out HB6.out) (k + 1) hln
        cases e
        exact ⟨_, rfl, hz0⟩
       have hw8 : IntKind.i64.wrap ((k : Int) + 1) = (k : Int) + 1 := IntWalk.i64_in _ (by clear hwl; omega)
       have hw9 : ((k : Int) + 1).toNat = k + 1 := by clear hwl hw8; omega
       have hwa : (k : Int) + 1 < (log.length : Int) := by clear hwl hw8; omega
       have hwb : (0 : Int) ≤ (k : Int) + 1 := by clear hwl hw8; omega
       by_cases hzg : x.f0 < z
       ·
        have d3 : decide (x.f0 < z) = true := decide_eq_true hzg
        have HN2 : Hid (replayN g ns log (k + 1) = some (M', max most (running M'))) := Lib.hid (by have := HN1.out; rwa [show lastOf log k = true by unfold lastOf; rw [hxx, ← hze, decide_eq_true (show z > x.f0 from hzg), Bool.or_true], if_pos rfl] at this)
        clear hla HN1 hze hzg
        go_quiet (fail)
        clear hwl hw8 hw9
        go_wp2
        generalize hw7 : w6.drewN _ = w7
        have HM7 : Hid (∀ W, Below w7.heap.size w7 W → MAt w1.heap.size C M' W) := Lib.hid fun W hW => MAt.below (by rw [← hw7]; exact HM6.out.below (pw_below_drewN (Below.refl _ w6) _)) hW
        have HB7 : Hid (Below w1.heap.size w1 w7) := Lib.hid (by rw [← hw7]; exact pw_below_drewN HB6.out _)
        have hm := HM7.out _ (Below.refl _ w7)
        have hm1 := hm.2.1
        have hm2 := hm.2.2.1
        have hbd : bits BinOp.andNot IntKind.u16 (M'.b : Int) (M'.o : Int) = ((diff M'.b M'.o : Nat) : Int) := bits_andNot_u16 _ _ hm.2.2.2.2.2.2.1
        have HDL : Hid (diff M'.b M'.o < 65536) := Lib.hid (diff_lt (n := 16) hm.2.2.2.2.2.2.1)
        have HT7 : Hid (Tab w7) := Lib.hid (HT.out.keep HT.out.lt (HB1.out.trans (HB7.out.mono HB1.out.size)))
        have HMX : Hid (w1.heap.size < w7.heap.size) := Lib.hid hm.2.2.2.2.2.2.2.2
        clear hw7 hm hf0 HM6 HB6
        have HLK : Hid (∀ W, (W.cell? ⟨w1.heap.size, 1, none⟩ = some (.int .u16 M'.b) ∧ W.cell? ⟨w1.heap.size, 2, none⟩ = some (.int .u16 M'.o) ∧ Below w7.heap.size w7 W) → Calls Tryd.prog 61 #[.int .u16 (diff M'.b M'.o : Nat)] W fun e w' =>
          ∃ A9 c9, e = .returned (.slice A9 (els (diff M'.b M'.o)).length c9) ∧ w'.cell? ⟨w1.heap.size, 1, none⟩ = some (.int .u16 M'.b) ∧ w'.cell? ⟨w1.heap.size, 2, none⟩ = some (.int .u16 M'.o) ∧ Below w7.heap.size w7 w') := Lib.hid (by
         intro W ⟨_, _, hW⟩
         refine (list_calls (diff M'.b M'.o) HDL.out W (HT7.out.keep HT7.out.lt hW)).mono ?_
         rintro e w8 ⟨v, rfl, hR8, hB8⟩
         obtain ⟨A9, c9, rfl, hl9, hC9⟩ := Kd.R_reads hR8
         have hB9 : Below w7.heap.size w7 w8 := hW.trans (hB8.mono hW.size)
         exact ⟨A9, c9, rfl, (hB9.cell (p := ⟨w1.heap.size, 1, none⟩) HMX.out).trans hm1, (hB9.cell (p := ⟨w1.heap.size, 2, none⟩) HMX.out).trans hm2, hB9⟩)
        go_region_held3 (fun w' => w'.cell? ⟨w1.heap.size, 1, none⟩ = some (.int .u16 M'.b) ∧ w'.cell? ⟨w1.heap.size, 2, none⟩ = some (.int .u16 M'.o) ∧ Below w7.heap.size w7 w') (first | exact ⟨hm1, hm2, (Below.refl _ w7).drew⟩ | go_keep | (trace_state; fail))
         (first | (go_at_call 61; refine (HLK.out _ ?_).mono ?_; (first | assumption | (refine ⟨?_, ?_, ?_⟩ <;> assumption) | (trace_state; fail)); rintro e w8 ⟨A9, c9, rfl, hS1, hS2, hS3⟩))
        go_wp2
        go_roundw
        case rel => exact ⟨k + 1, M', max most (running M'), by omega, by rw [max_run], by go_num, HN2, HI1, Lib.hid (max_bound HMo.out M'), Lib.hid (HM7.out _ hS3), Lib.hid (HB7.out.trans (hS3.mono (Nat.le_of_lt HMX.out)))⟩
        case measure => simp [intOf]; omega
       ·
        have d3 : decide (x.f0 < z) = false := decide_eq_false hzg
        have HN2 : Hid (replayN g ns log (k + 1) = some (M', most)) := Lib.hid (by have := HN1.out; rwa [show lastOf log k = false by unfold lastOf; rw [hxx, ← hze, decide_eq_false (show ¬ (z > x.f0) from hzg), decide_eq_false hla]; rfl, if_neg (by simp)] at this)
        clear hla HN1 hze hzg
        go_quiet (fail)
        clear hwl hw8 hw9
        go_wp2
        go_roundw
        case rel => exact ⟨k + 1, M', most, by omega, rfl, by go_num, HN2, HI1, HMo, Lib.hid (HM6.out.below (pw_below_drewN (Below.refl _ w6) _)), Lib.hid (pw_below_drewN HB6.out _)⟩
        case measure => simp [intOf]; omega
  ·
   have hkl : k = log.length := by omega
   subst hkl
   go_wp2
   go_ret3
   unfold ReplayPost
   rw [HN.out]
   exact ⟨w1.heap.size, C, rfl, HM.out, HC.out.below HB.out, HI.out, HB1.out.trans (HB.out.mono HB1.out.size)⟩
end Go.Proofs.YtpmfghbjkampkaaDoor
