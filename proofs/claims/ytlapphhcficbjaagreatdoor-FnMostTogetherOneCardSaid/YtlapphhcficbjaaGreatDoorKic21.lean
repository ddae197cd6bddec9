/- Parts of the proof, laid as one text by a program of mine. -/
import Derived.Test.YtlapphhcficbjaaGreatDoorKic18
import Derived.Test.YtlapphhcficbjaaGreatDoorKic20
import Derived.Test.YtlapphhcficbjaaGreatDoorKic15
import Derived.Test.YtlapphhcficbjaaGreatDoorKic17
import Derived.Test.YtlapphhcficbjaaGreatDoorKic9
namespace Go.Proofs.YtlapphhcficbjaaGreatDoor
set_option linter.unusedVariables false
set_option linter.unusedSimpArgs false
open Go.RowKit Go.Shelf Bits
open Go.Proofs.YtlapphhcficbjaaGreatDoorW.PrintWords Go.Proofs.YtlapphhcficbjaaGreatDoorW.PrintLast Go.Proofs.YtlapphhcficbjaaGreatDoorW.PrintMore
attribute [local go_sem] Oper.semAt_some
def maskN (P : Nat → Bool) : Nat → Nat
 | 0 => 0
 | n + 1 => if P n then maskN P n ||| 2 ^ n else maskN P n
theorem maskN_lt (P : Nat → Bool) : ∀ n, maskN P n < 2 ^ n
 | 0 => by simp [maskN]
 | n + 1 => by
  have ih := maskN_lt P n
  have h2 : maskN P n < 2 ^ (n + 1) := Nat.lt_of_lt_of_le ih (Nat.pow_le_pow_right (by omega) (Nat.le_succ n))
  unfold maskN
  split
  ·
   exact Nat.or_lt_two_pow h2 (Nat.pow_lt_pow_right (by omega) (by omega))
  ·
   exact h2
theorem maskN_bit (P : Nat → Bool) : ∀ n j, j < n → (maskN P n).testBit j = P j
 | n + 1, j, hj => by
  unfold maskN
  by_cases h : j = n
  ·
   subst h
   have h0 : (maskN P j).testBit j = false := bit_far (maskN_lt P j) (Nat.le_refl _)
   cases hp : P j with
   | true => rw [if_pos rfl, or_bit]; simp
   | false => rw [if_neg (by simp)]; exact h0
  ·
   have ih := maskN_bit P n j (by omega)
   split
   ·
    rw [or_bit, ih]; simp [show n ≠ j from fun e => h e.symm]
   ·
    exact ih
theorem els_mask (P : Nat → Bool) {n : Nat} (hn : n ≤ 16) : els (maskN P n) = ints ((List.range n).filter P) := by
 unfold els
 rw [elems_eq hn (maskN_lt P n) P (fun j hj => maskN_bit P n j hj)]
 rfl
theorem maskN_u16 (P : Nat → Bool) {n : Nat} (hn : n ≤ 16) : maskN P n < 65536 := Nat.lt_of_lt_of_le (maskN_lt P n) (Nat.le_trans (Nat.pow_le_pow_right (by omega) hn) (by decide))
theorem startsIn_yes (A : Option Addr) (c : Nat) (g : List Tk) (A1 : Option Addr) (c1 : Nat) (rm : List Int) (wk : Int) (A2 : Option Addr) (c2 : Nat) (st : List Int) (h : vStB g rm wk st = true) (w : World) (hr : kTk.C w A g.length g) (hr1 : (Kd.int .i64).C w A1 rm.length rm) (hr2 : (Kd.int .i64).C w A2 st.length st) (hT : Tab w) :
  Calls Tryz.prog 24 #[.slice A g.length c, .slice A1 rm.length c1, .int .i64 wk, .slice A2 st.length c2] w fun e w' => ∃ C ns, e = .returned (.tuple #[.pointer (some ⟨C, 0, none⟩), .bool true]) ∧ graphN g = some ns ∧ IsGraph w' C g ns ∧ Below w.heap.size w w' := by
 refine (startsIn_calls A c g A1 c1 rm wk A2 c2 st w hr hr1 hr2 hT).mono ?_
 rintro e w' (⟨_, hC⟩ | ⟨h2, _⟩)
 ·
  obtain ⟨C, ns, h1, h2, h3, h4⟩ := hC
  exact ⟨C, ns, h1, h2, h3, h4⟩
 ·
  rw [st_eq, h] at h2
  cases h2
theorem startsIn_no (A : Option Addr) (c : Nat) (g : List Tk) (A1 : Option Addr) (c1 : Nat) (rm : List Int) (wk : Int) (A2 : Option Addr) (c2 : Nat) (st : List Int) (h : vStB g rm wk st = false) (w : World) (hr : kTk.C w A g.length g) (hr1 : (Kd.int .i64).C w A1 rm.length rm) (hr2 : (Kd.int .i64).C w A2 st.length st) (hT : Tab w) :
  Calls Tryz.prog 24 #[.slice A g.length c, .slice A1 rm.length c1, .int .i64 wk, .slice A2 st.length c2] w fun e w' => e = .returned (.tuple #[.pointer none, .bool false]) ∧ Below w.heap.size w w' := by
 refine (startsIn_calls A c g A1 c1 rm wk A2 c2 st w hr hr1 hr2 hT).mono ?_
 rintro e w' (⟨h2, _⟩ | ⟨_, hC⟩)
 ·
  rw [st_eq, h] at h2
  cases h2
 ·
  exact hC
set_option maxRecDepth 100000 in
theorem EndTime_impl (A : Option Addr) (c : Nat) (g : List Tk) (A1 : Option Addr) (c1 : Nat) (rm : List Int) (wk : Int) (A2 : Option Addr) (c2 : Nat) (st : List Int) (w : World) (hr : kTk.C w A g.length g) (hr1 : (Kd.int .i64).C w A1 rm.length rm) (hr2 : (Kd.int .i64).C w A2 st.length st) (hT : Tab w) :
  Calls Tryz.prog 10 #[.slice A g.length c, .slice A1 rm.length c1, .int .i64 wk, .slice A2 st.length c2] w fun e w' => e = .returned (.int .i64 (etS g rm wk st)) ∧ Below w.heap.size w w' := by
 cases h : vStB g rm wk st with
 | true =>
  have HF : Hid (etS g rm wk st = endS g st g.length) := Lib.hid (by unfold etS; rw [if_pos h])
  have HP := Lib.hid (startsIn_yes A c g A1 c1 rm wk A2 c2 st h w hr hr1 hr2 hT)
  have HV := Lib.hid (vSt_valid h)
  have HR2 := Lib.hid hr2
  clear hr hr1 hr2 hT h
  go_enter Tryz.func10, Tryz.ntmps10
  go_wp2_with (first | (go_at_call 24; refine HP.out.mono ?_; rintro e w1 ⟨C, ns, rfl, hg, hG, hB1⟩; have HG := Lib.hid hG; have HB1 := Lib.hid hB1; clear hg hG hB1) | (go_at_call 27; refine (iend_calls C g ns A2 c2 st HV.out.ok HV.out.sok HV.out.len _ HG.out (Kd.C_below HR2.out HB1.out)).mono ?_; rintro e w2 ⟨rfl, rfl⟩))
  go_ret
  exact ⟨ret_int HF.out.symm, HB1.out⟩
 | false =>
  have HF : Hid (etS g rm wk st = -1) := Lib.hid (by unfold etS; rw [h]; rfl)
  have HP := Lib.hid (startsIn_no A c g A1 c1 rm wk A2 c2 st h w hr hr1 hr2 hT)
  clear hr hr1 hr2 hT h
  go_enter Tryz.func10, Tryz.ntmps10
  go_wp2_with (go_at_call 24; refine HP.out.mono ?_; rintro e w1 ⟨rfl, hB1⟩)
  go_ret
  exact ⟨ret_int HF.out.symm, hB1⟩
set_option maxRecDepth 100000 in
set_option maxHeartbeats 4000000 in
theorem RunningAt_impl (A : Option Addr) (c : Nat) (g : List Tk) (A1 : Option Addr) (c1 : Nat) (rm : List Int) (wk : Int) (A2 : Option Addr) (c2 : Nat) (st : List Int) (now : Int) (w : World) (hr : kTk.C w A g.length g) (hr1 : (Kd.int .i64).C w A1 rm.length rm) (hr2 : (Kd.int .i64).C w A2 st.length st) (hT : Tab w) :
  Calls Tryz.prog 11 #[.slice A g.length c, .slice A1 rm.length c1, .int .i64 wk, .slice A2 st.length c2, .int .i64 now] w fun e w' => ∃ v, e = .returned v ∧ Kd.R (Kd.int .i64) 3 w' w.heap.size (fun _ => True) v (ints (raS g rm wk st now)) ∧ Below w.heap.size w w' := by
 cases h : vStB g rm wk st with
 | true =>
  have HF : Hid (raS g rm wk st now = (List.range st.length).filter (runB g st now)) := Lib.hid (by unfold raS runS; rw [if_pos h, (vSt_valid h).len])
  have HP := Lib.hid (startsIn_yes A c g A1 c1 rm wk A2 c2 st h w hr hr1 hr2 hT)
  have HV := Lib.hid (vSt_valid h)
  have HR2 := Lib.hid hr2
  have HT := Lib.hid hT
  have hl8 : st.length ≤ 8 := by rw [HV.out.len]; exact HV.out.ok.1
  clear hr hr1 hr2 hT h
  go_enter Tryz.func11, Tryz.ntmps11
  go_wp2_with (go_at_call 24; refine HP.out.mono ?_; rintro e w1 ⟨C, ns, rfl, hg, hG, hB1⟩; have HB1 := Lib.hid hB1; have HR3 := Lib.hid (Kd.C_below HR2.out hB1); clear hg hB1; obtain ⟨Ag, cg, An, cn, Ao, co, vb, va, h1, h2, _, _⟩ := hG; have cC := blk_cell h1 0; simp at cC; have HR := Lib.hid h2; clear h1 h2)
  go_loop [13, 28] (fun s i => ∃ (j : Nat), j ≤ st.length ∧ i = .int .i64 j ∧ s = .int .u16 (maskN (runB g st now) j : Nat)) (fun _ i => st.length - (intOf i).toNat)
  case atStart => exact ⟨0, Nat.zero_le _, rfl, rfl⟩
  case round =>
   obtain ⟨j, hj, rfl, rfl⟩ := hrel
   by_cases hjl : j < st.length
   ·
    have hjg : j < g.length := by rw [← HV.out.len]; exact hjl
    obtain ⟨ad, A4, c4, rfl, hc0, _⟩ := at_Tk HR.out j hjg
    obtain ⟨ads, rfl, cs⟩ := at_num HR3.out j hjl
    have hjj : decide ((j : Int) < (st.length : Int)) = true := decide_eq_true (by omega)
    have hji : (j : Int) < (g.length : Int) := by omega
    have hjsi : (j : Int) < (st.length : Int) := by omega
    have HE : Hid (maskN (runB g st now) (j + 1) = if runB g st now j then maskN (runB g st now) j ||| 2 ^ j else maskN (runB g st now) j) := Lib.hid rfl
    have HBD : Hid (runB g st now j = (decide (st.getD j 0 ≤ now) && decide (now < st.getD j 0 + (rdTk g j).f0))) := Lib.hid rfl
    have hmk := maskN_u16 (runB g st now) (n := j) (by omega)
    have hj16 : j < 16 := by omega
    have hsj := HV.out.sok j
    have htj := HV.out.ok.2.1 j
    generalize st.getD j 0 = s at cs hsj HBD
    generalize (rdTk g j).f0 = tm at hc0 htj HBD
    generalize runB g st now j = rb at HE HBD
    generalize maskN (runB g st now) j = mk at HE hmk
    have hwr : IntKind.i64.wrap (s + tm) = s + tm := IntWalk.i64_in _ (by omega)
    by_cases g1 : s ≤ now
    ·
     have d1 : decide (s ≤ now) = true := decide_eq_true g1
     by_cases g2 : now < s + tm
     ·
      have d2 : decide (now < s + tm) = true := decide_eq_true g2
      rw [d1, d2] at HBD
      clear g1 g2
      go_wp2_with (go_at_call 28; refine (with_calls mk j hmk hj16 _).mono ?_; rintro e w6 ⟨rfl, rfl⟩)
      clear hwr
      go_round
      case rel => exact ⟨j + 1, by omega, by go_num, by rw [HE.out, HBD.out]; rfl⟩
      case measure => simp [intOf]; omega
     ·
      have d2 : decide (now < s + tm) = false := decide_eq_false g2
      rw [d1, d2] at HBD
      clear g1 g2
      go_wp2
      clear hwr
      go_round
      case rel => exact ⟨j + 1, by omega, by go_num, by rw [HE.out, HBD.out]; rfl⟩
      case measure => simp [intOf]; omega
    ·
     have d1 : decide (s ≤ now) = false := decide_eq_false g1
     rw [d1] at HBD
     clear g1
     go_wp2
     clear hwr
     go_round
     case rel => exact ⟨j + 1, by omega, by go_num, by rw [HE.out, HBD.out]; rfl⟩
     case measure => simp [intOf]; omega
   ·
    obtain rfl : j = st.length := by omega
    have hjj : decide ((st.length : Int) < (st.length : Int)) = false := decide_eq_false (by omega)
    have hmk := maskN_u16 (runB g st now) (n := st.length) (by omega)
    have HEL := Lib.hid (els_mask (runB g st now) (n := st.length) (by omega))
    have HLC := Lib.hid (list_calls (maskN (runB g st now) st.length) hmk _ (HT.out.keep HT.out.lt HB1.out))
    rw [HEL.out, ← HF.out] at HLC
    go_wp2_with (go_at_call 29; refine HLC.out.mono ?_; rintro e w3 ⟨v, rfl, hR, hB3⟩)
    go_ret
    have hz := HB1.out.size
    exact ⟨_, rfl, Kd.R_lower hR hz, HB1.out.trans (hB3.mono hz)⟩
 | false =>
  have HF : Hid (raS g rm wk st now = []) := Lib.hid (by unfold raS; rw [h]; rfl)
  have HP := Lib.hid (startsIn_no A c g A1 c1 rm wk A2 c2 st h w hr hr1 hr2 hT)
  clear hr hr1 hr2 hT h
  go_enter Tryz.func11, Tryz.ntmps11
  go_wp2_with (go_at_call 24; refine HP.out.mono ?_; rintro e w1 ⟨rfl, hB1⟩)
  go_ret
  exact ⟨_, rfl, by rw [HF.out]; exact R_nilJ _ _, hB1⟩
end Go.Proofs.YtlapphhcficbjaaGreatDoor

namespace Go.Proofs.YtlapphhcficbjaaGreatDoor
set_option linter.unusedVariables false
set_option linter.unusedSimpArgs false
open Go.RowKit Go.Shelf Bits
open Go.Proofs.YtlapphhcficbjaaGreatDoorW.PrintWords Go.Proofs.YtlapphhcficbjaaGreatDoorW.PrintLast Go.Proofs.YtlapphhcficbjaaGreatDoorW.PrintMore
def usedOkB (g : List Tk) (rm : List Int) (run : List Nat) : Bool := (List.range 3).all fun p => decide (usedS g run (p : Nat) ≤ rm.getD p 0)
theorem vRunB_eq {g : List Tk} (hv : specValid g = true) {rm : List Int} (hrm : roomB rm = true) (st : List Int) (now : Int) : vRunB g rm (runS g st now) = usedOkB g rm (runS g st now) := by
 unfold vRunB usedOkB
 rw [hv, hrm, runS_in, show ascB (ints (runS g st now)) = true from ascB_filter _ _]
 rfl
theorem ascends_isV (b : Bool) (A : Option Addr) (c : Nat) (l : List Int) (h : Hid (ascB l = b)) (w : World) (hr : (Kd.int .i64).C w A l.length l) :
  Calls Tryz.prog 106 #[.slice A l.length c] w fun e w' => e = .returned (.bool b) ∧ Below w.heap.size w w' :=
 (ascends_calls A c l w hr).mono fun e w' ⟨he, hw⟩ => ⟨by rw [he, h.out], by first | exact hw | (rw [hw]; exact Below.refl _ _)⟩
set_option maxRecDepth 100000 in
set_option maxHeartbeats 4000000 in
theorem validRunning_calls (A : Option Addr) (c : Nat) (g : List Tk) (A1 : Option Addr) (c1 : Nat) (rm : List Int) (A2 : Option Addr) (c2 : Nat) (run : List Nat) (hv : specValid g = true) (hrm : roomB rm = true) (hl : run.length ≤ 50) (hlt : ∀ i ∈ run, i < g.length) (hasc : ascB (ints run) = true) (hin : allInB (ints run) 0 (g.length - 1) = true) (w : World) (hr : kTk.C w A g.length g) (hr1 : (Kd.int .i64).C w A1 rm.length rm) (hr2 : (Kd.int .i64).C w A2 run.length (ints run)) :
  Calls Tryz.prog 68 #[.slice A g.length c, .slice A1 rm.length c1, .slice A2 run.length c2] w fun e w' => e = .returned (.bool (usedOkB g rm run)) ∧ Below w.heap.size w w' := by
 have HR := Lib.hid hr
 have HR1 := Lib.hid hr1
 have HR2 := Lib.hid hr2
 have HV := Lib.hid hv
 have HRM := Lib.hid hrm
 have HLT := Lib.hid hlt
 have HAS := Lib.hid hasc
 have hn8 := (specValid_TOk hv).1
 have HIN := Lib.hid hin
 have HOK := Lib.hid (specValid_TOk hv)
 have H3L := Lib.hid (roomB_facts hrm).1
 have hc2 : (Kd.int .i64).C w A2 (ints run).length (ints run) := by rw [ints_length]; exact hr2
 have HC2 := Lib.hid hc2
 have hwn : IntKind.i64.wrap ((g.length : Int) - 1) = (g.length : Int) - 1 := IntWalk.i64_in _ (by omega)
 have has := fun W (h : (Kd.int .i64).C W A2 (ints run).length (ints run)) => ascends_isV true A2 c2 (ints run) HAS W h
 have hal := fun W (h : (Kd.int .i64).C W A2 (ints run).length (ints run)) => allIn_is true A2 c2 (ints run) 0 ((g.length : Int) - 1) HIN W h
 rw [ints_length] at has hal
 have HASC := Lib.hid has
 have HALL := Lib.hid hal
 clear hr hr1 hr2 hv hrm hlt hasc hin hc2 has hal
 go_enter Tryz.func68, Tryz.ntmps68
 go_wp2_with (first
  | (go_at_call 63; refine (validGraph_is true A c g HV w HR.out).mono ?_; rintro e w1 ⟨rfl, hB1⟩; have HB1 := Lib.hid hB1; clear hB1)
  | (go_at_call 64; refine (validRoom_is _ _ _ _ HRM _ (Kd.C_below HR1.out HB1.out)).mono ?_; rintro e wv ⟨rfl, rfl⟩)
  | (go_at_call 106; refine (HASC.out _ (Kd.C_below HR2.out HB1.out)).mono ?_; rintro e w2 ⟨rfl, hB2⟩; have HB2 := Lib.hid (HB1.out.trans (hB2.mono HB1.out.size)); clear hB2)
  | (go_at_call 66; refine (HALL.out _ (Kd.C_below HR2.out HB2.out)).mono ?_; rintro e w3 ⟨rfl, rfl⟩))
 clear hwn
 go_loopw [7] (fun i wr => ∃ j, j ≤ 3 ∧ i = .int .i64 (j : Nat) ∧ Below w.heap.size w wr ∧ Hid (∀ q, q < j → decide (usedS g run (q : Nat) ≤ rm.getD q 0) = true)) (fun i _ => 3 - (intOf i).toNat)
 case atStart => exact ⟨0, by omega, rfl, HB2.out, Lib.hid fun q h => absurd h (Nat.not_lt_zero _)⟩
 case round =>
  obtain ⟨j, hj, rfl, hB, HS⟩ := hrel
  have HB := Lib.hid hB
  by_cases hj3 : j < 3
  ·
   have dj : decide ((j : Int) < 3) = true := decide_eq_true (by omega)
   obtain ⟨ad, rfl, cx⟩ := at_num (Kd.C_below HR1.out hB) j (by have := H3L.out; omega)
   have hji : (j : Int) < (rm.length : Int) := by have := H3L.out; omega
   have HCG := Lib.hid (Kd.C_below HR.out hB)
   have HCN := Lib.hid (Kd.C_below HR2.out hB)
   have hrl : run.length ≤ 100 := by omega
   obtain ⟨U, hU⟩ : ∃ U, usedS g run (j : Int) = U := ⟨_, rfl⟩
   have HU := Lib.hid hU
   have HX : Hid (∃ x, x = rm.getD j 0) := Lib.hid ⟨_, rfl⟩
   obtain ⟨x, hx⟩ := HX.out
   rw [← hx] at cx
   have hxx := Lib.hid hx
   clear hU
   clear hB hx HX
   by_cases hc : U ≤ x
   ·
    have dc : decide (x < U) = false := decide_eq_false (by omega)
    have HT : Hid (decide (usedS g run (j : Nat) ≤ rm.getD j 0) = true) := Lib.hid (decide_eq_true (by rw [HU.out, ← hxx.out]; exact hc))
    clear hc
    go_wp2
    go_quiet ((go_at_call 107; exact Calls.quiet_of_same (used_is U _ _ g _ _ run (j : Int) HU HOK.out hrl HLT.out _ (Kd.C_drewN HCG.out _) (Kd.C_drewN HCN.out _))))
    go_wp2
    go_roundw
    case rel =>
     refine ⟨j + 1, by omega, by go_num, pw_below_drewN HB.out _, Lib.hid fun q hq => ?_⟩
     by_cases e : q = j
     ·
      rw [e]; exact HT.out
     ·
      exact HS.out q (by omega)
    case measure => simp [intOf]; omega
   ·
    have dc : decide (x < U) = true := decide_eq_true (by omega)
    have HF : Hid (usedOkB g rm run = false) := Lib.hid (by
     unfold usedOkB
     rw [List.all_eq_false]
     exact ⟨j, List.mem_range.2 hj3, by rw [HU.out, ← hxx.out, decide_eq_false hc]; simp⟩)
    clear hc
    go_wp2
    go_quiet ((go_at_call 107; exact Calls.quiet_of_same (used_is U _ _ g _ _ run (j : Int) HU HOK.out hrl HLT.out _ (Kd.C_drewN HCG.out _) (Kd.C_drewN HCN.out _))))
    go_wp2
    go_ret
    exact ⟨ret_bool HF.out.symm, pw_below_drewN HB.out _⟩
  ·
   obtain rfl : j = 3 := by omega
   have dj : decide (((3 : Nat) : Int) < 3) = false := by decide
   have HF : Hid (usedOkB g rm run = true) := Lib.hid (by
    unfold usedOkB
    rw [List.all_eq_true]
    exact fun q hq => HS.out q (List.mem_range.1 hq))
   go_wp2
   go_ret
   exact ⟨ret_bool HF.out.symm, HB.out⟩
set_option maxRecDepth 1000000 in
set_option maxHeartbeats 8000000 in
theorem validStarts_calls (A : Option Addr) (c : Nat) (g : List Tk) (A1 : Option Addr) (c1 : Nat) (rm : List Int) (wk : Int) (A2 : Option Addr) (c2 : Nat) (st : List Int) (w : World) (hr : kTk.C w A g.length g) (hr1 : (Kd.int .i64).C w A1 rm.length rm) (hr2 : (Kd.int .i64).C w A2 st.length st) :
  Calls Tryz.prog 26 #[.slice A g.length c, .slice A1 rm.length c1, .int .i64 wk, .slice A2 st.length c2] w fun e w' => e = .returned (.bool (vStB g rm wk st)) ∧ Below w.heap.size w w' := by
 have HVG := fun b (h : specValid g = b) => validGraph_is b A c g (Lib.hid h) w hr
 have HR := Lib.hid hr
 have HR1 := Lib.hid hr1
 have HR2 := Lib.hid hr2
 have hlg := (C_len hr2).2
 clear hr hr1 hr2
 cases h1 : specValid g with
 | false =>
  have HF : Hid (vStB g rm wk st = false) := Lib.hid (by unfold vStB; rw [h1]; rfl)
  have HVG := Lib.hid (HVG _ h1)
  clear h1
  go_enter Tryz.func26, Tryz.ntmps26
  go_wp2_with (go_at_call 63; refine HVG.out.mono ?_; rintro e w1 ⟨rfl, hB1⟩; have HB1 := Lib.hid hB1; clear hB1)
  go_ret
  exact ⟨ret_bool HF.out.symm, HB1.out⟩
 | true =>
  have HVV := Lib.hid h1
  have HVG := Lib.hid (HVG _ h1)
  have HOK := Lib.hid (specValid_TOk h1)
  have hg8 := (specValid_TOk h1).1
  clear h1
  cases h2 : roomB rm with
  | false =>
   have HF : Hid (vStB g rm wk st = false) := Lib.hid (by unfold vStB; rw [h2, Bool.false_and, Bool.and_false])
   have H2 := Lib.hid h2
   clear h2
   go_enter Tryz.func26, Tryz.ntmps26
   go_wp2_with (first | (go_at_call 63; refine HVG.out.mono ?_; rintro e w1 ⟨rfl, hB1⟩; have HB1 := Lib.hid hB1; clear hB1) | (go_at_call 64; refine (validRoom_is _ _ _ _ H2 _ (Kd.C_below HR1.out HB1.out)).mono ?_; rintro e w' ⟨rfl, rfl⟩))
   go_ret
   exact ⟨ret_bool HF.out.symm, HB1.out⟩
  | true =>
   have H2 := Lib.hid h2
   clear h2
   cases h3 : inB wk 1 4 with
   | false =>
    have HF : Hid (vStB g rm wk st = false) := Lib.hid (by unfold vStB; rw [h3, Bool.false_and, Bool.and_false, Bool.and_false])
    have H3 := Lib.hid h3
    clear h3
    go_enter Tryz.func26, Tryz.ntmps26
    go_wp2_with (first | (go_at_call 63; refine HVG.out.mono ?_; rintro e w1 ⟨rfl, hB1⟩; have HB1 := Lib.hid hB1; clear hB1) | (go_at_call 64; refine (validRoom_is _ _ _ _ H2 _ (Kd.C_below HR1.out HB1.out)).mono ?_; rintro e w' ⟨rfl, rfl⟩) | (go_at_call 65; refine (inRange_is _ _ _ _ H3 _).mono ?_; rintro e w' ⟨rfl, rfl⟩))
    go_ret
    exact ⟨ret_bool HF.out.symm, HB1.out⟩
   | true =>
    have H3 := Lib.hid h3
    clear h3
    by_cases h4 : st.length = g.length
    ·
     have d4 : ((st.length : Int) != (g.length : Int)) = false := by rw [bne_eq_false_iff_eq]; omega
     have HL := Lib.hid h4
     cases h5 : allInB st 0 200 with
     | false =>
      have HF : Hid (vStB g rm wk st = false) := Lib.hid (by unfold vStB; rw [h5]; simp)
      have H5 := Lib.hid h5
      clear h4 h5
      go_enter Tryz.func26, Tryz.ntmps26
      go_wp2_with (first | (go_at_call 63; refine HVG.out.mono ?_; rintro e w1 ⟨rfl, hB1⟩; have HB1 := Lib.hid hB1; clear hB1) | (go_at_call 64; refine (validRoom_is _ _ _ _ H2 _ (Kd.C_below HR1.out HB1.out)).mono ?_; rintro e w' ⟨rfl, rfl⟩) | (go_at_call 65; refine (inRange_is _ _ _ _ H3 _).mono ?_; rintro e w' ⟨rfl, rfl⟩) | (go_at_call 66; refine (allIn_is _ _ _ _ _ _ H5 _ (Kd.C_below HR2.out HB1.out)).mono ?_; rintro e w' ⟨rfl, rfl⟩))
      go_ret
      exact ⟨ret_bool HF.out.symm, HB1.out⟩
     | true =>
      have HE : Hid (vStB g rm wk st = (List.range g.length).all (startOkB g rm wk st)) := Lib.hid (by unfold vStB; rw [HVV.out, H2.out, H3.out, h5, decide_eq_true h4]; rfl)
      have H5 := Lib.hid h5
      have HSOK := Lib.hid (allIn_sok h5)
      have HNI := Lib.hid (spec_needs_in HVV.out)
      have HVRG := Lib.hid (fun (run : List Nat) (b : Bool) (hu : usedOkB g rm run = b) (q1 : run.length ≤ 50) (q2 : ∀ i ∈ run, i < g.length) (q3 : ascB (ints run) = true) (q4 : allInB (ints run) 0 (g.length - 1) = true) (W : World) Ar cr h h1 h2 => (validRunning_calls A c g A1 c1 rm Ar cr run HVV.out H2.out q1 q2 q3 q4 W h h1 h2).mono fun e w' hh => (⟨by rw [hh.1, hu], hh.2⟩ : e = .returned (.bool b) ∧ Below W.heap.size W w'))
      have HRA := Lib.hid (fun (now : Int) (W : World) h h' => runningAt_calls A c g A2 c2 st now HOK.out HSOK.out h4 W h h')
      clear h4 h5
      go_enter Tryz.func26, Tryz.ntmps26
      go_wp2_with (first | (go_at_call 63; refine HVG.out.mono ?_; rintro e w1 ⟨rfl, hB1⟩; have HB1 := Lib.hid hB1; clear hB1) | (go_at_call 64; refine (validRoom_is _ _ _ _ H2 _ (Kd.C_below HR1.out HB1.out)).mono ?_; rintro e w' ⟨rfl, rfl⟩) | (go_at_call 65; refine (inRange_is _ _ _ _ H3 _).mono ?_; rintro e w' ⟨rfl, rfl⟩) | (go_at_call 66; refine (allIn_is _ _ _ _ _ _ H5 _ (Kd.C_below HR2.out HB1.out)).mono ?_; rintro e w' ⟨rfl, rfl⟩))
      have HBB := Lib.hid HB1.out
      go_loopw [9] (fun i wr => ∃ j, j ≤ g.length ∧ i = .int .i64 (j : Nat) ∧ Below w.heap.size w wr ∧ Hid (∀ q, q < j → startOkB g rm wk st q = true)) (fun i _ => g.length - (intOf i).toNat)
      case atStart => exact ⟨0, Nat.zero_le _, rfl, HBB.out, Lib.hid fun q h => absurd h (Nat.not_lt_zero _)⟩
      case round =>
       obtain ⟨j, hj, rfl, hB, HS⟩ := hrel
       obtain ⟨wo, rfl⟩ : ∃ wo : World, wo = wr := ⟨_, rfl⟩
       have HB := Lib.hid hB
       clear hB
       by_cases hjl : j < g.length
       ·
        have hjj : decide ((j : Int) < (g.length : Int)) = true := decide_eq_true (by omega)
        have hji : (j : Int) < (g.length : Int) := by omega
        have hjs : (j : Int) < (st.length : Int) := by have := HL.out; omega
        have HNJ := Lib.hid (HNI.out j hjl)
        obtain ⟨ad, A3, c3, rfl, hx0, hx1, hx2, hx3, hl3, hC3⟩ := at_Tk (Kd.C_below HR.out HB.out) j hjl
        have hnl := (C_len hC3).2
        have HNO : Hid (needsOkB g st j = (rdTk g j).f1.all fun x => decide (st.getD x.toNat 0 + (rdTk g x.toNat).f0 ≤ st.getD j 0)) := Lib.hid rfl
        have HTJ := Lib.hid (And.intro hx1 hC3)
        clear hx0 hx1 hx2 hx3 hl3 hC3
        generalize (rdTk g j).f1 = nd at HNJ HNO HTJ hnl
        go_wp2
        go_loopw [10] (fun i wi => ∃ q, q ≤ nd.length ∧ i = .int .i64 (q : Nat) ∧ Below wo.heap.size wo wi ∧ Hid (∀ p, p < q → decide (st.getD (nd.getD p 0).toNat 0 + (rdTk g (nd.getD p 0).toNat).f0 ≤ st.getD j 0) = true)) (fun i _ => nd.length - (intOf i).toNat)
        case atStart => exact ⟨0, Nat.zero_le _, rfl, Below.refl _ _, Lib.hid fun q h => absurd h (Nat.not_lt_zero _)⟩
        case round =>
         obtain ⟨q, hq, rfl, hBi, HI⟩ := hrel
         have HBi := Lib.hid hBi
         have HBw := Lib.hid (HB.out.trans (hBi.mono HB.out.size))
         have cn := (hBi.cell (World.block_lt_of_cell? wo _ HTJ.out.1)).trans HTJ.out.1
         have hC3 := Kd.C_below HTJ.out.2 hBi
         clear hBi
         by_cases hql : q < nd.length
         ·
          have hqq : decide ((q : Int) < (nd.length : Int)) = true := decide_eq_true (by omega)
          have hqi : (q : Int) < (nd.length : Int) := by omega
          obtain ⟨ad3, rfl, cq⟩ := at_num hC3 q hql
          have hxr := HNJ.out (nd.getD q 0) (mem_getD hql)
          have HXQ : Hid (∃ m : Nat, nd.getD q 0 = (m : Int) ∧ m < g.length) := Lib.hid ⟨(nd.getD q 0).toNat, by omega, by omega⟩
          obtain ⟨m, hm, hmg⟩ := HXQ.out
          have HMQ := Lib.hid hm
          rw [hm] at cq
          clear hxr HXQ hm hC3
          obtain ⟨adm, Am, cm, e1, hm0, _⟩ := at_Tk (Kd.C_below HR.out HBw.out) m hmg
          cases e1
          obtain ⟨ads, e2, csm⟩ := at_num (Kd.C_below HR2.out HBw.out) m (by have := HL.out; omega)
          obtain ⟨ads', e3, csj⟩ := at_num (Kd.C_below HR2.out HBw.out) j (by have := HL.out; omega)
          subst e2
          cases e3
          have hmi : (m : Int) < (g.length : Int) := by omega
          have hms : (m : Int) < (st.length : Int) := by have := HL.out; omega
          have hsm := HSOK.out m
          have htm := HOK.out.2.1 m
          have HD : Hid (decide (st.getD (nd.getD q 0).toNat 0 + (rdTk g (nd.getD q 0).toNat).f0 ≤ st.getD j 0) = decide (st.getD m 0 + (rdTk g m).f0 ≤ st.getD j 0)) := Lib.hid (by rw [HMQ.out, Int.toNat_natCast])
          generalize st.getD m 0 = sm at csm hsm HD
          generalize (rdTk g m).f0 = tm at hm0 htm HD
          have HSJ : Hid (∃ x, x = st.getD j 0) := Lib.hid ⟨_, rfl⟩
          obtain ⟨sj, hsj⟩ := HSJ.out
          rw [← hsj] at csj HD
          have HSJ2 := Lib.hid hsj
          clear hsj HSJ
          by_cases hc : sm + tm ≤ sj
          ·
           have dc : decide (sj < sm + tm) = false := decide_eq_false (by omega)
           have HT : Hid (decide (st.getD (nd.getD q 0).toNat 0 + (rdTk g (nd.getD q 0).toNat).f0 ≤ st.getD j 0) = true) := Lib.hid (by rw [← HSJ2.out, HD.out]; exact decide_eq_true hc)
           have hwr : IntKind.i64.wrap (sm + tm) = sm + tm := IntWalk.i64_in _ (by omega)
           clear hc
           go_wp2
           go_quiet (fail)
           clear hwr
           go_wp2
           go_roundw
           case rel =>
            refine ⟨q + 1, by omega, by go_num, pw_below_drewN HBi.out _, Lib.hid fun p hp => ?_⟩
            by_cases e : p = q
            ·
             rw [e]; exact HT.out
            ·
             exact HI.out p (by omega)
           case measure => simp [intOf]; omega
          ·
           have dc : decide (sj < sm + tm) = true := decide_eq_true (by omega)
           have HF : Hid (vStB g rm wk st = false) := Lib.hid (by
            rw [HE.out, List.all_eq_false]
            refine ⟨j, List.mem_range.2 hjl, ?_⟩
            unfold startOkB
            rw [show needsOkB g st j = false by
             rw [HNO.out]
             exact all_not 0 hql (by rw [← HSJ2.out, HD.out]; exact decide_eq_false hc)]
            simp)
           have hwr : IntKind.i64.wrap (sm + tm) = sm + tm := IntWalk.i64_in _ (by omega)
           clear hc
           go_wp2
           go_quiet (fail)
           clear hwr
           go_wp2
           go_ret
           exact ⟨ret_bool HF.out.symm, pw_below_drewN HBw.out _⟩
         ·
          obtain rfl : q = nd.length := by omega
          have hqq : decide ((nd.length : Int) < (nd.length : Int)) = false := decide_eq_false (by omega)
          have HNT : Hid (needsOkB g st j = true) := Lib.hid (by rw [HNO.out]; exact all_take 0 (fun p hp => HI.out p hp))
          obtain ⟨ads', e3, csj⟩ := at_num (Kd.C_below HR2.out HBw.out) j (by have := HL.out; omega)
          subst e3
          have HSE : Hid (startOkB g rm wk st j = (needsOkB g st j && (decide (((runS g st (st.getD j 0)).length : Int) ≤ wk) && usedOkB g rm (runS g st (st.getD j 0))))) := Lib.hid (by rw [← vRunB_eq HVV.out H2.out]; rfl)
          have HRJ := Lib.hid (HRA.out (st.getD j 0) wr (Kd.C_below HR.out HBw.out) (Kd.C_below HR2.out HBw.out))
          have HRF := Lib.hid (And.intro (show (runS g st (st.getD j 0)).length ≤ 50 from Nat.le_trans (filter_range_le _ _) (by omega)) (And.intro (fun i (hi : i ∈ runS g st (st.getD j 0)) => (mem_runS.1 hi).1) (And.intro (show ascB (ints (runS g st (st.getD j 0))) = true from ascB_filter _ _) (runS_in g st (st.getD j 0)))))
          generalize runS g st (st.getD j 0) = run at HSE HRJ HRF
          generalize st.getD j 0 = sj at csj HRJ
          by_cases hc : (run.length : Int) ≤ wk
          ·
           have dc : decide (wk < (run.length : Int)) = false := decide_eq_false (by omega)
           rw [HNT.out, decide_eq_true hc, Bool.true_and, Bool.true_and] at HSE
           clear hc
           cases hu : usedOkB g rm run with
           | true =>
            rw [hu] at HSE
            have HVR := Lib.hid (HVRG.out run true hu HRF.out.1 HRF.out.2.1 HRF.out.2.2.1 HRF.out.2.2.2)
            clear hu
            go_wp2_with (first | (go_at_call 67; refine HRJ.out.mono ?_; rintro e w4 ⟨v4, rfl, hR4, hB4⟩; obtain ⟨A4, c4, rfl, _, hC4⟩ := Kd.R_reads hR4; rw [ints_length] at hC4; rw [ints_length]; have HC4 := Lib.hid hC4; have HB4 := Lib.hid (HBw.out.trans (hB4.mono HBw.out.size)); clear hR4 hC4 hB4) | (go_at_call 68; refine (HVR.out _ A4 c4 (Kd.C_below HR.out HB4.out) (Kd.C_below HR1.out HB4.out) HC4.out).mono ?_; rintro e w5 ⟨rfl, hB5⟩; have HB5 := Lib.hid (HB4.out.trans (hB5.mono HB4.out.size)); clear hB5))
            go_roundw
            case rel =>
             refine ⟨j + 1, by omega, by go_num, HB5.out, Lib.hid fun q hq => ?_⟩
             by_cases e : q = j
             ·
              rw [e]; exact HSE.out
             ·
              exact HS.out q (by omega)
            case measure => simp [intOf]; omega
           | false =>
            rw [hu] at HSE
            have HF : Hid (vStB g rm wk st = false) := Lib.hid (by
             rw [HE.out, List.all_eq_false]
             exact ⟨j, List.mem_range.2 hjl, by rw [HSE.out]; simp⟩)
            have HVR := Lib.hid (HVRG.out run false hu HRF.out.1 HRF.out.2.1 HRF.out.2.2.1 HRF.out.2.2.2)
            clear hu
            go_wp2_with (first | (go_at_call 67; refine HRJ.out.mono ?_; rintro e w4 ⟨v4, rfl, hR4, hB4⟩; obtain ⟨A4, c4, rfl, _, hC4⟩ := Kd.R_reads hR4; rw [ints_length] at hC4; rw [ints_length]; have HC4 := Lib.hid hC4; have HB4 := Lib.hid (HBw.out.trans (hB4.mono HBw.out.size)); clear hR4 hC4 hB4) | (go_at_call 68; refine (HVR.out _ A4 c4 (Kd.C_below HR.out HB4.out) (Kd.C_below HR1.out HB4.out) HC4.out).mono ?_; rintro e w5 ⟨rfl, hB5⟩; have HB5 := Lib.hid (HB4.out.trans (hB5.mono HB4.out.size)); clear hB5))
            go_ret
            exact ⟨ret_bool HF.out.symm, HB5.out⟩
          ·
           have dc : decide (wk < (run.length : Int)) = true := decide_eq_true (by omega)
           have HF : Hid (vStB g rm wk st = false) := Lib.hid (by
            rw [HE.out, List.all_eq_false]
            exact ⟨j, List.mem_range.2 hjl, by rw [HSE.out, decide_eq_false hc]; simp⟩)
           clear hc
           go_wp2_with (go_at_call 67; refine HRJ.out.mono ?_; rintro e w4 ⟨v4, rfl, hR4, hB4⟩; obtain ⟨A4, c4, rfl, _, hC4⟩ := Kd.R_reads hR4; rw [ints_length] at hC4; rw [ints_length]; have HC4 := Lib.hid hC4; have HB4 := Lib.hid (HBw.out.trans (hB4.mono HBw.out.size)); clear hR4 hC4 hB4)
           go_ret
           exact ⟨ret_bool HF.out.symm, HB4.out⟩
       ·
        obtain rfl : j = g.length := by omega
        have hjj : decide ((g.length : Int) < (g.length : Int)) = false := decide_eq_false (by omega)
        have HF : Hid (vStB g rm wk st = true) := Lib.hid (by
         rw [HE.out, List.all_eq_true]
         exact fun q hq => HS.out q (List.mem_range.1 hq))
        go_wp2
        go_ret
        exact ⟨ret_bool HF.out.symm, HB.out⟩
    ·
     have d4 : ((st.length : Int) != (g.length : Int)) = true := by rw [bne_iff_ne]; omega
     have HF : Hid (vStB g rm wk st = false) := Lib.hid (by unfold vStB; rw [decide_eq_false h4]; simp)
     clear h4
     go_enter Tryz.func26, Tryz.ntmps26
     go_wp2_with (first | (go_at_call 63; refine HVG.out.mono ?_; rintro e w1 ⟨rfl, hB1⟩; have HB1 := Lib.hid hB1; clear hB1) | (go_at_call 64; refine (validRoom_is _ _ _ _ H2 _ (Kd.C_below HR1.out HB1.out)).mono ?_; rintro e w' ⟨rfl, rfl⟩) | (go_at_call 65; refine (inRange_is _ _ _ _ H3 _).mono ?_; rintro e w' ⟨rfl, rfl⟩))
     go_ret
     exact ⟨ret_bool HF.out.symm, HB1.out⟩
theorem validStarts_is (b : Bool) (A : Option Addr) (c : Nat) (g : List Tk) (A1 : Option Addr) (c1 : Nat) (rm : List Int) (wk : Int) (A2 : Option Addr) (c2 : Nat) (st : List Int) (h : Hid (vStB g rm wk st = b)) (w : World) (hr : kTk.C w A g.length g) (hr1 : (Kd.int .i64).C w A1 rm.length rm) (hr2 : (Kd.int .i64).C w A2 st.length st) :
  Calls Tryz.prog 26 #[.slice A g.length c, .slice A1 rm.length c1, .int .i64 wk, .slice A2 st.length c2] w fun e w' => e = .returned (.bool b) ∧ Below w.heap.size w w' :=
 (validStarts_calls A c g A1 c1 rm wk A2 c2 st w hr hr1 hr2).mono fun e w' ⟨he, hw⟩ => ⟨by rw [he, h.out], hw⟩
end Go.Proofs.YtlapphhcficbjaaGreatDoor

namespace Go.Proofs.YtlapphhcficbjaaGreatDoor
set_option linter.unusedVariables false
set_option linter.unusedSimpArgs false
open Go.RowKit Go.Shelf Bits
open Go.Proofs.YtlapphhcficbjaaGreatDoorW.PrintWords Go.Proofs.YtlapphhcficbjaaGreatDoorW.PrintLast Go.Proofs.YtlapphhcficbjaaGreatDoorW.PrintMore
attribute [local go_sem] Oper.semAt_some
theorem map_snoc_range (F : Nat → Int) (j : Nat) : (List.range (j + 1)).map F = (List.range j).map F ++ [F j] := by
 rw [List.range_succ, List.map_append]
 rfl
end Go.Proofs.YtlapphhcficbjaaGreatDoor

namespace Go.Proofs.YtlapphhcficbjaaGreatDoor
set_option linter.unusedVariables false
set_option linter.unusedSimpArgs false
open Go.RowKit Go.Shelf Bits
open Go.Proofs.YtlapphhcficbjaaGreatDoorW.PrintWords Go.Proofs.YtlapphhcficbjaaGreatDoorW.PrintLast Go.Proofs.YtlapphhcficbjaaGreatDoorW.PrintMore
attribute [local go_sem] Oper.semAt_some
theorem infoEv : (Tryz.prog.info? 75).map (fun i => (i.zero, i.size, i.bytes)) = some (some (.agg #[(.int .i64 0), (.int .i64 0), (.bool false)]), 3, 24) := by kernel_rfl
section
variable {ops : Array Oper} {o : Oper} {rest : List Oper} {a : Act} {Q : Exit → Act → World → Prop} {w0 W : World}
theorem ap_ev1 (base : Nat) (hgd : o.guard = none) (s x : Operand) (ho : o.op = .call { callee := .builtin .append, args := #[s, x], argTypes := #[37, 37] })
  (v : Value) (xs : List Ev) (y : Ev) (hs : a.eval s = v) {N : Nat} (hx : a.eval x = .slice (some ⟨N, 0, none⟩) 1 1) (hN : N = W.heap.size)
  (HO : Kd.R kEv 75 W base (fun _ => True) v xs) (HB : Below base w0 W) (hbase : base ≤ W.heap.size) (hl : xs.length < 1000000)
  (h : ∀ v1 w1, Kd.R kEv 75 w1 base (fun _ => True) v1 (xs ++ [y]) → Below base w0 w1 → (W.alloc (.cells #[.int .i64 y.f0, .int .i64 y.f1, .bool y.f2] 75)).grownBy w1 v.ownBlock → (v1.ownBlock = v.ownBlock ∨ ∃ b, v1.ownBlock = some b ∧ (W.alloc (.cells #[.int .i64 y.f0, .int .i64 y.f1, .bool y.f2] 75)).heap.size ≤ b) → wpList Tryz.prog ops Q rest (a.put o.dst v1) w1) :
  wpList Tryz.prog ops Q (o :: rest) a (W.alloc (.cells #[.int .i64 y.f0, .int .i64 y.f1, .bool y.f2] 75)) := by
 have hBa : Below W.heap.size W (W.alloc (.cells #[.int .i64 y.f0, .int .i64 y.f1, .bool y.f2] 75)) := (Below.refl _ _).alloc (Nat.le_refl _) _
 refine Kd.R_append_rows kEv base hgd s x 37 75 (.agg #[(.int .i64 0), (.int .i64 0), (.bool false)]) 24 ho Tryz.underlying37 infoEv rfl (by decide) (by decide)
  v xs [y] (some ⟨N, 0, none⟩) 1 1 (fun _ => True) (fun _ => False) hs hx (Kd.R_below HO hBa) (Rr := kEv.K (W.alloc (.cells #[.int .i64 y.f0, .int .i64 y.f1, .bool y.f2] 75))) ?_ (fun p cs hp => ?_) (fun _ hk => hk.elim) (fun _ _ => trivial) (HB.trans (hBa.mono hbase)) (by have := hBa.size; omega) (by omega) h
 ·
  subst hN
  refine ⟨rfl, by omega, fun _ => ⟨_, rfl, fun j p hj => ⟨[.int .i64 p.f0, .int .i64 p.f1, .bool p.f2], rfl, kEv.K_of_M (kEv_mkM _ 0 (fun _ => True) p), fun i u hu => ?_⟩⟩⟩
  have hblk := World.alloc_heap_new W (.cells #[.int .i64 y.f0, .int .i64 y.f1, .bool y.f2] 75)
  have e2 : ∀ q, (⟨W.heap.size, 0, none⟩ : Addr).add q = ⟨W.heap.size, q, none⟩ := fun q => by
   unfold Addr.add
   split <;> simp_all
  rw [e2]
  have hc := blk_cell hblk (j * kEv.sz + i)
  rw [hc]
  rcases j with _ | j
  ·
   cases hj
   rcases i with _ | _ | _ | i
   ·
    simpa using hu
   ·
    simpa using hu
   ·
    simpa using hu
   ·
    simp at hu
  ·
   simp at hj
 ·
  rw [kEv_open hp]
  exact kEv_mkM _ _ _ p
end
theorem take_snocE' {l : List Ev} {k : Nat} (h : k < l.length) : l.take (k + 1) = l.take k ++ [rdEv l k] := by
 rw [List.take_succ_eq_append_getElem h]
 unfold rdEv
 rw [List.getD_eq_getElem?_getD, List.getElem?_eq_getElem h]
 rfl
theorem R_nilE (w : World) (base : Nat) : Kd.R kEv 75 w base (fun _ => True) (.slice none 0 0) [] := ⟨fun _ _ => trivial, [], ⟨by simp, .inl ⟨rfl, rfl⟩⟩, Reps.none _ _⟩
set_option maxRecDepth 1000000 in
set_option maxHeartbeats 4000000 in
theorem LogOf_impl (A : Option Addr) (c : Nat) (g : List Tk) (A1 : Option Addr) (c1 : Nat) (rm : List Int) (wk : Int) (A2 : Option Addr) (c2 : Nat) (st : List Int) (w : World) (hr : kTk.C w A g.length g) (hr1 : (Kd.int .i64).C w A1 rm.length rm) (hr2 : (Kd.int .i64).C w A2 st.length st) (hT : Tab w) :
  Calls Tryz.prog 21 #[.slice A g.length c, .slice A1 rm.length c1, .int .i64 wk, .slice A2 st.length c2] w fun e w' => ∃ v, e = .returned v ∧ Kd.R kEv 75 w' w.heap.size (fun _ => True) v (lgS g rm wk st) ∧ Below w.heap.size w w' := by
 cases h : vStB g rm wk st with
 | true =>
  obtain ⟨i0, hi, hz0, hz1, hz2⟩ := info_parts infoEv
  have HP := Lib.hid (startsIn_yes A c g A1 c1 rm wk A2 c2 st h w hr hr1 hr2 hT)
  have HV := Lib.hid (vSt_valid h)
  have HR2 := Lib.hid hr2
  have h8 := HV.out.ok.1
  have hw2 : IntKind.i64.wrap (2 * (g.length : Int)) = ((2 * g.length : Nat) : Int) := by rw [show 2 * (g.length : Int) = ((2 * g.length : Nat) : Int) by omega]; exact IntWalk.i64_in _ (by omega)
  have HF : Hid (lgS g rm wk st = chgS g st) := Lib.hid (by unfold lgS; rw [h, if_pos rfl])
  have hCL := chgS_len g st
  have HCH := Lib.hid (fun (W : World) C ns (hG : IsGraph W C g ns) (hB : Below w.heap.size w W) => changes_calls C g ns A2 c2 st HV.out.ok HV.out.sok HV.out.len W hG (Kd.C_below hr2 hB))
  clear hr hr1 hr2 hT h
  generalize chgS g st = cl at HF hCL HCH
  have hcl16 : cl.length ≤ 16 := by omega
  clear hCL
  go_enter Tryz.func21, Tryz.ntmps21
  go_wp2_with (first | (go_at_call 24; refine HP.out.mono ?_; rintro e w1 ⟨C, ns, rfl, hg, hG, hB1⟩; have HB1 := Lib.hid hB1; have HG := Lib.hid hG; clear hg hB1 hG) | (go_at_call 43; refine (size_calls _ C g ns HG.out).mono ?_; rintro e w' ⟨rfl, h⟩; obtain rfl : w1 = w' := h.symm) | (at_make; refine wpList_make_own _ rfl _ _ 37 rfl w.heap.size 75 i0 (.agg #[(.int .i64 0), (.int .i64 0), (.bool false)]) 3 Tryz.underlying37 hi hz0 hz1 .i64 .i64 _ (2 * g.length) rfl rfl rfl (by rw [hz2]; omega) (by simp only [maxLen]; omega) HB1.out.size ?_; intro w2 hown hg2; have HB2 := Lib.hid ((Below.refl w1.heap.size w1).grown hg2 (Nat.le_refl _) (fun k e => by cases e))) | (go_at_call 50; refine (HCH.out _ C ns (HG.out.below HB2.out) (HB1.out.trans (HB2.out.mono HB1.out.size))).mono ?_; rintro e w3 ⟨A3, c3, rfl, hC3, hB3⟩; have HC3 := Lib.hid hC3; have HB3 := Lib.hid hB3; clear hC3 hB3))
  have hz1 := HB1.out.size
  have hz2 := HB2.out.size
  have hz3 := HB3.out.size
  have HO : Hid (Kd.R kEv 75 w3 w.heap.size (fun _ => True) (.slice (some ⟨w1.heap.size, 0, none⟩) 0 (2 * g.length)) (cl.take 0)) := Lib.hid (Kd.R_below ⟨fun _ _ => trivial, [], hown, Reps.none _ _⟩ HB3.out)
  have HBW := Lib.hid ((HB1.out.trans (HB2.out.mono HB1.out.size)).trans (HB3.out.mono (by omega)))
  have hlt2 : w1.heap.size < w2.heap.size := by
   have := own_lt hown w1.heap.size rfl
   omega
  clear hown hg2 hw2
  go_loopw [11, 32] (fun out i wr => ∃ j, j ≤ cl.length ∧ i = .int .i64 (j : Nat) ∧ Kd.R kEv 75 wr w.heap.size (fun _ => True) out (cl.take j) ∧ Below w.heap.size w wr ∧ w3.heap.size ≤ wr.heap.size ∧ Hid (∀ k, w2.heap.size ≤ k → k < w3.heap.size → wr.heap[k]? = w3.heap[k]?) ∧ Hid (∀ k, out.ownBlock = some k → k < w2.heap.size ∨ w3.heap.size ≤ k)) (fun _ i _ => cl.length - (intOf i).toNat)
  case atStart => exact ⟨0, Nat.zero_le _, rfl, HO.out, HBW.out, Nat.le_refl _, Lib.hid (fun _ _ _ => rfl), Lib.hid (fun k hk => by cases hk; exact .inl hlt2)⟩
  case round =>
   clear HO
   obtain ⟨j, hj, rfl, hO, hB, hsz, HK, HOW⟩ := hrel
   by_cases hjl : j < cl.length
   ·
    have hjj : decide ((j : Int) < (cl.length : Int)) = true := decide_eq_true (by omega)
    have hji : (j : Int) < (cl.length : Int) := by omega
    have hCR := HC3.out wr hsz (fun k h1 h2 => HK.out k h1 h2)
    obtain ⟨ad, rfl, x0, x1, x2⟩ := at_Ev hCR j hjl
    have HTK : Hid (cl.take (j + 1) = cl.take j ++ [rdEv cl j]) := Lib.hid (take_snocE' hjl)
    have hcl6 : (cl.take j).length < 1000000 := by rw [List.length_take]; omega
    generalize rdEv cl j = ev at x0 x1 x2 HTK
    obtain ⟨ea, et, eb⟩ := ev
    have hBA0 : Below wr.heap.size wr (wr.alloc (.cells #[.int .i64 ea, .int .i64 et, .bool eb] 80)) := (Below.refl _ _).alloc (Nat.le_refl _) _
    have hOA := Kd.R_below hO hBA0
    have hBA := hB.trans (hBA0.mono hB.size)
    have HSZ := Lib.hid hsz
    generalize cl.take j = fl at hOA HTK hcl6
    clear hO hB hCR hBA0 hsz
    go_wp2_with (at_builtin; refine ap_ev1 (w0 := w) (N := wr.heap.size + 1) w.heap.size rfl _ _ rfl u11 fl ⟨ea, et, eb⟩ rfl rfl (by simp) hOA hBA hBA.size hcl6 ?_; intro v1 w4 hO3 hB3 hg3 hat3)
    go_roundw
    case rel =>
     have hs4 := hg3.size
     have hsz := HSZ.out
     simp only [World.size_alloc] at hs4
     refine ⟨j + 1, by omega, by go_num, by rw [HTK.out]; exact hO3, hB3, by omega, Lib.hid (fun k hk1 hk2 => ?_), Lib.hid (fun k hk => ?_)⟩
     ·
      rw [hg3.block k (by simp only [World.size_alloc]; omega) (fun e => by
       rcases HOW.out k e.symm with h | h <;> omega), Below.heap_alloc _ _ _ (by simp only [World.size_alloc]; omega), Below.heap_alloc _ _ _ (by omega)]
      exact HK.out k hk1 hk2
     ·
      rcases hat3 with h | ⟨b, hb, hbs⟩
      ·
       exact HOW.out k (h ▸ hk)
      ·
       rw [hb] at hk
       cases hk
       simp only [World.size_alloc] at hbs
       exact .inr (by omega)
    case measure => simp [intOf]; omega
   ·
    obtain rfl : j = cl.length := by omega
    have hjj : decide ((cl.length : Int) < (cl.length : Int)) = false := decide_eq_false (by omega)
    rw [List.take_length, ← HF.out] at hO
    go_wp2
    go_ret
    exact ⟨_, rfl, hO, hB⟩
 | false =>
  have HF : Hid (lgS g rm wk st = []) := Lib.hid (by unfold lgS; rw [h]; rfl)
  have HP := Lib.hid (startsIn_no A c g A1 c1 rm wk A2 c2 st h w hr hr1 hr2 hT)
  clear hr hr1 hr2 hT h
  go_enter Tryz.func21, Tryz.ntmps21
  go_wp2_with (go_at_call 24; refine HP.out.mono ?_; rintro e w1 ⟨rfl, hB1⟩)
  go_ret
  exact ⟨_, rfl, by rw [HF.out]; exact R_nilE _ _, hB1⟩
set_option maxRecDepth 1000000 in
set_option maxHeartbeats 8000000 in
theorem sLogOf_calls (A : Option Addr) (c : Nat) (g : List Tk) (A1 : Option Addr) (c1 : Nat) (rm : List Int) (wk : Int) (A2 : Option Addr) (c2 : Nat) (st : List Int) (w : World) (hr : kTk.C w A g.length g) (hr1 : (Kd.int .i64).C w A1 rm.length rm) (hr2 : (Kd.int .i64).C w A2 st.length st) :
  Calls Tryz.prog 119 #[.slice A g.length c, .slice A1 rm.length c1, .int .i64 wk, .slice A2 st.length c2] w fun e w' => ∃ v, e = .returned v ∧ Kd.R kEv 75 w' w.heap.size (fun _ => True) v (lgS g rm wk st) ∧ Below w.heap.size w w' := by
 have HBa : Hid (Below w.heap.size w (w.alloc (.cells #[] 75))) := Lib.hid ((Below.refl _ _).alloc (Nat.le_refl _) _)
 have HO : Hid (Kd.R kEv 75 (w.alloc (.cells #[] 75)) w.heap.size (fun _ => True) (.slice (some ⟨w.heap.size, 0, none⟩) 0 0) []) := Lib.hid ⟨fun _ _ => trivial, [], World.ownsRow_lit (base := w.heap.size) (size := 3) w #[] 0 (Nat.le_refl _) (by simp [maxLen]) rfl, Reps.none _ _⟩
 have hra := Kd.C_below hr HBa.out
 have hrb := Kd.C_below hr1 HBa.out
 have hrc := Kd.C_below hr2 HBa.out
 cases h : vStB g rm wk st with
 | true =>
  have HP := Lib.hid (validStarts_is true A c g A1 c1 rm wk A2 c2 st (Lib.hid h) _ hra hrb hrc)
  have HV := Lib.hid (vSt_valid h)
  have h8 := HV.out.ok.1
  have HR := Lib.hid hr
  have HR2 := Lib.hid hr2
  have HF := Lib.hid (lgS_log HV.out)
  have HLL := Lib.hid (logL_len g st h8)
  clear hr hr1 hr2 hra hrb hrc h
  go_enter Tryz.func119, Tryz.ntmps119
  go_wp2_with (go_at_call 26; refine HP.out.mono ?_; rintro e w1 ⟨rfl, hB1⟩; have HO1 := Lib.hid (Kd.R_below HO.out hB1); have HB1 := Lib.hid (HBa.out.trans (hB1.mono HBa.out.size)); clear hB1)
  go_loopw [9, 10] (fun out t wr => ∃ m : Nat, m ≤ 221 ∧ t = .int .i64 (m : Nat) ∧ Kd.R kEv 75 wr w.heap.size (fun _ => True) out (logL g st m) ∧ Below w.heap.size w wr) (fun _ t _ => 221 - (intOf t).toNat)
  case atStart => exact ⟨0, Nat.zero_le _, rfl, HO1.out, HB1.out⟩
  case round =>
   clear HO1 HB1
   obtain ⟨m, hm, rfl, hO, hB⟩ := hrel
   by_cases hml : m ≤ 220
   ·
    have hmm : decide ((m : Int) ≤ 220) = true := decide_eq_true (by omega)
    have hmm' : decide (m ≤ 220) = true := decide_eq_true hml
    have HSM : Hid (logL g st (m + 1) = logL g st m ++ (ovE g st (m : Nat) g.length ++ bgE st (m : Nat) g.length)) := Lib.hid rfl
    have hlm := HLL.out m
    have HO0 : Hid (Kd.R kEv 75 wr w.heap.size (fun _ => True) u9 (logL g st m ++ ovE g st (m : Nat) 0)) := Lib.hid (by rw [show ovE g st (m : Nat) 0 = [] from rfl, List.append_nil]; exact hO)
    have HB0 := Lib.hid hB
    clear hO hB
    generalize logL g st m = lm at HSM hlm HO0
    go_wp2
    go_loopw [9, 11] (fun out i wi => ∃ j, j ≤ g.length ∧ i = .int .i64 (j : Nat) ∧ Kd.R kEv 75 wi w.heap.size (fun _ => True) out (lm ++ ovE g st (m : Nat) j) ∧ Below w.heap.size w wi) (fun _ i _ => g.length - (intOf i).toNat)
    case atStart => exact ⟨0, Nat.zero_le _, rfl, HO0.out, HB0.out⟩
    case round =>
     clear HO0 HB0
     obtain ⟨j, hj, rfl, hO, hB⟩ := hrel
     by_cases hjl : j < g.length
     ·
      have hjs : j < st.length := by rw [HV.out.len]; exact hjl
      obtain ⟨ad, A4, c4, rfl, hc0, _⟩ := at_Tk (Kd.C_below HR.out hB) j hjl
      obtain ⟨ads, rfl, cs⟩ := at_num (Kd.C_below HR2.out hB) j hjs
      have hjj : decide ((j : Int) < (g.length : Int)) = true := decide_eq_true (by omega)
      have hji : (j : Int) < (g.length : Int) := by omega
      have hjsi : (j : Int) < (st.length : Int) := by omega
      have HE : Hid (ovE g st (m : Nat) (j + 1) = if st.getD j 0 + (rdTk g j).f0 = (m : Nat) then ovE g st (m : Nat) j ++ [⟨(m : Nat), (j : Int), true⟩] else ovE g st (m : Nat) j) := Lib.hid rfl
      have hsj := HV.out.sok j
      have htj := HV.out.ok.2.1 j
      have hlo := ovE_len g st (m : Nat) j
      generalize st.getD j 0 = s at cs hsj HE
      generalize (rdTk g j).f0 = tm at hc0 htj HE
      generalize ovE g st (m : Nat) j = fl at hO HE hlo
      have hll : (lm ++ fl).length < 1000000 := by rw [List.length_append]; omega
      have hwr : IntKind.i64.wrap (s + tm) = s + tm := IntWalk.i64_in _ (by omega)
      have HOB := Lib.hid (And.intro hO hB)
      clear hO hB
      by_cases g1 : s + tm = (m : Int)
      ·
       have d1 : (s + tm == (m : Int)) = true := beq_iff_eq.2 g1
       have HE2 : Hid (lm ++ ovE g st (m : Nat) (j + 1) = (lm ++ fl) ++ [⟨(m : Nat), (j : Int), true⟩]) := Lib.hid (by rw [HE.out, if_pos g1, List.append_assoc])
       clear g1 HE
       go_wp2
       (try go_quiet (fail))
       clear hwr
       have hO2 := Kd.R_drewN HOB.out.1 nq
       have hB2 := pw_below_drewN HOB.out.2 nq
       go_wp2_with (at_builtin; refine ap_ev1 (w0 := w) w.heap.size rfl _ _ rfl u9 (lm ++ fl) ⟨(m : Nat), (j : Int), true⟩ rfl rfl rfl hO2 hB2 hB2.size hll ?_; intro v1 w2 hO3 hB3 hg3 hat3; clear hg3 hat3)
       go_roundw
       case rel => exact ⟨j + 1, by omega, by go_num, by rw [HE2.out]; exact hO3, hB3⟩
       case measure => simp [intOf]; omega
      ·
       have d1 : (s + tm == (m : Int)) = false := beq_eq_false_iff_ne.2 g1
       have HE2 : Hid (lm ++ ovE g st (m : Nat) (j + 1) = lm ++ fl) := Lib.hid (by rw [HE.out, if_neg g1])
       clear g1 HE
       go_wp2
       (try go_quiet (fail))
       clear hwr
       have hO2 := Kd.R_drewN HOB.out.1 nq
       have hB2 := pw_below_drewN HOB.out.2 nq
       (try go_wp2)
       go_roundw
       case rel => exact ⟨j + 1, by omega, by go_num, by rw [HE2.out]; exact hO2, hB2⟩
       case measure => simp [intOf]; omega
     ·
      obtain rfl : j = g.length := by omega
      have hjj : decide ((g.length : Int) < (g.length : Int)) = false := decide_eq_false (by omega)
      have HO1 : Hid (Kd.R kEv 75 wr w.heap.size (fun _ => True) u9 ((lm ++ ovE g st (m : Nat) g.length) ++ bgE st (m : Nat) 0)) := Lib.hid (by rw [show bgE st (m : Nat) 0 = [] from rfl, List.append_nil]; exact hO)
      have HB1 := Lib.hid hB
      have hlo := ovE_len g st (m : Nat) g.length
      have HSM2 : Hid (logL g st (m + 1) = (lm ++ ovE g st (m : Nat) g.length) ++ bgE st (m : Nat) g.length) := Lib.hid (by rw [HSM.out, List.append_assoc])
      have hlm2 : (lm ++ ovE g st (m : Nat) g.length).length ≤ 10000 := by rw [List.length_append]; omega
      clear hO hB hlo
      generalize lm ++ ovE g st (m : Nat) g.length = l2 at HO1 HSM2 hlm2
      go_wp2
      go_loopw [9, 12] (fun out i wi => ∃ j, j ≤ g.length ∧ i = .int .i64 (j : Nat) ∧ Kd.R kEv 75 wi w.heap.size (fun _ => True) out (l2 ++ bgE st (m : Nat) j) ∧ Below w.heap.size w wi) (fun _ i _ => g.length - (intOf i).toNat)
      case atStart => exact ⟨0, Nat.zero_le _, rfl, HO1.out, HB1.out⟩
      case round =>
       clear HO1 HB1
       obtain ⟨j, hj, rfl, hO, hB⟩ := hrel
       by_cases hjl : j < g.length
       ·
        have hjs : j < st.length := by rw [HV.out.len]; exact hjl
        obtain ⟨ads, rfl, cs⟩ := at_num (Kd.C_below HR2.out hB) j hjs
        have hjj : decide ((j : Int) < (g.length : Int)) = true := decide_eq_true (by omega)
        have hji : (j : Int) < (g.length : Int) := by omega
        have hjsi : (j : Int) < (st.length : Int) := by omega
        have HE : Hid (bgE st (m : Nat) (j + 1) = if st.getD j 0 = (m : Nat) then bgE st (m : Nat) j ++ [⟨(m : Nat), (j : Int), false⟩] else bgE st (m : Nat) j) := Lib.hid rfl
        have hlo := bgE_len st (m : Nat) j
        generalize st.getD j 0 = s at cs HE
        generalize bgE st (m : Nat) j = fl at hO HE hlo
        have hll : (l2 ++ fl).length < 1000000 := by rw [List.length_append]; omega
        have HOB := Lib.hid (And.intro hO hB)
        clear hO hB
        by_cases g1 : s = (m : Int)
        ·
         have d1 : (s == (m : Int)) = true := beq_iff_eq.2 g1
         have HE2 : Hid (l2 ++ bgE st (m : Nat) (j + 1) = (l2 ++ fl) ++ [⟨(m : Nat), (j : Int), false⟩]) := Lib.hid (by rw [HE.out, if_pos g1, List.append_assoc])
         clear g1 HE
         have hO2 := HOB.out.1
         have hB2 := HOB.out.2
         go_wp2_with (at_builtin; refine ap_ev1 (w0 := w) w.heap.size rfl _ _ rfl u9 (l2 ++ fl) ⟨(m : Nat), (j : Int), false⟩ rfl rfl rfl hO2 hB2 hB2.size hll ?_; intro v1 w2 hO3 hB3 hg3 hat3; clear hg3 hat3)
         go_roundw
         case rel => exact ⟨j + 1, by omega, by go_num, by rw [HE2.out]; exact hO3, hB3⟩
         case measure => simp [intOf]; omega
        ·
         have d1 : (s == (m : Int)) = false := beq_eq_false_iff_ne.2 g1
         have HE2 : Hid (l2 ++ bgE st (m : Nat) (j + 1) = l2 ++ fl) := Lib.hid (by rw [HE.out, if_neg g1])
         clear g1 HE
         have hO2 := HOB.out.1
         have hB2 := HOB.out.2
         go_wp2
         go_roundw
         case rel => exact ⟨j + 1, by omega, by go_num, by rw [HE2.out]; exact hO2, hB2⟩
         case measure => simp [intOf]; omega
       ·
        obtain rfl : j = g.length := by omega
        have hjj : decide ((g.length : Int) < (g.length : Int)) = false := decide_eq_false (by omega)
        have HOB := Lib.hid (And.intro hO hB)
        clear hO hB
        go_wp2
        go_roundw
        case rel => exact ⟨m + 1, by omega, by go_num, by rw [HSM2.out]; exact HOB.out.1, HOB.out.2⟩
        case measure => simp [intOf]; omega
   ·
    obtain rfl : m = 221 := by omega
    rw [← HF.out] at hO
    go_wp2
    go_ret
    exact ⟨_, rfl, hO, hB⟩
 | false =>
  have HF : Hid (lgS g rm wk st = []) := Lib.hid (by unfold lgS; rw [h]; rfl)
  have HP := Lib.hid (validStarts_is false A c g A1 c1 rm wk A2 c2 st (Lib.hid h) _ hra hrb hrc)
  clear hr hr1 hr2 hra hrb hrc h
  go_enter Tryz.func119, Tryz.ntmps119
  go_wp2_with (go_at_call 26; refine HP.out.mono ?_; rintro e w1 ⟨rfl, hB1⟩)
  go_ret
  exact ⟨_, rfl, by rw [HF.out]; exact R_nilE _ _, HBa.out.trans (hB1.mono HBa.out.size)⟩
end Go.Proofs.YtlapphhcficbjaaGreatDoor

namespace Go.Proofs.YtlapphhcficbjaaGreatDoor
set_option linter.unusedVariables false
set_option linter.unusedSimpArgs false
open Go.RowKit Go.Shelf Bits
open Go.Proofs.YtlapphhcficbjaaGreatDoorW.PrintWords Go.Proofs.YtlapphhcficbjaaGreatDoorW.PrintLast Go.Proofs.YtlapphhcficbjaaGreatDoorW.PrintMore
def RowV (W : World) (B m : Nat) (t : TypeId) (f : Nat → Value) : Prop := W.heap[B]? = some (.cells ((List.range m).map f).toArray t (0, 0))
theorem RowV.cell {W : World} {B m : Nat} {t : TypeId} {f : Nat → Value} (h : RowV W B m t f) {q : Nat} (hq : q < m) : W.cell? ⟨B, q, none⟩ = some (f q) := by
 rw [blk_cell h q]
 simp [hq]
theorem RowV.frozen {W : World} {B m : Nat} {t : TypeId} {f : Nat → Value} (h : RowV W B m t f) (q : Nat) : W.frozen? ⟨B, q, none⟩ = false := blk_frozen h q
theorem RowV.lt {W : World} {B m : Nat} {t : TypeId} {f : Nat → Value} (h : RowV W B m t f) : B < W.heap.size := blk_lt h
theorem RowV.congr {W : World} {B m : Nat} {t : TypeId} {f f' : Nat → Value} (h : RowV W B m t f) (he : ∀ q, q < m → f q = f' q) : RowV W B m t f' := by
 unfold RowV at h ⊢
 rw [h, List.map_congr_left (fun q hq => he q (List.mem_range.1 hq))]
theorem RowV.set {W : World} {B m : Nat} {t : TypeId} {f : Nat → Value} (h : RowV W B m t f) (q : Nat) (v : Value) : RowV (W.setCell ⟨B, q, none⟩ v) B m t (fun x => if x = q then v else f x) := by
 have hs := blk_set h q v
 unfold RowV
 rw [hs]
 congr 2
 have : ((List.range m).map f).set q v = (List.range m).map (fun x => if x = q then v else f x) := by
  apply List.ext_getElem (by simp)
  intro i h1 h2
  simp only [List.getElem_set, List.getElem_map, List.getElem_range]
  by_cases e : q = i
  ·
   rw [if_pos e, if_pos e.symm]
  ·
   rw [if_neg e, if_neg (fun e2 => e e2.symm)]
 rw [← this]
 simp
theorem RowV.far {W : World} {B m : Nat} {t : TypeId} {f : Nat → Value} (h : RowV W B m t f) {p : Addr} (hp : B ≠ p.block) (u : Value) : RowV (W.setCell p u) B m t f := blk_far h hp u
theorem RowV.below {W W' : World} {B m : Nat} {t : TypeId} {f : Nat → Value} (h : RowV W B m t f) (hb : Below W.heap.size W W') : RowV W' B m t f := (hb.block B (blk_lt h)).trans h
theorem RowV.block {W W' : World} {B m : Nat} {t : TypeId} {f : Nat → Value} (h : RowV W B m t f) (hb : W'.heap[B]? = W.heap[B]?) : RowV W' B m t f := hb.trans h
def cellT (g : List Tk) (vs : Nat → Value) (q : Nat) : Value :=
 if q % 4 = 0 then .int .i64 (rdTk g (q / 4)).f0 else if q % 4 = 1 then vs (q / 4) else if q % 4 = 2 then .int .i64 (rdTk g (q / 4)).f2 else .int .i64 (rdTk g (q / 4)).f3
theorem cellT_at (g : List Tk) (vs : Nat → Value) (i : Nat) : cellT g vs (i * 4) = .int .i64 (rdTk g i).f0 ∧ cellT g vs (i * 4 + 1) = vs i ∧ cellT g vs (i * 4 + 2) = .int .i64 (rdTk g i).f2 ∧ cellT g vs (i * 4 + 3) = .int .i64 (rdTk g i).f3 := by
 have h0 : i * 4 % 4 = 0 := by omega
 have h1 : (i * 4 + 1) % 4 = 1 := by omega
 have h2 : (i * 4 + 2) % 4 = 2 := by omega
 have h3 : (i * 4 + 3) % 4 = 3 := by omega
 have d0 : i * 4 / 4 = i := by omega
 have d1 : (i * 4 + 1) / 4 = i := by omega
 have d2 : (i * 4 + 2) / 4 = i := by omega
 have d3 : (i * 4 + 3) / 4 = i := by omega
 unfold cellT
 rw [h0, h1, h2, h3, d0, d1, d2, d3]
 exact ⟨rfl, rfl, rfl, rfl⟩
theorem plain_add (B q : Nat) : (⟨B, 0, none⟩ : Addr).add q = ⟨B, q, none⟩ := by
 unfold Addr.add
 split <;> simp_all
theorem C_of_RowV {W : World} {B : Nat} {t : TypeId} {g : List Tk} {vs : Nat → Value} (h : RowV W B (g.length * 4) t (cellT g vs)) (hm : g.length ≤ 10000000) (hv : ∀ i, i < g.length → ∃ A c, vs i = .slice A (rdTk g i).f1.length c ∧ (rdTk g i).f1.length ≤ c ∧ (Kd.int .i64).C W A (rdTk g i).f1.length (rdTk g i).f1) : kTk.C W (some ⟨B, 0, none⟩) g.length g := by
 refine ⟨rfl, by omega, fun _ => ⟨_, rfl, fun j p hj => ?_⟩⟩
 have hjl : j < g.length := (List.getElem?_eq_some_iff.1 hj).1
 have hp : rdTk g j = p := by
  unfold rdTk
  rw [List.getD_eq_getElem?_getD, hj]
  rfl
 obtain ⟨A, c, e, hl, hC⟩ := hv j hjl
 rw [hp] at e hl hC
 refine ⟨[.int .i64 p.f0, .slice A p.f1.length c, .int .i64 p.f2, .int .i64 p.f3], rfl, ⟨[.int .i64 p.f0], [.slice A p.f1.length c, .int .i64 p.f2, .int .i64 p.f3], rfl, rfl, ⟨[.slice A p.f1.length c], [.int .i64 p.f2, .int .i64 p.f3], rfl, ⟨A, c, rfl, hl, hC⟩, ⟨[.int .i64 p.f2], [.int .i64 p.f3], rfl, rfl, rfl⟩⟩⟩, fun i u hu => ?_⟩
 obtain ⟨c0, c1, c2, c3⟩ := cellT_at g vs j
 rw [hp] at c0 c2 c3
 rw [e] at c1
 rw [plain_add]
 have hi : i < 4 := by
  have := (List.getElem?_eq_some_iff.1 hu).1
  simpa using this
 have hq : j * kTk.sz + i < g.length * 4 := by
  show j * 4 + i < g.length * 4
  omega
 rw [h.cell hq]
 show some (cellT g vs (j * 4 + i)) = some u
 rcases i with _ | _ | _ | _ | i
 ·
  rw [Nat.add_zero, c0]
  simpa using hu
 ·
  rw [c1]
  simpa using hu
 ·
  rw [c2]
  simpa using hu
 ·
  rw [c3]
  simpa using hu
 ·
  omega
end Go.Proofs.YtlapphhcficbjaaGreatDoor
