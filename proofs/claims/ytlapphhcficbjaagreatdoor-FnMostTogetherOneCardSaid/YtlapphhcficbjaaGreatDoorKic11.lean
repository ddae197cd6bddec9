/- Parts of the proof, laid as one text by a program of mine. -/
import Derived.Test.YtlapphhcficbjaaGreatDoorKic10
import Derived.Deep.QuietTactic
import Derived.BigQuiet
import Derived.Test.YtlapphhcficbjaaGreatDoorKic8
import Derived.Test.YtlapphhcficbjaaGreatDoorKic9
import Derived.Test.YtlapphhcficbjaaGreatDoorKic4
namespace Go.Proofs.YtlapphhcficbjaaGreatDoor
set_option linter.unusedVariables false
set_option linter.unusedSimpArgs false
open Go.RowKit Go.Shelf Bits
open Go.Proofs.YtlapphhcficbjaaGreatDoorW.PrintWords Go.Proofs.YtlapphhcficbjaaGreatDoorW.PrintLast Go.Proofs.YtlapphhcficbjaaGreatDoorW.PrintMore
def TOk (g : List Tk) : Prop := g.length ≤ 8 ∧ (∀ i, 0 ≤ (rdTk g i).f0 ∧ (rdTk g i).f0 ≤ 20) ∧ (∀ i, 0 ≤ (rdTk g i).f2 ∧ (rdTk g i).f2 ≤ 2) ∧ (∀ i, 0 ≤ (rdTk g i).f3 ∧ (rdTk g i).f3 ≤ 4) ∧ (∀ i, i < g.length → 1 ≤ (rdTk g i).f0 ∧ 1 ≤ (rdTk g i).f3)
theorem specValid_fine {g : List Tk} (h : specValid g = true) {i : Nat} (hi : i < g.length) : taskFineB g.length (rdTk g i) = true := by
 unfold specValid tasksFineB at h
 rw [Bool.and_eq_true, Bool.and_eq_true] at h
 exact List.all_eq_true.1 h.1.1 _ (by
  unfold rdTk
  rw [List.getD_eq_getElem?_getD, List.getElem?_eq_getElem hi]
  exact List.getElem_mem _)
theorem specValid_TOk {g : List Tk} (h : specValid g = true) : TOk g := by
 have h8 : g.length ≤ 8 := by
  unfold specValid tasksFineB at h
  simp at h
  exact h.1.2
 have key : ∀ i, i < g.length → (1 ≤ (rdTk g i).f0 ∧ (rdTk g i).f0 ≤ 20) ∧ (0 ≤ (rdTk g i).f2 ∧ (rdTk g i).f2 ≤ 2) ∧ (1 ≤ (rdTk g i).f3 ∧ (rdTk g i).f3 ≤ 4) := fun i hi => by
  have hf := specValid_fine h hi
  unfold taskFineB at hf
  simp only [Bool.and_eq_true] at hf
  exact ⟨inB_true.1 hf.1.1.1.1, inB_true.1 hf.1.1.1.2, inB_true.1 hf.1.1.2⟩
 have out : ∀ i, ¬ i < g.length → rdTk g i = zTk := fun i hi => by
  unfold rdTk
  rw [List.getD_eq_getElem?_getD, List.getElem?_eq_none (by omega)]
  rfl
 refine ⟨h8, fun i => ?_, fun i => ?_, fun i => ?_, fun i hi => ?_⟩
 ·
  by_cases hi : i < g.length
  ·
   have := key i hi
   omega
  ·
   rw [out i hi]
   simp [zTk]
 ·
  by_cases hi : i < g.length
  ·
   exact (key i hi).2.1
  ·
   rw [out i hi]
   simp [zTk]
 ·
  by_cases hi : i < g.length
  ·
   have := key i hi
   omega
  ·
   rw [out i hi]
   simp [zTk]
 ·
  have := key i hi
  omega
def usedS (g : List Tk) (r : List Nat) (p : Int) : Int := (r.map fun i => if (rdTk g i).f2 = p then (rdTk g i).f3 else 0).sum
theorem usedS_snoc (g : List Tk) (r : List Nat) (i : Nat) (p : Int) : usedS g (r ++ [i]) p = usedS g r p + if (rdTk g i).f2 = p then (rdTk g i).f3 else 0 := by
 unfold usedS
 rw [List.map_append, List.sum_append]
 simp
theorem usedS_bound {g : List Tk} (h : TOk g) (p : Int) : ∀ r : List Nat, 0 ≤ usedS g r p ∧ usedS g r p ≤ 4 * r.length
 | [] => ⟨Int.le_refl _, by show (0 : Int) ≤ _; simp⟩
 | i :: r => by
  have ih := usedS_bound h p r
  have h3 := h.2.2.2.1 i
  have e : usedS g (i :: r) p = (if (rdTk g i).f2 = p then (rdTk g i).f3 else 0) + usedS g r p := by unfold usedS; simp
  rw [e, List.length_cons]
  split <;> omega
set_option maxRecDepth 100000 in
set_option maxHeartbeats 2000000 in
theorem used_calls (A : Option Addr) (c : Nat) (g : List Tk) (A' : Option Addr) (c' : Nat) (r : List Nat) (p : Int) (hg : TOk g) (hrl : r.length ≤ 100) (hrg : ∀ i ∈ r, i < g.length) (w : World) (hr : kTk.C w A g.length g) (hr' : (Kd.int .i64).C w A' r.length (ints r)) :
  Calls Tryz.prog 107 #[.slice A g.length c, .slice A' r.length c', .int .i64 p] w fun e w' => e = .returned (.int .i64 (usedS g r p)) ∧ w' = w := by
 have HR := Lib.hid hr
 have HR' := Lib.hid hr'
 have HG := Lib.hid hg
 have HRG := Lib.hid hrg
 clear hr hr' hg hrg
 go_enter Tryz.func107, Tryz.ntmps107
 go_wp2
 go_loop [7, 8] (fun n i => ∃ j, j ≤ r.length ∧ i = .int .i64 (j : Nat) ∧ n = .int .i64 (usedS g (r.take j) p)) (fun _ i => r.length - (intOf i).toNat)
 case atStart => exact ⟨0, Nat.zero_le _, rfl, rfl⟩
 case round =>
  obtain ⟨j, hj, rfl, rfl⟩ := hrel
  by_cases hjl : j < r.length
  ·
   have hjj : decide ((j : Int) < (r.length : Int)) = true := decide_eq_true (by omega)
   have hji : (j : Int) < (r.length : Int) := by omega
   obtain ⟨ad, rfl, cx⟩ := at_set HR'.out j hjl
   have hxg : r.getD j 0 < g.length := by
    apply HRG.out
    rw [List.getD_eq_getElem?_getD, List.getElem?_eq_getElem hjl]
    exact List.getElem_mem _
   have hub := usedS_bound HG.out p (r.take j)
   rw [List.length_take] at hub
   have HSN : Hid (usedS g (r.take (j + 1)) p = usedS g (r.take j) p + if (rdTk g (r.getD j 0)).f2 = p then (rdTk g (r.getD j 0)).f3 else 0) := Lib.hid (by
    rw [List.take_succ_eq_append_getElem hjl, usedS_snoc, List.getD_eq_getElem?_getD, List.getElem?_eq_getElem hjl]
    rfl)
   have h3 := HG.out.2.2.2.1 (r.getD j 0)
   obtain ⟨adg, A1, c1, rfl, hx0, hx1, hx2, hx3, _⟩ := at_Tk HR.out (r.getD j 0) hxg
   generalize r.getD j 0 = x at cx hxg HSN h3 hx0 hx1 hx2 hx3
   generalize usedS g (r.take j) p = U at hub HSN
   have hxi : (x : Int) < (g.length : Int) := by omega
   by_cases hp : (rdTk g x).f2 = p
   ·
    have dp : ((rdTk g x).f2 == p) = true := beq_iff_eq.2 hp
    rw [if_pos hp] at HSN
    clear hp
    generalize (rdTk g x).f2 = f2 at hx2 dp
    generalize (rdTk g x).f3 = f3 at hx3 h3 HSN
    go_wp2
    go_round
    case rel => exact ⟨j + 1, by omega, by go_num, by rw [HSN.out]⟩
    case measure => simp [intOf]; omega
   ·
    have dp : ((rdTk g x).f2 == p) = false := by rw [beq_eq_false_iff_ne]; exact hp
    rw [if_neg hp, Int.add_zero] at HSN
    clear hp
    generalize (rdTk g x).f2 = f2 at hx2 dp
    go_wp2
    go_round
    case rel => exact ⟨j + 1, by omega, by go_num, by rw [HSN.out]⟩
    case measure => simp [intOf]; omega
  ·
   obtain rfl : j = r.length := by omega
   have hjj : decide ((r.length : Int) < (r.length : Int)) = false := decide_eq_false (by omega)
   go_wp2
   go_ret
   exact ⟨ret_int (by first | rfl | rw [List.take_length]), rfl⟩
theorem used_is (u : Int) (A : Option Addr) (c : Nat) (g : List Tk) (A' : Option Addr) (c' : Nat) (r : List Nat) (p : Int) (h : Hid (usedS g r p = u)) (hg : TOk g) (hrl : r.length ≤ 100) (hrg : ∀ i ∈ r, i < g.length) (w : World) (hr : kTk.C w A g.length g) (hr' : (Kd.int .i64).C w A' r.length (ints r)) :
  Calls Tryz.prog 107 #[.slice A g.length c, .slice A' r.length c', .int .i64 p] w fun e w' => e = .returned (.int .i64 u) ∧ w' = w :=
 (used_calls A c g A' c' r p hg hrl hrg w hr hr').mono fun e w' ⟨he, hw⟩ => ⟨by rw [he, h.out], hw⟩
def SOk (st : List Int) : Prop := ∀ i, -1000 ≤ st.getD i 0 ∧ st.getD i 0 ≤ 1000
def runB (g : List Tk) (st : List Int) (now : Int) (i : Nat) : Bool := decide (st.getD i 0 ≤ now) && decide (now < st.getD i 0 + (rdTk g i).f0)
def runS (g : List Tk) (st : List Int) (now : Int) : List Nat := (List.range g.length).filter (runB g st now)
set_option maxRecDepth 1000000 in
set_option maxHeartbeats 4000000 in
theorem runningAt_calls (A : Option Addr) (c : Nat) (g : List Tk) (A' : Option Addr) (c' : Nat) (st : List Int) (now : Int) (hg : TOk g) (hs : SOk st) (hl : st.length = g.length) (w : World) (hr : kTk.C w A g.length g) (hr' : (Kd.int .i64).C w A' st.length st) :
  Calls Tryz.prog 67 #[.slice A g.length c, .slice A' st.length c', .int .i64 now] w fun e w' => ∃ v, e = .returned v ∧ Kd.R (Kd.int .i64) 3 w' w.heap.size (fun _ => True) v (ints (runS g st now)) ∧ Below w.heap.size w w' := by
 have HR := Lib.hid hr
 have HR' := Lib.hid hr'
 have HG := Lib.hid hg
 have HS := Lib.hid hs
 have HL := Lib.hid hl
 have h8 := hg.1
 clear hr hr' hg hs hl
 go_enter Tryz.func67, Tryz.ntmps67
 go_wp2
 have HB1 : Below w.heap.size w (w.alloc (.cells #[] 3)) := (Below.refl _ _).alloc (Nat.le_refl _) _
 have HO : Kd.R (Kd.int .i64) 3 (w.alloc (.cells #[] 3)) w.heap.size (fun _ => True) (.slice (some ⟨w.heap.size, 0, none⟩) 0 0) (ints []) := Kd.R_of_own (World.ownsRow_lit (base := w.heap.size) (size := 1) w #[] 0 (Nat.le_refl _) (by simp [maxLen]) rfl) (fun _ _ => trivial)
 go_loopw [7, 8] (fun out i wr => ∃ j, j ≤ g.length ∧ i = .int .i64 (j : Nat) ∧ Kd.R (Kd.int .i64) 3 wr w.heap.size (fun _ => True) out (ints ((List.range j).filter (runB g st now))) ∧ Below w.heap.size w wr) (fun _ i _ => g.length - (intOf i).toNat)
 case atStart => exact ⟨0, Nat.zero_le _, rfl, HO, HB1⟩
 case round =>
  clear HO HB1
  obtain ⟨j, hj, rfl, hO, hB⟩ := hrel
  by_cases hjl : j < g.length
  ·
   obtain ⟨ad, A1, c1, rfl, hc0, _⟩ := at_Tk (Kd.C_below HR.out hB) j hjl
   have hjs : j < st.length := by rw [HL.out]; exact hjl
   obtain ⟨ads, rfl, cs⟩ := at_num (Kd.C_below HR'.out hB) j hjs
   have hjj : decide ((j : Int) < (g.length : Int)) = true := decide_eq_true (by omega)
   have hji : (j : Int) < (g.length : Int) := by omega
   have hjsi : (j : Int) < (st.length : Int) := by omega
   have HFS : Hid ((List.range (j + 1)).filter (runB g st now) = if runB g st now j then (List.range j).filter (runB g st now) ++ [j] else (List.range j).filter (runB g st now)) := Lib.hid (filter_snoc j)
   have hfl := filter_range_le (runB g st now) j
   have HBD : Hid (runB g st now j = (decide (st.getD j 0 ≤ now) && decide (now < st.getD j 0 + (rdTk g j).f0))) := Lib.hid rfl
   generalize (List.range j).filter (runB g st now) = fl at hO HFS hfl
   have hsj := HS.out j
   have htj := HG.out.2.1 j
   generalize st.getD j 0 = s at cs hsj HBD
   generalize (rdTk g j).f0 = tm at hc0 htj HBD
   have hwr : IntKind.i64.wrap (s + tm) = s + tm := IntWalk.i64_in _ (by omega)
   have HOB := Lib.hid (And.intro hO hB)
   clear hO hB
   by_cases h1 : s ≤ now
   ·
    have d1 : decide (s ≤ now) = true := decide_eq_true h1
    by_cases h2 : now < s + tm
    ·
     have d2 : decide (now < s + tm) = true := decide_eq_true h2
     rw [d1, d2] at HBD
     clear h1 h2
     go_wp2
     go_quiet (fail)
     clear hwr
     have hO2 := Kd.R_drewN HOB.out.1 nq
     have hB2 := pw_below_drewN HOB.out.2 nq
     go_wp2_with (at_builtin; refine ap_int (w0 := w) w.heap.size rfl _ _ rfl u7 (ints fl) (j : Int) rfl rfl rfl hO2 hB2 hB2.size (by rw [ints_length]; omega) ?_; intro v1 w2 hO3 hB3 hg3 hat3; clear hg3 hat3)
     go_roundw
     case rel => exact ⟨j + 1, by omega, by go_num, by rw [HFS.out, HBD.out]; simpa [ints] using hO3, hB3⟩
     case measure => simp [intOf]; omega
    ·
     have d2 : decide (now < s + tm) = false := decide_eq_false h2
     rw [d1, d2] at HBD
     clear h1 h2
     go_wp2
     go_quiet (fail)
     clear hwr
     go_wp2
     go_roundw
     case rel => exact ⟨j + 1, by omega, by go_num, by rw [HFS.out, HBD.out]; exact Kd.R_drewN HOB.out.1 _, pw_below_drewN HOB.out.2 _⟩
     case measure => simp [intOf]; omega
   ·
    have d1 : decide (s ≤ now) = false := decide_eq_false h1
    rw [d1] at HBD
    clear h1
    go_wp2
    go_quiet (fail)
    clear hwr
    go_wp2
    go_roundw
    case rel => exact ⟨j + 1, by omega, by go_num, by rw [HFS.out, HBD.out]; exact Kd.R_drewN HOB.out.1 _, pw_below_drewN HOB.out.2 _⟩
    case measure => simp [intOf]; omega
  ·
   obtain rfl : j = g.length := by omega
   have hjj : decide ((g.length : Int) < (g.length : Int)) = false := decide_eq_false (by omega)
   go_wp2
   go_ret
   exact ⟨_, rfl, hO, hB⟩
def endS (g : List Tk) (st : List Int) : Nat → Int
 | 0 => 0
 | k + 1 => max (endS g st k) (st.getD k 0 + (rdTk g k).f0)
theorem endS_bound {g : List Tk} {st : List Int} (hg : TOk g) (hs : SOk st) : ∀ k, 0 ≤ endS g st k ∧ endS g st k ≤ 1020
 | 0 => by simp [endS]
 | k + 1 => by
  have ih := endS_bound hg hs k
  have h1 := hg.2.1 k
  have h2 := hs k
  unfold endS
  omega
set_option maxRecDepth 1000000 in
set_option maxHeartbeats 4000000 in
theorem endOf_calls (A : Option Addr) (c : Nat) (g : List Tk) (A' : Option Addr) (c' : Nat) (st : List Int) (hg : TOk g) (hs : SOk st) (hl : st.length = g.length) (w : World) (hr : kTk.C w A g.length g) (hr' : (Kd.int .i64).C w A' st.length st) :
  Calls Tryz.prog 33 #[.slice A g.length c, .slice A' st.length c'] w fun e w' => e = .returned (.int .i64 (endS g st g.length)) ∧ Below w.heap.size w w' := by
 have HR := Lib.hid hr
 have HR' := Lib.hid hr'
 have HG := Lib.hid hg
 have HS := Lib.hid hs
 have HL := Lib.hid hl
 have h8 := hg.1
 clear hr hr' hg hs hl
 go_enter Tryz.func33, Tryz.ntmps33
 go_wp2
 go_loopw [5, 6] (fun n i wr => ∃ j, j ≤ g.length ∧ i = .int .i64 (j : Nat) ∧ n = .int .i64 (endS g st j) ∧ Below w.heap.size w wr) (fun _ i _ => g.length - (intOf i).toNat)
 case atStart => exact ⟨0, Nat.zero_le _, rfl, rfl, Below.refl _ _⟩
 case round =>
  obtain ⟨j, hj, rfl, rfl, hB⟩ := hrel
  by_cases hjl : j < g.length
  ·
   obtain ⟨ad, A1, c1, rfl, hc0, _⟩ := at_Tk (Kd.C_below HR.out hB) j hjl
   have hjs : j < st.length := by rw [HL.out]; exact hjl
   obtain ⟨ads, rfl, cs⟩ := at_num (Kd.C_below HR'.out hB) j hjs
   have hjj : decide ((j : Int) < (g.length : Int)) = true := decide_eq_true (by omega)
   have hji : (j : Int) < (g.length : Int) := by omega
   have hjsi : (j : Int) < (st.length : Int) := by omega
   have HE : Hid (endS g st (j + 1) = max (endS g st j) (st.getD j 0 + (rdTk g j).f0)) := Lib.hid rfl
   have hsj := HS.out j
   have htj := HG.out.2.1 j
   have heb := endS_bound HG.out HS.out j
   generalize st.getD j 0 = s at cs hsj HE
   generalize (rdTk g j).f0 = tm at hc0 htj HE
   generalize endS g st j = en at heb HE
   have hwr : IntKind.i64.wrap (s + tm) = s + tm := IntWalk.i64_in _ (by omega)
   have HB := Lib.hid hB
   clear hB
   go_wp2
   go_quiet (fail)
   clear hwr
   go_wp2
   all_goals
    go_roundw
    case rel => exact ⟨j + 1, by omega, by go_num, by rw [HE.out]; congr 1; first | omega | (split <;> omega), pw_below_drewN HB.out _⟩
    case measure => simp [intOf]; omega
  ·
   obtain rfl : j = g.length := by omega
   have hjj : decide ((g.length : Int) < (g.length : Int)) = false := decide_eq_false (by omega)
   go_wp2
   go_ret
   exact ⟨rfl, hB⟩
def roomB (room : List Int) : Bool := decide (room.length = 3) && allInB room 4 8
theorem validRoom_calls (A : Option Addr) (c : Nat) (room : List Int) (w : World) (hr : (Kd.int .i64).C w A room.length room) :
  Calls Tryz.prog 64 #[.slice A room.length c] w fun e w' => e = .returned (.bool (roomB room)) ∧ w' = w := by
 have HR := Lib.hid hr
 have hl := (C_len hr).2
 clear hr
 by_cases h3 : room.length = 3
 ·
  have d3 : ((room.length : Int) == 3) = true := by rw [beq_iff_eq]; omega
  cases hi : allInB room 4 8
  ·
   have HI := Lib.hid hi
   have HF : Hid (roomB room = false) := Lib.hid (by unfold roomB; rw [hi, Bool.and_false])
   clear hi h3
   go_enter Tryz.func64, Tryz.ntmps64
   go_wp2_with (go_at_call 66; refine (allIn_is _ _ _ _ _ _ HI _ HR.out).mono ?_; rintro e w2 ⟨rfl, rfl⟩)
   go_ret
   exact ⟨ret_bool HF.out.symm, rfl⟩
  ·
   have HI := Lib.hid hi
   have HF : Hid (roomB room = true) := Lib.hid (by unfold roomB; rw [hi, decide_eq_true h3]; rfl)
   clear hi h3
   go_enter Tryz.func64, Tryz.ntmps64
   go_wp2_with (go_at_call 66; refine (allIn_is _ _ _ _ _ _ HI _ HR.out).mono ?_; rintro e w2 ⟨rfl, rfl⟩)
   go_ret
   exact ⟨ret_bool HF.out.symm, rfl⟩
 ·
  have d3 : ((room.length : Int) == 3) = false := by rw [beq_eq_false_iff_ne]; omega
  have HF : Hid (roomB room = false) := Lib.hid (by unfold roomB; rw [decide_eq_false h3]; rfl)
  clear h3
  go_enter Tryz.func64, Tryz.ntmps64
  go_wp2
  go_ret
  exact ⟨ret_bool HF.out.symm, rfl⟩
theorem validRoom_is (b : Bool) (A : Option Addr) (c : Nat) (room : List Int) (h : Hid (roomB room = b)) (w : World) (hr : (Kd.int .i64).C w A room.length room) :
  Calls Tryz.prog 64 #[.slice A room.length c] w fun e w' => e = .returned (.bool b) ∧ w' = w :=
 (validRoom_calls A c room w hr).mono fun e w' ⟨he, hw⟩ => ⟨by rw [he, h.out], hw⟩
end Go.Proofs.YtlapphhcficbjaaGreatDoor

namespace Go.Proofs.YtlapphhcficbjaaGreatDoor
set_option linter.unusedVariables false
set_option linter.unusedSimpArgs false
open Go.RowKit Go.Shelf Bits
open Go.Proofs.YtlapphhcficbjaaGreatDoorW.PrintWords Go.Proofs.YtlapphhcficbjaaGreatDoorW.PrintLast Go.Proofs.YtlapphhcficbjaaGreatDoorW.PrintMore
attribute [local go_sem] Oper.semAt_some
def cnt (g : List Tk) (l : List Nat) : Ct := ⟨l.length, fun j => usedS g l j⟩
theorem cnt_snoc {g : List Tk} {p : Nat} {i : Nat} (l : List Nat) (hp : (rdTk g i).f2 = (p : Int)) : cnt g (l ++ [i]) = (cnt g l).add p (rdTk g i).f3 1 := by
 unfold cnt Ct.add
 congr 1
 ·
  simp
 ·
  funext j
  rw [usedS_snoc, hp]
  show _ = if j = p then usedS g l j + 1 * (rdTk g i).f3 else usedS g l j
  by_cases hj : j = p
  ·
   rw [if_pos hj, hj, if_pos rfl, Int.one_mul]
  ·
   rw [if_neg hj, if_neg (by omega), Int.add_zero]
theorem cnt_small {g : List Tk} (hg : TOk g) {l : List Nat} (hl : l.length ≤ 100) : (cnt g l).small 1000 := by
 refine ⟨⟨?_, ?_⟩, fun j => ?_⟩
 ·
  show -1000 ≤ (l.length : Int)
  omega
 ·
  show (l.length : Int) ≤ 1000
  omega
 ·
  have := usedS_bound hg j l
  show -(1000 * 1000) ≤ usedS g l j ∧ usedS g l j ≤ 1000 * 1000
  omega
theorem CAt.own {β : Type} {B0 b : Nat} (f : β → Ct) (hb : b < B0) : OwnFrom B0 (fun s W => CAt W b (f s)) := by
 intro s W W' row hs hg hr
 exact (hg.block b hs.lt (fun e => by have := (hr b e.symm).1; omega)).trans hs
theorem CAt.keep {W W' : World} {b : Nat} {c : Ct} (h : CAt W b c) {g : Nat} (hk : KeepBut W W' g none) (hne : b ≠ g) : CAt W' b c := hk.blk h hne (by simp)
theorem keep_others1 {w w' : World} {b : Nat} {c : Ct} (hk : KeepBut w w' b none) (hC : CAt w b c) : KeepsOthers w w' := by
 refine ⟨hk.1, fun k o ho hc => ?_⟩
 have hl := (Array.getElem?_eq_some_iff.1 ho).1
 refine (hk.2 k hl (fun e => ?_) (by simp)).trans ho
 subst e
 rw [show w.heap[k]? = _ from hC] at ho
 cases ho
 cases hc
set_option maxRecDepth 100000 in
set_option maxHeartbeats 4000000 in
theorem counted_calls (C : Nat) (g : List Tk) (ns : List Nat) (s : Nat) (hs : s < 2 ^ g.length) (hok : TOk g) (w : World) (hG : IsGraph w C g ns) (hT : Tab w) :
  Calls Tryz.prog 83 #[.pointer (some ⟨C, 0, none⟩), .int .u16 s] w fun e W' => e = .returned (.agg #[.int .i64 (cnt g (elems s)).t, .int .i64 ((cnt g (elems s)).u 0), .int .i64 ((cnt g (elems s)).u 1), .int .i64 ((cnt g (elems s)).u 2)]) ∧ Below w.heap.size w W' := by
 have h8 := hok.1
 have hs16 : s < 65536 := Nat.lt_of_lt_of_le hs (Nat.le_trans (Nat.pow_le_pow_right (by omega) h8) (by decide))
 have hCl : C < w.heap.size := by obtain ⟨Ag, cg, An, cn, Ao, co, vb, va, h1, _⟩ := hG; exact blk_lt h1
 have HG := Lib.hid hG
 have HOK := Lib.hid hok
 clear hG hok
 refine calls_of_wp_marks Tryz.func83 rfl ?_
 simp only [Tryz.ntmps83, List.size_toArray, List.length_cons, List.length_nil, Nat.reduceAdd, Nat.reduceSub, Array.replicate_succ, Array.replicate_zero, List.push_toArray, List.append_toArray, List.nil_append, List.cons_append]
 go_wp2_with (go_at_call 69; refine (all_calls s _).mono ?_; rintro e w' ⟨rfl, rfl⟩)
 obtain ⟨W0, hW0⟩ : ∃ W0, W0 = ((w.alloc (.cells #[.pointer (some ⟨C, 0, none⟩)] 44)).alloc (.cells #[.int .i64 0, .int .i64 0, .int .i64 0, .int .i64 0] 89)).alloc (.cells #[.int .i64 0, .int .i64 0, .int .i64 0, .int .i64 0] 89) := ⟨_, rfl⟩
 have hB0 : Below w.heap.size w W0 := by rw [hW0]; exact (((Below.refl _ w).alloc (Nat.le_refl _) _).alloc (by simp) _).alloc (by simp; omega) _
 have hz0' : W0.heap.size = w.heap.size + 1 + 1 + 1 := by rw [hW0]; simp
 have hb0 : CAt W0 (w.heap.size + 1 + 1) Ct.zero := by
  rw [hW0]
  have := World.alloc_heap_new ((w.alloc (.cells #[.pointer (some ⟨C, 0, none⟩)] 44)).alloc (.cells #[.int .i64 0, .int .i64 0, .int .i64 0, .int .i64 0] 89)) (.cells #[.int .i64 0, .int .i64 0, .int .i64 0, .int .i64 0] 89)
  rwa [World.size_alloc, World.size_alloc] at this
 have hbr : CAt W0 (w.heap.size + 1) Ct.zero := by
  rw [hW0]
  have := World.alloc_heap_new (w.alloc (.cells #[.pointer (some ⟨C, 0, none⟩)] 44)) (.cells #[.int .i64 0, .int .i64 0, .int .i64 0, .int .i64 0] 89)
  rw [World.size_alloc] at this
  exact (Below.heap_alloc _ _ _ (by simp)).trans this
 have hb1 : Boxed W0 w.heap.size 44 (.pointer (some ⟨C, 0, none⟩)) := by rw [hW0]; exact ((Boxed.new w 44 (.pointer (some ⟨C, 0, none⟩))).alloc _).alloc _
 rw [← hW0]
 clear hW0
 have htl := hT.lt
 have hT0 := hT.keep htl hB0
 have hBox := Boxed.new W0 56 (.int .u16 s)
 rw [hz0'] at hBox
 refine wp_rangeSet1 s (w.heap.size + 1 + 1 + 1) w.heap.size hs16 rfl (by simp [hz0']) hBox.cell (hT0.keep hT0.lt ((Below.refl _ _).alloc (Nat.le_refl _) _)) (by simp [hz0']; omega) htl
  (fun pre W => CAt W (w.heap.size + 1 + 1) (cnt g (pre.map (·.1))) ∧ CAt W (w.heap.size + 1) Ct.zero ∧ Boxed W w.heap.size 44 (.pointer (some ⟨C, 0, none⟩)) ∧ Below w.heap.size w W) (fun _ _ _ => False)
  ((CAt.own (fun pre : List (El s) => cnt g (pre.map (·.1))) (by rw [World.size_alloc, hz0']; omega)).and ((CAt.own (fun _ => Ct.zero) (by rw [World.size_alloc, hz0']; omega)).and ((Own.from (boxed_own w.heap.size 44 (fun _ => _)) _).and (ownFrom_below (Nat.le_refl _) (by simp [hz0']; omega)))))
  (fun _ _ _ _ _ h _ _ => h)
  ⟨hb0.below ((Below.refl _ _).alloc (Nat.le_refl _) _), hbr.below ((Below.refl _ _).alloc (Nat.le_refl _) _), hb1.alloc _, hB0.alloc hB0.size _⟩
  (fun x => { tmps := #[.pointer (some ⟨C, 0, none⟩), .int .u16 s, .pointer (some ⟨w.heap.size, 0, none⟩), undef, .pointer (some ⟨w.heap.size + 1, 0, none⟩), .pointer (some ⟨w.heap.size + 1 + 1, 0, none⟩), .int .i64 (x.1 : Nat), .int .u16 s, .func (.func 108) #[] #[.pointer (some ⟨w.heap.size + 1 + 1 + 1, 0, none⟩)], .int .i64 (x.1 : Nat), undef, undef, undef, undef, undef, undef, undef, undef, undef], defers := [] }) ?assign ?body ?done ?stop
 case assign =>
  intro l x W K hK
  gi_wp2
  exact hK
 case body =>
  rintro l pre x W ⟨hc0, hcr, hb2, hB⟩ hlt
  have hel := elems_length s
  have hxn : x.1 < g.length := elems_below hs x.2
  obtain ⟨Ag, cg, An, cn, Ao, co, vb, va, h1, h2, _, _⟩ := HG.out.below hB
  have cC := blk_cell h1 0
  simp at cC
  obtain ⟨ad, A1, c1, rfl, hx0, hx1, hx2, hx3, _⟩ := at_Tk h2 x.1 hxn
  obtain ⟨p, hp⟩ : ∃ p : Nat, (rdTk g x.1).f2 = (p : Int) := ⟨(rdTk g x.1).f2.toNat, by have := HOK.out.2.2.1 x.1; omega⟩
  have hp3 : p < 3 := by have := HOK.out.2.2.1 x.1; omega
  have hx3b := HOK.out.2.2.2.1 x.1
  have hsm : (cnt g (pre.map (·.1))).small 1000 := cnt_small HOK.out (by rw [List.length_map]; omega)
  have HSN : Hid (cnt g ((pre ++ [x]).map (·.1)) = (cnt g (pre.map (·.1))).add p (rdTk g x.1).f3 1) := Lib.hid (by rw [List.map_append, List.map_cons, List.map_nil]; exact cnt_snoc _ hp)
  rw [hp] at hx2
  have HADD := Lib.hid (add_calls (w.heap.size + 1 + 1) (cnt g (pre.map (·.1))) (rdTk g x.1).f0 (.slice A1 (rdTk g x.1).f1.length c1) p (rdTk g x.1).f3 1 hp3 (by omega) (.inl rfl) hsm W hc0)
  have hxi : ((x.1 : Nat) : Int) < (g.length : Int) := by omega
  have hc2 := hb2.cell
  have HI := Lib.hid (And.intro hc0 (And.intro hcr (And.intro hb2 hB)))
  clear h1 h2 hsm hp hc0 hcr hb2 hB hx3b
  gi_wp2_with (refine ⟨trivial, ?_⟩; gi_at_call 55; refine CallsIn.mono (CallsIn.inRound l (callsIn_wide.2 HADD.out)) ?_; rintro e w' ⟨rfl, hC', hk', hb'⟩)
  obtain ⟨hc0, hcr, hb2, hB⟩ := HI.out
  refine ⟨(keep_others1 hk' hc0).from _, hb'.mono (by omega), ?_, hcr.keep hk' (by omega), ?_, hB.trans (hb'.mono (by omega))⟩
  ·
   rw [HSN.out]
   exact hC'
  ·
   exact hk'.blk hb2 (by omega) (by simp)
 case stop =>
  rintro D c pre W _ _ h _
  exact h.elim
 case done =>
  rintro D ys W hD hys ⟨hc0, hcr, hb2, hB⟩ hK
  rw [hys] at hc0
  have HI := Lib.hid (And.intro hc0 (And.intro hcr (And.intro hB hK)))
  have HDL := hD
  rw [World.size_alloc, hz0'] at HDL
  have c0 : W.cell? ⟨w.heap.size + 1 + 1, 0, none⟩ = some (.int .i64 (cnt g (elems s)).t) := (blk_cell hc0 0).trans (by simp)
  have c1 : W.cell? ⟨w.heap.size + 1 + 1, 1, none⟩ = some (.int .i64 ((cnt g (elems s)).u 0)) := (blk_cell hc0 1).trans (by simp)
  have c2 : W.cell? ⟨w.heap.size + 1 + 1, 2, none⟩ = some (.int .i64 ((cnt g (elems s)).u 1)) := (blk_cell hc0 2).trans (by simp)
  have c3 : W.cell? ⟨w.heap.size + 1 + 1, 3, none⟩ = some (.int .i64 ((cnt g (elems s)).u 2)) := (blk_cell hc0 3).trans (by simp)
  have r0 : W.cell? ⟨w.heap.size + 1, 0, none⟩ = some (.int .i64 0) := (blk_cell hcr 0).trans (by simp [Ct.zero])
  have r1 : W.cell? ⟨w.heap.size + 1, 1, none⟩ = some (.int .i64 0) := (blk_cell hcr 1).trans (by simp [Ct.zero])
  have r2 : W.cell? ⟨w.heap.size + 1, 2, none⟩ = some (.int .i64 0) := (blk_cell hcr 2).trans (by simp [Ct.zero])
  have r3 : W.cell? ⟨w.heap.size + 1, 3, none⟩ = some (.int .i64 0) := (blk_cell hcr 3).trans (by simp [Ct.zero])
  have f0 := blk_frozen hcr 0
  have f1 := blk_frozen hcr 1
  have f2 := blk_frozen hcr 2
  have f3 := blk_frozen hcr 3
  clear hb0 hbr hb1 hBox hcr hB hK hD hc0 hb2 hys
  go_wp2
  obtain ⟨hc0, hcr, hB, hK⟩ := HI.out
  have k0 := blk_set hcr 0 (.int .i64 (cnt g (elems s)).t)
  have k1 := blk_set k0 1 (.int .i64 ((cnt g (elems s)).u 0))
  have k2 := blk_set k1 2 (.int .i64 ((cnt g (elems s)).u 1))
  have k3 := blk_set k2 3 (.int .i64 ((cnt g (elems s)).u 2))
  have hKB := ((((KeepBut.refl W (w.heap.size + 1) none).set_ 0 (.int .i64 (cnt g (elems s)).t)).set_ 1 (.int .i64 ((cnt g (elems s)).u 0))).set_ 2 (.int .i64 ((cnt g (elems s)).u 1))).set_ 3 (.int .i64 ((cnt g (elems s)).u 2))
  have hK4 := hKB.blk hK (by omega) (by simp)
  have hB4 := (((hB.setCell (p := ⟨w.heap.size + 1, 0, none⟩) (by simp) (.int .i64 (cnt g (elems s)).t)).setCell (p := ⟨w.heap.size + 1, 1, none⟩) (by simp) (.int .i64 ((cnt g (elems s)).u 0))).setCell (p := ⟨w.heap.size + 1, 2, none⟩) (by simp) (.int .i64 ((cnt g (elems s)).u 1))).setCell (p := ⟨w.heap.size + 1, 3, none⟩) (by simp) (.int .i64 ((cnt g (elems s)).u 2))
  generalize (((W.setCell ⟨w.heap.size + 1, 0, none⟩ (.int .i64 (cnt g (elems s)).t)).setCell ⟨w.heap.size + 1, 1, none⟩ (.int .i64 ((cnt g (elems s)).u 0))).setCell ⟨w.heap.size + 1, 2, none⟩ (.int .i64 ((cnt g (elems s)).u 1))).setCell ⟨w.heap.size + 1, 3, none⟩ (.int .i64 ((cnt g (elems s)).u 2)) = W4 at k3 hK4 hB4 ⊢
  have hCA : CAt (W4.putObj D (.deferred none)) (w.heap.size + 1) (cnt g (elems s)) := (World.putObj_heap_other (by omega)).trans (k3.trans (by simp [Ct.zero]))
  have d0 : (W4.putObj D (.deferred none)).cell? ⟨w.heap.size + 1, 0, none⟩ = some (.int .i64 (cnt g (elems s)).t) := (blk_cell hCA 0).trans (by simp)
  have d1 : (W4.putObj D (.deferred none)).cell? ⟨w.heap.size + 1, 1, none⟩ = some (.int .i64 ((cnt g (elems s)).u 0)) := (blk_cell hCA 1).trans (by simp)
  have d2 : (W4.putObj D (.deferred none)).cell? ⟨w.heap.size + 1, 2, none⟩ = some (.int .i64 ((cnt g (elems s)).u 1)) := (blk_cell hCA 2).trans (by simp)
  have d3 : (W4.putObj D (.deferred none)).cell? ⟨w.heap.size + 1, 3, none⟩ = some (.int .i64 ((cnt g (elems s)).u 2)) := (blk_cell hCA 3).trans (by simp)
  refine leave_one (v := .agg #[.int .i64 (cnt g (elems s)).t, .int .i64 ((cnt g (elems s)).u 0), .int .i64 ((cnt g (elems s)).u 1), .int .i64 ((cnt g (elems s)).u 2)]) hK4 ?_ ⟨rfl, ?_⟩
  ·
   generalize W4.putObj D (.deferred none) = W5 at d0 d1 d2 d3
   simp [results, Tryz.results83, go_sem, d0, d1, d2, d3]
   done
  ·
   exact hB4.trans (belowK_b (w := w) (Nat.le_refl _) W4 D _ _ (by omega) hK4 rfl rfl)
def admStep (g : List Tk) (rm : List Int) (wk : Int) (st : Ct × List Nat) (i : Nat) : Ct × List Nat :=
 if st.1.can (rdTk g i).f2.toNat (rdTk g i).f3 rm wk then (st.1.add (rdTk g i).f2.toNat (rdTk g i).f3 1, st.2 ++ [i]) else st
def admN (g : List Tk) (rm : List Int) (wk : Int) (c : Ct) (l : List Nat) : Ct × List Nat := l.foldl (admStep g rm wk) (c, [])
theorem admN_snoc (g : List Tk) (rm : List Int) (wk : Int) (c : Ct) (l : List Nat) (i : Nat) : admN g rm wk c (l ++ [i]) = admStep g rm wk (admN g rm wk c l) i := by
 unfold admN
 rw [List.foldl_append]
 rfl
theorem Ct.small_mono {c : Ct} {n m : Int} (h : c.small n) (hnm : n ≤ m) : c.small m := ⟨by have := h.1; omega, fun j => by have := h.2 j; omega⟩
theorem Ct.small_add {c : Ct} {n : Int} (h : c.small n) {p : Nat} {x : Int} (hx : 0 ≤ x ∧ x ≤ 1000) : (c.add p x 1).small (n + 1) := by
 refine ⟨?_, fun j => ?_⟩
 ·
  have := h.1
  show -(n + 1) ≤ c.t + 1 ∧ c.t + 1 ≤ n + 1
  omega
 ·
  have := h.2 j
  show -(1000 * (n + 1)) ≤ (if j = p then c.u j + 1 * x else c.u j) ∧ (if j = p then c.u j + 1 * x else c.u j) ≤ 1000 * (n + 1)
  split <;> omega
theorem admN_facts {g : List Tk} (hg : TOk g) (rm : List Int) (wk : Int) {c : Ct} (hc : c.small 100) (l : List Nat) : ∀ j, j ≤ l.length → (admN g rm wk c (l.take j)).1.small (100 + j) ∧ (admN g rm wk c (l.take j)).2.length ≤ j
 | 0, _ => ⟨by simpa [admN] using hc, by simp [admN]⟩
 | j + 1, hj => by
  obtain ⟨h1, h2⟩ := admN_facts hg rm wk hc l j (by omega)
  rw [List.take_succ_eq_append_getElem (by omega), admN_snoc]
  have hx := hg.2.2.2.1 l[j]
  unfold admStep
  split
  ·
   refine ⟨Ct.small_mono (Ct.small_add h1 (by omega)) (by omega), ?_⟩
   rw [List.length_append]
   simp
   omega
  ·
   exact ⟨Ct.small_mono h1 (by omega), by omega⟩
set_option maxRecDepth 1000000 in
set_option maxHeartbeats 4000000 in
theorem admitted_calls (C : Nat) (g : List Tk) (ns : List Nat) (ct : Ct) (A : Option Addr) (k : Nat) (rm : List Int) (A' : Option Addr) (k' : Nat) (l : List Nat) (wk : Int) (hok : TOk g) (hc : ct.small 100) (hrm : rm.length = 3) (hl : l.length ≤ 16) (hlt : ∀ i ∈ l, i < g.length) (w : World) (hG : IsGraph w C g ns) (hr : (Kd.int .i64).C w A rm.length rm) (hr' : (Kd.int .i64).C w A' l.length (ints l)) :
  Calls Tryz.prog 82 #[.pointer (some ⟨C, 0, none⟩), .agg #[.int .i64 ct.t, .int .i64 (ct.u 0), .int .i64 (ct.u 1), .int .i64 (ct.u 2)], .slice A rm.length k, .slice A' l.length k', .int .i64 wk] w fun e w' => ∃ v, e = .returned v ∧ Kd.R (Kd.int .i64) 3 w' w.heap.size (fun _ => True) v (ints (admN g rm wk ct l).2) ∧ Below w.heap.size w w' := by
 have h8 := hok.1
 have hCl : C < w.heap.size := by obtain ⟨Ag, cg, An, cn, Ao, co, vb, va, h1, _⟩ := hG; exact blk_lt h1
 have HG := Lib.hid hG
 have HOK := Lib.hid hok
 have HR := Lib.hid hr
 have HR' := Lib.hid hr'
 have HLT := Lib.hid hlt
 have HRM := Lib.hid hrm
 have HF := Lib.hid (admN_facts hok rm wk hc l)
 clear hG hok hr hr' hlt hc hrm
 go_enter Tryz.func82, Tryz.ntmps82
 go_wp2
 obtain ⟨W0, hW0⟩ : ∃ W0, W0 = w.alloc (.cells #[.int .i64 ct.t, .int .i64 (ct.u 0), .int .i64 (ct.u 1), .int .i64 (ct.u 2)] 89) := ⟨_, rfl⟩
 have hz0 : W0.heap.size = w.heap.size + 1 := by rw [hW0]; simp
 have hC0 : CAt W0 w.heap.size ct := by rw [hW0]; exact World.alloc_heap_new _ _
 have hB0 : Below w.heap.size w W0 := by rw [hW0]; exact (Below.refl _ _).alloc (Nat.le_refl _) _
 rw [← hW0]
 clear hW0
 have HB1 : Below w.heap.size w (W0.alloc (.cells #[] 3)) := hB0.alloc hB0.size _
 have HC1 : CAt (W0.alloc (.cells #[] 3)) w.heap.size ct := hC0.below ((Below.refl _ _).alloc (Nat.le_refl _) _)
 have HO : Kd.R (Kd.int .i64) 3 (W0.alloc (.cells #[] 3)) w.heap.size (fun _ => True) (.slice (some ⟨w.heap.size + 1, 0, none⟩) 0 0) (ints []) := by
  rw [← hz0]
  exact Kd.R_of_own (World.ownsRow_lit (base := w.heap.size) (size := 1) W0 #[] 0 (by omega) (by simp [maxLen]) rfl) (fun _ _ => trivial)
 clear hC0 hB0
 go_loopw [11, 17] (fun out i wr => ∃ j, j ≤ l.length ∧ i = .int .i64 (j : Nat) ∧ Kd.R (Kd.int .i64) 3 wr w.heap.size (fun _ => True) out (ints (admN g rm wk ct (l.take j)).2) ∧ CAt wr w.heap.size (admN g rm wk ct (l.take j)).1 ∧ Below w.heap.size w wr) (fun _ i _ => l.length - (intOf i).toNat)
 case atStart => exact ⟨0, Nat.zero_le _, rfl, HO, HC1, HB1⟩
 case round =>
  clear HO HB1 HC1
  obtain ⟨j, hj, rfl, hO, hCt, hB⟩ := hrel
  by_cases hjl : j < l.length
  ·
   obtain ⟨ad, rfl, cx⟩ := at_set (Kd.C_below HR'.out hB) j hjl
   have hxg : l.getD j 0 < g.length := by
    apply HLT.out
    rw [List.getD_eq_getElem?_getD, List.getElem?_eq_getElem hjl]
    exact List.getElem_mem _
   have hjj : decide ((j : Int) < (l.length : Int)) = true := decide_eq_true (by omega)
   have hji : (j : Int) < (l.length : Int) := by omega
   obtain ⟨hsm, hln⟩ := HF.out j (by omega)
   have HSN : Hid (admN g rm wk ct (l.take (j + 1)) = admStep g rm wk (admN g rm wk ct (l.take j)) (l.getD j 0)) := Lib.hid (by
    rw [List.take_succ_eq_append_getElem hjl, admN_snoc, List.getD_eq_getElem?_getD, List.getElem?_eq_getElem hjl]
    rfl)
   generalize admN g rm wk ct (l.take j) = st at hO hCt hsm hln HSN
   obtain ⟨c, out⟩ := st
   have hln : out.length ≤ j := hln
   have hol : (ints out).length < 1000000 := by rw [ints_length]; omega
   generalize l.getD j 0 = x at cx hxg HSN
   obtain ⟨Ag, cg, An, cn, Ao, co, vb, va, h1, h2, _, _⟩ := HG.out.below hB
   have cC := blk_cell h1 0
   simp at cC
   obtain ⟨adg, A1, c1, rfl, hx0, hx1, hx2, hx3, _⟩ := at_Tk h2 x hxg
   have hxi : (x : Int) < (g.length : Int) := by omega
   obtain ⟨p, hp⟩ : ∃ p : Nat, (rdTk g x).f2 = (p : Int) := ⟨(rdTk g x).f2.toNat, by have := HOK.out.2.2.1 x; omega⟩
   have hp3 : p < 3 := by have := HOK.out.2.2.1 x; omega
   have hx3b := HOK.out.2.2.2.1 x
   have HSN2 : Hid (admN g rm wk ct (l.take (j + 1)) = if c.can p (rdTk g x).f3 rm wk then (c.add p (rdTk g x).f3 1, out ++ [x]) else (c, out)) := Lib.hid (by rw [HSN.out]; unfold admStep; rw [hp]; rfl)
   rw [hp] at hx2
   have HTK := Lib.hid (takes_calls w.heap.size c (rdTk g x).f0 (.slice A1 (rdTk g x).f1.length c1) p (rdTk g x).f3 A k rm wk hp3 (by omega) (Ct.small_mono hsm (by omega)) HRM.out wr hCt (Kd.C_below HR.out hB))
   have HOT : Hid (∀ w2, KeepBut wr w2 w.heap.size none → Kd.R (Kd.int .i64) 3 w2 w.heap.size (fun _ => True) u11 (ints out)) := Lib.hid (fun w2 hK2 => Kd.R_mono (Kd.R_keep (Kd.R_types hO hCt (fun q hq => by rcases List.mem_cons.1 hq with rfl | h; (· decide); · exact absurd (show q ∈ ([] : List Nat) from h) (by simp))) hK2 (fun _ h => h.2)) (fun _ _ => trivial))
   have HW := Lib.hid hB
   clear h1 h2 hO hB hCt hsm HSN hp
   generalize c.can p (rdTk g x).f3 rm wk = cb at HSN2 HTK
   cases cb with
   | true =>
    rw [if_pos rfl] at HSN2
    go_wp2_with (first | (go_at_call 56; refine HTK.out.mono ?_; rintro e w2 ⟨rfl, hC2, hK2, hB2⟩; rw [if_pos rfl] at hC2; have hO2 := HOT.out _ hK2; have hBw := HW.out.trans hB2) | (at_builtin; refine ap_int (w0 := w) w.heap.size rfl _ _ rfl u11 (ints out) (x : Int) rfl rfl rfl hO2 hBw hBw.size hol ?_; intro v1 w3 hO3 hB3 hg3 hat3))
    go_roundw
    case rel => exact ⟨j + 1, by omega, by go_num, by rw [HSN2.out]; simpa [ints] using hO3, by rw [HSN2.out]; exact (hg3.block _ hC2.lt (Kd.R_ne hO2 hC2 (by decide))).trans hC2, hB3⟩
    case measure => simp [intOf]; omega
   | false =>
    rw [if_neg (by simp)] at HSN2
    go_wp2_with (go_at_call 56; refine HTK.out.mono ?_; rintro e w2 ⟨rfl, hC2, hK2, hB2⟩)
    rw [if_neg (by simp)] at hC2
    go_roundw
    case rel => exact ⟨j + 1, by omega, by go_num, by rw [HSN2.out]; exact HOT.out _ hK2, by rw [HSN2.out]; exact hC2, HW.out.trans hB2⟩
    case measure => simp [intOf]; omega
  ·
   obtain rfl : j = l.length := by omega
   have hjj : decide ((l.length : Int) < (l.length : Int)) = false := decide_eq_false (by omega)
   rw [List.take_length] at hO
   go_wp2
   go_ret
   exact ⟨_, rfl, hO, hB⟩
end Go.Proofs.YtlapphhcficbjaaGreatDoor

namespace Go.Proofs.YtlapphhcficbjaaGreatDoor
set_option linter.unusedVariables false
set_option linter.unusedSimpArgs false
open Go.RowKit Go.Shelf Bits
open Go.Proofs.YtlapphhcficbjaaGreatDoorW.PrintWords Go.Proofs.YtlapphhcficbjaaGreatDoorW.PrintLast Go.Proofs.YtlapphhcficbjaaGreatDoorW.PrintMore
open PFnValidLog
theorem admN_cnt {g : List Tk} (hg : TOk g) (rm : List Int) (wk : Int) (r : List Nat) (l : List Nat) : ∀ j, j ≤ l.length → (admN g rm wk (cnt g r) (l.take j)).1 = cnt g (r ++ (admN g rm wk (cnt g r) (l.take j)).2)
 | 0, _ => by simp [admN]
 | j + 1, hj => by
  have h1 := admN_cnt hg rm wk r l j (by omega)
  rw [List.take_succ_eq_append_getElem (by omega), admN_snoc]
  generalize admN g rm wk (cnt g r) (l.take j) = st at h1
  unfold admStep
  split
  ·
   show st.1.add _ _ 1 = cnt g (r ++ (st.2 ++ [l[j]]))
   rw [← List.append_assoc, cnt_snoc (p := (rdTk g l[j]).f2.toNat) _ (by have := hg.2.2.1 l[j]; omega), h1]
  ·
   exact h1
theorem admFold_full {g : List Tk} (rm : List Int) {wk : Int} {st : Ct × List Nat} (h : wk ≤ st.1.t) : ∀ l : List Nat, l.foldl (admStep g rm wk) st = st
 | [] => rfl
 | i :: l => by
  have e : admStep g rm wk st i = st := by
   unfold admStep Ct.can
   rw [decide_eq_false (by omega), Bool.false_and]
   rfl
  rw [List.foldl_cons, e]
  exact admFold_full rm h l
theorem admN_full {g : List Tk} (rm : List Int) {wk : Int} (c : Ct) (l : List Nat) (j : Nat) (h : wk ≤ (admN g rm wk c (l.take j)).1.t) : admN g rm wk c l = admN g rm wk c (l.take j) := by
 conv => lhs; rw [← List.take_append_drop j l]
 unfold admN at h ⊢
 rw [List.foldl_append]
 exact admFold_full rm h _
theorem admN_sub (g : List Tk) (rm : List Int) (wk : Int) (c : Ct) (l : List Nat) : ∀ j, j ≤ l.length → ∀ i ∈ (admN g rm wk c (l.take j)).2, i ∈ l
 | 0, _ => by simp [admN]
 | j + 1, hj => by
  have h1 := admN_sub g rm wk c l j (by omega)
  rw [List.take_succ_eq_append_getElem (by omega), admN_snoc]
  unfold admStep
  split
  ·
   intro i hi
   rcases List.mem_append.1 hi with h | h
   ·
    exact h1 i h
   ·
    rw [List.mem_singleton] at h
    rw [h]
    exact List.getElem_mem _
  ·
   exact h1
theorem cnt_small100 {g : List Tk} (hg : TOk g) {l : List Nat} (hl : l.length ≤ 50) : (cnt g l).small 100 := by
 refine ⟨⟨?_, ?_⟩, fun j => ?_⟩
 ·
  show -100 ≤ (l.length : Int)
  omega
 ·
  show (l.length : Int) ≤ 100
  omega
 ·
  have := usedS_bound hg j l
  show -(1000 * 100) ≤ usedS g l j ∧ usedS g l j ≤ 1000 * 100
  omega
structure Two (W : World) (base : Nat) (u v : Value) (xs ys : List Int) : Prop where
 a : Kd.R (Kd.int .i64) 3 W base (fun _ => True) u xs
 b : Kd.R (Kd.int .i64) 3 W base (fun _ => True) v ys
 ne : ∀ k, u.ownBlock = some k → v.ownBlock ≠ some k
theorem Two.below {W W' : World} {base : Nat} {u v : Value} {xs ys : List Int} (h : Two W base u v xs ys) (hb : Below W.heap.size W W') : Two W' base u v xs ys := ⟨Kd.R_below h.a hb, Kd.R_below h.b hb, h.ne⟩
theorem Two.swap {W : World} {base : Nat} {u v : Value} {xs ys : List Int} (h : Two W base u v xs ys) : Two W base v u ys xs := ⟨h.b, h.a, fun k h1 h2 => h.ne k h2 h1⟩
theorem R_lt {W : World} {base : Nat} {u : Value} {xs : List Int} (h : Kd.R (Kd.int .i64) 3 W base (fun _ => True) u xs) {k : Nat} (hk : u.ownBlock = some k) : k < W.heap.size := ((Kd.R_bound h).1 k hk).2.2.1
theorem Two.grow {W W1 : World} {base : Nat} {u v u1 : Value} {xs ys xs1 : List Int} (h : Two W base u v xs ys) (h1 : Kd.R (Kd.int .i64) 3 W1 base (fun _ => True) u1 xs1) (hg : W.grownBy W1 u.ownBlock) (hat : u1.ownBlock = u.ownBlock ∨ ∃ b, u1.ownBlock = some b ∧ W.heap.size ≤ b) : Two W1 base u1 v xs1 ys := by
 refine ⟨h1, Kd.R_mono (Kd.R_grown (Kd.R_of_own (ok := fun k => v.ownBlock = some k) (Kd.own_of_R h.b) (fun k hk => hk)) hg (fun k hk e => h.ne k e.symm hk)) (fun _ _ => trivial), fun k hk hv => ?_⟩
 rcases hat with e | ⟨b, e, hb⟩
 ·
  exact h.ne k (e ▸ hk) hv
 ·
  rw [e] at hk
  cases hk
  have := R_lt h.b hv
  omega
set_option maxRecDepth 1000000 in
set_option maxHeartbeats 4000000 in
theorem admit_calls (A : Option Addr) (c : Nat) (g : List Tk) (A1 : Option Addr) (c1 : Nat) (rm : List Int) (A2 : Option Addr) (c2 : Nat) (run : List Nat) (A3 : Option Addr) (c3 : Nat) (l : List Nat) (wk : Int) (hg : TOk g) (hrm : rm.length = 3) (hrn : run.length ≤ 50) (hrg : ∀ i ∈ run, i < g.length) (hl : l.length ≤ 16) (hlt : ∀ i ∈ l, i < g.length) (w : World) (hr : kTk.C w A g.length g) (hr1 : (Kd.int .i64).C w A1 rm.length rm) (hr2 : (Kd.int .i64).C w A2 run.length (ints run)) (hc2 : run.length ≤ c2) (hr3 : (Kd.int .i64).C w A3 l.length (ints l)) :
  Calls Tryz.prog 142 #[.slice A g.length c, .slice A1 rm.length c1, .slice A2 run.length c2, .slice A3 l.length c3, .int .i64 wk] w fun e w' => ∃ v, e = .returned v ∧ Kd.R (Kd.int .i64) 3 w' w.heap.size (fun _ => True) v (ints (admN g rm wk (cnt g run) l).2) ∧ Below w.heap.size w w' := by
 have HR := Lib.hid hr
 have HR1 := Lib.hid hr1
 have HR3 := Lib.hid hr3
 have HG := Lib.hid hg
 have HRM := Lib.hid hrm
 have HRG := Lib.hid hrg
 have HLT := Lib.hid hlt
 have HF := Lib.hid (admN_facts hg rm wk (c := cnt g run) (cnt_small100 hg hrn) l)
 have HCN := Lib.hid (admN_cnt hg rm wk run l)
 have HSUB : Hid (∀ j, j ≤ l.length → ∀ i ∈ (admN g rm wk (cnt g run) (l.take j)).2, i < g.length) := Lib.hid (fun j hj i hi => hlt i (admN_sub g rm wk (cnt g run) l j hj i hi))
 have hBw : Below w.heap.size w (w.alloc (.cells #[] 3)) := (Below.refl _ _).alloc (Nat.le_refl _) _
 have hcp := spec_copyInts.calls A2 c2 (ints run) (ints run) (w.alloc (.cells #[] 3)) (by rw [ints_length]; exact Kd.C_below hr2 hBw) (by rw [ints_length]; exact hc2) (copyInts_some _ (by rw [ints_length]; omega))
 rw [ints_length] at hcp
 have HCP := Lib.hid hcp
 clear hr hr1 hr2 hr3 hg hrm hrg hlt hcp
 go_enter Tryz.func142, Tryz.ntmps142
 go_wp2_with (go_at_call 77; refine HCP.out.mono ?_; rintro e w2 ⟨v0, rfl, hv0, hB2⟩)
 have HO : Kd.R (Kd.int .i64) 3 (w.alloc (.cells #[] 3)) w.heap.size (fun _ => True) (.slice (some ⟨w.heap.size, 0, none⟩) 0 0) (ints []) := Kd.R_of_own (World.ownsRow_lit (base := w.heap.size) (size := 1) w #[] 0 (Nat.le_refl _) (by simp [maxLen]) rfl) (fun _ _ => trivial)
 have HT2 : Two w2 w.heap.size (.slice (some ⟨w.heap.size, 0, none⟩) 0 0) v0 (ints []) (ints run) := ⟨Kd.R_below HO hB2, Kd.R_lower hv0 (by simp), fun k h1 h2 => by
  have h3 := ((Kd.R_bound hv0).1 k h2).2.1
  simp [Value.ownBlock] at h1
  simp at h3
  omega⟩
 have HBW : Below w.heap.size w w2 := hBw.trans (hB2.mono (by simp))
 clear HO hv0 hB2 hBw
 go_loopw [11, 12, 13] (fun out now i wr => ∃ j, j ≤ l.length ∧ i = .int .i64 (j : Nat) ∧ Two wr w.heap.size out now (ints (admN g rm wk (cnt g run) (l.take j)).2) (ints (run ++ (admN g rm wk (cnt g run) (l.take j)).2)) ∧ Below w.heap.size w wr) (fun _ _ i _ => l.length - (intOf i).toNat)
 case atStart => exact ⟨0, Nat.zero_le _, rfl, by simpa [admN] using HT2, HBW⟩
 case round =>
  clear HT2 HBW
  obtain ⟨j, hj, rfl, hT, hB⟩ := hrel
  by_cases hjl : j < l.length
  ·
   have hjj : decide ((j : Int) < (l.length : Int)) = true := decide_eq_true (by omega)
   have hji : (j : Int) < (l.length : Int) := by omega
   obtain ⟨hsm, hln⟩ := HF.out j (by omega)
   have hcn := HCN.out j (by omega)
   have hsub := HSUB.out j (by omega)
   have HSN : Hid (admN g rm wk (cnt g run) (l.take (j + 1)) = admStep g rm wk (admN g rm wk (cnt g run) (l.take j)) (l.getD j 0)) := Lib.hid (by
    rw [List.take_succ_eq_append_getElem hjl, admN_snoc, List.getD_eq_getElem?_getD, List.getElem?_eq_getElem hjl]
    rfl)
   have HFULL := Lib.hid (admN_full rm (g := g) (wk := wk) (cnt g run) l j)
   generalize admN g rm wk (cnt g run) (l.take j) = st at hT hsm hln hcn hsub HSN HFULL
   obtain ⟨cc, out⟩ := st
   have hln : out.length ≤ j := hln
   have hcn : cc = cnt g (run ++ out) := hcn
   subst hcn
   obtain ⟨nw, hnw⟩ : ∃ nw, nw = run ++ out := ⟨_, rfl⟩
   have hnl : nw.length ≤ 80 := by rw [hnw, List.length_append]; omega
   have hnm : ∀ i ∈ nw, i < g.length := fun i hi => by
    rw [hnw] at hi
    rcases List.mem_append.1 hi with h | h
    ·
     exact HRG.out i h
    ·
     exact hsub i h
   have HNM := Lib.hid hnm
   have HNW := Lib.hid hnw
   rw [← hnw] at hT HSN HFULL
   clear hnw hsm hsub hnm
   obtain ⟨An, cnn, rfl, hcap, hCn⟩ := Kd.R_reads hT.b
   rw [ints_length] at hT hCn ⊢
   by_cases hwk : (nw.length : Int) < wk
   ·
    have dwk : decide ((nw.length : Int) < wk) = true := decide_eq_true hwk
    obtain ⟨ad, rfl, cx⟩ := at_set (Kd.C_below HR3.out hB) j hjl
    have hxg : l.getD j 0 < g.length := by
     apply HLT.out
     rw [List.getD_eq_getElem?_getD, List.getElem?_eq_getElem hjl]
     exact List.getElem_mem _
    generalize hxe : l.getD j 0 = x at cx hxg HSN
    have HXE := Lib.hid hxe
    clear hxe
    obtain ⟨adg, A4, c4, rfl, hx0, hx1, hx2, hx3, _⟩ := at_Tk (Kd.C_below HR.out hB) x hxg
    have hxi : (x : Int) < (g.length : Int) := by omega
    obtain ⟨p, hp⟩ : ∃ p : Nat, (rdTk g x).f2 = (p : Int) := ⟨(rdTk g x).f2.toNat, by have := HG.out.2.2.1 x; omega⟩
    have hp3 : p < 3 := by have := HG.out.2.2.1 x; omega
    have hx3b := HG.out.2.2.2.1 x
    have HSN2 : Hid (admN g rm wk (cnt g run) (l.take (j + 1)) = if (cnt g nw).can p (rdTk g x).f3 rm wk then ((cnt g nw).add p (rdTk g x).f3 1, out ++ [x]) else (cnt g nw, out)) := Lib.hid (by rw [HSN.out]; unfold admStep; rw [hp]; rfl)
    rw [hp] at hx2
    go_upto_region 7 with (fail)
    obtain ⟨W1, hW1⟩ : ∃ W1, W1 = wr.alloc (.cells #[.int .i64 (rdTk g x).f0, .slice A4 (rdTk g x).f1.length c4, .int .i64 p, .int .i64 (rdTk g x).f3] 49) := ⟨_, rfl⟩
    have hBa : Below wr.heap.size wr W1 := by rw [hW1]; exact (Below.refl _ _).alloc (Nat.le_refl _) _
    have bb : W1.heap[wr.heap.size]? = some (.cells #[.int .i64 (rdTk g x).f0, .slice A4 (rdTk g x).f1.length c4, .int .i64 p, .int .i64 (rdTk g x).f3] 49 (0, 0)) := by rw [hW1]; exact World.alloc_heap_new _ _
    have b2 : W1.cell? ⟨wr.heap.size, 2, none⟩ = some (.int .i64 p) := (blk_cell bb 2).trans (by simp)
    have b3 : W1.cell? ⟨wr.heap.size, 3, none⟩ = some (.int .i64 (rdTk g x).f3) := (blk_cell bb 3).trans (by simp)
    have HBA := Lib.hid (hB.trans (hBa.mono hB.size))
    have HT1 := Lib.hid (hT.below hBa)
    rw [← hW1]
    obtain ⟨adr, rfl, cr⟩ := at_num (Kd.C_below HR1.out HBA.out) p (by rw [HRM.out]; omega)
    obtain ⟨ad2, e2, cx1⟩ := at_set (Kd.C_below HR3.out HBA.out) j hjl
    cases e2
    rw [HXE.out] at cx1
    have hpr : (p : Int) < (rm.length : Int) := by rw [HRM.out]; omega
    have hub := usedS_bound HG.out p nw
    have HCG := Lib.hid (Kd.C_below HR.out HBA.out)
    obtain ⟨An2, cn2, e2, _, hCn1⟩ := Kd.R_reads HT1.out.b
    rw [ints_length] at e2 hCn1
    cases e2
    have HCN1 := Lib.hid hCn1
    have HCAN : Hid ((cnt g nw).can p (rdTk g x).f3 rm wk = (decide ((nw.length : Int) < wk) && decide (usedS g nw p + (rdTk g x).f3 ≤ rm.getD p 0))) := Lib.hid rfl
    clear hW1 hBa bb hCn1 hCn hT hB hx0 hx1 hx2 hx3 cx hp
    generalize hU : usedS g nw p = U at hub HCAN
    have HU := Lib.hid hU
    generalize (rdTk g x).f3 = f3 at hx3b b3 HCAN HSN2
    generalize rm.getD p 0 = rp at cr HCAN
    clear hU
    have hnl2 : nw.length ≤ 100 := by omega
    have hws : IntKind.i64.wrap (U + f3) = U + f3 := IntWalk.i64_in _ (by omega)
    have hol : (ints out).length < 1000000 := by rw [ints_length]; omega
    have hnl3 : (ints nw).length < 1000000 := by rw [ints_length]; omega
    by_cases hfit : U + f3 ≤ rp
    ·
     have dfit : decide (U + f3 ≤ rp) = true := decide_eq_true hfit
     rw [dwk, dfit] at HCAN
     rw [HCAN.out, Bool.true_and, if_pos rfl] at HSN2
     clear hfit hwk
     go_wp2
     go_quiet ((go_at_call 107; exact Calls.quiet_of_same (used_is U _ _ g _ _ nw p HU HG.out hnl2 HNM.out _ (Kd.C_drewN HCG.out _) (Kd.C_drewN HCN1.out _))))
     clear hws
     have hT2 := HT1.out.below (pw_below_drewN (Below.refl _ _) nq)
     have hB2 := pw_below_drewN HBA.out nq
     go_wp2_with (first
      | (at_builtin; refine ap_int (w0 := w) w.heap.size rfl _ _ rfl u11 (ints out) (x : Int) rfl rfl rfl hT2.a hB2 hB2.size hol ?_; intro v1 w3 hO3 hB3 hg3 hat3; have hT3 := hT2.grow hO3 hg3 hat3; obtain ⟨ad2, e2, cx3⟩ := at_set (Kd.C_below HR3.out hB3) j hjl; cases e2; rw [HXE.out] at cx3)
      | (at_builtin; refine ap_int (w0 := w) w.heap.size rfl _ _ rfl (.slice An nw.length cnn) (ints nw) (x : Int) rfl rfl rfl hT3.b hB3 hB3.size hnl3 ?_; intro v2 w4 hO4 hB4 hg4 hat4; have hT4 := (hT3.swap.grow hO4 hg4 hat4).swap))
     go_roundw
     case rel => exact ⟨j + 1, by omega, by go_num, by rw [HSN2.out]; show Two _ _ _ _ (ints (out ++ [x])) (ints (run ++ (out ++ [x]))); rw [← List.append_assoc, ← HNW.out]; simpa [ints] using hT4, hB4⟩
     case measure => simp [intOf]; omega
    ·
     have dfit : decide (U + f3 ≤ rp) = false := decide_eq_false hfit
     rw [dwk, dfit] at HCAN
     rw [HCAN.out, Bool.true_and, if_neg (by simp)] at HSN2
     clear hfit hwk
     go_wp2
     go_quiet ((go_at_call 107; exact Calls.quiet_of_same (used_is U _ _ g _ _ nw p HU HG.out hnl2 HNM.out _ (Kd.C_drewN HCG.out _) (Kd.C_drewN HCN1.out _))))
     clear hws
     go_wp2
     go_roundw
     case rel => exact ⟨j + 1, by omega, by go_num, by rw [HSN2.out]; show Two _ _ _ _ (ints out) (ints (run ++ out)); rw [← HNW.out]; exact (HT1.out.below (pw_below_drewN (Below.refl _ _) nq)), pw_below_drewN HBA.out nq⟩
     case measure => simp [intOf]; omega
   ·
    have dwk : decide ((nw.length : Int) < wk) = false := decide_eq_false hwk
    have HE : Hid (admN g rm wk (cnt g run) l = (cnt g nw, out)) := Lib.hid (HFULL.out (by show wk ≤ (nw.length : Int); omega))
    go_wp2
    go_ret
    exact ⟨_, rfl, by rw [HE.out]; exact hT.a, hB⟩
  ·
   obtain rfl : j = l.length := by omega
   have hjj : decide ((l.length : Int) < (l.length : Int)) = false := decide_eq_false (by omega)
   rw [List.take_length] at hT
   go_wp2
   go_ret
   exact ⟨_, rfl, hT.a, hB⟩
end Go.Proofs.YtlapphhcficbjaaGreatDoor

namespace Go.Proofs.YtlapphhcficbjaaGreatDoor
set_option linter.unusedVariables false
set_option linter.unusedSimpArgs false
open Go.RowKit Go.Shelf Bits
open Go.Proofs.YtlapphhcficbjaaGreatDoorW.PrintWords Go.Proofs.YtlapphhcficbjaaGreatDoorW.PrintLast Go.Proofs.YtlapphhcficbjaaGreatDoorW.PrintMore
def mostS (g : List Tk) (o : List Int) (i : Nat) : Nat → Int
 | 0 => 0
 | k + 1 => if decide ((i : Int) ∈ (rdTk g k).f1) then max (mostS g o i k) (o.getD k 0) else mostS g o i k
def sStep (g : List Tk) (o : List Int) (i : Nat) : List Int := o.set i (mostS g o i g.length + (rdTk g i).f0)
def tailsSL (g : List Tk) (pre : List Nat) : List Int := pre.foldl (fun o p => sStep g o ((topL g).getD p 0)) (List.replicate g.length 0)
def tailsS (g : List Tk) : List Int := tailsSL g (backL (topL g).length (topL g).length)
theorem mostS_span {g : List Tk} {o : List Int} {n : Nat} {b : Int} (h : Span o n b) (i : Nat) (hb : 0 ≤ b) : ∀ k, 0 ≤ mostS g o i k ∧ mostS g o i k ≤ b
 | 0 => ⟨Int.le_refl _, hb⟩
 | k + 1 => by
  have ih := mostS_span (g := g) h i hb k
  have := h.2 k
  unfold mostS
  split <;> omega
theorem tailsSL_snoc (g : List Tk) (pre : List Nat) (p : Nat) : tailsSL g (pre ++ [p]) = sStep g (tailsSL g pre) ((topL g).getD p 0) := by
 unfold tailsSL
 rw [List.foldl_append]
 rfl
theorem span_zero (n : Nat) : Span (List.replicate n 0) n 0 := ⟨by simp, fun j => by
 rw [List.getD_eq_getElem?_getD, List.getElem?_replicate]
 split <;> simp⟩
theorem tailsSL_span {g : List Tk} (htm : ∀ i, 0 ≤ (rdTk g i).f0 ∧ (rdTk g i).f0 ≤ 20) (pre : List Nat) : Span (tailsSL g pre) g.length (20 * pre.length) := by
 have key : ∀ (pre : List Nat) (o : List Int) (b : Int), 0 ≤ b → Span o g.length b → Span (pre.foldl (fun o p => sStep g o ((topL g).getD p 0)) o) g.length (b + 20 * pre.length) := by
  intro pre
  induction pre with
  | nil =>
   intro o b _ h
   simpa using h
  | cons p pre ih =>
   intro o b hb h
   have h1 := mostS_span (g := g) h ((topL g).getD p 0) hb g.length
   have h2 := htm ((topL g).getD p 0)
   have h4 := ih _ (b + 20) (by omega) (h.set (b' := b + 20) (by omega) (x := mostS g o ((topL g).getD p 0) g.length + (rdTk g ((topL g).getD p 0)).f0) (by omega) ((topL g).getD p 0))
   rw [List.length_cons]
   have e : b + 20 + 20 * (pre.length : Int) = b + 20 * ((pre.length + 1 : Nat) : Int) := by omega
   rw [← e]
   exact h4
 have := key pre (List.replicate g.length 0) 0 (Int.le_refl _) (span_zero _)
 simpa [tailsSL] using this
set_option maxRecDepth 100000 in
set_option maxHeartbeats 8000000 in
theorem stails_calls (A : Option Addr) (c : Nat) (g : List Tk) (hv : specValid g = true) (w : World) (hr : kTk.C w A g.length g) :
  Calls Tryz.prog 149 #[.slice A g.length c] w fun e w' => ∃ v, e = .returned v ∧ Kd.R (Kd.int .i64) 3 w' w.heap.size (fun _ => True) v (tailsS g) ∧ Below w.heap.size w w' := by
 have htm := specValid_time hv
 have h8 : g.length ≤ 8 := by
  unfold specValid tasksFineB at hv
  simp at hv
  exact hv.1.2
 have HR := Lib.hid hr
 have HTM := Lib.hid htm
 have hmk := run_makeI g.length (by omega)
 clear hr htm hv
 go_enter Tryz.func149, Tryz.ntmps149
 go_wp2_with (go_at_call 105; refine (topOrder_calls _ _ _ h8 _ (Kd.C_below HR.out ((Below.refl _ w).alloc (Nat.le_refl _) _))).mono ?_; rintro e w2 ⟨v2, rfl, hR2, hB2⟩; have HR2 := Lib.hid hR2; obtain ⟨A2, c2, rfl, hl2, hC2⟩ := Kd.R_reads hR2; rw [ints_length] at hl2; rw [ints_length] at HR2; rw [ints_length] at hC2; rw [ints_length]; have HC2 := Lib.hid hC2; have HB2 := Lib.hid hB2; clear hR2 hC2 hB2)
 have hz1 : (w.alloc (.cells (zeroI g.length) 3)).heap.size = w.heap.size + 1 := by simp
 have hB2 := HB2.out
 rw [hz1] at hB2
 have hB : Below w.heap.size w w2 := ((Below.refl _ w).alloc (Nat.le_refl _) (.cells (zeroI g.length) 3)).trans (hB2.mono (by omega))
 have hI0 : IRow w2 w.heap.size (List.replicate g.length 0) := (hB2.block w.heap.size (by omega)).trans (World.alloc_heap_new w _)
 have hL := topN_le g g.length
 have hin := (topN_facts g g.length).2.1
 have hA2 : ∀ ad, A2 = some ad → 0 < (topL g).length → ad.block ≠ w.heap.size := fun ad e hl => by
  have := R_blk HR2.out (by rw [ints_length]; exact hl) ad e
  rw [hz1] at this
  omega
 have HA2 := Lib.hid hA2
 have HIN := Lib.hid hin
 clear hA2 hin hmk hz1 hB2
 replace hL : (topL g).length ≤ g.length := hL
 go_loopw [5, 6, 7, 8] (fun i at_ mo k wr => ∃ m, m ≤ (topL g).length ∧ i = .int .i64 (((topL g).length : Int) - 1 - (m : Nat)) ∧ IRow wr w.heap.size (tailsSL g (backL (topL g).length m)) ∧ Below w.heap.size w wr ∧ (Kd.int .i64).C wr A2 (topL g).length (ints (topL g))) (fun i _ _ _ _ => (intOf i + 1).toNat)
 case atStart => exact ⟨0, Nat.zero_le _, by simp; unfold wrap64; omega, hI0, hB, HC2.out⟩
 case round =>
  clear hI0 hB
  obtain ⟨m, hm, rfl, hI, hB, hC⟩ := hrel
  by_cases hml : m < (topL g).length
  ·
   obtain ⟨p, hp⟩ : ∃ p : Nat, p = (topL g).length - 1 - m := ⟨_, rfl⟩
   have ep : ((topL g).length : Int) - 1 - (m : Nat) = (p : Int) := by omega
   have hpl : p < (topL g).length := by omega
   have HSN : Hid (tailsSL g (backL (topL g).length (m + 1)) = sStep g (tailsSL g (backL (topL g).length m)) ((topL g).getD p 0)) := Lib.hid (by rw [backL_succ, tailsSL_snoc, ← hp])
   have HP := Lib.hid hp
   have hat : (topL g).getD p 0 < g.length := by
    apply HIN.out
    rw [List.getD_eq_getElem?_getD, List.getElem?_eq_getElem hpl]
    exact List.getElem_mem _
   have hsp := tailsSL_span HTM.out (backL (topL g).length m)
   rw [backL_length] at hsp
   obtain ⟨ad2, rfl, hc2⟩ := at_set hC p hpl
   rw [ep]
   have HC := Lib.hid hC
   clear hp ep hC
   generalize tailsSL g (backL (topL g).length m) = o at hI HSN hsp
   have HCI : Hid (∀ k : Nat, k < g.length → ∃ ad A1 c1, A = some ad ∧ wr.cell? ⟨(ad.add (k * 4)).block, (ad.add (k * 4)).off + 1, none⟩ = some (.slice A1 (rdTk g k).f1.length c1) ∧ (Kd.int .i64).C wr A1 (rdTk g k).f1.length (rdTk g k).f1) := Lib.hid fun k hk => by
    obtain ⟨ad, A1, c1, e, _, h1, _, _, _, h2⟩ := at_Tk (Kd.C_below HR.out hB) k hk
    exact ⟨ad, A1, c1, e, h1, h2⟩
   generalize hae : (topL g).getD p 0 = at_ at hc2 hat HSN
   have HAE := Lib.hid hae
   clear hae
   go_wp2
   obtain ⟨wo, rfl⟩ : ∃ wo : World, wo = wr := ⟨_, rfl⟩
   go_loopw [7, 8] (fun mo k wi => ∃ j, j ≤ g.length ∧ k = .int .i64 (j : Nat) ∧ mo = .int .i64 (mostS g o at_ j) ∧ wi = wo) (fun _ k _ => g.length - (intOf k).toNat)
   case atStart => exact ⟨0, Nat.zero_le _, rfl, rfl, rfl⟩
   case round =>
    obtain ⟨j, hj, rfl, rfl, rfl⟩ := hrel
    have hms := mostS_span (g := g) hsp at_ (by omega) j
    have HMS : Hid (mostS g o at_ (j + 1) = if decide ((at_ : Int) ∈ (rdTk g j).f1) then max (mostS g o at_ j) (o.getD j 0) else mostS g o at_ j) := Lib.hid rfl
    by_cases hjl : j < g.length
    ·
     obtain ⟨ad, A1, c1, rfl, hc1, hC1⟩ := HCI.out j hjl
     have hjj : decide ((j : Int) < (g.length : Int)) = true := decide_eq_true (by omega)
     have hoj := hsp.2 j
     have cR := hI.cell j (by have := hsp.1; omega)
     generalize mostS g o at_ j = mj at hms HMS
     generalize o.getD j 0 = oj at hoj cR HMS
     cases hm : decide ((at_ : Int) ∈ (rdTk g j).f1)
     ·
      have HM := Lib.hid hm
      rw [hm] at HMS
      clear hm
      generalize rdTk g j = t at hc1 hC1 HM
      go_wp2_with (go_at_call 112; with_reducible refine (isIn_is _ _ _ _ _ HM _ hC1).mono ?_; rintro e w' ⟨rfl, rfl⟩)
      go_roundw
      case rel => exact ⟨j + 1, by omega, by go_num, by rw [HMS.out]; rfl, trivial⟩
      case measure => simp [intOf]; omega
     ·
      have HM := Lib.hid hm
      rw [hm] at HMS
      clear hm
      generalize rdTk g j = t at hc1 hC1 HM
      go_wp2_with (go_at_call 112; with_reducible refine (isIn_is _ _ _ _ _ HM _ hC1).mono ?_; rintro e w' ⟨rfl, rfl⟩)
      all_goals
       go_roundw
       case rel => exact ⟨j + 1, by omega, by go_num, by rw [HMS.out]; simp only [if_true]; congr 1; first | omega | (split <;> omega), trivial⟩
       case measure => simp [intOf]; omega
    ·
     obtain rfl : j = g.length := by omega
     have hjj : decide ((g.length : Int) < (g.length : Int)) = false := decide_eq_false (by omega)
     obtain ⟨adg, A1, c1, rfl, hx0, _⟩ := at_Tk (Kd.C_below HR.out hB) at_ hat
     have htt := HTM.out at_
     have hol := hsp.1
     have HSS : Hid (sStep g o at_ = o.set at_ (mostS g o at_ g.length + (rdTk g at_).f0)) := Lib.hid rfl
     have fR := hI.frozen at_
     have cR := hI.cell at_ (by omega)
     generalize mostS g o at_ g.length = mj at hms HSS
     generalize (rdTk g at_).f0 = tm at hx0 htt HSS
     generalize o.getD at_ 0 = ov at cR
     have hatl : (at_ : Int) < (g.length : Int) := by omega
     clear HMS
     go_wp2
     go_roundw
     case rel =>
      refine ⟨m + 1, by omega, ?_, ?_, hB.setCell (p := ⟨w.heap.size, at_, none⟩) (Nat.le_refl _) _, C_block HC.out fun ad e hn => heap_far _ _ _ _ (HA2.out ad e hn)⟩
      ·
       have := HP.out
       congr 1
       omega
      ·
       rw [HSN.out, HSS.out]
       exact hI.set at_ (mj + tm)
     case measure => first | (simp [intOf]; done) | (simp [intOf]; omega)
  ·
   obtain rfl : m = (topL g).length := by omega
   have ep : ((topL g).length : Int) - 1 - ((topL g).length : Nat) = -1 := by omega
   rw [ep]
   have hlen := (tailsSL_span HTM.out (backL (topL g).length (topL g).length)).1
   go_wp2
   go_ret
   refine ⟨_, rfl, ?_, hB⟩
   have hown := hI.own (base := w.heap.size) (Nat.le_refl _) (by rw [hlen]; omega)
   rw [hlen] at hown
   exact hown
end Go.Proofs.YtlapphhcficbjaaGreatDoor
