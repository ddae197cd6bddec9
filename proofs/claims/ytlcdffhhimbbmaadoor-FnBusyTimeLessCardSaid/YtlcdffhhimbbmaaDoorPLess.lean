/- The plain law of FnBusyTimeLess: the printed body answers true. -/
import Derived.Test.YtlcdffhhimbbmaaDoorPBusy0
import Derived.Test.YtlcdffhhimbbmaaDoorBFnBusyTimeLess
namespace Go.Proofs.YtlcdffhhimbbmaaDoor.PFnValidLog
set_option linter.unusedVariables false
set_option linter.unusedSimpArgs false
open Go Go.RowKit
open Go.Proofs.YtlcdffhhimbbmaaDoorW.PrintWords Go.Proofs.YtlcdffhhimbbmaaDoorW.PrintLast Go.Proofs.YtlcdffhhimbbmaaDoorW.PrintMore

theorem busy_l0 (g : List S41) (log : List S30) (hv : validLogB g log = true) (hl : log.length ≤ 4000) : ∀ (n i : Nat), i + n = log.length → Gets (fun k => spec_BusyTime.l0 k g log (busyS g log i) i) (fun r => r = busyS g log log.length)
  | 0, i, h => by
    refine Gets.step (fun k => by rw [spec_BusyTime.l0]) ?_
    refine Gets.neg (by omega) (Gets.ret ?_)
    rw [show i = log.length by omega]
  | n + 1, i, h => by
    refine Gets.step (fun k => by rw [spec_BusyTime.l0]) ?_
    have hb := busyS_bound hv i (by omega)
    have he := validLog_event hv (show i < log.length by omega)
    have ih := busy_l0 g log hv hl n (i + 1) (by omega)
    have ec : ((i + 1 : Nat) : Int) = (i : Int) + 1 := by omega
    rw [ec] at ih
    rw [w64 (x := (i : Int) + 1) (by omega) (by omega)]
    have e0 : rd_T30 log (i : Int) = rdEv log i := rfl
    have e1 : rd_T41 g (rdEv log i).f1 = rdTk g (rdEv log i).f1.toNat := rfl
    rw [e0, e1, w64 (x := busyS g log i + (rdTk g (rdEv log i).f1.toNat).f0) (by omega) (by omega)]
    refine Gets.pos (by omega) (Gets.pos (by omega) (Gets.ite (fun hov => Gets.pos he.1 (Gets.pos he.2.1 ?_)) (fun hov => ?_)))
    · have : busyS g log (i + 1) = busyS g log i + (rdTk g (rdEv log i).f1.toNat).f0 := by
        show (if (rdEv log i).f2 = true then _ else _) = _
        rw [if_pos hov]
      rw [← this]
      exact ih
    · have : busyS g log (i + 1) = busyS g log i := by
        show (if (rdEv log i).f2 = true then _ else _) = _
        rw [if_neg hov]
      rw [this] at ih
      exact ih
theorem busy_gets (g : List S41) (log : List S30) (hl : log.length ≤ 4000) : Gets (fun k => spec_BusyTime.f k g log) (fun r => r = busyB g log) := by
  unfold spec_BusyTime.f
  refine Gets.bind (P := fun b => b = validLogB g log) (Gets.ret rfl) fun b hb => ?_
  rw [busyB_eq, ← hb]
  refine Gets.ite (fun h => ?_) (fun h => Gets.ret (by rw [if_neg h]))
  rw [if_pos h]
  exact busy_l0 g log (by rw [← hb]; exact h) hl log.length 0 (by omega)
theorem draw_gets (l : List Int) (hb : ∀ x ∈ l, 0 ≤ x ∧ x < 256) : Gets (fun k => spec_DrawBusyTime.f k l) (fun q => q.2.length ≤ 4000) := by
  unfold spec_DrawBusyTime.f
  exact Gets.bind (DrawValidLog_gets l hb) fun q hq => Gets.ret hq.2
theorem FnBusyTimeLess_true (l : List Int) (hb : ∀ x ∈ l, 0 ≤ x ∧ x < 256) : ∃ k, laws_FnBusyTimeLess.f k l = some true := by
  have h : Gets (fun k => laws_FnBusyTimeLess.f k l) (fun r => r = true) := by
    unfold laws_FnBusyTimeLess.f
    refine Gets.ite (fun _ => Gets.ret rfl) (fun _ => ?_)
    refine Gets.bind (draw_gets l hb) fun q hq => ?_
    refine Gets.bind (P := fun r => r = busyB q.1 q.2) (Gets.ret rfl) fun n hn => ?_
    refine Gets.bind (busy_gets q.1 q.2 hq) fun m hm => ?_
    have hend : Gets (fun k => laws_FnBusyTimeLess.j0 k q.1 q.2 n true) (fun r => r = true) := by
      refine Gets.step (fun k => by rw [laws_FnBusyTimeLess.j0]) (Gets.pos rfl ?_)
      refine Gets.bind (busy_gets q.1 q.2 hq) fun m hm => Gets.ret ?_
      rw [hn, hm]
      simp
    refine Gets.pos (by rw [hn, hm]) (Gets.ite (fun hneg => hend) (fun hneg => ?_))
    have hv : validLogB q.1 q.2 = true := by
      rw [hn, busyB_eq] at hneg
      by_cases hv : validLogB q.1 q.2 = true
      · exact hv
      · rw [if_neg hv] at hneg
        omega
    cases hz : ((q.2.length : Int) == 0) with
    | true => exact hend
    | false =>
      have h0 : 0 < q.2.length := by
        rcases Nat.eq_zero_or_pos q.2.length with h | h
        · rw [h] at hz; cases hz
        · exact h
      refine Gets.step (fun k => by rw [laws_FnBusyTimeLess.j0]) (Gets.neg (by simp) ?_)
      rw [w64 (x := (q.2.length : Int) - 1) (by omega) (by omega)]
      have et : ((q.2.length : Int) - 1).toNat = q.2.length - 1 := by omega
      have e0 : rd_T30 q.2 ((q.2.length : Int) - 1) = rdEv q.2 (q.2.length - 1) := by unfold rd_T30 rdEv; rw [et]; rfl
      rw [et, e0]
      refine Gets.pos (by omega) (Gets.pos (by omega) ?_)
      refine Gets.bind (P := fun r => r = busyB q.1 (q.2.take (q.2.length - 1))) (Gets.ret rfl) fun t ht => ?_
      have hvt := validLog_take hv (q.2.length - 1)
      rw [busyB_eq, if_pos hvt, List.length_take, Nat.min_eq_left (by omega), busyS_take _ _ _ _ (Nat.le_refl _)] at ht
      rw [busyB_eq, if_pos hv] at hn
      have hbd := busyS_bound hv (q.2.length - 1) (by omega)
      have hev := validLog_event hv (show q.2.length - 1 < q.2.length by omega)
      have hs : busyS q.1 q.2 q.2.length = if (rdEv q.2 (q.2.length - 1)).f2 = true then t + (rdTk q.1 (rdEv q.2 (q.2.length - 1)).f1.toNat).f0 else t := by
        have := busyS_succ q.1 q.2 (q.2.length - 1)
        rw [show q.2.length - 1 + 1 = q.2.length by omega] at this
        rw [this, ht]
      rw [hs] at hn
      refine Gets.pos (by omega) (Gets.pos (by omega) ?_)
      generalize rdEv q.2 (q.2.length - 1) = e at hn hev
      cases ho : e.f2 with
      | true =>
        rw [ho, if_pos rfl] at hn
        refine Gets.pos ?_ (Gets.ret ?_)
        · rw [decide_eq_true (by omega : t < n)]; rfl
        · exact decide_eq_true (by omega)
      | false =>
        rw [ho, if_neg (by simp)] at hn
        refine Gets.pos ?_ (Gets.ret ?_)
        · rw [decide_eq_false (by omega : ¬ t < n)]; rfl
        · exact decide_eq_true (by omega)
  obtain ⟨k, r, hr, e⟩ := h.at
  exact ⟨k, by rw [← hr]; exact e⟩
end Go.Proofs.YtlcdffhhimbbmaaDoor.PFnValidLog
