/- The plain law of FnMostTogether: the printed body answers true. -/
import Derived.Test.YtlcdffhhimbbmaaDoorPMost0
import Derived.Test.YtlcdffhhimbbmaaDoorBFnMostTogether
namespace Go.Proofs.YtlcdffhhimbbmaaDoor.PFnValidLog
set_option linter.unusedVariables false
set_option linter.unusedSimpArgs false
open Go Go.RowKit
open Go.Proofs.YtlcdffhhimbbmaaDoorW.PrintWords Go.Proofs.YtlcdffhhimbbmaaDoorW.PrintLast Go.Proofs.YtlcdffhhimbbmaaDoorW.PrintMore

theorem most_l0 (log : List S30) (hl : log.length ≤ 4000) : ∀ (n i : Nat), i + n = log.length → Gets (fun k => spec_MostTogether.l0 k log (mostN log i) (sumN log i) i) (fun r => r = mostN log log.length)
  | 0, i, h => by
    refine Gets.step (fun k => by rw [spec_MostTogether.l0]) ?_
    refine Gets.neg (by omega) (Gets.ret ?_)
    rw [show i = log.length by omega]
  | n + 1, i, h => by
    refine Gets.step (fun k => by rw [spec_MostTogether.l0]) ?_
    have hb := sumN_bound log i
    have ih := most_l0 log hl n (i + 1) (by omega)
    rw [w64 (x := (i : Int) + 1) (by omega) (by omega), w64 (x := sumN log i + 1) (by omega) (by omega)]
    refine Gets.pos (by omega) (Gets.pos (by omega) ?_)
    have e0 : rd_T30 log (i : Int) = rdEv log i := rfl
    have e1 : rd_T30 log ((i : Int) + 1) = rdEv log (i + 1) := rfl
    rw [e0, e1]
    refine Gets.bind (P := fun t => t = if (rdEv log i).f2 = true then 1 else 0) ⟨0, _, rfl, fun k _ => by unfold spec_toInt.f; split <;> rfl⟩ fun t ht => ?_
    have hs : wrap64 (sumN log i + 1 - wrap64 (2 * t)) = sumN log (i + 1) := by
      have : 0 ≤ t ∧ t ≤ 1 := by rw [ht]; split <;> omega
      rw [w64 (x := 2 * t) (by omega) (by omega), w64 (by omega) (by omega), ht]
      rfl
    rw [hs]
    have hmx : ∀ a b : Int, mx a b = max a b := fun a b => by unfold mx; rw [Int.max_def]; split <;> split <;> omega
    have ec : ((i + 1 : Nat) : Int) = (i : Int) + 1 := by omega
    rw [ec] at ih
    refine Gets.ite (fun hend => ?_) (fun hend => Gets.pos (by omega) (Gets.pos (by omega) (Gets.ite (fun hgt => ?_) (fun hgt => ?_))))
    · rw [hmx]
      have : mostN log (i + 1) = max (mostN log i) (sumN log (i + 1)) := by
        show (if lastOf log i then _ else _) = _
        rw [if_pos (by unfold lastOf; rw [decide_eq_true (by omega : i + 1 = log.length)]; rfl)]
      rw [← this]
      exact ih
    · rw [hmx]
      have : mostN log (i + 1) = max (mostN log i) (sumN log (i + 1)) := by
        show (if lastOf log i then _ else _) = _
        rw [if_pos (by unfold lastOf; rw [decide_eq_true hgt, Bool.or_true])]
      rw [← this]
      exact ih
    · have : mostN log (i + 1) = mostN log i := by
        show (if lastOf log i then _ else _) = _
        rw [if_neg (by unfold lastOf; rw [decide_eq_false (by omega : ¬ i + 1 = log.length), decide_eq_false hgt]; simp)]
      rw [this] at ih
      exact ih
theorem most_gets (g : List S41) (log : List S30) (hl : log.length ≤ 4000) : Gets (fun k => spec_MostTogether.f k g log) (fun r => r = mostB g log) := by
  unfold spec_MostTogether.f
  refine Gets.bind (P := fun b => b = validLogB g log) (Gets.ret rfl) fun b hb => ?_
  rw [validLog_eq] at hb
  refine Gets.ite (fun h => ?_) (fun h => Gets.ret ?_)
  · refine (most_l0 log hl log.length 0 (by omega)).mono fun r hr => ?_
    rw [h] at hb
    obtain ⟨p, hp⟩ := Option.isSome_iff_exists.1 hb.symm
    unfold mostB
    rw [hp, hr]
    unfold replayB at hp
    obtain ⟨ns, hns, hp⟩ := Option.bind_eq_some_iff.1 hp
    split at hp
    · exact (replay_kept (graphN_all hns).1 _ p hp).mst.symm
    · cases hp
  · unfold mostB
    cases hr : replayB g log with
    | none => rfl
    | some p => rw [hr] at hb; exact absurd hb h
theorem mostB_facts (g : List Tk) (log : List Ev) (h : 0 ≤ mostB g log) : mostB g log ≤ g.length ∧ (decide (mostB g log ≥ 1) == decide ((log.length : Int) > 0)) = true := by
  unfold mostB at h ⊢
  cases hr : replayB g log with
  | none => rw [hr] at h; exact absurd h (by decide)
  | some p =>
    unfold replayB at hr
    obtain ⟨ns, hns, hp⟩ := Option.bind_eq_some_iff.1 hr
    split at hp
    · have hk := replay_kept (graphN_all hns).1 _ p hp
      refine ⟨hk.le, ?_⟩
      show (decide (p.2 ≥ 1) == decide ((log.length : Int) > 0)) = true
      rcases Nat.eq_zero_or_pos log.length with h0 | h0
      · have : p.2 = 0 := by rw [hk.mst, h0]; rfl
        rw [this, h0]
        rfl
      · have h1 := most_pos (g := g) (ns := ns) (fun i hi => ?_) p hp h0
        · rw [← hk.mst] at h1
          rw [decide_eq_true h1, decide_eq_true (by omega : (log.length : Int) > 0)]
          rfl
        · have hv : specValid g = true := by rw [specValid_eq, hns]; rfl
          unfold specValid tasksFineB at hv
          simp only [Bool.and_eq_true, List.all_eq_true] at hv
          have hm : rdTk g i ∈ g := by unfold rdTk; rw [List.getD_eq_getElem?_getD, List.getElem?_eq_getElem hi]; exact List.getElem_mem _
          have h2 := hv.1.1 _ hm
          unfold taskFineB inB at h2
          simp only [Bool.and_eq_true, decide_eq_true_eq] at h2
          exact h2.1.1.1.1.1
    · cases hp
theorem FnMostTogether_true (l : List Int) (hb : ∀ x ∈ l, 0 ≤ x ∧ x < 256) : ∃ k, laws_FnMostTogether.f k l = some true := by
  have h : Gets (fun k => laws_FnMostTogether.f k l) (fun r => r = true) := by
    unfold laws_FnMostTogether.f
    refine Gets.ite (fun _ => Gets.ret rfl) (fun _ => ?_)
    refine Gets.bind (P := fun q => q.2.length ≤ 4000) ?_ fun q hq => ?_
    · unfold spec_DrawMostTogether.f
      exact Gets.bind (DrawValidLog_gets l hb) fun q hq => Gets.ret hq.2
    refine Gets.bind (P := fun r => r = mostB q.1 q.2) (Gets.ret rfl) fun n hn => ?_
    refine Gets.bind (most_gets q.1 q.2 hq) fun m hm => ?_
    refine Gets.pos (by rw [hn, hm]) (Gets.ite (fun hneg => ?_) (fun hneg => ?_))
    · refine Gets.bind (most_gets q.1 q.2 hq) fun m hm => Gets.ret ?_
      rw [hn, hm]
      simp
    · have hf := mostB_facts q.1 q.2 (by rw [← hn]; omega)
      rw [hn]
      exact Gets.pos hf.1 (Gets.ret hf.2)
  obtain ⟨k, r, hr, e⟩ := h.at
  exact ⟨k, by rw [← hr]; exact e⟩
end Go.Proofs.YtlcdffhhimbbmaaDoor.PFnValidLog
