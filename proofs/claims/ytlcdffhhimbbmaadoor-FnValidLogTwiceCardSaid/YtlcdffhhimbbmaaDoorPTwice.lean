/- The plain law of FnValidLogTwice: a valid log is not valid with its first event once more at its end. -/
import Derived.Test.YtlcdffhhimbbmaaDoorBFnValidLogTwice
namespace Go.Proofs.YtlcdffhhimbbmaaDoor
set_option linter.unusedVariables false
set_option linter.unusedSimpArgs false
open Go.RowKit Go.Shelf Bits

theorem rdEv_append {log : List Ev} {y : Ev} {k : Nat} (h : k < log.length) : rdEv (log ++ [y]) k = rdEv log k := by
  unfold rdEv
  rw [List.getD_eq_getElem?_getD, List.getD_eq_getElem?_getD, List.getElem?_append_left h]
theorem rdEv_last (log : List Ev) (y : Ev) : rdEv (log ++ [y]) log.length = y := by
  unfold rdEv
  rw [List.getD_eq_getElem?_getD, List.getElem?_append_right (Nat.le_refl _), Nat.sub_self]
  rfl
theorem rdEv_mem {log : List Ev} {e : Ev} (h : e ∈ log) : ∃ k, k < log.length ∧ rdEv log k = e := by
  obtain ⟨k, hk, rfl⟩ := List.getElem_of_mem h
  exact ⟨k, hk, by unfold rdEv; rw [List.getD_eq_getElem?_getD, List.getElem?_eq_getElem hk]; rfl⟩
theorem validLog_twice {g : List Tk} {log : List Ev} (h : validLogB g log = true) (hn : 0 < log.length) (a : Int) : validLogB g (log ++ [⟨a, (rdEv log 0).f1, (rdEv log 0).f2⟩]) = false := by
  unfold validLogB at h
  simp only [Bool.and_eq_true, decide_eq_true_eq, List.all_eq_true, List.mem_range] at h
  have hall := h.2
  have hev : ∀ k, k < log.length → (0 ≤ (rdEv log k).f0 ∧ (rdEv log k).f0 ≤ 200) ∧ eventFitsB g log k = true := by
    intro k hk
    have := hall k hk
    unfold eventOkB inB at this
    simp only [Bool.and_eq_true, decide_eq_true_eq] at this
    exact ⟨this.1.1.1, this.2⟩
  have h0 := hev 0 hn
  have hf : (rdEv log 0).f2 = false := by
    have h1 := h0.2
    unfold eventFitsB evFit at h1
    cases hx : (rdEv log 0).f2 with
    | false => rfl
    | true =>
      rw [hx, if_pos rfl] at h1
      simp [begunL] at h1
  cases hv : validLogB g (log ++ [⟨a, (rdEv log 0).f1, (rdEv log 0).f2⟩]) with
  | false => rfl
  | true =>
    exfalso
    unfold validLogB at hv
    simp only [Bool.and_eq_true, decide_eq_true_eq, List.all_eq_true, List.mem_range] at hv
    have h2 := hv.2 log.length (by simp)
    unfold eventOkB eventFitsB at h2
    rw [rdEv_last, List.take_append_of_le_length (Nat.le_refl _), List.take_length] at h2
    simp only [Bool.and_eq_true] at h2
    have h3 := h2.2
    unfold evFit at h3
    simp only [hf, Bool.false_eq_true, if_false, Bool.and_eq_true, decide_eq_true_eq] at h3
    have hb : 0 ≤ begunL (rdEv log 0).f1 log (-1) := by
      cases log with
      | nil => simp at hn
      | cons e r =>
        have he : rdEv (e :: r) 0 = e := rfl
        rw [he] at h0 hf ⊢
        show 0 ≤ begunL e.f1 r (if e.f2 then -1 else if e.f1 = e.f1 then e.f0 else -1)
        rw [hf]
        simp only [Bool.false_eq_true, if_false, if_true]
        refine (begunL_range e.f1 0 200 r e.f0 h0.1.1 h0.1.2 (fun x hx => ?_)).1
        obtain ⟨k, hk, rfl⟩ := rdEv_mem (List.mem_cons_of_mem e hx)
        exact (hev k hk).1
    omega
end Go.Proofs.YtlcdffhhimbbmaaDoor
namespace Go.Proofs.YtlcdffhhimbbmaaDoor.PFnValidLog
open Go Go.RowKit
open Go.Proofs.YtlcdffhhimbbmaaDoorW.PrintWords Go.Proofs.YtlcdffhhimbbmaaDoorW.PrintLast Go.Proofs.YtlcdffhhimbbmaaDoorW.PrintMore
/-- The printed body answers true. -/
theorem FnValidLogTwice_true (l : List Int) (hb : ∀ x ∈ l, 0 ≤ x ∧ x < 256) : ∃ k, laws_FnValidLogTwice.f k l = some true := by
  have h : Gets (fun k => laws_FnValidLogTwice.f k l) (fun r => r = true) := by
    unfold laws_FnValidLogTwice.f
    refine Gets.ite (fun _ => Gets.ret rfl) (fun _ => ?_)
    refine Gets.bind (DrawValidLog_gets l hb) fun q hq => ?_
    refine Gets.bind (P := fun r => r = (replayB q.1 q.2).isSome) (Gets.ret rfl) fun ok hok => ?_
    refine Gets.bind (P := fun r => r = validLogB q.1 q.2) (Gets.ret rfl) fun sp hsp => ?_
    have heq : ok = sp := by rw [hok, hsp, validLog_eq]
    have hlen := hq.2
    refine Gets.neg (by rw [heq]; simp) ?_
    cases ok with
    | false =>
      refine Gets.neg (by simp) (Gets.step (fun k => by rw [laws_FnValidLogTwice.j0]) (Gets.pos rfl ?_))
      refine Gets.bind (P := fun r => r = validLogB q.1 q.2) (Gets.ret rfl) fun r hr => Gets.ret ?_
      rw [hr, ← hsp, ← heq]
      rfl
    | true =>
      have hv : validLogB q.1 q.2 = true := by rw [← hsp, ← heq]
      refine Gets.pos rfl (Gets.step (fun k => by rw [laws_FnValidLogTwice.j0]) (Gets.ite (fun _ => ?_) (fun hne => ?_)))
      · refine Gets.bind (P := fun r => r = validLogB q.1 q.2) (Gets.ret rfl) fun r hr => Gets.ret ?_
        rw [hr, hv]
        rfl
      · have h0 : 0 < q.2.length := by
          rcases Nat.eq_zero_or_pos q.2.length with h | h
          · exact absurd (by rw [h]; rfl) hne
          · exact h
        rw [w64 (x := (q.2.length : Int) - 1) (by omega) (by omega)]
        refine Gets.pos (by omega) (Gets.pos (by omega) (Gets.pos (by omega) ?_))
        simp only [Option.bind_some]
        refine Gets.pos (by simp; omega) (Gets.pos (by simp; omega) ?_)
        refine Gets.bind (P := fun r => r = false) (Gets.ret ?_) fun r hr => Gets.ret (by rw [hr]; rfl)
        rw [List.nil_append, ← validLog_eq]
        exact validLog_twice hv h0 _
  obtain ⟨k, r, hr, e⟩ := h.at
  exact ⟨k, by rw [← hr]; exact e⟩
end Go.Proofs.YtlcdffhhimbbmaaDoor.PFnValidLog
