/- What FnValidLog says of valid logs: without the last event, and empty, they are valid. -/
import Derived.Test.YtpmfghbjkampkaaDoorLaw3
namespace Go.Proofs.YtpmfghbjkampkaaDoor
set_option linter.unusedVariables false
set_option linter.unusedSimpArgs false
open Go.RowKit Go.Shelf Bits
theorem rdEv_take {log : List Ev} {m k : Nat} (h : k < m) : rdEv (log.take m) k = rdEv log k := by
 unfold rdEv
 rw [List.getD_eq_getElem?_getD, List.getD_eq_getElem?_getD, List.getElem?_take, if_pos h]
theorem eventOk_take (g : List Tk) (log : List Ev) {m k : Nat} (h : k < m) : eventOkB g (log.take m) k = eventOkB g log k := by
 have e : (log.take m).take k = log.take k := by rw [List.take_take, Nat.min_eq_left (Nat.le_of_lt h)]
 unfold eventOkB eventFitsB
 rw [rdEv_take h, rdEv_take (show k - 1 < m by omega), e]
theorem validLog_take {g : List Tk} {log : List Ev} (h : validLogB g log = true) (m : Nat) : validLogB g (log.take m) = true := by
 unfold validLogB at h ⊢
 simp only [Bool.and_eq_true, decide_eq_true_eq, List.all_eq_true, List.mem_range] at h ⊢
 refine ⟨⟨h.1.1, by rw [List.length_take]; omega⟩, fun k hk => ?_⟩
 rw [List.length_take] at hk
 rw [eventOk_take g log (by omega)]
 exact h.2 k (by omega)
theorem validLog_nil {g : List Tk} {log : List Ev} (h : validLogB g log = true) : validLogB g [] = true := validLog_take h 0
theorem law_validLog (g : List Tk) (log : List Ev) :
  (if (replayB g log).isSome ≠ validLogB g log ∨ (replayB g log).isSome = false ∨ log.length = 0 then (replayB g log).isSome == validLogB g log
   else (replayB g (log.take (log.length - 1))).isSome && (replayB g []).isSome) = true := by
 rw [← validLog_eq g log, ← validLog_eq, ← validLog_eq]
 split
 ·
  simp
 ·
  rename_i h
  have h1 : validLogB g log = true := by
   cases hv : validLogB g log
   ·
    exact absurd (Or.inr (Or.inl hv)) h
   ·
    rfl
  rw [validLog_take h1, validLog_nil h1]
  rfl
end Go.Proofs.YtpmfghbjkampkaaDoor
