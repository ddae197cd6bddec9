/- The plain law of logs: the reference's valid logs are those the machine replays (but for the word on graphs). -/
import Derived.Test.YtlcdffhhimbbmaaDoorLaw1
namespace Go.Proofs.YtlcdffhhimbbmaaDoor
set_option linter.unusedVariables false
set_option linter.unusedSimpArgs false
open Go.RowKit Go.Shelf Bits

theorem eventOk_eq (g : List Tk) (log : List Ev) (k : Nat) : eventOkB g log k = (evIn g (rdEv log k) && inOrder log k && evFit g (log.take k) (rdEv log k)) := by
  unfold eventOkB evIn inOrder eventFitsB
  show (_ && (!(_ && decide ((rdEv log (k - 1)).f0 > (rdEv log k).f0))) && _ && _) = _
  generalize inB (rdEv log k).f0 0 200 = a
  generalize (!(decide (0 < k) && decide ((rdEv log (k - 1)).f0 > (rdEv log k).f0))) = b
  generalize inB (rdEv log k).f1 0 (g.length - 1) = c
  generalize evFit g (log.take k) (rdEv log k) = d
  cases a <;> cases b <;> cases c <;> cases d <;> rfl

theorem replayN_law {g : List Tk} {ns : List Nat} {log : List Ev} (hg : graphN g = some ns) : ∀ k, k ≤ log.length →
    ((∀ j, j < k → eventOkB g log j = true) ∧ ∃ p, replayN g ns log k = some p ∧ Link g (log.take k) p.1) ∨ ((∃ j, j < k ∧ eventOkB g log j = false) ∧ replayN g ns log k = none)
  | 0, _ => Or.inl ⟨fun j h => absurd h (Nat.not_lt_zero _), (Mach.zero, 0), rfl, Link.zero g⟩
  | k + 1, hk => by
    rcases replayN_law (log := log) hg k (by omega) with ⟨hall, ⟨M, most⟩, hp, hL⟩ | ⟨⟨j, hj, hf⟩, hn⟩
    · have hsf := step_fit (e := rdEv log k) hg hL
      cases hio : inOrder log k
      · refine Or.inr ⟨⟨k, Nat.lt_succ_self _, ?_⟩, replayN_order hp hio⟩
        rw [eventOk_eq, hio]
        simp
      · cases hs : stepM g ns M (rdEv log k) with
        | none =>
          refine Or.inr ⟨⟨k, Nat.lt_succ_self _, ?_⟩, replayN_none1 hp hio hs⟩
          rw [hs] at hsf
          rw [eventOk_eq, hio, Bool.and_true]
          exact hsf.symm
        | some M' =>
          refine Or.inl ⟨fun j hj => ?_, _, replayN_some1 hp hio hs, ?_⟩
          · rcases Nat.lt_succ_iff_lt_or_eq.1 hj with h | rfl
            · exact hall j h
            · rw [hs] at hsf
              rw [eventOk_eq, hio, Bool.and_true]
              exact hsf.symm
          · rw [take_snocE (by omega)]
            exact hL.step hs
    · exact Or.inr ⟨⟨j, by omega, hf⟩, replayN_none hn (k + 1) (by omega)⟩

theorem validLog_law {g : List Tk} {log : List Ev} (hgs : specValid g = (graphN g).isSome) : validLogB g log = (replayB g log).isSome := by
  unfold validLogB replayB
  rw [hgs]
  cases hg : graphN g with
  | none => rfl
  | some ns =>
    rw [Option.bind_some]
    by_cases hlen : log.length ≤ 16
    · rw [if_pos hlen, decide_eq_true hlen]
      simp only [Option.isSome_some, Bool.true_and]
      rcases replayN_law (log := log) hg log.length (Nat.le_refl _) with ⟨hall, p, hp, _⟩ | ⟨⟨j, hj, hf⟩, hn⟩
      · rw [hp, Option.isSome_some, List.all_eq_true]
        exact fun j hj => hall j (List.mem_range.1 hj)
      · rw [hn, Option.isSome_none, List.all_eq_false]
        exact ⟨j, List.mem_range.2 hj, by rw [hf]; simp⟩
    · rw [if_neg hlen, decide_eq_false hlen]
      simp
end Go.Proofs.YtlcdffhhimbbmaaDoor
