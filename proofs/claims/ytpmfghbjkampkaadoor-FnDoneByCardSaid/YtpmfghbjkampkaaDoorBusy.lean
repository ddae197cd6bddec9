/- impl total and BusyTime: the sum of the times of the tasks that are over. -/
import Derived.Test.YtpmfghbjkampkaaDoorPMost0
import Derived.Test.YtpmfghbjkampkaaDoorList
namespace Go.Proofs.YtpmfghbjkampkaaDoor
set_option linter.unusedVariables false
set_option linter.unusedSimpArgs false
open Go.RowKit Go.Shelf Bits
open Go.Proofs.YtpmfghbjkampkaaDoorW.PrintWords Go.Proofs.YtpmfghbjkampkaaDoorW.PrintLast Go.Proofs.YtpmfghbjkampkaaDoorW.PrintMore
attribute [local go_sem] Oper.semAt_some
def sumT (g : List Tk) (l : List Nat) : Int := (l.map fun i => (rdTk g i).f0).sum
theorem sumT_snoc (g : List Tk) (l : List Nat) (i : Nat) : sumT g (l ++ [i]) = sumT g l + (rdTk g i).f0 := by
 unfold sumT
 rw [List.map_append, List.sum_append]
 simp
theorem sumT_bound {g : List Tk} (htm : ∀ i, 0 ≤ (rdTk g i).f0 ∧ (rdTk g i).f0 ≤ 20) : ∀ l : List Nat, 0 ≤ sumT g l ∧ sumT g l ≤ 20 * l.length
 | [] => ⟨Int.le_refl _, by show (0 : Int) ≤ _; simp⟩
 | i :: l => by
  have ih := sumT_bound htm l
  have h := htm i
  have e : sumT g (i :: l) = (rdTk g i).f0 + sumT g l := by unfold sumT; simp
  rw [e, List.length_cons]
  omega
def busyB (g : List Tk) (log : List Ev) : Int := match replayB g log with
 | some p => sumT g (elems p.1.o)
 | none => -1
theorem lt_pow_of_bits {s n : Nat} (h : ∀ i, s.testBit i = true → i < n) : s < 2 ^ n := Nat.lt_pow_two_of_testBit s fun i hi => by
 cases hb : s.testBit i with
 | false => rfl
 | true => have := h i hb; omega
theorem replayB_facts {g : List Tk} {log : List Ev} {p : Mach × Int} (h : replayB g log = some p) : ∃ ns, graphN g = some ns ∧ replayN g ns log log.length = some p ∧ g.length ≤ 8 ∧ p.1.o < 2 ^ g.length ∧ ∀ i, 0 ≤ (rdTk g i).f0 ∧ (rdTk g i).f0 ≤ 20 := by
 unfold replayB at h
 obtain ⟨ns, hns, hp⟩ := Option.bind_eq_some_iff.1 h
 split at hp
 ·
  have h8 := (graphN_all hns).1
  have hk := replay_kept h8 _ p hp
  exact ⟨ns, hns, hp, h8, lt_pow_of_bits fun i hi => hk.lt i (hk.sub i hi), graphN_time hns⟩
 ·
  cases hp
end Go.Proofs.YtpmfghbjkampkaaDoor
