/- What a valid graph's tasks and needs are within. -/
import Derived.Test.YtpmfghbjkampkaaDoorGraph
namespace Go.Proofs.YtpmfghbjkampkaaDoor
set_option linter.unusedVariables false
set_option linter.unusedSimpArgs false
open Go.RowKit Go.Shelf Bits
theorem needsL_all (n : Nat) : ∀ (l : List Tk) (ns : List Nat), needsL n l = some ns → l.length = ns.length ∧ ∀ i, i < l.length → taskOk (l.getD i zTk) = true ∧ setOfN (l.getD i zTk).f1 n = some (ns.getD i 0)
 | [], ns, h => by
  simp only [needsL, Option.some.injEq] at h
  subst h
  exact ⟨rfl, fun i hi => absurd hi (Nat.not_lt_zero _)⟩
 | t :: r, ns, h => by
  cases h1 : setOfN t.f1 n with
  | none => rw [needsL_bad (Or.inl h1)] at h; cases h
  | some s =>
   cases h2 : taskOk t with
   | false => rw [needsL_bad (Or.inr h2)] at h; cases h
   | true =>
    rw [needsL_good h1 h2] at h
    obtain ⟨ms, h3, rfl⟩ := Option.map_eq_some_iff.1 h
    obtain ⟨h4, h5⟩ := needsL_all n r ms h3
    refine ⟨by simp [h4], fun i hi => ?_⟩
    cases i with
    | zero => exact ⟨h2, h1⟩
    | succ i => exact h5 i (by simpa using hi)
theorem graphN_all {g : List Tk} {ns : List Nat} (h : graphN g = some ns) : g.length ≤ 8 ∧ ns.length = g.length ∧ ∀ i, i < g.length → taskOk (rdTk g i) = true ∧ setOfN (rdTk g i).f1 g.length = some (ns.getD i 0) := by
 obtain ⟨h1, _, h3, h4⟩ := graphN_some h
 have h5 : needsL g.length g = some ns := by
  unfold needsN at h1
  rwa [if_neg (by omega)] at h1
 exact ⟨h3, h4, (needsL_all _ _ _ h5).2⟩
theorem graphN_time {g : List Tk} {ns : List Nat} (h : graphN g = some ns) (i : Nat) : 0 ≤ (rdTk g i).f0 ∧ (rdTk g i).f0 ≤ 20 := by
 by_cases hi : i < g.length
 ·
  have h1 := ((graphN_all h).2.2 i hi).1
  unfold taskOk at h1
  simp only [Bool.and_eq_true] at h1
  have := inB_true.1 h1.1.1
  omega
 ·
  simp [rdTk, List.getD_eq_getElem?_getD, List.getElem?_eq_none (Nat.le_of_not_lt hi), zTk]
theorem graphN_need_lt {g : List Tk} {ns : List Nat} (h : graphN g = some ns) (i : Nat) : ns.getD i 0 < 2 ^ g.length := by
 by_cases hi : i < g.length
 ·
  exact setOfN_lt ((graphN_all h).2.2 i hi).2
 ·
  have := (graphN_all h).2.1
  rw [List.getD_eq_getElem?_getD, List.getElem?_eq_none (by omega)]
  exact Nat.two_pow_pos _
theorem graphN_need_u16 {g : List Tk} {ns : List Nat} (h : graphN g = some ns) (i : Nat) : ns.getD i 0 < 65536 :=
 Nat.lt_of_lt_of_le (graphN_need_lt h i) (pow_le_u16 (by have := (graphN_all h).1; omega))
end Go.Proofs.YtpmfghbjkampkaaDoor
