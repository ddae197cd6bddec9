/- The plain law of busy times: the times of the tasks that the machine has over are what the reference sums. -/
import Derived.Test.YtlcdffhhimbbmaaDoorLaw4
import Derived.Test.YtlcdffhhimbbmaaDoorBusy
namespace Go.Proofs.YtlcdffhhimbbmaaDoor
set_option linter.unusedVariables false
set_option linter.unusedSimpArgs false
open Go.RowKit Go.Shelf Bits

/-- The reference's sum behind k events. -/
def busyS (g : List Tk) (log : List Ev) : Nat → Int
  | 0 => 0
  | k + 1 => if (rdEv log k).f2 = true then busyS g log k + (rdTk g (rdEv log k).f1.toNat).f0 else busyS g log k
theorem busyS_succ (g : List Tk) (log : List Ev) (k : Nat) : busyS g log (k + 1) = if (rdEv log k).f2 = true then busyS g log k + (rdTk g (rdEv log k).f1.toNat).f0 else busyS g log k := rfl
/-- The times of the bits below n. -/
def sb (g : List Tk) : Nat → Nat → Int
  | 0, _ => 0
  | n + 1, s => sb g n s + if s.testBit n = true then (rdTk g n).f0 else 0
theorem sb_high (g : List Tk) {i s : Nat} : ∀ n, n ≤ i → sb g n (s ||| 2 ^ i) = sb g n s
  | 0, _ => rfl
  | n + 1, h => by
    unfold sb
    rw [sb_high g n (by omega), or_bit, decide_eq_false (show ¬ i = n by omega), Bool.or_false]
theorem sb_step (g : List Tk) {i s : Nat} (hs : s.testBit i = false) : ∀ n, i < n → sb g n (s ||| 2 ^ i) = sb g n s + (rdTk g i).f0
  | n + 1, h => by
    unfold sb
    rcases Nat.lt_succ_iff_lt_or_eq.1 h with h1 | rfl
    · rw [sb_step g hs n h1, or_bit, decide_eq_false (show ¬ i = n by omega), Bool.or_false]
      omega
    · rw [sb_high g i (Nat.le_refl _), or_bit, hs]
      simp
theorem sumT_sb (g : List Tk) (s : Nat) : sumT g (elems s) = sb g 16 s := by
  unfold elems
  have h : ∀ n, sumT g ((List.range n).filter s.testBit) = sb g n s := by
    intro n
    induction n with
    | zero => rfl
    | succ n ih =>
      rw [List.range_succ, List.filter_append]
      unfold sb
      cases hb : s.testBit n with
      | true =>
        rw [List.filter_cons_of_pos hb, List.filter_nil, sumT_snoc, ih]
        simp
      | false =>
        rw [List.filter_cons_of_neg (by rw [hb]; simp), List.filter_nil, List.append_nil, ih]
        simp
  exact h 16
theorem busy_kept {g : List Tk} {ns : List Nat} {log : List Ev} (h8 : g.length ≤ 8) : ∀ (k : Nat) (p : Mach × Int), replayN g ns log k = some p → sumT g (elems p.1.o) = busyS g log k
  | 0, p, h => by
    obtain rfl : (Mach.zero, (0 : Int)) = p := Option.some.inj h
    show sumT g (elems 0) = 0
    rw [elems_zero]
    rfl
  | k + 1, p, h => by
    unfold replayN at h
    obtain ⟨q, hq, h⟩ := Option.bind_eq_some_iff.1 h
    have ih := busy_kept h8 k q hq
    split at h
    · cases h
    · obtain ⟨M', hM, rfl⟩ := Option.map_eq_some_iff.1 h
      obtain ⟨hin, hst⟩ := stepM_some hM
      obtain ⟨_, hi, hlt⟩ := evIn_num hin
      rcases hst with ⟨h2, hm, rfl⟩ | ⟨h2, hm, rfl⟩
      · show sumT g (elems q.1.o) = if (rdEv log k).f2 = true then _ else _
        rw [h2, if_neg (by simp)]
        exact ih
      · show sumT g (elems (q.1.o ||| 2 ^ (rdEv log k).i)) = if (rdEv log k).f2 = true then _ else _
        rw [h2, if_pos rfl, ← ih]
        unfold mayEnd at hm
        simp only [Bool.and_eq_true, Bool.not_eq_true'] at hm
        rw [sumT_sb, sumT_sb, sb_step g hm.1.2 16 (by omega)]
        rfl
theorem busyB_eq (g : List Tk) (log : List Ev) : busyB g log = if validLogB g log = true then busyS g log log.length else -1 := by
  rw [validLog_eq]
  unfold busyB
  cases h : replayB g log with
  | none => rfl
  | some p =>
    obtain ⟨ns, _, hp, h8, _⟩ := replayB_facts h
    exact busy_kept h8 _ p hp
theorem busyS_take (g : List Tk) (log : List Ev) (m : Nat) : ∀ k, k ≤ m → busyS g (log.take m) k = busyS g log k
  | 0, _ => rfl
  | k + 1, h => by
    unfold busyS
    rw [rdEv_take (by omega), busyS_take g log m k (by omega)]
/-- What is known of the events of a valid log. -/
theorem validLog_event {g : List Tk} {log : List Ev} (h : validLogB g log = true) {k : Nat} (hk : k < log.length) : 0 ≤ (rdEv log k).f1 ∧ (rdEv log k).f1 < g.length ∧ 1 ≤ (rdTk g (rdEv log k).f1.toNat).f0 ∧ (rdTk g (rdEv log k).f1.toNat).f0 ≤ 20 := by
  unfold validLogB at h
  simp only [Bool.and_eq_true, decide_eq_true_eq, List.all_eq_true, List.mem_range] at h
  have h1 := h.2 k hk
  unfold eventOkB inB at h1
  simp only [Bool.and_eq_true, decide_eq_true_eq] at h1
  have h2 := h1.1.2
  have hv := h.1.1
  unfold specValid tasksFineB at hv
  simp only [Bool.and_eq_true, List.all_eq_true] at hv
  have hi : (rdEv log k).f1.toNat < g.length := by omega
  have hm : rdTk g (rdEv log k).f1.toNat ∈ g := by unfold rdTk; rw [List.getD_eq_getElem?_getD, List.getElem?_eq_getElem hi]; exact List.getElem_mem _
  have h3 := hv.1.1 _ hm
  unfold taskFineB inB at h3
  simp only [Bool.and_eq_true, decide_eq_true_eq] at h3
  exact ⟨h2.1, by omega, h3.1.1.1.1⟩
theorem busyS_bound {g : List Tk} {log : List Ev} (h : validLogB g log = true) : ∀ k, k ≤ log.length → 0 ≤ busyS g log k ∧ busyS g log k ≤ 20 * k
  | 0, _ => ⟨Int.le_refl _, by show (0 : Int) ≤ _; simp⟩
  | k + 1, hk => by
    have ih := busyS_bound h k (by omega)
    have he := validLog_event h (show k < log.length by omega)
    unfold busyS
    split <;> omega
end Go.Proofs.YtlcdffhhimbbmaaDoor
