/- The plain law of graphs: the reference's valid graphs are those that graphOf takes. -/
import Derived.Test.YtlcdffhhimbbmaaDoorLaw2
namespace Go.Proofs.YtlcdffhhimbbmaaDoor
set_option linter.unusedVariables false
set_option linter.unusedSimpArgs false
open Go.RowKit Go.Shelf Bits

theorem setOfL_isSome (n : Int) : ∀ (l : List Int) (last : Int) (s : Nat), (setOfL n l last s).isSome = true ↔ (∀ j, j < l.length → last < l.getD j 0 ∧ l.getD j 0 ≤ n - 1) ∧ (∀ j, j + 1 < l.length → l.getD j 0 < l.getD (j + 1) 0)
  | [], last, s => by simp [setOfL]
  | i :: l, last, s => by
    rw [setOfL_cons]
    split
    · rename_i hc
      rw [setOfL_isSome n l i]
      constructor
      · rintro ⟨h1, h2⟩
        refine ⟨fun j hj => ?_, fun j hj => ?_⟩
        · cases j with
          | zero => show last < i ∧ i ≤ n - 1; omega
          | succ j =>
            have := h1 j (by simpa using hj)
            show last < l.getD j 0 ∧ l.getD j 0 ≤ n - 1
            omega
        · cases j with
          | zero => exact (h1 0 (by simpa using hj)).1
          | succ j => exact h2 j (by simpa using hj)
      · rintro ⟨h1, h2⟩
        have chain : ∀ j, j < l.length → i < l.getD j 0 := by
          intro j
          induction j with
          | zero => exact fun hj => h2 0 (by simpa using hj)
          | succ j ih => exact fun hj => Int.lt_trans (ih (by omega)) (h2 (j + 1) (by simpa using hj))
        exact ⟨fun j hj => ⟨chain j hj, (h1 (j + 1) (by simpa using hj)).2⟩, fun j hj => h2 (j + 1) (by simpa using hj)⟩
    · rename_i hc
      simp only [Option.isSome_none, Bool.false_eq_true, false_iff, not_and]
      intro h1
      exfalso
      have := h1 0 (by simp)
      apply hc
      have e : (i :: l).getD 0 0 = i := rfl
      rw [e] at this
      omega
theorem all_getD {p : Int → Bool} {l : List Int} : l.all p = true ↔ ∀ j, j < l.length → p (l.getD j 0) = true := by
  rw [List.all_eq_true]
  constructor
  · intro h j hj
    rw [List.getD_eq_getElem?_getD, List.getElem?_eq_getElem hj]
    exact h _ (List.getElem_mem hj)
  · intro h x hx
    obtain ⟨j, hj, rfl⟩ := List.getElem_of_mem hx
    have := h j hj
    rwa [List.getD_eq_getElem?_getD, List.getElem?_eq_getElem hj] at this
theorem setOfN_isSome (l : List Int) (n : Nat) : (setOfN l n).isSome = (allInB l 0 (n - 1) && ascB l) := by
  rw [Bool.eq_iff_iff, Bool.and_eq_true]
  unfold setOfN allInB ascB
  rw [setOfL_isSome, all_getD, List.all_eq_true]
  simp only [List.mem_range, decide_eq_true_eq, inB_true]
  constructor
  · rintro ⟨h1, h2⟩
    exact ⟨fun j hj => by have := h1 j hj; omega, fun j hj => h2 j (by omega)⟩
  · rintro ⟨h1, h2⟩
    exact ⟨fun j hj => by have := h1 j hj; omega, fun j hj => h2 j (by omega)⟩
theorem taskFine_eq (n : Nat) (t : Tk) : taskFineB n t = (taskOk t && (setOfN t.f1 n).isSome) := by
  unfold taskFineB taskOk
  rw [setOfN_isSome, Bool.and_assoc]
theorem needsL_isSome (n : Nat) : ∀ l : List Tk, (needsL n l).isSome = l.all (taskFineB n)
  | [] => rfl
  | t :: r => by
    rw [List.all_cons, taskFine_eq, ← needsL_isSome n r]
    cases h1 : setOfN t.f1 n with
    | none => rw [needsL_bad (Or.inl h1)]; simp
    | some s =>
      cases h2 : taskOk t with
      | false => rw [needsL_bad (Or.inr h2)]; rfl
      | true => rw [needsL_good h1 h2]; simp
theorem tasksFine_eq (g : List Tk) : tasksFineB g = (needsN g).isSome := by
  unfold tasksFineB needsN
  rw [← needsL_isSome]
  by_cases h : 8 < g.length
  · rw [if_pos h, decide_eq_false (by omega), Bool.and_false]; rfl
  · rw [if_neg h, decide_eq_true (by omega), Bool.and_true]

/-! ### the order -/
theorem find_congr {α : Type} {p q : α → Bool} : ∀ {l : List α}, (∀ x ∈ l, p x = q x) → l.find? p = l.find? q
  | [], _ => rfl
  | x :: l, h => by
    rw [List.find?_cons, List.find?_cons, h x (List.mem_cons_self ..), find_congr fun y hy => h y (List.mem_cons_of_mem _ hy)]
theorem mem_intsN {i : Nat} {l : List Nat} : ((i : Nat) : Int) ∈ ints l ↔ i ∈ l := by
  unfold ints
  rw [List.mem_map]
  constructor
  · rintro ⟨j, hj, e⟩
    have : j = i := Int.ofNat.inj e
    rwa [← this]
  · exact fun h => ⟨i, h, rfl⟩
theorem ord_top {g : List Tk} {ns : List Nat} (hn : ns.length = g.length) (hg : ∀ i, i < g.length → setOfN (rdTk g i).f1 g.length = some (ns.getD i 0)) :
    ∀ k, topN g k = (ordN ns k).1 ∧ ∀ i, (ordN ns k).2.testBit i = decide (i ∈ (ordN ns k).1)
  | 0 => ⟨rfl, fun i => by simp [ordN]⟩
  | k + 1 => by
    obtain ⟨h1, h2⟩ := ord_top hn hg k
    have hr : ∀ i, i < g.length → specReady g (topN g k) i = isReady ns (ordN ns k).2 i := by
      intro i hi
      unfold specReady isReady
      rw [h2, h1]
      congr 1
      · rw [decide_eq_decide.2 mem_intsN]
      · unfold allDoneB
        rw [Bool.eq_iff_iff, decide_eq_true_iff, diff_zero, List.all_eq_true]
        constructor
        · intro h j hj
          rw [setOfN_bits (hg i hi)] at hj
          rw [h2]
          have := of_decide_eq_true (h _ (of_decide_eq_true hj))
          exact decide_eq_true (mem_intsN.1 this)
        · intro h x hx
          obtain ⟨hx0, hx1⟩ := setOfL_mem _ _ _ _ _ (by omega) (hg i hi) x hx
          have hxe : x = ((x.toNat : Nat) : Int) := by omega
          have := h x.toNat (by rw [setOfN_bits (hg i hi)]; exact decide_eq_true (by rw [← hxe]; exact hx))
          rw [h2] at this
          rw [hxe]
          exact decide_eq_true (mem_intsN.2 (of_decide_eq_true this))
    have hf : topFirst g (topN g k) = firstReady ns (ordN ns k).2 := by
      unfold topFirst firstReady
      rw [hn]
      exact find_congr fun i hi => hr i (List.mem_range.1 hi)
    show topStep g (topN g k) = (ordStep ns (ordN ns k)).1 ∧ ∀ i, (ordStep ns (ordN ns k)).2.testBit i = decide (i ∈ (ordStep ns (ordN ns k)).1)
    unfold topStep ordStep
    rw [hf]
    cases firstReady ns (ordN ns k).2 with
    | none => exact ⟨h1, h2⟩
    | some i =>
      refine ⟨by rw [h1], fun j => ?_⟩
      simp only [or_bit, h2, List.mem_append, List.mem_singleton, Bool.decide_or]
      congr 1
      exact decide_eq_decide.2 eq_comm

def cnt : Nat → Nat → Nat
  | 0, _ => 0
  | n + 1, s => cnt n s + if s.testBit n then 1 else 0
theorem cnt_high {i s : Nat} : ∀ n, n ≤ i → cnt n (s ||| 2 ^ i) = cnt n s
  | 0, _ => rfl
  | n + 1, h => by
    unfold cnt
    rw [cnt_high n (by omega), or_bit, decide_eq_false (show ¬ i = n by omega), Bool.or_false]
theorem cnt_step {i s : Nat} (hs : s.testBit i = false) : ∀ n, i < n → cnt n (s ||| 2 ^ i) = cnt n s + 1
  | n + 1, h => by
    unfold cnt
    rw [or_bit]
    by_cases hi : i = n
    · subst hi
      rw [cnt_high i (Nat.le_refl _), hs]
      simp
    · rw [cnt_step hs n (by omega), decide_eq_false hi, Bool.or_false]
      omega
theorem cnt_le (s : Nat) : ∀ n, cnt n s ≤ n
  | 0 => Nat.le_refl _
  | n + 1 => by
    unfold cnt
    have := cnt_le s n
    split <;> omega
theorem cnt_full (s : Nat) : ∀ n, cnt n s = n ↔ ∀ j, j < n → s.testBit j = true
  | 0 => by simp [cnt]
  | n + 1 => by
    unfold cnt
    have h1 := cnt_le s n
    have h2 := cnt_full s n
    constructor
    · intro h j hj
      split at h
      · rename_i hb
        rcases Nat.lt_succ_iff_lt_or_eq.1 hj with h3 | rfl
        · exact h2.1 (by omega) j h3
        · exact hb
      · omega
    · intro h
      rw [if_pos (h n (Nat.lt_succ_self _)), h2.2 fun j hj => h j (by omega)]
theorem cnt_zero : ∀ n, cnt n 0 = 0
  | 0 => rfl
  | n + 1 => by unfold cnt; rw [cnt_zero n]; simp
theorem ord_cnt (ns : List Nat) : ∀ k, (ordN ns k).1.length = cnt ns.length (ordN ns k).2
  | 0 => (cnt_zero _).symm
  | k + 1 => by
    show (ordStep ns (ordN ns k)).1.length = cnt ns.length (ordStep ns (ordN ns k)).2
    have h0 := ord_cnt ns k
    unfold ordStep
    cases hf : firstReady ns (ordN ns k).2 with
    | none => exact h0
    | some i =>
      obtain ⟨hi, hr⟩ := firstReady_spec hf
      unfold isReady at hr
      rw [Bool.and_eq_true, Bool.not_eq_true'] at hr
      rw [cnt_step hr.1 _ hi, ← h0]
      simp
theorem full_iff {s n : Nat} (h : s < 2 ^ n) : (∀ j, j < n → s.testBit j = true) ↔ s = 2 ^ n - 1 := by
  constructor
  · intro hb
    apply Nat.eq_of_testBit_eq
    intro j
    rw [Nat.testBit_two_pow_sub_one]
    by_cases hj : j < n
    · rw [hb j hj, decide_eq_true hj]
    · rw [decide_eq_false hj]
      exact Nat.testBit_lt_two_pow (Nat.lt_of_lt_of_le h (Nat.pow_le_pow_right (by omega) (by omega)))
  · rintro rfl j hj
    rw [Nat.testBit_two_pow_sub_one, decide_eq_true hj]

/-- The reference's valid graphs are those that graphOf takes. -/
theorem specValid_eq (g : List Tk) : specValid g = (graphN g).isSome := by
  unfold specValid graphN
  rw [tasksFine_eq]
  cases hn : needsN g with
  | none => rfl
  | some ns =>
    have hl := needsN_length hn
    have hall := (needsL_all _ _ _ (needsN_some hn).2).2
    have ht := (ord_top hl (fun i hi => (hall i hi).2) g.length).1
    rw [Option.bind_some, Option.isSome_some, Bool.true_and]
    show decide ((topN g g.length).length = g.length) = _
    rw [ht, ord_cnt, hl]
    have hlt := (ordN_lt ns g.length).1
    rw [hl] at hlt
    rw [decide_eq_decide.2 ((cnt_full _ _).trans (full_iff hlt))]
    by_cases h : (ordN ns g.length).2 = 2 ^ g.length - 1
    · rw [if_pos h, decide_eq_true h]; rfl
    · rw [if_neg h, decide_eq_false h]; rfl
/-- The reference's valid logs are those the machine replays. -/
theorem validLog_eq (g : List Tk) (log : List Ev) : validLogB g log = (replayB g log).isSome := validLog_law (specValid_eq g)
end Go.Proofs.YtlcdffhhimbbmaaDoor
