/- The plain law of logs: the reference takes a log exactly where the machine does; the reference's valid graphs are those that graphOf takes. -/
import Derived.Test.YtpmfghbjkampkaaDoorValidLog
import Derived.Test.YtpmfghbjkampkaaDoorSpec5
namespace Go.Proofs.YtpmfghbjkampkaaDoor
set_option linter.unusedVariables false
set_option linter.unusedSimpArgs false
open Go.RowKit Go.Shelf Bits
theorem setOfL_bits (n : Int) : ∀ (l : List Int) (last : Int) (s r : Nat), -1 ≤ last → setOfL n l last s = some r → ∀ j, r.testBit j = (s.testBit j || decide ((j : Int) ∈ l))
 | [], last, s, r, _, h, j => by
  simp only [setOfL, Option.some.injEq] at h
  subst h
  simp
 | i :: l, last, s, r, hl, h, j => by
  rw [setOfL_cons] at h
  split at h
  ·
   rename_i hc
   rw [setOfL_bits n l i _ r (by omega) h j, or_bit]
   have e : decide (i.toNat = j) = decide ((j : Int) = i) := decide_eq_decide.2 (by omega)
   rw [e]
   simp only [List.mem_cons, Bool.or_assoc, Bool.decide_or]
  ·
   cases h
theorem setOfN_bits {l : List Int} {n s : Nat} (h : setOfN l n = some s) (j : Nat) : s.testBit j = decide ((j : Int) ∈ l) := by
 rw [setOfL_bits n l _ _ _ (by omega) h j]
 simp
theorem setOfL_mem (n : Int) : ∀ (l : List Int) (last : Int) (s r : Nat), -1 ≤ last → setOfL n l last s = some r → ∀ x ∈ l, 0 ≤ x ∧ x ≤ n - 1
 | [], _, _, _, _, _, x, hx => by cases hx
 | i :: l, last, s, r, hl, h, x, hx => by
  rw [setOfL_cons] at h
  split at h
  ·
   rename_i hc
   rcases List.mem_cons.1 hx with rfl | hx
   ·
    omega
   ·
    exact setOfL_mem n l i _ r (by omega) h x hx
  ·
   cases h
structure Link (g : List Tk) (pre : List Ev) (M : Mach) : Prop where
 b : ∀ i, M.b.testBit i = decide (0 ≤ begunL (i : Nat) pre (-1))
 q : ∀ i, M.b.testBit i = true → M.bg i = begunL (i : Nat) pre (-1)
 o : ∀ i, M.o.testBit i = decide (((i : Nat) : Int) ∈ overL pre)
theorem Link.zero (g : List Tk) : Link g [] Mach.zero := ⟨fun i => by simp [Mach.zero, begunL], fun i h => by simp [Mach.zero] at h, fun i => by simp [Mach.zero, overL]⟩
theorem mayBegin_fit {g : List Tk} {ns : List Nat} {pre : List Ev} {M : Mach} {e : Ev} (hg : graphN g = some ns) (hL : Link g pre M) (he : evIn g e = true) (h2 : e.f2 = false) : mayBegin ns M e = evFit g pre e := by
 obtain ⟨h0, h1, hi⟩ := evIn_num he
 have hs := ((graphN_all hg).2.2 e.i hi).2
 unfold mayBegin evFit
 rw [h2]
 simp only [Bool.false_eq_true, if_false]
 rw [h1, Int.toNat_natCast, hL.b]
 congr 1
 ·
  by_cases hx : 0 ≤ begunL ((e.i : Nat) : Int) pre (-1)
  ·
   rw [decide_eq_true hx, decide_eq_false (by omega)]; rfl
  ·
   rw [decide_eq_false hx, decide_eq_true (by omega)]; rfl
 ·
  unfold allDoneB
  rw [Bool.eq_iff_iff, decide_eq_true_iff, diff_zero, List.all_eq_true]
  constructor
  ·
   intro h x hx
   obtain ⟨hx0, hx1⟩ := setOfL_mem _ _ _ _ _ (by omega) hs x hx
   have hxe : x = ((x.toNat : Nat) : Int) := by omega
   have := h x.toNat (by rw [setOfN_bits hs]; exact decide_eq_true (by rw [← hxe]; exact hx))
   rw [hL.o, ← hxe] at this
   exact this
  ·
   intro h j hj
   rw [setOfN_bits hs] at hj
   rw [hL.o]
   exact h _ (of_decide_eq_true hj)
theorem mayEnd_fit {g : List Tk} {pre : List Ev} {M : Mach} {e : Ev} (hL : Link g pre M) (he : evIn g e = true) (h2 : e.f2 = true) : mayEnd g M e = evFit g pre e := by
 obtain ⟨h0, h1, hi⟩ := evIn_num he
 unfold mayEnd evFit
 rw [h2]
 simp only [if_true]
 rw [h1, Int.toNat_natCast]
 cases hb : M.b.testBit e.i
 ·
  have := hL.b e.i
  rw [hb] at this
  rw [← this]; rfl
 ·
  have h3 := hL.b e.i
  rw [hb] at h3
  rw [← h3, hL.o, hL.q e.i hb, Bool.true_and, Bool.true_and]
theorem step_fit {g : List Tk} {ns : List Nat} {pre : List Ev} {M : Mach} {e : Ev} (hg : graphN g = some ns) (hL : Link g pre M) : (stepM g ns M e).isSome = (evIn g e && evFit g pre e) := by
 unfold stepM
 cases he : evIn g e
 ·
  rfl
 ·
  rw [if_neg (by simp), Bool.true_and]
  cases h2 : e.f2
  ·
   rw [if_pos rfl, ← mayBegin_fit hg hL he h2]
   cases mayBegin ns M e <;> rfl
  ·
   rw [if_neg (by simp), ← mayEnd_fit hL he h2]
   cases mayEnd g M e <;> rfl
theorem Link.step {g : List Tk} {ns : List Nat} {pre : List Ev} {M M' : Mach} {e : Ev} (hL : Link g pre M) (h : stepM g ns M e = some M') : Link g (pre ++ [e]) M' := by
 obtain ⟨he, ⟨h2, hm, rfl⟩ | ⟨h2, hm, rfl⟩⟩ := stepM_some h
 ·
  obtain ⟨h0, h1, hi⟩ := evIn_num he
  have h00 := (inB_true.1 h0).1
  refine ⟨fun i => ?_, fun i hb => ?_, fun i => ?_⟩
  ·
   rw [begunL_snoc, h2]
   simp only [Mach.begin, or_bit, Bool.false_eq_true, if_false]
   by_cases hie : e.f1 = (i : Int)
   ·
    rw [if_pos hie, decide_eq_true (show e.i = i by omega), Bool.or_true, decide_eq_true h00]
   ·
    rw [if_neg hie, decide_eq_false (show ¬ e.i = i by omega), Bool.or_false, hL.b]
  ·
   rw [begunL_snoc, h2]
   simp only [Mach.begin, or_bit, Bool.false_eq_true, if_false] at hb ⊢
   by_cases hie : e.f1 = (i : Int)
   ·
    rw [if_pos hie, if_pos (show i = e.i by omega)]
   ·
    rw [if_neg hie, if_neg (show ¬ i = e.i by omega)]
    rw [decide_eq_false (show ¬ e.i = i by omega), Bool.or_false] at hb
    exact hL.q i hb
  ·
   rw [overL_snoc, h2]
   simp only [Mach.begin, Bool.false_eq_true, if_false]
   exact hL.o i
 ·
  obtain ⟨h0, h1, hi⟩ := evIn_num he
  refine ⟨fun i => ?_, fun i hb => ?_, fun i => ?_⟩
  ·
   rw [begunL_snoc, h2]
   simp only [Mach.finish, if_true]
   exact hL.b i
  ·
   rw [begunL_snoc, h2]
   simp only [Mach.finish, if_true] at hb ⊢
   exact hL.q i hb
  ·
   rw [overL_snoc, h2]
   simp only [Mach.finish, or_bit, if_true, List.mem_append, List.mem_singleton, Bool.decide_or]
   rw [hL.o]
   congr 1
   exact decide_eq_decide.2 (by omega)
end Go.Proofs.YtpmfghbjkampkaaDoor
namespace Go.Proofs.YtpmfghbjkampkaaDoor
set_option linter.unusedVariables false
set_option linter.unusedSimpArgs false
open Go.RowKit Go.Shelf Bits
theorem eventOk_eq (g : List Tk) (log : List Ev) (k : Nat) : eventOkB g log k = (evIn g (rdEv log k) && inOrder log k && evFit g (log.take k) (rdEv log k)) := by
 unfold eventOkB evIn inOrder eventFitsB
 show (_ && (!(_ && decide ((rdEv log (k - 1)).f0 > (rdEv log k).f0))) && _ && _) = _
 generalize inB (rdEv log k).f0 0 200 = a
 generalize (!(decide (0 < k) && decide ((rdEv log (k - 1)).f0 > (rdEv log k).f0))) = b
 generalize inB (rdEv log k).f1 0 (g.length - 1) = c
 generalize evFit g (log.take k) (rdEv log k) = d
 cases a <;> cases b <;> cases c <;> cases d <;> rfl
theorem replayN_law {g : List Tk} {ns : List Nat} {log : List Ev} (hg : graphN g = some ns) : ∀ k, k ≤ log.length →
  ((∀ j, j < k → eventOkB g log j = true) ∧ ∃ p, replayN g ns log k = some p ∧ Link g (log.take k) p.1) ∨ ((∃ j, j < k ∧ eventOkB g log j = false) ∧ replayN g ns log k = none)
 | 0, _ => Or.inl ⟨fun j h => absurd h (Nat.not_lt_zero _), (Mach.zero, 0), rfl, Link.zero g⟩
 | k + 1, hk => by
  rcases replayN_law (log := log) hg k (by omega) with ⟨hall, ⟨M, most⟩, hp, hL⟩ | ⟨⟨j, hj, hf⟩, hn⟩
  ·
   have hsf := step_fit (e := rdEv log k) hg hL
   cases hio : inOrder log k
   ·
    refine Or.inr ⟨⟨k, Nat.lt_succ_self _, ?_⟩, replayN_order hp hio⟩
    rw [eventOk_eq, hio]
    simp
   ·
    cases hs : stepM g ns M (rdEv log k) with
    | none =>
     refine Or.inr ⟨⟨k, Nat.lt_succ_self _, ?_⟩, replayN_none1 hp hio hs⟩
     rw [hs] at hsf
     rw [eventOk_eq, hio, Bool.and_true]
     exact hsf.symm
    | some M' =>
     refine Or.inl ⟨fun j hj => ?_, _, replayN_some1 hp hio hs, ?_⟩
     ·
      rcases Nat.lt_succ_iff_lt_or_eq.1 hj with h | rfl
      ·
       exact hall j h
      ·
       rw [hs] at hsf
       rw [eventOk_eq, hio, Bool.and_true]
       exact hsf.symm
     ·
      rw [take_snocE (by omega)]
      exact hL.step hs
  ·
   exact Or.inr ⟨⟨j, by omega, hf⟩, replayN_none hn (k + 1) (by omega)⟩
theorem validLog_law {g : List Tk} {log : List Ev} (hgs : specValid g = (graphN g).isSome) : validLogB g log = (replayB g log).isSome := by
 unfold validLogB replayB
 rw [hgs]
 cases hg : graphN g with
 | none => rfl
 | some ns =>
  rw [Option.bind_some]
  by_cases hlen : log.length ≤ 16
  ·
   rw [if_pos hlen, decide_eq_true hlen]
   simp only [Option.isSome_some, Bool.true_and]
   rcases replayN_law (log := log) hg log.length (Nat.le_refl _) with ⟨hall, p, hp, _⟩ | ⟨⟨j, hj, hf⟩, hn⟩
   ·
    rw [hp, Option.isSome_some, List.all_eq_true]
    exact fun j hj => hall j (List.mem_range.1 hj)
   ·
    rw [hn, Option.isSome_none, List.all_eq_false]
    exact ⟨j, List.mem_range.2 hj, by rw [hf]; simp⟩
  ·
   rw [if_neg hlen, decide_eq_false hlen]
   simp
end Go.Proofs.YtpmfghbjkampkaaDoor
namespace Go.Proofs.YtpmfghbjkampkaaDoor
set_option linter.unusedVariables false
set_option linter.unusedSimpArgs false
open Go.RowKit Go.Shelf Bits
theorem setOfL_isSome (n : Int) : ∀ (l : List Int) (last : Int) (s : Nat), (setOfL n l last s).isSome = true ↔ (∀ j, j < l.length → last < l.getD j 0 ∧ l.getD j 0 ≤ n - 1) ∧ (∀ j, j + 1 < l.length → l.getD j 0 < l.getD (j + 1) 0)
 | [], last, s => by simp [setOfL]
 | i :: l, last, s => by
  rw [setOfL_cons]
  split
  ·
   rename_i hc
   rw [setOfL_isSome n l i]
   constructor
   ·
    rintro ⟨h1, h2⟩
    refine ⟨fun j hj => ?_, fun j hj => ?_⟩
    ·
     cases j with
     | zero => show last < i ∧ i ≤ n - 1; omega
     | succ j =>
      have := h1 j (by simpa using hj)
      show last < l.getD j 0 ∧ l.getD j 0 ≤ n - 1
      omega
    ·
     cases j with
     | zero => exact (h1 0 (by simpa using hj)).1
     | succ j => exact h2 j (by simpa using hj)
   ·
    rintro ⟨h1, h2⟩
    have chain : ∀ j, j < l.length → i < l.getD j 0 := by
     intro j
     induction j with
     | zero => exact fun hj => h2 0 (by simpa using hj)
     | succ j ih => exact fun hj => Int.lt_trans (ih (by omega)) (h2 (j + 1) (by simpa using hj))
    exact ⟨fun j hj => ⟨chain j hj, (h1 (j + 1) (by simpa using hj)).2⟩, fun j hj => h2 (j + 1) (by simpa using hj)⟩
  ·
   rename_i hc
   simp only [Option.isSome_none, Bool.false_eq_true, false_iff, not_and]
   intro h1
   exfalso
   have := h1 0 (by simp)
   apply hc
   have e : (i :: l).getD 0 0 = i := rfl
   rw [e] at this
   omega
theorem all_getD {p : Int → Bool} {l : List Int} : l.all p = true ↔ ∀ j, j < l.length → p (l.getD j 0) = true := by
 rw [List.all_eq_true]
 constructor
 ·
  intro h j hj
  rw [List.getD_eq_getElem?_getD, List.getElem?_eq_getElem hj]
  exact h _ (List.getElem_mem hj)
 ·
  intro h x hx
  obtain ⟨j, hj, rfl⟩ := List.getElem_of_mem hx
  have := h j hj
  rwa [List.getD_eq_getElem?_getD, List.getElem?_eq_getElem hj] at this
theorem setOfN_isSome (l : List Int) (n : Nat) : (setOfN l n).isSome = (allInB l 0 (n - 1) && ascB l) := by
 rw [Bool.eq_iff_iff, Bool.and_eq_true]
 unfold setOfN allInB ascB
 rw [setOfL_isSome, all_getD, List.all_eq_true]
 simp only [List.mem_range, decide_eq_true_eq, inB_true]
 constructor
 ·
  rintro ⟨h1, h2⟩
  exact ⟨fun j hj => by have := h1 j hj; omega, fun j hj => h2 j (by omega)⟩
 ·
  rintro ⟨h1, h2⟩
  exact ⟨fun j hj => by have := h1 j hj; omega, fun j hj => h2 j (by omega)⟩
theorem taskFine_eq (n : Nat) (t : Tk) : taskFineB n t = (taskOk t && (setOfN t.f1 n).isSome) := by
 unfold taskFineB taskOk
 rw [setOfN_isSome, Bool.and_assoc]
theorem needsL_isSome (n : Nat) : ∀ l : List Tk, (needsL n l).isSome = l.all (taskFineB n)
 | [] => rfl
 | t :: r => by
  rw [List.all_cons, taskFine_eq, ← needsL_isSome n r]
  cases h1 : setOfN t.f1 n with
  | none => rw [needsL_bad (Or.inl h1)]; simp
  | some s =>
   cases h2 : taskOk t with
   | false => rw [needsL_bad (Or.inr h2)]; rfl
   | true => rw [needsL_good h1 h2]; simp
theorem tasksFine_eq (g : List Tk) : tasksFineB g = (needsN g).isSome := by
 unfold tasksFineB needsN
 rw [← needsL_isSome]
 by_cases h : 8 < g.length
 ·
  rw [if_pos h, decide_eq_false (by omega), Bool.and_false]; rfl
 ·
  rw [if_neg h, decide_eq_true (by omega), Bool.and_true]
theorem find_congr {α : Type} {p q : α → Bool} : ∀ {l : List α}, (∀ x ∈ l, p x = q x) → l.find? p = l.find? q
 | [], _ => rfl
 | x :: l, h => by
  rw [List.find?_cons, List.find?_cons, h x (List.mem_cons_self ..), find_congr fun y hy => h y (List.mem_cons_of_mem _ hy)]
theorem mem_intsN {i : Nat} {l : List Nat} : ((i : Nat) : Int) ∈ ints l ↔ i ∈ l := by
 unfold ints
 rw [List.mem_map]
 constructor
 ·
  rintro ⟨j, hj, e⟩
  have : j = i := Int.ofNat.inj e
  rwa [← this]
 ·
  exact fun h => ⟨i, h, rfl⟩
theorem ord_top {g : List Tk} {ns : List Nat} (hn : ns.length = g.length) (hg : ∀ i, i < g.length → setOfN (rdTk g i).f1 g.length = some (ns.getD i 0)) :
  ∀ k, topN g k = (ordN ns k).1 ∧ ∀ i, (ordN ns k).2.testBit i = decide (i ∈ (ordN ns k).1)
 | 0 => ⟨rfl, fun i => by simp [ordN]⟩
 | k + 1 => by
  obtain ⟨h1, h2⟩ := ord_top hn hg k
  have hr : ∀ i, i < g.length → specReady g (topN g k) i = isReady ns (ordN ns k).2 i := by
   intro i hi
   unfold specReady isReady
   rw [h2, h1]
   congr 1
   ·
    rw [decide_eq_decide.2 mem_intsN]
   ·
    unfold allDoneB
    rw [Bool.eq_iff_iff, decide_eq_true_iff, diff_zero, List.all_eq_true]
    constructor
    ·
     intro h j hj
     rw [setOfN_bits (hg i hi)] at hj
     rw [h2]
     have := of_decide_eq_true (h _ (of_decide_eq_true hj))
     exact decide_eq_true (mem_intsN.1 this)
    ·
     intro h x hx
     obtain ⟨hx0, hx1⟩ := setOfL_mem _ _ _ _ _ (by omega) (hg i hi) x hx
     have hxe : x = ((x.toNat : Nat) : Int) := by omega
     have := h x.toNat (by rw [setOfN_bits (hg i hi)]; exact decide_eq_true (by rw [← hxe]; exact hx))
     rw [h2] at this
     rw [hxe]
     exact decide_eq_true (mem_intsN.2 (of_decide_eq_true this))
  have hf : topFirst g (topN g k) = firstReady ns (ordN ns k).2 := by
   unfold topFirst firstReady
   rw [hn]
   exact find_congr fun i hi => hr i (List.mem_range.1 hi)
  show topStep g (topN g k) = (ordStep ns (ordN ns k)).1 ∧ ∀ i, (ordStep ns (ordN ns k)).2.testBit i = decide (i ∈ (ordStep ns (ordN ns k)).1)
  unfold topStep ordStep
  rw [hf]
  cases firstReady ns (ordN ns k).2 with
  | none => exact ⟨h1, h2⟩
  | some i =>
   refine ⟨by rw [h1], fun j => ?_⟩
   simp only [or_bit, h2, List.mem_append, List.mem_singleton, Bool.decide_or]
   congr 1
   exact decide_eq_decide.2 eq_comm
def cnt : Nat → Nat → Nat
 | 0, _ => 0
 | n + 1, s => cnt n s + if s.testBit n then 1 else 0
theorem cnt_high {i s : Nat} : ∀ n, n ≤ i → cnt n (s ||| 2 ^ i) = cnt n s
 | 0, _ => rfl
 | n + 1, h => by
  unfold cnt
  rw [cnt_high n (by omega), or_bit, decide_eq_false (show ¬ i = n by omega), Bool.or_false]
theorem cnt_step {i s : Nat} (hs : s.testBit i = false) : ∀ n, i < n → cnt n (s ||| 2 ^ i) = cnt n s + 1
 | n + 1, h => by
  unfold cnt
  rw [or_bit]
  by_cases hi : i = n
  ·
   subst hi
   rw [cnt_high i (Nat.le_refl _), hs]
   simp
  ·
   rw [cnt_step hs n (by omega), decide_eq_false hi, Bool.or_false]
   omega
theorem cnt_le (s : Nat) : ∀ n, cnt n s ≤ n
 | 0 => Nat.le_refl _
 | n + 1 => by
  unfold cnt
  have := cnt_le s n
  split <;> omega
theorem cnt_full (s : Nat) : ∀ n, cnt n s = n ↔ ∀ j, j < n → s.testBit j = true
 | 0 => by simp [cnt]
 | n + 1 => by
  unfold cnt
  have h1 := cnt_le s n
  have h2 := cnt_full s n
  constructor
  ·
   intro h j hj
   split at h
   ·
    rename_i hb
    rcases Nat.lt_succ_iff_lt_or_eq.1 hj with h3 | rfl
    ·
     exact h2.1 (by omega) j h3
    ·
     exact hb
   ·
    omega
  ·
   intro h
   rw [if_pos (h n (Nat.lt_succ_self _)), h2.2 fun j hj => h j (by omega)]
theorem cnt_zero : ∀ n, cnt n 0 = 0
 | 0 => rfl
 | n + 1 => by unfold cnt; rw [cnt_zero n]; simp
theorem ord_cnt (ns : List Nat) : ∀ k, (ordN ns k).1.length = cnt ns.length (ordN ns k).2
 | 0 => (cnt_zero _).symm
 | k + 1 => by
  show (ordStep ns (ordN ns k)).1.length = cnt ns.length (ordStep ns (ordN ns k)).2
  have h0 := ord_cnt ns k
  unfold ordStep
  cases hf : firstReady ns (ordN ns k).2 with
  | none => exact h0
  | some i =>
   obtain ⟨hi, hr⟩ := firstReady_spec hf
   unfold isReady at hr
   rw [Bool.and_eq_true, Bool.not_eq_true'] at hr
   rw [cnt_step hr.1 _ hi, ← h0]
   simp
theorem full_iff {s n : Nat} (h : s < 2 ^ n) : (∀ j, j < n → s.testBit j = true) ↔ s = 2 ^ n - 1 := by
 constructor
 ·
  intro hb
  apply Nat.eq_of_testBit_eq
  intro j
  rw [Nat.testBit_two_pow_sub_one]
  by_cases hj : j < n
  ·
   rw [hb j hj, decide_eq_true hj]
  ·
   rw [decide_eq_false hj]
   exact Nat.testBit_lt_two_pow (Nat.lt_of_lt_of_le h (Nat.pow_le_pow_right (by omega) (by omega)))
 ·
  rintro rfl j hj
  rw [Nat.testBit_two_pow_sub_one, decide_eq_true hj]
theorem specValid_eq (g : List Tk) : specValid g = (graphN g).isSome := by
 unfold specValid graphN
 rw [tasksFine_eq]
 cases hn : needsN g with
 | none => rfl
 | some ns =>
  have hl := needsN_length hn
  have hall := (needsL_all _ _ _ (needsN_some hn).2).2
  have ht := (ord_top hl (fun i hi => (hall i hi).2) g.length).1
  rw [Option.bind_some, Option.isSome_some, Bool.true_and]
  show decide ((topN g g.length).length = g.length) = _
  rw [ht, ord_cnt, hl]
  have hlt := (ordN_lt ns g.length).1
  rw [hl] at hlt
  rw [decide_eq_decide.2 ((cnt_full _ _).trans (full_iff hlt))]
  by_cases h : (ordN ns g.length).2 = 2 ^ g.length - 1
  ·
   rw [if_pos h, decide_eq_true h]; rfl
  ·
   rw [if_neg h, decide_eq_false h]; rfl
theorem validLog_eq (g : List Tk) (log : List Ev) : validLogB g log = (replayB g log).isSome := validLog_law (specValid_eq g)
end Go.Proofs.YtpmfghbjkampkaaDoor
