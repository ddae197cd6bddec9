/- Parts of the proof, laid as one text by a program of mine. -/
import Derived.Test.YtlapphhcficbjaaGreatDoorKic14
import Derived.Test.YtlapphhcficbjaaGreatDoorKic10
import Derived.Test.YtlapphhcficbjaaGreatDoorKic11
import Derived.Test.YtlapphhcficbjaaGreatDoorKic8
import Derived.Deep.QuietTactic
import Derived.BigQuiet
import Derived.Test.YtlapphhcficbjaaGreatDoorKic13
namespace Go.Proofs.YtlapphhcficbjaaGreatDoor
set_option linter.unusedVariables false
set_option linter.unusedSimpArgs false
open Go.RowKit Go.Shelf Bits
theorem setOfL_bits (n : Int) : ∀ (l : List Int) (last : Int) (s r : Nat), -1 ≤ last → setOfL n l last s = some r → ∀ j, r.testBit j = (s.testBit j || decide ((j : Int) ∈ l))
 | [], last, s, r, _, h, j => by
  simp only [setOfL, Option.some.injEq] at h
  subst h
  simp
 | i :: l, last, s, r, hl, h, j => by
  rw [setOfL_cons] at h
  split at h
  ·
   rename_i hc
   rw [setOfL_bits n l i _ r (by omega) h j, or_bit]
   have e : decide (i.toNat = j) = decide ((j : Int) = i) := decide_eq_decide.2 (by omega)
   rw [e]
   simp only [List.mem_cons, Bool.or_assoc, Bool.decide_or]
  ·
   cases h
theorem setOfN_bits {l : List Int} {n s : Nat} (h : setOfN l n = some s) (j : Nat) : s.testBit j = decide ((j : Int) ∈ l) := by
 rw [setOfL_bits n l _ _ _ (by omega) h j]
 simp
theorem setOfL_mem (n : Int) : ∀ (l : List Int) (last : Int) (s r : Nat), -1 ≤ last → setOfL n l last s = some r → ∀ x ∈ l, 0 ≤ x ∧ x ≤ n - 1
 | [], _, _, _, _, _, x, hx => by cases hx
 | i :: l, last, s, r, hl, h, x, hx => by
  rw [setOfL_cons] at h
  split at h
  ·
   rename_i hc
   rcases List.mem_cons.1 hx with rfl | hx
   ·
    omega
   ·
    exact setOfL_mem n l i _ r (by omega) h x hx
  ·
   cases h
structure Link (g : List Tk) (pre : List Ev) (M : Mach) : Prop where
 b : ∀ i, M.b.testBit i = decide (0 ≤ begunL (i : Nat) pre (-1))
 q : ∀ i, M.b.testBit i = true → M.bg i = begunL (i : Nat) pre (-1)
 o : ∀ i, M.o.testBit i = decide (((i : Nat) : Int) ∈ overL pre)
theorem Link.zero (g : List Tk) : Link g [] Mach.zero := ⟨fun i => by simp [Mach.zero, begunL], fun i h => by simp [Mach.zero] at h, fun i => by simp [Mach.zero, overL]⟩
theorem mayBegin_fit {g : List Tk} {ns : List Nat} {pre : List Ev} {M : Mach} {e : Ev} (hg : graphN g = some ns) (hL : Link g pre M) (he : evIn g e = true) (h2 : e.f2 = false) : mayBegin ns M e = evFit g pre e := by
 obtain ⟨h0, h1, hi⟩ := evIn_num he
 have hs := ((graphN_all hg).2.2 e.i hi).2
 unfold mayBegin evFit
 rw [h2]
 simp only [Bool.false_eq_true, if_false]
 rw [h1, Int.toNat_natCast, hL.b]
 congr 1
 ·
  by_cases hx : 0 ≤ begunL ((e.i : Nat) : Int) pre (-1)
  ·
   rw [decide_eq_true hx, decide_eq_false (by omega)]; rfl
  ·
   rw [decide_eq_false hx, decide_eq_true (by omega)]; rfl
 ·
  unfold allDoneB
  rw [Bool.eq_iff_iff, decide_eq_true_iff, diff_zero, List.all_eq_true]
  constructor
  ·
   intro h x hx
   obtain ⟨hx0, hx1⟩ := setOfL_mem _ _ _ _ _ (by omega) hs x hx
   have hxe : x = ((x.toNat : Nat) : Int) := by omega
   have := h x.toNat (by rw [setOfN_bits hs]; exact decide_eq_true (by rw [← hxe]; exact hx))
   rw [hL.o, ← hxe] at this
   exact this
  ·
   intro h j hj
   rw [setOfN_bits hs] at hj
   rw [hL.o]
   exact h _ (of_decide_eq_true hj)
theorem mayEnd_fit {g : List Tk} {pre : List Ev} {M : Mach} {e : Ev} (hL : Link g pre M) (he : evIn g e = true) (h2 : e.f2 = true) : mayEnd g M e = evFit g pre e := by
 obtain ⟨h0, h1, hi⟩ := evIn_num he
 unfold mayEnd evFit
 rw [h2]
 simp only [if_true]
 rw [h1, Int.toNat_natCast]
 cases hb : M.b.testBit e.i
 ·
  have := hL.b e.i
  rw [hb] at this
  rw [← this]; rfl
 ·
  have h3 := hL.b e.i
  rw [hb] at h3
  rw [← h3, hL.o, hL.q e.i hb, Bool.true_and, Bool.true_and]
theorem step_fit {g : List Tk} {ns : List Nat} {pre : List Ev} {M : Mach} {e : Ev} (hg : graphN g = some ns) (hL : Link g pre M) : (stepM g ns M e).isSome = (evIn g e && evFit g pre e) := by
 unfold stepM
 cases he : evIn g e
 ·
  rfl
 ·
  rw [if_neg (by simp), Bool.true_and]
  cases h2 : e.f2
  ·
   rw [if_pos rfl, ← mayBegin_fit hg hL he h2]
   cases mayBegin ns M e <;> rfl
  ·
   rw [if_neg (by simp), ← mayEnd_fit hL he h2]
   cases mayEnd g M e <;> rfl
theorem Link.step {g : List Tk} {ns : List Nat} {pre : List Ev} {M M' : Mach} {e : Ev} (hL : Link g pre M) (h : stepM g ns M e = some M') : Link g (pre ++ [e]) M' := by
 obtain ⟨he, ⟨h2, hm, rfl⟩ | ⟨h2, hm, rfl⟩⟩ := stepM_some h
 ·
  obtain ⟨h0, h1, hi⟩ := evIn_num he
  have h00 := (inB_true.1 h0).1
  refine ⟨fun i => ?_, fun i hb => ?_, fun i => ?_⟩
  ·
   rw [begunL_snoc, h2]
   simp only [Mach.begin, or_bit, Bool.false_eq_true, if_false]
   by_cases hie : e.f1 = (i : Int)
   ·
    rw [if_pos hie, decide_eq_true (show e.i = i by omega), Bool.or_true, decide_eq_true h00]
   ·
    rw [if_neg hie, decide_eq_false (show ¬ e.i = i by omega), Bool.or_false, hL.b]
  ·
   rw [begunL_snoc, h2]
   simp only [Mach.begin, or_bit, Bool.false_eq_true, if_false] at hb ⊢
   by_cases hie : e.f1 = (i : Int)
   ·
    rw [if_pos hie, if_pos (show i = e.i by omega)]
   ·
    rw [if_neg hie, if_neg (show ¬ i = e.i by omega)]
    rw [decide_eq_false (show ¬ e.i = i by omega), Bool.or_false] at hb
    exact hL.q i hb
  ·
   rw [overL_snoc, h2]
   simp only [Mach.begin, Bool.false_eq_true, if_false]
   exact hL.o i
 ·
  obtain ⟨h0, h1, hi⟩ := evIn_num he
  refine ⟨fun i => ?_, fun i hb => ?_, fun i => ?_⟩
  ·
   rw [begunL_snoc, h2]
   simp only [Mach.finish, if_true]
   exact hL.b i
  ·
   rw [begunL_snoc, h2]
   simp only [Mach.finish, if_true] at hb ⊢
   exact hL.q i hb
  ·
   rw [overL_snoc, h2]
   simp only [Mach.finish, or_bit, if_true, List.mem_append, List.mem_singleton, Bool.decide_or]
   rw [hL.o]
   congr 1
   exact decide_eq_decide.2 (by omega)
end Go.Proofs.YtlapphhcficbjaaGreatDoor
namespace Go.Proofs.YtlapphhcficbjaaGreatDoor
set_option linter.unusedVariables false
set_option linter.unusedSimpArgs false
open Go.RowKit Go.Shelf Bits
theorem eventOk_eq (g : List Tk) (log : List Ev) (k : Nat) : eventOkB g log k = (evIn g (rdEv log k) && inOrder log k && evFit g (log.take k) (rdEv log k)) := by
 unfold eventOkB evIn inOrder eventFitsB
 show (_ && (!(_ && decide ((rdEv log (k - 1)).f0 > (rdEv log k).f0))) && _ && _) = _
 generalize inB (rdEv log k).f0 0 200 = a
 generalize (!(decide (0 < k) && decide ((rdEv log (k - 1)).f0 > (rdEv log k).f0))) = b
 generalize inB (rdEv log k).f1 0 (g.length - 1) = c
 generalize evFit g (log.take k) (rdEv log k) = d
 cases a <;> cases b <;> cases c <;> cases d <;> rfl
theorem replayN_law {g : List Tk} {ns : List Nat} {log : List Ev} (hg : graphN g = some ns) : ∀ k, k ≤ log.length →
  ((∀ j, j < k → eventOkB g log j = true) ∧ ∃ p, replayN g ns log k = some p ∧ Link g (log.take k) p.1) ∨ ((∃ j, j < k ∧ eventOkB g log j = false) ∧ replayN g ns log k = none)
 | 0, _ => Or.inl ⟨fun j h => absurd h (Nat.not_lt_zero _), (Mach.zero, 0), rfl, Link.zero g⟩
 | k + 1, hk => by
  rcases replayN_law (log := log) hg k (by omega) with ⟨hall, ⟨M, most⟩, hp, hL⟩ | ⟨⟨j, hj, hf⟩, hn⟩
  ·
   have hsf := step_fit (e := rdEv log k) hg hL
   cases hio : inOrder log k
   ·
    refine Or.inr ⟨⟨k, Nat.lt_succ_self _, ?_⟩, replayN_order hp hio⟩
    rw [eventOk_eq, hio]
    simp
   ·
    cases hs : stepM g ns M (rdEv log k) with
    | none =>
     refine Or.inr ⟨⟨k, Nat.lt_succ_self _, ?_⟩, replayN_none1 hp hio hs⟩
     rw [hs] at hsf
     rw [eventOk_eq, hio, Bool.and_true]
     exact hsf.symm
    | some M' =>
     refine Or.inl ⟨fun j hj => ?_, _, replayN_some1 hp hio hs, ?_⟩
     ·
      rcases Nat.lt_succ_iff_lt_or_eq.1 hj with h | rfl
      ·
       exact hall j h
      ·
       rw [hs] at hsf
       rw [eventOk_eq, hio, Bool.and_true]
       exact hsf.symm
     ·
      rw [take_snocE (by omega)]
      exact hL.step hs
  ·
   exact Or.inr ⟨⟨j, by omega, hf⟩, replayN_none hn (k + 1) (by omega)⟩
theorem validLog_law {g : List Tk} {log : List Ev} (hgs : specValid g = (graphN g).isSome) : validLogB g log = (replayB g log).isSome := by
 unfold validLogB replayB
 rw [hgs]
 cases hg : graphN g with
 | none => rfl
 | some ns =>
  rw [Option.bind_some]
  by_cases hlen : log.length ≤ 16
  ·
   rw [if_pos hlen, decide_eq_true hlen]
   simp only [Option.isSome_some, Bool.true_and]
   rcases replayN_law (log := log) hg log.length (Nat.le_refl _) with ⟨hall, p, hp, _⟩ | ⟨⟨j, hj, hf⟩, hn⟩
   ·
    rw [hp, Option.isSome_some, List.all_eq_true]
    exact fun j hj => hall j (List.mem_range.1 hj)
   ·
    rw [hn, Option.isSome_none, List.all_eq_false]
    exact ⟨j, List.mem_range.2 hj, by rw [hf]; simp⟩
  ·
   rw [if_neg hlen, decide_eq_false hlen]
   simp
end Go.Proofs.YtlapphhcficbjaaGreatDoor
namespace Go.Proofs.YtlapphhcficbjaaGreatDoor
set_option linter.unusedVariables false
set_option linter.unusedSimpArgs false
open Go.RowKit Go.Shelf Bits
theorem setOfL_isSome (n : Int) : ∀ (l : List Int) (last : Int) (s : Nat), (setOfL n l last s).isSome = true ↔ (∀ j, j < l.length → last < l.getD j 0 ∧ l.getD j 0 ≤ n - 1) ∧ (∀ j, j + 1 < l.length → l.getD j 0 < l.getD (j + 1) 0)
 | [], last, s => by simp [setOfL]
 | i :: l, last, s => by
  rw [setOfL_cons]
  split
  ·
   rename_i hc
   rw [setOfL_isSome n l i]
   constructor
   ·
    rintro ⟨h1, h2⟩
    refine ⟨fun j hj => ?_, fun j hj => ?_⟩
    ·
     cases j with
     | zero => show last < i ∧ i ≤ n - 1; omega
     | succ j =>
      have := h1 j (by simpa using hj)
      show last < l.getD j 0 ∧ l.getD j 0 ≤ n - 1
      omega
    ·
     cases j with
     | zero => exact (h1 0 (by simpa using hj)).1
     | succ j => exact h2 j (by simpa using hj)
   ·
    rintro ⟨h1, h2⟩
    have chain : ∀ j, j < l.length → i < l.getD j 0 := by
     intro j
     induction j with
     | zero => exact fun hj => h2 0 (by simpa using hj)
     | succ j ih => exact fun hj => Int.lt_trans (ih (by omega)) (h2 (j + 1) (by simpa using hj))
    exact ⟨fun j hj => ⟨chain j hj, (h1 (j + 1) (by simpa using hj)).2⟩, fun j hj => h2 (j + 1) (by simpa using hj)⟩
  ·
   rename_i hc
   simp only [Option.isSome_none, Bool.false_eq_true, false_iff, not_and]
   intro h1
   exfalso
   have := h1 0 (by simp)
   apply hc
   have e : (i :: l).getD 0 0 = i := rfl
   rw [e] at this
   omega
theorem all_getD {p : Int → Bool} {l : List Int} : l.all p = true ↔ ∀ j, j < l.length → p (l.getD j 0) = true := by
 rw [List.all_eq_true]
 constructor
 ·
  intro h j hj
  rw [List.getD_eq_getElem?_getD, List.getElem?_eq_getElem hj]
  exact h _ (List.getElem_mem hj)
 ·
  intro h x hx
  obtain ⟨j, hj, rfl⟩ := List.getElem_of_mem hx
  have := h j hj
  rwa [List.getD_eq_getElem?_getD, List.getElem?_eq_getElem hj] at this
theorem setOfN_isSome (l : List Int) (n : Nat) : (setOfN l n).isSome = (allInB l 0 (n - 1) && ascB l) := by
 rw [Bool.eq_iff_iff, Bool.and_eq_true]
 unfold setOfN allInB ascB
 rw [setOfL_isSome, all_getD, List.all_eq_true]
 simp only [List.mem_range, decide_eq_true_eq, inB_true]
 constructor
 ·
  rintro ⟨h1, h2⟩
  exact ⟨fun j hj => by have := h1 j hj; omega, fun j hj => h2 j (by omega)⟩
 ·
  rintro ⟨h1, h2⟩
  exact ⟨fun j hj => by have := h1 j hj; omega, fun j hj => h2 j (by omega)⟩
theorem taskFine_eq (n : Nat) (t : Tk) : taskFineB n t = (taskOk t && (setOfN t.f1 n).isSome) := by
 unfold taskFineB taskOk
 rw [setOfN_isSome, Bool.and_assoc]
theorem needsL_isSome (n : Nat) : ∀ l : List Tk, (needsL n l).isSome = l.all (taskFineB n)
 | [] => rfl
 | t :: r => by
  rw [List.all_cons, taskFine_eq, ← needsL_isSome n r]
  cases h1 : setOfN t.f1 n with
  | none => rw [needsL_bad (Or.inl h1)]; simp
  | some s =>
   cases h2 : taskOk t with
   | false => rw [needsL_bad (Or.inr h2)]; rfl
   | true => rw [needsL_good h1 h2]; simp
theorem tasksFine_eq (g : List Tk) : tasksFineB g = (needsN g).isSome := by
 unfold tasksFineB needsN
 rw [← needsL_isSome]
 by_cases h : 8 < g.length
 ·
  rw [if_pos h, decide_eq_false (by omega), Bool.and_false]; rfl
 ·
  rw [if_neg h, decide_eq_true (by omega), Bool.and_true]
theorem find_congr {α : Type} {p q : α → Bool} : ∀ {l : List α}, (∀ x ∈ l, p x = q x) → l.find? p = l.find? q
 | [], _ => rfl
 | x :: l, h => by
  rw [List.find?_cons, List.find?_cons, h x (List.mem_cons_self ..), find_congr fun y hy => h y (List.mem_cons_of_mem _ hy)]
theorem mem_intsN {i : Nat} {l : List Nat} : ((i : Nat) : Int) ∈ ints l ↔ i ∈ l := by
 unfold ints
 rw [List.mem_map]
 constructor
 ·
  rintro ⟨j, hj, e⟩
  have : j = i := Int.ofNat.inj e
  rwa [← this]
 ·
  exact fun h => ⟨i, h, rfl⟩
theorem ord_top {g : List Tk} {ns : List Nat} (hn : ns.length = g.length) (hg : ∀ i, i < g.length → setOfN (rdTk g i).f1 g.length = some (ns.getD i 0)) :
  ∀ k, topN g k = (ordN ns k).1 ∧ ∀ i, (ordN ns k).2.testBit i = decide (i ∈ (ordN ns k).1)
 | 0 => ⟨rfl, fun i => by simp [ordN]⟩
 | k + 1 => by
  obtain ⟨h1, h2⟩ := ord_top hn hg k
  have hr : ∀ i, i < g.length → specReady g (topN g k) i = isReady ns (ordN ns k).2 i := by
   intro i hi
   unfold specReady isReady
   rw [h2, h1]
   congr 1
   ·
    rw [decide_eq_decide.2 mem_intsN]
   ·
    unfold allDoneB
    rw [Bool.eq_iff_iff, decide_eq_true_iff, diff_zero, List.all_eq_true]
    constructor
    ·
     intro h j hj
     rw [setOfN_bits (hg i hi)] at hj
     rw [h2]
     have := of_decide_eq_true (h _ (of_decide_eq_true hj))
     exact decide_eq_true (mem_intsN.1 this)
    ·
     intro h x hx
     obtain ⟨hx0, hx1⟩ := setOfL_mem _ _ _ _ _ (by omega) (hg i hi) x hx
     have hxe : x = ((x.toNat : Nat) : Int) := by omega
     have := h x.toNat (by rw [setOfN_bits (hg i hi)]; exact decide_eq_true (by rw [← hxe]; exact hx))
     rw [h2] at this
     rw [hxe]
     exact decide_eq_true (mem_intsN.2 (of_decide_eq_true this))
  have hf : topFirst g (topN g k) = firstReady ns (ordN ns k).2 := by
   unfold topFirst firstReady
   rw [hn]
   exact find_congr fun i hi => hr i (List.mem_range.1 hi)
  show topStep g (topN g k) = (ordStep ns (ordN ns k)).1 ∧ ∀ i, (ordStep ns (ordN ns k)).2.testBit i = decide (i ∈ (ordStep ns (ordN ns k)).1)
  unfold topStep ordStep
  rw [hf]
  cases firstReady ns (ordN ns k).2 with
  | none => exact ⟨h1, h2⟩
  | some i =>
   refine ⟨by rw [h1], fun j => ?_⟩
   simp only [or_bit, h2, List.mem_append, List.mem_singleton, Bool.decide_or]
   congr 1
   exact decide_eq_decide.2 eq_comm
def cntW : Nat → Nat → Nat
 | 0, _ => 0
 | n + 1, s => cntW n s + if s.testBit n then 1 else 0
theorem cntW_high {i s : Nat} : ∀ n, n ≤ i → cntW n (s ||| 2 ^ i) = cntW n s
 | 0, _ => rfl
 | n + 1, h => by
  unfold cntW
  rw [cntW_high n (by omega), or_bit, decide_eq_false (show ¬ i = n by omega), Bool.or_false]
theorem cntW_step {i s : Nat} (hs : s.testBit i = false) : ∀ n, i < n → cntW n (s ||| 2 ^ i) = cntW n s + 1
 | n + 1, h => by
  unfold cntW
  rw [or_bit]
  by_cases hi : i = n
  ·
   subst hi
   rw [cntW_high i (Nat.le_refl _), hs]
   simp
  ·
   rw [cntW_step hs n (by omega), decide_eq_false hi, Bool.or_false]
   omega
theorem cntW_le (s : Nat) : ∀ n, cntW n s ≤ n
 | 0 => Nat.le_refl _
 | n + 1 => by
  unfold cntW
  have := cntW_le s n
  split <;> omega
theorem cntW_full (s : Nat) : ∀ n, cntW n s = n ↔ ∀ j, j < n → s.testBit j = true
 | 0 => by simp [cntW]
 | n + 1 => by
  unfold cntW
  have h1 := cntW_le s n
  have h2 := cntW_full s n
  constructor
  ·
   intro h j hj
   split at h
   ·
    rename_i hb
    rcases Nat.lt_succ_iff_lt_or_eq.1 hj with h3 | rfl
    ·
     exact h2.1 (by omega) j h3
    ·
     exact hb
   ·
    omega
  ·
   intro h
   rw [if_pos (h n (Nat.lt_succ_self _)), h2.2 fun j hj => h j (by omega)]
theorem cnt_zero : ∀ n, cntW n 0 = 0
 | 0 => rfl
 | n + 1 => by unfold cntW; rw [cnt_zero n]; simp
theorem ord_cnt (ns : List Nat) : ∀ k, (ordN ns k).1.length = cntW ns.length (ordN ns k).2
 | 0 => (cnt_zero _).symm
 | k + 1 => by
  show (ordStep ns (ordN ns k)).1.length = cntW ns.length (ordStep ns (ordN ns k)).2
  have h0 := ord_cnt ns k
  unfold ordStep
  cases hf : firstReady ns (ordN ns k).2 with
  | none => exact h0
  | some i =>
   obtain ⟨hi, hr⟩ := firstReady_spec hf
   unfold isReady at hr
   rw [Bool.and_eq_true, Bool.not_eq_true'] at hr
   rw [cntW_step hr.1 _ hi, ← h0]
   simp
theorem full_iff {s n : Nat} (h : s < 2 ^ n) : (∀ j, j < n → s.testBit j = true) ↔ s = 2 ^ n - 1 := by
 constructor
 ·
  intro hb
  apply Nat.eq_of_testBit_eq
  intro j
  rw [Nat.testBit_two_pow_sub_one]
  by_cases hj : j < n
  ·
   rw [hb j hj, decide_eq_true hj]
  ·
   rw [decide_eq_false hj]
   exact Nat.testBit_lt_two_pow (Nat.lt_of_lt_of_le h (Nat.pow_le_pow_right (by omega) (by omega)))
 ·
  rintro rfl j hj
  rw [Nat.testBit_two_pow_sub_one, decide_eq_true hj]
theorem specValid_eq (g : List Tk) : specValid g = (graphN g).isSome := by
 unfold specValid graphN
 rw [tasksFine_eq]
 cases hn : needsN g with
 | none => rfl
 | some ns =>
  have hl := needsN_length hn
  have hall := (needsL_all _ _ _ (needsN_some hn).2).2
  have ht := (ord_top hl (fun i hi => (hall i hi).2) g.length).1
  rw [Option.bind_some, Option.isSome_some, Bool.true_and]
  show decide ((topN g g.length).length = g.length) = _
  rw [ht, ord_cnt, hl]
  have hlt := (ordN_lt ns g.length).1
  rw [hl] at hlt
  rw [decide_eq_decide.2 ((cntW_full _ _).trans (full_iff hlt))]
  by_cases h : (ordN ns g.length).2 = 2 ^ g.length - 1
  ·
   rw [if_pos h, decide_eq_true h]; rfl
  ·
   rw [if_neg h, decide_eq_false h]; rfl
theorem validLog_eq (g : List Tk) (log : List Ev) : validLogB g log = (replayB g log).isSome := validLog_law (specValid_eq g)
end Go.Proofs.YtlapphhcficbjaaGreatDoor

namespace Go.Proofs.YtlapphhcficbjaaGreatDoor
set_option linter.unusedVariables false
set_option linter.unusedSimpArgs false
open Go.RowKit Go.Shelf Bits
theorem graphN_spec {g : List Tk} {ns : List Nat} (h : graphN g = some ns) : specValid g = true := by rw [specValid_eq, h]; rfl
theorem topL_eq {g : List Tk} {ns : List Nat} (h : graphN g = some ns) : topL g = (ordN ns ns.length).1 := by
 obtain ⟨h8, hn, hs⟩ := graphN_all h
 have := (ord_top hn (fun i hi => (hs i hi).2) g.length).1
 unfold topL
 rw [this, hn]
theorem need_bit {g : List Tk} {ns : List Nat} (h : graphN g = some ns) {i : Nat} (hi : i < g.length) (k : Nat) : (ns.getD i 0).testBit k = decide ((k : Int) ∈ (rdTk g i).f1) :=
 setOfN_bits ((graphN_all h).2.2 i hi).2 k
def Topo (g : List Tk) (l : List Nat) : Prop := ∀ p, p < l.length → ∀ k : Nat, (k : Int) ∈ (rdTk g (l.getD p 0)).f1 → k ∈ l.take p
theorem topo_topN (g : List Tk) : ∀ n, Topo g (topN g n)
 | 0 => fun p hp => absurd hp (Nat.not_lt_zero _)
 | n + 1 => by
  have ih := topo_topN g n
  show Topo g (topStep g (topN g n))
  unfold topStep
  cases hf : topFirst g (topN g n) with
  | none => exact ih
  | some i =>
   obtain ⟨hi, _, hr⟩ := topFirst_spec hf
   generalize topN g n = l at ih hr
   have key : Topo g (l ++ [i]) := by
    intro p hp k hk
    have hp' := hp
    simp at hp'
    by_cases hpl : p < l.length
    ·
     have e : (l ++ [i]).getD p 0 = l.getD p 0 := by
      rw [List.getD_eq_getElem?_getD, List.getD_eq_getElem?_getD, List.getElem?_append_left hpl]
     rw [e] at hk
     rw [List.take_append_of_le_length (by omega)]
     exact ih p hpl k hk
    ·
     obtain rfl : p = l.length := by omega
     have e : (l ++ [i]).getD l.length 0 = i := by rw [List.getD_eq_getElem?_getD]; simp
     rw [e] at hk
     unfold specReady at hr
     rw [Bool.and_eq_true] at hr
     unfold allDoneB at hr
     have := List.all_eq_true.1 hr.2 _ hk
     rw [List.take_left]
     exact mem_intsN.1 (of_decide_eq_true this)
   exact key
theorem top_all {g : List Tk} (hv : specValid g = true) {j : Nat} (hj : j < g.length) : j ∈ topL g := by
 obtain ⟨h1, h2, h3⟩ := topN_facts g g.length
 have hl : (topL g).length = g.length := by
  unfold specValid at hv
  rw [Bool.and_eq_true] at hv
  exact of_decide_eq_true hv.2
 by_cases hm : j ∈ topL g
 ·
  exact hm
 ·
  have := nodup_below (n := g.length) (l := j :: topL g) (List.nodup_cons.2 ⟨hm, h1⟩) (fun i hi => by
   rcases List.mem_cons.1 hi with rfl | hi
   ·
    exact hj
   ·
    exact h2 i hi)
  rw [List.length_cons] at this
  omega
theorem getD_setI (o : List Int) (a j : Nat) (v : Int) (ha : a < o.length) : (o.set a v).getD j 0 = if j = a then v else o.getD j 0 := by
 rw [List.getD_eq_getElem?_getD, List.getD_eq_getElem?_getD, List.getElem?_set]
 by_cases h : a = j
 ·
  subst h
  simp [ha]
 ·
  rw [if_neg h, if_neg (fun e => h e.symm)]
theorem mostS_nonneg (g : List Tk) (o : List Int) (i : Nat) : ∀ k, 0 ≤ mostS g o i k
 | 0 => Int.le_refl _
 | k + 1 => by
  have ih := mostS_nonneg g o i k
  unfold mostS
  split <;> omega
theorem mostS_set {g : List Tk} {o : List Int} {a : Nat} {v : Int} (ha : a < o.length) (h0 : o.getD a 0 = 0) (hv : 0 ≤ v) (j : Nat) :
  ∀ k, mostS g (o.set a v) j k = if a < k ∧ ((j : Int) ∈ (rdTk g a).f1) then max (mostS g o j k) v else mostS g o j k
 | 0 => by simp [mostS]
 | k + 1 => by
  have ih := mostS_set (g := g) ha h0 hv j k
  have hn := mostS_nonneg g o j k
  have e : mostS g (o.set a v) j (k + 1) = if decide ((j : Int) ∈ (rdTk g k).f1) then max (mostS g (o.set a v) j k) ((o.set a v).getD k 0) else mostS g (o.set a v) j k := rfl
  have e2 : mostS g o j (k + 1) = if decide ((j : Int) ∈ (rdTk g k).f1) then max (mostS g o j k) (o.getD k 0) else mostS g o j k := rfl
  rw [e, e2, ih, getD_setI _ _ _ _ ha]
  generalize mostS g o j k = M at hn ⊢
  by_cases hm : (j : Int) ∈ (rdTk g k).f1
  ·
   rw [if_pos (show decide ((j : Int) ∈ (rdTk g k).f1) = true from decide_eq_true hm), if_pos (show decide ((j : Int) ∈ (rdTk g k).f1) = true from decide_eq_true hm)]
   by_cases hk : k = a
   ·
    subst hk
    rw [if_neg (show ¬ (k < k ∧ ((j : Int) ∈ (rdTk g k).f1)) from fun h => by omega), if_pos (rfl : k = k), h0, if_pos (show k < k + 1 ∧ ((j : Int) ∈ (rdTk g k).f1) from ⟨by omega, hm⟩)]
    omega
   ·
    rw [if_neg hk]
    by_cases hc : a < k ∧ ((j : Int) ∈ (rdTk g a).f1)
    ·
     rw [if_pos hc, if_pos (show a < k + 1 ∧ ((j : Int) ∈ (rdTk g a).f1) from ⟨by omega, hc.2⟩)]
     omega
    ·
     rw [if_neg hc, if_neg (show ¬ (a < k + 1 ∧ ((j : Int) ∈ (rdTk g a).f1)) from fun h => hc ⟨by omega, h.2⟩)]
  ·
   rw [if_neg (show ¬ (decide ((j : Int) ∈ (rdTk g k).f1) = true) by simp [hm]), if_neg (show ¬ (decide ((j : Int) ∈ (rdTk g k).f1) = true) by simp [hm])]
   by_cases hk : k = a
   ·
    subst hk
    rw [if_neg (show ¬ (k < k ∧ ((j : Int) ∈ (rdTk g k).f1)) from fun h => by omega), if_neg (show ¬ (k < k + 1 ∧ ((j : Int) ∈ (rdTk g k).f1)) from fun h => hm h.2)]
   ·
    by_cases hc : a < k ∧ ((j : Int) ∈ (rdTk g a).f1)
    ·
     rw [if_pos hc, if_pos (show a < k + 1 ∧ ((j : Int) ∈ (rdTk g a).f1) from ⟨by omega, hc.2⟩)]
    ·
     rw [if_neg hc, if_neg (show ¬ (a < k + 1 ∧ ((j : Int) ∈ (rdTk g a).f1)) from fun h => hc ⟨by omega, h.2⟩)]
theorem pushes_get {i : Nat} : ∀ (l : List Nat) (o : List Int), i < o.length → (∀ k ∈ l, k < o.length ∧ k ≠ i) → ∀ j, (l.foldl (tailPush i) o).getD j 0 = if j ∈ l then max (o.getD j 0) (o.getD i 0) else o.getD j 0
 | [], o, _, _, j => by simp
 | k :: l, o, hi, h, j => by
  have hk := h k (List.mem_cons_self ..)
  rw [List.foldl_cons, pushes_get l (tailPush i o k) (by unfold tailPush; rw [List.length_set]; exact hi) (fun q hq => by unfold tailPush; rw [List.length_set]; exact h q (List.mem_cons_of_mem _ hq)) j]
  unfold tailPush
  rw [getD_setI _ _ _ _ hk.1, getD_setI _ _ _ _ hk.1]
  rw [if_neg (show ¬ (i = k) from fun e => hk.2 e.symm)]
  by_cases hjk : j = k
  ·
   subst hjk
   rw [if_pos (rfl : j = j), if_pos (show j ∈ j :: l from List.mem_cons_self ..)]
   split <;> omega
  ·
   rw [if_neg hjk]
   by_cases hjl : j ∈ l
   ·
    rw [if_pos hjl, if_pos (show j ∈ k :: l from List.mem_cons_of_mem _ hjl)]
   ·
    rw [if_neg hjl, if_neg (show ¬ (j ∈ k :: l) from fun h => by
     rcases List.mem_cons.1 h with e | e
     ·
      exact hjk e
     ·
      exact hjl e)]
theorem pushes_len {i : Nat} : ∀ (l : List Nat) (o : List Int), (l.foldl (tailPush i) o).length = o.length
 | [], _ => rfl
 | k :: l, o => by
  rw [List.foldl_cons, pushes_len l]
  unfold tailPush
  rw [List.length_set]
theorem tails_law {g : List Tk} {ns : List Nat} (hg : graphN g = some ns) : ∀ m, m ≤ (topL g).length →
  (∀ j ∈ (topL g).drop ((topL g).length - m), (tailsL g ns (topL g) (backL (topL g).length m)).getD j 0 = (tailsSL g (backL (topL g).length m)).getD j 0) ∧
  (∀ j, j < g.length → ¬ j ∈ (topL g).drop ((topL g).length - m) → (tailsSL g (backL (topL g).length m)).getD j 0 = 0 ∧ (tailsL g ns (topL g) (backL (topL g).length m)).getD j 0 = mostS g (tailsSL g (backL (topL g).length m)) j g.length)
 | 0, _ => by
  have h0 : ∀ j, (List.replicate g.length (0 : Int)).getD j 0 = 0 := fun j => by
   rw [List.getD_eq_getElem?_getD, List.getElem?_replicate]
   split <;> simp
  have hm : ∀ j k, mostS g (List.replicate g.length 0) j k = 0 := fun j k => by
   induction k with
   | zero => rfl
   | succ k ih =>
    unfold mostS
    rw [ih, h0]
    split <;> rfl
  refine ⟨fun j hj => by simp at hj, fun j hj _ => ?_⟩
  show (List.replicate g.length (0 : Int)).getD j 0 = 0 ∧ (List.replicate g.length (0 : Int)).getD j 0 = mostS g (List.replicate g.length 0) j g.length
  exact ⟨h0 j, by rw [h0, hm]⟩
 | m + 1, hm => by
  obtain ⟨ih1, ih2⟩ := tails_law hg m (by omega)
  have hv := graphN_spec hg
  obtain ⟨hnd, hlt, _⟩ := topN_facts g g.length
  have htm := graphN_time hg
  have hTS := (tailsSL_span (g := g) htm (backL (topL g).length m))
  have hTI := (tails_span (g := g) (ns := ns) (ord := topL g) htm (backL (topL g).length m))
  rw [backL_succ, tailsL_snoc, tailsSL_snoc]
  obtain ⟨p, hp⟩ : ∃ p, p = (topL g).length - 1 - m := ⟨_, rfl⟩
  rw [← hp]
  have hpl : p < (topL g).length := by omega
  have hdr : (topL g).drop ((topL g).length - (m + 1)) = (topL g).getD p 0 :: (topL g).drop ((topL g).length - m) := by
   rw [show (topL g).length - (m + 1) = p by omega, show (topL g).length - m = p + 1 by omega, List.drop_eq_getElem_cons hpl, List.getD_eq_getElem?_getD, List.getElem?_eq_getElem hpl]
   rfl
  have hat : (topL g).getD p 0 < g.length := hlt _ (by
   show _ ∈ topL g
   rw [List.getD_eq_getElem?_getD, List.getElem?_eq_getElem hpl]
   exact List.getElem_mem _)
  have htopo := topo_topN g g.length p hpl
  have hsplit : topL g = (topL g).take p ++ (topL g).getD p 0 :: (topL g).drop ((topL g).length - m) := by
   rw [← hdr, show (topL g).length - (m + 1) = p by omega, List.take_append_drop]
  have hnd2 : ((topL g).take p ++ (topL g).getD p 0 :: (topL g).drop ((topL g).length - m)).Nodup := by rw [← hsplit]; exact hnd
  obtain ⟨_, hn2, hn3⟩ := List.nodup_append.1 hnd2
  obtain ⟨hna, _⟩ := List.nodup_cons.1 hn2
  rw [hdr]
  change ∀ k : Nat, (k : Int) ∈ (rdTk g ((topL g).getD p 0)).f1 → k ∈ (topL g).take p at htopo
  generalize (topL g).getD p 0 = a at hat htopo hn3 hna
  generalize (topL g).drop ((topL g).length - m) = D at ih1 ih2 hn3 hna
  generalize tailsSL g (backL (topL g).length m) = oS at ih1 ih2 hTS
  generalize tailsL g ns (topL g) (backL (topL g).length m) = oI at ih1 ih2 hTI
  have hlS := hTS.1
  have hlI := hTI.1
  obtain ⟨ha0, haI⟩ := ih2 a hat hna
  have hmn := mostS_nonneg g oS a g.length
  have htma := htm a
  unfold sStep tailStep
  rw [haI]
  obtain ⟨v, hvv⟩ : ∃ v, v = mostS g oS a g.length + (rdTk g a).f0 := ⟨_, rfl⟩
  rw [← hvv]
  have hv0 : 0 ≤ v := by omega
  have hel : ∀ k ∈ elems (ns.getD a 0), k < g.length ∧ k ≠ a ∧ ¬ k ∈ D ∧ (k : Int) ∈ (rdTk g a).f1 := fun k hk => by
   have hb := elems_bit hk
   rw [need_bit hg hat] at hb
   have hkm := of_decide_eq_true hb
   have hkt := htopo k hkm
   refine ⟨hlt k (List.mem_of_mem_take hkt), fun e => hn3 k hkt a (List.mem_cons_self ..) e, fun hD => hn3 k hkt k (List.mem_cons_of_mem _ hD) rfl, hkm⟩
  have hpg := pushes_get (i := a) (elems (ns.getD a 0)) (oI.set a v) (by rw [List.length_set]; omega) (fun k hk => by rw [List.length_set]; exact ⟨by have := (hel k hk).1; omega, (hel k hk).2.1⟩)
  have hms : ∀ j, mostS g (oS.set a v) j g.length = if a < g.length ∧ ((j : Int) ∈ (rdTk g a).f1) then max (mostS g oS j g.length) v else mostS g oS j g.length := fun j => mostS_set (by omega) ha0 hv0 j g.length
  refine ⟨fun j hj => ?_, fun j hj hjD => ?_⟩
  ·
   rw [hpg, getD_setI _ _ _ _ (by omega), getD_setI _ _ _ _ (by omega), getD_setI _ _ _ _ (by omega), if_pos rfl]
   have hje : ¬ j ∈ elems (ns.getD a 0) := fun he => by
    rcases List.mem_cons.1 hj with e | e
    ·
     exact (hel j he).2.1 e
    ·
     exact (hel j he).2.2.1 e
   rw [if_neg hje]
   by_cases hja : j = a
   ·
    rw [if_pos hja, if_pos hja]
   ·
    rw [if_neg hja, if_neg hja]
    rcases List.mem_cons.1 hj with e | e
    ·
     exact absurd e hja
    ·
     exact ih1 j e
  ·
   have hja : j ≠ a := fun e => hjD (by rw [e]; exact List.mem_cons_self ..)
   have hjD' : ¬ j ∈ D := fun e => hjD (List.mem_cons_of_mem _ e)
   obtain ⟨q0, qI⟩ := ih2 j hj hjD'
   rw [hpg, hms, getD_setI _ _ _ _ (by omega), getD_setI _ _ _ _ (by omega), getD_setI _ _ _ _ (by omega), if_pos rfl, if_neg hja, if_neg hja, qI]
   refine ⟨q0, ?_⟩
   by_cases hje : j ∈ elems (ns.getD a 0)
   ·
    rw [if_pos hje, if_pos ⟨hat, (hel j hje).2.2.2⟩]
   ·
    have hnm : ¬ (j : Int) ∈ (rdTk g a).f1 := fun hm' => hje (mem_elems.2 ⟨by have := (graphN_all hg).1; omega, by rw [need_bit hg hat]; exact decide_eq_true hm'⟩)
    rw [if_neg hje, if_neg (fun h => hnm h.2)]
theorem tailN_eq {g : List Tk} {ns : List Nat} (hg : graphN g = some ns) : tailN g ns = tailsS g := by
 have hv := graphN_spec hg
 have htm := graphN_time hg
 have h := (tails_law hg (topL g).length (Nat.le_refl _)).1
 rw [Nat.sub_self, List.drop_zero] at h
 unfold tailN tailsS
 rw [← topL_eq hg]
 apply List.ext_getElem
 ·
  rw [(tails_span (g := g) (ns := ns) (ord := topL g) htm _).1, (tailsSL_span (g := g) htm _).1]
 ·
  intro j h1 h2
  have hj : j < g.length := by rw [(tails_span (g := g) (ns := ns) (ord := topL g) htm _).1] at h1; exact h1
  have := h j (top_all hv hj)
  rw [List.getD_eq_getElem?_getD, List.getD_eq_getElem?_getD, List.getElem?_eq_getElem h1, List.getElem?_eq_getElem h2] at this
  exact this
end Go.Proofs.YtlapphhcficbjaaGreatDoor

namespace Go.Proofs.YtlapphhcficbjaaGreatDoor
set_option linter.unusedVariables false
set_option linter.unusedSimpArgs false
open Go.RowKit Go.Shelf Bits
open Go.Proofs.YtlapphhcficbjaaGreatDoorW.PrintWords Go.Proofs.YtlapphhcficbjaaGreatDoorW.PrintLast Go.Proofs.YtlapphhcficbjaaGreatDoorW.PrintMore
theorem list_ext0 {a b : List Int} (hl : a.length = b.length) (h : ∀ j, j < a.length → a.getD j 0 = b.getD j 0) : a = b := by
 apply List.ext_getElem hl
 intro j h1 h2
 have := h j h1
 rw [List.getD_eq_getElem?_getD, List.getD_eq_getElem?_getD, List.getElem?_eq_getElem h1, List.getElem?_eq_getElem h2] at this
 exact this
end Go.Proofs.YtlapphhcficbjaaGreatDoor

namespace Go.Proofs.YtlapphhcficbjaaGreatDoor
set_option linter.unusedVariables false
set_option linter.unusedSimpArgs false
open Go.RowKit Go.Shelf Bits
theorem inB_iff {x a b : Int} : inB x a b = true ↔ a ≤ x ∧ x ≤ b := inB_true
theorem roomB_facts {rm : List Int} (h : roomB rm = true) : rm.length = 3 ∧ ∀ p, p < 3 → 4 ≤ rm.getD p 0 ∧ rm.getD p 0 ≤ 8 := by
 unfold roomB allInB at h
 rw [Bool.and_eq_true, List.all_eq_true] at h
 have h3 := of_decide_eq_true h.1
 refine ⟨h3, fun p hp => ?_⟩
 have := h.2 (rm.getD p 0) (by
  rw [List.getD_eq_getElem?_getD, List.getElem?_eq_getElem (by omega)]
  exact List.getElem_mem _)
 exact inB_true.1 this
theorem putS_len (now : Int) : ∀ (l : List Nat) (st : List Int), (putS now st l).length = st.length
 | [], _ => rfl
 | i :: l, st => by
  show (putS now (st.set i now) l).length = _
  rw [putS_len now l, List.length_set]
theorem putS_get (now : Int) : ∀ (l : List Nat) (st : List Int) (j : Nat), (∀ x ∈ l, x < st.length) → (putS now st l).getD j 0 = if j ∈ l then now else st.getD j 0
 | [], st, j, _ => by simp [putS]
 | i :: l, st, j, h => by
  show (putS now (st.set i now) l).getD j 0 = _
  rw [putS_get now l _ j (fun x hx => by rw [List.length_set]; exact h x (List.mem_cons_of_mem _ hx)), getD_setI _ _ _ _ (h i List.mem_cons_self)]
  by_cases hl : j ∈ l
  ·
   rw [if_pos hl, if_pos (List.mem_cons_of_mem _ hl)]
  ·
   rw [if_neg hl]
   by_cases hi : j = i
   ·
    subst hi
    rw [if_pos rfl, if_pos List.mem_cons_self]
   ·
    rw [if_neg hi, if_neg (fun h => by
     rcases List.mem_cons.1 h with e | e
     ·
      exact hi e
     ·
      exact hl e)]
theorem admN_in (g : List Tk) (rm : List Int) (wk : Int) (c : Ct) (l : List Nat) : ∀ i ∈ (admN g rm wk c l).2, i ∈ l := by
 have := admN_sub g rm wk c l l.length (Nat.le_refl _)
 rw [List.take_length] at this
 exact this
theorem nextS_in {g : List Tk} {rm : List Int} {wk : Int} {st : List Int} {now : Int} {x : Nat} (h : x ∈ nextS g rm wk st now) : x < g.length ∧ rdB g (ints (overS g st now)) x = true ∧ st.getD x 0 = 200 := by
 have h1 := insL_mem _ _ x (admN_in g rm wk _ _ x h)
 have h2 := List.mem_filter.1 h1
 have h3 := List.mem_filter.1 h2.1
 refine ⟨List.mem_range.1 h3.1, h3.2, ?_⟩
 have := h2.2
 unfold idleB at this
 exact beq_iff_eq.1 this
theorem stepS_get {g : List Tk} {rm : List Int} {wk : Int} {st : List Int} (hl : st.length = g.length) (k j : Nat) : (stepS g rm wk st k).getD j 0 = if j ∈ nextS g rm wk st k then (k : Int) else st.getD j 0 :=
 putS_get _ _ _ _ (fun x hx => by rw [hl]; exact nextS_lt g rm wk st k x hx)
theorem planL_before (g : List Tk) (rm : List Int) (wk : Int) : ∀ k, k ≤ 200 → ∀ j, j < g.length → (planL g rm wk k).getD j 0 = 200 ∨ (0 ≤ (planL g rm wk k).getD j 0 ∧ (planL g rm wk k).getD j 0 < k)
 | 0, _, j, hj => by
  left
  unfold planL
  rw [List.getD_eq_getElem?_getD, List.getElem?_replicate, if_pos hj]
  rfl
 | k + 1, hk, j, hj => by
  have ih := planL_before g rm wk k (by omega) j hj
  show (stepS g rm wk (planL g rm wk k) k).getD j 0 = 200 ∨ _
  rw [show planL g rm wk (k + 1) = stepS g rm wk (planL g rm wk k) k from rfl, stepS_get (planL_ok g rm wk k (by omega)).1]
  split
  ·
   right; omega
  ·
   rcases ih with h | h
   ·
    exact .inl h
   ·
    right; omega
theorem overB_iff {g : List Tk} {st : List Int} {now : Int} {i : Nat} : overB g st now i = true ↔ st.getD i 0 + (rdTk g i).f0 ≤ now := by
 unfold overB
 exact decide_eq_true_iff
theorem mem_overS {g : List Tk} {st : List Int} {now : Int} {i : Nat} : i ∈ overS g st now ↔ i < g.length ∧ st.getD i 0 + (rdTk g i).f0 ≤ now := by
 unfold overS
 rw [List.mem_filter, List.mem_range, overB_iff]
theorem mem_runS {g : List Tk} {st : List Int} {now : Int} {i : Nat} : i ∈ runS g st now ↔ i < g.length ∧ st.getD i 0 ≤ now ∧ now < st.getD i 0 + (rdTk g i).f0 := by
 unfold runS runB
 rw [List.mem_filter, List.mem_range, Bool.and_eq_true, decide_eq_true_iff, decide_eq_true_iff]
theorem idleB_iff {L : List Int} {j : Nat} : idleB L j = true ↔ L.getD j 0 = 200 := by
 unfold idleB
 exact beq_iff_eq
def workF (g : List Tk) (L : List Int) (k : Int) (i : Nat) : Int := if L.getD i 0 = 200 then 0 else min (rdTk g i).f0 (k - L.getD i 0)
def sumTo (f : Nat → Int) : Nat → Int
 | 0 => 0
 | n + 1 => sumTo f n + f n
theorem sumTo_le {f h : Nat → Int} : ∀ n, (∀ i, i < n → f i ≤ h i) → sumTo f n ≤ sumTo h n
 | 0, _ => Int.le_refl _
 | n + 1, hh => by
  have h1 := sumTo_le n (fun i hi => hh i (by omega))
  have h2 := hh n (by omega)
  unfold sumTo
  omega
theorem sumTo_lt {f h : Nat → Int} : ∀ n, (∀ i, i < n → f i ≤ h i) → (∃ i, i < n ∧ f i + 1 ≤ h i) → sumTo f n + 1 ≤ sumTo h n
 | 0, _, ⟨_, hi, _⟩ => by omega
 | n + 1, hh, ⟨i, hi, hc⟩ => by
  have h2 := hh n (by omega)
  unfold sumTo
  by_cases hin : i < n
  ·
   have h1 := sumTo_lt n (fun i hi => hh i (by omega)) ⟨i, hin, hc⟩
   omega
  ·
   have h1 := sumTo_le n (fun i hi => hh i (Nat.lt_succ_of_lt hi))
   obtain rfl : i = n := by omega
   omega
def timeS (g : List Tk) : Int := sumTo (fun i => (rdTk g i).f0) g.length
theorem sumTo_bound {f : Nat → Int} {a b : Int} : ∀ n, (∀ i, i < n → a ≤ f i ∧ f i ≤ b) → a * n ≤ sumTo f n ∧ sumTo f n ≤ b * n
 | 0, _ => by simp [sumTo]
 | n + 1, h => by
  have h1 := sumTo_bound n (fun i hi => h i (by omega))
  have h2 := h n (by omega)
  unfold sumTo
  rw [show ((n + 1 : Nat) : Int) = (n : Int) + 1 from by omega, Int.mul_add, Int.mul_add]
  omega
theorem timeS_bound {g : List Tk} (h : TOk g) : 0 ≤ timeS g ∧ timeS g ≤ 160 := by
 have := sumTo_bound (f := fun i => (rdTk g i).f0) (a := 0) (b := 20) g.length (fun i _ => h.2.1 i)
 have := h.1
 unfold timeS
 omega
theorem admFold_keeps (g : List Tk) (rm : List Int) (wk : Int) : ∀ (l : List Nat) (st : Ct × List Nat), ∀ x ∈ st.2, x ∈ (l.foldl (admStep g rm wk) st).2
 | [], _, x, h => h
 | i :: l, st, x, h => admFold_keeps g rm wk l (admStep g rm wk st i) x (by
  unfold admStep
  split
  ·
   exact List.mem_append_left _ h
  ·
   exact h)
theorem adm_first {g : List Tk} (hok : TOk g) {rm : List Int} (hrm : roomB rm = true) {wk : Int} (hwk : 1 ≤ wk) (x : Nat) (l : List Nat) : x ∈ (admN g rm wk (cnt g []) (x :: l)).2 := by
 have h2 := hok.2.2.1 x
 have h3 := hok.2.2.2.1 x
 have h4 := (roomB_facts hrm).2 (rdTk g x).f2.toNat (by omega)
 refine admFold_keeps g rm wk l _ x ?_
 unfold admStep
 have : (cnt g []).can (rdTk g x).f2.toNat (rdTk g x).f3 rm wk = true := by
  unfold Ct.can
  rw [Bool.and_eq_true, decide_eq_true_iff, decide_eq_true_iff]
  refine ⟨by show (([] : List Nat).length : Int) < wk; simp; omega, ?_⟩
  show usedS g [] ((rdTk g x).f2.toNat : Int) + (rdTk g x).f3 ≤ rm.getD (rdTk g x).f2.toNat 0
  rw [show usedS g [] ((rdTk g x).f2.toNat : Int) = 0 from rfl]
  omega
 rw [if_pos this]
 simp
theorem topL_len {g : List Tk} (hv : specValid g = true) : (topL g).length = g.length := by
 unfold specValid at hv
 rw [Bool.and_eq_true] at hv
 exact of_decide_eq_true hv.2
theorem some_ready {g : List Tk} (hv : specValid g = true) {D : List Nat} (hD : ∃ i, i < g.length ∧ ¬ i ∈ D) : ∃ i, i < g.length ∧ rdB g (ints D) i = true := by
 obtain ⟨i, hi, hn⟩ := hD
 have hin := top_all hv hi
 -- the first task of the order that is not done
 have key : ∀ m, m ≤ (topL g).length → (∀ p, p < m → (topL g).getD p 0 ∈ D) ∨ ∃ p, p < (topL g).length ∧ ¬ (topL g).getD p 0 ∈ D ∧ ∀ q, q < p → (topL g).getD q 0 ∈ D := by
  intro m
  induction m with
  | zero => exact fun _ => .inl fun p hp => absurd hp (Nat.not_lt_zero _)
  | succ m ih =>
   intro hm
   rcases ih (by omega) with h | h
   ·
    by_cases hc : (topL g).getD m 0 ∈ D
    ·
     left
     intro p hp
     by_cases hpm : p = m
     ·
      rw [hpm]; exact hc
     ·
      exact h p (by omega)
    ·
     exact .inr ⟨m, by omega, hc, h⟩
   ·
    exact .inr h
 rcases key _ (Nat.le_refl _) with h | ⟨p, hp, h1, h2⟩
 ·
  obtain ⟨p, hp, e⟩ := List.getElem_of_mem hin
  refine absurd ?_ hn
  have := h p hp
  rw [List.getD_eq_getElem?_getD, List.getElem?_eq_getElem hp] at this
  rw [← e]
  exact this
 ·
  have hmem : (topL g).getD p 0 ∈ topL g := by
   rw [List.getD_eq_getElem?_getD, List.getElem?_eq_getElem hp]
   exact List.getElem_mem _
  have hlt := (topN_facts g g.length).2.1 _ hmem
  refine ⟨(topL g).getD p 0, hlt, ?_⟩
  unfold rdB allDoneB
  rw [Bool.and_eq_true, Bool.not_eq_true', decide_eq_false_iff_not, mem_intsN, List.all_eq_true]
  refine ⟨h1, fun x hx => ?_⟩
  obtain ⟨ns, hg⟩ := Option.isSome_iff_exists.1 ((specValid_eq g).symm.trans hv)
  obtain ⟨hx0, _⟩ := setOfL_mem _ _ _ _ _ (by omega) ((graphN_all hg).2.2 _ hlt).2 x hx
  have hxe : x = ((x.toNat : Nat) : Int) := by omega
  rw [hxe] at hx ⊢
  have ht := topo_topN g g.length p hp x.toNat hx
  obtain ⟨q, hq, e⟩ := List.getElem_of_mem ht
  have hq2 : q < p := by simp at hq; omega
  have := h2 q hq2
  rw [List.getElem_take] at e
  rw [List.getD_eq_getElem?_getD, List.getElem?_eq_getElem (show q < (topL g).length by omega)] at this
  rw [decide_eq_true_iff, mem_intsN, ← e]
  exact this
theorem plan_moves {g : List Tk} (hv : specValid g = true) {rm : List Int} (hrm : roomB rm = true) {wk : Int} (hwk : 1 ≤ wk) {L : List Int} {k : Nat} (hk : k < 200) (hL : L.length = g.length) (hB : ∀ j, j < g.length → L.getD j 0 = 200 ∨ (0 ≤ L.getD j 0 ∧ L.getD j 0 < k)) (hn : ∃ i, i < g.length ∧ ¬ L.getD i 0 + (rdTk g i).f0 ≤ k) :
  ∃ i, i < g.length ∧ (stepS g rm wk L k).getD i 0 ≤ k ∧ (k : Int) < (stepS g rm wk L k).getD i 0 + (rdTk g i).f0 := by
 have hok := specValid_TOk hv
 by_cases hr : runS g L k = []
 ·
  obtain ⟨x, hx, hrd⟩ := some_ready hv (D := overS g L k) (by
   obtain ⟨i, hi, h⟩ := hn
   exact ⟨i, hi, fun hm => h (mem_overS.1 hm).2⟩)
  have hxi : L.getD x 0 = 200 := by
   rcases hB x hx with e | e
   ·
    exact e
   ·
    exfalso
    have hno : ¬ x ∈ overS g L k := by
     intro hm
     unfold rdB at hrd
     rw [Bool.and_eq_true, Bool.not_eq_true', decide_eq_false_iff_not, mem_intsN] at hrd
     exact hrd.1 hm
    have hm : x ∈ runS g L k := mem_runS.2 ⟨hx, by omega, by
     by_cases hc : L.getD x 0 + (rdTk g x).f0 ≤ k
     ·
      exact absurd (mem_overS.2 ⟨hx, hc⟩) hno
     ·
      omega⟩
    rw [hr] at hm
    cases hm
  have hmem : x ∈ insL (tailsS g) ((readyS g (ints (overS g L k))).filter (idleB L)) := (insL_perm _ _).mem_iff.2 (List.mem_filter.2 ⟨List.mem_filter.2 ⟨List.mem_range.2 hx, hrd⟩, idleB_iff.2 hxi⟩)
  obtain ⟨y, ys, hys⟩ := List.exists_cons_of_ne_nil (List.ne_nil_of_mem hmem)
  have hy : y ∈ nextS g rm wk L k := by
   unfold nextS
   rw [hys, hr]
   exact adm_first hok hrm hwk y ys
  have hyl := nextS_lt g rm wk L k y hy
  have ht := hok.2.2.2.2 y hyl
  refine ⟨y, hyl, ?_, ?_⟩
  ·
   rw [stepS_get hL, if_pos hy]
   omega
  ·
   rw [stepS_get hL, if_pos hy]
   omega
 ·
  obtain ⟨y, ys, hys⟩ := List.exists_cons_of_ne_nil hr
  obtain ⟨h1, h2, h3⟩ := mem_runS.1 (show y ∈ runS g L k by rw [hys]; exact List.mem_cons_self)
  have hny : ¬ y ∈ nextS g rm wk L k := fun hm => by
   have := (nextS_in hm).2.2
   omega
  exact ⟨y, h1, by rw [stepS_get hL, if_neg hny]; exact h2, by rw [stepS_get hL, if_neg hny]; exact h3⟩
theorem work_le {g : List Tk} (rm : List Int) (wk : Int) {L : List Int} {k : Nat} (hL : L.length = g.length) (hok : TOk g) (hk : k < 200) (i : Nat) (hi : i < g.length) : workF g L k i ≤ workF g (stepS g rm wk L k) (k + 1) i ∧ ((stepS g rm wk L k).getD i 0 ≤ k → (k : Int) < (stepS g rm wk L k).getD i 0 + (rdTk g i).f0 → workF g L k i + 1 ≤ workF g (stepS g rm wk L k) (k + 1) i) := by
 have ht := hok.2.2.2.2 i hi
 unfold workF
 by_cases hm : i ∈ nextS g rm wk L k
 ·
  have h1 := (nextS_in hm).2.2
  have h2 : (stepS g rm wk L k).getD i 0 = k := by rw [stepS_get hL, if_pos hm]
  rw [h2, if_pos h1, if_neg (by omega)]
  omega
 ·
  have h2 : (stepS g rm wk L k).getD i 0 = L.getD i 0 := by rw [stepS_get hL, if_neg hm]
  rw [h2]
  by_cases hc : L.getD i 0 = 200
  ·
   rw [if_pos hc, if_pos hc, hc]
   omega
  ·
   rw [if_neg hc, if_neg hc]
   omega
theorem plan_work {g : List Tk} (hv : specValid g = true) {rm : List Int} (hrm : roomB rm = true) {wk : Int} (hwk : 1 ≤ wk) : ∀ m, m ≤ 200 → (∀ k, k < m → ∃ i, i < g.length ∧ ¬ (planL g rm wk k).getD i 0 + (rdTk g i).f0 ≤ k) → (m : Int) ≤ sumTo (workF g (planL g rm wk m) m) g.length
 | 0, _, _ => by
  have := sumTo_bound (f := workF g (planL g rm wk 0) (0 : Nat)) (a := 0) (b := 0) g.length (fun i hi => by
   unfold workF
   rw [if_pos (by
    unfold planL
    rw [List.getD_eq_getElem?_getD, List.getElem?_replicate, if_pos hi]
    rfl)]
   omega)
  omega
 | m + 1, hm, h => by
  have ih := plan_work hv hrm hwk m (by omega) (fun k hk => h k (by omega))
  have hL := (planL_ok g rm wk m (by omega)).1
  have hok := specValid_TOk hv
  obtain ⟨i, hi, h1, h2⟩ := plan_moves hv hrm hwk (by omega) hL (planL_before g rm wk m (by omega)) (h m (by omega))
  have := sumTo_lt (f := workF g (planL g rm wk m) m) (h := workF g (planL g rm wk (m + 1)) (m + 1 : Nat)) g.length (fun j hj => (work_le rm wk hL hok (by omega) j hj).1) ⟨i, hi, (work_le rm wk hL hok (by omega) i hi).2 h1 h2⟩
  omega
theorem plan_ends {g : List Tk} (hv : specValid g = true) {rm : List Int} (hrm : roomB rm = true) {wk : Int} (hwk : 1 ≤ wk) : ∃ k : Nat, (k : Int) ≤ timeS g ∧ ∀ i, i < g.length → (planL g rm wk k).getD i 0 + (rdTk g i).f0 ≤ k := by
 have hok := specValid_TOk hv
 have hT := timeS_bound hok
 by_cases hc : ∃ k : Nat, (k : Int) ≤ timeS g ∧ ∀ i, i < g.length → (planL g rm wk k).getD i 0 + (rdTk g i).f0 ≤ k
 ·
  exact hc
 ·
  exfalso
  have h1 := plan_work hv hrm hwk ((timeS g).toNat + 1) (by omega) (fun k hk => by
   by_cases he : ∃ i, i < g.length ∧ ¬ (planL g rm wk k).getD i 0 + (rdTk g i).f0 ≤ k
   ·
    exact he
   ·
    exfalso
    refine hc ⟨k, by omega, fun i hi => ?_⟩
    by_cases hx : (planL g rm wk k).getD i 0 + (rdTk g i).f0 ≤ k
    ·
     exact hx
    ·
     exact absurd ⟨i, hi, hx⟩ he)
  have h2 : sumTo (workF g (planL g rm wk ((timeS g).toNat + 1)) ((timeS g).toNat + 1 : Nat)) g.length ≤ timeS g := sumTo_le _ (fun i _ => by
   unfold workF
   have := hok.2.1 i
   split <;> omega)
  omega
theorem plan_stands {g : List Tk} {rm : List Int} {wk : Int} {k : Nat} (h : ∀ i, i < g.length → (planL g rm wk k).getD i 0 ≠ 200) : ∀ d, planL g rm wk (k + d) = planL g rm wk k
 | 0 => rfl
 | d + 1 => by
  show stepS g rm wk (planL g rm wk (k + d)) _ = _
  rw [plan_stands h d]
  unfold stepS
  cases hn : nextS g rm wk (planL g rm wk k) (k + d : Nat) with
  | nil => rfl
  | cons x xs =>
   have hx : x ∈ nextS g rm wk (planL g rm wk k) (k + d : Nat) := by rw [hn]; exact List.mem_cons_self
   exact absurd (nextS_in hx).2.2 (h x (nextS_in hx).1)
theorem planS_ends {g : List Tk} (hv : specValid g = true) {rm : List Int} (hrm : roomB rm = true) {wk : Int} (hwk : 1 ≤ wk) : ∀ i, i < g.length → (planS g rm wk).getD i 0 + (rdTk g i).f0 ≤ timeS g := by
 have hok := specValid_TOk hv
 have hT := timeS_bound hok
 obtain ⟨k, hk, he⟩ := plan_ends hv hrm hwk
 have hn200 : ∀ i, i < g.length → (planL g rm wk k).getD i 0 ≠ 200 := fun i hi e => by
  have := he i hi
  have := hok.2.1 i
  omega
 intro i hi
 have := plan_stands hn200 (200 - k)
 rw [show k + (200 - k) = 200 by omega] at this
 unfold planS
 rw [this]
 have := he i hi
 omega
end Go.Proofs.YtlapphhcficbjaaGreatDoor

namespace Go.Proofs.YtlapphhcficbjaaGreatDoor
set_option linter.unusedVariables false
set_option linter.unusedSimpArgs false
open Go.RowKit Go.Shelf Bits
open Go.Proofs.YtlapphhcficbjaaGreatDoorW.PrintWords Go.Proofs.YtlapphhcficbjaaGreatDoorW.PrintLast Go.Proofs.YtlapphhcficbjaaGreatDoorW.PrintMore
def pS (g : List Tk) (rm : List Int) (wk : Int) : List Int := if specValid g && placeB rm wk then planS g rm wk else []
theorem placeB_facts {rm : List Int} {wk : Int} (h : placeB rm wk = true) : roomB rm = true ∧ 1 ≤ wk ∧ wk ≤ 4 := by
 unfold placeB at h
 rw [Bool.and_eq_true] at h
 exact ⟨h.1, inB_true.1 h.2⟩
theorem planS_ok (g : List Tk) (rm : List Int) (wk : Int) : StOk g.length (planS g rm wk) := planL_ok g rm wk 200 (Nat.le_refl _)
theorem StOk.sok {n : Nat} {st : List Int} (h : StOk n st) : SOk st := fun i => by have := h.2 i; omega
theorem R_nilJ (w : World) (base : Nat) : Kd.R (Kd.int .i64) 3 w base (fun _ => True) (.slice none 0 0) [] := Kd.R_of_own ⟨by simp [encs], .inl ⟨rfl, by simp [encs]⟩⟩ (fun _ _ => trivial)
theorem graphN_no {g : List Tk} (h : specValid g = false) : graphN g = none := by
 rw [specValid_eq] at h
 cases hg : graphN g with
 | none => rfl
 | some ns => rw [hg] at h; cases h
theorem graphN_yes {g : List Tk} (h : specValid g = true) : ∃ ns, graphN g = some ns := Option.isSome_iff_exists.1 ((specValid_eq g).symm.trans h)
set_option maxRecDepth 100000 in
theorem sPlanStarts_calls (A : Option Addr) (c : Nat) (g : List Tk) (A1 : Option Addr) (c1 : Nat) (rm : List Int) (wk : Int) (w : World) (hr : kTk.C w A g.length g) (hr1 : (Kd.int .i64).C w A1 rm.length rm) :
  Calls Tryz.prog 98 #[.slice A g.length c, .slice A1 rm.length c1, .int .i64 wk] w fun e W' => ∃ v, e = .returned v ∧ Kd.R (Kd.int .i64) 3 W' w.heap.size (fun _ => True) v (pS g rm wk) ∧ Below w.heap.size w W' := by
 have HV := fun b (h : specValid g = b) => validGraph_is b A c g (Lib.hid h) w hr
 have HR := Lib.hid hr
 have HR1 := Lib.hid hr1
 clear hr hr1
 cases h1 : specValid g with
 | false =>
  have HF : Hid (pS g rm wk = []) := Lib.hid (by unfold pS; rw [h1]; rfl)
  have HV := Lib.hid (HV _ h1)
  clear h1
  go_enter Tryz.func98, Tryz.ntmps98
  go_wp2_with (go_at_call 63; refine HV.out.mono ?_; rintro e w1 ⟨rfl, hB1⟩; have HB1 := Lib.hid hB1; clear hB1)
  go_ret
  exact ⟨_, rfl, by rw [HF.out]; exact R_nilJ _ _, HB1.out⟩
 | true =>
  have HVV := Lib.hid h1
  have HV := Lib.hid (HV _ h1)
  clear h1
  cases h2 : roomB rm with
  | false =>
   have HF : Hid (pS g rm wk = []) := Lib.hid (by unfold pS placeB; rw [h2, Bool.false_and, Bool.and_false]; rfl)
   have H2 := Lib.hid h2
   clear h2
   go_enter Tryz.func98, Tryz.ntmps98
   go_wp2_with (first | (go_at_call 63; refine HV.out.mono ?_; rintro e w1 ⟨rfl, hB1⟩; have HB1 := Lib.hid hB1; clear hB1) | (go_at_call 64; refine (validRoom_is _ _ _ _ H2 _ (Kd.C_below HR1.out HB1.out)).mono ?_; rintro e w' ⟨rfl, rfl⟩))
   go_ret
   exact ⟨_, rfl, by rw [HF.out]; exact R_nilJ _ _, HB1.out⟩
  | true =>
   have H2 := Lib.hid h2
   cases h3 : inB wk 1 4 with
   | false =>
    have HF : Hid (pS g rm wk = []) := Lib.hid (by unfold pS placeB; rw [h3, Bool.and_false, Bool.and_false]; rfl)
    have H3 := Lib.hid h3
    clear h2 h3
    go_enter Tryz.func98, Tryz.ntmps98
    go_wp2_with (first | (go_at_call 63; refine HV.out.mono ?_; rintro e w1 ⟨rfl, hB1⟩; have HB1 := Lib.hid hB1; clear hB1) | (go_at_call 64; refine (validRoom_is _ _ _ _ H2 _ (Kd.C_below HR1.out HB1.out)).mono ?_; rintro e w' ⟨rfl, rfl⟩) | (go_at_call 65; refine (inRange_is _ _ _ _ H3 _).mono ?_; rintro e w' ⟨rfl, rfl⟩))
    go_ret
    exact ⟨_, rfl, by rw [HF.out]; exact R_nilJ _ _, HB1.out⟩
   | true =>
    have HF : Hid (pS g rm wk = planS g rm wk) := Lib.hid (by unfold pS placeB; rw [h2, h3, HVV.out]; rfl)
    have H3 := Lib.hid h3
    have HK := Lib.hid (fun (W : World) hr hr1 => plan_calls A c g A1 c1 rm wk HVV.out (roomB_facts h2).1 W hr hr1)
    clear h2 h3
    go_enter Tryz.func98, Tryz.ntmps98
    go_wp2_with (first | (go_at_call 63; refine HV.out.mono ?_; rintro e w1 ⟨rfl, hB1⟩; have HB1 := Lib.hid hB1; clear hB1) | (go_at_call 64; refine (validRoom_is _ _ _ _ H2 _ (Kd.C_below HR1.out HB1.out)).mono ?_; rintro e w' ⟨rfl, rfl⟩) | (go_at_call 65; refine (inRange_is _ _ _ _ H3 _).mono ?_; rintro e w' ⟨rfl, rfl⟩) | (go_at_call 125; refine (HK.out _ (Kd.C_below HR.out HB1.out) (Kd.C_below HR1.out HB1.out)).mono ?_; rintro e w3 ⟨v, rfl, hR, hB3⟩))
    go_ret
    have hz := HB1.out.size
    exact ⟨_, rfl, by rw [HF.out]; exact Kd.R_lower hR hz, HB1.out.trans (hB3.mono hz)⟩
def firstN (P : Nat → Bool) : Nat → Nat → Int
 | 0, _ => -1
 | f + 1, n => if P n then n else firstN P f (n + 1)
def meetsB (g : List Tk) (rm : List Int) (dl : Int) (n : Nat) : Bool := decide (endS g (planS g rm n) g.length ≤ dl)
def wfS (g : List Tk) (rm : List Int) (dl : Int) : Int := if specValid g && (roomB rm && inB dl 0 200) then firstN (meetsB g rm dl) 4 1 else -1
end Go.Proofs.YtlapphhcficbjaaGreatDoor

namespace Go.Proofs.YtlapphhcficbjaaGreatDoor
set_option linter.unusedVariables false
set_option linter.unusedSimpArgs false
open Go.RowKit Go.Shelf Bits
open Go.Proofs.YtlapphhcficbjaaGreatDoorW.PrintWords Go.Proofs.YtlapphhcficbjaaGreatDoorW.PrintLast Go.Proofs.YtlapphhcficbjaaGreatDoorW.PrintMore
attribute [local go_sem] Oper.semAt_some
set_option maxRecDepth 100000 in
set_option maxHeartbeats 2000000 in
theorem iend_calls (C : Nat) (g : List Tk) (ns : List Nat) (A' : Option Addr) (c' : Nat) (st : List Int) (hg : TOk g) (hs : SOk st) (hl : st.length = g.length) (w : World) (hG : IsGraph w C g ns) (hr' : (Kd.int .i64).C w A' st.length st) :
  Calls Tryz.prog 27 #[.pointer (some ⟨C, 0, none⟩), .slice A' st.length c'] w fun e w' => e = .returned (.int .i64 (endS g st g.length)) ∧ w' = w := by
 obtain ⟨Ag, cg, An, cn, Ao, co, vb, va, h1, h2, _, _⟩ := hG
 have cC := blk_cell h1 0
 simp at cC
 have HR := Lib.hid h2
 have HR' := Lib.hid hr'
 have HG := Lib.hid hg
 have HS := Lib.hid hs
 have HL := Lib.hid hl
 have h8 := hg.1
 have hl8 : st.length ≤ 8 := by omega
 clear h1 h2 hr' hg hs hl
 go_enter Tryz.func27, Tryz.ntmps27
 go_wp2
 go_loop [5, 10] (fun n i => ∃ (j : Nat), j ≤ st.length ∧ i = .int .i64 j ∧ n = .int .i64 (endS g st j)) (fun _ i => st.length - (intOf i).toNat)
 case atStart => exact ⟨0, Nat.zero_le _, rfl, rfl⟩
 case round =>
  obtain ⟨j, hj, rfl, rfl⟩ := hrel
  by_cases hjl : j < st.length
  ·
   have hjg : j < g.length := by have := HL.out; omega
   obtain ⟨ad, A1, c1, rfl, hc0, _⟩ := at_Tk HR.out j hjg
   obtain ⟨ads, rfl, cs⟩ := at_num HR'.out j hjl
   have hjj : decide ((j : Int) < (st.length : Int)) = true := decide_eq_true (by omega)
   have hji : (j : Int) < (g.length : Int) := by omega
   have hjsi : (j : Int) < (st.length : Int) := by omega
   have HE : Hid (endS g st (j + 1) = max (endS g st j) (st.getD j 0 + (rdTk g j).f0)) := Lib.hid rfl
   have hsj := HS.out j
   have htj := HG.out.2.1 j
   have heb := endS_bound HG.out HS.out j
   generalize st.getD j 0 = s at cs hsj HE
   generalize (rdTk g j).f0 = tm at hc0 htj HE
   generalize endS g st j = en at heb HE
   have hwr : IntKind.i64.wrap (s + tm) = s + tm := IntWalk.i64_in _ (by omega)
   go_wp2
   clear hwr
   all_goals
    go_round
    case rel => exact ⟨j + 1, by omega, by go_num, by rw [HE.out]; congr 1; first | omega | (split <;> omega)⟩
    case measure => simp [intOf]; omega
  ·
   obtain rfl : j = st.length := by omega
   have HE : Hid (endS g st g.length = endS g st st.length) := Lib.hid (by rw [HL.out])
   have hjj : decide ((st.length : Int) < (st.length : Int)) = false := decide_eq_false (by omega)
   go_wp2
   go_ret
   exact ⟨ret_int HE.out.symm, rfl⟩
def longL (T : List Int) : Nat → Int
 | 0 => 0
 | k + 1 => max (longL T k) (T.getD k 0)
set_option maxRecDepth 100000 in
theorem longest_calls (A : Option Addr) (c : Nat) (T : List Int) (hl : T.length ≤ 100) (w : World) (hr : (Kd.int .i64).C w A T.length T) :
  Calls Tryz.prog 38 #[.slice A T.length c] w fun e w' => e = .returned (.int .i64 (longL T T.length)) ∧ w' = w := by
 have HR := Lib.hid hr
 clear hr
 go_enter Tryz.func38, Tryz.ntmps38
 go_wp2
 go_loop [3, 8] (fun n i => ∃ (j : Nat), j ≤ T.length ∧ i = .int .i64 j ∧ n = .int .i64 (longL T j)) (fun _ i => T.length - (intOf i).toNat)
 case atStart => exact ⟨0, Nat.zero_le _, rfl, rfl⟩
 case round =>
  obtain ⟨j, hj, rfl, rfl⟩ := hrel
  by_cases hjl : j < T.length
  ·
   obtain ⟨ads, rfl, cs⟩ := at_num HR.out j hjl
   have hjj : decide ((j : Int) < (T.length : Int)) = true := decide_eq_true (by omega)
   have hji : (j : Int) < (T.length : Int) := by omega
   have HE : Hid (longL T (j + 1) = max (longL T j) (T.getD j 0)) := Lib.hid rfl
   generalize T.getD j 0 = s at cs HE
   generalize longL T j = en at HE
   go_wp2
   all_goals
    go_round
    case rel => exact ⟨j + 1, by omega, by go_num, by rw [HE.out]; congr 1; first | omega | (split <;> omega)⟩
    case measure => simp [intOf]; omega
  ·
   obtain rfl : j = T.length := by omega
   have hjj : decide ((T.length : Int) < (T.length : Int)) = false := decide_eq_false (by omega)
   go_wp2
   go_ret
   exact ⟨rfl, rfl⟩
def longestN (g : List Tk) : Int := match graphN g with
 | some ns => longL (tailN g ns) g.length
 | none => -1
end Go.Proofs.YtlapphhcficbjaaGreatDoor
