/- The plain law of FnMostTogether: what the machine counts is what the reference sums. No program in sight. -/
import Derived.Test.YtpmfghbjkampkaaDoorLaw3
import Derived.Test.YtpmfghbjkampkaaDoorMost
namespace Go.Proofs.YtpmfghbjkampkaaDoor
set_option linter.unusedVariables false
set_option linter.unusedSimpArgs false
open Go.RowKit Go.Shelf Bits
def sumN (log : List Ev) : Nat → Int
 | 0 => 0
 | k + 1 => sumN log k + 1 - 2 * (if (rdEv log k).f2 = true then 1 else 0)
def mostN (log : List Ev) : Nat → Int
 | 0 => 0
 | k + 1 => if lastOf log k then max (mostN log k) (sumN log (k + 1)) else mostN log k
theorem sumN_bound (log : List Ev) : ∀ k : Nat, -(k : Int) ≤ sumN log k ∧ sumN log k ≤ k
 | 0 => ⟨by show (0 : Int) ≥ _; omega, by show (0 : Int) ≤ _; omega⟩
 | k + 1 => by
  have := sumN_bound log k
  unfold sumN
  split <;> omega
theorem elems_cnt (s : Nat) : (elems s).length = cnt 16 s := by
 unfold elems
 have h : ∀ n, ((List.range n).filter s.testBit).length = cnt n s := by
  intro n
  induction n with
  | zero => rfl
  | succ n ih =>
   rw [List.range_succ, List.filter_append, List.length_append, ih]
   have h1 : ([n].filter s.testBit).length = if s.testBit n = true then 1 else 0 := by
    cases hb : s.testBit n with
    | true => rw [List.filter_cons_of_pos hb]; rfl
    | false => rw [List.filter_cons_of_neg (by rw [hb]; simp)]; rfl
   rw [h1]
   rfl
 exact h 16
theorem cnt_least {s m : Nat} (h : ∀ i, s.testBit i = true → i < m) : ∀ n, cnt n s ≤ m
 | 0 => Nat.zero_le _
 | n + 1 => by
  have ih := cnt_least h n
  have hn : cnt n s ≤ n := by
   clear ih
   induction n with
   | zero => exact Nat.le_refl _
   | succ n ih => unfold cnt; split <;> omega
  unfold cnt
  split
  ·
   rename_i hb
   have := h n hb
   omega
  ·
   omega
structure Kept (g : List Tk) (log : List Ev) (k : Nat) (M : Mach) (most : Int) : Prop where
 sub : ∀ i, M.o.testBit i = true → M.b.testBit i = true
 lt : ∀ i, M.b.testBit i = true → i < g.length
 run : running M = sumN log k
 mst : most = mostN log k
 le : most ≤ g.length
 ge : 0 ≤ most
theorem run_le {g : List Tk} {M : Mach} (h : ∀ i, M.b.testBit i = true → i < g.length) : running M ≤ g.length := by
 unfold running
 rw [elems_cnt]
 have := cnt_least (s := diff M.b M.o) (m := g.length) (fun i hi => h i (by rw [diff_bit, Bool.and_eq_true] at hi; exact hi.1)) 16
 omega
theorem Kept.step {g : List Tk} {ns : List Nat} {log : List Ev} {k : Nat} {M M' : Mach} {most : Int} (hg8 : g.length ≤ 8) (h : Kept g log k M most) (hs : stepM g ns M (rdEv log k) = some M') :
  Kept g log (k + 1) M' (if lastOf log k then max most (running M') else most) := by
 obtain ⟨hin, hst⟩ := stepM_some hs
 obtain ⟨_, hi, hlt⟩ := evIn_num hin
 generalize he : rdEv log k = e at *
 have key : (∀ i, M'.o.testBit i = true → M'.b.testBit i = true) ∧ (∀ i, M'.b.testBit i = true → i < g.length) ∧ running M' = sumN log (k + 1) := by
  rcases hst with ⟨h2, hm, rfl⟩ | ⟨h2, hm, rfl⟩
  ·
   unfold mayBegin at hm
   simp only [Bool.and_eq_true, Bool.not_eq_true'] at hm
   have ho : M.o.testBit e.i = false := by
    cases hx : M.o.testBit e.i with
    | false => rfl
    | true => rw [h.sub _ hx] at hm; exact absurd hm.1 (by simp)
   refine ⟨fun i hx => ?_, fun i hx => ?_, ?_⟩
   ·
    show (M.b ||| 2 ^ e.i).testBit i = true
    rw [or_bit, h.sub i hx]; rfl
   ·
    have hx : (M.b ||| 2 ^ e.i).testBit i = true := hx
    rw [or_bit, Bool.or_eq_true, decide_eq_true_eq] at hx
    rcases hx with hx | rfl
    ·
     exact h.lt i hx
    ·
     exact hlt
   ·
    have hd : diff (M.b ||| 2 ^ e.i) M.o = diff M.b M.o ||| 2 ^ e.i := by
     apply Nat.eq_of_testBit_eq
     intro j
     rw [diff_bit, or_bit, or_bit, diff_bit]
     by_cases hj : e.i = j
     ·
      subst hj; rw [ho]; simp
     ·
      simp [hj]
    have hr := h.run
    unfold running at hr ⊢
    show (((elems (diff (M.b ||| 2 ^ e.i) M.o)).length : Nat) : Int) = _
    rw [hd, elems_cnt, cnt_step (by rw [diff_bit, hm.1]; rfl) 16 (by omega)]
    rw [elems_cnt] at hr
    unfold sumN
    rw [he, h2, ← hr]
    simp only [Bool.false_eq_true, if_false]
    omega
  ·
   unfold mayEnd at hm
   simp only [Bool.and_eq_true, Bool.not_eq_true'] at hm
   refine ⟨fun i hx => ?_, fun i hx => h.lt i hx, ?_⟩
   ·
    have hx : (M.o ||| 2 ^ e.i).testBit i = true := hx
    rw [or_bit, Bool.or_eq_true, decide_eq_true_eq] at hx
    rcases hx with hx | rfl
    ·
     exact h.sub i hx
    ·
     exact hm.1.1
   ·
    have hd : diff M.b M.o = diff M.b (M.o ||| 2 ^ e.i) ||| 2 ^ e.i := by
     apply Nat.eq_of_testBit_eq
     intro j
     rw [diff_bit, or_bit, diff_bit, or_bit]
     by_cases hj : e.i = j
     ·
      subst hj; rw [hm.1.1, hm.1.2]; simp
     ·
      simp [hj]
    have hr := h.run
    unfold running at hr ⊢
    show (((elems (diff M.b (M.o ||| 2 ^ e.i))).length : Nat) : Int) = _
    rw [hd, elems_cnt, cnt_step (by rw [diff_bit, or_bit]; simp) 16 (by omega)] at hr
    rw [elems_cnt]
    unfold sumN
    rw [he, h2, ← hr]
    simp only [if_true]
    omega
 obtain ⟨k1, k2, k3⟩ := key
 have hle := run_le k2
 refine ⟨k1, k2, k3, ?_, ?_, ?_⟩
 ·
  unfold mostN
  rw [h.mst, k3]
 ·
  have := h.le
  split
  ·
   exact Int.max_le.2 ⟨this, hle⟩
  ·
   exact this
 ·
  have := h.ge
  split
  ·
   exact Int.le_trans this (Int.le_max_left _ _)
  ·
   exact this
theorem replay_kept {g : List Tk} {ns : List Nat} {log : List Ev} (hg8 : g.length ≤ 8) : ∀ (k : Nat) (p : Mach × Int), replayN g ns log k = some p → Kept g log k p.1 p.2
 | 0, p, h => by
  obtain rfl : (Mach.zero, (0 : Int)) = p := Option.some.inj h
  exact ⟨fun i hi => by simp [Mach.zero] at hi, fun i hi => by simp [Mach.zero] at hi, by unfold running; rw [elems_cnt]; simp [Mach.zero, diff, cnt_zero, sumN], rfl, by show (0 : Int) ≤ _; omega, Int.le_refl _⟩
 | k + 1, p, h => by
  unfold replayN at h
  obtain ⟨q, hq, h⟩ := Option.bind_eq_some_iff.1 h
  split at h
  ·
   cases h
  ·
   obtain ⟨M', hM, rfl⟩ := Option.map_eq_some_iff.1 h
   exact (replay_kept hg8 k q hq).step hg8 hM
structure Early (g : List Tk) (log : List Ev) (k : Nat) (M : Mach) : Prop where
 sum : sumN log k = k
 at_ : ∀ j, j < k → (rdEv log j).f0 = (rdEv log 0).f0
 bg : ∀ i, M.b.testBit i = true → 0 < k ∧ M.bg i = (rdEv log 0).f0
 last : ∀ j, j < k → lastOf log j = false
theorem most_mono {log : List Ev} {k : Nat} (h : 1 ≤ mostN log k) : 1 ≤ mostN log (k + 1) := by
 unfold mostN
 split
 ·
  exact Int.le_trans h (Int.le_max_left _ _)
 ·
  exact h
theorem replay_early {g : List Tk} {ns : List Nat} {log : List Ev} (hgt : ∀ i, i < g.length → 1 ≤ (rdTk g i).f0) : ∀ (k : Nat) (p : Mach × Int), k ≤ log.length → replayN g ns log k = some p → 1 ≤ mostN log k ∨ Early g log k p.1
 | 0, p, _, h => by
  obtain rfl : (Mach.zero, (0 : Int)) = p := Option.some.inj h
  exact Or.inr ⟨rfl, fun j hj => by omega, fun i hi => by simp [Mach.zero] at hi, fun j hj => by omega⟩
 | k + 1, p, hk, h => by
  unfold replayN at h
  obtain ⟨q, hq, h⟩ := Option.bind_eq_some_iff.1 h
  split at h
  ·
   cases h
  ·
   rename_i hord
   obtain ⟨M', hM, rfl⟩ := Option.map_eq_some_iff.1 h
   rcases replay_early hgt k q (by omega) hq with h1 | h1
   ·
    exact Or.inl (most_mono h1)
   ·
    obtain ⟨hin, hst⟩ := stepM_some hM
    obtain ⟨_, hi, hlt⟩ := evIn_num hin
    have hat : (rdEv log k).f0 = (rdEv log 0).f0 := by
     rcases Nat.eq_zero_or_pos k with rfl | hp
     ·
      rfl
     ·
      have hl := h1.last (k - 1) (by omega)
      have ha := h1.at_ (k - 1) (by omega)
      unfold lastOf at hl
      unfold inOrder at hord
      rw [show k - 1 + 1 = k by omega] at hl
      simp only [Bool.or_eq_false_iff, decide_eq_false_iff_not, Bool.not_eq_false, Bool.not_eq_true', Bool.and_eq_false_iff] at hl hord
      omega
    rcases hst with ⟨h2, hm, rfl⟩ | ⟨h2, hm, rfl⟩
    ·
     have hsum : sumN log (k + 1) = (k : Int) + 1 := by
      unfold sumN
      rw [h1.sum, h2]
      simp
     by_cases hlast : lastOf log k = true
     ·
      left
      unfold mostN
      rw [if_pos hlast, hsum]
      have := Int.le_max_right (mostN log k) ((k : Int) + 1)
      omega
     ·
      right
      refine ⟨by rw [hsum]; rfl, fun j hj => ?_, fun i hx => ⟨Nat.succ_pos _, ?_⟩, fun j hj => ?_⟩
      ·
       rcases Nat.lt_succ_iff_lt_or_eq.1 hj with hj | rfl
       ·
        exact h1.at_ j hj
       ·
        exact hat
      ·
       show (if i = (rdEv log k).i then (rdEv log k).f0 else q.1.bg i) = _
       split
       ·
        exact hat
       ·
        rename_i hne
        have hx : (q.1.b ||| 2 ^ (rdEv log k).i).testBit i = true := hx
        rw [or_bit, Bool.or_eq_true, decide_eq_true_eq] at hx
        rcases hx with hx | hx
        ·
         exact (h1.bg i hx).2
        ·
         exact absurd hx.symm hne
      ·
       rcases Nat.lt_succ_iff_lt_or_eq.1 hj with hj | rfl
       ·
        exact h1.last j hj
       ·
        simpa using hlast
    ·
     exfalso
     unfold mayEnd at hm
     simp only [Bool.and_eq_true, Bool.not_eq_true', decide_eq_true_eq] at hm
     have := (h1.bg _ hm.1.1).2
     have := hgt _ hlt
     omega
theorem most_pos {g : List Tk} {ns : List Nat} {log : List Ev} (hgt : ∀ i, i < g.length → 1 ≤ (rdTk g i).f0) (p : Mach × Int) (h : replayN g ns log log.length = some p) (hn : 0 < log.length) : 1 ≤ mostN log log.length := by
 rcases replay_early hgt log.length p (Nat.le_refl _) h with h1 | h1
 ·
  exact h1
 ·
  have := h1.last (log.length - 1) (by omega)
  unfold lastOf at this
  simp only [Bool.or_eq_false_iff, decide_eq_false_iff_not] at this
  omega
end Go.Proofs.YtpmfghbjkampkaaDoor
