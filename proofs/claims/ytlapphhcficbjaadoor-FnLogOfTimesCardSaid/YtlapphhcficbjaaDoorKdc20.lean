/- Parts of the proof, laid as one text by a program of mine. -/
import Derived.Test.YtlapphhcficbjaaDoorKdc13
import Derived.Test.YtlapphhcficbjaaDoorKdc19
import Derived.Deep.RegionHeld3
import Derived.Deep.RegionWith
import Derived.Test.YtlapphhcficbjaaDoorKdc15
import Derived.Test.YtlapphhcficbjaaDoorKdc12
import Derived.Test.YtlapphhcficbjaaDoorKdc11
namespace Go.Proofs.YtlapphhcficbjaaDoor
set_option linter.unusedVariables false
set_option linter.unusedSimpArgs false
open Go.RowKit Go.Shelf Bits
theorem begunL_is {t v : Int} : ∀ (l : List Ev) (b : Int), (∀ e ∈ l, e.f2 = false → e.f1 = t → e.f0 = v) → begunL t l b = if (∃ e ∈ l, e.f2 = false ∧ e.f1 = t) then v else b
 | [], b, _ => by simp [begunL]
 | e :: r, b, h => by
  have ih := begunL_is (t := t) (v := v) r (if e.f2 then b else if e.f1 = t then e.f0 else b) (fun x hx => h x (List.mem_cons_of_mem _ hx))
  unfold begunL
  rw [ih]
  by_cases h1 : ∃ x ∈ r, x.f2 = false ∧ x.f1 = t
  ·
   rw [if_pos h1, if_pos]
   obtain ⟨x, hx, h2⟩ := h1
   exact ⟨x, List.mem_cons_of_mem _ hx, h2⟩
  ·
   rw [if_neg h1]
   by_cases h2 : e.f2 = false ∧ e.f1 = t
   ·
    have hex : ∃ x ∈ e :: r, x.f2 = false ∧ x.f1 = t := ⟨e, List.mem_cons_self, h2⟩
    rw [if_neg (show ¬ e.f2 = true by rw [h2.1]; simp), if_pos h2.2, if_pos hex]
    exact h e List.mem_cons_self h2.1 h2.2
   ·
    have hno : ¬ ∃ x ∈ e :: r, x.f2 = false ∧ x.f1 = t := by
     rintro ⟨x, hx, h4⟩
     rcases List.mem_cons.1 hx with rfl | hx
     ·
      exact h2 h4
     ·
      exact h1 ⟨x, hx, h4⟩
    by_cases h3 : e.f2 = true
    ·
     rw [if_pos h3, if_neg hno]
    ·
     rw [if_neg h3, if_neg (fun h4 => h2 ⟨by simpa using h3, h4⟩), if_neg hno]
theorem mem_overL {l : List Ev} {t : Int} : t ∈ overL l ↔ ∃ e ∈ l, e.f2 = true ∧ e.f1 = t := by
 unfold overL
 rw [List.mem_map]
 constructor
 ·
  rintro ⟨e, h1, h2⟩
  obtain ⟨h3, h4⟩ := List.mem_filter.1 h1
  exact ⟨e, h3, h4, h2⟩
 ·
  rintro ⟨e, h1, h2, h3⟩
  exact ⟨e, List.mem_filter.2 ⟨h1, h2⟩, h3⟩
theorem chg_begin {g : List Tk} {st : List Int} {e : Ev} (h : e ∈ chgS g st) (h2 : e.f2 = false) {i : Nat} (hi : e.f1 = i) : e = chB st i := by
 obtain ⟨j, hj, rfl | rfl⟩ := mem_chgS.1 h
 ·
  have : (j : Int) = i := hi
  obtain rfl : j = i := by omega
  rfl
 ·
  cases h2
theorem chg_over {g : List Tk} {st : List Int} {e : Ev} (h : e ∈ chgS g st) (h2 : e.f2 = true) {i : Nat} (hi : e.f1 = i) : e = chO g st i := by
 obtain ⟨j, hj, rfl | rfl⟩ := mem_chgS.1 h
 ·
  cases h2
 ·
  have : (j : Int) = i := hi
  obtain rfl : j = i := by omega
  rfl
theorem mem_ahead {g : List Tk} {st : List Int} {k : Nat} (hk : k < (chgS g st).length) {x : Ev} : x ∈ (chgS g st).take k ↔ x ∈ chgS g st ∧ ltE x (rdEv (chgS g st) k) := by
 rw [← ahead_of (rdEv_of hk) (chgS_sorted g st) (chgS_nodup g st), List.mem_filter]
 unfold ltEB
 rw [decide_eq_true_iff]
theorem rdEv_get {l : List Ev} {q : Nat} (hq : q < l.length) : rdEv l q = l[q] := by
 unfold rdEv
 rw [List.getD_eq_getElem?_getD, List.getElem?_eq_getElem hq]
 rfl
theorem rdEv_mem {l : List Ev} {q : Nat} (hq : q < l.length) : rdEv l q ∈ l := by
 rw [rdEv_get hq]
 exact List.getElem_mem hq
theorem lt_OO {g : List Tk} {st : List Int} {i k : Nat} : ltE (chB st i) (chO g st i) ↔ 1 ≤ (rdTk g i).f0 := by
 unfold ltE chB chO
 constructor
 ·
  rintro (h | ⟨h, ⟨h1, h2⟩ | ⟨h1, h2⟩⟩)
  ·
   have h : st.getD i 0 < st.getD i 0 + (rdTk g i).f0 := h
   omega
  ·
   cases h1
  ·
   cases h1
 ·
  intro h
  refine .inl ?_
  show st.getD i 0 < st.getD i 0 + (rdTk g i).f0
  omega
theorem log_fits {g : List Tk} {rm : List Int} {wk : Int} {st : List Int} (h : Valid g rm wk st) {k : Nat} (hk : k < (chgS g st).length) : eventFitsB g (chgS g st) k = true := by
 unfold eventFitsB
 have hmem := rdEv_mem hk
 have hpre : ∀ x ∈ (chgS g st).take k, x ∈ chgS g st := fun x hx => List.mem_of_mem_take hx
 obtain ⟨i, hi, he⟩ := mem_chgS.1 hmem
 have hb : ∀ b, begunL (i : Int) ((chgS g st).take k) b = if (∃ e ∈ (chgS g st).take k, e.f2 = false ∧ e.f1 = (i : Int)) then st.getD i 0 else b := fun b => begunL_is _ b (fun e hm h2 h1 => by
  rw [chg_begin (hpre e hm) h2 h1]
  rfl)
 have hin : (chB st i ∈ (chgS g st).take k) ↔ (∃ e ∈ (chgS g st).take k, e.f2 = false ∧ e.f1 = (i : Int)) := by
  constructor
  ·
   intro hc
   exact ⟨_, hc, rfl, rfl⟩
  ·
   rintro ⟨e, hm, h2, h1⟩
   rw [← chg_begin (hpre e hm) h2 h1]
   exact hm
 rcases he with he | he
 ·
  have hno : ¬ chB st i ∈ (chgS g st).take k := fun hc => by
   have := (mem_ahead hk).1 hc
   rw [he] at this
   exact ltE_irrefl _ this.2
  rw [hin] at hno
  rw [he]
  unfold evFit
  have e0 : (chB st i).f2 = false := rfl
  have e1 : (chB st i).f1 = (i : Int) := rfl
  rw [e0, e1, hb, if_neg hno, Int.toNat_natCast, if_neg (by simp)]
  rw [Bool.and_eq_true]
  refine ⟨rfl, ?_⟩
  unfold allDoneB
  rw [List.all_eq_true]
  intro x hx
  apply decide_eq_true
  have hx0 := spec_needs_in h.v i hi x hx
  obtain ⟨q, hq⟩ : ∃ q : Nat, x = q := ⟨x.toNat, by omega⟩
  subst hq
  rw [mem_overL]
  refine ⟨chO g st q, (mem_ahead hk).2 ⟨mem_chgS.2 ⟨q, by omega, .inr rfl⟩, ?_⟩, rfl, rfl⟩
  rw [he]
  exact lt_OB.2 (h.needs i hi q hx)
 ·
  have hyes : chB st i ∈ (chgS g st).take k := (mem_ahead hk).2 ⟨mem_chgS.2 ⟨i, hi, .inl rfl⟩, by rw [he]; exact (lt_OO (k := i)).2 (h.ok.2.2.2.2 i hi).1⟩
  rw [hin] at hyes
  have hnov : ¬ (i : Int) ∈ overL ((chgS g st).take k) := fun hc => by
   obtain ⟨e, hm, h2, h1⟩ := mem_overL.1 hc
   have h3 := (mem_ahead hk).1 hm
   rw [chg_over h3.1 h2 h1, he] at h3
   exact ltE_irrefl _ h3.2
  rw [he]
  unfold evFit
  have e0 : (chO g st i).f2 = true := rfl
  have e1 : (chO g st i).f1 = (i : Int) := rfl
  have e2 : (chO g st i).f0 = st.getD i 0 + (rdTk g i).f0 := rfl
  rw [e0, e1, hb, if_pos hyes, Int.toNat_natCast, if_pos rfl, e2]
  rw [Bool.and_eq_true, Bool.and_eq_true]
  exact ⟨decide_eq_true (h.b i hi).1, by rw [decide_eq_false hnov]; rfl, decide_eq_true rfl⟩
theorem chg_order (g : List Tk) (st : List Int) {k : Nat} (hk : k < (chgS g st).length) (h0 : 0 < k) : (rdEv (chgS g st) (k - 1)).f0 ≤ (rdEv (chgS g st) k).f0 := by
 rw [rdEv_get hk, rdEv_get (show k - 1 < (chgS g st).length by omega)]
 have := List.pairwise_iff_getElem.1 (chgS_strict g st) (k - 1) k (by omega) hk (by omega)
 rcases this with h | ⟨h, _⟩ <;> omega
theorem log_valid {g : List Tk} {rm : List Int} {wk : Int} {st : List Int} (h : Valid g rm wk st) (he : ∀ i, i < g.length → st.getD i 0 + (rdTk g i).f0 ≤ 200) : validLogB g (chgS g st) = true := by
 unfold validLogB
 have h8 := h.ok.1
 rw [h.v, decide_eq_true (show (chgS g st).length ≤ 16 by rw [chgS_len]; omega), Bool.true_and, Bool.true_and, List.all_eq_true]
 intro k hk
 have hk := List.mem_range.1 hk
 unfold eventOkB
 rw [log_fits h hk, Bool.and_true]
 obtain ⟨i, hi, hx⟩ := mem_chgS.1 (rdEv_mem hk)
 have hb := h.b i hi
 have ht := (h.ok.2.2.2.2 i hi).1
 have hei := he i hi
 have hord : (!(decide (0 < k) && decide ((rdEv (chgS g st) k).f0 < (rdEv (chgS g st) (k - 1)).f0))) = true := by
  by_cases h0 : 0 < k
  ·
   have := chg_order g st hk h0
   rw [decide_eq_false (show ¬ (rdEv (chgS g st) k).f0 < (rdEv (chgS g st) (k - 1)).f0 by omega), Bool.and_false]
   rfl
  ·
   rw [decide_eq_false h0]
   rfl
 rw [hord, Bool.and_true, Bool.and_eq_true]
 have e1 : (rdEv (chgS g st) k).f1 = (i : Int) := by rcases hx with hx | hx <;> rw [hx] <;> rfl
 refine ⟨inB_true.2 ?_, inB_true.2 (by rw [e1]; omega)⟩
 rcases hx with hx | hx <;> rw [hx]
 ·
  show 0 ≤ st.getD i 0 ∧ st.getD i 0 ≤ 200
  omega
 ·
  show 0 ≤ st.getD i 0 + (rdTk g i).f0 ∧ st.getD i 0 + (rdTk g i).f0 ≤ 200
  omega
theorem log_clock {g : List Tk} {st : List Int} (h : validLogB g (chgS g st) = true) {i : Nat} (hi : i < g.length) : st.getD i 0 + (rdTk g i).f0 ≤ 200 := by
 unfold validLogB at h
 rw [Bool.and_eq_true, List.all_eq_true] at h
 have hm : chO g st i ∈ chgS g st := mem_chgS.2 ⟨i, hi, .inr rfl⟩
 obtain ⟨k, hk, e⟩ := List.getElem_of_mem hm
 have h2 := h.2 k (List.mem_range.2 hk)
 unfold eventOkB at h2
 simp only [Bool.and_eq_true] at h2
 have h3 := (inB_true.1 h2.1.1.1).2
 rw [rdEv_get hk, e] at h3
 exact h3
theorem sumN_sgn (l : List Ev) : ∀ k, k ≤ l.length → sumN l k = ((l.take k).map sgn).sum
 | 0, _ => by simp [sumN]
 | k + 1, hk => by
  have ih := sumN_sgn l k (by omega)
  unfold sumN
  rw [take_snocE (by omega), List.map_append, List.sum_append, ih]
  simp only [List.map_cons, List.map_nil, List.sum_cons, List.sum_nil]
  unfold sgn
  split <;> omega
theorem take_last {g : List Tk} {st : List Int} {k : Nat} (hk : k < (chgS g st).length) (hl : lastOf (chgS g st) k = true) : (chgS g st).take (k + 1) = (chgS g st).filter (fun x => decide (x.f0 ≤ (rdEv (chgS g st) k).f0)) := by
 have hC := List.take_append_drop (k + 1) (chgS g st)
 have e : (chgS g st).filter (fun x => decide (x.f0 ≤ (rdEv (chgS g st) k).f0)) = ((chgS g st).take (k + 1) ++ (chgS g st).drop (k + 1)).filter (fun x => decide (x.f0 ≤ (rdEv (chgS g st) k).f0)) := by rw [hC]
 have hs := chgS_strict g st
 have h1 : ((chgS g st).take (k + 1)).filter (fun x => decide (x.f0 ≤ (rdEv (chgS g st) k).f0)) = (chgS g st).take (k + 1) := by
  rw [List.filter_eq_self]
  intro x hx
  apply decide_eq_true
  obtain ⟨q, hq, e⟩ := List.getElem_of_mem hx
  rw [List.getElem_take] at e
  rw [List.length_take] at hq
  rw [← e, rdEv_get hk]
  by_cases hqk : q = k
  ·
   subst hqk
   exact Int.le_refl _
  ·
   have := List.pairwise_iff_getElem.1 hs q k (by omega) hk (by omega)
   rcases this with h | ⟨h, _⟩ <;> omega
 have h2 : ((chgS g st).drop (k + 1)).filter (fun x => decide (x.f0 ≤ (rdEv (chgS g st) k).f0)) = [] := by
  rw [List.filter_eq_nil_iff]
  intro x hx
  obtain ⟨q, hq, e⟩ := List.getElem_of_mem hx
  rw [List.getElem_drop] at e
  rw [List.length_drop] at hq
  have hk1 : k + 1 < (chgS g st).length := by omega
  unfold lastOf at hl
  have hgt : (rdEv (chgS g st) (k + 1)).f0 > (rdEv (chgS g st) k).f0 := by
   rw [Bool.or_eq_true] at hl
   rcases hl with hl | hl
   ·
    have := of_decide_eq_true hl
    omega
   ·
    exact of_decide_eq_true hl
  rw [rdEv_get hk1, rdEv_get hk] at hgt
  rw [rdEv_get hk, ← e]
  have : (chgS g st)[k + 1].f0 ≤ (chgS g st)[k + 1 + q].f0 := by
   by_cases hq0 : q = 0
   ·
    subst hq0
    exact Int.le_refl _
   ·
    have := List.pairwise_iff_getElem.1 hs (k + 1) (k + 1 + q) (by omega) (by omega) (by omega)
    rcases this with h | ⟨h, _⟩ <;> omega
  simp only [decide_eq_true_iff]
  omega
 rw [e, List.filter_append, h1, h2, List.append_nil]
theorem sum_time {g : List Tk} (hok : TOk g) {st : List Int} (t : Int) : (((chgS g st).filter (fun x => decide (x.f0 ≤ t))).map sgn).sum = ((runS g st t).length : Nat) := by
 have hp : ((chgS g st).filter (fun x => decide (x.f0 ≤ t))).Perm ((chgN g st g.length).filter (fun x => decide (x.f0 ≤ t))) := (chgS_perm g st).filter _
 rw [perm_sum (hp.map sgn), filt_sum]
 unfold runS
 rw [← sumTo_count]
 refine sumTo_congr _ (fun i hi => ?_)
 have ht := (hok.2.2.2.2 i hi).1
 unfold sumF
 have e1 : (chB st i).f0 = st.getD i 0 := rfl
 have e2 : (chO g st i).f0 = st.getD i 0 + (rdTk g i).f0 := rfl
 have s1 : sgn (chB st i) = 1 := rfl
 have s2 : sgn (chO g st i) = -1 := rfl
 show ((if decide ((chB st i).f0 ≤ t) = true then sgn (chB st i) else 0) + if decide ((chO g st i).f0 ≤ t) = true then sgn (chO g st i) else 0) = _
 rw [e1, e2, s1, s2]
 by_cases h1 : st.getD i 0 ≤ t
 ·
  by_cases h2 : st.getD i 0 + (rdTk g i).f0 ≤ t
  ·
   rw [if_pos (decide_eq_true h1), if_pos (decide_eq_true h2), if_neg (fun h => by have := runB_iff.1 h; omega)]
   rfl
  ·
   rw [if_pos (decide_eq_true h1), if_neg (by simp only [decide_eq_true_iff]; exact h2), if_pos (runB_iff.2 ⟨h1, by omega⟩)]
   rfl
 ·
  rw [if_neg (by simp only [decide_eq_true_iff]; exact h1), if_neg (by simp only [decide_eq_true_iff]; omega), if_neg (fun h => by have := runB_iff.1 h; omega)]
  rfl
theorem sum_last {g : List Tk} (hok : TOk g) {st : List Int} {k : Nat} (hk : k < (chgS g st).length) (hl : lastOf (chgS g st) k = true) : sumN (chgS g st) (k + 1) = ((runS g st (rdEv (chgS g st) k).f0).length : Nat) := by
 rw [sumN_sgn _ _ (by omega), take_last hk hl, sum_time hok]
end Go.Proofs.YtlapphhcficbjaaDoor

namespace Go.Proofs.YtlapphhcficbjaaDoor
set_option linter.unusedVariables false
set_option linter.unusedSimpArgs false
open Go.RowKit Go.Shelf Bits
def mxR (g : List Tk) (st : List Int) : Nat → Int
 | 0 => 0
 | j + 1 => max (mxR g st j) ((runS g st (st.getD j 0)).length : Nat)
theorem mxR_nonneg (g : List Tk) (st : List Int) : ∀ n, 0 ≤ mxR g st n
 | 0 => Int.le_refl _
 | n + 1 => by
  have := mxR_nonneg g st n
  unfold mxR
  omega
theorem mxR_ge (g : List Tk) (st : List Int) {i : Nat} : ∀ n, i < n → ((runS g st (st.getD i 0)).length : Int) ≤ mxR g st n
 | 0, h => absurd h (Nat.not_lt_zero _)
 | n + 1, h => by
  unfold mxR
  by_cases e : i = n
  ·
   subst e
   omega
  ·
   have := mxR_ge g st (i := i) n (by omega)
   omega
theorem mxR_le {g : List Tk} {st : List Int} {B : Int} (hB : 0 ≤ B) : ∀ n, (∀ i, i < n → ((runS g st (st.getD i 0)).length : Int) ≤ B) → mxR g st n ≤ B
 | 0, _ => hB
 | n + 1, h => by
  have h1 := mxR_le hB n (fun i hi => h i (by omega))
  have h2 := h n (by omega)
  unfold mxR
  omega
theorem mostN_le {log : List Ev} {B : Int} (hB : 0 ≤ B) (h : ∀ k, k < log.length → lastOf log k = true → sumN log (k + 1) ≤ B) : ∀ k, k ≤ log.length → mostN log k ≤ B
 | 0, _ => hB
 | k + 1, hk => by
  have ih := mostN_le hB h k (by omega)
  unfold mostN
  split
  ·
   rename_i hl
   have := h k (by omega) hl
   omega
  ·
   exact ih
theorem mostN_ge {log : List Ev} {k : Nat} (hl : lastOf log k = true) : ∀ m, k < m → sumN log (k + 1) ≤ mostN log m
 | 0, h => absurd h (Nat.not_lt_zero _)
 | m + 1, h => by
  unfold mostN
  by_cases e : k = m
  ·
   subst e
   rw [if_pos hl]
   omega
  ·
   have ih := mostN_ge hl m (by omega)
   split
   ·
    omega
   ·
    exact ih
theorem last_at {g : List Tk} {st : List Int} {t : Int} : ∀ d k, d + k + 1 = (chgS g st).length → (rdEv (chgS g st) k).f0 = t → ∃ m, m < (chgS g st).length ∧ lastOf (chgS g st) m = true ∧ (rdEv (chgS g st) m).f0 = t
 | 0, k, hd, ht => ⟨k, by omega, by unfold lastOf; rw [decide_eq_true (show k + 1 = (chgS g st).length by omega), Bool.true_or], ht⟩
 | d + 1, k, hd, ht => by
  by_cases hgt : (rdEv (chgS g st) (k + 1)).f0 > (rdEv (chgS g st) k).f0
  ·
   exact ⟨k, by omega, by unfold lastOf; rw [decide_eq_true hgt, Bool.or_true], ht⟩
  ·
   have := chg_order g st (k := k + 1) (by omega) (by omega)
   rw [Nat.add_sub_cancel] at this
   exact last_at d (k + 1) (by omega) (by omega)
theorem most_log {g : List Tk} (hok : TOk g) {st : List Int} : mostN (chgS g st) (chgS g st).length = mxR g st g.length := by
 apply Int.le_antisymm
 ·
  refine mostN_le (mxR_nonneg _ _ _) (fun k hk hl => ?_) _ (Nat.le_refl _)
  rw [sum_last hok hk hl]
  generalize (rdEv (chgS g st) k).f0 = t
  by_cases hex : ∃ i, i < g.length ∧ runB g st t i = true
  ·
   obtain ⟨j, hj, h1, h2⟩ := last_of (st := st) g.length hex
   have h3 := runB_iff.1 h1
   have h4 : (runS g st t).length ≤ (runS g st (st.getD j 0)).length := filter_len_le g.length (fun q hq hr => by
    have h5 := h2 q hq hr
    have h6 := runB_iff.1 hr
    exact runB_iff.2 ⟨by rcases h5 with h | ⟨h, _⟩ <;> omega, by omega⟩)
   have h7 := mxR_ge g st (i := j) g.length hj
   omega
  ·
   have : runS g st t = [] := by
    unfold runS
    rw [List.filter_eq_nil_iff]
    intro i hi hr
    exact hex ⟨i, List.mem_range.1 hi, hr⟩
   rw [this]
   exact mxR_nonneg _ _ _
 ·
  refine mxR_le ?_ _ (fun i hi => ?_)
  ·
   have h0 : ∀ m, 0 ≤ mostN (chgS g st) m := by
    intro m
    induction m with
    | zero => exact Int.le_refl _
    | succ m ih => unfold mostN; split <;> omega
   exact h0 _
  ·
   have hm : chB st i ∈ chgS g st := mem_chgS.2 ⟨i, hi, .inl rfl⟩
   obtain ⟨k, hk, e⟩ := List.getElem_of_mem hm
   obtain ⟨m, hm1, hm2, hm3⟩ := last_at (g := g) (st := st) (t := st.getD i 0) ((chgS g st).length - 1 - k) k (by omega) (by rw [rdEv_get hk, e]; rfl)
   have := mostN_ge hm2 (chgS g st).length hm1
   rw [sum_last hok hm1 hm2, hm3] at this
   exact this
theorem mxR_workers {g : List Tk} {rm : List Int} {wk : Int} {st : List Int} (h : Valid g rm wk st) : mxR g st g.length ≤ wk := by
 have := (placeB_facts h.p).2.1
 exact mxR_le (by omega) _ (fun i _ => (h.runs _).1)
theorem mostB_log {g : List Tk} {st : List Int} (hv : validLogB g (chgS g st) = true) : mostB g (chgS g st) = mxR g st g.length := by
 have hs := hv
 rw [validLog_eq] at hs
 obtain ⟨p, hp⟩ := Option.isSome_iff_exists.1 hs
 unfold mostB
 rw [hp]
 obtain ⟨ns, hg, hr, h8, _⟩ := replayB_facts hp
 show p.2 = _
 rw [(replay_kept h8 _ p hr).mst]
 refine most_log (specValid_TOk ?_)
 rw [specValid_eq, hg]
 rfl
theorem hits_ne {log : List Ev} {t : Nat} {now : Int} : ∀ m, hits log t now m ≠ [] ↔ ∃ k, k < m ∧ (rdEv log k).f1 = (t : Int) ∧ (rdEv log k).f2 = true ∧ (rdEv log k).f0 ≤ now
 | 0 => by simp [hits]
 | m + 1 => by
  have ih := hits_ne (log := log) (t := t) (now := now) m
  unfold hits
  split
  ·
   rename_i h
   constructor
   ·
    intro _
    exact ⟨m, by omega, h⟩
   ·
    intro _
    simp
  ·
   rename_i h
   rw [ih]
   constructor
   ·
    rintro ⟨k, hk, h1⟩
    exact ⟨k, by omega, h1⟩
   ·
    rintro ⟨k, hk, h1⟩
    by_cases e : k = m
    ·
     subst e
     exact absurd h1 h
    ·
     exact ⟨k, by omega, h1⟩
theorem hits_log {g : List Tk} {st : List Int} {t : Nat} {now : Int} : hits (chgS g st) t now (chgS g st).length ≠ [] ↔ t < g.length ∧ st.getD t 0 + (rdTk g t).f0 ≤ now := by
 rw [hits_ne]
 constructor
 ·
  rintro ⟨k, hk, h1, h2, h3⟩
  obtain ⟨i, hi, _⟩ := mem_chgS.1 (rdEv_mem hk)
  have he := chg_over (rdEv_mem hk) h2 h1
  rw [he] at h3
  refine ⟨?_, h3⟩
  obtain ⟨j, hj, e | e⟩ := mem_chgS.1 (rdEv_mem hk)
  ·
   rw [e] at h2
   cases h2
  ·
   have h4 : (rdEv (chgS g st) k).f1 = (j : Int) := by rw [e]; rfl
   rw [h1] at h4
   omega
 ·
  rintro ⟨ht, h1⟩
  have hm : chO g st t ∈ chgS g st := mem_chgS.2 ⟨t, ht, .inr rfl⟩
  obtain ⟨k, hk, e⟩ := List.getElem_of_mem hm
  refine ⟨k, hk, ?_⟩
  rw [rdEv_get hk, e]
  exact ⟨rfl, rfl, h1⟩
theorem doneB_log {g : List Tk} {st : List Int} (hv : validLogB g (chgS g st) = true) (now : Int) : doneB g (chgS g st) now = ints ((List.range g.length).filter fun i => decide (st.getD i 0 + (rdTk g i).f0 ≤ now)) := by
 have hs := hv
 rw [validLog_eq] at hs
 obtain ⟨p, hp⟩ := Option.isSome_iff_exists.1 hs
 obtain ⟨ns, hg, hr, h8, _, htm⟩ := replayB_facts hp
 have hh := replay_hist (fun i => (htm i).1) _ p hr
 unfold doneB
 rw [hp]
 show ints (doneL p.1 now) = _
 rw [doneL_range (n := g.length) (by omega) (fun i hi => hh.lt i (hh.sub i hi)) now]
 congr 1
 refine List.filter_congr (fun i hi => ?_)
 have hi := List.mem_range.1 hi
 have h1 := hh.hit i now
 have h2 := hits_log (g := g) (st := st) (t := i) (now := now)
 unfold doneP
 rw [Bool.eq_iff_iff, Bool.and_eq_true, decide_eq_true_iff, decide_eq_true_iff]
 constructor
 ·
  intro h3
  rw [if_pos h3] at h1
  exact (h2.1 (by rw [h1]; simp)).2
 ·
  intro h3
  have h4 := h2.2 ⟨hi, h3⟩
  by_cases h5 : p.1.o.testBit i = true ∧ p.1.cl i ≤ now
  ·
   exact h5
  ·
   rw [if_neg h5] at h1
   exact absurd h1 h4
def tmE (g : List Tk) (e : Ev) : Int := if e.f2 then (rdTk g e.f1.toNat).f0 else 0
theorem busyS_sum (g : List Tk) (l : List Ev) : ∀ k, k ≤ l.length → busyS g l k = ((l.take k).map (tmE g)).sum
 | 0, _ => by simp [busyS]
 | k + 1, hk => by
  have ih := busyS_sum g l k (by omega)
  rw [busyS_succ, take_snocE (by omega), List.map_append, List.sum_append, ih]
  simp only [List.map_cons, List.map_nil, List.sum_cons, List.sum_nil]
  unfold tmE
  split <;> omega
theorem busyB_log {g : List Tk} {st : List Int} (hv : validLogB g (chgS g st) = true) : busyB g (chgS g st) = timeS g := by
 rw [busyB_eq, if_pos hv, busyS_sum _ _ _ (Nat.le_refl _), List.take_length, perm_sum ((chgS_perm g st).map (tmE g))]
 have h := filt_sum (tmE g) (fun _ => true) g st g.length
 rw [List.filter_eq_self.2 (fun _ _ => rfl)] at h
 rw [h]
 unfold timeS
 refine sumTo_congr _ (fun i hi => ?_)
 unfold sumF
 rw [if_pos rfl, if_pos rfl]
 show tmE g (chB st i) + tmE g (chO g st i) = _
 have e1 : tmE g (chB st i) = 0 := rfl
 have e2 : tmE g (chO g st i) = (rdTk g i).f0 := rfl
 omega
theorem lg_is {g : List Tk} {rm : List Int} {wk : Int} {st : List Int} (h : Valid g rm wk st) : lgS g rm wk st = chgS g st := by
 unfold lgS
 rw [valid_vSt h, if_pos rfl]
theorem lg_yes {g : List Tk} {rm : List Int} {wk : Int} {st : List Int} (h : ¬ (lgS g rm wk st).length = 0) : Valid g rm wk st ∧ (lgS g rm wk st).length = 2 * g.length := by
 cases hv : vStB g rm wk st with
 | false =>
  exfalso
  apply h
  unfold lgS
  rw [hv]
  rfl
 | true =>
  have hV := vSt_valid hv
  exact ⟨hV, by rw [lg_is hV, chgS_len]⟩
theorem lg_replay {g : List Tk} {rm : List Int} {wk : Int} {st : List Int} (h : Valid g rm wk st) (he : ∀ i, i < g.length → st.getD i 0 + (rdTk g i).f0 ≤ 200) : (replayB g (lgS g rm wk st)).isSome = true := by
 rw [lg_is h, ← validLog_eq]
 exact log_valid h he
theorem lg_most {g : List Tk} {rm : List Int} {wk : Int} {st : List Int} (h : Valid g rm wk st) (hy : (replayB g (lgS g rm wk st)).isSome = true) : mostB g (lgS g rm wk st) = mxR g st g.length := by
 rw [lg_is h, ← validLog_eq] at hy
 rw [lg_is h]
 exact mostB_log hy
theorem lg_doneB {g : List Tk} {rm : List Int} {wk : Int} {st : List Int} (h : Valid g rm wk st) (hy : (replayB g (lgS g rm wk st)).isSome = true) (now : Int) : doneB g (lgS g rm wk st) now = ints ((List.range g.length).filter fun i => decide (st.getD i 0 + (rdTk g i).f0 ≤ now)) := by
 rw [lg_is h, ← validLog_eq] at hy
 rw [lg_is h]
 exact doneB_log hy now
theorem lg_done {g : List Tk} {rm : List Int} {wk : Int} {st : List Int} (h : Valid g rm wk st) (hn : 0 < g.length) (hy : (replayB g (lgS g rm wk st)).isSome = true) : (doneB g (lgS g rm wk st) (etS g rm wk st)).length = g.length ∧ (doneB g (lgS g rm wk st) (etS g rm wk st - 1)).length < g.length ∧ busyB g (lgS g rm wk st) = timeS g := by
 rw [lg_doneB h hy, lg_doneB h hy, ints_length, ints_length]
 refine ⟨?_, ?_, ?_⟩
 ·
  rw [List.filter_eq_self.2 (fun i hi => decide_eq_true (etS_ge h (List.mem_range.1 hi))), List.length_range]
 ·
  obtain ⟨i, hi, he⟩ := h.end_some hn
  rw [← etS_valid h] at he
  have : ((List.range g.length).filter fun i => decide (st.getD i 0 + (rdTk g i).f0 ≤ etS g rm wk st - 1)).length < (List.range g.length).length := by
   rw [List.length_filter_lt_length_iff_exists]
   exact ⟨i, List.mem_range.2 hi, by simp only [decide_eq_true_iff]; omega⟩
  rwa [List.length_range] at this
 ·
  rw [lg_is h, ← validLog_eq] at hy
  rw [lg_is h]
  exact busyB_log hy
end Go.Proofs.YtlapphhcficbjaaDoor

namespace Go.Proofs.YtlapphhcficbjaaDoor
set_option linter.unusedVariables false
set_option linter.unusedSimpArgs false
open Go.RowKit Go.Shelf
open Go.Proofs.YtlapphhcficbjaaDoorW.PrintWords Go.Proofs.YtlapphhcficbjaaDoorW.PrintLast Go.Proofs.YtlapphhcficbjaaDoorW.PrintMore
def StB (k : Int) (st : List Int) : Prop := ∀ i, -k ≤ st.getD i 0 ∧ st.getD i 0 ≤ 200 + 40 * k
theorem StB.set {k : Int} {st : List Int} (h : StB k st) (i : Nat) {x : Int} (hx : -(k + 1) ≤ x ∧ x ≤ 200 + 40 * (k + 1)) (hk : 0 ≤ k) : StB (k + 1) (st.set i x) := fun j => by
 have := h j
 rw [getD_setL]
 split <;> omega
theorem StB.wide {k k' : Int} {st : List Int} (h : StB k st) (hk : k ≤ k') : StB k' st := fun i => by have := h i; omega
theorem StB.sok {st : List Int} (h : StB 2 st) : SOk st := fun i => by have := h i; omega
theorem pS_B (g : List Tk) (rm : List Int) (wk : Int) : StB 0 (pS g rm wk) := by
 unfold pS
 split
 ·
  exact fun i => by have := (planS_ok g rm wk).2 i; omega
 ·
  exact fun i => by simp
theorem pS_len (g : List Tk) (rm : List Int) (wk : Int) : (pS g rm wk).length ≤ 8 := by
 unfold pS
 split
 ·
  rename_i h
  rw [Bool.and_eq_true] at h
  rw [(planS_ok g rm wk).1]
  exact (specValid_TOk h.1).1
 ·
  simp
theorem stI_of_Rb {W : World} {rb base : Nat} {ok : Nat → Prop} {v : Value} {l : List Int} (h : Kd.R (Kd.int .i64) 3 W base ok v l) (hrb : rb < base) : ∃ A c, v = .slice A l.length c ∧ l.length ≤ c ∧ StI W rb A l := stI_of_R (Kd.R_mono h (fun _ _ => trivial)) hrb
theorem RdSt.far {w0 W : World} {rb : Nat} {M : Int} (h : RdSt w0 W rb M) {p : Addr} (hp : p.block ≠ rb) (u : Value) : RdSt w0 (W.setCell p u) rb M := by
 obtain ⟨b, q, ⟨A0, c0, h1, h2, h3⟩, h4⟩ := h
 exact ⟨b, q, ⟨A0, c0, (Below.heap_setCell W p u rb (fun e => hp e.symm)).trans h1, h2, h3⟩, h4⟩
set_option maxRecDepth 1000000 in
set_option maxHeartbeats 8000000 in
theorem someStarts_any (rb : Nat) (M : Int) (hM : M ≤ 700000) (A : Option Addr) (c : Nat) (g : List Tk) (w0 w : World) (hS : RdSt w0 w rb M) (hB : Below w0.heap.size w0 w) (hG : StG w rb A g) :
  Calls Tryd.prog 95 #[.pointer (some ⟨rb, 0, none⟩), .slice A g.length c] w fun e w' => ∃ A1 c1 rm wk A2 c2 st, e = .returned (.tuple #[.slice A1 rm.length c1, .int .i64 wk, .slice A2 st.length c2]) ∧ rm.length ≤ c1 ∧ st.length ≤ c2 ∧ StI w' rb A1 rm ∧ StI w' rb A2 st ∧ rm.length ≤ 4 ∧ st.length ≤ 8 ∧ (0 ≤ wk ∧ wk ≤ 5) ∧ StB 2 st ∧ RdSt w0 w' rb (M + 20) ∧ Below w0.heap.size w0 w' ∧ KeepBut w w' rb none := by
 have HS := Lib.hid hS
 have HB := Lib.hid hB
 have HG := Lib.hid hG
 clear hS hB hG
 go_enter Tryd.func95, Tryd.ntmps95
 go_wp2_with (first
  | (go_at_call 44; refine (someRoom_any rb M (by omega) w0 _ HS.out HB.out).mono ?_; rintro e w1 ⟨A1, c1, rm, rfl, hc1, hI1, hl1, hS1, hB1, hK1⟩; have H1 := Lib.hid (And.intro hI1 (And.intro hS1 (And.intro hB1 hK1))); clear hI1 hS1 hB1 hK1)
  | (go_at_call 45; refine (someWorkers_any rb (M + 6) (by omega) w0 _ H1.out.2.1 H1.out.2.2.1).mono ?_; rintro e w2 ⟨wk, rfl, hwk, hS2, hB2, hK2⟩; have H2 := Lib.hid (And.intro (H1.out.1.keep hK2) (And.intro hS2 (And.intro hB2 (And.intro (keep_trans H1.out.2.2.2 hK2) ((HG.out.keep H1.out.2.2.2).keep hK2))))); clear hS2 hB2 hK2)
  | (go_at_call 122; refine (sPlanStarts_calls A c g A1 c1 rm wk w2 H2.out.2.2.2.2.now H2.out.1.now).mono ?_; rintro e w3 ⟨v3, rfl, hR3, hB3⟩; have H3 := Lib.hid (And.intro hR3 hB3); clear hR3 hB3)
  | (go_at_call 48; refine (pick_any rb (M + 7) _ (by omega) w0 _ ((H2.out.2.1.below H3.out.2).wide (by omega)) (H2.out.2.2.1.trans (H3.out.2.mono H2.out.2.2.1.size))).mono ?_; rintro e w4 ⟨v4, rfl, hv4, hS4, hB4, hK4⟩; have H4 := Lib.hid (And.intro hS4 (And.intro hB4 hK4)); clear hS4 hB4 hK4))
 have hrb2 := H2.out.2.1.lt
 have hpl := pS_len g rm wk
 have hpb := pS_B g rm wk
 have hR4 : Kd.R (Kd.int .i64) 3 w4 w2.heap.size (fun q => q ≠ rb) v3 (pS g rm wk) := Kd.R_keep (Kd.R_mono (Kd.R_bound H3.out.1) (fun q hq => by have := hq.2.1; omega)) H4.out.2.2 (fun q hq => hq)
 obtain ⟨A3, c3, rfl, hc3, _⟩ := Kd.R_reads hR4
 have hK24 : KeepBut w2 w4 rb none := keep_trans (keep_below rb H3.out.2) H4.out.2.2
 have HK24 := Lib.hid hK24
 have hv2 : 0 ≤ v4 ∧ v4 ≤ 2 := by have := hv4.2 (by omega); omega
 clear hK24 hv4
 generalize pS g rm wk = s0 at hR4 hpl hpb hc3
 go_loopw [10] (fun n wr => ∃ (k : Nat) (st : List Int), n = .int .i64 (k : Int) ∧ k ≤ 2 ∧ st.length = s0.length ∧ StB (2 - k) st ∧ Hid (Kd.R (Kd.int .i64) 3 wr w2.heap.size (fun q => q ≠ rb) (.slice A3 s0.length c3) st ∧ RdSt w0 wr rb (M + 12 - 2 * k) ∧ Below w0.heap.size w0 wr ∧ KeepBut w2 wr rb none)) (fun n _ => (intOf n).toNat)
 case atStart => exact ⟨v4.toNat, s0, by congr 1; omega, by omega, rfl, hpb.wide (by omega), Lib.hid ⟨hR4, H4.out.1.wide (by omega), H4.out.2.1, HK24.out⟩⟩
 case round =>
  clear hR4 hpb
  obtain ⟨k, st, rfl, hk, hsl, hsb, HH⟩ := hrel
  by_cases hk0 : k = 0
  ·
   subst hk0
   have HSB := Lib.hid hsb
   go_wp2
   go_ret3
   obtain ⟨hR, hS, hB, hK⟩ := HH.out
   obtain ⟨A9, c9, e9, hc9, hI9⟩ := stI_of_Rb hR hrb2
   rw [← hsl] at e9 hR ⊢
   cases e9
   exact ⟨A1, c1, rm, wk, A3, c3, st, rfl, hc1, hc9, H2.out.1.keep hK, hI9, hl1, by omega, hwk, HSB.out.wide (by omega), hS.wide (by omega), hB, keep_trans H2.out.2.2.2.1 hK⟩
  ·
   have dk : decide ((0 : Int) < (k : Int)) = true := decide_eq_true (by omega)
   have dk' : decide (0 < k) = true := decide_eq_true (by omega)
   by_cases hs0 : s0.length = 0
   ·
    have ds : decide ((0 : Int) < (s0.length : Int)) = false := decide_eq_false (by omega)
    have ds' : decide (0 < s0.length) = false := decide_eq_false (by omega)
    have HSB := Lib.hid hsb
    clear hk0 hsb
    go_wp2
    go_ret3
    obtain ⟨hR, hS, hB, hK⟩ := HH.out
    obtain ⟨A9, c9, e9, hc9, hI9⟩ := stI_of_Rb hR hrb2
    rw [← hsl] at e9 hR ⊢
    cases e9
    exact ⟨A1, c1, rm, wk, A3, c3, st, rfl, hc1, hc9, H2.out.1.keep hK, hI9, hl1, by omega, hwk, HSB.out.wide (by omega), hS.wide (by omega), hB, keep_trans H2.out.2.2.2.1 hK⟩
   ·
    have ds : decide ((0 : Int) < (s0.length : Int)) = true := decide_eq_true (by omega)
    have ds' : decide (0 < s0.length) = true := decide_eq_true (by omega)
    have HSB := Lib.hid hsb
    have HSB2 := Lib.hid hsb
    obtain ⟨b, cap, e5, hbb, hbl, hbc⟩ := Kd.R_form HH.out.1 (by omega)
    rw [hsl] at e5
    cases e5
    have hbr : b ≠ rb := by omega
    go_upto_region 8 with (go_at_call 48; refine (pick_any rb _ _ (by omega) w0 _ HH.out.2.1 HH.out.2.2.1).mono ?_; rintro e w5 ⟨v5, rfl, hv5, hS5, hB5, hK5⟩; obtain ⟨m, rfl⟩ := Int.eq_ofNat_of_zero_le hv5.1; have hml : m < s0.length := (by have := hv5.2 (by omega); omega); have H5 := Lib.hid (And.intro hS5 (And.intro hB5 hK5)); clear hv5 hS5 hB5 hK5)
    have hR5 := Kd.R_keep HH.out.1 H5.out.2.2 (fun q hq => hq)
    obtain ⟨cx, fx⟩ := Kd.R_celln (0 : Int) hR5 (m : Int) (by omega) (by omega)
    rw [Int.toNat_natCast] at cx fx
    have hsx := HSB.out m
    replace cx : w5.cell? ⟨b, m, none⟩ = some (.int .i64 (st.getD m 0)) := cx
    have HST : Hid (∃ s, s = st.getD m 0) := Lib.hid ⟨_, rfl⟩
    obtain ⟨s, hs⟩ := HST.out
    rw [← hs] at cx hsx
    have HR5 := Lib.hid hR5
    have HSE := Lib.hid hs
    have hb5 : b < w5.heap.size := Nat.lt_of_lt_of_le hbl H5.out.2.2.1
    have hmi : (m : Int) < (s0.length : Int) := by omega
    have hrb5 := H5.out.1.lt
    clear hR5 hs HST
    have HCALL : Hid (∀ W (l : List Int), Below w5.heap.size w5 W → 0 < l.length → l.length ≤ 1000 → Calls Tryd.prog 78 #[.pointer (some ⟨rb, 0, none⟩), .slice (some ⟨W.heap.size, 0, none⟩) l.length l.length] (W.alloc (.cells (encs (Value.int .i64) l).toArray 3)) fun e w' =>
      ∃ v, e = .returned (.int .i64 v) ∧ v ∈ l ∧ RdSt w0 w' rb (M + 14 - 2 * k) ∧ Below w0.heap.size w0 w' ∧ w'.cell? ⟨b, m, none⟩ = some (.int .i64 s) ∧ w'.frozen? ⟨b, m, none⟩ = false ∧ KeepBut w5 w' rb none) := Lib.hid (by
     intro W l hW hl0 hl
     refine (oneLit_any rb _ l hl0 hl (by omega) w0 W (H5.out.1.below hW) (H5.out.2.1.trans (hW.mono H5.out.2.1.size))).mono ?_
     rintro e w' ⟨v, he, hv, h1, h2, h3⟩
     have hkk : KeepBut w5 w' rb none := keep_trans (keep_below rb hW) h3
     have hblk : w'.heap[b]? = w5.heap[b]? := hkk.2 b hb5 hbr (by simp)
     refine ⟨v, he, hv, h1.wide (by omega), h2, ?_, ?_, hkk⟩
     ·
      rw [← cx]
      unfold World.cell?
      simp only [hblk]
     ·
      rw [← fx]
      unfold World.frozen?
      simp only [hblk])
    have HSB : Hid (∀ W, Below w5.heap.size w5 W → W.cell? ⟨b, m, none⟩ = some (.int .i64 s) ∧ W.frozen? ⟨b, m, none⟩ = false ∧ KeepBut w5 W rb none) := Lib.hid (fun W hW => by
     have hblk : W.heap[b]? = w5.heap[b]? := hW.block b hb5
     refine ⟨?_, ?_, keep_below rb hW⟩
     ·
      rw [← cx]
      unfold World.cell?
      simp only [hblk]
     ·
      rw [← fx]
      unfold World.frozen?
      simp only [hblk])
    go_wp2
    have hcA : ∀ o, (w5.alloc o).cell? ⟨b, m, none⟩ = some (.int .i64 s) := fun o => (HSB.out _ ((Below.refl _ _).alloc (Nat.le_refl _) _)).1
    go_region_with (first | (go_at_call 78; refine (HCALL.out w5.drew [0, 1, 5, -1, 40] (Below.refl _ _).drew (by decide) (by decide)).mono ?_; rintro e w6 ⟨v6, rfl, hv6, hS6, hB6, hX1, hX2, hX3⟩))
    all_goals
     have hv7 : -1 ≤ v6 ∧ v6 ≤ 40 := by simp at hv6; omega
     have hR6 := Kd.R_putn (Kd.R_keep HR5.out hX3 (fun q hq => hq)) (m : Int) (s + v6)
     rw [Int.toNat_natCast] at hR6
     have hsb' := StB.set HSB2.out m (x := s + v6) (by omega) (by omega)
     have hbel : Below w0.heap.size w0 (w6.setCell ⟨b, m, none⟩ (.int .i64 (s + v6))) := hB6.setCell (p := ⟨b, m, none⟩) (by have h02 := H2.out.2.2.1.size; show w0.heap.size ≤ b; omega) _
     have hkp : KeepBut w2 (w6.setCell ⟨b, m, none⟩ (.int .i64 (s + v6))) rb none := by
      have h26 : KeepBut w2 w6 rb none := keep_trans HH.out.2.2.2 (keep_trans H5.out.2.2 hX3)
      refine ⟨by rw [World.size_setCell]; exact h26.1, fun i hi h1 h2 => ?_⟩
      rw [Below.heap_setCell w6 ⟨b, m, none⟩ _ i (by show i ≠ b; omega)]
      exact h26.2 i hi h1 h2
     have hrd : RdSt w0 (w6.setCell ⟨b, m, none⟩ (.int .i64 (s + v6))) rb (M + 12 - 2 * (k - 1 : Nat)) := (RdSt.far hS6 hbr _).wide (by omega)
     have HEND := Lib.hid (And.intro hR6 (And.intro hrd (And.intro hbel hkp)))
     have HSB3 := Lib.hid (hsb'.wide (k' := 2 - (k - 1 : Nat)) (by omega))
     have hk1 : IntKind.i64.wrap ((k : Int) - 1) = ((k - 1 : Nat) : Int) := by rw [show (k : Int) - 1 = ((k - 1 : Nat) : Int) by omega]; exact IntWalk.i64_in _ (by omega)
     have hwr : IntKind.i64.wrap (s + v6) = s + v6 := IntWalk.i64_in _ (by omega)
     clear hR6 hrd hbel hkp hsb' hv6 hv7 hX1 hX2 hX3 hS6 hB6 hsx
     go_wp2
     clear hwr hk1
     exact ⟨⟨k - 1, st.set m (s + v6), rfl, by omega, by rw [List.length_set]; exact hsl, HSB3.out, HEND⟩, by simp [intOf]; omega⟩
theorem RdSt_new {w0 W : World} {rb : Nat} {M : Int} (h : RdSt w0 W rb M) : w0.heap.size ≤ rb := by
 obtain ⟨b, p, ⟨A0, c0, h1, h2, h3⟩, _⟩ := h
 exact h2
theorem newReader_new (A : Option Addr) (c : Nat) (l : List Int) (hb : ∀ x ∈ l, 0 ≤ x ∧ x < 256) (w : World) (hr : (Kd.int .u8).C w A l.length l) (hc : l.length ≤ c) :
  Calls Tryd.prog 42 #[.slice A l.length c] w fun e w' => ∃ rb, e = .returned (.pointer (some ⟨rb, 0, none⟩)) ∧ w.heap.size ≤ rb ∧ RdSt w w' rb 0 ∧ Below w.heap.size w w' := by
 refine (newReader_any A c l hb w hr hc).mono ?_
 rintro e w' ⟨rb, he, hS, hB⟩
 exact ⟨rb, he, RdSt_new hS, hS, hB⟩
theorem results_tmp4 {fn : Func} {t u v x : Tmp} (h : fn.results = #[.tmp t, .tmp u, .tmp v, .tmp x]) (tmps : Array Value) (P : Program) (w : World) :
  (results fn tmps).run P w = .ok (.tuple #[tmps.getD t undef, tmps.getD u undef, tmps.getD v undef, tmps.getD x undef]) w := by
 simp [results, h]
theorem results_tmp5 {fn : Func} {t u v x y : Tmp} (h : fn.results = #[.tmp t, .tmp u, .tmp v, .tmp x, .tmp y]) (tmps : Array Value) (P : Program) (w : World) :
  (results fn tmps).run P w = .ok (.tuple #[tmps.getD t undef, tmps.getD u undef, tmps.getD v undef, tmps.getD x undef, tmps.getD y undef]) w := by
 simp [results, h]
def DrSt (w : World) (e : Ending) (w' : World) : Prop := ∃ rb A1 c1 g A2 c2 rm wk A3 c3 st, e = .returned (.tuple #[.slice A1 g.length c1, .slice A2 rm.length c2, .int .i64 wk, .slice A3 st.length c3]) ∧ StG w' rb A1 g ∧ StI w' rb A2 rm ∧ StI w' rb A3 st ∧ w.heap.size ≤ rb ∧ g.length ≤ 16 ∧ st.length ≤ 8 ∧ (0 ≤ wk ∧ wk ≤ 5) ∧ SOk st ∧ Below w.heap.size w w'
set_option maxRecDepth 100000 in
theorem DrawValidStarts_any (A : Option Addr) (c : Nat) (l : List Int) (hb : ∀ x ∈ l, 0 ≤ x ∧ x < 256) (w : World) (hr : (Kd.int .u8).C w A l.length l) (hc : l.length ≤ c) :
  Calls Tryd.prog 64 #[.slice A l.length c] w (DrSt w) := by
 have HN := Lib.hid (newReader_new A c l hb w hr hc)
 clear hb hr hc
 go_enter Tryd.func64, Tryd.ntmps64
 go_wp2_with (first | (go_at_call 42; refine HN.out.mono ?_; rintro e w1 ⟨rb, rfl, hrb, hS1, hB1⟩; have H1 := Lib.hid (And.intro hS1 hB1); clear hS1 hB1) | (go_at_call 76; refine (anyGraph_any rb 0 (by omega) w _ H1.out.1 H1.out.2).mono ?_; rintro e w2 ⟨A2, c2, g, rfl, hg2, hG2, hok, hS2, hB2, hK2⟩; have H2 := Lib.hid (And.intro hG2 (And.intro hok (And.intro hS2 hB2))); clear hG2 hok hS2 hB2 hK2) | (go_at_call 95; refine (someStarts_any rb _ (by omega) A2 c2 g w _ H2.out.2.2.1 H2.out.2.2.2 H2.out.1).mono ?_; rintro e w3 ⟨A3, c3, rm, wk, A4, c4, st, rfl, h1, h2, hI3, hI4, hl3, hl4, hwk, hsb, hS3, hB3, hK3⟩; have H3 := Lib.hid (And.intro (H2.out.1.keep hK3) (And.intro hI3 (And.intro hI4 (And.intro hsb hB3)))); clear hI3 hI4 hsb hS3 hB3 hK3))
 (try simp only [Exit.inBlock, Exit.then])
 refine bodyPost_ret (results_tmp4 rfl _ _ _) rfl ?_
 exact ⟨rb, _, _, g, _, _, rm, wk, _, _, st, rfl, H3.out.1, H3.out.2.1, H3.out.2.2.1, hrb, H2.out.2.1.1, hl4, hwk, H3.out.2.2.2.1.sok, H3.out.2.2.2.2⟩
theorem DrawLogOf_any (A : Option Addr) (c : Nat) (l : List Int) (hb : ∀ x ∈ l, 0 ≤ x ∧ x < 256) (w : World) (hr : (Kd.int .u8).C w A l.length l) (hc : l.length ≤ c) :
  Calls Tryd.prog 20 #[.slice A l.length c] w (DrSt w) := by
 have HN := Lib.hid (DrawValidStarts_any A c l hb w hr hc)
 clear hb hr hc
 go_enter Tryd.func20, Tryd.ntmps20
 go_wp2_with (go_at_call 64; refine HN.out.mono ?_; rintro e w1 ⟨rb, A1, c1, g, A2, c2, rm, wk, A3, c3, st, rfl, h1⟩; have H1 := Lib.hid h1; clear h1)
 (try simp only [Exit.inBlock, Exit.then])
 refine bodyPost_ret (results_tmp4 rfl _ _ _) rfl ?_
 exact ⟨rb, _, _, g, _, _, rm, wk, _, _, st, rfl, H1.out⟩
theorem DrawChartLines_any (A : Option Addr) (c : Nat) (l : List Int) (hb : ∀ x ∈ l, 0 ≤ x ∧ x < 256) (w : World) (hr : (Kd.int .u8).C w A l.length l) (hc : l.length ≤ c) :
  Calls Tryd.prog 40 #[.slice A l.length c] w (DrSt w) := by
 have HN := Lib.hid (DrawValidStarts_any A c l hb w hr hc)
 clear hb hr hc
 go_enter Tryd.func40, Tryd.ntmps40
 go_wp2_with (go_at_call 64; refine HN.out.mono ?_; rintro e w1 ⟨rb, A1, c1, g, A2, c2, rm, wk, A3, c3, st, rfl, h1⟩; have H1 := Lib.hid h1; clear h1)
 (try simp only [Exit.inBlock, Exit.then])
 refine bodyPost_ret (results_tmp4 rfl _ _ _) rfl ?_
 exact ⟨rb, _, _, g, _, _, rm, wk, _, _, st, rfl, H1.out⟩
def DrSt5 (lo hi : Int) (w : World) (e : Ending) (w' : World) : Prop := ∃ A1 c1 g A2 c2 rm wk A3 c3 st now, e = .returned (.tuple #[.slice A1 g.length c1, .slice A2 rm.length c2, .int .i64 wk, .slice A3 st.length c3, .int .i64 now]) ∧ kTk.C w' A1 g.length g ∧ (Kd.int .i64).C w' A2 rm.length rm ∧ (Kd.int .i64).C w' A3 st.length st ∧ g.length ≤ 16 ∧ st.length ≤ 8 ∧ (0 ≤ wk ∧ wk ≤ 5) ∧ SOk st ∧ (lo ≤ now ∧ now ≤ hi) ∧ Below w.heap.size w w'
end Go.Proofs.YtlapphhcficbjaaDoor

namespace Go.Proofs.YtlapphhcficbjaaDoor
set_option linter.unusedVariables false
set_option linter.unusedSimpArgs false
open Go.RowKit Go.Shelf Bits
open Go.Proofs.YtlapphhcficbjaaDoorW.PrintWords Go.Proofs.YtlapphhcficbjaaDoorW.PrintLast Go.Proofs.YtlapphhcficbjaaDoorW.PrintMore
set_option maxRecDepth 100000 in
set_option maxHeartbeats 2000000 in
theorem equalEvents_same (A : Option Addr) (c : Nat) (a : List Ev) (B : Option Addr) (d : Nat) (w : World) (hr : kEv.C w A a.length a) (hr' : kEv.C w B a.length a) :
  Calls Tryd.prog 22 #[.slice A a.length c, .slice B a.length d] w fun e w' => e = .returned (.bool true) ∧ Below w.heap.size w w' := by
 have HR := Lib.hid hr
 have HR' := Lib.hid hr'
 have hla := (C_len hr).2
 clear hr hr'
 have dl : ((a.length : Int) != (a.length : Int)) = false := bne_self_eq_false _
 go_enter Tryd.func22, Tryd.ntmps22
 go_wp2
 go_loopw [5] (fun i wr => ∃ j, j ≤ a.length ∧ i = .int .i64 (j : Nat) ∧ Below w.heap.size w wr) (fun i _ => a.length - (intOf i).toNat)
 case atStart => exact ⟨0, Nat.zero_le _, rfl, Below.refl _ _⟩
 case round =>
  obtain ⟨j, hj, rfl, hB⟩ := hrel
  by_cases hjl : j < a.length
  ·
   have hjj : decide ((j : Int) < (a.length : Int)) = true := decide_eq_true (by omega)
   have hja : (j : Int) < (a.length : Int) := by omega
   obtain ⟨ad, rfl, cx0, cx1, cx2⟩ := at_Ev (Kd.C_below HR.out hB) j hjl
   obtain ⟨bd, rfl, cy0, cy1, cy2⟩ := at_Ev (Kd.C_below HR'.out hB) j hjl
   generalize rdEv a j = e at cx0 cx1 cx2 cy0 cy1 cy2
   obtain ⟨x, y, z⟩ := e
   have HB := Lib.hid hB
   clear hB
   go_wp2
   (try go_quiet (fail))
   (try go_wp2)
   go_roundw
   case rel => exact ⟨j + 1, by omega, by go_num, by repeat (first | exact HB.out | apply pw_below_drewN)⟩
   case measure => simp [intOf]; omega
  ·
   obtain rfl : j = a.length := by omega
   have hjj : decide ((a.length : Int) < (a.length : Int)) = false := decide_eq_false (by omega)
   go_wp2
   go_ret
   exact ⟨rfl, hB⟩
end Go.Proofs.YtlapphhcficbjaaDoor

namespace Go.Proofs.YtlapphhcficbjaaDoor
set_option linter.unusedVariables false
set_option linter.unusedSimpArgs false
open Go.RowKit Go.Shelf Bits
open Go.Proofs.YtlapphhcficbjaaDoorW.PrintWords Go.Proofs.YtlapphhcficbjaaDoorW.PrintLast Go.Proofs.YtlapphhcficbjaaDoorW.PrintMore
set_option maxRecDepth 1000000 in
set_option maxHeartbeats 8000000 in
theorem FnLogOfTimes_walk (A : Option Addr) (c : Nat) (l : List Int) (hb : ∀ x ∈ l, 0 ≤ x ∧ x < 256) (w : World) (hT : Tab w) (hr : (Kd.int .u8).C w A l.length l) (hc : l.length ≤ c) :
  Calls Tryd.prog 6 #[.slice A l.length c] w fun e w' => e = .returned (.bool true) ∧ Below w.heap.size w w' := by
 have HT := Lib.hid hT
 have hll := (C_len hr).2
 have HD := Lib.hid (DrawLogOf_any A c l hb w hr hc)
 clear hb hr hc hT
 by_cases hbig : 1048576 < l.length
 ·
  have db : decide ((1048576 : Int) < (l.length : Int)) = true := decide_eq_true (by omega)
  clear hbig
  go_enter Tryd.func6, Tryd.ntmps6
  go_wp2
  go_ret
  exact ⟨rfl, Below.refl _ _⟩
 ·
  have db : decide ((1048576 : Int) < (l.length : Int)) = false := decide_eq_false (by omega)
  clear hbig
  go_enter Tryd.func6, Tryd.ntmps6
  go_upto_region 4 with (go_at_call 20; refine HD.out.mono ?_; rintro e w1 ⟨rb, A1, c1, g, A2, c2, rm, wk, A3, c3, st, rfl, hG, hR, hS, hrb, hg16, hs8, hwk, hso, hB1⟩; have H1 := Lib.hid hG.now; have H2 := Lib.hid hR.now; have H3 := Lib.hid hS.now; have HSO := Lib.hid hso; have HB1 := Lib.hid hB1; clear hG hR hS hrb hso hB1)
  have HTW := Lib.hid (fun (W : World) (h : Below w1.heap.size w1 W) => HT.out.keep HT.out.lt (HB1.out.trans (h.mono HB1.out.size)))
  have HW := Lib.hid (Below.refl w1.heap.size w1)
  have HLG := Lib.hid (fun (W : World) (hW : Below w1.heap.size w1 W) => LogOf_impl A1 c1 g A2 c2 rm wk A3 c3 st W (Kd.C_below H1.out hW) (Kd.C_below H2.out hW) (Kd.C_below H3.out hW) (HTW.out W hW))
  have HSG := Lib.hid (fun (W : World) (hW : Below w1.heap.size w1 W) => sLogOf_calls A1 c1 g A2 c2 rm wk A3 c3 st W (Kd.C_below H1.out hW) (Kd.C_below H2.out hW) (Kd.C_below H3.out hW))
  by_cases h0 : (lgS g rm wk st).length = 0
  ·
   have dl : (((lgS g rm wk st).length : Int) == 0) = true := by rw [h0]; rfl
   clear h0
   generalize lgS g rm wk st = o at HLG HSG dl
   go_wp2_with (first | (go_at_call 21; refine (HLG.out _ HW.out).mono ?_; rintro e wl ⟨vO, rfl, hR, hB⟩; obtain ⟨AO, cO, rfl, hcO, hC⟩ := Kd.R_reads hR; have HW := Lib.hid (HW.out.trans (hB.mono HW.out.size)); (try (have HcO := Lib.hid (Kd.C_below HcO.out hB))); (try (have HcP := Lib.hid (Kd.C_below HcP.out hB))); have HcO := Lib.hid hC; clear hR hC hB; clear HLG) | (go_at_call 23; refine (HSG.out _ HW.out).mono ?_; rintro e wl ⟨vP, rfl, hR, hB⟩; obtain ⟨AP, cP, rfl, hcP, hC⟩ := Kd.R_reads hR; have HW := Lib.hid (HW.out.trans (hB.mono HW.out.size)); (try (have HcO := Lib.hid (Kd.C_below HcO.out hB))); (try (have HcP := Lib.hid (Kd.C_below HcP.out hB))); have HcP := Lib.hid hC; clear hR hC hB) | (go_at_call 22; refine (equalEvents_same _ _ _ _ _ _ HcO.out HcP.out).mono ?_; rintro e wv ⟨rfl, hB⟩; have HW := Lib.hid (HW.out.trans (hB.mono HW.out.size)); (try (have HcO := Lib.hid (Kd.C_below HcO.out hB))); (try (have HcP := Lib.hid (Kd.C_below HcP.out hB))); clear hB))
   go_ret
   exact ⟨rfl, HB1.out.trans (HW.out.mono HB1.out.size)⟩
  ·
   have dl : (((lgS g rm wk st).length : Int) == 0) = false := by rw [beq_eq_false_iff_ne]; omega
   obtain ⟨hV, hlen⟩ := lg_yes h0
   have HV := Lib.hid hV
   obtain ⟨_, t2, t3⟩ := log_times hV
   have HT2 := Lib.hid t2
   have HT3 := Lib.hid t3
   have HLN := Lib.hid hlen
   have HWM : Hid (IntKind.i64.wrap (2 * (g.length : Int)) = 2 * (g.length : Int)) := Lib.hid (IntWalk.i64_in _ (by omega))
   have hl16 : (lgS g rm wk st).length ≤ 16 := by have := hV.ok.1; omega
   clear h0 hV hlen t2 t3
   generalize lgS g rm wk st = o at HLG HSG dl HT2 HT3 HLN hl16
   go_upto_region 7 with (first | (go_at_call 21; refine (HLG.out _ HW.out).mono ?_; rintro e wl ⟨vO, rfl, hR, hB⟩; obtain ⟨AO, cO, rfl, hcO, hC⟩ := Kd.R_reads hR; have HW := Lib.hid (HW.out.trans (hB.mono HW.out.size)); (try (have HcO := Lib.hid (Kd.C_below HcO.out hB))); (try (have HcP := Lib.hid (Kd.C_below HcP.out hB))); have HcO := Lib.hid hC; clear hR hC hB; clear HLG) | (go_at_call 23; refine (HSG.out _ HW.out).mono ?_; rintro e wl ⟨vP, rfl, hR, hB⟩; obtain ⟨AP, cP, rfl, hcP, hC⟩ := Kd.R_reads hR; have HW := Lib.hid (HW.out.trans (hB.mono HW.out.size)); (try (have HcO := Lib.hid (Kd.C_below HcO.out hB))); (try (have HcP := Lib.hid (Kd.C_below HcP.out hB))); have HcP := Lib.hid hC; clear hR hC hB) | (go_at_call 22; refine (equalEvents_same _ _ _ _ _ _ HcO.out HcP.out).mono ?_; rintro e wv ⟨rfl, hB⟩; have HW := Lib.hid (HW.out.trans (hB.mono HW.out.size)); (try (have HcO := Lib.hid (Kd.C_below HcO.out hB))); (try (have HcP := Lib.hid (Kd.C_below HcP.out hB))); clear hB))
   obtain ⟨w2, rfl⟩ : ∃ w2 : World, w2 = wv := ⟨_, rfl⟩
   go_wp2
   go_loopw [8] (fun i wr => ∃ j, j ≤ o.length ∧ i = .int .i64 (j : Nat) ∧ Below w2.heap.size w2 wr) (fun i _ => o.length - (intOf i).toNat)
   case atStart => exact ⟨0, Nat.zero_le _, rfl, Below.refl _ _⟩
   case round =>
    obtain ⟨j, hj, rfl, hB2⟩ := hrel
    have hB := HW.out.trans (hB2.mono HW.out.size)
    by_cases hjl : j < o.length
    ·
     have hjj : decide ((j : Int) < (o.length : Int)) = true := decide_eq_true (by omega)
     have hjo : (j : Int) < (o.length : Int) := by omega
     obtain ⟨ado, rfl, co0, co1, co2⟩ := at_Ev (Kd.C_below HcO.out hB2) j hjl
     obtain ⟨x, hx, e1, eF, eT⟩ := HT2.out j (by rw [← HLN.out]; exact hjl)
     have hxs : x < st.length := by rw [HV.out.len]; exact hx
     obtain ⟨ad, A4, c4, rfl, hc0, _⟩ := at_Tk (Kd.C_below H1.out hB) x hx
     obtain ⟨ads, rfl, cs⟩ := at_num (Kd.C_below H3.out hB) x hxs
     have hxg : (x : Int) < (g.length : Int) := by omega
     have hxsi : (x : Int) < (st.length : Int) := by omega
     have d0 : decide ((g.length : Int) ≤ (x : Int)) = false := decide_eq_false (by omega)
     have d0' : decide (g.length ≤ x) = false := decide_eq_false (by omega)
     have hsj := HSO.out x
     have htj := HV.out.ok.2.1 x
     have HPV : Hid (0 < j → (rdEv o (j - 1)).f0 ≤ (rdEv o j).f0) := Lib.hid (fun h => by
      have := HT3.out (j - 1) (by rw [← HLN.out]; omega)
      rwa [show j - 1 + 1 = j by omega] at this)
     have HEV := Lib.hid (at_Ev (Kd.C_below HcO.out hB2))
     rw [e1] at co1
     have HB2 := Lib.hid hB2
     generalize st.getD x 0 = s at cs hsj eF eT
     generalize (rdTk g x).f0 = tm at hc0 htj eT
     generalize hej : rdEv o j = ev at co0 co1 co2 HPV eF eT
     obtain ⟨at_, tk, ov⟩ := ev
     have eF : ov = false → at_ = s := eF
     have eT : ov = true → at_ = s + tm := eT
     have HPV : Hid (0 < j → (rdEv o (j - 1)).f0 ≤ at_) := HPV
     clear hB hB2 hej e1
     by_cases h0 : j = 0
     ·
      subst h0
      have co0 : wr.cell? ado = some (.int .i64 at_) := by
       have h := co0
       rw [Nat.zero_mul, show ado.add 0 = ado from by cases ado; rfl] at h
       exact h
      have co1 : wr.cell? ⟨ado.block, ado.off + 1, none⟩ = some (.int .i64 (x : Int)) := by
       have h := co1
       rw [Nat.zero_mul, show ado.add 0 = ado from by cases ado; rfl] at h
       exact h
      have co2 : wr.cell? ⟨ado.block, ado.off + 2, none⟩ = some (.bool ov) := by
       have h := co2
       rw [Nat.zero_mul, show ado.add 0 = ado from by cases ado; rfl] at h
       exact h
      clear HPV HEV
      have hwr : IntKind.i64.wrap (s + tm) = s + tm := IntWalk.i64_in _ (by omega)
      cases ov with
      | false =>
       obtain rfl := eF rfl
       clear eF eT
       go_wp2
       refine wp_region_still_tail 70 mixed (by kernel_rfl) ?_
       simp only [List.take_succ_cons, List.take_zero, List.drop_succ_cons, List.drop_zero]
       repeat (with_reducible refine wpStill_step (fun K hK => ?_); go_simp; with_reducible refine hK _ ?_; clear hK K)
       with_reducible refine wpStill_nil ?_
       go_wp2
       (try clear hwr)
       (try clear hwi)
       go_roundw
       case rel => exact ⟨0 + 1, by omega, by first | go_num | rfl, by repeat (first | exact HB2.out | apply below_drew | apply pw_below_drewN)⟩
       case measure => simp [intOf]; omega
      | true =>
       obtain rfl := eT rfl
       clear eF eT
       go_wp2
       refine wp_region_still_tail 70 mixed (by kernel_rfl) ?_
       simp only [List.take_succ_cons, List.take_zero, List.drop_succ_cons, List.drop_zero]
       repeat (with_reducible refine wpStill_step (fun K hK => ?_); go_simp; with_reducible refine hK _ ?_; clear hK K)
       with_reducible refine wpStill_nil ?_
       go_wp2
       (try clear hwr)
       (try clear hwi)
       go_roundw
       case rel => exact ⟨0 + 1, by omega, by first | go_num | rfl, by repeat (first | exact HB2.out | apply below_drew | apply pw_below_drewN)⟩
       case measure => simp [intOf]; omega
     ·
      have hp := HPV.out (by omega)
      obtain ⟨_, e7, cp0, _, _⟩ := HEV.out (j - 1) (by omega)
      cases e7
      have dj : decide ((0 : Int) < (j : Int)) = true := decide_eq_true (by omega)
      have dj' : decide (0 < j) = true := decide_eq_true (by omega)
      have hj1 : ((j - 1 : Nat) : Int) < (o.length : Int) := by omega
      generalize (rdEv o (j - 1)).f0 = pv at cp0 hp
      have dp : decide (at_ < pv) = false := decide_eq_false (by omega)
      have hwi : IntKind.i64.wrap ((j : Int) - 1) = ((j - 1 : Nat) : Int) := by rw [show (j : Int) - 1 = ((j - 1 : Nat) : Int) by omega]; exact IntWalk.i64_in _ (by omega)
      have hwr : IntKind.i64.wrap (s + tm) = s + tm := IntWalk.i64_in _ (by clear hwi; omega)
      clear HPV HEV hp
      cases ov with
      | false =>
       obtain rfl := eF rfl
       clear eF eT
       go_wp2
       refine wp_region_still_tail 70 mixed (by kernel_rfl) ?_
       simp only [List.take_succ_cons, List.take_zero, List.drop_succ_cons, List.drop_zero]
       repeat (with_reducible refine wpStill_step (fun K hK => ?_); go_simp; with_reducible refine hK _ ?_; clear hK K)
       with_reducible refine wpStill_nil ?_
       go_wp2
       (try clear hwr)
       (try clear hwi)
       go_roundw
       case rel => exact ⟨j + 1, by omega, by first | go_num | rfl, by repeat (first | exact HB2.out | apply below_drew | apply pw_below_drewN)⟩
       case measure => simp [intOf]; omega
      | true =>
       obtain rfl := eT rfl
       clear eF eT
       go_wp2
       refine wp_region_still_tail 70 mixed (by kernel_rfl) ?_
       simp only [List.take_succ_cons, List.take_zero, List.drop_succ_cons, List.drop_zero]
       repeat (with_reducible refine wpStill_step (fun K hK => ?_); go_simp; with_reducible refine hK _ ?_; clear hK K)
       with_reducible refine wpStill_nil ?_
       go_wp2
       (try clear hwr)
       (try clear hwi)
       go_roundw
       case rel => exact ⟨j + 1, by omega, by first | go_num | rfl, by repeat (first | exact HB2.out | apply below_drew | apply pw_below_drewN)⟩
       case measure => simp [intOf]; omega
    ·
     obtain rfl : j = o.length := by omega
     have hjj : decide ((o.length : Int) < (o.length : Int)) = false := decide_eq_false (by omega)
     have dle : ((o.length : Int) == 2 * (g.length : Int)) = true := by rw [HLN.out]; simp
     have hwm := HWM.out
     have HBB := Lib.hid hB
     go_wp2
     go_ret
     exact ⟨rfl, HB1.out.trans (HBB.out.mono HB1.out.size)⟩
end Go.Proofs.YtlapphhcficbjaaDoor
