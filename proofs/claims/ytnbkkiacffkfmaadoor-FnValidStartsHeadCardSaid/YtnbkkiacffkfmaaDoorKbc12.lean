/- Parts of the proof, laid as one text by a program of mine. -/
import Derived.Test.YtnbkkiacffkfmaaDoorKbc11
import Derived.StillTailTactics
import Derived.Sort.Grow
import Derived.Test.YtnbkkiacffkfmaaDoorKbc7
namespace Go.Proofs.YtnbkkiacffkfmaaDoor
set_option linter.unusedVariables false
set_option linter.unusedSimpArgs false
open Go.RowKit Go.Shelf Bits
def etS (g : List Tk) (rm : List Int) (wk : Int) (st : List Int) : Int := if vStB g rm wk st then endS g st g.length else -1
def raS (g : List Tk) (rm : List Int) (wk : Int) (st : List Int) (now : Int) : List Nat := if vStB g rm wk st then runS g st now else []
def cancF (g : List Tk) (st : List Int) (now : Int) (i : Nat) : Int := if st.getD i 0 + (rdTk g i).f0 ≤ now then 0 else if st.getD i 0 < now then 1 else 3
def caS (g : List Tk) (rm : List Int) (wk : Int) (st : List Int) (now : Int) : List Int := if vStB g rm wk st && inB now 0 200 then (List.range g.length).map (cancF g st now) else []
def lgS (g : List Tk) (rm : List Int) (wk : Int) (st : List Int) : List Ev := if vStB g rm wk st then chgS g st else []
def lateB (g : List Tk) (st : List Int) (dl : Int) (i : Nat) : Bool := decide (dl - (tailsS g).getD i 0 < st.getD i 0)
def ltS (g : List Tk) (rm : List Int) (wk : Int) (st : List Int) (dl : Int) : List Nat := if vStB g rm wk st && inB dl 0 200 then (List.range g.length).filter (lateB g st dl) else []
def mdS (g : List Tk) (rm : List Int) (wk : Int) (st : List Int) (dl : Int) : Bool := vStB g rm wk st && (inB dl 0 200 && decide (endS g st g.length ≤ dl))
theorem runS_shift {g : List Tk} {st st' : List Int} {d : Int} (h : ∀ i, i < g.length → st'.getD i 0 = st.getD i 0 + d) (now : Int) : runS g st' (now + d) = runS g st now := by
 unfold runS
 apply List.filter_congr
 intro i hi
 rw [Bool.eq_iff_iff, runB_iff, runB_iff, h i (List.mem_range.1 hi)]
 omega
theorem valid_shift {g : List Tk} {rm : List Int} {wk : Int} {st st' : List Int} {d : Int} (h : Valid g rm wk st) (hl : st'.length = g.length) (he : ∀ i, i < g.length → st'.getD i 0 = st.getD i 0 + d) (hb : ∀ i, i < g.length → 0 ≤ st'.getD i 0 ∧ st'.getD i 0 ≤ 200) : Valid g rm wk st' := by
 refine ⟨h.v, h.p, hl, hb, fun i hi => ?_⟩
 obtain ⟨h1, h2, h3⟩ := h.run i hi
 unfold runOk
 rw [he i hi, runS_shift he]
 refine ⟨fun k hk => ?_, h2, h3⟩
 have := spec_needs_in h.v i hi _ hk
 have := h1 k hk
 rw [he k (by omega)]
 omega
theorem valid_more {g : List Tk} {rm rm' : List Int} {wk wk' : Int} {st : List Int} (h : Valid g rm wk st) (hp : placeB rm' wk' = true) (hw : wk ≤ wk') (hr : ∀ p, p < 3 → rm.getD p 0 ≤ rm'.getD p 0) : Valid g rm' wk' st := by
 refine ⟨h.v, hp, h.len, h.b, fun i hi => ?_⟩
 obtain ⟨h1, h2, h3⟩ := h.run i hi
 exact ⟨h1, by omega, fun p hp => by have := h3 p hp; have := hr p hp; omega⟩
theorem endS_some {g : List Tk} {st : List Int} : ∀ n, 0 < n → (∀ i, i < n → 0 ≤ st.getD i 0 + (rdTk g i).f0) → ∃ i, i < n ∧ st.getD i 0 + (rdTk g i).f0 = endS g st n
 | 0, h, _ => absurd h (Nat.lt_irrefl _)
 | n + 1, _, h => by
  by_cases hn : 0 < n
  ·
   obtain ⟨i, hi, he⟩ := endS_some n hn (fun i hi => h i (by omega))
   unfold endS
   by_cases hc : endS g st n ≤ st.getD n 0 + (rdTk g n).f0
   ·
    exact ⟨n, by omega, by omega⟩
   ·
    exact ⟨i, by omega, by omega⟩
  ·
   obtain rfl : n = 0 := by omega
   refine ⟨0, by omega, ?_⟩
   have := h 0 (by omega)
   unfold endS endS
   omega
theorem endS_nonneg (g : List Tk) (st : List Int) : ∀ n, 0 ≤ endS g st n
 | 0 => Int.le_refl _
 | n + 1 => by
  have := endS_nonneg g st n
  unfold endS
  omega
theorem Valid.end_some {g : List Tk} {rm : List Int} {wk : Int} {st : List Int} (h : Valid g rm wk st) (hn : 0 < g.length) : ∃ i, i < g.length ∧ st.getD i 0 + (rdTk g i).f0 = endS g st g.length :=
 endS_some _ hn (fun i hi => by have := h.b i hi; have := h.ok.2.1 i; omega)
theorem Valid.end_pos {g : List Tk} {rm : List Int} {wk : Int} {st : List Int} (h : Valid g rm wk st) (hn : 0 < g.length) : 1 ≤ endS g st g.length := by
 obtain ⟨i, hi, he⟩ := h.end_some hn
 have := h.b i hi
 have := h.ok.2.2.2.2 i hi
 omega
theorem end_shift {g : List Tk} {rm : List Int} {wk : Int} {st st' : List Int} {d : Int} (h : Valid g rm wk st) (h' : Valid g rm wk st') (hn : 0 < g.length) (he : ∀ i, i < g.length → st'.getD i 0 = st.getD i 0 + d) : endS g st' g.length = endS g st g.length + d := by
 obtain ⟨i, hi, e1⟩ := h.end_some hn
 obtain ⟨j, hj, e2⟩ := h'.end_some hn
 have h1 := endS_mono g st j _ hj
 have h2 := endS_mono g st' i _ hi
 rw [he i hi] at h2
 rw [he j hj] at e2
 omega
theorem Valid.runs {g : List Tk} {rm : List Int} {wk : Int} {st : List Int} (h : Valid g rm wk st) (now : Int) : ((runS g st now).length : Int) ≤ wk ∧ ∀ p : Nat, p < 3 → usedS g (runS g st now) p ≤ rm.getD p 0 := by
 have hok := h.ok
 obtain ⟨hr, hw, _⟩ := placeB_facts h.p
 have hr := (roomB_facts hr).2
 by_cases hex : ∃ k, k < g.length ∧ runB g st now k = true
 ·
  obtain ⟨j, hj, hp, hl⟩ := last_of (st := st) (P := runB g st now) g.length hex
  have hjr := runB_iff.1 hp
  obtain ⟨_, h2, h3⟩ := h.run j hj
  have hsub : ∀ k, k < g.length → runB g st now k = true → runB g st (st.getD j 0) k = true := fun k hk hpk => by
   have hkr := runB_iff.1 hpk
   rcases hl k hk hpk with hh | hh
   ·
    exact runB_iff.2 (by omega)
   ·
    exact runB_iff.2 (by omega)
  constructor
  ·
   have := filter_len_le g.length hsub
   unfold runS at h2 ⊢
   omega
  ·
   intro p hp3
   have h4 := usedS_filter g p (P := runB g st now) (Q := runB g st (st.getD j 0)) hok g.length (fun k hk hpk _ => hsub k hk hpk)
   have h5 := h3 p hp3
   unfold runS at h5 ⊢
   omega
 ·
  have e : runS g st now = [] := by
   unfold runS
   rw [List.filter_eq_nil_iff]
   exact fun i hi hpi => hex ⟨i, List.mem_range.1 hi, hpi⟩
  rw [e]
  refine ⟨by simp; omega, fun p hp3 => ?_⟩
  have := (hr p hp3).1
  show (0 : Int) ≤ _
  omega
theorem Valid.run_end {g : List Tk} {rm : List Int} {wk : Int} {st : List Int} (h : Valid g rm wk st) : runS g st (endS g st g.length) = [] ∧ runS g st (-1) = [] ∧ (endS g st g.length ≠ 0 → runS g st (endS g st g.length - 1) ≠ []) := by
 refine ⟨?_, ?_, fun hne => ?_⟩
 ·
  unfold runS
  rw [List.filter_eq_nil_iff]
  intro i hi hp
  have := runB_iff.1 hp
  have := endS_mono g st i _ (List.mem_range.1 hi)
  omega
 ·
  unfold runS
  rw [List.filter_eq_nil_iff]
  intro i hi hp
  have := runB_iff.1 hp
  have := h.b i (List.mem_range.1 hi)
  omega
 ·
  have hn : 0 < g.length := by
   by_cases hn : 0 < g.length
   ·
    exact hn
   ·
    refine absurd ?_ hne
    rw [show g.length = 0 by omega]
    rfl
  obtain ⟨i, hi, he⟩ := h.end_some hn
  have := h.ok.2.2.2.2 i hi
  exact List.ne_nil_of_mem (mem_runS.2 ⟨hi, by omega, by omega⟩)
def clampW (g : List Tk) (st : List Int) (m : Int) (i : Nat) : Int := max 0 (min (rdTk g i).f0 (m - st.getD i 0))
theorem sumTo_mul {a : Nat → Int} {b : Nat → Int} {c : Nat → Int} : ∀ n, (∀ i, i < n → a i + b i = c i) → sumTo a n + sumTo b n = sumTo c n
 | 0, _ => rfl
 | n + 1, h => by
  have h1 := sumTo_mul n (fun i hi => h i (by omega))
  have h2 := h n (by omega)
  unfold sumTo
  omega
theorem work_done {g : List Tk} (hok : TOk g) {st : List Int} (h0 : ∀ i, i < g.length → 0 ≤ st.getD i 0) (wt : Nat → Int) : ∀ m : Nat, sumTo (fun t => sumTo (fun i => if runB g st t i then wt i else 0) g.length) m = sumTo (fun i => wt i * clampW g st m i) g.length
 | 0 => by
  show (0 : Int) = _
  have : sumTo (fun i => wt i * clampW g st (0 : Nat) i) g.length = sumTo (fun _ => 0) g.length := sumTo_congr _ (fun i hi => by
   unfold clampW
   have := h0 i hi
   have := hok.2.1 i
   rw [show max 0 (min (rdTk g i).f0 (((0 : Nat) : Int) - st.getD i 0)) = 0 by omega, Int.mul_zero])
  rw [this]
  have := sumTo_bound (f := fun _ => (0 : Int)) (a := 0) (b := 0) g.length (fun i _ => by omega)
  omega
 | m + 1 => by
  have ih := work_done hok h0 wt m
  show sumTo (fun t => sumTo (fun i => if runB g st t i then wt i else 0) g.length) m + sumTo (fun i => if runB g st (m : Nat) i then wt i else 0) g.length = _
  rw [ih]
  refine sumTo_mul _ (fun i hi => ?_)
  have ht := hok.2.2.2.2 i hi
  have hs := h0 i hi
  unfold clampW
  by_cases hr : runB g st (m : Int) i = true
  ·
   have := runB_iff.1 hr
   rw [if_pos hr, show max 0 (min (rdTk g i).f0 ((m + 1 : Nat) - st.getD i 0)) = max 0 (min (rdTk g i).f0 ((m : Int) - st.getD i 0)) + 1 by omega, Int.mul_add, Int.mul_one]
  ·
   rw [if_neg hr]
   have hn : ¬ (st.getD i 0 ≤ (m : Int) ∧ (m : Int) < st.getD i 0 + (rdTk g i).f0) := fun h => hr (runB_iff.2 h)
   rw [show max 0 (min (rdTk g i).f0 ((m + 1 : Nat) - st.getD i 0)) = max 0 (min (rdTk g i).f0 ((m : Int) - st.getD i 0)) by omega, Int.add_zero]
theorem work_all {g : List Tk} (hok : TOk g) {st : List Int} (h0 : ∀ i, i < g.length → 0 ≤ st.getD i 0) (wt : Nat → Int) {m : Nat} (hm : ∀ i, i < g.length → st.getD i 0 + (rdTk g i).f0 ≤ m) : sumTo (fun t => sumTo (fun i => if runB g st t i then wt i else 0) g.length) m = sumTo (fun i => wt i * (rdTk g i).f0) g.length := by
 rw [work_done hok h0]
 refine sumTo_congr _ (fun i hi => ?_)
 have := hm i hi
 have := hok.2.1 i
 unfold clampW
 rw [show max 0 (min (rdTk g i).f0 ((m : Int) - st.getD i 0)) = (rdTk g i).f0 by omega]
theorem run_sum {g : List Tk} (hok : TOk g) {st : List Int} (h0 : ∀ i, i < g.length → 0 ≤ st.getD i 0) {m : Nat} (hm : ∀ i, i < g.length → st.getD i 0 + (rdTk g i).f0 ≤ m) : sumTo (fun t => ((runS g st (t : Nat)).length : Nat)) m = timeS g := by
 have h := work_all hok h0 (fun _ => 1) hm
 have e : sumTo (fun t => sumTo (fun i => if runB g st (t : Nat) i then 1 else 0) g.length) m = sumTo (fun t => ((runS g st (t : Nat)).length : Nat)) m := sumTo_congr _ (fun t _ => by
  rw [sumTo_count]
  rfl)
 rw [← e, h]
 exact sumTo_congr _ (fun i _ => by rw [Int.one_mul])
theorem run_used {g : List Tk} (hok : TOk g) {st : List Int} (h0 : ∀ i, i < g.length → 0 ≤ st.getD i 0) {m : Nat} (hm : ∀ i, i < g.length → st.getD i 0 + (rdTk g i).f0 ≤ m) (p : Int) : sumTo (fun t => usedS g (runS g st (t : Nat)) p) m = sumTo (fun i => if (rdTk g i).f2 = p then (rdTk g i).f0 * (rdTk g i).f3 else 0) g.length := by
 have h := work_all hok h0 (fun i => if (rdTk g i).f2 = p then (rdTk g i).f3 else 0) hm
 have e : sumTo (fun t => sumTo (fun i => if runB g st (t : Nat) i then (if (rdTk g i).f2 = p then (rdTk g i).f3 else 0) else 0) g.length) m = sumTo (fun t => usedS g (runS g st (t : Nat)) p) m := sumTo_congr _ (fun t _ => by
  unfold runS
  rw [← sumTo_used]
  exact sumTo_congr _ (fun i _ => by cases runB g st (t : Nat) i <;> simp))
 rw [← e, h]
 refine sumTo_congr _ (fun i _ => ?_)
 by_cases hc : (rdTk g i).f2 = p
 ·
  rw [if_pos hc, if_pos hc, Int.mul_comm]
 ·
  rw [if_neg hc, if_neg hc, Int.zero_mul]
theorem tails_ge {g : List Tk} (hv : specValid g = true) {i : Nat} (hi : i < g.length) : (rdTk g i).f0 ≤ (tailsS g).getD i 0 := by
 have hok := specValid_TOk hv
 have key : ∀ (pre : List Nat) (o : List Int), o.length = g.length → ((rdTk g i).f0 ≤ o.getD i 0 ∨ ∃ p ∈ pre, (topL g).getD p 0 = i) → (rdTk g i).f0 ≤ (pre.foldl (fun o p => sStep g o ((topL g).getD p 0)) o).getD i 0 := by
  intro pre
  induction pre with
  | nil =>
   rintro o _ (h | ⟨_, h, _⟩)
   ·
    exact h
   ·
    cases h
  | cons p pre ih =>
   intro o hl h
   refine ih _ (by unfold sStep; rw [List.length_set]; exact hl) ?_
   have hm := mostS_nonneg g o ((topL g).getD p 0) g.length
   unfold sStep
   rw [getD_setL]
   by_cases hc : i = (topL g).getD p 0 ∧ (topL g).getD p 0 < o.length
   ·
    rw [if_pos hc]
    left
    rw [← hc.1] at hm ⊢
    omega
   ·
    rw [if_neg hc]
    rcases h with h | ⟨q, hq, he⟩
    ·
     exact .inl h
    ·
     rcases List.mem_cons.1 hq with rfl | hq
     ·
      exact absurd ⟨he.symm, by rw [he, hl]; exact hi⟩ hc
     ·
      exact .inr ⟨q, hq, he⟩
 refine key _ _ (by simp) (.inr ?_)
 obtain ⟨p, hp, e⟩ := List.getElem_of_mem (top_all hv hi)
 refine ⟨p, ?_, by rw [List.getD_eq_getElem?_getD, List.getElem?_eq_getElem hp]; exact e⟩
 unfold backL
 rw [List.mem_map]
 exact ⟨(topL g).length - 1 - p, List.mem_range.2 (by omega), by omega⟩
theorem lateB_iff {g : List Tk} {st : List Int} {dl : Int} {i : Nat} : lateB g st dl i = true ↔ dl - (tailsS g).getD i 0 < st.getD i 0 := by
 unfold lateB
 exact decide_eq_true_iff
theorem late_end {g : List Tk} {rm : List Int} {wk : Int} {st : List Int} (h : Valid g rm wk st) {dl : Int} {i : Nat} (hi : i < g.length) (hl : lateB g st dl i = true) : dl < endS g st g.length := by
 have hl := lateB_iff.1 hl
 have h1 := tails_ge h.v hi
 have h2 := h.ok.2.2.2.2 i hi
 rcases tails_fit (E := endS g st g.length) (fun i hi => endS_mono g st i _ hi) h.needs i hi with h3 | h3
 ·
  omega
 ·
  omega
theorem last_late {g : List Tk} {rm : List Int} {wk : Int} {st : List Int} (h : Valid g rm wk st) {dl : Int} (hd : dl < endS g st g.length) {i : Nat} (hi : i < g.length) (he : st.getD i 0 + (rdTk g i).f0 = endS g st g.length) : lateB g st dl i = true := by
 have := tails_ge h.v hi
 exact lateB_iff.2 (by omega)
theorem late_iff {g : List Tk} {rm : List Int} {wk : Int} {st : List Int} (h : Valid g rm wk st) (dl : Int) (hd0 : 0 ≤ dl) : (List.range g.length).filter (lateB g st dl) ≠ [] ↔ dl < endS g st g.length := by
 constructor
 ·
  intro hne
  obtain ⟨i, t, e⟩ := List.exists_cons_of_ne_nil hne
  have hm : i ∈ (List.range g.length).filter (lateB g st dl) := by rw [e]; exact List.mem_cons_self
  have hm := List.mem_filter.1 hm
  exact late_end h (List.mem_range.1 hm.1) hm.2
 ·
  intro hd
  have hn : 0 < g.length := by
   by_cases hn : 0 < g.length
   ·
    exact hn
   ·
    rw [show g.length = 0 by omega] at hd
    have : endS g st 0 = 0 := rfl
    omega
  obtain ⟨i, hi, he⟩ := h.end_some hn
  exact List.ne_nil_of_mem (List.mem_filter.2 ⟨List.mem_range.2 hi, last_late h hd hi he⟩)
theorem caS_get {g : List Tk} {st : List Int} {now : Int} {i : Nat} (hi : i < g.length) : ((List.range g.length).map (cancF g st now)).getD i 0 = cancF g st now i := by
 rw [List.getD_eq_getElem?_getD, List.getElem?_map, List.getElem?_range hi]
 rfl
theorem canc_done {g : List Tk} {st : List Int} {now : Int} {i : Nat} : cancF g st now i = 0 ↔ st.getD i 0 + (rdTk g i).f0 ≤ now := by
 unfold cancF
 split
 ·
  simp_all
 ·
  split <;> simp_all
theorem canc_failed {g : List Tk} {st : List Int} {now : Int} {i : Nat} : cancF g st now i = 1 ↔ st.getD i 0 < now ∧ ¬ st.getD i 0 + (rdTk g i).f0 ≤ now := by
 unfold cancF
 split
 ·
  rename_i h
  simp only [h, not_true_eq_false, and_false]
  decide
 ·
  rename_i h
  split
  ·
   rename_i h2
   simp only [h2, h, not_false_eq_true, and_self]
  ·
   rename_i h2
   simp only [h2, false_and]
   decide
theorem canc_left {g : List Tk} (hok : TOk g) {st : List Int} {now : Int} {i : Nat} (hi : i < g.length) : cancF g st now i = 3 ↔ now ≤ st.getD i 0 := by
 have := hok.2.2.2.2 i hi
 unfold cancF
 split
 ·
  rename_i h
  constructor
  ·
   intro h; exact absurd h (by decide)
  ·
   intro h2; omega
 ·
  rename_i h
  split
  ·
   rename_i h2
   constructor
   ·
    intro h; exact absurd h (by decide)
   ·
    intro h3; omega
  ·
   rename_i h2
   exact ⟨fun _ => by omega, fun _ => rfl⟩
end Go.Proofs.YtnbkkiacffkfmaaDoor

namespace Go.Proofs.YtnbkkiacffkfmaaDoor
set_option linter.unusedVariables false
set_option linter.unusedSimpArgs false
open Go.RowKit Go.Shelf Bits
def laterN (d : Int) (st : List Int) (j : Nat) : List Int := (st.take j).map fun x => x + d
theorem laterN_len {d : Int} {st : List Int} {j : Nat} (h : j ≤ st.length) : (laterN d st j).length = j := by
 unfold laterN
 rw [List.length_map, List.length_take]
 omega
theorem laterN_get {d : Int} {st : List Int} {i j : Nat} (hi : i < j) (hj : j ≤ st.length) : (laterN d st j).getD i 0 = st.getD i 0 + d := by
 unfold laterN
 rw [List.getD_eq_getElem?_getD, List.getElem?_map, List.getElem?_take_of_lt hi, List.getD_eq_getElem?_getD, List.getElem?_eq_getElem (by omega)]
 rfl
theorem laterN_snoc {d : Int} {st : List Int} {j : Nat} (hj : j < st.length) : laterN d st (j + 1) = laterN d st j ++ [st.getD j 0 + d] := by
 unfold laterN
 rw [List.take_succ_eq_append_getElem hj, List.map_append, List.getD_eq_getElem?_getD, List.getElem?_eq_getElem hj]
 rfl
theorem later_valid {g : List Tk} {rm : List Int} {wk : Int} {st : List Int} {d : Int} (h : Valid g rm wk st) (hd : 0 ≤ d) (hs : ∀ k, k < st.length → st.getD k 0 + d ≤ 200) : Valid g rm wk (laterN d st st.length) := by
 refine valid_shift (d := d) h (by rw [laterN_len (Nat.le_refl _)]; exact h.len) (fun i hi => laterN_get (by rw [h.len]; exact hi) (Nat.le_refl _)) (fun i hi => ?_)
 have hil : i < st.length := by rw [h.len]; exact hi
 rw [laterN_get hil (Nat.le_refl _)]
 have := h.b i hi
 have := hs i hil
 omega
theorem later_end {g : List Tk} {rm : List Int} {wk : Int} {st : List Int} {d : Int} (h : Valid g rm wk st) (hd : 0 ≤ d) (hs : ∀ k, k < st.length → st.getD k 0 + d ≤ 200) (hn : 0 < g.length) : etS g rm wk (laterN d st st.length) = etS g rm wk st + d := by
 have h' := later_valid h hd hs
 unfold etS
 rw [if_pos (valid_vSt h), if_pos (valid_vSt h')]
 exact end_shift h h' hn (fun i hi => laterN_get (by rw [h.len]; exact hi) (Nat.le_refl _))
theorem large_valid {g : List Tk} {rm : List Int} {wk : Int} {st : List Int} (h : Valid g rm wk st) : Valid g (List.replicate rm.length 8) 4 st := by
 obtain ⟨h1, h2, h3⟩ := placeB_facts h.p
 obtain ⟨h4, h5⟩ := roomB_facts h1
 rw [h4]
 refine valid_more h (by decide) h3 (fun p hp => ?_)
 have := (h5 p hp).2
 have e : (List.replicate 3 (8 : Int)).getD p 0 = 8 := by
  rcases p with _ | _ | _ | p
  ·
   rfl
  ·
   rfl
  ·
   rfl
  ·
   omega
 omega
theorem rep_snoc (n : Nat) (x : Int) : List.replicate (n + 1) x = List.replicate n x ++ [x] := List.replicate_succ'
theorem etS_valid {g : List Tk} {rm : List Int} {wk : Int} {st : List Int} (h : Valid g rm wk st) : etS g rm wk st = endS g st g.length := by
 unfold etS
 rw [if_pos (valid_vSt h)]
theorem etS_no {g : List Tk} {rm : List Int} {wk : Int} {st : List Int} (h : vStB g rm wk st = false) : etS g rm wk st = -1 := by
 unfold etS
 rw [h]
 rfl
theorem etS_cases (g : List Tk) (rm : List Int) (wk : Int) (st : List Int) : (etS g rm wk st = -1 ∧ vStB g rm wk st = false) ∨ (0 ≤ etS g rm wk st ∧ Valid g rm wk st) := by
 cases h : vStB g rm wk st with
 | false => exact .inl ⟨etS_no h, rfl⟩
 | true =>
  refine .inr ⟨?_, vSt_valid h⟩
  rw [etS_valid (vSt_valid h)]
  exact endS_nonneg _ _ _
theorem etS_bound (g : List Tk) (rm : List Int) (wk : Int) (st : List Int) : -1 ≤ etS g rm wk st ∧ etS g rm wk st ≤ 1020 := by
 cases h : vStB g rm wk st with
 | false => rw [etS_no h]; omega
 | true =>
  have hv := vSt_valid h
  rw [etS_valid hv]
  have := endS_bound hv.ok hv.sok g.length
  omega
def someEnd (g : List Tk) (st : List Int) (n : Int) (j : Nat) : Bool := (List.range j).any fun i => st.getD i 0 + (rdTk g i).f0 == n
theorem someEnd_snoc (g : List Tk) (st : List Int) (n : Int) (j : Nat) : someEnd g st n (j + 1) = (someEnd g st n j || (st.getD j 0 + (rdTk g j).f0 == n)) := by
 unfold someEnd
 rw [List.range_succ, List.any_append]
 simp
theorem someEnd_all {g : List Tk} {rm : List Int} {wk : Int} {st : List Int} (h : Valid g rm wk st) (hn : 0 < g.length) : someEnd g st (etS g rm wk st) g.length = true := by
 rw [etS_valid h]
 obtain ⟨i, hi, he⟩ := h.end_some hn
 unfold someEnd
 rw [List.any_eq_true]
 exact ⟨i, List.mem_range.2 hi, by rw [beq_iff_eq]; exact he⟩
theorem end_ge {g : List Tk} {st : List Int} : ∀ n i, i < n → st.getD i 0 + (rdTk g i).f0 ≤ endS g st n
 | n + 1, i, hi => by
  unfold endS
  by_cases h : i = n
  ·
   subst h
   exact Int.le_max_right _ _
  ·
   exact Int.le_trans (end_ge n i (by omega)) (Int.le_max_left _ _)
theorem etS_ge {g : List Tk} {rm : List Int} {wk : Int} {st : List Int} (h : Valid g rm wk st) {i : Nat} (hi : i < g.length) : st.getD i 0 + (rdTk g i).f0 ≤ etS g rm wk st := by
 rw [etS_valid h]
 exact end_ge _ i hi
theorem mdS_never {g : List Tk} {rm : List Int} {wk : Int} {st : List Int} (h : Valid g rm wk st) : mdS g rm wk st 0 = decide (g.length = 0) := by
 unfold mdS
 rw [valid_vSt h]
 by_cases hg : g.length = 0
 ·
  rw [hg, decide_eq_true rfl]
  rfl
 ·
  have := h.end_pos (by omega)
  rw [decide_eq_false hg, decide_eq_false (show ¬ endS g st g.length ≤ 0 by omega)]
  rfl
theorem mdS_is {g : List Tk} {rm : List Int} {wk : Int} {st : List Int} (h : Valid g rm wk st) {dl : Int} (hd : 0 ≤ dl ∧ dl ≤ 200) : mdS g rm wk st dl = decide (etS g rm wk st ≤ dl) := by
 unfold mdS
 rw [valid_vSt h, inB_true.2 hd, etS_valid h]
 rfl
theorem caS_no {g : List Tk} {rm : List Int} {wk : Int} {st : List Int} {now : Int} (h : (vStB g rm wk st && inB now 0 200) = false) : caS g rm wk st now = [] := by
 unfold caS
 rw [h]
 rfl
theorem caS_yes {g : List Tk} {rm : List Int} {wk : Int} {st : List Int} {now : Int} (h : Valid g rm wk st) (hn : 0 ≤ now ∧ now ≤ 200) : caS g rm wk st now = (List.range g.length).map (cancF g st now) := by
 unfold caS
 rw [valid_vSt h, inB_true.2 hn]
 rfl
theorem caS_cases (g : List Tk) (rm : List Int) (wk : Int) (st : List Int) (now : Int) : caS g rm wk st now = [] ∨ (Valid g rm wk st ∧ (0 ≤ now ∧ now ≤ 200) ∧ caS g rm wk st now = (List.range g.length).map (cancF g st now)) := by
 cases h : (vStB g rm wk st && inB now 0 200) with
 | false => exact .inl (caS_no h)
 | true =>
  rw [Bool.and_eq_true] at h
  exact .inr ⟨vSt_valid h.1, inB_true.1 h.2, caS_yes (vSt_valid h.1) (inB_true.1 h.2)⟩
theorem canc_len (F : Nat → Int) (n : Nat) : ((List.range n).map F).length = n := by simp
theorem cancF_bound (g : List Tk) (st : List Int) (now : Int) (i : Nat) : 0 ≤ cancF g st now i ∧ cancF g st now i ≤ 3 := by
 unfold cancF
 split
 ·
  omega
 ·
  split <;> omega
theorem canc_row_bound (g : List Tk) (st : List Int) (now : Int) (i : Nat) : 0 ≤ ((List.range g.length).map (cancF g st now)).getD i 0 ∧ ((List.range g.length).map (cancF g st now)).getD i 0 ≤ 1000 := by
 by_cases h : i < g.length
 ·
  rw [caS_get h]
  have := cancF_bound g st now i
  omega
 ·
  rw [getD_out (by rw [canc_len]; exact h)]
  omega
theorem canc_needs {g : List Tk} {rm : List Int} {wk : Int} {st : List Int} (h : Valid g rm wk st) {now : Int} {i : Nat} (hi : i < g.length) (hc : cancF g st now i ≠ 3) {x : Int} (hx : x ∈ (rdTk g i).f1) : cancF g st now x.toNat = 0 := by
 have hs : st.getD i 0 < now := by
  apply Classical.byContradiction
  intro hn
  exact hc ((canc_left h.ok hi).2 (by omega))
 have hx0 := spec_needs_in h.v i hi x hx
 have := h.needs i hi x.toNat (by rw [Int.toNat_of_nonneg hx0.1]; exact hx)
 exact canc_done.2 (by omega)
theorem canc_end {g : List Tk} {rm : List Int} {wk : Int} {st : List Int} (h : Valid g rm wk st) {i : Nat} (hi : i < g.length) : cancF g st (etS g rm wk st) i = 0 := canc_done.2 (etS_ge h hi)
theorem canc_zero {g : List Tk} {rm : List Int} {wk : Int} {st : List Int} (h : Valid g rm wk st) {i : Nat} (hi : i < g.length) : cancF g st 0 i = 3 := (canc_left h.ok hi).2 (h.b i hi).1
theorem canc_more {g : List Tk} (hok : TOk g) {st : List Int} {now : Int} {i : Nat} (hi : i < g.length) : (cancF g st now i = 0 → cancF g st (now + 1) i = 0) ∧ (cancF g st now i = 1 → cancF g st (now + 1) i ≠ 3) ∧ (cancF g st now i = 0 ∨ cancF g st now i = 1 ∨ cancF g st now i = 3) := by
 refine ⟨fun h => ?_, fun h => ?_, ?_⟩
 ·
  have := canc_done.1 h
  exact canc_done.2 (by omega)
 ·
  have := (canc_failed.1 h).1
  intro h3
  have := (canc_left hok hi).1 h3
  omega
 ·
  unfold cancF
  split
  ·
   exact .inl rfl
  ·
   split
   ·
    exact .inr (.inl rfl)
   ·
    exact .inr (.inr rfl)
end Go.Proofs.YtnbkkiacffkfmaaDoor

namespace Go.Proofs.YtnbkkiacffkfmaaDoor
set_option linter.unusedVariables false
set_option linter.unusedSimpArgs false
open Go.RowKit Go.Shelf Bits
open Go.Proofs.YtnbkkiacffkfmaaDoorW.PrintWords Go.Proofs.YtnbkkiacffkfmaaDoorW.PrintLast Go.Proofs.YtnbkkiacffkfmaaDoorW.PrintMore
attribute [local go_sem] Oper.semAt_some
def cmpI (x y : Int) : Int := if x < y then -1 else if y < x then 1 else 0
def cmpE (a b : Ev) : Int := if a.f0 = b.f0 ∧ a.f2 ≠ b.f2 then (if a.f2 then -1 else 1) else if cmpI a.f0 b.f0 ≠ 0 then cmpI a.f0 b.f0 else cmpI a.f1 b.f1
theorem cmpI_neg {x y : Int} : cmpI x y < 0 ↔ x < y := by
 unfold cmpI
 split
 ·
  simp_all
 ·
  split <;> simp_all
theorem cmpI_zero {x y : Int} : cmpI x y = 0 ↔ x = y := by
 unfold cmpI
 split
 ·
  rename_i h
  constructor
  ·
   intro e; exact absurd e (by decide)
  ·
   intro e; omega
 ·
  rename_i h
  split
  ·
   rename_i h2
   constructor
   ·
    intro e; exact absurd e (by decide)
   ·
    intro e; omega
  ·
   rename_i h2
   exact ⟨fun _ => by omega, fun _ => rfl⟩
theorem cmpE_lt (a b : Ev) : cmpE a b < 0 ↔ ltE a b := by
 unfold cmpE ltE
 by_cases h0 : a.f0 = b.f0
 ·
  by_cases h2 : a.f2 = b.f2
  ·
   rw [if_neg (fun h => h.2 h2), if_neg (by rw [cmpI_zero.2 h0]; simp), cmpI_neg]
   constructor
   ·
    intro h
    exact .inr ⟨h0, .inr ⟨h2, h⟩⟩
   ·
    rintro (h | ⟨_, ⟨h, k⟩ | ⟨_, h⟩⟩)
    ·
     omega
    ·
     rw [h, k] at h2; cases h2
    ·
     exact h
  ·
   rw [if_pos ⟨h0, h2⟩]
   cases ha : a.f2
   ·
    simp only [Bool.false_eq_true, if_false]
    constructor
    ·
     intro h; exact absurd h (by decide)
    ·
     rintro (h | ⟨_, ⟨h, _⟩ | ⟨h, _⟩⟩)
     ·
      omega
     ·
      cases h
     ·
      rw [ha] at h2; exact absurd h h2
   ·
    have hb : b.f2 = false := by
     cases hb : b.f2
     ·
      rfl
     ·
      rw [ha, hb] at h2; exact absurd rfl h2
    simp only [if_true]
    exact ⟨fun _ => .inr ⟨h0, .inl ⟨by first | rfl | trivial | exact ha, hb⟩⟩, fun _ => by decide⟩
 ·
  rw [if_neg (fun h => h0 h.1), if_pos (fun h => h0 (cmpI_zero.1 h)), cmpI_neg]
  constructor
  ·
   exact .inl
  ·
   rintro (h | ⟨h, _⟩)
   ·
    exact h
   ·
    exact absurd h h0
theorem isNaN_calls (x : Int) (w : World) : Calls Tryd.prog 101 #[.int .i64 x] w fun e w' => e = .returned (.bool false) ∧ w' = w := by
 go_enter Tryd.func101, Tryd.ntmps101
 go_wp2
 go_ret
 exact ⟨ret_bool (by simp), rfl⟩
theorem compare_calls (x y : Int) (w : World) : Calls Tryd.prog 88 #[.int .i64 x, .int .i64 y] w fun e w' => e = .returned (.int .i64 (cmpI x y)) ∧ w' = w := by
 by_cases h1 : x < y
 ·
  have d1 : decide (x < y) = true := decide_eq_true h1
  have HF : Hid (cmpI x y = -1) := Lib.hid (by unfold cmpI; rw [if_pos h1])
  clear h1
  go_enter Tryd.func88, Tryd.ntmps88
  go_wp2_with (go_at_call 101; refine (isNaN_calls _ _).mono ?_; rintro e w' ⟨rfl, rfl⟩)
  go_ret
  exact ⟨ret_int HF.out.symm, rfl⟩
 ·
  have d1 : decide (x < y) = false := decide_eq_false h1
  by_cases h2 : y < x
  ·
   have d2 : decide (y < x) = true := decide_eq_true h2
   have HF : Hid (cmpI x y = 1) := Lib.hid (by unfold cmpI; rw [if_neg h1, if_pos h2])
   clear h1 h2
   go_enter Tryd.func88, Tryd.ntmps88
   go_wp2_with (go_at_call 101; refine (isNaN_calls _ _).mono ?_; rintro e w' ⟨rfl, rfl⟩)
   go_ret
   exact ⟨ret_int HF.out.symm, rfl⟩
  ·
   have d2 : decide (y < x) = false := decide_eq_false h2
   have HF : Hid (cmpI x y = 0) := Lib.hid (by unfold cmpI; rw [if_neg h1, if_neg h2])
   clear h1 h2
   go_enter Tryd.func88, Tryd.ntmps88
   go_wp2_with (go_at_call 101; refine (isNaN_calls _ _).mono ?_; rintro e w' ⟨rfl, rfl⟩)
   go_ret
   exact ⟨ret_int HF.out.symm, rfl⟩
theorem or_calls (A : Option Addr) (c : Nat) (a b r : Int) (HR : Hid ((if a ≠ 0 then a else b) = r)) (w : World) (hr : (Kd.int .i64).C w A 2 [a, b]) : Calls Tryd.prog 87 #[.slice A 2 c] w fun e w' => e = .returned (.int .i64 r) ∧ w' = w := by
 obtain ⟨ad, rfl, c0⟩ := at_num hr 0 (by omega)
 obtain ⟨ad', e', c1⟩ := at_num hr 1 (by omega)
 cases e'
 replace c0 : w.cell? (ad.add 0) = some (.int .i64 a) := c0
 rw [show ad.add 0 = ad from by cases ad; rfl] at c0
 replace c1 : w.cell? (ad.add 1) = some (.int .i64 b) := c1
 have c1 : w.cell? ⟨ad.block, ad.off + 1, none⟩ = some (.int .i64 b) := by simpa [Addr.add] using c1
 clear hr
 go_enter Tryd.func87, Tryd.ntmps87
 go_wp2
 go_loop [8] (fun i => ∃ (j : Nat), j ≤ 2 ∧ i = .int .i64 j ∧ Hid ((1 ≤ j → a = 0) ∧ (2 ≤ j → b = 0))) (fun i => 2 - (intOf i).toNat)
 case atStart => exact ⟨0, by omega, rfl, Lib.hid ⟨fun h => by omega, fun h => by omega⟩⟩
 case round =>
  obtain ⟨j, hj, rfl, HS⟩ := hrel
  by_cases h0 : j = 0
  ·
   subst h0
   by_cases ha : a = 0
   ·
    have da : (a != 0) = false := by rw [bne_eq_false_iff_eq]; exact ha
    have HA := Lib.hid ha
    clear ha
    go_wp2
    go_round
    case rel => exact ⟨1, by omega, rfl, Lib.hid ⟨fun _ => HA.out, fun h => by omega⟩⟩
    case measure => simp [intOf]
   ·
    have da : (a != 0) = true := by rw [bne_iff_ne]; exact ha
    have HF : Hid (r = a) := Lib.hid (by rw [← HR.out]; exact if_pos ha)
    clear ha
    go_wp2
    go_ret
    exact ⟨ret_int HF.out.symm, rfl⟩
  ·
   by_cases h1 : j = 1
   ·
    subst h1
    have HA := Lib.hid (HS.out.1 (Nat.le_refl _))
    by_cases hb : b = 0
    ·
     have da : (b != 0) = false := by rw [bne_eq_false_iff_eq]; exact hb
     have HB := Lib.hid hb
     clear hb h0
     go_wp2
     go_round
     case rel => exact ⟨2, by omega, rfl, Lib.hid ⟨fun _ => HA.out, fun _ => HB.out⟩⟩
     case measure => simp [intOf]
    ·
     have da : (b != 0) = true := by rw [bne_iff_ne]; exact hb
     have HF : Hid (r = b) := Lib.hid (by rw [← HR.out]; exact if_neg (fun h => h HA.out))
     clear hb h0
     go_wp2
     go_ret
     exact ⟨ret_int HF.out.symm, rfl⟩
   ·
    obtain rfl : j = 2 := by omega
    have HF : Hid (r = 0) := Lib.hid (by rw [← HR.out, HS.out.2 (Nat.le_refl _), HS.out.1 (by omega)]; rfl)
    clear h0 h1
    go_wp2
    go_ret
    exact ⟨ret_int HF.out.symm, rfl⟩
end Go.Proofs.YtnbkkiacffkfmaaDoor

namespace Go.Proofs.YtnbkkiacffkfmaaDoorW.PrintWords
set_option linter.unusedVariables false
set_option linter.unusedSimpArgs false
open Go Go.RowKit
namespace Kd
section
variable {α : Type} {d : Kd α} {e base g n cap : Nat} {ok ok' oki okp : Nat → Prop} {W : World} {v : Value} {xs : List α} {i : Int} {c : List Value}
theorem H_N (h : H d e W base ok v xs i oki c) (h0 : 0 ≤ i) (hi : i.toNat < xs.length) {x' : α} (hF : FK d W okp x' c) (hp : ∀ k, okp k → ok' k ∧ some k ≠ v.ownBlock) (ho : ∀ k, ok k → ok' k) : N d e W base ok' v (xs.set i.toNat x') := by
 obtain ⟨hoo, f, hown, inner, hw, hr⟩ := h
 rw [List.length_zipIdx] at hw
 have hraw := reps_raw hr (fun x cs hq => ⟨(gap f d i.toNat c).K_len ((gap f d i.toNat c).K_of_M hq), (gap f d i.toNat c).K_one ((gap f d i.toNat c).K_of_M hq)⟩)
 rw [List.length_zipIdx] at hraw
 refine ⟨fun k hk => ho k (hown k hk).1, chunks d.sz xs.length inner, by rw [chunks_length, List.length_set], ⟨fun k hk => hk.symm, inner, by rw [chunks_length]; exact hw, hraw⟩, fun j x cs hx hc => ?_⟩
 have hj : j < xs.length := by have := (List.getElem?_eq_some_iff.1 hx).1; rwa [List.length_set] at this
 have hM := hr.2 j _ (zip_at (List.getElem?_eq_getElem hj))
 rw [chunks_get hc]
 by_cases he : j = i.toNat
 ·
  subst he
  rw [List.getElem?_set_self hj] at hx
  injection hx with hx
  subst hx
  have e9 : (inner.drop (i.toNat * d.sz)).take d.sz = c := (hM.1 rfl).1
  rw [e9]
  exact FK_mono hF hp
 ·
  rw [List.getElem?_set_ne (fun e_ => he e_.symm), List.getElem?_eq_getElem hj] at hx
  injection hx with hx
  subst hx
  exact FK_mono (FK_of_M (hM.2 he)) (fun k hk => ⟨ho k hk.1.1.1, hk.1.2⟩)
theorem H_lt9 (h : H d e W base ok (.slice (some ⟨g, 0, none⟩) n cap) xs i oki c) : g < W.heap.size := by
 obtain ⟨_, f, hR⟩ := h
 exact R_lt hR g (by simp [Value.ownBlock])
end
end Kd
end Go.Proofs.YtnbkkiacffkfmaaDoorW.PrintWords
