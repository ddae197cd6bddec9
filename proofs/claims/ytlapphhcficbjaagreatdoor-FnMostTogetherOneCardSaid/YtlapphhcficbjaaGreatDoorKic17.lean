/- Parts of the proof, laid as one text by a program of mine. -/
import Derived.Test.YtlapphhcficbjaaGreatDoorKic16
import Derived.StillTailTactics
import Derived.Sort.Grow
import Derived.Test.YtlapphhcficbjaaGreatDoorKic7
namespace Go.Proofs.YtlapphhcficbjaaGreatDoor
set_option linter.unusedVariables false
set_option linter.unusedSimpArgs false
open Go.RowKit Go.Shelf Bits
def etS (g : List Tk) (rm : List Int) (wk : Int) (st : List Int) : Int := if vStB g rm wk st then endS g st g.length else -1
def raS (g : List Tk) (rm : List Int) (wk : Int) (st : List Int) (now : Int) : List Nat := if vStB g rm wk st then runS g st now else []
def cancF (g : List Tk) (st : List Int) (now : Int) (i : Nat) : Int := if st.getD i 0 + (rdTk g i).f0 ≤ now then 0 else if st.getD i 0 < now then 1 else 3
def caS (g : List Tk) (rm : List Int) (wk : Int) (st : List Int) (now : Int) : List Int := if vStB g rm wk st && inB now 0 200 then (List.range g.length).map (cancF g st now) else []
def lgS (g : List Tk) (rm : List Int) (wk : Int) (st : List Int) : List Ev := if vStB g rm wk st then chgS g st else []
def lateB (g : List Tk) (st : List Int) (dl : Int) (i : Nat) : Bool := decide (dl - (tailsS g).getD i 0 < st.getD i 0)
def ltS (g : List Tk) (rm : List Int) (wk : Int) (st : List Int) (dl : Int) : List Nat := if vStB g rm wk st && inB dl 0 200 then (List.range g.length).filter (lateB g st dl) else []
def mdS (g : List Tk) (rm : List Int) (wk : Int) (st : List Int) (dl : Int) : Bool := vStB g rm wk st && (inB dl 0 200 && decide (endS g st g.length ≤ dl))
theorem runS_shift {g : List Tk} {st st' : List Int} {d : Int} (h : ∀ i, i < g.length → st'.getD i 0 = st.getD i 0 + d) (now : Int) : runS g st' (now + d) = runS g st now := by
 unfold runS
 apply List.filter_congr
 intro i hi
 rw [Bool.eq_iff_iff, runB_iff, runB_iff, h i (List.mem_range.1 hi)]
 omega
theorem valid_shift {g : List Tk} {rm : List Int} {wk : Int} {st st' : List Int} {d : Int} (h : Valid g rm wk st) (hl : st'.length = g.length) (he : ∀ i, i < g.length → st'.getD i 0 = st.getD i 0 + d) (hb : ∀ i, i < g.length → 0 ≤ st'.getD i 0 ∧ st'.getD i 0 ≤ 200) : Valid g rm wk st' := by
 refine ⟨h.v, h.p, hl, hb, fun i hi => ?_⟩
 obtain ⟨h1, h2, h3⟩ := h.run i hi
 unfold runOk
 rw [he i hi, runS_shift he]
 refine ⟨fun k hk => ?_, h2, h3⟩
 have := spec_needs_in h.v i hi _ hk
 have := h1 k hk
 rw [he k (by omega)]
 omega
theorem valid_more {g : List Tk} {rm rm' : List Int} {wk wk' : Int} {st : List Int} (h : Valid g rm wk st) (hp : placeB rm' wk' = true) (hw : wk ≤ wk') (hr : ∀ p, p < 3 → rm.getD p 0 ≤ rm'.getD p 0) : Valid g rm' wk' st := by
 refine ⟨h.v, hp, h.len, h.b, fun i hi => ?_⟩
 obtain ⟨h1, h2, h3⟩ := h.run i hi
 exact ⟨h1, by omega, fun p hp => by have := h3 p hp; have := hr p hp; omega⟩
theorem endS_some {g : List Tk} {st : List Int} : ∀ n, 0 < n → (∀ i, i < n → 0 ≤ st.getD i 0 + (rdTk g i).f0) → ∃ i, i < n ∧ st.getD i 0 + (rdTk g i).f0 = endS g st n
 | 0, h, _ => absurd h (Nat.lt_irrefl _)
 | n + 1, _, h => by
  by_cases hn : 0 < n
  ·
   obtain ⟨i, hi, he⟩ := endS_some n hn (fun i hi => h i (by omega))
   unfold endS
   by_cases hc : endS g st n ≤ st.getD n 0 + (rdTk g n).f0
   ·
    exact ⟨n, by omega, by omega⟩
   ·
    exact ⟨i, by omega, by omega⟩
  ·
   obtain rfl : n = 0 := by omega
   refine ⟨0, by omega, ?_⟩
   have := h 0 (by omega)
   unfold endS endS
   omega
theorem endS_nonneg (g : List Tk) (st : List Int) : ∀ n, 0 ≤ endS g st n
 | 0 => Int.le_refl _
 | n + 1 => by
  have := endS_nonneg g st n
  unfold endS
  omega
theorem Valid.end_some {g : List Tk} {rm : List Int} {wk : Int} {st : List Int} (h : Valid g rm wk st) (hn : 0 < g.length) : ∃ i, i < g.length ∧ st.getD i 0 + (rdTk g i).f0 = endS g st g.length :=
 endS_some _ hn (fun i hi => by have := h.b i hi; have := h.ok.2.1 i; omega)
theorem Valid.end_pos {g : List Tk} {rm : List Int} {wk : Int} {st : List Int} (h : Valid g rm wk st) (hn : 0 < g.length) : 1 ≤ endS g st g.length := by
 obtain ⟨i, hi, he⟩ := h.end_some hn
 have := h.b i hi
 have := h.ok.2.2.2.2 i hi
 omega
theorem end_shift {g : List Tk} {rm : List Int} {wk : Int} {st st' : List Int} {d : Int} (h : Valid g rm wk st) (h' : Valid g rm wk st') (hn : 0 < g.length) (he : ∀ i, i < g.length → st'.getD i 0 = st.getD i 0 + d) : endS g st' g.length = endS g st g.length + d := by
 obtain ⟨i, hi, e1⟩ := h.end_some hn
 obtain ⟨j, hj, e2⟩ := h'.end_some hn
 have h1 := endS_mono g st j _ hj
 have h2 := endS_mono g st' i _ hi
 rw [he i hi] at h2
 rw [he j hj] at e2
 omega
theorem Valid.runs {g : List Tk} {rm : List Int} {wk : Int} {st : List Int} (h : Valid g rm wk st) (now : Int) : ((runS g st now).length : Int) ≤ wk ∧ ∀ p : Nat, p < 3 → usedS g (runS g st now) p ≤ rm.getD p 0 := by
 have hok := h.ok
 obtain ⟨hr, hw, _⟩ := placeB_facts h.p
 have hr := (roomB_facts hr).2
 by_cases hex : ∃ k, k < g.length ∧ runB g st now k = true
 ·
  obtain ⟨j, hj, hp, hl⟩ := last_of (st := st) (P := runB g st now) g.length hex
  have hjr := runB_iff.1 hp
  obtain ⟨_, h2, h3⟩ := h.run j hj
  have hsub : ∀ k, k < g.length → runB g st now k = true → runB g st (st.getD j 0) k = true := fun k hk hpk => by
   have hkr := runB_iff.1 hpk
   rcases hl k hk hpk with hh | hh
   ·
    exact runB_iff.2 (by omega)
   ·
    exact runB_iff.2 (by omega)
  constructor
  ·
   have := filter_len_le g.length hsub
   unfold runS at h2 ⊢
   omega
  ·
   intro p hp3
   have h4 := usedS_filter g p (P := runB g st now) (Q := runB g st (st.getD j 0)) hok g.length (fun k hk hpk _ => hsub k hk hpk)
   have h5 := h3 p hp3
   unfold runS at h5 ⊢
   omega
 ·
  have e : runS g st now = [] := by
   unfold runS
   rw [List.filter_eq_nil_iff]
   exact fun i hi hpi => hex ⟨i, List.mem_range.1 hi, hpi⟩
  rw [e]
  refine ⟨by simp; omega, fun p hp3 => ?_⟩
  have := (hr p hp3).1
  show (0 : Int) ≤ _
  omega
theorem Valid.run_end {g : List Tk} {rm : List Int} {wk : Int} {st : List Int} (h : Valid g rm wk st) : runS g st (endS g st g.length) = [] ∧ runS g st (-1) = [] ∧ (endS g st g.length ≠ 0 → runS g st (endS g st g.length - 1) ≠ []) := by
 refine ⟨?_, ?_, fun hne => ?_⟩
 ·
  unfold runS
  rw [List.filter_eq_nil_iff]
  intro i hi hp
  have := runB_iff.1 hp
  have := endS_mono g st i _ (List.mem_range.1 hi)
  omega
 ·
  unfold runS
  rw [List.filter_eq_nil_iff]
  intro i hi hp
  have := runB_iff.1 hp
  have := h.b i (List.mem_range.1 hi)
  omega
 ·
  have hn : 0 < g.length := by
   by_cases hn : 0 < g.length
   ·
    exact hn
   ·
    refine absurd ?_ hne
    rw [show g.length = 0 by omega]
    rfl
  obtain ⟨i, hi, he⟩ := h.end_some hn
  have := h.ok.2.2.2.2 i hi
  exact List.ne_nil_of_mem (mem_runS.2 ⟨hi, by omega, by omega⟩)
def clampW (g : List Tk) (st : List Int) (m : Int) (i : Nat) : Int := max 0 (min (rdTk g i).f0 (m - st.getD i 0))
theorem sumTo_mul {a : Nat → Int} {b : Nat → Int} {c : Nat → Int} : ∀ n, (∀ i, i < n → a i + b i = c i) → sumTo a n + sumTo b n = sumTo c n
 | 0, _ => rfl
 | n + 1, h => by
  have h1 := sumTo_mul n (fun i hi => h i (by omega))
  have h2 := h n (by omega)
  unfold sumTo
  omega
theorem work_done {g : List Tk} (hok : TOk g) {st : List Int} (h0 : ∀ i, i < g.length → 0 ≤ st.getD i 0) (wt : Nat → Int) : ∀ m : Nat, sumTo (fun t => sumTo (fun i => if runB g st t i then wt i else 0) g.length) m = sumTo (fun i => wt i * clampW g st m i) g.length
 | 0 => by
  show (0 : Int) = _
  have : sumTo (fun i => wt i * clampW g st (0 : Nat) i) g.length = sumTo (fun _ => 0) g.length := sumTo_congr _ (fun i hi => by
   unfold clampW
   have := h0 i hi
   have := hok.2.1 i
   rw [show max 0 (min (rdTk g i).f0 (((0 : Nat) : Int) - st.getD i 0)) = 0 by omega, Int.mul_zero])
  rw [this]
  have := sumTo_bound (f := fun _ => (0 : Int)) (a := 0) (b := 0) g.length (fun i _ => by omega)
  omega
 | m + 1 => by
  have ih := work_done hok h0 wt m
  show sumTo (fun t => sumTo (fun i => if runB g st t i then wt i else 0) g.length) m + sumTo (fun i => if runB g st (m : Nat) i then wt i else 0) g.length = _
  rw [ih]
  refine sumTo_mul _ (fun i hi => ?_)
  have ht := hok.2.2.2.2 i hi
  have hs := h0 i hi
  unfold clampW
  by_cases hr : runB g st (m : Int) i = true
  ·
   have := runB_iff.1 hr
   rw [if_pos hr, show max 0 (min (rdTk g i).f0 ((m + 1 : Nat) - st.getD i 0)) = max 0 (min (rdTk g i).f0 ((m : Int) - st.getD i 0)) + 1 by omega, Int.mul_add, Int.mul_one]
  ·
   rw [if_neg hr]
   have hn : ¬ (st.getD i 0 ≤ (m : Int) ∧ (m : Int) < st.getD i 0 + (rdTk g i).f0) := fun h => hr (runB_iff.2 h)
   rw [show max 0 (min (rdTk g i).f0 ((m + 1 : Nat) - st.getD i 0)) = max 0 (min (rdTk g i).f0 ((m : Int) - st.getD i 0)) by omega, Int.add_zero]
theorem work_all {g : List Tk} (hok : TOk g) {st : List Int} (h0 : ∀ i, i < g.length → 0 ≤ st.getD i 0) (wt : Nat → Int) {m : Nat} (hm : ∀ i, i < g.length → st.getD i 0 + (rdTk g i).f0 ≤ m) : sumTo (fun t => sumTo (fun i => if runB g st t i then wt i else 0) g.length) m = sumTo (fun i => wt i * (rdTk g i).f0) g.length := by
 rw [work_done hok h0]
 refine sumTo_congr _ (fun i hi => ?_)
 have := hm i hi
 have := hok.2.1 i
 unfold clampW
 rw [show max 0 (min (rdTk g i).f0 ((m : Int) - st.getD i 0)) = (rdTk g i).f0 by omega]
theorem run_sum {g : List Tk} (hok : TOk g) {st : List Int} (h0 : ∀ i, i < g.length → 0 ≤ st.getD i 0) {m : Nat} (hm : ∀ i, i < g.length → st.getD i 0 + (rdTk g i).f0 ≤ m) : sumTo (fun t => ((runS g st (t : Nat)).length : Nat)) m = timeS g := by
 have h := work_all hok h0 (fun _ => 1) hm
 have e : sumTo (fun t => sumTo (fun i => if runB g st (t : Nat) i then 1 else 0) g.length) m = sumTo (fun t => ((runS g st (t : Nat)).length : Nat)) m := sumTo_congr _ (fun t _ => by
  rw [sumTo_count]
  rfl)
 rw [← e, h]
 exact sumTo_congr _ (fun i _ => by rw [Int.one_mul])
theorem run_used {g : List Tk} (hok : TOk g) {st : List Int} (h0 : ∀ i, i < g.length → 0 ≤ st.getD i 0) {m : Nat} (hm : ∀ i, i < g.length → st.getD i 0 + (rdTk g i).f0 ≤ m) (p : Int) : sumTo (fun t => usedS g (runS g st (t : Nat)) p) m = sumTo (fun i => if (rdTk g i).f2 = p then (rdTk g i).f0 * (rdTk g i).f3 else 0) g.length := by
 have h := work_all hok h0 (fun i => if (rdTk g i).f2 = p then (rdTk g i).f3 else 0) hm
 have e : sumTo (fun t => sumTo (fun i => if runB g st (t : Nat) i then (if (rdTk g i).f2 = p then (rdTk g i).f3 else 0) else 0) g.length) m = sumTo (fun t => usedS g (runS g st (t : Nat)) p) m := sumTo_congr _ (fun t _ => by
  unfold runS
  rw [← sumTo_used]
  exact sumTo_congr _ (fun i _ => by cases runB g st (t : Nat) i <;> simp))
 rw [← e, h]
 refine sumTo_congr _ (fun i _ => ?_)
 by_cases hc : (rdTk g i).f2 = p
 ·
  rw [if_pos hc, if_pos hc, Int.mul_comm]
 ·
  rw [if_neg hc, if_neg hc, Int.zero_mul]
theorem tails_ge {g : List Tk} (hv : specValid g = true) {i : Nat} (hi : i < g.length) : (rdTk g i).f0 ≤ (tailsS g).getD i 0 := by
 have hok := specValid_TOk hv
 have key : ∀ (pre : List Nat) (o : List Int), o.length = g.length → ((rdTk g i).f0 ≤ o.getD i 0 ∨ ∃ p ∈ pre, (topL g).getD p 0 = i) → (rdTk g i).f0 ≤ (pre.foldl (fun o p => sStep g o ((topL g).getD p 0)) o).getD i 0 := by
  intro pre
  induction pre with
  | nil =>
   rintro o _ (h | ⟨_, h, _⟩)
   ·
    exact h
   ·
    cases h
  | cons p pre ih =>
   intro o hl h
   refine ih _ (by unfold sStep; rw [List.length_set]; exact hl) ?_
   have hm := mostS_nonneg g o ((topL g).getD p 0) g.length
   unfold sStep
   rw [getD_setL]
   by_cases hc : i = (topL g).getD p 0 ∧ (topL g).getD p 0 < o.length
   ·
    rw [if_pos hc]
    left
    rw [← hc.1] at hm ⊢
    omega
   ·
    rw [if_neg hc]
    rcases h with h | ⟨q, hq, he⟩
    ·
     exact .inl h
    ·
     rcases List.mem_cons.1 hq with rfl | hq
     ·
      exact absurd ⟨he.symm, by rw [he, hl]; exact hi⟩ hc
     ·
      exact .inr ⟨q, hq, he⟩
 refine key _ _ (by simp) (.inr ?_)
 obtain ⟨p, hp, e⟩ := List.getElem_of_mem (top_all hv hi)
 refine ⟨p, ?_, by rw [List.getD_eq_getElem?_getD, List.getElem?_eq_getElem hp]; exact e⟩
 unfold backL
 rw [List.mem_map]
 exact ⟨(topL g).length - 1 - p, List.mem_range.2 (by omega), by omega⟩
theorem lateB_iff {g : List Tk} {st : List Int} {dl : Int} {i : Nat} : lateB g st dl i = true ↔ dl - (tailsS g).getD i 0 < st.getD i 0 := by
 unfold lateB
 exact decide_eq_true_iff
theorem late_end {g : List Tk} {rm : List Int} {wk : Int} {st : List Int} (h : Valid g rm wk st) {dl : Int} {i : Nat} (hi : i < g.length) (hl : lateB g st dl i = true) : dl < endS g st g.length := by
 have hl := lateB_iff.1 hl
 have h1 := tails_ge h.v hi
 have h2 := h.ok.2.2.2.2 i hi
 rcases tails_fit (E := endS g st g.length) (fun i hi => endS_mono g st i _ hi) h.needs i hi with h3 | h3
 ·
  omega
 ·
  omega
theorem last_late {g : List Tk} {rm : List Int} {wk : Int} {st : List Int} (h : Valid g rm wk st) {dl : Int} (hd : dl < endS g st g.length) {i : Nat} (hi : i < g.length) (he : st.getD i 0 + (rdTk g i).f0 = endS g st g.length) : lateB g st dl i = true := by
 have := tails_ge h.v hi
 exact lateB_iff.2 (by omega)
theorem late_iff {g : List Tk} {rm : List Int} {wk : Int} {st : List Int} (h : Valid g rm wk st) (dl : Int) (hd0 : 0 ≤ dl) : (List.range g.length).filter (lateB g st dl) ≠ [] ↔ dl < endS g st g.length := by
 constructor
 ·
  intro hne
  obtain ⟨i, t, e⟩ := List.exists_cons_of_ne_nil hne
  have hm : i ∈ (List.range g.length).filter (lateB g st dl) := by rw [e]; exact List.mem_cons_self
  have hm := List.mem_filter.1 hm
  exact late_end h (List.mem_range.1 hm.1) hm.2
 ·
  intro hd
  have hn : 0 < g.length := by
   by_cases hn : 0 < g.length
   ·
    exact hn
   ·
    rw [show g.length = 0 by omega] at hd
    have : endS g st 0 = 0 := rfl
    omega
  obtain ⟨i, hi, he⟩ := h.end_some hn
  exact List.ne_nil_of_mem (List.mem_filter.2 ⟨List.mem_range.2 hi, last_late h hd hi he⟩)
theorem caS_get {g : List Tk} {st : List Int} {now : Int} {i : Nat} (hi : i < g.length) : ((List.range g.length).map (cancF g st now)).getD i 0 = cancF g st now i := by
 rw [List.getD_eq_getElem?_getD, List.getElem?_map, List.getElem?_range hi]
 rfl
theorem canc_done {g : List Tk} {st : List Int} {now : Int} {i : Nat} : cancF g st now i = 0 ↔ st.getD i 0 + (rdTk g i).f0 ≤ now := by
 unfold cancF
 split
 ·
  simp_all
 ·
  split <;> simp_all
theorem canc_failed {g : List Tk} {st : List Int} {now : Int} {i : Nat} : cancF g st now i = 1 ↔ st.getD i 0 < now ∧ ¬ st.getD i 0 + (rdTk g i).f0 ≤ now := by
 unfold cancF
 split
 ·
  rename_i h
  simp only [h, not_true_eq_false, and_false]
  decide
 ·
  rename_i h
  split
  ·
   rename_i h2
   simp only [h2, h, not_false_eq_true, and_self]
  ·
   rename_i h2
   simp only [h2, false_and]
   decide
theorem canc_left {g : List Tk} (hok : TOk g) {st : List Int} {now : Int} {i : Nat} (hi : i < g.length) : cancF g st now i = 3 ↔ now ≤ st.getD i 0 := by
 have := hok.2.2.2.2 i hi
 unfold cancF
 split
 ·
  rename_i h
  constructor
  ·
   intro h; exact absurd h (by decide)
  ·
   intro h2; omega
 ·
  rename_i h
  split
  ·
   rename_i h2
   constructor
   ·
    intro h; exact absurd h (by decide)
   ·
    intro h3; omega
  ·
   rename_i h2
   exact ⟨fun _ => by omega, fun _ => rfl⟩
end Go.Proofs.YtlapphhcficbjaaGreatDoor

namespace Go.Proofs.YtlapphhcficbjaaGreatDoor
set_option linter.unusedVariables false
set_option linter.unusedSimpArgs false
open Go.RowKit Go.Shelf Bits
def laterN (d : Int) (st : List Int) (j : Nat) : List Int := (st.take j).map fun x => x + d
theorem laterN_len {d : Int} {st : List Int} {j : Nat} (h : j ≤ st.length) : (laterN d st j).length = j := by
 unfold laterN
 rw [List.length_map, List.length_take]
 omega
theorem laterN_get {d : Int} {st : List Int} {i j : Nat} (hi : i < j) (hj : j ≤ st.length) : (laterN d st j).getD i 0 = st.getD i 0 + d := by
 unfold laterN
 rw [List.getD_eq_getElem?_getD, List.getElem?_map, List.getElem?_take_of_lt hi, List.getD_eq_getElem?_getD, List.getElem?_eq_getElem (by omega)]
 rfl
theorem laterN_snoc {d : Int} {st : List Int} {j : Nat} (hj : j < st.length) : laterN d st (j + 1) = laterN d st j ++ [st.getD j 0 + d] := by
 unfold laterN
 rw [List.take_succ_eq_append_getElem hj, List.map_append, List.getD_eq_getElem?_getD, List.getElem?_eq_getElem hj]
 rfl
theorem later_valid {g : List Tk} {rm : List Int} {wk : Int} {st : List Int} {d : Int} (h : Valid g rm wk st) (hd : 0 ≤ d) (hs : ∀ k, k < st.length → st.getD k 0 + d ≤ 200) : Valid g rm wk (laterN d st st.length) := by
 refine valid_shift (d := d) h (by rw [laterN_len (Nat.le_refl _)]; exact h.len) (fun i hi => laterN_get (by rw [h.len]; exact hi) (Nat.le_refl _)) (fun i hi => ?_)
 have hil : i < st.length := by rw [h.len]; exact hi
 rw [laterN_get hil (Nat.le_refl _)]
 have := h.b i hi
 have := hs i hil
 omega
theorem later_end {g : List Tk} {rm : List Int} {wk : Int} {st : List Int} {d : Int} (h : Valid g rm wk st) (hd : 0 ≤ d) (hs : ∀ k, k < st.length → st.getD k 0 + d ≤ 200) (hn : 0 < g.length) : etS g rm wk (laterN d st st.length) = etS g rm wk st + d := by
 have h' := later_valid h hd hs
 unfold etS
 rw [if_pos (valid_vSt h), if_pos (valid_vSt h')]
 exact end_shift h h' hn (fun i hi => laterN_get (by rw [h.len]; exact hi) (Nat.le_refl _))
theorem large_valid {g : List Tk} {rm : List Int} {wk : Int} {st : List Int} (h : Valid g rm wk st) : Valid g (List.replicate rm.length 8) 4 st := by
 obtain ⟨h1, h2, h3⟩ := placeB_facts h.p
 obtain ⟨h4, h5⟩ := roomB_facts h1
 rw [h4]
 refine valid_more h (by decide) h3 (fun p hp => ?_)
 have := (h5 p hp).2
 have e : (List.replicate 3 (8 : Int)).getD p 0 = 8 := by
  rcases p with _ | _ | _ | p
  ·
   rfl
  ·
   rfl
  ·
   rfl
  ·
   omega
 omega
theorem rep_snoc (n : Nat) (x : Int) : List.replicate (n + 1) x = List.replicate n x ++ [x] := List.replicate_succ'
theorem etS_valid {g : List Tk} {rm : List Int} {wk : Int} {st : List Int} (h : Valid g rm wk st) : etS g rm wk st = endS g st g.length := by
 unfold etS
 rw [if_pos (valid_vSt h)]
theorem etS_no {g : List Tk} {rm : List Int} {wk : Int} {st : List Int} (h : vStB g rm wk st = false) : etS g rm wk st = -1 := by
 unfold etS
 rw [h]
 rfl
theorem etS_cases (g : List Tk) (rm : List Int) (wk : Int) (st : List Int) : (etS g rm wk st = -1 ∧ vStB g rm wk st = false) ∨ (0 ≤ etS g rm wk st ∧ Valid g rm wk st) := by
 cases h : vStB g rm wk st with
 | false => exact .inl ⟨etS_no h, rfl⟩
 | true =>
  refine .inr ⟨?_, vSt_valid h⟩
  rw [etS_valid (vSt_valid h)]
  exact endS_nonneg _ _ _
theorem etS_bound (g : List Tk) (rm : List Int) (wk : Int) (st : List Int) : -1 ≤ etS g rm wk st ∧ etS g rm wk st ≤ 1020 := by
 cases h : vStB g rm wk st with
 | false => rw [etS_no h]; omega
 | true =>
  have hv := vSt_valid h
  rw [etS_valid hv]
  have := endS_bound hv.ok hv.sok g.length
  omega
def someEnd (g : List Tk) (st : List Int) (n : Int) (j : Nat) : Bool := (List.range j).any fun i => st.getD i 0 + (rdTk g i).f0 == n
theorem someEnd_snoc (g : List Tk) (st : List Int) (n : Int) (j : Nat) : someEnd g st n (j + 1) = (someEnd g st n j || (st.getD j 0 + (rdTk g j).f0 == n)) := by
 unfold someEnd
 rw [List.range_succ, List.any_append]
 simp
theorem someEnd_all {g : List Tk} {rm : List Int} {wk : Int} {st : List Int} (h : Valid g rm wk st) (hn : 0 < g.length) : someEnd g st (etS g rm wk st) g.length = true := by
 rw [etS_valid h]
 obtain ⟨i, hi, he⟩ := h.end_some hn
 unfold someEnd
 rw [List.any_eq_true]
 exact ⟨i, List.mem_range.2 hi, by rw [beq_iff_eq]; exact he⟩
theorem end_ge {g : List Tk} {st : List Int} : ∀ n i, i < n → st.getD i 0 + (rdTk g i).f0 ≤ endS g st n
 | n + 1, i, hi => by
  unfold endS
  by_cases h : i = n
  ·
   subst h
   exact Int.le_max_right _ _
  ·
   exact Int.le_trans (end_ge n i (by omega)) (Int.le_max_left _ _)
theorem etS_ge {g : List Tk} {rm : List Int} {wk : Int} {st : List Int} (h : Valid g rm wk st) {i : Nat} (hi : i < g.length) : st.getD i 0 + (rdTk g i).f0 ≤ etS g rm wk st := by
 rw [etS_valid h]
 exact end_ge _ i hi
theorem mdS_never {g : List Tk} {rm : List Int} {wk : Int} {st : List Int} (h : Valid g rm wk st) : mdS g rm wk st 0 = decide (g.length = 0) := by
 unfold mdS
 rw [valid_vSt h]
 by_cases hg : g.length = 0
 ·
  rw [hg, decide_eq_true rfl]
  rfl
 ·
  have := h.end_pos (by omega)
  rw [decide_eq_false hg, decide_eq_false (show ¬ endS g st g.length ≤ 0 by omega)]
  rfl
theorem mdS_is {g : List Tk} {rm : List Int} {wk : Int} {st : List Int} (h : Valid g rm wk st) {dl : Int} (hd : 0 ≤ dl ∧ dl ≤ 200) : mdS g rm wk st dl = decide (etS g rm wk st ≤ dl) := by
 unfold mdS
 rw [valid_vSt h, inB_true.2 hd, etS_valid h]
 rfl
theorem caS_no {g : List Tk} {rm : List Int} {wk : Int} {st : List Int} {now : Int} (h : (vStB g rm wk st && inB now 0 200) = false) : caS g rm wk st now = [] := by
 unfold caS
 rw [h]
 rfl
theorem caS_yes {g : List Tk} {rm : List Int} {wk : Int} {st : List Int} {now : Int} (h : Valid g rm wk st) (hn : 0 ≤ now ∧ now ≤ 200) : caS g rm wk st now = (List.range g.length).map (cancF g st now) := by
 unfold caS
 rw [valid_vSt h, inB_true.2 hn]
 rfl
theorem caS_cases (g : List Tk) (rm : List Int) (wk : Int) (st : List Int) (now : Int) : caS g rm wk st now = [] ∨ (Valid g rm wk st ∧ (0 ≤ now ∧ now ≤ 200) ∧ caS g rm wk st now = (List.range g.length).map (cancF g st now)) := by
 cases h : (vStB g rm wk st && inB now 0 200) with
 | false => exact .inl (caS_no h)
 | true =>
  rw [Bool.and_eq_true] at h
  exact .inr ⟨vSt_valid h.1, inB_true.1 h.2, caS_yes (vSt_valid h.1) (inB_true.1 h.2)⟩
theorem canc_len (F : Nat → Int) (n : Nat) : ((List.range n).map F).length = n := by simp
theorem cancF_bound (g : List Tk) (st : List Int) (now : Int) (i : Nat) : 0 ≤ cancF g st now i ∧ cancF g st now i ≤ 3 := by
 unfold cancF
 split
 ·
  omega
 ·
  split <;> omega
theorem canc_row_bound (g : List Tk) (st : List Int) (now : Int) (i : Nat) : 0 ≤ ((List.range g.length).map (cancF g st now)).getD i 0 ∧ ((List.range g.length).map (cancF g st now)).getD i 0 ≤ 1000 := by
 by_cases h : i < g.length
 ·
  rw [caS_get h]
  have := cancF_bound g st now i
  omega
 ·
  rw [getD_out (by rw [canc_len]; exact h)]
  omega
theorem canc_needs {g : List Tk} {rm : List Int} {wk : Int} {st : List Int} (h : Valid g rm wk st) {now : Int} {i : Nat} (hi : i < g.length) (hc : cancF g st now i ≠ 3) {x : Int} (hx : x ∈ (rdTk g i).f1) : cancF g st now x.toNat = 0 := by
 have hs : st.getD i 0 < now := by
  apply Classical.byContradiction
  intro hn
  exact hc ((canc_left h.ok hi).2 (by omega))
 have hx0 := spec_needs_in h.v i hi x hx
 have := h.needs i hi x.toNat (by rw [Int.toNat_of_nonneg hx0.1]; exact hx)
 exact canc_done.2 (by omega)
theorem canc_end {g : List Tk} {rm : List Int} {wk : Int} {st : List Int} (h : Valid g rm wk st) {i : Nat} (hi : i < g.length) : cancF g st (etS g rm wk st) i = 0 := canc_done.2 (etS_ge h hi)
theorem canc_zero {g : List Tk} {rm : List Int} {wk : Int} {st : List Int} (h : Valid g rm wk st) {i : Nat} (hi : i < g.length) : cancF g st 0 i = 3 := (canc_left h.ok hi).2 (h.b i hi).1
theorem canc_more {g : List Tk} (hok : TOk g) {st : List Int} {now : Int} {i : Nat} (hi : i < g.length) : (cancF g st now i = 0 → cancF g st (now + 1) i = 0) ∧ (cancF g st now i = 1 → cancF g st (now + 1) i ≠ 3) ∧ (cancF g st now i = 0 ∨ cancF g st now i = 1 ∨ cancF g st now i = 3) := by
 refine ⟨fun h => ?_, fun h => ?_, ?_⟩
 ·
  have := canc_done.1 h
  exact canc_done.2 (by omega)
 ·
  have := (canc_failed.1 h).1
  intro h3
  have := (canc_left hok hi).1 h3
  omega
 ·
  unfold cancF
  split
  ·
   exact .inl rfl
  ·
   split
   ·
    exact .inr (.inl rfl)
   ·
    exact .inr (.inr rfl)
end Go.Proofs.YtlapphhcficbjaaGreatDoor

namespace Go.Proofs.YtlapphhcficbjaaGreatDoor
set_option linter.unusedVariables false
set_option linter.unusedSimpArgs false
open Go.RowKit Go.Shelf Bits
def ovE (g : List Tk) (st : List Int) (t : Int) : Nat → List Ev
 | 0 => []
 | n + 1 => if st.getD n 0 + (rdTk g n).f0 = t then ovE g st t n ++ [⟨t, (n : Int), true⟩] else ovE g st t n
def bgE (st : List Int) (t : Int) : Nat → List Ev
 | 0 => []
 | n + 1 => if st.getD n 0 = t then bgE st t n ++ [⟨t, (n : Int), false⟩] else bgE st t n
def logL (g : List Tk) (st : List Int) : Nat → List Ev
 | 0 => []
 | t + 1 => logL g st t ++ (ovE g st (t : Nat) g.length ++ bgE st (t : Nat) g.length)
theorem mem_ovE {g : List Tk} {st : List Int} {t : Int} {x : Ev} : ∀ n, x ∈ ovE g st t n ↔ ∃ i, i < n ∧ st.getD i 0 + (rdTk g i).f0 = t ∧ x = chO g st i
 | 0 => by simp [ovE]
 | n + 1 => by
  have ih := mem_ovE (g := g) (st := st) (t := t) (x := x) n
  unfold ovE
  split
  ·
   rename_i h
   rw [List.mem_append, ih, List.mem_singleton]
   constructor
   ·
    rintro (⟨i, h1, h2⟩ | h1)
    ·
     exact ⟨i, by omega, h2⟩
    ·
     refine ⟨n, by omega, h, ?_⟩
     rw [h1]
     unfold chO
     rw [h]
   ·
    rintro ⟨i, h1, h2, h3⟩
    by_cases e : i = n
    ·
     subst e
     refine .inr ?_
     rw [h3]
     unfold chO
     rw [h]
    ·
     exact .inl ⟨i, by omega, h2, h3⟩
  ·
   rename_i h
   rw [ih]
   constructor
   ·
    rintro ⟨i, h1, h2⟩
    exact ⟨i, by omega, h2⟩
   ·
    rintro ⟨i, h1, h2, h3⟩
    by_cases e : i = n
    ·
     subst e
     exact absurd h2 h
    ·
     exact ⟨i, by omega, h2, h3⟩
theorem mem_bgE {st : List Int} {t : Int} {x : Ev} : ∀ n, x ∈ bgE st t n ↔ ∃ i, i < n ∧ st.getD i 0 = t ∧ x = chB st i
 | 0 => by simp [bgE]
 | n + 1 => by
  have ih := mem_bgE (st := st) (t := t) (x := x) n
  unfold bgE
  split
  ·
   rename_i h
   rw [List.mem_append, ih, List.mem_singleton]
   constructor
   ·
    rintro (⟨i, h1, h2⟩ | h1)
    ·
     exact ⟨i, by omega, h2⟩
    ·
     refine ⟨n, by omega, h, ?_⟩
     rw [h1]
     unfold chB
     rw [h]
   ·
    rintro ⟨i, h1, h2, h3⟩
    by_cases e : i = n
    ·
     subst e
     refine .inr ?_
     rw [h3]
     unfold chB
     rw [h]
    ·
     exact .inl ⟨i, by omega, h2, h3⟩
  ·
   rename_i h
   rw [ih]
   constructor
   ·
    rintro ⟨i, h1, h2⟩
    exact ⟨i, by omega, h2⟩
   ·
    rintro ⟨i, h1, h2, h3⟩
    by_cases e : i = n
    ·
     subst e
     exact absurd h2 h
    ·
     exact ⟨i, by omega, h2, h3⟩
theorem sort_ovE {g : List Tk} {st : List Int} {t : Int} : ∀ n, (ovE g st t n).Pairwise ltE
 | 0 => List.Pairwise.nil
 | n + 1 => by
  have ih := sort_ovE (g := g) (st := st) (t := t) n
  unfold ovE
  split
  ·
   refine List.pairwise_append.2 ⟨ih, List.pairwise_singleton _ _, fun a ha b hb => ?_⟩
   obtain ⟨i, h1, h2, rfl⟩ := (mem_ovE n).1 ha
   rw [List.mem_singleton] at hb
   subst hb
   exact .inr ⟨h2, .inr ⟨rfl, by show (i : Int) < (n : Int); omega⟩⟩
  ·
   exact ih
theorem sort_bgE {st : List Int} {t : Int} : ∀ n, (bgE st t n).Pairwise ltE
 | 0 => List.Pairwise.nil
 | n + 1 => by
  have ih := sort_bgE (st := st) (t := t) n
  unfold bgE
  split
  ·
   refine List.pairwise_append.2 ⟨ih, List.pairwise_singleton _ _, fun a ha b hb => ?_⟩
   obtain ⟨i, h1, h2, rfl⟩ := (mem_bgE n).1 ha
   rw [List.mem_singleton] at hb
   subst hb
   exact .inr ⟨h2, .inr ⟨rfl, by show (i : Int) < (n : Int); omega⟩⟩
  ·
   exact ih
theorem mem_logL {g : List Tk} {st : List Int} {x : Ev} : ∀ m : Nat, x ∈ logL g st m ↔ ∃ i, i < g.length ∧ 0 ≤ x.f0 ∧ x.f0 < m ∧ (x = chB st i ∨ x = chO g st i)
 | 0 => by
  simp only [logL, List.not_mem_nil, false_iff]
  rintro ⟨i, _, h1, h2, _⟩
  omega
 | m + 1 => by
  unfold logL
  rw [List.mem_append, List.mem_append, mem_logL m, mem_ovE, mem_bgE]
  constructor
  ·
   rintro (⟨i, h1, h2, h3, h4⟩ | ⟨i, h1, h2, rfl⟩ | ⟨i, h1, h2, rfl⟩)
   ·
    exact ⟨i, h1, h2, by omega, h4⟩
   ·
    have e : (chO g st i).f0 = (m : Int) := h2
    exact ⟨i, h1, by omega, by omega, .inr rfl⟩
   ·
    have e : (chB st i).f0 = (m : Int) := h2
    exact ⟨i, h1, by omega, by omega, .inl rfl⟩
  ·
   rintro ⟨i, h1, h2, h3, h4⟩
   by_cases e : x.f0 = (m : Int)
   ·
    rcases h4 with rfl | rfl
    ·
     exact .inr (.inr ⟨i, h1, e, rfl⟩)
    ·
     exact .inr (.inl ⟨i, h1, e, rfl⟩)
   ·
    exact .inl ⟨i, h1, h2, by omega, h4⟩
theorem sort_logL (g : List Tk) (st : List Int) : ∀ m : Nat, (logL g st m).Pairwise ltE
 | 0 => List.Pairwise.nil
 | m + 1 => by
  unfold logL
  refine List.pairwise_append.2 ⟨sort_logL g st m, List.pairwise_append.2 ⟨sort_ovE _, sort_bgE _, fun a ha b hb => ?_⟩, fun a ha b hb => ?_⟩
  ·
   obtain ⟨i, h1, h2, rfl⟩ := (mem_ovE _).1 ha
   obtain ⟨k, h3, h4, rfl⟩ := (mem_bgE _).1 hb
   exact .inr ⟨h2.trans h4.symm, .inl ⟨rfl, rfl⟩⟩
  ·
   obtain ⟨_, _, _, h3, _⟩ := (mem_logL m).1 ha
   have hb0 : b.f0 = (m : Int) := by
    rcases List.mem_append.1 hb with hb | hb
    ·
     obtain ⟨i, h1, h2, rfl⟩ := (mem_ovE _).1 hb
     exact h2
    ·
     obtain ⟨i, h1, h2, rfl⟩ := (mem_bgE _).1 hb
     exact h2
   exact .inl (by omega)
theorem chgS_strict (g : List Tk) (st : List Int) : (chgS g st).Pairwise ltE :=
 (List.Pairwise.and (chgS_sorted g st) (chgS_nodup g st)).imp (fun {a b} h => by
  by_cases hl : ltE a b
  ·
   exact hl
  ·
   exact absurd (ltE_total hl h.1) h.2)
theorem sorted_ext : ∀ {l1 l2 : List Ev}, l1.Pairwise ltE → l2.Pairwise ltE → (∀ x, x ∈ l1 ↔ x ∈ l2) → l1 = l2
 | [], [], _, _, _ => rfl
 | [], b :: t, _, _, h => absurd ((h b).2 List.mem_cons_self) (by simp)
 | a :: t, [], _, _, h => absurd ((h a).1 List.mem_cons_self) (by simp)
 | a :: t, b :: u, h1, h2, h => by
  obtain ⟨p1, p2⟩ := List.pairwise_cons.1 h1
  obtain ⟨q1, q2⟩ := List.pairwise_cons.1 h2
  have e : a = b := by
   rcases List.mem_cons.1 ((h a).1 List.mem_cons_self) with e | ha
   ·
    exact e
   ·
    rcases List.mem_cons.1 ((h b).2 List.mem_cons_self) with e | hb
    ·
     exact e.symm
    ·
     exact absurd (ltE_trans (p1 b hb) (q1 a ha)) (ltE_irrefl a)
  subst e
  rw [sorted_ext p2 q2 (fun x => ⟨fun hx => by
   rcases List.mem_cons.1 ((h x).1 (List.mem_cons_of_mem _ hx)) with e | hx2
   ·
    exact absurd (p1 x hx) (by rw [e]; exact ltE_irrefl _)
   ·
    exact hx2, fun hx => by
   rcases List.mem_cons.1 ((h x).2 (List.mem_cons_of_mem _ hx)) with e | hx2
   ·
    exact absurd (q1 x hx) (by rw [e]; exact ltE_irrefl _)
   ·
    exact hx2⟩)]
theorem log_eq {g : List Tk} {rm : List Int} {wk : Int} {st : List Int} (h : Valid g rm wk st) : logL g st 221 = chgS g st := by
 refine sorted_ext (sort_logL g st 221) (chgS_strict g st) (fun x => ?_)
 rw [mem_logL, mem_chgS]
 constructor
 ·
  rintro ⟨i, h1, _, _, h4⟩
  exact ⟨i, h1, h4⟩
 ·
  rintro ⟨i, h1, h2⟩
  have hb := h.b i h1
  have ht := h.ok.2.1 i
  have ht2 := h.ok
  refine ⟨i, h1, ?_, ?_, h2⟩
  ·
   rcases h2 with rfl | rfl
   ·
    exact hb.1
   ·
    show 0 ≤ st.getD i 0 + (rdTk g i).f0
    omega
  ·
   rcases h2 with rfl | rfl
   ·
    show st.getD i 0 < _
    omega
   ·
    show st.getD i 0 + (rdTk g i).f0 < _
    omega
theorem lgS_log {g : List Tk} {rm : List Int} {wk : Int} {st : List Int} (h : Valid g rm wk st) : lgS g rm wk st = logL g st 221 := by
 unfold lgS
 rw [valid_vSt h, if_pos rfl, log_eq h]
theorem log_times {g : List Tk} {rm : List Int} {wk : Int} {st : List Int} (h : Valid g rm wk st) : (lgS g rm wk st).length = 2 * g.length ∧ (∀ q, q < 2 * g.length → ∃ i : Nat, i < g.length ∧ (rdEv (lgS g rm wk st) q).f1 = (i : Int) ∧ ((rdEv (lgS g rm wk st) q).f2 = false → (rdEv (lgS g rm wk st) q).f0 = st.getD i 0) ∧ ((rdEv (lgS g rm wk st) q).f2 = true → (rdEv (lgS g rm wk st) q).f0 = st.getD i 0 + (rdTk g i).f0)) ∧ (∀ q, q + 1 < 2 * g.length → (rdEv (lgS g rm wk st) q).f0 ≤ (rdEv (lgS g rm wk st) (q + 1)).f0) := by
 have e : lgS g rm wk st = chgS g st := by unfold lgS; rw [valid_vSt h, if_pos rfl]
 rw [e]
 have hl := chgS_len g st
 have hg : ∀ q (hq : q < (chgS g st).length), rdEv (chgS g st) q = (chgS g st)[q] := fun q hq => by
  unfold rdEv
  rw [List.getD_eq_getElem?_getD, List.getElem?_eq_getElem hq]
  rfl
 refine ⟨hl, fun q hq => ?_, fun q hq => ?_⟩
 ·
  rw [hg q (by omega)]
  obtain ⟨i, hi, h2⟩ := mem_chgS.1 (List.getElem_mem (show q < (chgS g st).length by omega))
  rcases h2 with h2 | h2 <;> rw [h2]
  ·
   exact ⟨i, hi, rfl, fun _ => rfl, fun hh => by cases hh⟩
  ·
   exact ⟨i, hi, rfl, (fun hh => by cases hh), fun _ => rfl⟩
 ·
  rw [hg q (by omega), hg (q + 1) (by omega)]
  have := List.pairwise_iff_getElem.1 (chgS_strict g st) q (q + 1) (by omega) (by omega) (by omega)
  rcases this with h3 | ⟨h3, _⟩ <;> omega
theorem ovE_len (g : List Tk) (st : List Int) (t : Int) : ∀ n, (ovE g st t n).length ≤ n
 | 0 => Nat.le_refl _
 | n + 1 => by
  have ih := ovE_len g st t n
  unfold ovE
  split
  ·
   rw [List.length_append, List.length_singleton]
   omega
  ·
   omega
theorem bgE_len (st : List Int) (t : Int) : ∀ n, (bgE st t n).length ≤ n
 | 0 => Nat.le_refl _
 | n + 1 => by
  have ih := bgE_len st t n
  unfold bgE
  split
  ·
   rw [List.length_append, List.length_singleton]
   omega
  ·
   omega
theorem logL_len (g : List Tk) (st : List Int) (h8 : g.length ≤ 8) : ∀ m, (logL g st m).length ≤ 16 * m
 | 0 => Nat.le_refl _
 | m + 1 => by
  have ih := logL_len g st h8 m
  have h1 := ovE_len g st (m : Nat) g.length
  have h2 := bgE_len st (m : Nat) g.length
  unfold logL
  rw [List.length_append, List.length_append]
  omega
end Go.Proofs.YtlapphhcficbjaaGreatDoor

namespace Go.Proofs.YtlapphhcficbjaaGreatDoor
set_option linter.unusedVariables false
set_option linter.unusedSimpArgs false
open Go.RowKit Go.Shelf Bits
open Go.Proofs.YtlapphhcficbjaaGreatDoorW.PrintWords Go.Proofs.YtlapphhcficbjaaGreatDoorW.PrintLast Go.Proofs.YtlapphhcficbjaaGreatDoorW.PrintMore
attribute [local go_sem] Oper.semAt_some
def cmpI (x y : Int) : Int := if x < y then -1 else if y < x then 1 else 0
def cmpE (a b : Ev) : Int := if a.f0 = b.f0 ∧ a.f2 ≠ b.f2 then (if a.f2 then -1 else 1) else if cmpI a.f0 b.f0 ≠ 0 then cmpI a.f0 b.f0 else cmpI a.f1 b.f1
theorem cmpI_neg {x y : Int} : cmpI x y < 0 ↔ x < y := by
 unfold cmpI
 split
 ·
  simp_all
 ·
  split <;> simp_all
theorem cmpI_zero {x y : Int} : cmpI x y = 0 ↔ x = y := by
 unfold cmpI
 split
 ·
  rename_i h
  constructor
  ·
   intro e; exact absurd e (by decide)
  ·
   intro e; omega
 ·
  rename_i h
  split
  ·
   rename_i h2
   constructor
   ·
    intro e; exact absurd e (by decide)
   ·
    intro e; omega
  ·
   rename_i h2
   exact ⟨fun _ => by omega, fun _ => rfl⟩
theorem cmpE_lt (a b : Ev) : cmpE a b < 0 ↔ ltE a b := by
 unfold cmpE ltE
 by_cases h0 : a.f0 = b.f0
 ·
  by_cases h2 : a.f2 = b.f2
  ·
   rw [if_neg (fun h => h.2 h2), if_neg (by rw [cmpI_zero.2 h0]; simp), cmpI_neg]
   constructor
   ·
    intro h
    exact .inr ⟨h0, .inr ⟨h2, h⟩⟩
   ·
    rintro (h | ⟨_, ⟨h, k⟩ | ⟨_, h⟩⟩)
    ·
     omega
    ·
     rw [h, k] at h2; cases h2
    ·
     exact h
  ·
   rw [if_pos ⟨h0, h2⟩]
   cases ha : a.f2
   ·
    simp only [Bool.false_eq_true, if_false]
    constructor
    ·
     intro h; exact absurd h (by decide)
    ·
     rintro (h | ⟨_, ⟨h, _⟩ | ⟨h, _⟩⟩)
     ·
      omega
     ·
      cases h
     ·
      rw [ha] at h2; exact absurd h h2
   ·
    have hb : b.f2 = false := by
     cases hb : b.f2
     ·
      rfl
     ·
      rw [ha, hb] at h2; exact absurd rfl h2
    simp only [if_true]
    exact ⟨fun _ => .inr ⟨h0, .inl ⟨by first | rfl | trivial | exact ha, hb⟩⟩, fun _ => by decide⟩
 ·
  rw [if_neg (fun h => h0 h.1), if_pos (fun h => h0 (cmpI_zero.1 h)), cmpI_neg]
  constructor
  ·
   exact .inl
  ·
   rintro (h | ⟨h, _⟩)
   ·
    exact h
   ·
    exact absurd h h0
theorem isNaN_calls (x : Int) (w : World) : Calls Tryz.prog 123 #[.int .i64 x] w fun e w' => e = .returned (.bool false) ∧ w' = w := by
 go_enter Tryz.func123, Tryz.ntmps123
 go_wp2
 go_ret
 exact ⟨ret_bool (by simp), rfl⟩
theorem compare_calls (x y : Int) (w : World) : Calls Tryz.prog 93 #[.int .i64 x, .int .i64 y] w fun e w' => e = .returned (.int .i64 (cmpI x y)) ∧ w' = w := by
 by_cases h1 : x < y
 ·
  have d1 : decide (x < y) = true := decide_eq_true h1
  have HF : Hid (cmpI x y = -1) := Lib.hid (by unfold cmpI; rw [if_pos h1])
  clear h1
  go_enter Tryz.func93, Tryz.ntmps93
  go_wp2_with (go_at_call 123; refine (isNaN_calls _ _).mono ?_; rintro e w' ⟨rfl, rfl⟩)
  go_ret
  exact ⟨ret_int HF.out.symm, rfl⟩
 ·
  have d1 : decide (x < y) = false := decide_eq_false h1
  by_cases h2 : y < x
  ·
   have d2 : decide (y < x) = true := decide_eq_true h2
   have HF : Hid (cmpI x y = 1) := Lib.hid (by unfold cmpI; rw [if_neg h1, if_pos h2])
   clear h1 h2
   go_enter Tryz.func93, Tryz.ntmps93
   go_wp2_with (go_at_call 123; refine (isNaN_calls _ _).mono ?_; rintro e w' ⟨rfl, rfl⟩)
   go_ret
   exact ⟨ret_int HF.out.symm, rfl⟩
  ·
   have d2 : decide (y < x) = false := decide_eq_false h2
   have HF : Hid (cmpI x y = 0) := Lib.hid (by unfold cmpI; rw [if_neg h1, if_neg h2])
   clear h1 h2
   go_enter Tryz.func93, Tryz.ntmps93
   go_wp2_with (go_at_call 123; refine (isNaN_calls _ _).mono ?_; rintro e w' ⟨rfl, rfl⟩)
   go_ret
   exact ⟨ret_int HF.out.symm, rfl⟩
theorem or_calls (A : Option Addr) (c : Nat) (a b r : Int) (HR : Hid ((if a ≠ 0 then a else b) = r)) (w : World) (hr : (Kd.int .i64).C w A 2 [a, b]) : Calls Tryz.prog 92 #[.slice A 2 c] w fun e w' => e = .returned (.int .i64 r) ∧ w' = w := by
 obtain ⟨ad, rfl, c0⟩ := at_num hr 0 (by omega)
 obtain ⟨ad', e', c1⟩ := at_num hr 1 (by omega)
 cases e'
 replace c0 : w.cell? (ad.add 0) = some (.int .i64 a) := c0
 rw [show ad.add 0 = ad from by cases ad; rfl] at c0
 replace c1 : w.cell? (ad.add 1) = some (.int .i64 b) := c1
 have c1 : w.cell? ⟨ad.block, ad.off + 1, none⟩ = some (.int .i64 b) := by simpa [Addr.add] using c1
 clear hr
 go_enter Tryz.func92, Tryz.ntmps92
 go_wp2
 go_loop [8] (fun i => ∃ (j : Nat), j ≤ 2 ∧ i = .int .i64 j ∧ Hid ((1 ≤ j → a = 0) ∧ (2 ≤ j → b = 0))) (fun i => 2 - (intOf i).toNat)
 case atStart => exact ⟨0, by omega, rfl, Lib.hid ⟨fun h => by omega, fun h => by omega⟩⟩
 case round =>
  obtain ⟨j, hj, rfl, HS⟩ := hrel
  by_cases h0 : j = 0
  ·
   subst h0
   by_cases ha : a = 0
   ·
    have da : (a != 0) = false := by rw [bne_eq_false_iff_eq]; exact ha
    have HA := Lib.hid ha
    clear ha
    go_wp2
    go_round
    case rel => exact ⟨1, by omega, rfl, Lib.hid ⟨fun _ => HA.out, fun h => by omega⟩⟩
    case measure => simp [intOf]
   ·
    have da : (a != 0) = true := by rw [bne_iff_ne]; exact ha
    have HF : Hid (r = a) := Lib.hid (by rw [← HR.out]; exact if_pos ha)
    clear ha
    go_wp2
    go_ret
    exact ⟨ret_int HF.out.symm, rfl⟩
  ·
   by_cases h1 : j = 1
   ·
    subst h1
    have HA := Lib.hid (HS.out.1 (Nat.le_refl _))
    by_cases hb : b = 0
    ·
     have da : (b != 0) = false := by rw [bne_eq_false_iff_eq]; exact hb
     have HB := Lib.hid hb
     clear hb h0
     go_wp2
     go_round
     case rel => exact ⟨2, by omega, rfl, Lib.hid ⟨fun _ => HA.out, fun _ => HB.out⟩⟩
     case measure => simp [intOf]
    ·
     have da : (b != 0) = true := by rw [bne_iff_ne]; exact hb
     have HF : Hid (r = b) := Lib.hid (by rw [← HR.out]; exact if_neg (fun h => h HA.out))
     clear hb h0
     go_wp2
     go_ret
     exact ⟨ret_int HF.out.symm, rfl⟩
   ·
    obtain rfl : j = 2 := by omega
    have HF : Hid (r = 0) := Lib.hid (by rw [← HR.out, HS.out.2 (Nat.le_refl _), HS.out.1 (by omega)]; rfl)
    clear h0 h1
    go_wp2
    go_ret
    exact ⟨ret_int HF.out.symm, rfl⟩
end Go.Proofs.YtlapphhcficbjaaGreatDoor

namespace Go.Proofs.YtlapphhcficbjaaGreatDoor
set_option linter.unusedVariables false
set_option linter.unusedSimpArgs false
open Go.RowKit Go.Shelf Bits Go.Sort
open Go.Proofs.YtlapphhcficbjaaGreatDoorW.PrintWords Go.Proofs.YtlapphhcficbjaaGreatDoorW.PrintLast Go.Proofs.YtlapphhcficbjaaGreatDoorW.PrintMore
attribute [local go_sem] Oper.semAt_some
theorem grow2 (W : World) (a b : Obj) : (W.alloc a).alloc b = grow (W.drewN 0) #[a, b] := by
 rw [alloc_eq_grow, alloc_eq_grow, grow_grow]
 rfl
theorem grow3 (W : World) (a b c : Obj) : (((W.alloc a).alloc b).alloc c).drew = grow (W.drewN 1) #[a, b, c] := by
 rw [alloc_eq_grow, alloc_eq_grow, alloc_eq_grow, grow_grow, grow_grow]
 rfl
theorem lit2 (W : World) (x y : Int) : (Kd.int .i64).C (W.alloc (.cells #[.int .i64 x, .int .i64 y] 3)).drew (some ⟨W.heap.size, 0, none⟩) 2 [x, y] :=
 Kd.C_below (Kd.R_reads' (lit_R W [x, y] (by simp))).2.2 (Below.refl _ _).drew
set_option maxRecDepth 100000 in
set_option maxHeartbeats 4000000 in
theorem chgCmp_calls (a b : Ev) (W : World) :
  Calls Tryz.prog 91 #[.agg #[.int .i64 a.f0, .int .i64 a.f1, .bool a.f2], .agg #[.int .i64 b.f0, .int .i64 b.f1, .bool b.f2]] W fun e w' => e = .returned (.int .i64 (cmpE a b)) ∧ ∃ q os', w' = grow (W.drewN q) os' := by
 obtain ⟨a0, a1, a2⟩ := a
 obtain ⟨b0, b1, b2⟩ := b
 obtain ⟨r1, h1⟩ : ∃ r1, cmpI a0 b0 = r1 := ⟨_, rfl⟩
 obtain ⟨r2, h2⟩ : ∃ r2, cmpI a1 b1 = r2 := ⟨_, rfl⟩
 have H1 := Lib.hid h1
 have H2 := Lib.hid h2
 by_cases h0 : a0 = b0
 ·
  cases a2 <;> cases b2
  ·
   have HE : Hid (cmpE ⟨a0, a1, false⟩ ⟨b0, b1, false⟩ = if r1 ≠ 0 then r1 else r2) := Lib.hid (by unfold cmpE; rw [if_neg (fun h => h.2 rfl), ← h1, ← h2])
   obtain ⟨r, hr⟩ : ∃ r, (if r1 ≠ 0 then r1 else r2) = r := ⟨_, rfl⟩
   have HR : Hid (Hid ((if r1 ≠ 0 then r1 else r2) = r)) := Lib.hid (Lib.hid hr)
   rw [hr] at HE
   have d0 : (a0 == b0) = true := beq_iff_eq.2 h0
   clear hr h0 h1 h2
   simp only []
   go_enter Tryz.func91, Tryz.ntmps91
   go_wp2
   have ca0 : ((W.alloc (.cells #[.int .i64 a0, .int .i64 a1, .bool false] 80)).alloc (.cells #[.int .i64 b0, .int .i64 b1, .bool false] 80)).cell? ⟨W.heap.size, 0, none⟩ = some (.int .i64 a0) := by go_simp
   have ca1 : ((W.alloc (.cells #[.int .i64 a0, .int .i64 a1, .bool false] 80)).alloc (.cells #[.int .i64 b0, .int .i64 b1, .bool false] 80)).cell? ⟨W.heap.size, 1, none⟩ = some (.int .i64 a1) := by go_simp
   have cb0 : ((W.alloc (.cells #[.int .i64 a0, .int .i64 a1, .bool false] 80)).alloc (.cells #[.int .i64 b0, .int .i64 b1, .bool false] 80)).cell? ⟨W.heap.size + 1, 0, none⟩ = some (.int .i64 b0) := by go_simp
   have cb1 : ((W.alloc (.cells #[.int .i64 a0, .int .i64 a1, .bool false] 80)).alloc (.cells #[.int .i64 b0, .int .i64 b1, .bool false] 80)).cell? ⟨W.heap.size + 1, 1, none⟩ = some (.int .i64 b1) := by go_simp
   obtain ⟨W2, hW2⟩ : ∃ W2, W2 = (W.alloc (.cells #[.int .i64 a0, .int .i64 a1, .bool false] 80)).alloc (.cells #[.int .i64 b0, .int .i64 b1, .bool false] 80) := ⟨_, rfl⟩
   rw [← hW2] at ca0 ca1 cb0 cb1 ⊢
   have HW2 := Lib.hid hW2
   clear hW2
   go_still_tail 10, mixed
   repeat still_step
   still_call (compare_calls a0 b0 _)
   repeat still_step
   still_call (compare_calls a1 b1 _)
   repeat still_step
   refine wpStill_nil ?_
   rw [show cmpI a0 b0 = r1 from H1.out, show cmpI a1 b1 = r2 from H2.out]
   change wpList _ _ _ _ _ W2.drew
   go_wp2_with (go_at_call 92; refine (or_calls _ _ r1 r2 r HR.out _ (lit2 _ r1 r2)).mono ?_; rintro e w' ⟨rfl, rfl⟩)
   go_ret
   exact ⟨ret_int HE.out.symm, 1, _, by rw [HW2.out]; exact grow3 _ _ _ _⟩
  ·
   have HE : Hid (cmpE ⟨a0, a1, false⟩ ⟨b0, b1, true⟩ = 1) := Lib.hid (by unfold cmpE; rw [if_pos ⟨h0, by simp⟩]; rfl)
   have d0 : (a0 == b0) = true := beq_iff_eq.2 h0
   clear h0 h1 h2
   simp only [] 
   go_enter Tryz.func91, Tryz.ntmps91
   go_wp2
   go_ret
   exact ⟨ret_int HE.out.symm, 0, _, grow2 _ _ _⟩
  ·
   have HE : Hid (cmpE ⟨a0, a1, true⟩ ⟨b0, b1, false⟩ = -1) := Lib.hid (by unfold cmpE; rw [if_pos ⟨h0, by simp⟩]; rfl)
   have d0 : (a0 == b0) = true := beq_iff_eq.2 h0
   clear h0 h1 h2
   simp only [] 
   go_enter Tryz.func91, Tryz.ntmps91
   go_wp2
   go_ret
   exact ⟨ret_int HE.out.symm, 0, _, grow2 _ _ _⟩
  ·
   have HE : Hid (cmpE ⟨a0, a1, true⟩ ⟨b0, b1, true⟩ = if r1 ≠ 0 then r1 else r2) := Lib.hid (by unfold cmpE; rw [if_neg (fun h => h.2 rfl), ← h1, ← h2])
   obtain ⟨r, hr⟩ : ∃ r, (if r1 ≠ 0 then r1 else r2) = r := ⟨_, rfl⟩
   have HR : Hid (Hid ((if r1 ≠ 0 then r1 else r2) = r)) := Lib.hid (Lib.hid hr)
   rw [hr] at HE
   have d0 : (a0 == b0) = true := beq_iff_eq.2 h0
   clear hr h0 h1 h2
   simp only []
   go_enter Tryz.func91, Tryz.ntmps91
   go_wp2
   have ca0 : ((W.alloc (.cells #[.int .i64 a0, .int .i64 a1, .bool true] 80)).alloc (.cells #[.int .i64 b0, .int .i64 b1, .bool true] 80)).cell? ⟨W.heap.size, 0, none⟩ = some (.int .i64 a0) := by go_simp
   have ca1 : ((W.alloc (.cells #[.int .i64 a0, .int .i64 a1, .bool true] 80)).alloc (.cells #[.int .i64 b0, .int .i64 b1, .bool true] 80)).cell? ⟨W.heap.size, 1, none⟩ = some (.int .i64 a1) := by go_simp
   have cb0 : ((W.alloc (.cells #[.int .i64 a0, .int .i64 a1, .bool true] 80)).alloc (.cells #[.int .i64 b0, .int .i64 b1, .bool true] 80)).cell? ⟨W.heap.size + 1, 0, none⟩ = some (.int .i64 b0) := by go_simp
   have cb1 : ((W.alloc (.cells #[.int .i64 a0, .int .i64 a1, .bool true] 80)).alloc (.cells #[.int .i64 b0, .int .i64 b1, .bool true] 80)).cell? ⟨W.heap.size + 1, 1, none⟩ = some (.int .i64 b1) := by go_simp
   obtain ⟨W2, hW2⟩ : ∃ W2, W2 = (W.alloc (.cells #[.int .i64 a0, .int .i64 a1, .bool true] 80)).alloc (.cells #[.int .i64 b0, .int .i64 b1, .bool true] 80) := ⟨_, rfl⟩
   rw [← hW2] at ca0 ca1 cb0 cb1 ⊢
   have HW2 := Lib.hid hW2
   clear hW2
   go_still_tail 10, mixed
   repeat still_step
   still_call (compare_calls a0 b0 _)
   repeat still_step
   still_call (compare_calls a1 b1 _)
   repeat still_step
   refine wpStill_nil ?_
   rw [show cmpI a0 b0 = r1 from H1.out, show cmpI a1 b1 = r2 from H2.out]
   change wpList _ _ _ _ _ W2.drew
   go_wp2_with (go_at_call 92; refine (or_calls _ _ r1 r2 r HR.out _ (lit2 _ r1 r2)).mono ?_; rintro e w' ⟨rfl, rfl⟩)
   go_ret
   exact ⟨ret_int HE.out.symm, 1, _, by rw [HW2.out]; exact grow3 _ _ _ _⟩
 ·
  cases a2 <;> cases b2
  ·
   have HE : Hid (cmpE ⟨a0, a1, false⟩ ⟨b0, b1, false⟩ = if r1 ≠ 0 then r1 else r2) := Lib.hid (by unfold cmpE; rw [if_neg (fun h => h0 h.1), ← h1, ← h2])
   obtain ⟨r, hr⟩ : ∃ r, (if r1 ≠ 0 then r1 else r2) = r := ⟨_, rfl⟩
   have HR : Hid (Hid ((if r1 ≠ 0 then r1 else r2) = r)) := Lib.hid (Lib.hid hr)
   rw [hr] at HE
   have d0 : (a0 == b0) = false := beq_eq_false_iff_ne.2 h0
   clear hr h0 h1 h2
   simp only []
   go_enter Tryz.func91, Tryz.ntmps91
   go_wp2
   have ca0 : ((W.alloc (.cells #[.int .i64 a0, .int .i64 a1, .bool false] 80)).alloc (.cells #[.int .i64 b0, .int .i64 b1, .bool false] 80)).cell? ⟨W.heap.size, 0, none⟩ = some (.int .i64 a0) := by go_simp
   have ca1 : ((W.alloc (.cells #[.int .i64 a0, .int .i64 a1, .bool false] 80)).alloc (.cells #[.int .i64 b0, .int .i64 b1, .bool false] 80)).cell? ⟨W.heap.size, 1, none⟩ = some (.int .i64 a1) := by go_simp
   have cb0 : ((W.alloc (.cells #[.int .i64 a0, .int .i64 a1, .bool false] 80)).alloc (.cells #[.int .i64 b0, .int .i64 b1, .bool false] 80)).cell? ⟨W.heap.size + 1, 0, none⟩ = some (.int .i64 b0) := by go_simp
   have cb1 : ((W.alloc (.cells #[.int .i64 a0, .int .i64 a1, .bool false] 80)).alloc (.cells #[.int .i64 b0, .int .i64 b1, .bool false] 80)).cell? ⟨W.heap.size + 1, 1, none⟩ = some (.int .i64 b1) := by go_simp
   obtain ⟨W2, hW2⟩ : ∃ W2, W2 = (W.alloc (.cells #[.int .i64 a0, .int .i64 a1, .bool false] 80)).alloc (.cells #[.int .i64 b0, .int .i64 b1, .bool false] 80) := ⟨_, rfl⟩
   rw [← hW2] at ca0 ca1 cb0 cb1 ⊢
   have HW2 := Lib.hid hW2
   clear hW2
   go_still_tail 10, mixed
   repeat still_step
   still_call (compare_calls a0 b0 _)
   repeat still_step
   still_call (compare_calls a1 b1 _)
   repeat still_step
   refine wpStill_nil ?_
   rw [show cmpI a0 b0 = r1 from H1.out, show cmpI a1 b1 = r2 from H2.out]
   change wpList _ _ _ _ _ W2.drew
   go_wp2_with (go_at_call 92; refine (or_calls _ _ r1 r2 r HR.out _ (lit2 _ r1 r2)).mono ?_; rintro e w' ⟨rfl, rfl⟩)
   go_ret
   exact ⟨ret_int HE.out.symm, 1, _, by rw [HW2.out]; exact grow3 _ _ _ _⟩
  ·
   have HE : Hid (cmpE ⟨a0, a1, false⟩ ⟨b0, b1, true⟩ = if r1 ≠ 0 then r1 else r2) := Lib.hid (by unfold cmpE; rw [if_neg (fun h => h0 h.1), ← h1, ← h2])
   obtain ⟨r, hr⟩ : ∃ r, (if r1 ≠ 0 then r1 else r2) = r := ⟨_, rfl⟩
   have HR : Hid (Hid ((if r1 ≠ 0 then r1 else r2) = r)) := Lib.hid (Lib.hid hr)
   rw [hr] at HE
   have d0 : (a0 == b0) = false := beq_eq_false_iff_ne.2 h0
   clear hr h0 h1 h2
   simp only []
   go_enter Tryz.func91, Tryz.ntmps91
   go_wp2
   have ca0 : ((W.alloc (.cells #[.int .i64 a0, .int .i64 a1, .bool false] 80)).alloc (.cells #[.int .i64 b0, .int .i64 b1, .bool true] 80)).cell? ⟨W.heap.size, 0, none⟩ = some (.int .i64 a0) := by go_simp
   have ca1 : ((W.alloc (.cells #[.int .i64 a0, .int .i64 a1, .bool false] 80)).alloc (.cells #[.int .i64 b0, .int .i64 b1, .bool true] 80)).cell? ⟨W.heap.size, 1, none⟩ = some (.int .i64 a1) := by go_simp
   have cb0 : ((W.alloc (.cells #[.int .i64 a0, .int .i64 a1, .bool false] 80)).alloc (.cells #[.int .i64 b0, .int .i64 b1, .bool true] 80)).cell? ⟨W.heap.size + 1, 0, none⟩ = some (.int .i64 b0) := by go_simp
   have cb1 : ((W.alloc (.cells #[.int .i64 a0, .int .i64 a1, .bool false] 80)).alloc (.cells #[.int .i64 b0, .int .i64 b1, .bool true] 80)).cell? ⟨W.heap.size + 1, 1, none⟩ = some (.int .i64 b1) := by go_simp
   obtain ⟨W2, hW2⟩ : ∃ W2, W2 = (W.alloc (.cells #[.int .i64 a0, .int .i64 a1, .bool false] 80)).alloc (.cells #[.int .i64 b0, .int .i64 b1, .bool true] 80) := ⟨_, rfl⟩
   rw [← hW2] at ca0 ca1 cb0 cb1 ⊢
   have HW2 := Lib.hid hW2
   clear hW2
   go_still_tail 10, mixed
   repeat still_step
   still_call (compare_calls a0 b0 _)
   repeat still_step
   still_call (compare_calls a1 b1 _)
   repeat still_step
   refine wpStill_nil ?_
   rw [show cmpI a0 b0 = r1 from H1.out, show cmpI a1 b1 = r2 from H2.out]
   change wpList _ _ _ _ _ W2.drew
   go_wp2_with (go_at_call 92; refine (or_calls _ _ r1 r2 r HR.out _ (lit2 _ r1 r2)).mono ?_; rintro e w' ⟨rfl, rfl⟩)
   go_ret
   exact ⟨ret_int HE.out.symm, 1, _, by rw [HW2.out]; exact grow3 _ _ _ _⟩
  ·
   have HE : Hid (cmpE ⟨a0, a1, true⟩ ⟨b0, b1, false⟩ = if r1 ≠ 0 then r1 else r2) := Lib.hid (by unfold cmpE; rw [if_neg (fun h => h0 h.1), ← h1, ← h2])
   obtain ⟨r, hr⟩ : ∃ r, (if r1 ≠ 0 then r1 else r2) = r := ⟨_, rfl⟩
   have HR : Hid (Hid ((if r1 ≠ 0 then r1 else r2) = r)) := Lib.hid (Lib.hid hr)
   rw [hr] at HE
   have d0 : (a0 == b0) = false := beq_eq_false_iff_ne.2 h0
   clear hr h0 h1 h2
   simp only []
   go_enter Tryz.func91, Tryz.ntmps91
   go_wp2
   have ca0 : ((W.alloc (.cells #[.int .i64 a0, .int .i64 a1, .bool true] 80)).alloc (.cells #[.int .i64 b0, .int .i64 b1, .bool false] 80)).cell? ⟨W.heap.size, 0, none⟩ = some (.int .i64 a0) := by go_simp
   have ca1 : ((W.alloc (.cells #[.int .i64 a0, .int .i64 a1, .bool true] 80)).alloc (.cells #[.int .i64 b0, .int .i64 b1, .bool false] 80)).cell? ⟨W.heap.size, 1, none⟩ = some (.int .i64 a1) := by go_simp
   have cb0 : ((W.alloc (.cells #[.int .i64 a0, .int .i64 a1, .bool true] 80)).alloc (.cells #[.int .i64 b0, .int .i64 b1, .bool false] 80)).cell? ⟨W.heap.size + 1, 0, none⟩ = some (.int .i64 b0) := by go_simp
   have cb1 : ((W.alloc (.cells #[.int .i64 a0, .int .i64 a1, .bool true] 80)).alloc (.cells #[.int .i64 b0, .int .i64 b1, .bool false] 80)).cell? ⟨W.heap.size + 1, 1, none⟩ = some (.int .i64 b1) := by go_simp
   obtain ⟨W2, hW2⟩ : ∃ W2, W2 = (W.alloc (.cells #[.int .i64 a0, .int .i64 a1, .bool true] 80)).alloc (.cells #[.int .i64 b0, .int .i64 b1, .bool false] 80) := ⟨_, rfl⟩
   rw [← hW2] at ca0 ca1 cb0 cb1 ⊢
   have HW2 := Lib.hid hW2
   clear hW2
   go_still_tail 10, mixed
   repeat still_step
   still_call (compare_calls a0 b0 _)
   repeat still_step
   still_call (compare_calls a1 b1 _)
   repeat still_step
   refine wpStill_nil ?_
   rw [show cmpI a0 b0 = r1 from H1.out, show cmpI a1 b1 = r2 from H2.out]
   change wpList _ _ _ _ _ W2.drew
   go_wp2_with (go_at_call 92; refine (or_calls _ _ r1 r2 r HR.out _ (lit2 _ r1 r2)).mono ?_; rintro e w' ⟨rfl, rfl⟩)
   go_ret
   exact ⟨ret_int HE.out.symm, 1, _, by rw [HW2.out]; exact grow3 _ _ _ _⟩
  ·
   have HE : Hid (cmpE ⟨a0, a1, true⟩ ⟨b0, b1, true⟩ = if r1 ≠ 0 then r1 else r2) := Lib.hid (by unfold cmpE; rw [if_neg (fun h => h0 h.1), ← h1, ← h2])
   obtain ⟨r, hr⟩ : ∃ r, (if r1 ≠ 0 then r1 else r2) = r := ⟨_, rfl⟩
   have HR : Hid (Hid ((if r1 ≠ 0 then r1 else r2) = r)) := Lib.hid (Lib.hid hr)
   rw [hr] at HE
   have d0 : (a0 == b0) = false := beq_eq_false_iff_ne.2 h0
   clear hr h0 h1 h2
   simp only []
   go_enter Tryz.func91, Tryz.ntmps91
   go_wp2
   have ca0 : ((W.alloc (.cells #[.int .i64 a0, .int .i64 a1, .bool true] 80)).alloc (.cells #[.int .i64 b0, .int .i64 b1, .bool true] 80)).cell? ⟨W.heap.size, 0, none⟩ = some (.int .i64 a0) := by go_simp
   have ca1 : ((W.alloc (.cells #[.int .i64 a0, .int .i64 a1, .bool true] 80)).alloc (.cells #[.int .i64 b0, .int .i64 b1, .bool true] 80)).cell? ⟨W.heap.size, 1, none⟩ = some (.int .i64 a1) := by go_simp
   have cb0 : ((W.alloc (.cells #[.int .i64 a0, .int .i64 a1, .bool true] 80)).alloc (.cells #[.int .i64 b0, .int .i64 b1, .bool true] 80)).cell? ⟨W.heap.size + 1, 0, none⟩ = some (.int .i64 b0) := by go_simp
   have cb1 : ((W.alloc (.cells #[.int .i64 a0, .int .i64 a1, .bool true] 80)).alloc (.cells #[.int .i64 b0, .int .i64 b1, .bool true] 80)).cell? ⟨W.heap.size + 1, 1, none⟩ = some (.int .i64 b1) := by go_simp
   obtain ⟨W2, hW2⟩ : ∃ W2, W2 = (W.alloc (.cells #[.int .i64 a0, .int .i64 a1, .bool true] 80)).alloc (.cells #[.int .i64 b0, .int .i64 b1, .bool true] 80) := ⟨_, rfl⟩
   rw [← hW2] at ca0 ca1 cb0 cb1 ⊢
   have HW2 := Lib.hid hW2
   clear hW2
   go_still_tail 10, mixed
   repeat still_step
   still_call (compare_calls a0 b0 _)
   repeat still_step
   still_call (compare_calls a1 b1 _)
   repeat still_step
   refine wpStill_nil ?_
   rw [show cmpI a0 b0 = r1 from H1.out, show cmpI a1 b1 = r2 from H2.out]
   change wpList _ _ _ _ _ W2.drew
   go_wp2_with (go_at_call 92; refine (or_calls _ _ r1 r2 r HR.out _ (lit2 _ r1 r2)).mono ?_; rintro e w' ⟨rfl, rfl⟩)
   go_ret
   exact ⟨ret_int HE.out.symm, 1, _, by rw [HW2.out]; exact grow3 _ _ _ _⟩
end Go.Proofs.YtlapphhcficbjaaGreatDoor
