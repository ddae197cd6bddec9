/- Parts of the proof, laid as one text by a program of mine. -/
import Derived.Test.YtdjdfbfcjajlkaaDoorKcc17
import Derived.StillTailTactics
import Derived.Deep.RegionHeld3
import Derived.Test.YtdjdfbfcjajlkaaDoorKcc19
import Derived.Test.YtdjdfbfcjajlkaaDoorKcc7
import Derived.Test.YtdjdfbfcjajlkaaDoorKcc15
namespace Go.Proofs.YtdjdfbfcjajlkaaDoor
set_option linter.unusedVariables false
set_option linter.unusedSimpArgs false
open Go.RowKit Go.Shelf Bits
def vRunB (g : List Tk) (rm : List Int) (run : List Nat) : Bool := specValid g && (roomB rm && (ascB (ints run) && (allInB (ints run) 0 (g.length - 1) && (List.range 3).all fun p => decide (usedS g run (p : Nat) ≤ rm.getD p 0))))
def needsOkB (g : List Tk) (st : List Int) (i : Nat) : Bool := (rdTk g i).f1.all fun x => decide (st.getD x.toNat 0 + (rdTk g x.toNat).f0 ≤ st.getD i 0)
def startOkB (g : List Tk) (rm : List Int) (wk : Int) (st : List Int) (i : Nat) : Bool :=
 needsOkB g st i && (decide (((runS g st (st.getD i 0)).length : Int) ≤ wk) && vRunB g rm (runS g st (st.getD i 0)))
def vStB (g : List Tk) (rm : List Int) (wk : Int) (st : List Int) : Bool := specValid g && (roomB rm && (inB wk 1 4 && (decide (st.length = g.length) && (allInB st 0 200 && (List.range g.length).all (startOkB g rm wk st)))))
def stN (g : List Tk) (rm : List Int) (wk : Int) (st : List Int) : Bool := match graphN g with
 | some ns => placeB rm wk && (decide (st.length = g.length) && (allInB st 0 200 && startsB g ns rm wk st))
 | none => false
theorem ascB_filter (P : Nat → Bool) (n : Nat) : ascB (ints ((List.range n).filter P)) = true := by
 have h : ((List.range n).filter P).Pairwise (· < ·) := List.Pairwise.filter P List.pairwise_lt_range
 generalize (List.range n).filter P = L at h
 unfold ascB
 rw [List.all_eq_true]
 intro j hj
 have hj := List.mem_range.1 hj
 rw [ints_length] at hj
 rw [ints_getD, ints_getD]
 have := (List.pairwise_iff_getElem.1 h) j (j + 1) (by omega) (by omega) (by omega)
 rw [List.getD_eq_getElem?_getD, List.getD_eq_getElem?_getD, List.getElem?_eq_getElem (show j < L.length by omega), List.getElem?_eq_getElem (show j + 1 < L.length by omega)]
 exact decide_eq_true (by simpa using this)
theorem runS_in (g : List Tk) (st : List Int) (now : Int) : allInB (ints (runS g st now)) 0 (g.length - 1) = true := by
 unfold allInB
 rw [List.all_eq_true]
 intro x hx
 unfold ints at hx
 obtain ⟨k, hk, rfl⟩ := List.mem_map.1 hx
 have := (mem_runS.1 hk).1
 refine inB_true.2 ?_
 simp only [Int.ofNat_eq_natCast]
 omega
theorem startOk_iff {g : List Tk} (hv : specValid g = true) {rm : List Int} (hrm : roomB rm = true) {wk : Int} {st : List Int} {i : Nat} (hi : i < g.length) : startOkB g rm wk st i = true ↔ runOk g rm wk st i := by
 unfold startOkB runOk vRunB needsOkB
 rw [hv, hrm, runS_in, show ascB (ints (runS g st (st.getD i 0))) = true from ascB_filter _ _, Bool.true_and, Bool.true_and, Bool.true_and, Bool.true_and, Bool.and_eq_true, Bool.and_eq_true, List.all_eq_true, List.all_eq_true, decide_eq_true_iff]
 have e1 : (∀ x ∈ (rdTk g i).f1, decide (st.getD x.toNat 0 + (rdTk g x.toNat).f0 ≤ st.getD i 0) = true) ↔ ∀ k : Nat, (k : Int) ∈ (rdTk g i).f1 → st.getD k 0 + (rdTk g k).f0 ≤ st.getD i 0 := by
  constructor
  ·
   intro h k hk
   have := of_decide_eq_true (h _ hk)
   rwa [Int.toNat_natCast] at this
  ·
   intro h x hx
   have hin := spec_needs_in hv i hi x hx
   have := h x.toNat (by rw [show ((x.toNat : Nat) : Int) = x by omega]; exact hx)
   exact decide_eq_true this
 have e2 : (∀ p ∈ List.range 3, decide (usedS g (runS g st (st.getD i 0)) (p : Nat) ≤ rm.getD p 0) = true) ↔ ∀ p : Nat, p < 3 → usedS g (runS g st (st.getD i 0)) p ≤ rm.getD p 0 := by
  constructor
  ·
   exact fun h p hp => of_decide_eq_true (h p (List.mem_range.2 hp))
  ·
   exact fun h p hp => decide_eq_true (h p (List.mem_range.1 hp))
 rw [e1, e2]
theorem vSt_iff {g : List Tk} {rm : List Int} {wk : Int} {st : List Int} : vStB g rm wk st = true ↔ specValid g = true ∧ placeB rm wk = true ∧ st.length = g.length ∧ allInB st 0 200 = true ∧ ∀ i, i < g.length → runOk g rm wk st i := by
 unfold vStB placeB
 simp only [Bool.and_eq_true, decide_eq_true_iff, List.all_eq_true, List.mem_range]
 constructor
 ·
  rintro ⟨h1, h2, h3, h4, h5, h6⟩
  exact ⟨h1, ⟨h2, h3⟩, h4, h5, fun i hi => (startOk_iff h1 h2 hi).1 (h6 i hi)⟩
 ·
  rintro ⟨h1, ⟨h2, h3⟩, h4, h5, h6⟩
  exact ⟨h1, h2, h3, h4, h5, fun i hi => (startOk_iff h1 h2 hi).2 (h6 i hi)⟩
theorem st_eq (g : List Tk) (rm : List Int) (wk : Int) (st : List Int) : stN g rm wk st = vStB g rm wk st := by
 rw [Bool.eq_iff_iff, vSt_iff]
 unfold stN
 cases hg : graphN g with
 | none =>
  rw [specValid_eq, hg]
  simp
 | some ns =>
  simp only [Bool.and_eq_true, decide_eq_true_iff]
  rw [startsB_iff hg]
  have hv := graphN_spec hg
  constructor
  ·
   rintro ⟨h1, h2, h3, h4⟩
   have hr := (roomB_facts (placeB_facts h1).1).2
   exact ⟨hv, h1, h2, h3, (can_run (specValid_TOk hv) (fun p hp => (hr p hp).1)).1 h4⟩
  ·
   rintro ⟨_, h1, h2, h3, h4⟩
   have hr := (roomB_facts (placeB_facts h1).1).2
   exact ⟨h1, h2, h3, (can_run (specValid_TOk hv) (fun p hp => (hr p hp).1)).2 h4⟩
structure Valid (g : List Tk) (rm : List Int) (wk : Int) (st : List Int) : Prop where
 v : specValid g = true
 p : placeB rm wk = true
 len : st.length = g.length
 b : ∀ i, i < g.length → 0 ≤ st.getD i 0 ∧ st.getD i 0 ≤ 200
 run : ∀ i, i < g.length → runOk g rm wk st i
theorem vSt_valid {g : List Tk} {rm : List Int} {wk : Int} {st : List Int} (h : vStB g rm wk st = true) : Valid g rm wk st := by
 obtain ⟨h1, h2, h3, h4, h5⟩ := vSt_iff.1 h
 refine ⟨h1, h2, h3, fun i hi => ?_, h5⟩
 unfold allInB at h4
 rw [List.all_eq_true] at h4
 exact inB_true.1 (h4 _ (mem_getD (by omega)))
theorem Valid.ok {g : List Tk} {rm : List Int} {wk : Int} {st : List Int} (h : Valid g rm wk st) : TOk g := specValid_TOk h.v
theorem valid_vSt {g : List Tk} {rm : List Int} {wk : Int} {st : List Int} (h : Valid g rm wk st) : vStB g rm wk st = true := by
 refine vSt_iff.2 ⟨h.v, h.p, h.len, ?_, h.run⟩
 unfold allInB
 exact all_take 0 (fun j hj => inB_true.2 (h.b j (by have := h.len; omega)))
theorem Valid.needs {g : List Tk} {rm : List Int} {wk : Int} {st : List Int} (h : Valid g rm wk st) : ∀ k, k < g.length → ∀ i : Nat, (i : Int) ∈ (rdTk g k).f1 → st.getD i 0 + (rdTk g i).f0 ≤ st.getD k 0 := fun k hk i hi => (h.run k hk).1 i hi
theorem getD_out {l : List Int} {i : Nat} (h : ¬ i < l.length) : l.getD i 0 = 0 := by
 rw [List.getD_eq_getElem?_getD, List.getElem?_eq_none (by omega)]
 rfl
theorem Valid.sok {g : List Tk} {rm : List Int} {wk : Int} {st : List Int} (h : Valid g rm wk st) : SOk st := fun i => by
 by_cases hi : i < g.length
 ·
  have := h.b i hi
  omega
 ·
  rw [getD_out (by have := h.len; omega)]
  omega
theorem allIn_sok {st : List Int} (h : allInB st 0 200 = true) : SOk st := fun i => by
 by_cases hi : i < st.length
 ·
  unfold allInB at h
  rw [List.all_eq_true] at h
  have := inB_true.1 (h _ (mem_getD hi))
  omega
 ·
  rw [getD_out hi]
  omega
end Go.Proofs.YtdjdfbfcjajlkaaDoor

namespace Go.Proofs.YtdjdfbfcjajlkaaDoor
set_option linter.unusedVariables false
set_option linter.unusedSimpArgs false
open Go.RowKit Go.Shelf Bits
def etS (g : List Tk) (rm : List Int) (wk : Int) (st : List Int) : Int := if vStB g rm wk st then endS g st g.length else -1
def raS (g : List Tk) (rm : List Int) (wk : Int) (st : List Int) (now : Int) : List Nat := if vStB g rm wk st then runS g st now else []
def cancF (g : List Tk) (st : List Int) (now : Int) (i : Nat) : Int := if st.getD i 0 + (rdTk g i).f0 ≤ now then 0 else if st.getD i 0 < now then 1 else 3
def caS (g : List Tk) (rm : List Int) (wk : Int) (st : List Int) (now : Int) : List Int := if vStB g rm wk st && inB now 0 200 then (List.range g.length).map (cancF g st now) else []
def lgS (g : List Tk) (rm : List Int) (wk : Int) (st : List Int) : List Ev := if vStB g rm wk st then chgS g st else []
def lateB (g : List Tk) (st : List Int) (dl : Int) (i : Nat) : Bool := decide (dl - (tailsS g).getD i 0 < st.getD i 0)
def ltS (g : List Tk) (rm : List Int) (wk : Int) (st : List Int) (dl : Int) : List Nat := if vStB g rm wk st && inB dl 0 200 then (List.range g.length).filter (lateB g st dl) else []
def mdS (g : List Tk) (rm : List Int) (wk : Int) (st : List Int) (dl : Int) : Bool := vStB g rm wk st && (inB dl 0 200 && decide (endS g st g.length ≤ dl))
theorem runS_shift {g : List Tk} {st st' : List Int} {d : Int} (h : ∀ i, i < g.length → st'.getD i 0 = st.getD i 0 + d) (now : Int) : runS g st' (now + d) = runS g st now := by
 unfold runS
 apply List.filter_congr
 intro i hi
 rw [Bool.eq_iff_iff, runB_iff, runB_iff, h i (List.mem_range.1 hi)]
 omega
theorem valid_shift {g : List Tk} {rm : List Int} {wk : Int} {st st' : List Int} {d : Int} (h : Valid g rm wk st) (hl : st'.length = g.length) (he : ∀ i, i < g.length → st'.getD i 0 = st.getD i 0 + d) (hb : ∀ i, i < g.length → 0 ≤ st'.getD i 0 ∧ st'.getD i 0 ≤ 200) : Valid g rm wk st' := by
 refine ⟨h.v, h.p, hl, hb, fun i hi => ?_⟩
 obtain ⟨h1, h2, h3⟩ := h.run i hi
 unfold runOk
 rw [he i hi, runS_shift he]
 refine ⟨fun k hk => ?_, h2, h3⟩
 have := spec_needs_in h.v i hi _ hk
 have := h1 k hk
 rw [he k (by omega)]
 omega
theorem valid_more {g : List Tk} {rm rm' : List Int} {wk wk' : Int} {st : List Int} (h : Valid g rm wk st) (hp : placeB rm' wk' = true) (hw : wk ≤ wk') (hr : ∀ p, p < 3 → rm.getD p 0 ≤ rm'.getD p 0) : Valid g rm' wk' st := by
 refine ⟨h.v, hp, h.len, h.b, fun i hi => ?_⟩
 obtain ⟨h1, h2, h3⟩ := h.run i hi
 exact ⟨h1, by omega, fun p hp => by have := h3 p hp; have := hr p hp; omega⟩
theorem endS_some {g : List Tk} {st : List Int} : ∀ n, 0 < n → (∀ i, i < n → 0 ≤ st.getD i 0 + (rdTk g i).f0) → ∃ i, i < n ∧ st.getD i 0 + (rdTk g i).f0 = endS g st n
 | 0, h, _ => absurd h (Nat.lt_irrefl _)
 | n + 1, _, h => by
  by_cases hn : 0 < n
  ·
   obtain ⟨i, hi, he⟩ := endS_some n hn (fun i hi => h i (by omega))
   unfold endS
   by_cases hc : endS g st n ≤ st.getD n 0 + (rdTk g n).f0
   ·
    exact ⟨n, by omega, by omega⟩
   ·
    exact ⟨i, by omega, by omega⟩
  ·
   obtain rfl : n = 0 := by omega
   refine ⟨0, by omega, ?_⟩
   have := h 0 (by omega)
   unfold endS endS
   omega
theorem endS_nonneg (g : List Tk) (st : List Int) : ∀ n, 0 ≤ endS g st n
 | 0 => Int.le_refl _
 | n + 1 => by
  have := endS_nonneg g st n
  unfold endS
  omega
theorem Valid.end_some {g : List Tk} {rm : List Int} {wk : Int} {st : List Int} (h : Valid g rm wk st) (hn : 0 < g.length) : ∃ i, i < g.length ∧ st.getD i 0 + (rdTk g i).f0 = endS g st g.length :=
 endS_some _ hn (fun i hi => by have := h.b i hi; have := h.ok.2.1 i; omega)
theorem Valid.end_pos {g : List Tk} {rm : List Int} {wk : Int} {st : List Int} (h : Valid g rm wk st) (hn : 0 < g.length) : 1 ≤ endS g st g.length := by
 obtain ⟨i, hi, he⟩ := h.end_some hn
 have := h.b i hi
 have := h.ok.2.2.2.2 i hi
 omega
theorem end_shift {g : List Tk} {rm : List Int} {wk : Int} {st st' : List Int} {d : Int} (h : Valid g rm wk st) (h' : Valid g rm wk st') (hn : 0 < g.length) (he : ∀ i, i < g.length → st'.getD i 0 = st.getD i 0 + d) : endS g st' g.length = endS g st g.length + d := by
 obtain ⟨i, hi, e1⟩ := h.end_some hn
 obtain ⟨j, hj, e2⟩ := h'.end_some hn
 have h1 := endS_mono g st j _ hj
 have h2 := endS_mono g st' i _ hi
 rw [he i hi] at h2
 rw [he j hj] at e2
 omega
theorem Valid.runs {g : List Tk} {rm : List Int} {wk : Int} {st : List Int} (h : Valid g rm wk st) (now : Int) : ((runS g st now).length : Int) ≤ wk ∧ ∀ p : Nat, p < 3 → usedS g (runS g st now) p ≤ rm.getD p 0 := by
 have hok := h.ok
 obtain ⟨hr, hw, _⟩ := placeB_facts h.p
 have hr := (roomB_facts hr).2
 by_cases hex : ∃ k, k < g.length ∧ runB g st now k = true
 ·
  obtain ⟨j, hj, hp, hl⟩ := last_of (st := st) (P := runB g st now) g.length hex
  have hjr := runB_iff.1 hp
  obtain ⟨_, h2, h3⟩ := h.run j hj
  have hsub : ∀ k, k < g.length → runB g st now k = true → runB g st (st.getD j 0) k = true := fun k hk hpk => by
   have hkr := runB_iff.1 hpk
   rcases hl k hk hpk with hh | hh
   ·
    exact runB_iff.2 (by omega)
   ·
    exact runB_iff.2 (by omega)
  constructor
  ·
   have := filter_len_le g.length hsub
   unfold runS at h2 ⊢
   omega
  ·
   intro p hp3
   have h4 := usedS_filter g p (P := runB g st now) (Q := runB g st (st.getD j 0)) hok g.length (fun k hk hpk _ => hsub k hk hpk)
   have h5 := h3 p hp3
   unfold runS at h5 ⊢
   omega
 ·
  have e : runS g st now = [] := by
   unfold runS
   rw [List.filter_eq_nil_iff]
   exact fun i hi hpi => hex ⟨i, List.mem_range.1 hi, hpi⟩
  rw [e]
  refine ⟨by simp; omega, fun p hp3 => ?_⟩
  have := (hr p hp3).1
  show (0 : Int) ≤ _
  omega
theorem Valid.run_end {g : List Tk} {rm : List Int} {wk : Int} {st : List Int} (h : Valid g rm wk st) : runS g st (endS g st g.length) = [] ∧ runS g st (-1) = [] ∧ (endS g st g.length ≠ 0 → runS g st (endS g st g.length - 1) ≠ []) := by
 refine ⟨?_, ?_, fun hne => ?_⟩
 ·
  unfold runS
  rw [List.filter_eq_nil_iff]
  intro i hi hp
  have := runB_iff.1 hp
  have := endS_mono g st i _ (List.mem_range.1 hi)
  omega
 ·
  unfold runS
  rw [List.filter_eq_nil_iff]
  intro i hi hp
  have := runB_iff.1 hp
  have := h.b i (List.mem_range.1 hi)
  omega
 ·
  have hn : 0 < g.length := by
   by_cases hn : 0 < g.length
   ·
    exact hn
   ·
    refine absurd ?_ hne
    rw [show g.length = 0 by omega]
    rfl
  obtain ⟨i, hi, he⟩ := h.end_some hn
  have := h.ok.2.2.2.2 i hi
  exact List.ne_nil_of_mem (mem_runS.2 ⟨hi, by omega, by omega⟩)
def clampW (g : List Tk) (st : List Int) (m : Int) (i : Nat) : Int := max 0 (min (rdTk g i).f0 (m - st.getD i 0))
theorem sumTo_mul {a : Nat → Int} {b : Nat → Int} {c : Nat → Int} : ∀ n, (∀ i, i < n → a i + b i = c i) → sumTo a n + sumTo b n = sumTo c n
 | 0, _ => rfl
 | n + 1, h => by
  have h1 := sumTo_mul n (fun i hi => h i (by omega))
  have h2 := h n (by omega)
  unfold sumTo
  omega
theorem work_done {g : List Tk} (hok : TOk g) {st : List Int} (h0 : ∀ i, i < g.length → 0 ≤ st.getD i 0) (wt : Nat → Int) : ∀ m : Nat, sumTo (fun t => sumTo (fun i => if runB g st t i then wt i else 0) g.length) m = sumTo (fun i => wt i * clampW g st m i) g.length
 | 0 => by
  show (0 : Int) = _
  have : sumTo (fun i => wt i * clampW g st (0 : Nat) i) g.length = sumTo (fun _ => 0) g.length := sumTo_congr _ (fun i hi => by
   unfold clampW
   have := h0 i hi
   have := hok.2.1 i
   rw [show max 0 (min (rdTk g i).f0 (((0 : Nat) : Int) - st.getD i 0)) = 0 by omega, Int.mul_zero])
  rw [this]
  have := sumTo_bound (f := fun _ => (0 : Int)) (a := 0) (b := 0) g.length (fun i _ => by omega)
  omega
 | m + 1 => by
  have ih := work_done hok h0 wt m
  show sumTo (fun t => sumTo (fun i => if runB g st t i then wt i else 0) g.length) m + sumTo (fun i => if runB g st (m : Nat) i then wt i else 0) g.length = _
  rw [ih]
  refine sumTo_mul _ (fun i hi => ?_)
  have ht := hok.2.2.2.2 i hi
  have hs := h0 i hi
  unfold clampW
  by_cases hr : runB g st (m : Int) i = true
  ·
   have := runB_iff.1 hr
   rw [if_pos hr, show max 0 (min (rdTk g i).f0 ((m + 1 : Nat) - st.getD i 0)) = max 0 (min (rdTk g i).f0 ((m : Int) - st.getD i 0)) + 1 by omega, Int.mul_add, Int.mul_one]
  ·
   rw [if_neg hr]
   have hn : ¬ (st.getD i 0 ≤ (m : Int) ∧ (m : Int) < st.getD i 0 + (rdTk g i).f0) := fun h => hr (runB_iff.2 h)
   rw [show max 0 (min (rdTk g i).f0 ((m + 1 : Nat) - st.getD i 0)) = max 0 (min (rdTk g i).f0 ((m : Int) - st.getD i 0)) by omega, Int.add_zero]
theorem work_all {g : List Tk} (hok : TOk g) {st : List Int} (h0 : ∀ i, i < g.length → 0 ≤ st.getD i 0) (wt : Nat → Int) {m : Nat} (hm : ∀ i, i < g.length → st.getD i 0 + (rdTk g i).f0 ≤ m) : sumTo (fun t => sumTo (fun i => if runB g st t i then wt i else 0) g.length) m = sumTo (fun i => wt i * (rdTk g i).f0) g.length := by
 rw [work_done hok h0]
 refine sumTo_congr _ (fun i hi => ?_)
 have := hm i hi
 have := hok.2.1 i
 unfold clampW
 rw [show max 0 (min (rdTk g i).f0 ((m : Int) - st.getD i 0)) = (rdTk g i).f0 by omega]
theorem run_sum {g : List Tk} (hok : TOk g) {st : List Int} (h0 : ∀ i, i < g.length → 0 ≤ st.getD i 0) {m : Nat} (hm : ∀ i, i < g.length → st.getD i 0 + (rdTk g i).f0 ≤ m) : sumTo (fun t => ((runS g st (t : Nat)).length : Nat)) m = timeS g := by
 have h := work_all hok h0 (fun _ => 1) hm
 have e : sumTo (fun t => sumTo (fun i => if runB g st (t : Nat) i then 1 else 0) g.length) m = sumTo (fun t => ((runS g st (t : Nat)).length : Nat)) m := sumTo_congr _ (fun t _ => by
  rw [sumTo_count]
  rfl)
 rw [← e, h]
 exact sumTo_congr _ (fun i _ => by rw [Int.one_mul])
theorem run_used {g : List Tk} (hok : TOk g) {st : List Int} (h0 : ∀ i, i < g.length → 0 ≤ st.getD i 0) {m : Nat} (hm : ∀ i, i < g.length → st.getD i 0 + (rdTk g i).f0 ≤ m) (p : Int) : sumTo (fun t => usedS g (runS g st (t : Nat)) p) m = sumTo (fun i => if (rdTk g i).f2 = p then (rdTk g i).f0 * (rdTk g i).f3 else 0) g.length := by
 have h := work_all hok h0 (fun i => if (rdTk g i).f2 = p then (rdTk g i).f3 else 0) hm
 have e : sumTo (fun t => sumTo (fun i => if runB g st (t : Nat) i then (if (rdTk g i).f2 = p then (rdTk g i).f3 else 0) else 0) g.length) m = sumTo (fun t => usedS g (runS g st (t : Nat)) p) m := sumTo_congr _ (fun t _ => by
  unfold runS
  rw [← sumTo_used]
  exact sumTo_congr _ (fun i _ => by cases runB g st (t : Nat) i <;> simp))
 rw [← e, h]
 refine sumTo_congr _ (fun i _ => ?_)
 by_cases hc : (rdTk g i).f2 = p
 ·
  rw [if_pos hc, if_pos hc, Int.mul_comm]
 ·
  rw [if_neg hc, if_neg hc, Int.zero_mul]
theorem tails_ge {g : List Tk} (hv : specValid g = true) {i : Nat} (hi : i < g.length) : (rdTk g i).f0 ≤ (tailsS g).getD i 0 := by
 have hok := specValid_TOk hv
 have key : ∀ (pre : List Nat) (o : List Int), o.length = g.length → ((rdTk g i).f0 ≤ o.getD i 0 ∨ ∃ p ∈ pre, (topL g).getD p 0 = i) → (rdTk g i).f0 ≤ (pre.foldl (fun o p => sStep g o ((topL g).getD p 0)) o).getD i 0 := by
  intro pre
  induction pre with
  | nil =>
   rintro o _ (h | ⟨_, h, _⟩)
   ·
    exact h
   ·
    cases h
  | cons p pre ih =>
   intro o hl h
   refine ih _ (by unfold sStep; rw [List.length_set]; exact hl) ?_
   have hm := mostS_nonneg g o ((topL g).getD p 0) g.length
   unfold sStep
   rw [getD_setL]
   by_cases hc : i = (topL g).getD p 0 ∧ (topL g).getD p 0 < o.length
   ·
    rw [if_pos hc]
    left
    rw [← hc.1] at hm ⊢
    omega
   ·
    rw [if_neg hc]
    rcases h with h | ⟨q, hq, he⟩
    ·
     exact .inl h
    ·
     rcases List.mem_cons.1 hq with rfl | hq
     ·
      exact absurd ⟨he.symm, by rw [he, hl]; exact hi⟩ hc
     ·
      exact .inr ⟨q, hq, he⟩
 refine key _ _ (by simp) (.inr ?_)
 obtain ⟨p, hp, e⟩ := List.getElem_of_mem (top_all hv hi)
 refine ⟨p, ?_, by rw [List.getD_eq_getElem?_getD, List.getElem?_eq_getElem hp]; exact e⟩
 unfold backL
 rw [List.mem_map]
 exact ⟨(topL g).length - 1 - p, List.mem_range.2 (by omega), by omega⟩
theorem lateB_iff {g : List Tk} {st : List Int} {dl : Int} {i : Nat} : lateB g st dl i = true ↔ dl - (tailsS g).getD i 0 < st.getD i 0 := by
 unfold lateB
 exact decide_eq_true_iff
theorem late_end {g : List Tk} {rm : List Int} {wk : Int} {st : List Int} (h : Valid g rm wk st) {dl : Int} {i : Nat} (hi : i < g.length) (hl : lateB g st dl i = true) : dl < endS g st g.length := by
 have hl := lateB_iff.1 hl
 have h1 := tails_ge h.v hi
 have h2 := h.ok.2.2.2.2 i hi
 rcases tails_fit (E := endS g st g.length) (fun i hi => endS_mono g st i _ hi) h.needs i hi with h3 | h3
 ·
  omega
 ·
  omega
theorem last_late {g : List Tk} {rm : List Int} {wk : Int} {st : List Int} (h : Valid g rm wk st) {dl : Int} (hd : dl < endS g st g.length) {i : Nat} (hi : i < g.length) (he : st.getD i 0 + (rdTk g i).f0 = endS g st g.length) : lateB g st dl i = true := by
 have := tails_ge h.v hi
 exact lateB_iff.2 (by omega)
theorem late_iff {g : List Tk} {rm : List Int} {wk : Int} {st : List Int} (h : Valid g rm wk st) (dl : Int) (hd0 : 0 ≤ dl) : (List.range g.length).filter (lateB g st dl) ≠ [] ↔ dl < endS g st g.length := by
 constructor
 ·
  intro hne
  obtain ⟨i, t, e⟩ := List.exists_cons_of_ne_nil hne
  have hm : i ∈ (List.range g.length).filter (lateB g st dl) := by rw [e]; exact List.mem_cons_self
  have hm := List.mem_filter.1 hm
  exact late_end h (List.mem_range.1 hm.1) hm.2
 ·
  intro hd
  have hn : 0 < g.length := by
   by_cases hn : 0 < g.length
   ·
    exact hn
   ·
    rw [show g.length = 0 by omega] at hd
    have : endS g st 0 = 0 := rfl
    omega
  obtain ⟨i, hi, he⟩ := h.end_some hn
  exact List.ne_nil_of_mem (List.mem_filter.2 ⟨List.mem_range.2 hi, last_late h hd hi he⟩)
theorem caS_get {g : List Tk} {st : List Int} {now : Int} {i : Nat} (hi : i < g.length) : ((List.range g.length).map (cancF g st now)).getD i 0 = cancF g st now i := by
 rw [List.getD_eq_getElem?_getD, List.getElem?_map, List.getElem?_range hi]
 rfl
theorem canc_done {g : List Tk} {st : List Int} {now : Int} {i : Nat} : cancF g st now i = 0 ↔ st.getD i 0 + (rdTk g i).f0 ≤ now := by
 unfold cancF
 split
 ·
  simp_all
 ·
  split <;> simp_all
theorem canc_failed {g : List Tk} {st : List Int} {now : Int} {i : Nat} : cancF g st now i = 1 ↔ st.getD i 0 < now ∧ ¬ st.getD i 0 + (rdTk g i).f0 ≤ now := by
 unfold cancF
 split
 ·
  rename_i h
  simp only [h, not_true_eq_false, and_false]
  decide
 ·
  rename_i h
  split
  ·
   rename_i h2
   simp only [h2, h, not_false_eq_true, and_self]
  ·
   rename_i h2
   simp only [h2, false_and]
   decide
theorem canc_left {g : List Tk} (hok : TOk g) {st : List Int} {now : Int} {i : Nat} (hi : i < g.length) : cancF g st now i = 3 ↔ now ≤ st.getD i 0 := by
 have := hok.2.2.2.2 i hi
 unfold cancF
 split
 ·
  rename_i h
  constructor
  ·
   intro h; exact absurd h (by decide)
  ·
   intro h2; omega
 ·
  rename_i h
  split
  ·
   rename_i h2
   constructor
   ·
    intro h; exact absurd h (by decide)
   ·
    intro h3; omega
  ·
   rename_i h2
   exact ⟨fun _ => by omega, fun _ => rfl⟩
end Go.Proofs.YtdjdfbfcjajlkaaDoor

namespace Go.Proofs.YtdjdfbfcjajlkaaDoor
set_option linter.unusedVariables false
set_option linter.unusedSimpArgs false
open Go.RowKit Go.Shelf Bits
open Go.Proofs.YtdjdfbfcjajlkaaDoorW.PrintWords Go.Proofs.YtdjdfbfcjajlkaaDoorW.PrintLast Go.Proofs.YtdjdfbfcjajlkaaDoorW.PrintMore
attribute [local go_sem] Oper.semAt_some
theorem below_has {w w' : World} (h : Below w.heap.size w w') {a : Addr} {v : Value} (hc : w.cell? a = some v) : w'.cell? a = some v := by
 refine (h.cell ?_).trans hc
 apply Classical.byContradiction
 intro hn
 unfold World.cell? at hc
 rw [Array.getElem?_eq_none (by omega)] at hc
 cases hc
theorem kept_cell {w w' : World} {b : Nat} (h : KeepBut w w' b none) {a : Addr} {v : Value} (hc : w.cell? a = some v) (hn : a.block ≠ b) : w'.cell? a = some v := by
 refine (World.cell?_of_block (h.2 a.block ?_ hn (by simp))).trans hc
 apply Classical.byContradiction
 intro hn
 unfold World.cell? at hc
 rw [Array.getElem?_eq_none (by omega)] at hc
 cases hc
theorem all_not_at {g : List Tk} {ns : List Nat} {rm : List Int} {wk : Int} {cl : List Ev} {j : Nat} (h : okE g ns rm wk (cl.take j) (rdEv cl j) = false) (hj : j < cl.length) : okAllB g ns rm wk cl = false := by
 unfold okAllB
 rw [List.all_eq_false]
 exact ⟨j, List.mem_range.2 hj, by rw [h]; simp⟩
theorem sum_abs {f : Ev → Int} {b : Int} (hf : ∀ e, -b ≤ f e ∧ f e ≤ b) (hb : 0 ≤ b) : ∀ l : List Ev, -(b * l.length) ≤ (l.map f).sum ∧ (l.map f).sum ≤ b * l.length
 | [] => by simp
 | e :: l => by
  have ih := sum_abs hf hb l
  have h := hf e
  rw [List.map_cons, List.sum_cons, List.length_cons, show ((l.length + 1 : Nat) : Int) = (l.length : Int) + 1 from by omega, Int.mul_add, Int.mul_one]
  omega
theorem cOf_small {g : List Tk} (hok : TOk g) {l : List Ev} (hl : l.length ≤ 20) : (cOf g l).small 1000 := by
 refine ⟨?_, fun j => ?_⟩
 ·
  have := sum_abs (f := sgn) (b := 1) (fun e => by unfold sgn; split <;> omega) (by omega) l
  show -1000 ≤ (l.map sgn).sum ∧ (l.map sgn).sum ≤ 1000
  omega
 ·
  have := sum_abs (f := unU g (j : Int)) (b := 4) (fun e => by
   have := hok.2.2.2.1 e.f1.toNat
   unfold unU sgn
   split
   ·
    split <;> omega
   ·
    omega) (by omega) l
  show -(1000 * 1000) ≤ (l.map (unU g (j : Int))).sum ∧ (l.map (unU g (j : Int))).sum ≤ 1000 * 1000
  omega
theorem dOf_lt {n : Nat} : ∀ (l : List Ev) (d : Nat), d < 2 ^ n → (∀ e ∈ l, e.f1.toNat < n) → l.foldl dStep d < 2 ^ n
 | [], _, h, _ => h
 | e :: l, d, h, hl => by
  refine dOf_lt l (dStep d e) ?_ (fun x hx => hl x (List.mem_cons_of_mem _ hx))
  unfold dStep
  split
  ·
   exact Nat.or_lt_two_pow h (Nat.pow_lt_pow_right (by decide) (hl e List.mem_cons_self))
  ·
   exact h
def StPost (g : List Tk) (rm : List Int) (wk : Int) (st : List Int) (w : World) (e : Ending) (w' : World) : Prop :=
 (stN g rm wk st = true ∧ ∃ C ns, e = .returned (.tuple #[.pointer (some ⟨C, 0, none⟩), .bool true]) ∧ graphN g = some ns ∧ IsGraph w' C g ns ∧ Below w.heap.size w w') ∨
 (stN g rm wk st = false ∧ e = .returned (.tuple #[.pointer none, .bool false]) ∧ Below w.heap.size w w')
set_option maxRecDepth 1000000 in
set_option maxHeartbeats 8000000 in
theorem startsIn_calls (A : Option Addr) (c : Nat) (g : List Tk) (A1 : Option Addr) (c1 : Nat) (rm : List Int) (wk : Int) (A2 : Option Addr) (c2 : Nat) (st : List Int) (w : World) (hr : kTk.C w A g.length g) (hr1 : (Kd.int .i64).C w A1 rm.length rm) (hr2 : (Kd.int .i64).C w A2 st.length st) (hT : Tab w) :
  Calls Tryd.prog 60 #[.slice A g.length c, .slice A1 rm.length c1, .int .i64 wk, .slice A2 st.length c2] w (StPost g rm wk st w) := by
 have hgl := (C_len hr).2
 have hsl := (C_len hr2).2
 by_cases hp : ∃ ns, graphN g = some ns ∧ placeB rm wk = true
 ·
  obtain ⟨ns, hg, hp⟩ := hp
  have HP := Lib.hid (placeIn_yes A c g ns A1 c1 rm wk hp w hr hT hg hr1)
  have HR1 := Lib.hid hr1
  have HR2 := Lib.hid hr2
  have HGR := Lib.hid hg
  have HOK := Lib.hid (specValid_TOk (graphN_spec hg))
  have h8 := (specValid_TOk (graphN_spec hg)).1
  have HRM := Lib.hid (roomB_facts (placeB_facts hp).1).1
  have HNL := Lib.hid (graphN_all hg).2.1
  have HNS := Lib.hid (needsN_lt (graphN_some hg).1)
  by_cases h4 : st.length = g.length
  ·
   have d4 : ((st.length : Int) != (g.length : Int)) = false := by rw [bne_eq_false_iff_eq]; omega
   have HL := Lib.hid h4
   have HE : Hid (stN g rm wk st = (allInB st 0 200 && startsB g ns rm wk st)) := Lib.hid (by
    unfold stN
    rw [hg]
    show (placeB rm wk && (decide (st.length = g.length) && (allInB st 0 200 && startsB g ns rm wk st))) = _
    rw [hp, decide_eq_true h4, Bool.true_and, Bool.true_and])
   clear hr hr1 hr2 hT hg hp h4
   go_enter Tryd.func60, Tryd.ntmps60
   go_wp2_with (go_at_call 54; refine HP.out.mono ?_; rintro e w1 ⟨C, rfl, hG1, hB1⟩; have HG1 := Lib.hid hG1; have HB1 := Lib.hid hB1; clear hG1 hB1)
   go_loop [37] (fun i => ∃ (k : Nat), k ≤ st.length ∧ i = .int .i64 k ∧ Hid (∀ j, j < k → inB (st.getD j 0) 0 200 = true)) (fun i => st.length - (intOf i).toNat)
   case atStart => exact ⟨0, Nat.zero_le _, rfl, Lib.hid fun j h => absurd h (Nat.not_lt_zero _)⟩
   case round =>
    obtain ⟨k, hk, rfl, HS⟩ := hrel
    by_cases hlt : k < st.length
    ·
     have hjj : decide ((k : Int) < (st.length : Int)) = true := decide_eq_true (by omega)
     have hji : (k : Int) < (st.length : Int) := by omega
     obtain ⟨ad, rfl, hc⟩ := at_num (Kd.C_below HR2.out HB1.out) k hlt
     cases hb : inB (st.getD k 0) 0 200
     ·
      have HF : Hid (stN g rm wk st = false) := Lib.hid (by
       rw [HE.out, show allInB st 0 200 = false by
        unfold allInB
        exact all_not 0 hlt hb]
       rfl)
      have HW := Lib.hid hb
      clear hb
      generalize st.getD k 0 = x at hc HW
      go_wp2_with (go_at_call 64; refine (within_is _ _ _ _ HW _).mono ?_; rintro e w2 ⟨rfl, rfl⟩)
      go_ret2
      exact .inr ⟨HF.out, rfl, HB1.out⟩
     ·
      have HN : Hid (∀ j, j < k + 1 → inB (st.getD j 0) 0 200 = true) := Lib.hid (fun j hj => by
       by_cases e : j = k
       ·
        rw [e]; exact hb
       ·
        exact HS.out j (by omega))
      have HW := Lib.hid hb
      clear hb
      generalize st.getD k 0 = x at hc HW
      go_wp2_with (go_at_call 64; refine (within_is _ _ _ _ HW _).mono ?_; rintro e w2 ⟨rfl, rfl⟩)
      go_round
      case rel => exact ⟨k + 1, by omega, by go_num, HN⟩
      case measure => simp [intOf]; omega
    ·
     have hjj : decide ((k : Int) < (st.length : Int)) = false := decide_eq_false (by omega)
     have HAI : Hid (allInB st 0 200 = true) := Lib.hid (by
      unfold allInB
      exact all_take 0 (fun j hj => HS.out j (by omega)))
     have HSOK := Lib.hid (allIn_sok HAI.out)
     have HE2 : Hid (stN g rm wk st = okAllB g ns rm wk (chgS g st)) := Lib.hid (by rw [HE.out, HAI.out, Bool.true_and]; rfl)
     have HBa : Hid (Below w1.heap.size w1 (w1.alloc (.cells #[.int .i64 0, .int .i64 0, .int .i64 0, .int .i64 0] 101))) := Lib.hid ((Below.refl _ _).alloc (Nat.le_refl _) _)
     have HCH := Lib.hid (changes_calls C g ns A2 c2 st HOK.out HSOK.out HL.out _ (HG1.out.below HBa.out) (Kd.C_below HR2.out (HB1.out.trans (HBa.out.mono HB1.out.size))))
     have HCA : Hid (CAt (w1.alloc (.cells #[.int .i64 0, .int .i64 0, .int .i64 0, .int .i64 0] 101)) w1.heap.size (cOf g [])) := Lib.hid (World.alloc_heap_new w1 _)
     have HMEM := Lib.hid (fun (x : Ev) (hx : x ∈ chgS g st) => mem_chgS.1 hx)
     have hcl : (chgS g st).length ≤ 16 := by rw [chgS_len]; omega
     generalize chgS g st = cl at HE2 HCH HMEM hcl
     go_wp2_with (go_at_call 66; refine HCH.out.mono ?_; rintro e w3 ⟨A3, c3, rfl, hR3, hB3⟩; have HR3 := Lib.hid hR3; have HB3 := Lib.hid hB3; clear hR3 hB3)
     have HK3 := Lib.hid (keep_below w1.heap.size HB3.out)
     have HCA3 := Lib.hid (HCA.out.below HB3.out)
     have HB13 := Lib.hid (HBa.out.trans (HB3.out.mono HBa.out.size))
     have hb3 := HCA3.out.lt
     go_loopw [15, 49] (fun d i wr => ∃ j, j ≤ cl.length ∧ i = .int .i64 (j : Nat) ∧ d = .int .u16 (dOf (cl.take j) : Nat) ∧ Hid (∀ q, q < j → okE g ns rm wk (cl.take q) (rdEv cl q) = true) ∧ CAt wr w1.heap.size (cOf g (cl.take j)) ∧ KeepBut w3 wr w1.heap.size none ∧ Below w1.heap.size w1 wr) (fun _ i _ => cl.length - (intOf i).toNat)
     case atStart => exact ⟨0, Nat.zero_le _, rfl, rfl, Lib.hid fun q h => absurd h (Nat.not_lt_zero _), HCA3.out, KeepBut.refl _ _ _, HB13.out⟩
     case round =>
      obtain ⟨j, hj, rfl, rfl, HQ, hCA, hK, hB⟩ := hrel
      by_cases hjl : j < cl.length
      ·
       have hjj : decide ((j : Int) < (cl.length : Int)) = true := decide_eq_true (by omega)
       have hji : (j : Int) < (cl.length : Int) := by omega
       have hCR : kEv.C wr A3 cl.length cl := HR3.out wr hK.1 (fun q hq hql => hK.2 q hql (by simp at hq; omega) (by simp))
       obtain ⟨ad, rfl, x0, x1, x2⟩ := at_Ev hCR j hjl
       have hmem : rdEv cl j ∈ cl := by
        unfold rdEv
        rw [List.getD_eq_getElem?_getD, List.getElem?_eq_getElem hjl]
        exact List.getElem_mem _
       have HTK : Hid (cl.take (j + 1) = cl.take j ++ [rdEv cl j]) := Lib.hid (by
        rw [List.take_succ_eq_append_getElem hjl]
        unfold rdEv
        rw [List.getD_eq_getElem?_getD, List.getElem?_eq_getElem hjl]
        rfl)
       have hdl : dOf (cl.take j) < 2 ^ g.length := dOf_lt _ 0 (Nat.two_pow_pos _) (fun e he => by
        obtain ⟨q, hq, hh⟩ := HMEM.out e (List.mem_of_mem_take he)
        rcases hh with rfl | rfl
        ·
         simpa [chB] using hq
        ·
         simpa [chO] using hq)
       have hd16 : dOf (cl.take j) < 65536 := Nat.lt_of_lt_of_le hdl (Nat.le_trans (Nat.pow_le_pow_right (by omega) h8) (by decide))
       have HCS : Hid ((cOf g (cl.take j)).small 1000) := Lib.hid (cOf_small HOK.out (by rw [List.length_take]; omega))
       have HOE : Hid (okE g ns rm wk (cl.take j) (rdEv cl j) = ((rdEv cl j).f2 || (decide (diff (ns.getD (rdEv cl j).f1.toNat 0) (dOf (cl.take j)) = 0) && (cOf g (cl.take j)).can (rdTk g (rdEv cl j).f1.toNat).f2.toNat (rdTk g (rdEv cl j).f1.toNat).f3 rm wk))) := Lib.hid rfl
       have HSN := Lib.hid (fun (p : Nat) (hp : (rdTk g (rdEv cl j).f1.toNat).f2 = (p : Int)) => (cOf_snoc (g := g) (l := cl.take j) (e := rdEv cl j) hp))
       have HDN := Lib.hid (dOf_snoc (cl.take j) (rdEv cl j))
       rw [← HTK.out] at HSN HDN
       obtain ⟨i, hig, hev⟩ := HMEM.out _ hmem
       have hf1 : (rdEv cl j).f1 = (i : Int) := by rcases hev with e | e <;> (rw [e]; rfl)
       have htn : (rdEv cl j).f1.toNat = i := by rw [hf1, Int.toNat_natCast]
       have HFL : Hid (∃ b, b = (rdEv cl j).f2) := Lib.hid ⟨_, rfl⟩
       obtain ⟨bo, hbo⟩ := HFL.out
       have HSG : Hid (sgn (rdEv cl j) = if bo then -1 else 1) := Lib.hid (by unfold sgn; rw [hbo])
       have HDS : Hid (dStep (dOf (cl.take j)) (rdEv cl j) = if bo then dOf (cl.take j) ||| 2 ^ i else dOf (cl.take j)) := Lib.hid (by unfold dStep; rw [htn, hbo])
       rw [htn, ← hbo] at HOE
       rw [htn] at HSN
       rw [hf1] at x1
       rw [← hbo] at x2
       clear hf1 htn hbo hev HFL hmem hCR
       generalize (rdEv cl j).f0 = at0 at x0
       have hi16 : i < 16 := by omega
       -- the graph and the event, boxed
       have HCA := Lib.hid hCA
       have HK := Lib.hid hK
       have HBB := Lib.hid hB
       have hbr : w1.heap.size < wr.heap.size := hCA.lt
       clear hCA hK hB
       go_upto_region 15 with (fail)
       obtain ⟨W1, hW1⟩ : ∃ W1, W1 = wr.alloc (.cells #[.int .i64 at0, .int .i64 (i : Nat), .bool bo] 81) := ⟨_, rfl⟩
       have hsz1 : W1.heap.size = wr.heap.size + 1 := by rw [hW1]; simp
       have hBE : Below wr.heap.size wr W1 := by rw [hW1]; exact (Below.refl _ _).alloc (Nat.le_refl _) _
       have hEb : W1.heap[wr.heap.size]? = some (.cells #[.int .i64 at0, .int .i64 (i : Nat), .bool bo] 81 (0, 0)) := by rw [hW1]; exact World.alloc_heap_new _ _
       rw [← hW1]
       clear hW1 x0 x1 x2
       have HB11 := Lib.hid (HBB.out.trans (hBE.mono HBB.out.size))
       have HCA1 := Lib.hid (HCA.out.below hBE)
       have HK1 := Lib.hid (keep_trans HK.out (keep_below w1.heap.size hBE))
       have e1 : W1.cell? ⟨wr.heap.size, 1, none⟩ = some (.int .i64 (i : Nat)) := (blk_cell hEb 1).trans (by simp)
       obtain ⟨Ag, cg, An, cn, Ao, co, vb, va, h1, h2, h3, _⟩ := HG1.out.below HB11.out
       have cC := blk_cell h1 0
       simp at cC
       obtain ⟨adt, A4, c4, rfl, hx0, hx1, hx2, hx3, _, _⟩ := at_Tk h2 i hig
       obtain ⟨p, hp⟩ : ∃ p : Nat, (rdTk g i).f2 = (p : Int) := ⟨(rdTk g i).f2.toNat, by have := HOK.out.2.2.1 i; omega⟩
       have hp3 : p < 3 := by have := HOK.out.2.2.1 i; omega
       have hu4 := HOK.out.2.2.2.1 i
       have HSN2 : Hid (cOf g (cl.take (j + 1)) = (cOf g (cl.take j)).add p (rdTk g i).f3 (sgn (rdEv cl j))) := Lib.hid (HSN.out p hp)
       rw [hp] at hx2 HOE
       rw [Int.toNat_natCast] at HOE
       have HEB := Lib.hid hEb
       clear HSN hp h1 h2 h3 hBE hEb
       generalize (rdTk g i).f0 = f0 at hx0
       generalize (rdTk g i).f1.length = n1 at hx1
       generalize (rdTk g i).f3 = f3 at hx3 hu4 HSN2 HOE
       generalize cOf g (cl.take j) = ct at HCA1 HCS HOE HSN2
       generalize dOf (cl.take j) = dn at hdl hd16 HOE HDN HDS
       have hii : (i : Int) < (g.length : Int) := by omega
       have HKEEP : Hid (∀ W, Below W1.heap.size W1 W → (W.cell? ⟨wr.heap.size, 1, none⟩ = some (.int .i64 (i : Nat)) ∧ W.cell? ⟨C, 0, none⟩ = some (.slice (some adt) g.length cg) ∧ W.cell? (adt.add (i * 4)) = some (.int .i64 f0) ∧ W.cell? ⟨(adt.add (i * 4)).block, (adt.add (i * 4)).off + 1, none⟩ = some (.slice A4 n1 c4) ∧ W.cell? ⟨(adt.add (i * 4)).block, (adt.add (i * 4)).off + 2, none⟩ = some (.int .i64 (p : Nat)) ∧ W.cell? ⟨(adt.add (i * 4)).block, (adt.add (i * 4)).off + 3, none⟩ = some (.int .i64 f3) ∧ Below W1.heap.size W1 W)) := Lib.hid (fun W hW => ⟨below_has hW e1, below_has hW cC, below_has hW hx0, below_has hW hx1, below_has hW hx2, below_has hW hx3, hW⟩)
       go_region_held3 (fun W => W.cell? ⟨wr.heap.size, 1, none⟩ = some (.int .i64 (i : Nat)) ∧ W.cell? ⟨C, 0, none⟩ = some (.slice (some adt) g.length cg) ∧ W.cell? (adt.add (i * 4)) = some (.int .i64 f0) ∧ W.cell? ⟨(adt.add (i * 4)).block, (adt.add (i * 4)).off + 1, none⟩ = some (.slice A4 n1 c4) ∧ W.cell? ⟨(adt.add (i * 4)).block, (adt.add (i * 4)).off + 2, none⟩ = some (.int .i64 (p : Nat)) ∧ W.cell? ⟨(adt.add (i * 4)).block, (adt.add (i * 4)).off + 3, none⟩ = some (.int .i64 f3) ∧ Below W1.heap.size W1 W) (first | (refine HKEEP.out _ ?_; repeat (first | exact Below.refl _ _ | apply below_alloc | apply pw_below_drewN | apply below_drew1))) (fail)
       obtain ⟨W2, hW2⟩ : ∃ W2, W2 = (W1.alloc (.cells #[.int .i64 f0, .slice A4 n1 c4, .int .i64 (p : Nat), .int .i64 f3] 58)).drew := ⟨_, rfl⟩
       have HB2 : Hid (Below W1.heap.size W1 W2) := Lib.hid (by rw [hW2]; exact below_drew1 ((Below.refl _ _).alloc (Nat.le_refl _) _))
       have hTb : W2.heap[W1.heap.size]? = some (.cells #[.int .i64 f0, .slice A4 n1 c4, .int .i64 (p : Nat), .int .i64 f3] 58 (0, 0)) := by rw [hW2]; exact World.alloc_heap_new W1 _
       rw [hsz1] at hTb
       rw [← hW2]
       have e2 : W1.cell? ⟨wr.heap.size, 2, none⟩ = some (.bool bo) := (blk_cell HEB.out 2).trans (by simp)
       have HB12 := Lib.hid (HB11.out.trans (HB2.out.mono HB11.out.size))
       have HCA2 := Lib.hid (HCA1.out.below HB2.out)
       have HK2 := Lib.hid (keep_trans HK1.out (keep_below w1.heap.size HB2.out))
       replace e1 := below_has HB2.out e1
       replace e2 := below_has HB2.out e2
       have b0 : W2.cell? ⟨wr.heap.size + 1, 0, none⟩ = some (.int .i64 f0) := (blk_cell hTb 0).trans (by simp)
       have b1 : W2.cell? ⟨wr.heap.size + 1, 1, none⟩ = some (.slice A4 n1 c4) := (blk_cell hTb 1).trans (by simp)
       have b2 : W2.cell? ⟨wr.heap.size + 1, 2, none⟩ = some (.int .i64 (p : Nat)) := (blk_cell hTb 2).trans (by simp)
       have b3 : W2.cell? ⟨wr.heap.size + 1, 3, none⟩ = some (.int .i64 f3) := (blk_cell hTb 3).trans (by simp)
       clear hW2 hTb HKEEP hx0 hx1 hx2 hx3 cC HEB HCA1 HK1 hsz1
       cases bo
       ·
        rw [HSG.out, if_neg (by simp)] at HSN2
        rw [HDS.out, if_neg (by simp)] at HDN
        obtain ⟨Ag', cg', An, cn, Ao, co, vb, va, h1, h2, h3, _⟩ := HG1.out.below HB12.out
        have cN := blk_cell h1 1
        simp at cN
        obtain ⟨adn, rfl, cn1⟩ := at_set h3 i (by rw [HNL.out]; exact hig)
        rw [HNL.out] at cN
        have hn16 := HNS.out i
        rw [Bool.false_or] at HOE
        generalize ns.getD i 0 = nd at cn1 hn16 HOE
        have hbd : bits BinOp.andNot IntKind.u16 (nd : Int) (dn : Int) = ((diff nd dn : Nat) : Int) := bits_andNot_u16 _ _ hn16
        clear HSG HDS h1 h2 h3
        by_cases hdf : diff nd dn = 0
        ·
         have hdz : (((diff nd dn : Nat) : Int) != 0) = false := by rw [hdf]; rfl
         rw [decide_eq_true hdf, Bool.true_and] at HOE
         have HTK := Lib.hid (fun W hW => takes_calls w1.heap.size ct f0 (.slice A4 n1 c4) p f3 A1 c1 rm wk hp3 ⟨by omega, by omega⟩ HCS.out HRM.out W (HCA2.out.below hW) (Kd.C_below HR1.out (HB1.out.trans ((HB12.out.trans (hW.mono HB12.out.size)).mono HB1.out.size))))
         have HB5 : ∀ {w5 : World}, Below w1.heap.size W2.drew w5 → Below w1.heap.size W2 w5 := fun h => (Below.refl _ _).drew.trans h
         clear hdf
         generalize diff nd dn = dd at hbd hdz
         cases hcan : ct.can p f3 rm wk
         ·
          rw [hcan] at HTK HOE
          have HFL2 : Hid (stN g rm wk st = false) := Lib.hid (by rw [HE2.out]; exact all_not_at HOE.out hjl)
          go_upto_region 19 with (fail)
          go_still_tail 15, mixed
          repeat still_step
          try refine wpStill_nil ?_
          change wpList _ _ _ _ _ W2.drew
          go_wp2_with (go_at_call 96; refine (HTK.out _ (Below.refl _ _).drew).mono ?_; rintro e w5 ⟨rfl, hC5, hK5, hB5⟩)
          go_ret2
          exact .inr ⟨HFL2.out, rfl, HB1.out.trans ((HB12.out.trans (HB5 hB5)).mono HB1.out.size)⟩
         ·
          rw [hcan] at HTK HOE
          have HQ2 : Hid (∀ q, q < j + 1 → okE g ns rm wk (cl.take q) (rdEv cl q) = true) := Lib.hid (fun q hq => by
           by_cases e : q = j
           ·
            rw [e]; exact HOE.out
           ·
            exact HQ.out q (by omega))
          go_upto_region 19 with (fail)
          go_still_tail 15, mixed
          repeat still_step
          try refine wpStill_nil ?_
          change wpList _ _ _ _ _ W2.drew
          go_wp2_with (go_at_call 96; refine (HTK.out _ (Below.refl _ _).drew).mono ?_; rintro e w5 ⟨rfl, hC5, hK5, hB5⟩)
          replace hC5 : CAt w5 w1.heap.size (ct.add p f3 1) := by simpa using hC5
          go_roundw
          case rel => exact ⟨j + 1, by omega, by go_num, by rw [HDN.out], HQ2, by rw [HSN2.out]; exact hC5, keep_trans HK2.out ((keep_below w1.heap.size (Below.refl _ _).drew).trans hK5 (.inl rfl)), HB12.out.trans (HB5 hB5)⟩
          case measure => simp [intOf]; omega
        ·
         have hdz : (((diff nd dn : Nat) : Int) != 0) = true := bne_iff_ne.2 (by omega)
         rw [decide_eq_false hdf, Bool.false_and] at HOE
         have HFL2 : Hid (stN g rm wk st = false) := Lib.hid (by rw [HE2.out]; exact all_not_at HOE.out hjl)
         clear hdf
         generalize diff nd dn = dd at hbd hdz
         go_upto_region 19 with (fail)
         go_quiet (fail)
         go_wp2
         go_ret2
         exact .inr ⟨HFL2.out, rfl, HB1.out.trans (((pw_below_drewN HB12.out _)).mono HB1.out.size)⟩
       ·
        have HOE2 : Hid (okE g ns rm wk (cl.take j) (rdEv cl j) = true) := Lib.hid (by rw [HOE.out]; rfl)
        have HQ2 : Hid (∀ q, q < j + 1 → okE g ns rm wk (cl.take q) (rdEv cl q) = true) := Lib.hid (fun q hq => by
         by_cases e : q = j
         ·
          rw [e]; exact HOE2.out
         ·
          exact HQ.out q (by omega))
        have HADD := Lib.hid (add_calls w1.heap.size ct f0 (.slice A4 n1 c4) p f3 (-1) hp3 ⟨by omega, by omega⟩ (.inr rfl) HCS.out W2 HCA2.out)
        rw [HSG.out, if_pos rfl] at HSN2
        rw [HDS.out, if_pos rfl] at HDN
        clear HOE HOE2 HSG HDS
        go_wp2_with (first | (go_at_call 95; refine HADD.out.mono ?_; rintro e w5 ⟨rfl, hC5, hK5, hB5⟩; have e5 := kept_cell hK5 e1 (Nat.ne_of_gt hbr)) | (go_at_call 62; refine (with_calls dn i hd16 hi16 _).mono ?_; rintro e w6 ⟨rfl, rfl⟩))
        go_roundw
        case rel => exact ⟨j + 1, by omega, by go_num, by rw [HDN.out], HQ2, by rw [HSN2.out]; exact hC5, keep_trans HK2.out hK5, HB12.out.trans hB5⟩
        case measure => simp [intOf]; omega
      ·
       obtain rfl : j = cl.length := by omega
       have hjj : decide ((cl.length : Int) < (cl.length : Int)) = false := decide_eq_false (by omega)
       have HTR : Hid (stN g rm wk st = true) := Lib.hid (by
        rw [HE2.out]
        unfold okAllB
        rw [List.all_eq_true]
        exact fun q hq => HQ.out q (List.mem_range.1 hq))
       go_wp2
       go_ret2
       exact .inl ⟨HTR.out, C, ns, rfl, HGR.out, HG1.out.below hB, HB1.out.trans (hB.mono HB1.out.size)⟩
  ·
   have HF : Hid (stN g rm wk st = false) := Lib.hid (by
    unfold stN
    rw [hg]
    show (placeB rm wk && (decide (st.length = g.length) && (allInB st 0 200 && startsB g ns rm wk st))) = _
    rw [decide_eq_false h4, Bool.false_and, Bool.and_false])
   have d4 : ((st.length : Int) != (g.length : Int)) = true := bne_iff_ne.2 (by omega)
   clear hr hr1 hr2 hT hg hp h4
   go_enter Tryd.func60, Tryd.ntmps60
   go_wp2_with (go_at_call 54; refine HP.out.mono ?_; rintro e w1 ⟨C, rfl, hG1, hB1⟩)
   go_ret2
   exact .inr ⟨HF.out, rfl, hB1⟩
 ·
  have HF : Hid (stN g rm wk st = false) := Lib.hid (by
   unfold stN
   cases hg : graphN g with
   | none => rfl
   | some ns =>
    show (placeB rm wk && (decide (st.length = g.length) && (allInB st 0 200 && startsB g ns rm wk st))) = _
    cases hpb : placeB rm wk with
    | false => rfl
    | true => exact absurd ⟨ns, hg, hpb⟩ hp)
  have HP := Lib.hid (placeIn_no A c g A1 c1 rm wk (fun ns hg => by
   cases hpb : placeB rm wk with
   | false => rfl
   | true => exact absurd ⟨ns, hg, hpb⟩ hp) w hr hT hr1)
  clear hp hr hr1 hr2 hT
  go_enter Tryd.func60, Tryd.ntmps60
  go_wp2_with (go_at_call 54; refine HP.out.mono ?_; rintro e w1 ⟨rfl, hB1⟩)
  go_ret2
  exact .inr ⟨HF.out, rfl, hB1⟩
end Go.Proofs.YtdjdfbfcjajlkaaDoor

namespace Go.Proofs.YtdjdfbfcjajlkaaDoor
set_option linter.unusedVariables false
set_option linter.unusedSimpArgs false
open Go.RowKit Go.Shelf Bits
open Go.Proofs.YtdjdfbfcjajlkaaDoorW.PrintWords Go.Proofs.YtdjdfbfcjajlkaaDoorW.PrintLast Go.Proofs.YtdjdfbfcjajlkaaDoorW.PrintMore
attribute [local go_sem] Oper.semAt_some
def maskN (P : Nat → Bool) : Nat → Nat
 | 0 => 0
 | n + 1 => if P n then maskN P n ||| 2 ^ n else maskN P n
theorem maskN_lt (P : Nat → Bool) : ∀ n, maskN P n < 2 ^ n
 | 0 => by simp [maskN]
 | n + 1 => by
  have ih := maskN_lt P n
  have h2 : maskN P n < 2 ^ (n + 1) := Nat.lt_of_lt_of_le ih (Nat.pow_le_pow_right (by omega) (Nat.le_succ n))
  unfold maskN
  split
  ·
   exact Nat.or_lt_two_pow h2 (Nat.pow_lt_pow_right (by omega) (by omega))
  ·
   exact h2
theorem maskN_bit (P : Nat → Bool) : ∀ n j, j < n → (maskN P n).testBit j = P j
 | n + 1, j, hj => by
  unfold maskN
  by_cases h : j = n
  ·
   subst h
   have h0 : (maskN P j).testBit j = false := bit_far (maskN_lt P j) (Nat.le_refl _)
   cases hp : P j with
   | true => rw [if_pos rfl, or_bit]; simp
   | false => rw [if_neg (by simp)]; exact h0
  ·
   have ih := maskN_bit P n j (by omega)
   split
   ·
    rw [or_bit, ih]; simp [show n ≠ j from fun e => h e.symm]
   ·
    exact ih
theorem els_mask (P : Nat → Bool) {n : Nat} (hn : n ≤ 16) : els (maskN P n) = ints ((List.range n).filter P) := by
 unfold els
 rw [elems_eq hn (maskN_lt P n) P (fun j hj => maskN_bit P n j hj)]
 rfl
theorem maskN_u16 (P : Nat → Bool) {n : Nat} (hn : n ≤ 16) : maskN P n < 65536 := Nat.lt_of_lt_of_le (maskN_lt P n) (Nat.le_trans (Nat.pow_le_pow_right (by omega) hn) (by decide))
theorem startsIn_yes (A : Option Addr) (c : Nat) (g : List Tk) (A1 : Option Addr) (c1 : Nat) (rm : List Int) (wk : Int) (A2 : Option Addr) (c2 : Nat) (st : List Int) (h : vStB g rm wk st = true) (w : World) (hr : kTk.C w A g.length g) (hr1 : (Kd.int .i64).C w A1 rm.length rm) (hr2 : (Kd.int .i64).C w A2 st.length st) (hT : Tab w) :
  Calls Tryd.prog 60 #[.slice A g.length c, .slice A1 rm.length c1, .int .i64 wk, .slice A2 st.length c2] w fun e w' => ∃ C ns, e = .returned (.tuple #[.pointer (some ⟨C, 0, none⟩), .bool true]) ∧ graphN g = some ns ∧ IsGraph w' C g ns ∧ Below w.heap.size w w' := by
 refine (startsIn_calls A c g A1 c1 rm wk A2 c2 st w hr hr1 hr2 hT).mono ?_
 rintro e w' (⟨_, hC⟩ | ⟨h2, _⟩)
 ·
  obtain ⟨C, ns, h1, h2, h3, h4⟩ := hC
  exact ⟨C, ns, h1, h2, h3, h4⟩
 ·
  rw [st_eq, h] at h2
  cases h2
theorem startsIn_no (A : Option Addr) (c : Nat) (g : List Tk) (A1 : Option Addr) (c1 : Nat) (rm : List Int) (wk : Int) (A2 : Option Addr) (c2 : Nat) (st : List Int) (h : vStB g rm wk st = false) (w : World) (hr : kTk.C w A g.length g) (hr1 : (Kd.int .i64).C w A1 rm.length rm) (hr2 : (Kd.int .i64).C w A2 st.length st) (hT : Tab w) :
  Calls Tryd.prog 60 #[.slice A g.length c, .slice A1 rm.length c1, .int .i64 wk, .slice A2 st.length c2] w fun e w' => e = .returned (.tuple #[.pointer none, .bool false]) ∧ Below w.heap.size w w' := by
 refine (startsIn_calls A c g A1 c1 rm wk A2 c2 st w hr hr1 hr2 hT).mono ?_
 rintro e w' (⟨h2, _⟩ | ⟨_, hC⟩)
 ·
  rw [st_eq, h] at h2
  cases h2
 ·
  exact hC
set_option maxRecDepth 100000 in
theorem ValidStarts_impl (A : Option Addr) (c : Nat) (g : List Tk) (A1 : Option Addr) (c1 : Nat) (rm : List Int) (wk : Int) (A2 : Option Addr) (c2 : Nat) (st : List Int) (w : World) (hr : kTk.C w A g.length g) (hr1 : (Kd.int .i64).C w A1 rm.length rm) (hr2 : (Kd.int .i64).C w A2 st.length st) (hT : Tab w) :
  Calls Tryd.prog 27 #[.slice A g.length c, .slice A1 rm.length c1, .int .i64 wk, .slice A2 st.length c2] w fun e w' => e = .returned (.bool (vStB g rm wk st)) ∧ Below w.heap.size w w' := by
 cases h : vStB g rm wk st with
 | true =>
  have HP := Lib.hid (startsIn_yes A c g A1 c1 rm wk A2 c2 st h w hr hr1 hr2 hT)
  clear hr hr1 hr2 hT h
  go_enter Tryd.func27, Tryd.ntmps27
  go_wp2_with (go_at_call 60; refine HP.out.mono ?_; rintro e w1 ⟨C, ns, rfl, hg, hG, hB1⟩)
  go_ret
  exact ⟨rfl, hB1⟩
 | false =>
  have HP := Lib.hid (startsIn_no A c g A1 c1 rm wk A2 c2 st h w hr hr1 hr2 hT)
  clear hr hr1 hr2 hT h
  go_enter Tryd.func27, Tryd.ntmps27
  go_wp2_with (go_at_call 60; refine HP.out.mono ?_; rintro e w1 ⟨rfl, hB1⟩)
  go_ret
  exact ⟨rfl, hB1⟩
set_option maxRecDepth 100000 in
theorem EndTime_impl (A : Option Addr) (c : Nat) (g : List Tk) (A1 : Option Addr) (c1 : Nat) (rm : List Int) (wk : Int) (A2 : Option Addr) (c2 : Nat) (st : List Int) (w : World) (hr : kTk.C w A g.length g) (hr1 : (Kd.int .i64).C w A1 rm.length rm) (hr2 : (Kd.int .i64).C w A2 st.length st) (hT : Tab w) :
  Calls Tryd.prog 31 #[.slice A g.length c, .slice A1 rm.length c1, .int .i64 wk, .slice A2 st.length c2] w fun e w' => e = .returned (.int .i64 (etS g rm wk st)) ∧ Below w.heap.size w w' := by
 cases h : vStB g rm wk st with
 | true =>
  have HF : Hid (etS g rm wk st = endS g st g.length) := Lib.hid (by unfold etS; rw [if_pos h])
  have HP := Lib.hid (startsIn_yes A c g A1 c1 rm wk A2 c2 st h w hr hr1 hr2 hT)
  have HV := Lib.hid (vSt_valid h)
  have HR2 := Lib.hid hr2
  clear hr hr1 hr2 hT h
  go_enter Tryd.func31, Tryd.ntmps31
  go_wp2_with (first | (go_at_call 60; refine HP.out.mono ?_; rintro e w1 ⟨C, ns, rfl, hg, hG, hB1⟩; have HG := Lib.hid hG; have HB1 := Lib.hid hB1; clear hg hG hB1) | (go_at_call 56; refine (iend_calls C g ns A2 c2 st HV.out.ok HV.out.sok HV.out.len _ HG.out (Kd.C_below HR2.out HB1.out)).mono ?_; rintro e w2 ⟨rfl, rfl⟩))
  go_ret
  exact ⟨ret_int HF.out.symm, HB1.out⟩
 | false =>
  have HF : Hid (etS g rm wk st = -1) := Lib.hid (by unfold etS; rw [h]; rfl)
  have HP := Lib.hid (startsIn_no A c g A1 c1 rm wk A2 c2 st h w hr hr1 hr2 hT)
  clear hr hr1 hr2 hT h
  go_enter Tryd.func31, Tryd.ntmps31
  go_wp2_with (go_at_call 60; refine HP.out.mono ?_; rintro e w1 ⟨rfl, hB1⟩)
  go_ret
  exact ⟨ret_int HF.out.symm, hB1⟩
set_option maxRecDepth 100000 in
theorem MeetsDeadline_impl (A : Option Addr) (c : Nat) (g : List Tk) (A1 : Option Addr) (c1 : Nat) (rm : List Int) (wk : Int) (A2 : Option Addr) (c2 : Nat) (st : List Int) (dl : Int) (w : World) (hr : kTk.C w A g.length g) (hr1 : (Kd.int .i64).C w A1 rm.length rm) (hr2 : (Kd.int .i64).C w A2 st.length st) (hT : Tab w) :
  Calls Tryd.prog 29 #[.slice A g.length c, .slice A1 rm.length c1, .int .i64 wk, .slice A2 st.length c2, .int .i64 dl] w fun e w' => e = .returned (.bool (mdS g rm wk st dl)) ∧ Below w.heap.size w w' := by
 cases h : vStB g rm wk st with
 | true =>
  have HP := Lib.hid (startsIn_yes A c g A1 c1 rm wk A2 c2 st h w hr hr1 hr2 hT)
  have HV := Lib.hid (vSt_valid h)
  have HR2 := Lib.hid hr2
  cases h3 : inB dl 0 200 with
  | true =>
   have HF : Hid (mdS g rm wk st dl = decide (endS g st g.length ≤ dl)) := Lib.hid (by unfold mdS; rw [h, h3]; rfl)
   have H3 := Lib.hid h3
   clear hr hr1 hr2 hT h h3
   go_enter Tryd.func29, Tryd.ntmps29
   go_wp2_with (first | (go_at_call 60; refine HP.out.mono ?_; rintro e w1 ⟨C, ns, rfl, hg, hG, hB1⟩; have HG := Lib.hid hG; have HB1 := Lib.hid hB1; clear hg hG hB1) | (go_at_call 55; refine (deadlineValid_is _ _ H3 _).mono ?_; rintro e wd ⟨rfl, rfl⟩) | (go_at_call 56; refine (iend_calls C g ns A2 c2 st HV.out.ok HV.out.sok HV.out.len _ HG.out (Kd.C_below HR2.out HB1.out)).mono ?_; rintro e w2 ⟨rfl, rfl⟩))
   go_ret
   exact ⟨by rw [HF.out]; rfl, HB1.out⟩
  | false =>
   have HF : Hid (mdS g rm wk st dl = false) := Lib.hid (by unfold mdS; rw [h, h3]; rfl)
   have H3 := Lib.hid h3
   clear hr hr1 hr2 hT h h3
   go_enter Tryd.func29, Tryd.ntmps29
   go_wp2_with (first | (go_at_call 60; refine HP.out.mono ?_; rintro e w1 ⟨C, ns, rfl, hg, hG, hB1⟩; have HG := Lib.hid hG; have HB1 := Lib.hid hB1; clear hg hG hB1) | (go_at_call 55; refine (deadlineValid_is _ _ H3 _).mono ?_; rintro e wd ⟨rfl, rfl⟩))
   go_ret
   exact ⟨by rw [HF.out]; rfl, HB1.out⟩
 | false =>
  have HF : Hid (mdS g rm wk st dl = false) := Lib.hid (by unfold mdS; rw [h]; rfl)
  have HP := Lib.hid (startsIn_no A c g A1 c1 rm wk A2 c2 st h w hr hr1 hr2 hT)
  clear hr hr1 hr2 hT h
  go_enter Tryd.func29, Tryd.ntmps29
  go_wp2_with (go_at_call 60; refine HP.out.mono ?_; rintro e w1 ⟨rfl, hB1⟩)
  go_ret
  exact ⟨by rw [HF.out]; rfl, hB1⟩
set_option maxRecDepth 100000 in
set_option maxHeartbeats 4000000 in
theorem RunningAt_impl (A : Option Addr) (c : Nat) (g : List Tk) (A1 : Option Addr) (c1 : Nat) (rm : List Int) (wk : Int) (A2 : Option Addr) (c2 : Nat) (st : List Int) (now : Int) (w : World) (hr : kTk.C w A g.length g) (hr1 : (Kd.int .i64).C w A1 rm.length rm) (hr2 : (Kd.int .i64).C w A2 st.length st) (hT : Tab w) :
  Calls Tryd.prog 33 #[.slice A g.length c, .slice A1 rm.length c1, .int .i64 wk, .slice A2 st.length c2, .int .i64 now] w fun e w' => ∃ v, e = .returned v ∧ Kd.R (Kd.int .i64) 3 w' w.heap.size (fun _ => True) v (ints (raS g rm wk st now)) ∧ Below w.heap.size w w' := by
 cases h : vStB g rm wk st with
 | true =>
  have HF : Hid (raS g rm wk st now = (List.range st.length).filter (runB g st now)) := Lib.hid (by unfold raS runS; rw [if_pos h, (vSt_valid h).len])
  have HP := Lib.hid (startsIn_yes A c g A1 c1 rm wk A2 c2 st h w hr hr1 hr2 hT)
  have HV := Lib.hid (vSt_valid h)
  have HR2 := Lib.hid hr2
  have HT := Lib.hid hT
  have hl8 : st.length ≤ 8 := by rw [HV.out.len]; exact HV.out.ok.1
  clear hr hr1 hr2 hT h
  go_enter Tryd.func33, Tryd.ntmps33
  go_wp2_with (go_at_call 60; refine HP.out.mono ?_; rintro e w1 ⟨C, ns, rfl, hg, hG, hB1⟩; have HB1 := Lib.hid hB1; have HR3 := Lib.hid (Kd.C_below HR2.out hB1); clear hg hB1; obtain ⟨Ag, cg, An, cn, Ao, co, vb, va, h1, h2, _, _⟩ := hG; have cC := blk_cell h1 0; simp at cC; have HR := Lib.hid h2; clear h1 h2)
  go_loop [13, 28] (fun s i => ∃ (j : Nat), j ≤ st.length ∧ i = .int .i64 j ∧ s = .int .u16 (maskN (runB g st now) j : Nat)) (fun _ i => st.length - (intOf i).toNat)
  case atStart => exact ⟨0, Nat.zero_le _, rfl, rfl⟩
  case round =>
   obtain ⟨j, hj, rfl, rfl⟩ := hrel
   by_cases hjl : j < st.length
   ·
    have hjg : j < g.length := by rw [← HV.out.len]; exact hjl
    obtain ⟨ad, A4, c4, rfl, hc0, _⟩ := at_Tk HR.out j hjg
    obtain ⟨ads, rfl, cs⟩ := at_num HR3.out j hjl
    have hjj : decide ((j : Int) < (st.length : Int)) = true := decide_eq_true (by omega)
    have hji : (j : Int) < (g.length : Int) := by omega
    have hjsi : (j : Int) < (st.length : Int) := by omega
    have HE : Hid (maskN (runB g st now) (j + 1) = if runB g st now j then maskN (runB g st now) j ||| 2 ^ j else maskN (runB g st now) j) := Lib.hid rfl
    have HBD : Hid (runB g st now j = (decide (st.getD j 0 ≤ now) && decide (now < st.getD j 0 + (rdTk g j).f0))) := Lib.hid rfl
    have hmk := maskN_u16 (runB g st now) (n := j) (by omega)
    have hj16 : j < 16 := by omega
    have hsj := HV.out.sok j
    have htj := HV.out.ok.2.1 j
    generalize st.getD j 0 = s at cs hsj HBD
    generalize (rdTk g j).f0 = tm at hc0 htj HBD
    generalize runB g st now j = rb at HE HBD
    generalize maskN (runB g st now) j = mk at HE hmk
    have hwr : IntKind.i64.wrap (s + tm) = s + tm := IntWalk.i64_in _ (by omega)
    by_cases g1 : s ≤ now
    ·
     have d1 : decide (s ≤ now) = true := decide_eq_true g1
     by_cases g2 : now < s + tm
     ·
      have d2 : decide (now < s + tm) = true := decide_eq_true g2
      rw [d1, d2] at HBD
      clear g1 g2
      go_wp2_with (go_at_call 62; refine (with_calls mk j hmk hj16 _).mono ?_; rintro e w6 ⟨rfl, rfl⟩)
      clear hwr
      go_round
      case rel => exact ⟨j + 1, by omega, by go_num, by rw [HE.out, HBD.out]; rfl⟩
      case measure => simp [intOf]; omega
     ·
      have d2 : decide (now < s + tm) = false := decide_eq_false g2
      rw [d1, d2] at HBD
      clear g1 g2
      go_wp2
      clear hwr
      go_round
      case rel => exact ⟨j + 1, by omega, by go_num, by rw [HE.out, HBD.out]; rfl⟩
      case measure => simp [intOf]; omega
    ·
     have d1 : decide (s ≤ now) = false := decide_eq_false g1
     rw [d1] at HBD
     clear g1
     go_wp2
     clear hwr
     go_round
     case rel => exact ⟨j + 1, by omega, by go_num, by rw [HE.out, HBD.out]; rfl⟩
     case measure => simp [intOf]; omega
   ·
    obtain rfl : j = st.length := by omega
    have hjj : decide ((st.length : Int) < (st.length : Int)) = false := decide_eq_false (by omega)
    have hmk := maskN_u16 (runB g st now) (n := st.length) (by omega)
    have HEL := Lib.hid (els_mask (runB g st now) (n := st.length) (by omega))
    have HLC := Lib.hid (list_calls (maskN (runB g st now) st.length) hmk _ (HT.out.keep HT.out.lt HB1.out))
    rw [HEL.out, ← HF.out] at HLC
    go_wp2_with (go_at_call 63; refine HLC.out.mono ?_; rintro e w3 ⟨v, rfl, hR, hB3⟩)
    go_ret
    have hz := HB1.out.size
    exact ⟨_, rfl, Kd.R_lower hR hz, HB1.out.trans (hB3.mono hz)⟩
 | false =>
  have HF : Hid (raS g rm wk st now = []) := Lib.hid (by unfold raS; rw [h]; rfl)
  have HP := Lib.hid (startsIn_no A c g A1 c1 rm wk A2 c2 st h w hr hr1 hr2 hT)
  clear hr hr1 hr2 hT h
  go_enter Tryd.func33, Tryd.ntmps33
  go_wp2_with (go_at_call 60; refine HP.out.mono ?_; rintro e w1 ⟨rfl, hB1⟩)
  go_ret
  exact ⟨_, rfl, by rw [HF.out]; exact R_nilJ _ _, hB1⟩
end Go.Proofs.YtdjdfbfcjajlkaaDoor
