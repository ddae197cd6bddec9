/- Parts of the proof, laid as one text by a program of mine. -/
import Derived.Test.YtkljcdghbefceaaGreatDoorKbtc12
import Derived.Test.YtkljcdghbefceaaGreatDoorKbtc11
import Derived.Test.YtkljcdghbefceaaGreatDoorKbtc10
namespace Go.Proofs.YtkljcdghbefceaaGreatDoor
set_option linter.unusedVariables false
set_option linter.unusedSimpArgs false
open Go.RowKit Go.Shelf Bits
def vRunB (g : List Tk) (rm : List Int) (run : List Nat) : Bool := specValid g && (roomB rm && (ascB (ints run) && (allInB (ints run) 0 (g.length - 1) && (List.range 3).all fun p => decide (usedS g run (p : Nat) ≤ rm.getD p 0))))
def needsOkB (g : List Tk) (st : List Int) (i : Nat) : Bool := (rdTk g i).f1.all fun x => decide (st.getD x.toNat 0 + (rdTk g x.toNat).f0 ≤ st.getD i 0)
def startOkB (g : List Tk) (rm : List Int) (wk : Int) (st : List Int) (i : Nat) : Bool :=
 needsOkB g st i && (decide (((runS g st (st.getD i 0)).length : Int) ≤ wk) && vRunB g rm (runS g st (st.getD i 0)))
def vStB (g : List Tk) (rm : List Int) (wk : Int) (st : List Int) : Bool := specValid g && (roomB rm && (inB wk 1 4 && (decide (st.length = g.length) && (allInB st 0 200 && (List.range g.length).all (startOkB g rm wk st)))))
def stN (g : List Tk) (rm : List Int) (wk : Int) (st : List Int) : Bool := match graphN g with
 | some ns => placeB rm wk && (decide (st.length = g.length) && (allInB st 0 200 && startsB g ns rm wk st))
 | none => false
theorem ascB_filter (P : Nat → Bool) (n : Nat) : ascB (ints ((List.range n).filter P)) = true := by
 have h : ((List.range n).filter P).Pairwise (· < ·) := List.Pairwise.filter P List.pairwise_lt_range
 generalize (List.range n).filter P = L at h
 unfold ascB
 rw [List.all_eq_true]
 intro j hj
 have hj := List.mem_range.1 hj
 rw [ints_length] at hj
 rw [ints_getD, ints_getD]
 have := (List.pairwise_iff_getElem.1 h) j (j + 1) (by omega) (by omega) (by omega)
 rw [List.getD_eq_getElem?_getD, List.getD_eq_getElem?_getD, List.getElem?_eq_getElem (show j < L.length by omega), List.getElem?_eq_getElem (show j + 1 < L.length by omega)]
 exact decide_eq_true (by simpa using this)
theorem runS_in (g : List Tk) (st : List Int) (now : Int) : allInB (ints (runS g st now)) 0 (g.length - 1) = true := by
 unfold allInB
 rw [List.all_eq_true]
 intro x hx
 unfold ints at hx
 obtain ⟨k, hk, rfl⟩ := List.mem_map.1 hx
 have := (mem_runS.1 hk).1
 refine inB_true.2 ?_
 simp only [Int.ofNat_eq_natCast]
 omega
theorem startOk_iff {g : List Tk} (hv : specValid g = true) {rm : List Int} (hrm : roomB rm = true) {wk : Int} {st : List Int} {i : Nat} (hi : i < g.length) : startOkB g rm wk st i = true ↔ runOk g rm wk st i := by
 unfold startOkB runOk vRunB needsOkB
 rw [hv, hrm, runS_in, show ascB (ints (runS g st (st.getD i 0))) = true from ascB_filter _ _, Bool.true_and, Bool.true_and, Bool.true_and, Bool.true_and, Bool.and_eq_true, Bool.and_eq_true, List.all_eq_true, List.all_eq_true, decide_eq_true_iff]
 have e1 : (∀ x ∈ (rdTk g i).f1, decide (st.getD x.toNat 0 + (rdTk g x.toNat).f0 ≤ st.getD i 0) = true) ↔ ∀ k : Nat, (k : Int) ∈ (rdTk g i).f1 → st.getD k 0 + (rdTk g k).f0 ≤ st.getD i 0 := by
  constructor
  ·
   intro h k hk
   have := of_decide_eq_true (h _ hk)
   rwa [Int.toNat_natCast] at this
  ·
   intro h x hx
   have hin := spec_needs_in hv i hi x hx
   have := h x.toNat (by rw [show ((x.toNat : Nat) : Int) = x by omega]; exact hx)
   exact decide_eq_true this
 have e2 : (∀ p ∈ List.range 3, decide (usedS g (runS g st (st.getD i 0)) (p : Nat) ≤ rm.getD p 0) = true) ↔ ∀ p : Nat, p < 3 → usedS g (runS g st (st.getD i 0)) p ≤ rm.getD p 0 := by
  constructor
  ·
   exact fun h p hp => of_decide_eq_true (h p (List.mem_range.2 hp))
  ·
   exact fun h p hp => decide_eq_true (h p (List.mem_range.1 hp))
 rw [e1, e2]
theorem vSt_iff {g : List Tk} {rm : List Int} {wk : Int} {st : List Int} : vStB g rm wk st = true ↔ specValid g = true ∧ placeB rm wk = true ∧ st.length = g.length ∧ allInB st 0 200 = true ∧ ∀ i, i < g.length → runOk g rm wk st i := by
 unfold vStB placeB
 simp only [Bool.and_eq_true, decide_eq_true_iff, List.all_eq_true, List.mem_range]
 constructor
 ·
  rintro ⟨h1, h2, h3, h4, h5, h6⟩
  exact ⟨h1, ⟨h2, h3⟩, h4, h5, fun i hi => (startOk_iff h1 h2 hi).1 (h6 i hi)⟩
 ·
  rintro ⟨h1, ⟨h2, h3⟩, h4, h5, h6⟩
  exact ⟨h1, h2, h3, h4, h5, fun i hi => (startOk_iff h1 h2 hi).2 (h6 i hi)⟩
theorem st_eq (g : List Tk) (rm : List Int) (wk : Int) (st : List Int) : stN g rm wk st = vStB g rm wk st := by
 rw [Bool.eq_iff_iff, vSt_iff]
 unfold stN
 cases hg : graphN g with
 | none =>
  rw [specValid_eq, hg]
  simp
 | some ns =>
  simp only [Bool.and_eq_true, decide_eq_true_iff]
  rw [startsB_iff hg]
  have hv := graphN_spec hg
  constructor
  ·
   rintro ⟨h1, h2, h3, h4⟩
   have hr := (roomB_facts (placeB_facts h1).1).2
   exact ⟨hv, h1, h2, h3, (can_run (specValid_TOk hv) (fun p hp => (hr p hp).1)).1 h4⟩
  ·
   rintro ⟨_, h1, h2, h3, h4⟩
   have hr := (roomB_facts (placeB_facts h1).1).2
   exact ⟨h1, h2, h3, (can_run (specValid_TOk hv) (fun p hp => (hr p hp).1)).2 h4⟩
structure Valid (g : List Tk) (rm : List Int) (wk : Int) (st : List Int) : Prop where
 v : specValid g = true
 p : placeB rm wk = true
 len : st.length = g.length
 b : ∀ i, i < g.length → 0 ≤ st.getD i 0 ∧ st.getD i 0 ≤ 200
 run : ∀ i, i < g.length → runOk g rm wk st i
theorem vSt_valid {g : List Tk} {rm : List Int} {wk : Int} {st : List Int} (h : vStB g rm wk st = true) : Valid g rm wk st := by
 obtain ⟨h1, h2, h3, h4, h5⟩ := vSt_iff.1 h
 refine ⟨h1, h2, h3, fun i hi => ?_, h5⟩
 unfold allInB at h4
 rw [List.all_eq_true] at h4
 exact inB_true.1 (h4 _ (mem_getD (by omega)))
theorem Valid.ok {g : List Tk} {rm : List Int} {wk : Int} {st : List Int} (h : Valid g rm wk st) : TOk g := specValid_TOk h.v
theorem valid_vSt {g : List Tk} {rm : List Int} {wk : Int} {st : List Int} (h : Valid g rm wk st) : vStB g rm wk st = true := by
 refine vSt_iff.2 ⟨h.v, h.p, h.len, ?_, h.run⟩
 unfold allInB
 exact all_take 0 (fun j hj => inB_true.2 (h.b j (by have := h.len; omega)))
theorem Valid.needs {g : List Tk} {rm : List Int} {wk : Int} {st : List Int} (h : Valid g rm wk st) : ∀ k, k < g.length → ∀ i : Nat, (i : Int) ∈ (rdTk g k).f1 → st.getD i 0 + (rdTk g i).f0 ≤ st.getD k 0 := fun k hk i hi => (h.run k hk).1 i hi
theorem getD_out {l : List Int} {i : Nat} (h : ¬ i < l.length) : l.getD i 0 = 0 := by
 rw [List.getD_eq_getElem?_getD, List.getElem?_eq_none (by omega)]
 rfl
theorem Valid.sok {g : List Tk} {rm : List Int} {wk : Int} {st : List Int} (h : Valid g rm wk st) : SOk st := fun i => by
 by_cases hi : i < g.length
 ·
  have := h.b i hi
  omega
 ·
  rw [getD_out (by have := h.len; omega)]
  omega
theorem allIn_sok {st : List Int} (h : allInB st 0 200 = true) : SOk st := fun i => by
 by_cases hi : i < st.length
 ·
  unfold allInB at h
  rw [List.all_eq_true] at h
  have := inB_true.1 (h _ (mem_getD hi))
  omega
 ·
  rw [getD_out hi]
  omega
end Go.Proofs.YtkljcdghbefceaaGreatDoor

namespace Go.Proofs.YtkljcdghbefceaaGreatDoor
set_option linter.unusedVariables false
set_option linter.unusedSimpArgs false
open Go.RowKit Go.Shelf Bits
def etS (g : List Tk) (rm : List Int) (wk : Int) (st : List Int) : Int := if vStB g rm wk st then endS g st g.length else -1
def raS (g : List Tk) (rm : List Int) (wk : Int) (st : List Int) (now : Int) : List Nat := if vStB g rm wk st then runS g st now else []
def cancF (g : List Tk) (st : List Int) (now : Int) (i : Nat) : Int := if st.getD i 0 + (rdTk g i).f0 ≤ now then 0 else if st.getD i 0 < now then 1 else 3
def caS (g : List Tk) (rm : List Int) (wk : Int) (st : List Int) (now : Int) : List Int := if vStB g rm wk st && inB now 0 200 then (List.range g.length).map (cancF g st now) else []
def lgS (g : List Tk) (rm : List Int) (wk : Int) (st : List Int) : List Ev := if vStB g rm wk st then chgS g st else []
def lateB (g : List Tk) (st : List Int) (dl : Int) (i : Nat) : Bool := decide (dl - (tailsS g).getD i 0 < st.getD i 0)
def ltS (g : List Tk) (rm : List Int) (wk : Int) (st : List Int) (dl : Int) : List Nat := if vStB g rm wk st && inB dl 0 200 then (List.range g.length).filter (lateB g st dl) else []
def mdS (g : List Tk) (rm : List Int) (wk : Int) (st : List Int) (dl : Int) : Bool := vStB g rm wk st && (inB dl 0 200 && decide (endS g st g.length ≤ dl))
theorem runS_shift {g : List Tk} {st st' : List Int} {d : Int} (h : ∀ i, i < g.length → st'.getD i 0 = st.getD i 0 + d) (now : Int) : runS g st' (now + d) = runS g st now := by
 unfold runS
 apply List.filter_congr
 intro i hi
 rw [Bool.eq_iff_iff, runB_iff, runB_iff, h i (List.mem_range.1 hi)]
 omega
theorem valid_shift {g : List Tk} {rm : List Int} {wk : Int} {st st' : List Int} {d : Int} (h : Valid g rm wk st) (hl : st'.length = g.length) (he : ∀ i, i < g.length → st'.getD i 0 = st.getD i 0 + d) (hb : ∀ i, i < g.length → 0 ≤ st'.getD i 0 ∧ st'.getD i 0 ≤ 200) : Valid g rm wk st' := by
 refine ⟨h.v, h.p, hl, hb, fun i hi => ?_⟩
 obtain ⟨h1, h2, h3⟩ := h.run i hi
 unfold runOk
 rw [he i hi, runS_shift he]
 refine ⟨fun k hk => ?_, h2, h3⟩
 have := spec_needs_in h.v i hi _ hk
 have := h1 k hk
 rw [he k (by omega)]
 omega
theorem valid_more {g : List Tk} {rm rm' : List Int} {wk wk' : Int} {st : List Int} (h : Valid g rm wk st) (hp : placeB rm' wk' = true) (hw : wk ≤ wk') (hr : ∀ p, p < 3 → rm.getD p 0 ≤ rm'.getD p 0) : Valid g rm' wk' st := by
 refine ⟨h.v, hp, h.len, h.b, fun i hi => ?_⟩
 obtain ⟨h1, h2, h3⟩ := h.run i hi
 exact ⟨h1, by omega, fun p hp => by have := h3 p hp; have := hr p hp; omega⟩
theorem endS_some {g : List Tk} {st : List Int} : ∀ n, 0 < n → (∀ i, i < n → 0 ≤ st.getD i 0 + (rdTk g i).f0) → ∃ i, i < n ∧ st.getD i 0 + (rdTk g i).f0 = endS g st n
 | 0, h, _ => absurd h (Nat.lt_irrefl _)
 | n + 1, _, h => by
  by_cases hn : 0 < n
  ·
   obtain ⟨i, hi, he⟩ := endS_some n hn (fun i hi => h i (by omega))
   unfold endS
   by_cases hc : endS g st n ≤ st.getD n 0 + (rdTk g n).f0
   ·
    exact ⟨n, by omega, by omega⟩
   ·
    exact ⟨i, by omega, by omega⟩
  ·
   obtain rfl : n = 0 := by omega
   refine ⟨0, by omega, ?_⟩
   have := h 0 (by omega)
   unfold endS endS
   omega
theorem endS_nonneg (g : List Tk) (st : List Int) : ∀ n, 0 ≤ endS g st n
 | 0 => Int.le_refl _
 | n + 1 => by
  have := endS_nonneg g st n
  unfold endS
  omega
theorem Valid.end_some {g : List Tk} {rm : List Int} {wk : Int} {st : List Int} (h : Valid g rm wk st) (hn : 0 < g.length) : ∃ i, i < g.length ∧ st.getD i 0 + (rdTk g i).f0 = endS g st g.length :=
 endS_some _ hn (fun i hi => by have := h.b i hi; have := h.ok.2.1 i; omega)
theorem Valid.end_pos {g : List Tk} {rm : List Int} {wk : Int} {st : List Int} (h : Valid g rm wk st) (hn : 0 < g.length) : 1 ≤ endS g st g.length := by
 obtain ⟨i, hi, he⟩ := h.end_some hn
 have := h.b i hi
 have := h.ok.2.2.2.2 i hi
 omega
theorem end_shift {g : List Tk} {rm : List Int} {wk : Int} {st st' : List Int} {d : Int} (h : Valid g rm wk st) (h' : Valid g rm wk st') (hn : 0 < g.length) (he : ∀ i, i < g.length → st'.getD i 0 = st.getD i 0 + d) : endS g st' g.length = endS g st g.length + d := by
 obtain ⟨i, hi, e1⟩ := h.end_some hn
 obtain ⟨j, hj, e2⟩ := h'.end_some hn
 have h1 := endS_mono g st j _ hj
 have h2 := endS_mono g st' i _ hi
 rw [he i hi] at h2
 rw [he j hj] at e2
 omega
theorem Valid.runs {g : List Tk} {rm : List Int} {wk : Int} {st : List Int} (h : Valid g rm wk st) (now : Int) : ((runS g st now).length : Int) ≤ wk ∧ ∀ p : Nat, p < 3 → usedS g (runS g st now) p ≤ rm.getD p 0 := by
 have hok := h.ok
 obtain ⟨hr, hw, _⟩ := placeB_facts h.p
 have hr := (roomB_facts hr).2
 by_cases hex : ∃ k, k < g.length ∧ runB g st now k = true
 ·
  obtain ⟨j, hj, hp, hl⟩ := last_of (st := st) (P := runB g st now) g.length hex
  have hjr := runB_iff.1 hp
  obtain ⟨_, h2, h3⟩ := h.run j hj
  have hsub : ∀ k, k < g.length → runB g st now k = true → runB g st (st.getD j 0) k = true := fun k hk hpk => by
   have hkr := runB_iff.1 hpk
   rcases hl k hk hpk with hh | hh
   ·
    exact runB_iff.2 (by omega)
   ·
    exact runB_iff.2 (by omega)
  constructor
  ·
   have := filter_len_le g.length hsub
   unfold runS at h2 ⊢
   omega
  ·
   intro p hp3
   have h4 := usedS_filter g p (P := runB g st now) (Q := runB g st (st.getD j 0)) hok g.length (fun k hk hpk _ => hsub k hk hpk)
   have h5 := h3 p hp3
   unfold runS at h5 ⊢
   omega
 ·
  have e : runS g st now = [] := by
   unfold runS
   rw [List.filter_eq_nil_iff]
   exact fun i hi hpi => hex ⟨i, List.mem_range.1 hi, hpi⟩
  rw [e]
  refine ⟨by simp; omega, fun p hp3 => ?_⟩
  have := (hr p hp3).1
  show (0 : Int) ≤ _
  omega
theorem Valid.run_end {g : List Tk} {rm : List Int} {wk : Int} {st : List Int} (h : Valid g rm wk st) : runS g st (endS g st g.length) = [] ∧ runS g st (-1) = [] ∧ (endS g st g.length ≠ 0 → runS g st (endS g st g.length - 1) ≠ []) := by
 refine ⟨?_, ?_, fun hne => ?_⟩
 ·
  unfold runS
  rw [List.filter_eq_nil_iff]
  intro i hi hp
  have := runB_iff.1 hp
  have := endS_mono g st i _ (List.mem_range.1 hi)
  omega
 ·
  unfold runS
  rw [List.filter_eq_nil_iff]
  intro i hi hp
  have := runB_iff.1 hp
  have := h.b i (List.mem_range.1 hi)
  omega
 ·
  have hn : 0 < g.length := by
   by_cases hn : 0 < g.length
   ·
    exact hn
   ·
    refine absurd ?_ hne
    rw [show g.length = 0 by omega]
    rfl
  obtain ⟨i, hi, he⟩ := h.end_some hn
  have := h.ok.2.2.2.2 i hi
  exact List.ne_nil_of_mem (mem_runS.2 ⟨hi, by omega, by omega⟩)
def clampW (g : List Tk) (st : List Int) (m : Int) (i : Nat) : Int := max 0 (min (rdTk g i).f0 (m - st.getD i 0))
theorem sumTo_mul {a : Nat → Int} {b : Nat → Int} {c : Nat → Int} : ∀ n, (∀ i, i < n → a i + b i = c i) → sumTo a n + sumTo b n = sumTo c n
 | 0, _ => rfl
 | n + 1, h => by
  have h1 := sumTo_mul n (fun i hi => h i (by omega))
  have h2 := h n (by omega)
  unfold sumTo
  omega
theorem work_done {g : List Tk} (hok : TOk g) {st : List Int} (h0 : ∀ i, i < g.length → 0 ≤ st.getD i 0) (wt : Nat → Int) : ∀ m : Nat, sumTo (fun t => sumTo (fun i => if runB g st t i then wt i else 0) g.length) m = sumTo (fun i => wt i * clampW g st m i) g.length
 | 0 => by
  show (0 : Int) = _
  have : sumTo (fun i => wt i * clampW g st (0 : Nat) i) g.length = sumTo (fun _ => 0) g.length := sumTo_congr _ (fun i hi => by
   unfold clampW
   have := h0 i hi
   have := hok.2.1 i
   rw [show max 0 (min (rdTk g i).f0 (((0 : Nat) : Int) - st.getD i 0)) = 0 by omega, Int.mul_zero])
  rw [this]
  have := sumTo_bound (f := fun _ => (0 : Int)) (a := 0) (b := 0) g.length (fun i _ => by omega)
  omega
 | m + 1 => by
  have ih := work_done hok h0 wt m
  show sumTo (fun t => sumTo (fun i => if runB g st t i then wt i else 0) g.length) m + sumTo (fun i => if runB g st (m : Nat) i then wt i else 0) g.length = _
  rw [ih]
  refine sumTo_mul _ (fun i hi => ?_)
  have ht := hok.2.2.2.2 i hi
  have hs := h0 i hi
  unfold clampW
  by_cases hr : runB g st (m : Int) i = true
  ·
   have := runB_iff.1 hr
   rw [if_pos hr, show max 0 (min (rdTk g i).f0 ((m + 1 : Nat) - st.getD i 0)) = max 0 (min (rdTk g i).f0 ((m : Int) - st.getD i 0)) + 1 by omega, Int.mul_add, Int.mul_one]
  ·
   rw [if_neg hr]
   have hn : ¬ (st.getD i 0 ≤ (m : Int) ∧ (m : Int) < st.getD i 0 + (rdTk g i).f0) := fun h => hr (runB_iff.2 h)
   rw [show max 0 (min (rdTk g i).f0 ((m + 1 : Nat) - st.getD i 0)) = max 0 (min (rdTk g i).f0 ((m : Int) - st.getD i 0)) by omega, Int.add_zero]
theorem work_all {g : List Tk} (hok : TOk g) {st : List Int} (h0 : ∀ i, i < g.length → 0 ≤ st.getD i 0) (wt : Nat → Int) {m : Nat} (hm : ∀ i, i < g.length → st.getD i 0 + (rdTk g i).f0 ≤ m) : sumTo (fun t => sumTo (fun i => if runB g st t i then wt i else 0) g.length) m = sumTo (fun i => wt i * (rdTk g i).f0) g.length := by
 rw [work_done hok h0]
 refine sumTo_congr _ (fun i hi => ?_)
 have := hm i hi
 have := hok.2.1 i
 unfold clampW
 rw [show max 0 (min (rdTk g i).f0 ((m : Int) - st.getD i 0)) = (rdTk g i).f0 by omega]
theorem run_sum {g : List Tk} (hok : TOk g) {st : List Int} (h0 : ∀ i, i < g.length → 0 ≤ st.getD i 0) {m : Nat} (hm : ∀ i, i < g.length → st.getD i 0 + (rdTk g i).f0 ≤ m) : sumTo (fun t => ((runS g st (t : Nat)).length : Nat)) m = timeS g := by
 have h := work_all hok h0 (fun _ => 1) hm
 have e : sumTo (fun t => sumTo (fun i => if runB g st (t : Nat) i then 1 else 0) g.length) m = sumTo (fun t => ((runS g st (t : Nat)).length : Nat)) m := sumTo_congr _ (fun t _ => by
  rw [sumTo_count]
  rfl)
 rw [← e, h]
 exact sumTo_congr _ (fun i _ => by rw [Int.one_mul])
theorem run_used {g : List Tk} (hok : TOk g) {st : List Int} (h0 : ∀ i, i < g.length → 0 ≤ st.getD i 0) {m : Nat} (hm : ∀ i, i < g.length → st.getD i 0 + (rdTk g i).f0 ≤ m) (p : Int) : sumTo (fun t => usedS g (runS g st (t : Nat)) p) m = sumTo (fun i => if (rdTk g i).f2 = p then (rdTk g i).f0 * (rdTk g i).f3 else 0) g.length := by
 have h := work_all hok h0 (fun i => if (rdTk g i).f2 = p then (rdTk g i).f3 else 0) hm
 have e : sumTo (fun t => sumTo (fun i => if runB g st (t : Nat) i then (if (rdTk g i).f2 = p then (rdTk g i).f3 else 0) else 0) g.length) m = sumTo (fun t => usedS g (runS g st (t : Nat)) p) m := sumTo_congr _ (fun t _ => by
  unfold runS
  rw [← sumTo_used]
  exact sumTo_congr _ (fun i _ => by cases runB g st (t : Nat) i <;> simp))
 rw [← e, h]
 refine sumTo_congr _ (fun i _ => ?_)
 by_cases hc : (rdTk g i).f2 = p
 ·
  rw [if_pos hc, if_pos hc, Int.mul_comm]
 ·
  rw [if_neg hc, if_neg hc, Int.zero_mul]
theorem tails_ge {g : List Tk} (hv : specValid g = true) {i : Nat} (hi : i < g.length) : (rdTk g i).f0 ≤ (tailsS g).getD i 0 := by
 have hok := specValid_TOk hv
 have key : ∀ (pre : List Nat) (o : List Int), o.length = g.length → ((rdTk g i).f0 ≤ o.getD i 0 ∨ ∃ p ∈ pre, (topL g).getD p 0 = i) → (rdTk g i).f0 ≤ (pre.foldl (fun o p => sStep g o ((topL g).getD p 0)) o).getD i 0 := by
  intro pre
  induction pre with
  | nil =>
   rintro o _ (h | ⟨_, h, _⟩)
   ·
    exact h
   ·
    cases h
  | cons p pre ih =>
   intro o hl h
   refine ih _ (by unfold sStep; rw [List.length_set]; exact hl) ?_
   have hm := mostS_nonneg g o ((topL g).getD p 0) g.length
   unfold sStep
   rw [getD_setL]
   by_cases hc : i = (topL g).getD p 0 ∧ (topL g).getD p 0 < o.length
   ·
    rw [if_pos hc]
    left
    rw [← hc.1] at hm ⊢
    omega
   ·
    rw [if_neg hc]
    rcases h with h | ⟨q, hq, he⟩
    ·
     exact .inl h
    ·
     rcases List.mem_cons.1 hq with rfl | hq
     ·
      exact absurd ⟨he.symm, by rw [he, hl]; exact hi⟩ hc
     ·
      exact .inr ⟨q, hq, he⟩
 refine key _ _ (by simp) (.inr ?_)
 obtain ⟨p, hp, e⟩ := List.getElem_of_mem (top_all hv hi)
 refine ⟨p, ?_, by rw [List.getD_eq_getElem?_getD, List.getElem?_eq_getElem hp]; exact e⟩
 unfold backL
 rw [List.mem_map]
 exact ⟨(topL g).length - 1 - p, List.mem_range.2 (by omega), by omega⟩
theorem lateB_iff {g : List Tk} {st : List Int} {dl : Int} {i : Nat} : lateB g st dl i = true ↔ dl - (tailsS g).getD i 0 < st.getD i 0 := by
 unfold lateB
 exact decide_eq_true_iff
theorem late_end {g : List Tk} {rm : List Int} {wk : Int} {st : List Int} (h : Valid g rm wk st) {dl : Int} {i : Nat} (hi : i < g.length) (hl : lateB g st dl i = true) : dl < endS g st g.length := by
 have hl := lateB_iff.1 hl
 have h1 := tails_ge h.v hi
 have h2 := h.ok.2.2.2.2 i hi
 rcases tails_fit (E := endS g st g.length) (fun i hi => endS_mono g st i _ hi) h.needs i hi with h3 | h3
 ·
  omega
 ·
  omega
theorem last_late {g : List Tk} {rm : List Int} {wk : Int} {st : List Int} (h : Valid g rm wk st) {dl : Int} (hd : dl < endS g st g.length) {i : Nat} (hi : i < g.length) (he : st.getD i 0 + (rdTk g i).f0 = endS g st g.length) : lateB g st dl i = true := by
 have := tails_ge h.v hi
 exact lateB_iff.2 (by omega)
theorem late_iff {g : List Tk} {rm : List Int} {wk : Int} {st : List Int} (h : Valid g rm wk st) (dl : Int) (hd0 : 0 ≤ dl) : (List.range g.length).filter (lateB g st dl) ≠ [] ↔ dl < endS g st g.length := by
 constructor
 ·
  intro hne
  obtain ⟨i, t, e⟩ := List.exists_cons_of_ne_nil hne
  have hm : i ∈ (List.range g.length).filter (lateB g st dl) := by rw [e]; exact List.mem_cons_self
  have hm := List.mem_filter.1 hm
  exact late_end h (List.mem_range.1 hm.1) hm.2
 ·
  intro hd
  have hn : 0 < g.length := by
   by_cases hn : 0 < g.length
   ·
    exact hn
   ·
    rw [show g.length = 0 by omega] at hd
    have : endS g st 0 = 0 := rfl
    omega
  obtain ⟨i, hi, he⟩ := h.end_some hn
  exact List.ne_nil_of_mem (List.mem_filter.2 ⟨List.mem_range.2 hi, last_late h hd hi he⟩)
theorem caS_get {g : List Tk} {st : List Int} {now : Int} {i : Nat} (hi : i < g.length) : ((List.range g.length).map (cancF g st now)).getD i 0 = cancF g st now i := by
 rw [List.getD_eq_getElem?_getD, List.getElem?_map, List.getElem?_range hi]
 rfl
theorem canc_done {g : List Tk} {st : List Int} {now : Int} {i : Nat} : cancF g st now i = 0 ↔ st.getD i 0 + (rdTk g i).f0 ≤ now := by
 unfold cancF
 split
 ·
  simp_all
 ·
  split <;> simp_all
theorem canc_failed {g : List Tk} {st : List Int} {now : Int} {i : Nat} : cancF g st now i = 1 ↔ st.getD i 0 < now ∧ ¬ st.getD i 0 + (rdTk g i).f0 ≤ now := by
 unfold cancF
 split
 ·
  rename_i h
  simp only [h, not_true_eq_false, and_false]
  decide
 ·
  rename_i h
  split
  ·
   rename_i h2
   simp only [h2, h, not_false_eq_true, and_self]
  ·
   rename_i h2
   simp only [h2, false_and]
   decide
theorem canc_left {g : List Tk} (hok : TOk g) {st : List Int} {now : Int} {i : Nat} (hi : i < g.length) : cancF g st now i = 3 ↔ now ≤ st.getD i 0 := by
 have := hok.2.2.2.2 i hi
 unfold cancF
 split
 ·
  rename_i h
  constructor
  ·
   intro h; exact absurd h (by decide)
  ·
   intro h2; omega
 ·
  rename_i h
  split
  ·
   rename_i h2
   constructor
   ·
    intro h; exact absurd h (by decide)
   ·
    intro h3; omega
  ·
   rename_i h2
   exact ⟨fun _ => by omega, fun _ => rfl⟩
end Go.Proofs.YtkljcdghbefceaaGreatDoor

namespace Go.Proofs.YtkljcdghbefceaaGreatDoor
set_option linter.unusedVariables false
set_option linter.unusedSimpArgs false
open Go.RowKit Go.Shelf Bits
theorem admFold_sub (g : List Tk) (rm : List Int) (wk : Int) : ∀ (l : List Nat) (c : Ct) (acc : List Nat), ∃ s, s.Sublist l ∧ (l.foldl (admStep g rm wk) (c, acc)).2 = acc ++ s
 | [], c, acc => ⟨[], List.Sublist.refl _, by simp⟩
 | i :: l, c, acc => by
  rw [List.foldl_cons]
  unfold admStep
  split
  ·
   obtain ⟨s, h1, h2⟩ := admFold_sub g rm wk l (c.add (rdTk g i).f2.toNat (rdTk g i).f3 1) (acc ++ [i])
   exact ⟨i :: s, h1.cons_cons i, by rw [show (l.foldl (fun st i => if st.1.can (rdTk g i).f2.toNat (rdTk g i).f3 rm wk then (st.1.add (rdTk g i).f2.toNat (rdTk g i).f3 1, st.2 ++ [i]) else st) (c.add (rdTk g i).f2.toNat (rdTk g i).f3 1, acc ++ [i])).2 = _ from h2]; simp⟩
  ·
   obtain ⟨s, h1, h2⟩ := admFold_sub g rm wk l c acc
   exact ⟨s, h1.cons i, h2⟩
theorem admN_nodup {g : List Tk} {rm : List Int} {wk : Int} {c : Ct} {l : List Nat} (h : l.Nodup) : (admN g rm wk c l).2.Nodup := by
 obtain ⟨s, h1, h2⟩ := admFold_sub g rm wk l c []
 unfold admN
 rw [h2, List.nil_append]
 exact h1.nodup h
def CtIn (rm : List Int) (wk : Int) (c : Ct) : Prop := c.t ≤ wk ∧ ∀ p, p < 3 → c.u p ≤ rm.getD p 0
theorem admFold_in {g : List Tk} (hok : TOk g) {rm : List Int} {wk : Int} : ∀ (l : List Nat) (st : Ct × List Nat), CtIn rm wk st.1 → CtIn rm wk (l.foldl (admStep g rm wk) st).1
 | [], st, h => h
 | i :: l, st, h => by
  refine admFold_in hok l (admStep g rm wk st i) ?_
  unfold admStep
  split
  ·
   rename_i hc
   unfold Ct.can at hc
   rw [Bool.and_eq_true, decide_eq_true_iff, decide_eq_true_iff] at hc
   refine ⟨?_, fun p hp => ?_⟩
   ·
    show st.1.t + 1 ≤ wk
    omega
   ·
    show (if p = (rdTk g i).f2.toNat then st.1.u p + 1 * (rdTk g i).f3 else st.1.u p) ≤ _
    split
    ·
     rename_i e
     rw [e]
     omega
    ·
     exact h.2 p hp
  ·
   exact h
theorem nextS_nodup (g : List Tk) (rm : List Int) (wk : Int) (st : List Int) (now : Int) : (nextS g rm wk st now).Nodup := by
 unfold nextS
 refine admN_nodup ((insL_perm _ _).nodup_iff.2 (List.Pairwise.filter _ ?_))
 exact List.nodup_range.filter _
theorem usedS_perm {g : List Tk} {a b : List Nat} (h : a.Perm b) (p : Int) : usedS g a p = usedS g b p := by
 unfold usedS
 exact perm_sum (h.map _)
theorem run_next {g : List Tk} (hok : TOk g) {rm : List Int} {wk : Int} {L : List Int} {k : Nat} (hk : k < 200) (hL : L.length = g.length) : (runS g (stepS g rm wk L k) k).Perm (runS g L k ++ nextS g rm wk L k) := by
 refine (List.perm_ext_iff_of_nodup (List.nodup_range.filter _) ?_).2 (fun i => ?_)
 ·
  rw [List.nodup_append]
  refine ⟨List.nodup_range.filter _, nextS_nodup _ _ _ _ _, ?_⟩
  rintro a ha b hb rfl
  have h1 := (mem_runS.1 ha).2.1
  have h2 := (nextS_in hb).2.2
  omega
 ·
  show i ∈ runS g (stepS g rm wk L k) k ↔ _
  rw [List.mem_append, mem_runS, mem_runS, stepS_get hL]
  by_cases hm : i ∈ nextS g rm wk L k
  ·
   have hi := nextS_lt g rm wk L k i hm
   have ht := hok.2.2.2.2 i hi
   rw [if_pos hm]
   constructor
   ·
    exact fun _ => .inr hm
   ·
    exact fun _ => ⟨hi, Int.le_refl _, by omega⟩
  ·
   rw [if_neg hm]
   constructor
   ·
    exact .inl
   ·
    rintro (h | h)
    ·
     exact h
    ·
     exact absurd h hm
theorem plan_runs {g : List Tk} (hok : TOk g) {rm : List Int} (hrm : ∀ p, p < 3 → 4 ≤ rm.getD p 0) {wk : Int} (hwk : 1 ≤ wk) : ∀ k : Nat, k < 200 → ((runS g (planL g rm wk (k + 1)) k).length : Int) ≤ wk ∧ ∀ p : Nat, p < 3 → usedS g (runS g (planL g rm wk (k + 1)) k) p ≤ rm.getD p 0 := by
 intro k hk
 have hL := (planL_ok g rm wk k (by omega)).1
 have hB := planL_before g rm wk k (by omega)
 have h0 : CtIn rm wk (cnt g (runS g (planL g rm wk k) k)) := by
  show ((runS g (planL g rm wk k) k).length : Int) ≤ wk ∧ ∀ p : Nat, p < 3 → usedS g (runS g (planL g rm wk k) k) p ≤ rm.getD p 0
  cases k with
  | zero =>
   have e : runS g (planL g rm wk 0) ((0 : Nat) : Int) = [] := by
    unfold runS
    rw [List.filter_eq_nil_iff]
    intro i hi hp
    have h1 := runB_iff.1 hp
    have h2 := hB i (List.mem_range.1 hi)
    omega
   rw [e]
   refine ⟨by simp; omega, fun p hp => ?_⟩
   have := hrm p hp
   show (0 : Int) ≤ _
   omega
  | succ k =>
   obtain ⟨h1, h2⟩ := plan_runs hok hrm hwk k (by omega)
   have hsub : ∀ i, i < g.length → runB g (planL g rm wk (k + 1)) ((k + 1 : Nat) : Int) i = true → runB g (planL g rm wk (k + 1)) (k : Int) i = true := fun i hi hp => by
    have h3 := runB_iff.1 hp
    have h4 := hB i hi
    exact runB_iff.2 (by omega)
   refine ⟨?_, fun p hp => ?_⟩
   ·
    have := filter_len_le g.length hsub
    unfold runS at h1 ⊢
    omega
   ·
    have h3 := usedS_filter g p (P := runB g (planL g rm wk (k + 1)) ((k + 1 : Nat) : Int)) (Q := runB g (planL g rm wk (k + 1)) (k : Int)) hok g.length (fun i hi hp _ => hsub i hi hp)
    have h4 := h2 p hp
    unfold runS at h4 ⊢
    omega
 have h1 := admFold_in hok (insL (tailsS g) ((readyS g (ints (overS g (planL g rm wk k) k))).filter (idleB (planL g rm wk k)))) (cnt g (runS g (planL g rm wk k) k), []) h0
 have h2 := admN_cnt hok rm wk (runS g (planL g rm wk k) k) (insL (tailsS g) ((readyS g (ints (overS g (planL g rm wk k) k))).filter (idleB (planL g rm wk k)))) _ (Nat.le_refl _)
 rw [List.take_length] at h2
 have h3 : CtIn rm wk (cnt g (runS g (planL g rm wk k) k ++ nextS g rm wk (planL g rm wk k) k)) := by
  rw [show nextS g rm wk (planL g rm wk k) k = (admN g rm wk (cnt g (runS g (planL g rm wk k) k)) (insL (tailsS g) ((readyS g (ints (overS g (planL g rm wk k) k))).filter (idleB (planL g rm wk k))))).2 from rfl, ← h2]
  exact h1
 have hp := run_next (rm := rm) (wk := wk) hok hk hL
 rw [show planL g rm wk (k + 1) = stepS g rm wk (planL g rm wk k) k from rfl]
 refine ⟨?_, fun p hp3 => ?_⟩
 ·
  rw [hp.length_eq]
  exact h3.1
 ·
  rw [usedS_perm hp]
  exact h3.2 p hp3
theorem planL_later {g : List Tk} {rm : List Int} {wk : Int} {k j : Nat} (h : (planL g rm wk k).getD j 0 = 200) : ∀ d, k + d ≤ 200 → (planL g rm wk (k + d)).getD j 0 = 200 ∨ (k : Int) ≤ (planL g rm wk (k + d)).getD j 0
 | 0, _ => .inl h
 | d + 1, hd => by
  have ih := planL_later h d (by omega)
  rw [show k + (d + 1) = (k + d) + 1 from rfl, show planL g rm wk (k + d + 1) = stepS g rm wk (planL g rm wk (k + d)) (k + d : Nat) from rfl, stepS_get (planL_ok g rm wk (k + d) (by omega)).1]
  split
  ·
   right; omega
  ·
   exact ih
theorem plan_run_at {g : List Tk} {rm : List Int} {wk : Int} {k : Nat} (hk : k < 200) : runS g (planS g rm wk) k = runS g (planL g rm wk (k + 1)) k := by
 unfold runS
 apply List.filter_congr
 intro i hi
 rw [Bool.eq_iff_iff, runB_iff, runB_iff]
 by_cases hc : (planL g rm wk (k + 1)).getD i 0 = 200
 ·
  have h1 := planL_later hc (200 - (k + 1)) (by omega)
  rw [show k + 1 + (200 - (k + 1)) = 200 by omega] at h1
  have h2 : (planS g rm wk).getD i 0 = 200 ∨ ((k + 1 : Nat) : Int) ≤ (planS g rm wk).getD i 0 := h1
  rw [hc]
  omega
 ·
  rw [planL_final (k := k + 1) (by omega) hc]
theorem plan_valid {g : List Tk} (hv : specValid g = true) {rm : List Int} {wk : Int} (hp : placeB rm wk = true) : Valid g rm wk (planS g rm wk) := by
 obtain ⟨hrm, hwk, _⟩ := placeB_facts hp
 have hok := specValid_TOk hv
 have hst := planS_ok g rm wk
 refine ⟨hv, hp, hst.1, fun i _ => hst.2 i, fun i hi => ?_⟩
 have hlt := planS_lt hv hrm hwk hi
 obtain ⟨k, hk⟩ := Int.eq_ofNat_of_zero_le (hst.2 i).1
 have hk2 : k < 200 := by omega
 have h1 := plan_runs hok (fun p hp => ((roomB_facts hrm).2 p hp).1) hwk k hk2
 refine ⟨fun q hq => planS_needs hv hrm hwk hi q hq, ?_, fun p hp3 => ?_⟩
 ·
  rw [hk, plan_run_at hk2]
  exact h1.1
 ·
  rw [hk, plan_run_at hk2]
  exact h1.2 p hp3
theorem plan_busy {g : List Tk} (hv : specValid g = true) {rm : List Int} {wk : Int} (hp : placeB rm wk = true) {t : Nat} (ht : (t : Int) < endS g (planS g rm wk) g.length) : runS g (planS g rm wk) t ≠ [] := by
 obtain ⟨hrm, hwk, _⟩ := placeB_facts hp
 have hok := specValid_TOk hv
 have hT := timeS_bound hok
 have hend := endS_le hT.1 g.length (planS_ends hv hrm hwk)
 have ht2 : t < 200 := by omega
 have hL := (planL_ok g rm wk t (by omega)).1
 have hn : ∃ i, i < g.length ∧ ¬ (planL g rm wk t).getD i 0 + (rdTk g i).f0 ≤ (t : Int) := by
  by_cases hex : ∃ i, i < g.length ∧ ¬ (planL g rm wk t).getD i 0 + (rdTk g i).f0 ≤ (t : Int)
  ·
   exact hex
  ·
   exfalso
   have hall : ∀ i, i < g.length → (planS g rm wk).getD i 0 + (rdTk g i).f0 ≤ (t : Int) := fun i hi => by
    have h1 : (planL g rm wk t).getD i 0 + (rdTk g i).f0 ≤ (t : Int) := by
     by_cases h : (planL g rm wk t).getD i 0 + (rdTk g i).f0 ≤ (t : Int)
     ·
      exact h
     ·
      exact absurd ⟨i, hi, h⟩ hex
    have h2 := hok.2.1 i
    rw [planL_final (k := t) (by omega) (by omega)]
    exact h1
   have := endS_le (E := (t : Int)) (by omega) g.length hall
   omega
 obtain ⟨i, hi, h1, h2⟩ := plan_moves hv hrm hwk ht2 hL (planL_before g rm wk t (by omega)) hn
 rw [plan_run_at ht2]
 exact List.ne_nil_of_mem (mem_runS.2 ⟨hi, h1, h2⟩)
theorem sumTo_cap {f : Nat → Int} {b : Int} (hb : 0 ≤ b) : ∀ m : Nat, (∀ t, t < m → f t ≤ b) → sumTo f m ≤ m * b
 | 0, _ => by simp [sumTo]
 | m + 1, h => by
  have h1 := sumTo_cap hb m (fun t ht => h t (by omega))
  have h2 := h m (by omega)
  unfold sumTo
  rw [show ((m + 1 : Nat) : Int) = (m : Int) + 1 from by omega, Int.add_mul]
  omega
theorem Valid.work {g : List Tk} {rm : List Int} {wk : Int} {st : List Int} (h : Valid g rm wk st) : timeS g ≤ endS g st g.length * wk ∧ ∀ p : Nat, p < 3 → sumTo (fun i => if (rdTk g i).f2 = p then (rdTk g i).f0 * (rdTk g i).f3 else 0) g.length ≤ endS g st g.length * rm.getD p 0 := by
 obtain ⟨m, hm⟩ := Int.eq_ofNat_of_zero_le (endS_nonneg g st g.length)
 have hall : ∀ i, i < g.length → st.getD i 0 + (rdTk g i).f0 ≤ (m : Int) := fun i hi => by
  have := endS_mono g st i _ hi
  omega
 have h0 : ∀ i, i < g.length → 0 ≤ st.getD i 0 := fun i hi => (h.b i hi).1
 obtain ⟨hrm, hwk, _⟩ := placeB_facts h.p
 rw [hm]
 refine ⟨?_, fun p hp => ?_⟩
 ·
  rw [← run_sum h.ok h0 hall]
  exact sumTo_cap (by omega) m (fun t _ => (h.runs t).1)
 ·
  rw [← run_used h.ok h0 hall]
  exact sumTo_cap (by have := ((roomB_facts hrm).2 p hp).1; omega) m (fun t _ => (h.runs t).2 p hp)
theorem plan_one {g : List Tk} (hv : specValid g = true) {rm : List Int} (hrm : roomB rm = true) : endS g (planS g rm 1) g.length = timeS g := by
 have hok := specValid_TOk hv
 have hp : placeB rm 1 = true := by unfold placeB; rw [hrm]; rfl
 have h1 := (plan_valid hv hp).work.1
 have h2 := endS_le (timeS_bound hok).1 g.length (planS_ends hv hrm (Int.le_refl 1))
 omega
end Go.Proofs.YtkljcdghbefceaaGreatDoor

namespace Go.Proofs.YtkljcdghbefceaaGreatDoor
set_option linter.unusedVariables false
set_option linter.unusedSimpArgs false
open Go.RowKit Go.Shelf Bits
open Go.Proofs.YtkljcdghbefceaaGreatDoorW.PrintWords Go.Proofs.YtkljcdghbefceaaGreatDoorW.PrintLast Go.Proofs.YtkljcdghbefceaaGreatDoorW.PrintMore
set_option maxRecDepth 1000000 in
set_option maxHeartbeats 8000000 in
theorem down_calls (h : Nat) (B : Option Nat) (T : List Int) (L : List Nat) (i0 n c0 : Nat) (hn : n ≤ L.length) (hi : i0 < L.length) (hc : n ≤ i0 + c0) (h16 : L.length ≤ 1000) (hT : ∀ x ∈ L, x < T.length) (w : World) (hR : RankAt w h B T L) :
  Calls Tryz.prog 88 #[.iface 110 (.pointer (some ⟨h, 0, none⟩)), .int .i64 i0, .int .i64 n] w fun e w' => ∃ b, e = .returned (.bool b) ∧ RankAt w' h B T (downL T c0 L i0 n) ∧ KeepBut w w' h B ∧ Below h w w' := by
 have mL := mLess h
 have mS := mSwap h
 have HT := Lib.hid hT
 have HN := Lib.hid hn
 have HI := Lib.hid hi
 have HC := Lib.hid hc
 have HRR := Lib.hid hR
 clear hR hT hn hi hc
 go_enter Tryz.func88, Tryz.ntmps88
 go_wp2
 go_loopw [7] (fun v wr => ∃ (i c : Nat) (M : List Nat), v = .int .i64 i ∧ n ≤ i + c ∧ i < M.length ∧ Hid (M.length = L.length ∧ (∀ x ∈ M, x < T.length) ∧ downL T c M i n = downL T c0 L i0 n ∧ RankAt wr h B T M ∧ KeepBut w wr h B ∧ Below h w wr)) (fun v _ => n - (intOf v).toNat)
 case atStart => exact ⟨i0, c0, L, rfl, HC.out, HI.out, Lib.hid ⟨rfl, HT.out, rfl, HRR.out, KeepBut.refl _ _ _, Below.refl _ _⟩⟩
 case round =>
  obtain ⟨i, c, M, rfl, hic, hiM, HX⟩ := hrel
  have hM := HX.out.1
  have hnL := HN.out
  by_cases h1 : 2 * i + 1 < n
  ·
   obtain ⟨c, rfl⟩ : ∃ c', c = c' + 1 := ⟨c - 1, by omega⟩
   have e1 : ((2 * i + 1 : Nat) : Int) = 2 * (i : Int) + 1 := by omega
   have e2 : ((2 * i + 2 : Nat) : Int) = 2 * (i : Int) + 1 + 1 := by omega
   have d1 : decide (2 * (i : Int) + 1 ≥ (n : Int)) = false := decide_eq_false (by omega)
   have d0 : decide (2 * (i : Int) + 1 < 0) = false := decide_eq_false (by omega)
   by_cases h2 : 2 * i + 2 < n
   ·
    have d2 : decide (2 * (i : Int) + 1 + 1 < (n : Int)) = true := decide_eq_true (by omega)
    cases hl1 : lessB T (M.getD (2 * i + 2) 0) (M.getD (2 * i + 1) 0) with
    | true =>
     cases hl2 : lessB T (M.getD (2 * i + 2) 0) (M.getD i 0) with
     | false =>
      have hch : childL T M i n = 2 * i + 2 := by unfold childL; rw [if_pos ⟨h2, hl1⟩]
      have L1 := Lib.hid (fun (W : World) (hW : RankAt W h B T M) => Less_calls h B T M (2 * i + 2) (2 * i + 1) (by omega) (by omega) HX.out.2.1 W hW)
      rw [hl1, e2, e1] at L1
      have L2 := Lib.hid (fun (W : World) (hW : RankAt W h B T M) => Less_calls h B T M (2 * i + 2) i (by omega) (by omega) HX.out.2.1 W hW)
      rw [hl2, e2] at L2
      have HE : Hid (downL T (c + 1) M i n = M) := Lib.hid (by
       conv => lhs; unfold downL
       rw [if_neg (by omega), hch, hl2]
       rfl)
      have R0 := HX.out.2.2.2.1
      clear hl1 hl2 hch
      go_wp2_with (first | (go_at_call 124; with_reducible refine (L1.out _ R0).mono ?_; rintro e w' ⟨rfl, q1, rfl⟩; have R1 := R0.drewN q1) | (go_at_call 124; with_reducible refine (L2.out _ R1).mono ?_; rintro e w' ⟨rfl, q2, rfl⟩; have R2 := R0.drewN (q1 + q2)))
      go_ret
      obtain ⟨_, _, x3, _, x5, x6⟩ := HX.out
      rw [← x3, HE.out]
      exact ⟨_, rfl, R2, keep_drewN x5 _, pw_below_drewN x6 _⟩
     | true =>
      have hch : childL T M i n = 2 * i + 2 := by unfold childL; rw [if_pos ⟨h2, hl1⟩]
      have L1 := Lib.hid (fun (W : World) (hW : RankAt W h B T M) => Less_calls h B T M (2 * i + 2) (2 * i + 1) (by omega) (by omega) HX.out.2.1 W hW)
      rw [hl1, e2, e1] at L1
      have L2 := Lib.hid (fun (W : World) (hW : RankAt W h B T M) => Less_calls h B T M (2 * i + 2) i (by omega) (by omega) HX.out.2.1 W hW)
      rw [hl2, e2] at L2
      have SW := Lib.hid (fun (W : World) (hW : RankAt W h B T M) => Swap_calls h B T M i (2 * i + 2) (by omega) (by omega) W hW)
      rw [e2] at SW
      have HE : Hid (downL T (c + 1) M i n = downL T c (swapL M i (2 * i + 2)) (2 * i + 2) n) := Lib.hid (by
       conv => lhs; unfold downL
       rw [if_neg (by omega), hch, hl2]
       rfl)
      have R0 := HX.out.2.2.2.1
      clear hl1 hl2 hch
      go_wp2_with (first | (go_at_call 124; with_reducible refine (L1.out _ R0).mono ?_; rintro e w' ⟨rfl, q1, rfl⟩; have R1 := R0.drewN q1) | (go_at_call 124; with_reducible refine (L2.out _ R1).mono ?_; rintro e w' ⟨rfl, q2, rfl⟩; have R2 := R0.drewN (q1 + q2)) | (go_at_call 127; with_reducible refine (SW.out _ R2).mono ?_; rintro e w2 ⟨rfl, hR2, hK2, hB2⟩))
      go_roundw
      case rel =>
       obtain ⟨x1, x2, x3, x4, x5, x6⟩ := HX.out
       exact ⟨2 * i + 2, c, swapL M i (2 * i + 2), by go_num, by omega, by rw [length_swapL]; omega, Lib.hid ⟨by rw [length_swapL]; exact x1, fun x hx => x2 x (mem_swapL (by omega) (by omega) hx), by rw [← x3, HE.out], hR2, (keep_drewN x5 (q1 + q2)).trans hK2 (.inl rfl), (pw_below_drewN x6 (q1 + q2)).trans hB2⟩⟩
      case measure => simp [intOf]; omega
    | false =>
     cases hl2 : lessB T (M.getD (2 * i + 1) 0) (M.getD i 0) with
     | false =>
      have hch : childL T M i n = 2 * i + 1 := by unfold childL; rw [if_neg (fun h => by rw [hl1] at h; exact absurd h.2 (by decide))]
      have L1 := Lib.hid (fun (W : World) (hW : RankAt W h B T M) => Less_calls h B T M (2 * i + 2) (2 * i + 1) (by omega) (by omega) HX.out.2.1 W hW)
      rw [hl1, e2, e1] at L1
      have L2 := Lib.hid (fun (W : World) (hW : RankAt W h B T M) => Less_calls h B T M (2 * i + 1) i (by omega) (by omega) HX.out.2.1 W hW)
      rw [hl2, e1] at L2
      have HE : Hid (downL T (c + 1) M i n = M) := Lib.hid (by
       conv => lhs; unfold downL
       rw [if_neg (by omega), hch, hl2]
       rfl)
      have R0 := HX.out.2.2.2.1
      clear hl1 hl2 hch
      go_wp2_with (first | (go_at_call 124; with_reducible refine (L1.out _ R0).mono ?_; rintro e w' ⟨rfl, q1, rfl⟩; have R1 := R0.drewN q1) | (go_at_call 124; with_reducible refine (L2.out _ R1).mono ?_; rintro e w' ⟨rfl, q2, rfl⟩; have R2 := R0.drewN (q1 + q2)))
      go_ret
      obtain ⟨_, _, x3, _, x5, x6⟩ := HX.out
      rw [← x3, HE.out]
      exact ⟨_, rfl, R2, keep_drewN x5 _, pw_below_drewN x6 _⟩
     | true =>
      have hch : childL T M i n = 2 * i + 1 := by unfold childL; rw [if_neg (fun h => by rw [hl1] at h; exact absurd h.2 (by decide))]
      have L1 := Lib.hid (fun (W : World) (hW : RankAt W h B T M) => Less_calls h B T M (2 * i + 2) (2 * i + 1) (by omega) (by omega) HX.out.2.1 W hW)
      rw [hl1, e2, e1] at L1
      have L2 := Lib.hid (fun (W : World) (hW : RankAt W h B T M) => Less_calls h B T M (2 * i + 1) i (by omega) (by omega) HX.out.2.1 W hW)
      rw [hl2, e1] at L2
      have SW := Lib.hid (fun (W : World) (hW : RankAt W h B T M) => Swap_calls h B T M i (2 * i + 1) (by omega) (by omega) W hW)
      rw [e1] at SW
      have HE : Hid (downL T (c + 1) M i n = downL T c (swapL M i (2 * i + 1)) (2 * i + 1) n) := Lib.hid (by
       conv => lhs; unfold downL
       rw [if_neg (by omega), hch, hl2]
       rfl)
      have R0 := HX.out.2.2.2.1
      clear hl1 hl2 hch
      go_wp2_with (first | (go_at_call 124; with_reducible refine (L1.out _ R0).mono ?_; rintro e w' ⟨rfl, q1, rfl⟩; have R1 := R0.drewN q1) | (go_at_call 124; with_reducible refine (L2.out _ R1).mono ?_; rintro e w' ⟨rfl, q2, rfl⟩; have R2 := R0.drewN (q1 + q2)) | (go_at_call 127; with_reducible refine (SW.out _ R2).mono ?_; rintro e w2 ⟨rfl, hR2, hK2, hB2⟩))
      go_roundw
      case rel =>
       obtain ⟨x1, x2, x3, x4, x5, x6⟩ := HX.out
       exact ⟨2 * i + 1, c, swapL M i (2 * i + 1), by go_num, by omega, by rw [length_swapL]; omega, Lib.hid ⟨by rw [length_swapL]; exact x1, fun x hx => x2 x (mem_swapL (by omega) (by omega) hx), by rw [← x3, HE.out], hR2, (keep_drewN x5 (q1 + q2)).trans hK2 (.inl rfl), (pw_below_drewN x6 (q1 + q2)).trans hB2⟩⟩
      case measure => simp [intOf]; omega
   ·
    have d2 : decide (2 * (i : Int) + 1 + 1 < (n : Int)) = false := decide_eq_false (by omega)
    cases hl2 : lessB T (M.getD (2 * i + 1) 0) (M.getD i 0) with
    | false =>
     have hch : childL T M i n = 2 * i + 1 := by unfold childL; rw [if_neg (fun h => h2 h.1)]
     have L2 := Lib.hid (fun (W : World) (hW : RankAt W h B T M) => Less_calls h B T M (2 * i + 1) i (by omega) (by omega) HX.out.2.1 W hW)
     rw [hl2, e1] at L2
     have HE : Hid (downL T (c + 1) M i n = M) := Lib.hid (by
      conv => lhs; unfold downL
      rw [if_neg (by omega), hch, hl2]
      rfl)
     have R0 := HX.out.2.2.2.1
     clear hl2 hch
     go_wp2_with (go_at_call 124; with_reducible refine (L2.out _ R0).mono ?_; rintro e w' ⟨rfl, q2, rfl⟩; have R2 := R0.drewN q2)
     go_ret
     obtain ⟨_, _, x3, _, x5, x6⟩ := HX.out
     rw [← x3, HE.out]
     exact ⟨_, rfl, R2, keep_drewN x5 _, pw_below_drewN x6 _⟩
    | true =>
     have hch : childL T M i n = 2 * i + 1 := by unfold childL; rw [if_neg (fun h => h2 h.1)]
     have L2 := Lib.hid (fun (W : World) (hW : RankAt W h B T M) => Less_calls h B T M (2 * i + 1) i (by omega) (by omega) HX.out.2.1 W hW)
     rw [hl2, e1] at L2
     have SW := Lib.hid (fun (W : World) (hW : RankAt W h B T M) => Swap_calls h B T M i (2 * i + 1) (by omega) (by omega) W hW)
     rw [e1] at SW
     have HE : Hid (downL T (c + 1) M i n = downL T c (swapL M i (2 * i + 1)) (2 * i + 1) n) := Lib.hid (by
      conv => lhs; unfold downL
      rw [if_neg (by omega), hch, hl2]
      rfl)
     have R0 := HX.out.2.2.2.1
     clear hl2 hch
     go_wp2_with (first | (go_at_call 124; with_reducible refine (L2.out _ R0).mono ?_; rintro e w' ⟨rfl, q2, rfl⟩; have R2 := R0.drewN q2) | (go_at_call 127; with_reducible refine (SW.out _ R2).mono ?_; rintro e w2 ⟨rfl, hR2, hK2, hB2⟩))
     go_roundw
     case rel =>
      obtain ⟨x1, x2, x3, x4, x5, x6⟩ := HX.out
      exact ⟨2 * i + 1, c, swapL M i (2 * i + 1), by go_num, by omega, by rw [length_swapL]; omega, Lib.hid ⟨by rw [length_swapL]; exact x1, fun x hx => x2 x (mem_swapL (by omega) (by omega) hx), by rw [← x3, HE.out], hR2, (keep_drewN x5 q2).trans hK2 (.inl rfl), (pw_below_drewN x6 q2).trans hB2⟩⟩
     case measure => simp [intOf]; omega
  ·
   have d1 : decide (2 * (i : Int) + 1 ≥ (n : Int)) = true := decide_eq_true (by omega)
   have HE : Hid (downL T c M i n = M) := Lib.hid (by
    cases c with
    | zero => rfl
    | succ c =>
     unfold downL
     rw [if_pos (by omega)])
   go_wp2
   go_ret
   obtain ⟨_, _, x3, x4, x5, x6⟩ := HX.out
   rw [← x3, HE.out]
   exact ⟨_, rfl, x4, x5, x6⟩
end Go.Proofs.YtkljcdghbefceaaGreatDoor

namespace Go.Proofs.YtkljcdghbefceaaGreatDoorW.PrintWords
set_option linter.unusedVariables false
set_option linter.unusedSimpArgs false
open Go Go.RowKit
namespace Kd
section
variable {α : Type} {d : Kd α} {e base g n cap : Nat} {ok ok' oki okp : Nat → Prop} {W : World} {v : Value} {xs : List α} {i : Int} {c : List Value}
theorem H_N (h : H d e W base ok v xs i oki c) (h0 : 0 ≤ i) (hi : i.toNat < xs.length) {x' : α} (hF : FK d W okp x' c) (hp : ∀ k, okp k → ok' k ∧ some k ≠ v.ownBlock) (ho : ∀ k, ok k → ok' k) : N d e W base ok' v (xs.set i.toNat x') := by
 obtain ⟨hoo, f, hown, inner, hw, hr⟩ := h
 rw [List.length_zipIdx] at hw
 have hraw := reps_raw hr (fun x cs hq => ⟨(gap f d i.toNat c).K_len ((gap f d i.toNat c).K_of_M hq), (gap f d i.toNat c).K_one ((gap f d i.toNat c).K_of_M hq)⟩)
 rw [List.length_zipIdx] at hraw
 refine ⟨fun k hk => ho k (hown k hk).1, chunks d.sz xs.length inner, by rw [chunks_length, List.length_set], ⟨fun k hk => hk.symm, inner, by rw [chunks_length]; exact hw, hraw⟩, fun j x cs hx hc => ?_⟩
 have hj : j < xs.length := by have := (List.getElem?_eq_some_iff.1 hx).1; rwa [List.length_set] at this
 have hM := hr.2 j _ (zip_at (List.getElem?_eq_getElem hj))
 rw [chunks_get hc]
 by_cases he : j = i.toNat
 ·
  subst he
  rw [List.getElem?_set_self hj] at hx
  injection hx with hx
  subst hx
  have e9 : (inner.drop (i.toNat * d.sz)).take d.sz = c := (hM.1 rfl).1
  rw [e9]
  exact FK_mono hF hp
 ·
  rw [List.getElem?_set_ne (fun e_ => he e_.symm), List.getElem?_eq_getElem hj] at hx
  injection hx with hx
  subst hx
  exact FK_mono (FK_of_M (hM.2 he)) (fun k hk => ⟨ho k hk.1.1.1, hk.1.2⟩)
theorem H_lt9 (h : H d e W base ok (.slice (some ⟨g, 0, none⟩) n cap) xs i oki c) : g < W.heap.size := by
 obtain ⟨_, f, hR⟩ := h
 exact R_lt hR g (by simp [Value.ownBlock])
end
end Kd
end Go.Proofs.YtkljcdghbefceaaGreatDoorW.PrintWords

namespace Go.Proofs.YtkljcdghbefceaaGreatDoor
set_option linter.unusedVariables false
set_option linter.unusedSimpArgs false
open Go.RowKit Go.Shelf Bits
open Go.Proofs.YtkljcdghbefceaaGreatDoorW.PrintWords Go.Proofs.YtkljcdghbefceaaGreatDoorW.PrintLast Go.Proofs.YtkljcdghbefceaaGreatDoorW.PrintMore
def push_T : Bool × List (List Nat × List Nat) := (true, [([], []), ([], []), ([1], [1]), ([2], [2]), ([3], [3]), ([], []), ([5], [5]), ([6], [6]), ([4, 7], [4, 7]), ([0, 0, 1, 2, 3, 4, 5, 6, 7, 8], [0]), ([9, 0, 1, 2, 3, 4, 5, 6, 7, 8], [9]), ([10, 8, 8, 0, 1, 2, 3, 4, 5, 6, 7, 8], [8, 10])])
def push_B : List Nat := [0, 0, 2, 6, 14, 0, 32, 96, 254, 511, 1023, 2047]
theorem push_tab : rtab .any (opsOf Tryz.f126 0) = push_T := by kernel_rfl
theorem push_bits : waitsOk push_T.2 push_B = true := by kernel_rfl
theorem ta (x : Nat) : ∀ w, Sem.run Tryz.prog (Instr.typeAssert (.iface 3 (.int .i64 (x : Int))) 20 3 false) w = .ok (.int .i64 (x : Int)) w := fun _ => by kernel_rfl
set_option maxHeartbeats 8000000 in
set_option maxRecDepth 100000 in
theorem Push_walk (h : Nat) (L : List Nat) (x : Nat) (A : Option Addr) (c : Nat) (h16 : L.length ≤ 1000) (w : World) (hlt : h + 1 ≤ w.heap.size) (hRL : Kd.R (Kd.int .i64) 3 w (h + 1) (fun _ => True) (.slice A (ints L).length c) (ints L))
  (hx : w.cell? ⟨h, 1, none⟩ = some (.slice A L.length c)) (hf : w.frozen? ⟨h, 1, none⟩ = false) :
  Calls Tryz.prog 126 #[.pointer (some ⟨h, 0, none⟩), .iface 3 (.int .i64 x)] w fun e w' => e = .returned (.tuple #[]) ∧ ∃ w2 w3 v, w' = w3.setCell ⟨h, 1, none⟩ v ∧ Kd.R (Kd.int .i64) 3 w3 (h + 1) (fun _ => True) v (ints L ++ [(x : Int)]) ∧
   Below w.heap.size w w2 ∧ Below (h + 1) w w3 ∧ w2.grownBy w3 (Value.slice A (ints L).length c).ownBlock ∧ (v.ownBlock = (Value.slice A (ints L).length c).ownBlock ∨ ∃ b, v.ownBlock = some b ∧ w2.heap.size ≤ b) := by
 have HRL := Lib.hid hRL
 have HLT := Lib.hid hlt
 clear hRL
 go_enter Tryz.func126, Tryz.ntmps126
 have TA := ta x
 go_wp2
 refine start_ (n := 12) (S := fun w' => w'.cell? ⟨h, 1, none⟩ = some (.slice A L.length c)) (ds := [8, 11]) #[false, false, false, false, false, false, false, false, false, false, false, false] (by kernel_rfl) rfl rfl hx (fun hHeld => ?_)
 refine with_tabW push_tab push_bits (fun HT_ HW_ => ?_)
 generalize hw1 : w.drew = w1 at hHeld ⊢
 have HW1 := Lib.hid hw1
 clear hw1
 refine pure_ (i := 0) (N := some 4) (v := ?_) (a' := ?_) #[true, false, false, false, false, false, false, false, false, false, false, false] rfl rfl (any_of HT_.out (by kernel_rfl)) (fun _ _ _ h => h) (Or.inl ⟨by rfl, ?_⟩) ?_ ?_
 rotate_left
 ·
  intro w'
  go_simp
  with_reducible rfl
 rotate_left
 ·
  simp only [Act.put, List.setIfInBounds_toArray, List.set_cons_zero, List.set_cons_succ]
  rfl
 refine pure_ (i := 1) (N := some 5) (v := ?_) (a' := ?_) #[true, true, false, false, false, false, false, false, false, false, false, false] rfl rfl (any_of HT_.out (by kernel_rfl)) (fun _ _ _ h => h) (Or.inl ⟨by rfl, ?_⟩) ?_ ?_
 rotate_left
 ·
  intro w'
  go_simp
  with_reducible rfl
 rotate_left
 ·
  simp only [Act.put, List.setIfInBounds_toArray, List.set_cons_zero, List.set_cons_succ]
  rfl
 refine pure_ (i := 2) (N := some 6) (v := ?_) (a' := ?_) #[true, true, true, false, false, false, false, false, false, false, false, false] rfl rfl (any_of HT_.out (by kernel_rfl)) (fun _ _ _ h => h) (Or.inl ⟨by rfl, ?_⟩) ?_ ?_
 rotate_left
 ·
  intro w'
  go_simp
  with_reducible rfl
 rotate_left
 ·
  simp only [Act.put, List.setIfInBounds_toArray, List.set_cons_zero, List.set_cons_succ]
  rfl
 refine pure_ (i := 3) (N := some 7) (v := ?_) (a' := ?_) #[true, true, true, true, false, false, false, false, false, false, false, false] rfl rfl (any_of HT_.out (by kernel_rfl)) (fun _ _ _ h => h) (Or.inl ⟨by rfl, ?_⟩) ?_ ?_
 rotate_left
 ·
  intro w'
  go_simp
  with_reducible rfl
 rotate_left
 ·
  simp only [Act.put, List.setIfInBounds_toArray, List.set_cons_zero, List.set_cons_succ]
  rfl
 refine take_ (i := 4) (N := some 8) (v := ?_) (a' := ?_) #[true, true, true, true, true, false, false, false, false, false, false, false] rfl rfl (take_ofW HT_.out HW_.out (by kernel_rfl)) (fun _ _ _ h => h) (Or.inl ⟨by rfl, ?_⟩) hHeld ?_ ?_
 rotate_left
 ·
  intro w' s0
  go_simp
  with_reducible rfl
 rotate_left
 ·
  simp only [Act.put, List.setIfInBounds_toArray, List.set_cons_zero, List.set_cons_succ]
  rfl
 refine pure_ (i := 5) (N := some 9) (v := ?_) (a' := ?_) #[true, true, true, true, true, true, false, false, false, false, false, false] rfl rfl (any_of HT_.out (by kernel_rfl)) (fun _ _ _ h => h) (Or.inl ⟨by rfl, ?_⟩) ?_ ?_
 rotate_left
 ·
  intro w'
  go_simp
  with_reducible rfl
 rotate_left
 ·
  simp only [Act.put, List.setIfInBounds_toArray, List.set_cons_zero, List.set_cons_succ]
  rfl
 refine pure_ (i := 6) (N := some 10) (v := ?_) (a' := ?_) #[true, true, true, true, true, true, true, false, false, false, false, false] rfl rfl (any_of HT_.out (by kernel_rfl)) (fun _ _ _ h => h) (Or.inl ⟨by rfl, ?_⟩) ?_ ?_
 rotate_left
 ·
  intro w'
  go_simp
  with_reducible rfl
 rotate_left
 ·
  simp only [Act.put, List.setIfInBounds_toArray, List.set_cons_zero, List.set_cons_succ]
  rfl
 refine one_ (i := 7) (N := some 11) #[true, true, true, true, true, true, true, true, false, false, false, false] rfl rfl (one_of HT_.out (by kernel_rfl)) (by decide) (fun K hK => ?_)
 refine Kd.R_lit_step (Kd.int .i64) _ 3 ?hg (N := 11) ?hd (xs := ([(x : Int)] : List Int)) (inner := [.int .i64 x]) (ok := fun _ => True) (okp := fun _ => True) ?hr ?hp (fun _ hk => hk) trivial (Below.refl _ _) (Nat.le_refl _) (by simp) ?_
 case hd => rfl
 case hg => rfl
 case hr => first | (go_simp; done) | (go_simp; rfl)
 case hp => exact (Reps.one (show Kd.M (Kd.int .i64) _ _ _ (x : Int) [.int .i64 x] from rfl) (Reps.none _ _))
 intro v11 w2 ho hb _ _
 have HS0_ := (hb.cell (World.block_lt_of_cell? _ _ hHeld)).trans hHeld
 obtain ⟨A11, c11, rfl⟩ := Kd.R_slice ho
 have HR11 := Lib.hid ho
 have hB1 : Below w.heap.size w w1 := by rw [← HW1.out]; exact below_drew1 (Below.refl _ _)
 have hB2 : Below w.heap.size w w2 := hB1.trans (hb.mono hB1.size)
 have HB2 := Lib.hid hB2
 have HR2 := Lib.hid (Kd.R_below HRL.out hB2)
 clear ho hb hB1 hB2
 refine hK.out _ _ HS0_ (fun hHeld => ?_)
 clear hK K
 refine norm_ (a' := ?_) ?_ ?_
 rotate_left
 ·
  show Act.put _ (some 11) _ = _
  simp only [Act.put, List.setIfInBounds_toArray, List.set_cons_zero, List.set_cons_succ]
  rfl
 refine last_ (i := 8) (N := some 12) #[true, true, true, true, true, true, true, true, true, false, false, false] rfl rfl (one_of HT_.out (by kernel_rfl)) (by decide) (fun K hK => ?_)
 refine Kd.R_append_rows_step (Kd.int .i64) (Rr := (Kd.int .i64).K w2) (w0 := w) (h + 1) (by rfl) (.tmp 8) (.tmp 11) 24 3 (.int .i64 0) 8 rfl Tryz.underlying24 infoInt rfl (by decide) (by omega) (.slice A (ints L).length c) (ints L) [(x : Int)] A11 1 c11 (fun _ => True) (fun _ => False) ?q1 ?q2 ?q3 ?q4 (fun _ _ h => h) (fun _ h => h.elim) (fun _ _ => trivial) ?q8 ?q9 ?q10 ?_
 case q1 => rw [ints_length]; rfl
 case q2 => rfl
 case q3 => exact HR2.out
 case q4 => exact (Kd.R_reads' HR11.out).2.2
 case q8 => exact HB2.out.mono HLT.out
 case q9 => exact Nat.le_trans HLT.out HB2.out.size
 case q10 => rw [ints_length]; omega
 intro v12 w3 ho hb hg hat
 obtain ⟨A12, c12, rfl⟩ := Kd.R_slice ho
 have HR3 := Lib.hid ho
 have HB3 := Lib.hid hb
 have HG3 := Lib.hid hg
 have HAT := Lib.hid hat
 have hne : (Value.slice A (ints L).length c).ownBlock ≠ some h := fun e => by
  have := Kd.R_base HRL.out h e
  omega
 have hblk : w3.heap[h]? = w.heap[h]? := (hg.block h (Nat.lt_of_lt_of_le HLT.out HB2.out.size) (fun e => hne e.symm)).trans (HB2.out.block h HLT.out)
 have hx3 : w3.cell? ⟨h, 1, none⟩ = some (.slice A L.length c) := by simp only [World.cell?, hblk]; exact hx
 have hf3 : w3.frozen? ⟨h, 1, none⟩ = false := by simp only [World.frozen?, hblk]; exact hf
 clear ho hb hg hat hne hHeld
 refine hK.out _ _ ?_
 clear hK K
 refine norm_ (a' := ?_) ?_ ?_
 rotate_left
 ·
  show Act.put _ (some 12) _ = _
  simp only [Act.put, List.setIfInBounds_toArray, List.set_cons_zero, List.set_cons_succ]
  rfl
 refine pure_ (i := 9) (N := some 13) (v := ?_) (a' := ?_) #[true, true, true, true, true, true, true, true, true, true, false, false] rfl rfl (any_of HT_.out (by kernel_rfl)) (fun _ _ _ h => h) (Or.inl ⟨by rfl, ?_⟩) ?_ ?_
 rotate_left
 ·
  intro w'
  go_simp
  with_reducible rfl
 rotate_left
 ·
  simp only [Act.put, List.setIfInBounds_toArray, List.set_cons_zero, List.set_cons_succ]
  rfl
 refine pure_ (i := 10) (N := some 14) (v := ?_) (a' := ?_) #[true, true, true, true, true, true, true, true, true, true, true, false] rfl rfl (any_of HT_.out (by kernel_rfl)) (fun _ _ _ h => h) (Or.inl ⟨by rfl, ?_⟩) ?_ ?_
 rotate_left
 ·
  intro w'
  go_simp
  with_reducible rfl
 rotate_left
 ·
  simp only [Act.put, List.setIfInBounds_toArray, List.set_cons_zero, List.set_cons_succ]
  rfl
 refine last_ (i := 11) (N := none) #[true, true, true, true, true, true, true, true, true, true, true, true] rfl rfl (one_of HT_.out (by kernel_rfl)) (by decide) (fun K hK => ?_)
 refine skip_ (w1 := w3.setCell ⟨h, 1, none⟩ (.slice A12 (ints L ++ [(x : Int)]).length c12)) (by rfl) rfl ?_ ?_
 ·
  first | (go_simp; done) | (go_simp; rfl)
 refine hK.out _ _ ?_
 clear hK K
 refine done_ (done_of HT_.out (by kernel_rfl)) ?_
 try go_wp2
 go_end0
 exact ⟨rfl, w2, w3, _, rfl, HR3.out, HB2.out, HB3.out, HG3.out, HAT.out⟩
end Go.Proofs.YtkljcdghbefceaaGreatDoor
