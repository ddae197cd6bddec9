/- Parts of the proof, laid as one text by a program of mine. -/
import Derived.Test.YtkljcdghbefceaaGreatDoorKbtc13
import Derived.Test.YtkljcdghbefceaaGreatDoorKbtc15
import Derived.Test.YtkljcdghbefceaaGreatDoorKbtc4
import Derived.Test.YtkljcdghbefceaaGreatDoorKbtc11
import Derived.Test.YtkljcdghbefceaaGreatDoorKbtc5
namespace Go.Proofs.YtkljcdghbefceaaGreatDoor
set_option linter.unusedVariables false
set_option linter.unusedSimpArgs false
open Go.RowKit Go.Shelf Bits
def laterN (d : Int) (st : List Int) (j : Nat) : List Int := (st.take j).map fun x => x + d
theorem laterN_len {d : Int} {st : List Int} {j : Nat} (h : j ≤ st.length) : (laterN d st j).length = j := by
 unfold laterN
 rw [List.length_map, List.length_take]
 omega
theorem laterN_get {d : Int} {st : List Int} {i j : Nat} (hi : i < j) (hj : j ≤ st.length) : (laterN d st j).getD i 0 = st.getD i 0 + d := by
 unfold laterN
 rw [List.getD_eq_getElem?_getD, List.getElem?_map, List.getElem?_take_of_lt hi, List.getD_eq_getElem?_getD, List.getElem?_eq_getElem (by omega)]
 rfl
theorem laterN_snoc {d : Int} {st : List Int} {j : Nat} (hj : j < st.length) : laterN d st (j + 1) = laterN d st j ++ [st.getD j 0 + d] := by
 unfold laterN
 rw [List.take_succ_eq_append_getElem hj, List.map_append, List.getD_eq_getElem?_getD, List.getElem?_eq_getElem hj]
 rfl
theorem later_valid {g : List Tk} {rm : List Int} {wk : Int} {st : List Int} {d : Int} (h : Valid g rm wk st) (hd : 0 ≤ d) (hs : ∀ k, k < st.length → st.getD k 0 + d ≤ 200) : Valid g rm wk (laterN d st st.length) := by
 refine valid_shift (d := d) h (by rw [laterN_len (Nat.le_refl _)]; exact h.len) (fun i hi => laterN_get (by rw [h.len]; exact hi) (Nat.le_refl _)) (fun i hi => ?_)
 have hil : i < st.length := by rw [h.len]; exact hi
 rw [laterN_get hil (Nat.le_refl _)]
 have := h.b i hi
 have := hs i hil
 omega
theorem later_end {g : List Tk} {rm : List Int} {wk : Int} {st : List Int} {d : Int} (h : Valid g rm wk st) (hd : 0 ≤ d) (hs : ∀ k, k < st.length → st.getD k 0 + d ≤ 200) (hn : 0 < g.length) : etS g rm wk (laterN d st st.length) = etS g rm wk st + d := by
 have h' := later_valid h hd hs
 unfold etS
 rw [if_pos (valid_vSt h), if_pos (valid_vSt h')]
 exact end_shift h h' hn (fun i hi => laterN_get (by rw [h.len]; exact hi) (Nat.le_refl _))
theorem large_valid {g : List Tk} {rm : List Int} {wk : Int} {st : List Int} (h : Valid g rm wk st) : Valid g (List.replicate rm.length 8) 4 st := by
 obtain ⟨h1, h2, h3⟩ := placeB_facts h.p
 obtain ⟨h4, h5⟩ := roomB_facts h1
 rw [h4]
 refine valid_more h (by decide) h3 (fun p hp => ?_)
 have := (h5 p hp).2
 have e : (List.replicate 3 (8 : Int)).getD p 0 = 8 := by
  rcases p with _ | _ | _ | p
  ·
   rfl
  ·
   rfl
  ·
   rfl
  ·
   omega
 omega
theorem rep_snoc (n : Nat) (x : Int) : List.replicate (n + 1) x = List.replicate n x ++ [x] := List.replicate_succ'
theorem etS_valid {g : List Tk} {rm : List Int} {wk : Int} {st : List Int} (h : Valid g rm wk st) : etS g rm wk st = endS g st g.length := by
 unfold etS
 rw [if_pos (valid_vSt h)]
theorem etS_no {g : List Tk} {rm : List Int} {wk : Int} {st : List Int} (h : vStB g rm wk st = false) : etS g rm wk st = -1 := by
 unfold etS
 rw [h]
 rfl
theorem etS_cases (g : List Tk) (rm : List Int) (wk : Int) (st : List Int) : (etS g rm wk st = -1 ∧ vStB g rm wk st = false) ∨ (0 ≤ etS g rm wk st ∧ Valid g rm wk st) := by
 cases h : vStB g rm wk st with
 | false => exact .inl ⟨etS_no h, rfl⟩
 | true =>
  refine .inr ⟨?_, vSt_valid h⟩
  rw [etS_valid (vSt_valid h)]
  exact endS_nonneg _ _ _
theorem etS_bound (g : List Tk) (rm : List Int) (wk : Int) (st : List Int) : -1 ≤ etS g rm wk st ∧ etS g rm wk st ≤ 1020 := by
 cases h : vStB g rm wk st with
 | false => rw [etS_no h]; omega
 | true =>
  have hv := vSt_valid h
  rw [etS_valid hv]
  have := endS_bound hv.ok hv.sok g.length
  omega
def someEnd (g : List Tk) (st : List Int) (n : Int) (j : Nat) : Bool := (List.range j).any fun i => st.getD i 0 + (rdTk g i).f0 == n
theorem someEnd_snoc (g : List Tk) (st : List Int) (n : Int) (j : Nat) : someEnd g st n (j + 1) = (someEnd g st n j || (st.getD j 0 + (rdTk g j).f0 == n)) := by
 unfold someEnd
 rw [List.range_succ, List.any_append]
 simp
theorem someEnd_all {g : List Tk} {rm : List Int} {wk : Int} {st : List Int} (h : Valid g rm wk st) (hn : 0 < g.length) : someEnd g st (etS g rm wk st) g.length = true := by
 rw [etS_valid h]
 obtain ⟨i, hi, he⟩ := h.end_some hn
 unfold someEnd
 rw [List.any_eq_true]
 exact ⟨i, List.mem_range.2 hi, by rw [beq_iff_eq]; exact he⟩
theorem end_ge {g : List Tk} {st : List Int} : ∀ n i, i < n → st.getD i 0 + (rdTk g i).f0 ≤ endS g st n
 | n + 1, i, hi => by
  unfold endS
  by_cases h : i = n
  ·
   subst h
   exact Int.le_max_right _ _
  ·
   exact Int.le_trans (end_ge n i (by omega)) (Int.le_max_left _ _)
theorem etS_ge {g : List Tk} {rm : List Int} {wk : Int} {st : List Int} (h : Valid g rm wk st) {i : Nat} (hi : i < g.length) : st.getD i 0 + (rdTk g i).f0 ≤ etS g rm wk st := by
 rw [etS_valid h]
 exact end_ge _ i hi
theorem mdS_never {g : List Tk} {rm : List Int} {wk : Int} {st : List Int} (h : Valid g rm wk st) : mdS g rm wk st 0 = decide (g.length = 0) := by
 unfold mdS
 rw [valid_vSt h]
 by_cases hg : g.length = 0
 ·
  rw [hg, decide_eq_true rfl]
  rfl
 ·
  have := h.end_pos (by omega)
  rw [decide_eq_false hg, decide_eq_false (show ¬ endS g st g.length ≤ 0 by omega)]
  rfl
theorem mdS_is {g : List Tk} {rm : List Int} {wk : Int} {st : List Int} (h : Valid g rm wk st) {dl : Int} (hd : 0 ≤ dl ∧ dl ≤ 200) : mdS g rm wk st dl = decide (etS g rm wk st ≤ dl) := by
 unfold mdS
 rw [valid_vSt h, inB_true.2 hd, etS_valid h]
 rfl
theorem caS_no {g : List Tk} {rm : List Int} {wk : Int} {st : List Int} {now : Int} (h : (vStB g rm wk st && inB now 0 200) = false) : caS g rm wk st now = [] := by
 unfold caS
 rw [h]
 rfl
theorem caS_yes {g : List Tk} {rm : List Int} {wk : Int} {st : List Int} {now : Int} (h : Valid g rm wk st) (hn : 0 ≤ now ∧ now ≤ 200) : caS g rm wk st now = (List.range g.length).map (cancF g st now) := by
 unfold caS
 rw [valid_vSt h, inB_true.2 hn]
 rfl
theorem caS_cases (g : List Tk) (rm : List Int) (wk : Int) (st : List Int) (now : Int) : caS g rm wk st now = [] ∨ (Valid g rm wk st ∧ (0 ≤ now ∧ now ≤ 200) ∧ caS g rm wk st now = (List.range g.length).map (cancF g st now)) := by
 cases h : (vStB g rm wk st && inB now 0 200) with
 | false => exact .inl (caS_no h)
 | true =>
  rw [Bool.and_eq_true] at h
  exact .inr ⟨vSt_valid h.1, inB_true.1 h.2, caS_yes (vSt_valid h.1) (inB_true.1 h.2)⟩
theorem canc_len (F : Nat → Int) (n : Nat) : ((List.range n).map F).length = n := by simp
theorem cancF_bound (g : List Tk) (st : List Int) (now : Int) (i : Nat) : 0 ≤ cancF g st now i ∧ cancF g st now i ≤ 3 := by
 unfold cancF
 split
 ·
  omega
 ·
  split <;> omega
theorem canc_row_bound (g : List Tk) (st : List Int) (now : Int) (i : Nat) : 0 ≤ ((List.range g.length).map (cancF g st now)).getD i 0 ∧ ((List.range g.length).map (cancF g st now)).getD i 0 ≤ 1000 := by
 by_cases h : i < g.length
 ·
  rw [caS_get h]
  have := cancF_bound g st now i
  omega
 ·
  rw [getD_out (by rw [canc_len]; exact h)]
  omega
theorem canc_needs {g : List Tk} {rm : List Int} {wk : Int} {st : List Int} (h : Valid g rm wk st) {now : Int} {i : Nat} (hi : i < g.length) (hc : cancF g st now i ≠ 3) {x : Int} (hx : x ∈ (rdTk g i).f1) : cancF g st now x.toNat = 0 := by
 have hs : st.getD i 0 < now := by
  apply Classical.byContradiction
  intro hn
  exact hc ((canc_left h.ok hi).2 (by omega))
 have hx0 := spec_needs_in h.v i hi x hx
 have := h.needs i hi x.toNat (by rw [Int.toNat_of_nonneg hx0.1]; exact hx)
 exact canc_done.2 (by omega)
theorem canc_end {g : List Tk} {rm : List Int} {wk : Int} {st : List Int} (h : Valid g rm wk st) {i : Nat} (hi : i < g.length) : cancF g st (etS g rm wk st) i = 0 := canc_done.2 (etS_ge h hi)
theorem canc_zero {g : List Tk} {rm : List Int} {wk : Int} {st : List Int} (h : Valid g rm wk st) {i : Nat} (hi : i < g.length) : cancF g st 0 i = 3 := (canc_left h.ok hi).2 (h.b i hi).1
theorem canc_more {g : List Tk} (hok : TOk g) {st : List Int} {now : Int} {i : Nat} (hi : i < g.length) : (cancF g st now i = 0 → cancF g st (now + 1) i = 0) ∧ (cancF g st now i = 1 → cancF g st (now + 1) i ≠ 3) ∧ (cancF g st now i = 0 ∨ cancF g st now i = 1 ∨ cancF g st now i = 3) := by
 refine ⟨fun h => ?_, fun h => ?_, ?_⟩
 ·
  have := canc_done.1 h
  exact canc_done.2 (by omega)
 ·
  have := (canc_failed.1 h).1
  intro h3
  have := (canc_left hok hi).1 h3
  omega
 ·
  unfold cancF
  split
  ·
   exact .inl rfl
  ·
   split
   ·
    exact .inr (.inl rfl)
   ·
    exact .inr (.inr rfl)
end Go.Proofs.YtkljcdghbefceaaGreatDoor

namespace Go.Proofs.YtkljcdghbefceaaGreatDoor
set_option linter.unusedVariables false
set_option linter.unusedSimpArgs false
open Go.RowKit Go.Shelf Bits
theorem pS_yes {g : List Tk} {rm : List Int} {wk : Int} (h : pS g rm wk ≠ []) : specValid g = true ∧ placeB rm wk = true ∧ pS g rm wk = planS g rm wk ∧ 0 < g.length := by
 unfold pS at h ⊢
 by_cases hc : (specValid g && placeB rm wk) = true
 ·
  rw [if_pos hc] at h ⊢
  rw [Bool.and_eq_true] at hc
  refine ⟨hc.1, hc.2, rfl, ?_⟩
  rw [← (planS_ok g rm wk).1]
  exact List.length_pos_iff.2 h
 ·
  rw [if_neg hc] at h
  exact absurd rfl h
theorem pS_is {g : List Tk} {rm : List Int} {wk : Int} (hv : specValid g = true) (hp : placeB rm wk = true) : pS g rm wk = planS g rm wk := by
 unfold pS
 rw [hv, hp]
 rfl
theorem placeB_one {rm : List Int} {wk : Int} (h : placeB rm wk = true) : placeB rm 1 = true := by
 unfold placeB
 rw [(placeB_facts h).1]
 rfl
theorem mem_getD0 {l : List Int} {i : Nat} (h : i < l.length) {x : Int} (e : l.getD i 0 = x) : x ∈ l := by
 rw [List.getD_eq_getElem?_getD, List.getElem?_eq_getElem h] at e
 rw [← e]
 exact List.getElem_mem h
theorem plan_law {g : List Tk} {rm : List Int} {wk : Int} (h : pS g rm wk ≠ []) : Valid g rm wk (pS g rm wk) ∧ (0 : Int) ∈ pS g rm wk := by
 obtain ⟨hv, hp, he, hg⟩ := pS_yes h
 rw [he]
 obtain ⟨h1, h2, _⟩ := placeB_facts hp
 obtain ⟨y, _, _, hy, h0⟩ := first_zero hv h1 h2 hg
 exact ⟨plan_valid hv hp, mem_getD0 (by rw [(planS_ok g rm wk).1]; exact hy) h0⟩
theorem plan_one_law {g : List Tk} {rm : List Int} {wk : Int} (h : pS g rm wk ≠ []) : etS g rm 1 (pS g rm 1) = timeS g := by
 obtain ⟨hv, hp, _, hg⟩ := pS_yes h
 have hp1 := placeB_one hp
 rw [pS_is hv hp1, etS_valid (plan_valid hv hp1)]
 exact plan_one hv (placeB_facts hp).1
theorem plan_twice_law {g : List Tk} {rm : List Int} {wk : Int} (h : pS g rm wk ≠ []) : etS g rm wk (pS g rm wk) ≤ timeS g ∧ longestN g ≤ etS g rm wk (pS g rm wk) := by
 obtain ⟨hv, hp, he, hg⟩ := pS_yes h
 obtain ⟨h1, h2, _⟩ := placeB_facts hp
 have hV := plan_valid hv hp
 rw [he, etS_valid hV]
 exact ⟨endS_le (timeS_bound (specValid_TOk hv)).1 _ (planS_ends hv h1 h2), longest_le hv (fun i hi => (hV.b i hi).1) (fun k hk i hi => hV.needs k hk i hi)⟩
theorem plan_busy_law {g : List Tk} {rm : List Int} {wk : Int} (h : pS g rm wk ≠ []) (t : Nat) (ht : (t : Int) < etS g rm wk (pS g rm wk)) : (ints (raS g rm wk (pS g rm wk) t)).length ≠ 0 := by
 obtain ⟨hv, hp, he, hg⟩ := pS_yes h
 have hV := plan_valid hv hp
 rw [he, etS_valid hV] at ht
 rw [he, ints_length]
 unfold raS
 rw [if_pos (valid_vSt hV)]
 exact fun e => plan_busy hv hp ht (List.eq_nil_of_length_eq_zero e)
theorem firstN_is {P : Nat → Bool} : ∀ f n, firstN P f n = -1 ∨ ∃ m : Nat, firstN P f n = m ∧ n ≤ m ∧ m < n + f ∧ P m = true ∧ ∀ k, n ≤ k → k < m → P k = false
 | 0, n => .inl rfl
 | f + 1, n => by
  unfold firstN
  cases hp : P n with
  | true => exact .inr ⟨n, rfl, Nat.le_refl _, by omega, hp, fun k h1 h2 => by omega⟩
  | false =>
   rcases firstN_is (P := P) f (n + 1) with h | ⟨m, h1, h2, h3, h4, h5⟩
   ·
    exact .inl h
   ·
    refine .inr ⟨m, h1, by omega, by omega, h4, fun k hk hm => ?_⟩
    by_cases e : k = n
    ·
     rw [e]; exact hp
    ·
     exact h5 k (by omega) hm
theorem wf_law {g : List Tk} {rm : List Int} {dl : Int} (h : 0 ≤ wfS g rm dl) : ∃ m : Nat, wfS g rm dl = m ∧ 1 ≤ m ∧ m ≤ 4 ∧ ∀ k : Nat, 1 ≤ k → k ≤ m → mdS g rm k (pS g rm k) dl = decide (k = m) := by
 unfold wfS at h ⊢
 by_cases hc : (specValid g && (roomB rm && inB dl 0 200)) = true
 ·
  rw [if_pos hc] at h ⊢
  simp only [Bool.and_eq_true] at hc
  obtain ⟨hv, hrm, hd⟩ := hc
  rcases firstN_is (P := meetsB g rm dl) 4 1 with e | ⟨m, h1, h2, h3, h4, h5⟩
  ·
   omega
  ·
   refine ⟨m, h1, h2, by omega, fun k hk hkm => ?_⟩
   have hp : placeB rm (k : Int) = true := by
    unfold placeB
    rw [hrm, Bool.true_and]
    exact inB_true.2 (by omega)
   have hV := plan_valid hv hp
   rw [pS_is hv hp]
   unfold mdS
   rw [valid_vSt hV, hd, Bool.true_and, Bool.true_and]
   show meetsB g rm dl k = _
   by_cases e : k = m
   ·
    rw [decide_eq_true e, e, h4]
   ·
    rw [decide_eq_false e, h5 k hk (by omega)]
 ·
  rw [if_neg hc] at h
  omega
end Go.Proofs.YtkljcdghbefceaaGreatDoor

namespace Go.Proofs.YtkljcdghbefceaaGreatDoor
set_option linter.unusedVariables false
set_option linter.unusedSimpArgs false
open Go.RowKit Go.Shelf Bits
def sumK (g : List Tk) (l : List Nat) : Int := (l.map fun i => (rdTk g i).f0).sum
theorem sumK_snoc (g : List Tk) (l : List Nat) (i : Nat) : sumK g (l ++ [i]) = sumK g l + (rdTk g i).f0 := by
 unfold sumK
 rw [List.map_append, List.sum_append]
 simp
theorem sumK_bound {g : List Tk} (htm : ∀ i, 0 ≤ (rdTk g i).f0 ∧ (rdTk g i).f0 ≤ 20) : ∀ l : List Nat, 0 ≤ sumK g l ∧ sumK g l ≤ 20 * l.length
 | [] => ⟨Int.le_refl _, by show (0 : Int) ≤ _; simp⟩
 | i :: l => by
  have ih := sumK_bound htm l
  have h := htm i
  have e : sumK g (i :: l) = (rdTk g i).f0 + sumK g l := by unfold sumK; simp
  rw [e, List.length_cons]
  omega
def fitAt (g : List Tk) (rm : List Int) (wk : Int) (st : List Int) (i : Nat) (t : Int) : Bool := decide (((runS g st t).length : Int) < wk) && decide (usedS g (runS g st t) (rdTk g i).f2 + (rdTk g i).f3 ≤ rm.getD (rdTk g i).f2.toNat 0)
def fitB (g : List Tk) (rm : List Int) (wk : Int) (st : List Int) (i : Nat) (now : Nat) : Bool := (List.range (rdTk g i).f0.toNat).all fun d => fitAt g rm wk st i ((now + d : Nat) : Int)
def baseN (g : List Tk) (st : List Int) (nd : List Int) : Nat → Int
 | 0 => 0
 | j + 1 => max (baseN g st nd j) (st.getD (nd.getD j 0).toNat 0 + (rdTk g (nd.getD j 0).toNat).f0)
def baseS (g : List Tk) (st : List Int) (i : Nat) : Int := baseN g st (rdTk g i).f1 (rdTk g i).f1.length
def firstFit (P : Nat → Bool) : Nat → Nat → Nat
 | 0, n => n
 | f + 1, n => if P n then n else firstFit P f (n + 1)
def placeS (g : List Tk) (rm : List Int) (wk : Int) (st : List Int) (i : Nat) : Nat := firstFit (fitB g rm wk st i) 200 (baseS g st i).toNat
def ordSt (g : List Tk) (rm : List Int) (wk : Int) (st : List Int) (i : Nat) : List Int := st.set i (placeS g rm wk st i : Nat)
def ordL (g : List Tk) (rm : List Int) (wk : Int) (l : List Nat) : Nat → List Int
 | 0 => List.replicate g.length 200
 | j + 1 => ordSt g rm wk (ordL g rm wk l j) (l.getD j 0)
theorem firstFit_spec {P : Nat → Bool} {m : Nat} (hm : P m = true) : ∀ f n, n ≤ m → m < n + f → n ≤ firstFit P f n ∧ firstFit P f n ≤ m ∧ P (firstFit P f n) = true ∧ ∀ k, n ≤ k → k < firstFit P f n → P k = false
 | 0, n, h1, h2 => by omega
 | f + 1, n, h1, h2 => by
  unfold firstFit
  cases hp : P n with
  | true => exact ⟨Nat.le_refl _, h1, hp, fun k hk1 hk2 => by simp only [if_true] at hk2; omega⟩
  | false =>
   have hne : n ≠ m := fun e => by rw [e, hm] at hp; cases hp
   obtain ⟨r1, r2, r3, r4⟩ := firstFit_spec hm f (n + 1) (by omega) (by omega)
   simp only [Bool.false_eq_true, if_false]
   refine ⟨by omega, r2, r3, fun k hk1 hk2 => ?_⟩
   by_cases e : k = n
   ·
    rw [e]; exact hp
   ·
    exact r4 k (by omega) hk2
theorem baseN_le {g : List Tk} {st : List Int} {nd : List Int} {B : Int} (hB : 0 ≤ B) : ∀ j, j ≤ nd.length → (∀ x ∈ nd, st.getD x.toNat 0 + (rdTk g x.toNat).f0 ≤ B) → baseN g st nd j ≤ B
 | 0, _, _ => hB
 | j + 1, hj, h => by
  have ih := baseN_le hB j (by omega) h
  have hm : nd.getD j 0 ∈ nd := by
   rw [List.getD_eq_getElem?_getD, List.getElem?_eq_getElem (by omega)]
   exact List.getElem_mem _
  have := h _ hm
  unfold baseN
  omega
theorem baseN_ge {g : List Tk} {st : List Int} {nd : List Int} {q : Nat} : ∀ j, q < j → st.getD (nd.getD q 0).toNat 0 + (rdTk g (nd.getD q 0).toNat).f0 ≤ baseN g st nd j
 | 0, h => absurd h (Nat.not_lt_zero _)
 | j + 1, h => by
  unfold baseN
  by_cases e : q = j
  ·
   subst e
   omega
  ·
   have := baseN_ge (g := g) (st := st) (nd := nd) (q := q) j (by omega)
   omega
theorem baseN_nonneg (g : List Tk) (st : List Int) (nd : List Int) : ∀ j, 0 ≤ baseN g st nd j
 | 0 => Int.le_refl _
 | j + 1 => by
  have := baseN_nonneg g st nd j
  unfold baseN
  omega
theorem baseS_ge {g : List Tk} {st : List Int} {i : Nat} {x : Int} (hx : x ∈ (rdTk g i).f1) : st.getD x.toNat 0 + (rdTk g x.toNat).f0 ≤ baseS g st i := by
 obtain ⟨q, hq, e⟩ := List.getElem_of_mem hx
 have := baseN_ge (g := g) (st := st) (nd := (rdTk g i).f1) (q := q) (rdTk g i).f1.length hq
 rw [List.getD_eq_getElem?_getD (l := (rdTk g i).f1), List.getElem?_eq_getElem hq, e] at this
 exact this
theorem sumTo_upd {f h : Nat → Int} {i : Nat} : ∀ n, i < n → (∀ k, k < n → k ≠ i → f k = h k) → sumTo f n = sumTo h n + (f i - h i)
 | 0, hi, _ => absurd hi (Nat.not_lt_zero _)
 | n + 1, hi, he => by
  unfold sumTo
  by_cases e : i = n
  ·
   subst e
   have : sumTo f i = sumTo h i := sumTo_congr i (fun k hk => he k (by omega) (by omega))
   omega
  ·
   have ih := sumTo_upd (f := f) (h := h) (i := i) n (by omega) (fun k hk hn => he k (by omega) hn)
   have := he n (by omega) (fun e2 => e e2.symm)
   omega
theorem runB_upd {g : List Tk} {st : List Int} {i k : Nat} {r t : Int} (h : k ≠ i) : runB g (st.set i r) t k = runB g st t k := by
 rw [Bool.eq_iff_iff, runB_iff, runB_iff, getD_setL, if_neg (fun e => h e.1)]
theorem run_set {g : List Tk} {st : List Int} {i : Nat} {r t : Int} (hi : i < g.length) (hl : st.length = g.length) (hn : runB g st t i = false) :
  (((runS g (st.set i r) t).length : Nat) : Int) = ((runS g st t).length : Nat) + (if r ≤ t ∧ t < r + (rdTk g i).f0 then 1 else 0) ∧ ∀ p : Int, usedS g (runS g (st.set i r) t) p = usedS g (runS g st t) p + (if r ≤ t ∧ t < r + (rdTk g i).f0 then (if (rdTk g i).f2 = p then (rdTk g i).f3 else 0) else 0) := by
 have hb : runB g (st.set i r) t i = true ↔ r ≤ t ∧ t < r + (rdTk g i).f0 := by
  rw [runB_iff, getD_setL, if_pos ⟨rfl, by rw [hl]; exact hi⟩]
 unfold runS
 constructor
 ·
  rw [← sumTo_count, ← sumTo_count, sumTo_upd (i := i) g.length hi (fun k _ hk => by rw [runB_upd hk]), hn]
  by_cases hc : r ≤ t ∧ t < r + (rdTk g i).f0
  ·
   rw [if_pos hc, if_pos (hb.2 hc)]
   simp
  ·
   rw [if_neg hc, if_neg (fun h => hc (hb.1 h))]
   simp
 ·
  intro p
  rw [← sumTo_used, ← sumTo_used, sumTo_upd (i := i) g.length hi (fun k _ hk => by rw [runB_upd hk]), hn]
  by_cases hc : r ≤ t ∧ t < r + (rdTk g i).f0
  ·
   rw [if_pos hc, hb.2 hc]
   by_cases hp : (rdTk g i).f2 = p
   ·
    simp [hp]
   ·
    simp [hp]
  ·
   rw [if_neg hc]
   have : runB g (st.set i r) t i = false := by
    cases h : runB g (st.set i r) t i with
    | false => rfl
    | true => exact absurd (hb.1 h) hc
   rw [this]
   simp
structure Part (g : List Tk) (rm : List Int) (wk : Int) (l : List Nat) (st : List Int) : Prop where
 len : st.length = g.length
 yes : ∀ i ∈ l, i < g.length ∧ 0 ≤ st.getD i 0 ∧ st.getD i 0 + (rdTk g i).f0 ≤ sumK g l
 no : ∀ i, i < g.length → ¬ i ∈ l → st.getD i 0 = 200
 run : ∀ t : Int, t < 200 → ((runS g st t).length : Int) ≤ wk ∧ ∀ p : Nat, p < 3 → usedS g (runS g st t) p ≤ rm.getD p 0
 ned : ∀ i ∈ l, ∀ x ∈ (rdTk g i).f1, x.toNat ∈ l ∧ st.getD x.toNat 0 + (rdTk g x.toNat).f0 ≤ st.getD i 0
theorem Part.idle {g : List Tk} {rm : List Int} {wk : Int} {l : List Nat} {st : List Int} (hok : TOk g) (h : Part g rm wk l st) {t : Int} (ht : sumK g l ≤ t) (h2 : t < 200) : runS g st t = [] := by
 unfold runS
 rw [List.filter_eq_nil_iff]
 intro i hi hr
 have hi := List.mem_range.1 hi
 have hr := runB_iff.1 hr
 by_cases hm : i ∈ l
 ·
  have := (h.yes i hm).2.2
  omega
 ·
  have := h.no i hi hm
  omega
theorem sumK_app (g : List Tk) (l : List Nat) (i : Nat) : sumK g (l ++ [i]) = sumK g l + (rdTk g i).f0 := sumK_snoc g l i
theorem nodup_len {l : List Nat} {n : Nat} (hn : l.Nodup) (hl : ∀ i ∈ l, i < n) : l.length ≤ n := nodup_below hn hl
theorem Part.small {g : List Tk} {rm : List Int} {wk : Int} {l : List Nat} {st : List Int} (hok : TOk g) (h : Part g rm wk l st) (hn : l.Nodup) : 0 ≤ sumK g l ∧ sumK g l ≤ 160 := by
 have h1 := nodup_len hn (fun i hi => (h.yes i hi).1)
 have h2 := sumK_bound (g := g) hok.2.1 l
 have := hok.1
 omega
theorem fitB_at {g : List Tk} {rm : List Int} {wk : Int} {st : List Int} {i now : Nat} (h : fitB g rm wk st i now = true) {t : Int} (h1 : (now : Int) ≤ t) (h2 : t < (now : Int) + (rdTk g i).f0) : fitAt g rm wk st i t = true := by
 unfold fitB at h
 rw [List.all_eq_true] at h
 have := h (t - now).toNat (List.mem_range.2 (by omega))
 rwa [show ((now + (t - now).toNat : Nat) : Int) = t by omega] at this
theorem fitAt_iff {g : List Tk} {rm : List Int} {wk : Int} {st : List Int} {i : Nat} {t : Int} : fitAt g rm wk st i t = true ↔ ((runS g st t).length : Int) < wk ∧ usedS g (runS g st t) (rdTk g i).f2 + (rdTk g i).f3 ≤ rm.getD (rdTk g i).f2.toNat 0 := by
 unfold fitAt
 rw [Bool.and_eq_true, decide_eq_true_iff, decide_eq_true_iff]
theorem Part.end_fits {g : List Tk} {rm : List Int} {wk : Int} {l : List Nat} {st : List Int} (hok : TOk g) (hp : placeB rm wk = true) (h : Part g rm wk l st) (hn : l.Nodup) (i : Nat) : fitB g rm wk st i (sumK g l).toNat = true := by
 obtain ⟨hrm, hwk, _⟩ := placeB_facts hp
 have hs := h.small hok hn
 have ht := hok.2.1 i
 unfold fitB
 rw [List.all_eq_true]
 intro d hd
 have hd := List.mem_range.1 hd
 rw [fitAt_iff, h.idle hok (by omega) (by omega)]
 have hu := hok.2.2.2.1 i
 have hpl := hok.2.2.1 i
 have hr := (roomB_facts hrm).2 (rdTk g i).f2.toNat (by omega)
 refine ⟨by simp only [List.length_nil]; omega, ?_⟩
 show (0 : Int) + _ ≤ _
 omega
theorem Part.base_le {g : List Tk} {rm : List Int} {wk : Int} {l : List Nat} {st : List Int} (hok : TOk g) (h : Part g rm wk l st) (hn : l.Nodup) {i : Nat} (hned : ∀ x ∈ (rdTk g i).f1, x.toNat ∈ l) : baseS g st i ≤ sumK g l :=
 baseN_le (h.small hok hn).1 _ (Nat.le_refl _) (fun x hx => (h.yes _ (hned x hx)).2.2)
theorem Part.place {g : List Tk} {rm : List Int} {wk : Int} {l : List Nat} {st : List Int} (hok : TOk g) (hp : placeB rm wk = true) (h : Part g rm wk l st) (hn : l.Nodup) {i : Nat} (hned : ∀ x ∈ (rdTk g i).f1, x.toNat ∈ l) :
  baseS g st i ≤ (placeS g rm wk st i : Nat) ∧ ((placeS g rm wk st i : Nat) : Int) ≤ sumK g l ∧ fitB g rm wk st i (placeS g rm wk st i) = true ∧ ∀ k : Nat, baseS g st i ≤ k → k < placeS g rm wk st i → fitB g rm wk st i k = false := by
 have hs := h.small hok hn
 have hb := h.base_le hok hn hned
 have hb0 := baseN_nonneg g st (rdTk g i).f1 (rdTk g i).f1.length
 have hb1 : 0 ≤ baseS g st i := hb0
 obtain ⟨r1, r2, r3, r4⟩ := firstFit_spec (h.end_fits hok hp hn i) 200 (baseS g st i).toNat (by omega) (by omega)
 refine ⟨?_, ?_, r3, fun k hk1 hk2 => r4 k (by omega) hk2⟩
 ·
  show baseS g st i ≤ ((firstFit (fitB g rm wk st i) 200 (baseS g st i).toNat : Nat) : Int)
  omega
 ·
  show ((firstFit (fitB g rm wk st i) 200 (baseS g st i).toNat : Nat) : Int) ≤ _
  omega
theorem Part.step {g : List Tk} {rm : List Int} {wk : Int} {l : List Nat} {st : List Int} (hok : TOk g) (hp : placeB rm wk = true) (h : Part g rm wk l st) (hn : l.Nodup) {i : Nat} (hi : i < g.length) (hni : ¬ i ∈ l) (hned : ∀ x ∈ (rdTk g i).f1, x.toNat ∈ l) : Part g rm wk (l ++ [i]) (ordSt g rm wk st i) := by
 obtain ⟨p1, p2, p3, _⟩ := h.place hok hp hn hned
 unfold ordSt
 generalize placeS g rm wk st i = r at p1 p2 p3
 have ht := hok.2.1 i
 have hget : ∀ k, (st.set i (r : Int)).getD k 0 = if k = i then (r : Int) else st.getD k 0 := fun k => by
  rw [getD_setL]
  by_cases e : k = i
  ·
   rw [if_pos ⟨e, by rw [h.len]; exact hi⟩, if_pos e]
  ·
   rw [if_neg (fun e2 => e e2.1), if_neg e]
 refine ⟨by rw [List.length_set]; exact h.len, fun k hk => ?_, fun k hk hk2 => ?_, fun t ht2 => ?_, fun k hk x hx => ?_⟩
 ·
  rw [sumK_app, hget]
  by_cases e : k = i
  ·
   subst e
   rw [if_pos rfl]
   exact ⟨hi, by omega, by omega⟩
  ·
   rw [if_neg e]
   rcases List.mem_append.1 hk with hk | hk
   ·
    have := h.yes k hk
    exact ⟨this.1, this.2.1, by omega⟩
   ·
    exact absurd (List.mem_singleton.1 hk) e
 ·
  rw [hget, if_neg (fun e => hk2 (by rw [e]; simp))]
  exact h.no k hk (fun hm => hk2 (List.mem_append_left _ hm))
 ·
  have hrun := h.run t ht2
  have hoff : runB g st t i = false := by
   cases hb : runB g st t i with
   | false => rfl
   | true =>
    have := runB_iff.1 hb
    have := h.no i hi hni
    omega
  obtain ⟨q1, q2⟩ := run_set (r := (r : Int)) hi h.len hoff
  by_cases hc : (r : Int) ≤ t ∧ t < r + (rdTk g i).f0
  ·
   have hf := fitAt_iff.1 (fitB_at p3 hc.1 hc.2)
   rw [if_pos hc] at q1
   refine ⟨by omega, fun p hp3 => ?_⟩
   rw [q2, if_pos hc]
   by_cases e : (rdTk g i).f2 = (p : Int)
   ·
    rw [if_pos e]
    have := hf.2
    rw [e, Int.toNat_natCast] at this
    exact this
   ·
    rw [if_neg e, Int.add_zero]
    exact hrun.2 p hp3
  ·
   rw [if_neg hc] at q1
   refine ⟨by omega, fun p hp3 => ?_⟩
   rw [q2, if_neg hc, Int.add_zero]
   exact hrun.2 p hp3
 ·
  by_cases e : k = i
  ·
   subst e
   have h1 := hned x hx
   refine ⟨List.mem_append_left _ h1, ?_⟩
   rw [hget, hget, if_neg (fun e2 => hni (by rw [← e2]; exact h1)), if_pos rfl]
   exact Int.le_trans (baseS_ge hx) p1
  ·
   rcases List.mem_append.1 hk with hk | hk
   ·
    obtain ⟨h1, h2⟩ := h.ned k hk x hx
    refine ⟨List.mem_append_left _ h1, ?_⟩
    rw [hget, hget, if_neg (fun e2 => hni (by rw [← e2]; exact h1)), if_neg e]
    exact h2
   ·
    exact absurd (List.mem_singleton.1 hk) e
structure IsOrd (g : List Tk) (l : List Nat) : Prop where
 len : l.length = g.length
 lt : ∀ i ∈ l, i < g.length
 nd : l.Nodup
 ned : ∀ j, j < l.length → ∀ x ∈ (rdTk g (l.getD j 0)).f1, x.toNat ∈ l.take j
theorem getD_mem {l : List Nat} {j : Nat} (h : j < l.length) : l.getD j 0 ∈ l := by
 rw [List.getD_eq_getElem?_getD, List.getElem?_eq_getElem h]
 exact List.getElem_mem _
theorem take_snocN {l : List Nat} {j : Nat} (h : j < l.length) : l.take (j + 1) = l.take j ++ [l.getD j 0] := by
 rw [List.take_succ_eq_append_getElem h, List.getD_eq_getElem?_getD, List.getElem?_eq_getElem h]
 rfl
theorem nodup_take {l : List Nat} {j : Nat} (hn : l.Nodup) (h : j < l.length) : (l.take j).Nodup ∧ ¬ l.getD j 0 ∈ l.take j := by
 have h1 : (l.take (j + 1)).Nodup := List.Pairwise.sublist (List.take_sublist _ _) hn
 rw [take_snocN h, List.nodup_append] at h1
 exact ⟨h1.1, fun hm => h1.2.2 _ hm _ (by simp) rfl⟩
theorem part_zero {g : List Tk} {rm : List Int} {wk : Int} (hp : placeB rm wk = true) : Part g rm wk [] (List.replicate g.length 200) := by
 obtain ⟨hrm, hwk, _⟩ := placeB_facts hp
 have hget : ∀ k, k < g.length → (List.replicate g.length (200 : Int)).getD k 0 = 200 := fun k hk => by
  rw [List.getD_eq_getElem?_getD, List.getElem?_replicate, if_pos hk]
  rfl
 refine ⟨by simp, fun i hi => absurd hi (by simp), fun i hi _ => hget i hi, fun t ht => ?_, fun i hi => absurd hi (by simp)⟩
 have : runS g (List.replicate g.length 200) t = [] := by
  unfold runS
  rw [List.filter_eq_nil_iff]
  intro i hi hr
  have := (runB_iff.1 hr).1
  rw [hget i (List.mem_range.1 hi)] at this
  omega
 rw [this]
 refine ⟨by simp only [List.length_nil]; omega, fun p hp3 => ?_⟩
 have := (roomB_facts hrm).2 p hp3
 show (0 : Int) ≤ _
 omega
theorem ord_part {g : List Tk} {rm : List Int} {wk : Int} {l : List Nat} (hok : TOk g) (hp : placeB rm wk = true) (h : IsOrd g l) : ∀ j, j ≤ l.length → Part g rm wk (l.take j) (ordL g rm wk l j)
 | 0, _ => part_zero hp
 | j + 1, hj => by
  have ih := ord_part hok hp h j (by omega)
  have hn := nodup_take h.nd (show j < l.length by omega)
  rw [take_snocN (by omega)]
  exact ih.step hok hp hn.1 (h.lt _ (getD_mem (by omega))) hn.2 (h.ned j (by omega))
theorem ord_all {g : List Tk} {l : List Nat} (h : IsOrd g l) {i : Nat} (hi : i < g.length) : i ∈ l := by
 by_cases hm : i ∈ l
 ·
  exact hm
 ·
  have := nodup_below (n := g.length) (l := i :: l) (List.nodup_cons.2 ⟨hm, h.nd⟩) (fun k hk => by
   rcases List.mem_cons.1 hk with rfl | hk
   ·
    exact hi
   ·
    exact h.lt k hk)
  rw [List.length_cons, h.len] at this
  omega
theorem sum_below {f : Nat → Int} (hf : ∀ i, 0 ≤ f i) : ∀ (n : Nat) (l : List Nat), l.Nodup → (∀ i ∈ l, i < n) → (l.map f).sum ≤ sumTo f n
 | 0, l, _, hl => by
  cases l with
  | nil => exact Int.le_refl _
  | cons a t => exact absurd (hl a List.mem_cons_self) (Nat.not_lt_zero _)
 | n + 1, l, hn, hl => by
  by_cases hm : n ∈ l
  ·
   have hp := List.perm_cons_erase hm
   have h1 := perm_sum (hp.map f)
   have h2 := sum_below hf n (l.erase n) (hn.erase n) (fun i hi => by
    have h3 := (List.Nodup.mem_erase_iff hn).1 hi
    have := hl i h3.2
    omega)
   rw [h1]
   unfold sumTo
   rw [List.map_cons, List.sum_cons]
   omega
  ·
   have h2 := sum_below hf n l hn (fun i hi => by
    have := hl i hi
    have : i ≠ n := fun e => hm (e ▸ hi)
    omega)
   have := hf n
   unfold sumTo
   omega
theorem ord_valid {g : List Tk} {rm : List Int} {wk : Int} {l : List Nat} (hv : specValid g = true) (hp : placeB rm wk = true) (h : IsOrd g l) : Valid g rm wk (ordL g rm wk l l.length) ∧ etS g rm wk (ordL g rm wk l l.length) ≤ timeS g := by
 have hok := specValid_TOk hv
 have hP := ord_part hok hp h l.length (Nat.le_refl _)
 rw [List.take_length] at hP
 have hsm := hP.small hok h.nd
 generalize ordL g rm wk l l.length = st at hP ⊢
 have hV : Valid g rm wk st := by
  refine ⟨hv, hp, hP.len, fun i hi => ?_, fun i hi => ?_⟩
  ·
   have h1 := hP.yes i (ord_all h hi)
   have := hok.2.1 i
   omega
  ·
   have h1 := hP.yes i (ord_all h hi)
   have ht := hok.2.1 i
   have ht1 := hok.2.2.2.2 i hi
   have hr := hP.run (st.getD i 0) (by omega)
   refine ⟨fun k hk => ?_, hr.1, hr.2⟩
   have := (hP.ned i (ord_all h hi) k hk).2
   rwa [Int.toNat_natCast] at this
 refine ⟨hV, ?_⟩
 rw [etS_valid hV]
 refine endS_le (timeS_bound hok).1 _ (fun i hi => ?_)
 have h1 := (hP.yes i (ord_all h hi)).2.2
 have h2 : sumK g l ≤ timeS g := sum_below (f := fun i => (rdTk g i).f0) (fun i => (hok.2.1 i).1) _ l h.nd h.lt
 omega
theorem sumTo_ltc {f h : Nat → Int} {c : Int} {i : Nat} : ∀ n, i < n → (∀ k, k < n → k ≠ i → f k ≤ h k) → f i + c ≤ h i → sumTo f n + c ≤ sumTo h n
 | 0, hi, _, _ => absurd hi (Nat.not_lt_zero _)
 | n + 1, hi, he, hc => by
  unfold sumTo
  by_cases e : i = n
  ·
   subst e
   have : sumTo f i ≤ sumTo h i := sumTo_le i (fun k hk => he k (by omega) (by omega))
   omega
  ·
   have ih := sumTo_ltc (f := f) (h := h) (c := c) (i := i) n (by omega) (fun k hk hn => he k (by omega) hn) hc
   have := he n (by omega) (fun e2 => e e2.symm)
   omega
theorem ord_dom {g : List Tk} {rm : List Int} {wk : Int} {l : List Nat} {s : List Int} (hs : Valid g rm wk s) (hs2 : ∀ i, i < g.length → s.getD i 0 + (rdTk g i).f0 ≤ 200) (h : IsOrd g l) (hord : ∀ j k, j < k → k < l.length → s.getD (l.getD j 0) 0 ≤ s.getD (l.getD k 0) 0) : ∀ j, j ≤ l.length → ∀ i ∈ l.take j, (ordL g rm wk l j).getD i 0 ≤ s.getD i 0
 | 0, _, i, hi => absurd hi (by simp)
 | j + 1, hj, i, hi => by
  have ih := ord_dom hs hs2 h hord j (by omega)
  have hP := ord_part hs.ok hs.p h j (by omega)
  have hn := nodup_take h.nd (show j < l.length by omega)
  have hm := h.lt _ (getD_mem (show j < l.length by omega))
  have hned := h.ned j (by omega)
  have hle : ∀ k ∈ l.take j, s.getD k 0 ≤ s.getD (l.getD j 0) 0 := fun k hk => by
   obtain ⟨q, hq, e⟩ := List.getElem_of_mem hk
   rw [List.length_take] at hq
   rw [List.getElem_take] at e
   have := hord q j (by omega) (by omega)
   rw [List.getD_eq_getElem?_getD (l := l) (i := q), List.getElem?_eq_getElem (by omega), Option.getD_some, e] at this
   exact this
  show ((ordL g rm wk l j).set (l.getD j 0) _).getD i 0 ≤ _
  rw [getD_setL]
  generalize ordL g rm wk l j = st at hP ih ⊢
  generalize hx : l.getD j 0 = x at hm hn hned hle ⊢
  rw [take_snocN (by omega), hx] at hi
  split
  ·
   rename_i hc
   rw [hc.1]
   obtain ⟨p1, p2, p3, p4⟩ := hP.place hs.ok hs.p hn.1 hned
   by_cases hlt : s.getD x 0 < ((placeS g rm wk st x : Nat) : Int)
   ·
    exfalso
    have hb0 := (hs.b x hm).1
    have hbase : baseS g st x ≤ s.getD x 0 := baseN_le hb0 _ (Nat.le_refl _) (fun y hy => by
     have hy0 := spec_needs_in hs.v x hm y hy
     have hyl := hned y hy
     have h1 := ih y.toNat hyl
     have h2 := hs.needs x hm y.toNat (by rw [Int.toNat_of_nonneg hy0.1]; exact hy)
     omega)
    have hf := p4 (s.getD x 0).toNat (by omega) (by omega)
    have ht : fitB g rm wk st x (s.getD x 0).toNat = true := by
     unfold fitB
     rw [List.all_eq_true]
     intro d hd
     have hd := List.mem_range.1 hd
     have htm := hs.ok.2.1 x
     have h200 := hs2 x hm
     have hr := hs.runs ((((s.getD x 0).toNat + d : Nat)) : Int)
     have e1 : ((((s.getD x 0).toNat + d : Nat)) : Int) = s.getD x 0 + d := by omega
     rw [fitAt_iff]
     rw [e1] at hr ⊢
     have hoff : runB g st (s.getD x 0 + d) x = false := by
      cases hb : runB g st (s.getD x 0 + d) x with
      | false => rfl
      | true =>
       have := runB_iff.1 hb
       have := hP.no x hm hn.2
       omega
     have hon : runB g s (s.getD x 0 + d) x = true := runB_iff.2 ⟨by omega, by omega⟩
     have hsub : ∀ k, k < g.length → runB g st (s.getD x 0 + d) k = true → runB g s (s.getD x 0 + d) k = true := fun k hk hb => by
      have hb := runB_iff.1 hb
      by_cases hkl : k ∈ l.take j
      ·
       have h1 := ih k hkl
       have h2 := hle k hkl
       exact runB_iff.2 ⟨by omega, by omega⟩
      ·
       have := hP.no k hk hkl
       omega
     have hpl := hs.ok.2.2.1 x
     constructor
     ·
      have h1 := sumTo_ltc (f := fun k => if runB g st (s.getD x 0 + d) k then 1 else 0) (h := fun k => if runB g s (s.getD x 0 + d) k then 1 else 0) (c := 1) (i := x) g.length hm (fun k hk _ => by
       show (if runB g st (s.getD x 0 + d) k then (1 : Int) else 0) ≤ (if runB g s (s.getD x 0 + d) k then 1 else 0)
       by_cases hb : runB g st (s.getD x 0 + d) k = true
       ·
        rw [if_pos hb, if_pos (hsub k hk hb)]
        exact Int.le_refl _
       ·
        rw [if_neg hb]
        split <;> omega) (by
       show (if runB g st (s.getD x 0 + d) x then (1 : Int) else 0) + 1 ≤ (if runB g s (s.getD x 0 + d) x then 1 else 0)
       rw [hoff, hon]
       decide)
      rw [sumTo_count, sumTo_count] at h1
      have h2 : (((runS g st (s.getD x 0 + d)).length : Nat) : Int) + 1 ≤ ((runS g s (s.getD x 0 + d)).length : Nat) := h1
      omega
     ·
      have hp3 : (rdTk g x).f2.toNat < 3 := by omega
      have h4 := hr.2 _ hp3
      rw [Int.toNat_of_nonneg hpl.1] at h4
      have h1 := sumTo_ltc (f := fun k => if runB g st (s.getD x 0 + d) k && decide ((rdTk g k).f2 = (rdTk g x).f2) then (rdTk g k).f3 else 0) (h := fun k => if runB g s (s.getD x 0 + d) k && decide ((rdTk g k).f2 = (rdTk g x).f2) then (rdTk g k).f3 else 0) (c := (rdTk g x).f3) (i := x) g.length hm (fun k hk _ => by
       show (if runB g st (s.getD x 0 + d) k && decide ((rdTk g k).f2 = (rdTk g x).f2) then (rdTk g k).f3 else 0) ≤ (if runB g s (s.getD x 0 + d) k && decide ((rdTk g k).f2 = (rdTk g x).f2) then (rdTk g k).f3 else 0)
       have hu := hs.ok.2.2.2.1 k
       by_cases hb : runB g st (s.getD x 0 + d) k = true
       ·
        rw [hb, hsub k hk hb]
        exact Int.le_refl _
       ·
        rw [if_neg (fun h => hb (Bool.and_eq_true _ _ ▸ h).1)]
        split <;> omega) (by
       show (if runB g st (s.getD x 0 + d) x && decide ((rdTk g x).f2 = (rdTk g x).f2) then (rdTk g x).f3 else 0) + (rdTk g x).f3 ≤ (if runB g s (s.getD x 0 + d) x && decide ((rdTk g x).f2 = (rdTk g x).f2) then (rdTk g x).f3 else 0)
       rw [hoff, hon]
       simp)
      rw [sumTo_used, sumTo_used] at h1
      have h2 : usedS g (runS g st (s.getD x 0 + d)) (rdTk g x).f2 + (rdTk g x).f3 ≤ usedS g (runS g s (s.getD x 0 + d)) (rdTk g x).f2 := h1
      omega
    rw [ht] at hf
    cases hf
   ·
    omega
  ·
   rename_i hc
   rcases List.mem_append.1 hi with hi | hi
   ·
    exact ih i hi
   ·
    exact absurd ⟨List.mem_singleton.1 hi, by rw [hP.len]; exact hm⟩ hc
end Go.Proofs.YtkljcdghbefceaaGreatDoor

namespace Go.Proofs.YtkljcdghbefceaaGreatDoor
set_option linter.unusedVariables false
set_option linter.unusedSimpArgs false
open Go.RowKit Go.Shelf Bits
open Go.Proofs.YtkljcdghbefceaaGreatDoorW.PrintWords Go.Proofs.YtkljcdghbefceaaGreatDoorW.PrintLast Go.Proofs.YtkljcdghbefceaaGreatDoorW.PrintMore
def usedOkB (g : List Tk) (rm : List Int) (run : List Nat) : Bool := (List.range 3).all fun p => decide (usedS g run (p : Nat) ≤ rm.getD p 0)
theorem vRunB_eq {g : List Tk} (hv : specValid g = true) {rm : List Int} (hrm : roomB rm = true) (st : List Int) (now : Int) : vRunB g rm (runS g st now) = usedOkB g rm (runS g st now) := by
 unfold vRunB usedOkB
 rw [hv, hrm, runS_in, show ascB (ints (runS g st now)) = true from ascB_filter _ _]
 rfl
end Go.Proofs.YtkljcdghbefceaaGreatDoor

namespace Go.Proofs.YtkljcdghbefceaaGreatDoor
set_option linter.unusedVariables false
set_option linter.unusedSimpArgs false
open Go.RowKit Go.Shelf Bits
open Go.Proofs.YtkljcdghbefceaaGreatDoorW.PrintWords Go.Proofs.YtkljcdghbefceaaGreatDoorW.PrintLast Go.Proofs.YtkljcdghbefceaaGreatDoorW.PrintMore
def RowV (W : World) (B m : Nat) (t : TypeId) (f : Nat → Value) : Prop := W.heap[B]? = some (.cells ((List.range m).map f).toArray t (0, 0))
theorem RowV.cell {W : World} {B m : Nat} {t : TypeId} {f : Nat → Value} (h : RowV W B m t f) {q : Nat} (hq : q < m) : W.cell? ⟨B, q, none⟩ = some (f q) := by
 rw [blk_cell h q]
 simp [hq]
theorem RowV.frozen {W : World} {B m : Nat} {t : TypeId} {f : Nat → Value} (h : RowV W B m t f) (q : Nat) : W.frozen? ⟨B, q, none⟩ = false := blk_frozen h q
theorem RowV.lt {W : World} {B m : Nat} {t : TypeId} {f : Nat → Value} (h : RowV W B m t f) : B < W.heap.size := blk_lt h
theorem RowV.congr {W : World} {B m : Nat} {t : TypeId} {f f' : Nat → Value} (h : RowV W B m t f) (he : ∀ q, q < m → f q = f' q) : RowV W B m t f' := by
 unfold RowV at h ⊢
 rw [h, List.map_congr_left (fun q hq => he q (List.mem_range.1 hq))]
theorem RowV.set {W : World} {B m : Nat} {t : TypeId} {f : Nat → Value} (h : RowV W B m t f) (q : Nat) (v : Value) : RowV (W.setCell ⟨B, q, none⟩ v) B m t (fun x => if x = q then v else f x) := by
 have hs := blk_set h q v
 unfold RowV
 rw [hs]
 congr 2
 have : ((List.range m).map f).set q v = (List.range m).map (fun x => if x = q then v else f x) := by
  apply List.ext_getElem (by simp)
  intro i h1 h2
  simp only [List.getElem_set, List.getElem_map, List.getElem_range]
  by_cases e : q = i
  ·
   rw [if_pos e, if_pos e.symm]
  ·
   rw [if_neg e, if_neg (fun e2 => e e2.symm)]
 rw [← this]
 simp
theorem RowV.far {W : World} {B m : Nat} {t : TypeId} {f : Nat → Value} (h : RowV W B m t f) {p : Addr} (hp : B ≠ p.block) (u : Value) : RowV (W.setCell p u) B m t f := blk_far h hp u
theorem RowV.below {W W' : World} {B m : Nat} {t : TypeId} {f : Nat → Value} (h : RowV W B m t f) (hb : Below W.heap.size W W') : RowV W' B m t f := (hb.block B (blk_lt h)).trans h
theorem RowV.block {W W' : World} {B m : Nat} {t : TypeId} {f : Nat → Value} (h : RowV W B m t f) (hb : W'.heap[B]? = W.heap[B]?) : RowV W' B m t f := hb.trans h
def cellT (g : List Tk) (vs : Nat → Value) (q : Nat) : Value :=
 if q % 4 = 0 then .int .i64 (rdTk g (q / 4)).f0 else if q % 4 = 1 then vs (q / 4) else if q % 4 = 2 then .int .i64 (rdTk g (q / 4)).f2 else .int .i64 (rdTk g (q / 4)).f3
theorem cellT_at (g : List Tk) (vs : Nat → Value) (i : Nat) : cellT g vs (i * 4) = .int .i64 (rdTk g i).f0 ∧ cellT g vs (i * 4 + 1) = vs i ∧ cellT g vs (i * 4 + 2) = .int .i64 (rdTk g i).f2 ∧ cellT g vs (i * 4 + 3) = .int .i64 (rdTk g i).f3 := by
 have h0 : i * 4 % 4 = 0 := by omega
 have h1 : (i * 4 + 1) % 4 = 1 := by omega
 have h2 : (i * 4 + 2) % 4 = 2 := by omega
 have h3 : (i * 4 + 3) % 4 = 3 := by omega
 have d0 : i * 4 / 4 = i := by omega
 have d1 : (i * 4 + 1) / 4 = i := by omega
 have d2 : (i * 4 + 2) / 4 = i := by omega
 have d3 : (i * 4 + 3) / 4 = i := by omega
 unfold cellT
 rw [h0, h1, h2, h3, d0, d1, d2, d3]
 exact ⟨rfl, rfl, rfl, rfl⟩
theorem plain_add (B q : Nat) : (⟨B, 0, none⟩ : Addr).add q = ⟨B, q, none⟩ := by
 unfold Addr.add
 split <;> simp_all
theorem C_of_RowV {W : World} {B : Nat} {t : TypeId} {g : List Tk} {vs : Nat → Value} (h : RowV W B (g.length * 4) t (cellT g vs)) (hm : g.length ≤ 10000000) (hv : ∀ i, i < g.length → ∃ A c, vs i = .slice A (rdTk g i).f1.length c ∧ (rdTk g i).f1.length ≤ c ∧ (Kd.int .i64).C W A (rdTk g i).f1.length (rdTk g i).f1) : kTk.C W (some ⟨B, 0, none⟩) g.length g := by
 refine ⟨rfl, by omega, fun _ => ⟨_, rfl, fun j p hj => ?_⟩⟩
 have hjl : j < g.length := (List.getElem?_eq_some_iff.1 hj).1
 have hp : rdTk g j = p := by
  unfold rdTk
  rw [List.getD_eq_getElem?_getD, hj]
  rfl
 obtain ⟨A, c, e, hl, hC⟩ := hv j hjl
 rw [hp] at e hl hC
 refine ⟨[.int .i64 p.f0, .slice A p.f1.length c, .int .i64 p.f2, .int .i64 p.f3], rfl, ⟨[.int .i64 p.f0], [.slice A p.f1.length c, .int .i64 p.f2, .int .i64 p.f3], rfl, rfl, ⟨[.slice A p.f1.length c], [.int .i64 p.f2, .int .i64 p.f3], rfl, ⟨A, c, rfl, hl, hC⟩, ⟨[.int .i64 p.f2], [.int .i64 p.f3], rfl, rfl, rfl⟩⟩⟩, fun i u hu => ?_⟩
 obtain ⟨c0, c1, c2, c3⟩ := cellT_at g vs j
 rw [hp] at c0 c2 c3
 rw [e] at c1
 rw [plain_add]
 have hi : i < 4 := by
  have := (List.getElem?_eq_some_iff.1 hu).1
  simpa using this
 have hq : j * kTk.sz + i < g.length * 4 := by
  show j * 4 + i < g.length * 4
  omega
 rw [h.cell hq]
 show some (cellT g vs (j * 4 + i)) = some u
 rcases i with _ | _ | _ | _ | i
 ·
  rw [Nat.add_zero, c0]
  simpa using hu
 ·
  rw [c1]
  simpa using hu
 ·
  rw [c2]
  simpa using hu
 ·
  rw [c3]
  simpa using hu
 ·
  omega
end Go.Proofs.YtkljcdghbefceaaGreatDoor

namespace Go.Proofs.YtkljcdghbefceaaGreatDoor
set_option linter.unusedVariables false
set_option linter.unusedSimpArgs false
open Go.RowKit Go.Shelf Bits
open Go.Proofs.YtkljcdghbefceaaGreatDoorW.PrintWords Go.Proofs.YtkljcdghbefceaaGreatDoorW.PrintLast Go.Proofs.YtkljcdghbefceaaGreatDoorW.PrintMore
attribute [local go_sem] Oper.semAt_some
theorem run_makeX (n : Nat) (hn : n ≤ 2000000) (W : World) : (Instr.makeSlice 24 (Value.int IntKind.i64 (n : Int)) (Value.int IntKind.i64 (n : Int))).run Tryz.prog W = .ok (.slice (some ⟨W.heap.size, 0, none⟩) n n) (W.alloc (.cells (zeroI n) 3)) := by
 obtain ⟨i0, hi, hz0, hz1, hz2⟩ := info_parts infoInt
 rw [← madeI]
 have := run_make (P := Tryz.prog) W 24 3 i0 (.int .i64 0) Tryz.underlying24 hi hz0 .i64 .i64 (n : Int) (n : Int) (by omega) (by omega) (by rw [hz2]; omega) (by omega)
 simpa [hz1, Value.cells] using this
theorem zeroI_row (n : Nat) : zeroI n = ((List.replicate n (0 : Int)).map (Value.int .i64)).toArray := by
 unfold zeroI
 simp
def cpyL (l : List Int) (j : Nat) : List Int := (List.range l.length).map fun i => if i < j then l.getD i 0 else 0
theorem cpyL_len (l : List Int) (j : Nat) : (cpyL l j).length = l.length := by simp [cpyL]
theorem cpyL_zero (l : List Int) : cpyL l 0 = List.replicate l.length 0 := by
 unfold cpyL
 apply List.ext_getElem (by simp)
 intro i h1 h2
 simp
theorem cpyL_set (l : List Int) (j : Nat) : (cpyL l j).set j (l.getD j 0) = cpyL l (j + 1) := by
 unfold cpyL
 apply List.ext_getElem (by simp)
 intro i h1 h2
 simp only [List.getElem_set, List.getElem_map, List.getElem_range]
 by_cases h : j = i
 ·
  rw [if_pos h, if_pos (by omega), h]
 ·
  rw [if_neg h]
  by_cases h' : i < j
  ·
   rw [if_pos h', if_pos (by omega)]
  ·
   rw [if_neg h', if_neg (by omega)]
theorem cpyL_end (l : List Int) : cpyL l l.length = l := by
 unfold cpyL
 apply List.ext_getElem (by simp)
 intro i h1 h2
 simp only [List.length_map, List.length_range] at h1
 simp [h1]
theorem IRow.C {W : World} {b : Nat} {xs : List Int} (h : IRow W b xs) (hl : xs.length ≤ 2000000) : (Kd.int .i64).C W (some ⟨b, 0, none⟩) xs.length xs := by
 refine ⟨rfl, by omega, fun _ => ⟨_, rfl, fun j p hj => ⟨[.int .i64 p], rfl, rfl, fun i u hu => ?_⟩⟩⟩
 have hjl : j < xs.length := (List.getElem?_eq_some_iff.1 hj).1
 have hi : i = 0 := by
  have := (List.getElem?_eq_some_iff.1 hu).1
  simp at this
  exact this
 subst hi
 rw [plain_add]
 have hq : j * (Kd.int .i64).sz + 0 = j := by
  show j * 1 + 0 = j
  omega
 rw [hq, h.cell j hjl, List.getD_eq_getElem?_getD, hj]
 simpa using hu
def szI (left : Int) (n : Nat) : Int := if left < n then -1 else left - n
end Go.Proofs.YtkljcdghbefceaaGreatDoor
