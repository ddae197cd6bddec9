/- Parts of the proof, laid as one text by a program of mine. -/
import Derived.Test.YtdjdfbfcjajlkaaDoorKcc13
import Derived.Test.YtdjdfbfcjajlkaaDoorKcc14
import Derived.Test.YtdjdfbfcjajlkaaDoorKcc4
import Derived.Test.YtdjdfbfcjajlkaaDoorKcc7
namespace Go.Proofs.YtdjdfbfcjajlkaaDoor
set_option linter.unusedVariables false
set_option linter.unusedSimpArgs false
open Go.RowKit Go.Shelf Bits
theorem inB_iff {x a b : Int} : inB x a b = true ↔ a ≤ x ∧ x ≤ b := inB_true
theorem roomB_facts {rm : List Int} (h : roomB rm = true) : rm.length = 3 ∧ ∀ p, p < 3 → 4 ≤ rm.getD p 0 ∧ rm.getD p 0 ≤ 8 := by
 unfold roomB allInB at h
 rw [Bool.and_eq_true, List.all_eq_true] at h
 have h3 := of_decide_eq_true h.1
 refine ⟨h3, fun p hp => ?_⟩
 have := h.2 (rm.getD p 0) (by
  rw [List.getD_eq_getElem?_getD, List.getElem?_eq_getElem (by omega)]
  exact List.getElem_mem _)
 exact inB_true.1 this
theorem putS_len (now : Int) : ∀ (l : List Nat) (st : List Int), (putS now st l).length = st.length
 | [], _ => rfl
 | i :: l, st => by
  show (putS now (st.set i now) l).length = _
  rw [putS_len now l, List.length_set]
theorem putS_get (now : Int) : ∀ (l : List Nat) (st : List Int) (j : Nat), (∀ x ∈ l, x < st.length) → (putS now st l).getD j 0 = if j ∈ l then now else st.getD j 0
 | [], st, j, _ => by simp [putS]
 | i :: l, st, j, h => by
  show (putS now (st.set i now) l).getD j 0 = _
  rw [putS_get now l _ j (fun x hx => by rw [List.length_set]; exact h x (List.mem_cons_of_mem _ hx)), getD_setI _ _ _ _ (h i List.mem_cons_self)]
  by_cases hl : j ∈ l
  ·
   rw [if_pos hl, if_pos (List.mem_cons_of_mem _ hl)]
  ·
   rw [if_neg hl]
   by_cases hi : j = i
   ·
    subst hi
    rw [if_pos rfl, if_pos List.mem_cons_self]
   ·
    rw [if_neg hi, if_neg (fun h => by
     rcases List.mem_cons.1 h with e | e
     ·
      exact hi e
     ·
      exact hl e)]
theorem admN_in (g : List Tk) (rm : List Int) (wk : Int) (c : Ct) (l : List Nat) : ∀ i ∈ (admN g rm wk c l).2, i ∈ l := by
 have := admN_sub g rm wk c l l.length (Nat.le_refl _)
 rw [List.take_length] at this
 exact this
theorem nextS_in {g : List Tk} {rm : List Int} {wk : Int} {st : List Int} {now : Int} {x : Nat} (h : x ∈ nextS g rm wk st now) : x < g.length ∧ rdB g (ints (overS g st now)) x = true ∧ st.getD x 0 = 200 := by
 have h1 := insL_mem _ _ x (admN_in g rm wk _ _ x h)
 have h2 := List.mem_filter.1 h1
 have h3 := List.mem_filter.1 h2.1
 refine ⟨List.mem_range.1 h3.1, h3.2, ?_⟩
 have := h2.2
 unfold idleB at this
 exact beq_iff_eq.1 this
theorem stepS_get {g : List Tk} {rm : List Int} {wk : Int} {st : List Int} (hl : st.length = g.length) (k j : Nat) : (stepS g rm wk st k).getD j 0 = if j ∈ nextS g rm wk st k then (k : Int) else st.getD j 0 :=
 putS_get _ _ _ _ (fun x hx => by rw [hl]; exact nextS_lt g rm wk st k x hx)
theorem planL_before (g : List Tk) (rm : List Int) (wk : Int) : ∀ k, k ≤ 200 → ∀ j, j < g.length → (planL g rm wk k).getD j 0 = 200 ∨ (0 ≤ (planL g rm wk k).getD j 0 ∧ (planL g rm wk k).getD j 0 < k)
 | 0, _, j, hj => by
  left
  unfold planL
  rw [List.getD_eq_getElem?_getD, List.getElem?_replicate, if_pos hj]
  rfl
 | k + 1, hk, j, hj => by
  have ih := planL_before g rm wk k (by omega) j hj
  show (stepS g rm wk (planL g rm wk k) k).getD j 0 = 200 ∨ _
  rw [show planL g rm wk (k + 1) = stepS g rm wk (planL g rm wk k) k from rfl, stepS_get (planL_ok g rm wk k (by omega)).1]
  split
  ·
   right; omega
  ·
   rcases ih with h | h
   ·
    exact .inl h
   ·
    right; omega
theorem overB_iff {g : List Tk} {st : List Int} {now : Int} {i : Nat} : overB g st now i = true ↔ st.getD i 0 + (rdTk g i).f0 ≤ now := by
 unfold overB
 exact decide_eq_true_iff
theorem mem_overS {g : List Tk} {st : List Int} {now : Int} {i : Nat} : i ∈ overS g st now ↔ i < g.length ∧ st.getD i 0 + (rdTk g i).f0 ≤ now := by
 unfold overS
 rw [List.mem_filter, List.mem_range, overB_iff]
theorem mem_runS {g : List Tk} {st : List Int} {now : Int} {i : Nat} : i ∈ runS g st now ↔ i < g.length ∧ st.getD i 0 ≤ now ∧ now < st.getD i 0 + (rdTk g i).f0 := by
 unfold runS runB
 rw [List.mem_filter, List.mem_range, Bool.and_eq_true, decide_eq_true_iff, decide_eq_true_iff]
theorem idleB_iff {L : List Int} {j : Nat} : idleB L j = true ↔ L.getD j 0 = 200 := by
 unfold idleB
 exact beq_iff_eq
def workF (g : List Tk) (L : List Int) (k : Int) (i : Nat) : Int := if L.getD i 0 = 200 then 0 else min (rdTk g i).f0 (k - L.getD i 0)
def sumTo (f : Nat → Int) : Nat → Int
 | 0 => 0
 | n + 1 => sumTo f n + f n
theorem sumTo_le {f h : Nat → Int} : ∀ n, (∀ i, i < n → f i ≤ h i) → sumTo f n ≤ sumTo h n
 | 0, _ => Int.le_refl _
 | n + 1, hh => by
  have h1 := sumTo_le n (fun i hi => hh i (by omega))
  have h2 := hh n (by omega)
  unfold sumTo
  omega
theorem sumTo_lt {f h : Nat → Int} : ∀ n, (∀ i, i < n → f i ≤ h i) → (∃ i, i < n ∧ f i + 1 ≤ h i) → sumTo f n + 1 ≤ sumTo h n
 | 0, _, ⟨_, hi, _⟩ => by omega
 | n + 1, hh, ⟨i, hi, hc⟩ => by
  have h2 := hh n (by omega)
  unfold sumTo
  by_cases hin : i < n
  ·
   have h1 := sumTo_lt n (fun i hi => hh i (by omega)) ⟨i, hin, hc⟩
   omega
  ·
   have h1 := sumTo_le n (fun i hi => hh i (Nat.lt_succ_of_lt hi))
   obtain rfl : i = n := by omega
   omega
def timeS (g : List Tk) : Int := sumTo (fun i => (rdTk g i).f0) g.length
theorem sumTo_bound {f : Nat → Int} {a b : Int} : ∀ n, (∀ i, i < n → a ≤ f i ∧ f i ≤ b) → a * n ≤ sumTo f n ∧ sumTo f n ≤ b * n
 | 0, _ => by simp [sumTo]
 | n + 1, h => by
  have h1 := sumTo_bound n (fun i hi => h i (by omega))
  have h2 := h n (by omega)
  unfold sumTo
  rw [show ((n + 1 : Nat) : Int) = (n : Int) + 1 from by omega, Int.mul_add, Int.mul_add]
  omega
theorem timeS_bound {g : List Tk} (h : TOk g) : 0 ≤ timeS g ∧ timeS g ≤ 160 := by
 have := sumTo_bound (f := fun i => (rdTk g i).f0) (a := 0) (b := 20) g.length (fun i _ => h.2.1 i)
 have := h.1
 unfold timeS
 omega
theorem admFold_keeps (g : List Tk) (rm : List Int) (wk : Int) : ∀ (l : List Nat) (st : Ct × List Nat), ∀ x ∈ st.2, x ∈ (l.foldl (admStep g rm wk) st).2
 | [], _, x, h => h
 | i :: l, st, x, h => admFold_keeps g rm wk l (admStep g rm wk st i) x (by
  unfold admStep
  split
  ·
   exact List.mem_append_left _ h
  ·
   exact h)
theorem adm_first {g : List Tk} (hok : TOk g) {rm : List Int} (hrm : roomB rm = true) {wk : Int} (hwk : 1 ≤ wk) (x : Nat) (l : List Nat) : x ∈ (admN g rm wk (cnt g []) (x :: l)).2 := by
 have h2 := hok.2.2.1 x
 have h3 := hok.2.2.2.1 x
 have h4 := (roomB_facts hrm).2 (rdTk g x).f2.toNat (by omega)
 refine admFold_keeps g rm wk l _ x ?_
 unfold admStep
 have : (cnt g []).can (rdTk g x).f2.toNat (rdTk g x).f3 rm wk = true := by
  unfold Ct.can
  rw [Bool.and_eq_true, decide_eq_true_iff, decide_eq_true_iff]
  refine ⟨by show (([] : List Nat).length : Int) < wk; simp; omega, ?_⟩
  show usedS g [] ((rdTk g x).f2.toNat : Int) + (rdTk g x).f3 ≤ rm.getD (rdTk g x).f2.toNat 0
  rw [show usedS g [] ((rdTk g x).f2.toNat : Int) = 0 from rfl]
  omega
 rw [if_pos this]
 simp
theorem topL_len {g : List Tk} (hv : specValid g = true) : (topL g).length = g.length := by
 unfold specValid at hv
 rw [Bool.and_eq_true] at hv
 exact of_decide_eq_true hv.2
theorem some_ready {g : List Tk} (hv : specValid g = true) {D : List Nat} (hD : ∃ i, i < g.length ∧ ¬ i ∈ D) : ∃ i, i < g.length ∧ rdB g (ints D) i = true := by
 obtain ⟨i, hi, hn⟩ := hD
 have hin := top_all hv hi
 -- the first task of the order that is not done
 have key : ∀ m, m ≤ (topL g).length → (∀ p, p < m → (topL g).getD p 0 ∈ D) ∨ ∃ p, p < (topL g).length ∧ ¬ (topL g).getD p 0 ∈ D ∧ ∀ q, q < p → (topL g).getD q 0 ∈ D := by
  intro m
  induction m with
  | zero => exact fun _ => .inl fun p hp => absurd hp (Nat.not_lt_zero _)
  | succ m ih =>
   intro hm
   rcases ih (by omega) with h | h
   ·
    by_cases hc : (topL g).getD m 0 ∈ D
    ·
     left
     intro p hp
     by_cases hpm : p = m
     ·
      rw [hpm]; exact hc
     ·
      exact h p (by omega)
    ·
     exact .inr ⟨m, by omega, hc, h⟩
   ·
    exact .inr h
 rcases key _ (Nat.le_refl _) with h | ⟨p, hp, h1, h2⟩
 ·
  obtain ⟨p, hp, e⟩ := List.getElem_of_mem hin
  refine absurd ?_ hn
  have := h p hp
  rw [List.getD_eq_getElem?_getD, List.getElem?_eq_getElem hp] at this
  rw [← e]
  exact this
 ·
  have hmem : (topL g).getD p 0 ∈ topL g := by
   rw [List.getD_eq_getElem?_getD, List.getElem?_eq_getElem hp]
   exact List.getElem_mem _
  have hlt := (topN_facts g g.length).2.1 _ hmem
  refine ⟨(topL g).getD p 0, hlt, ?_⟩
  unfold rdB allDoneB
  rw [Bool.and_eq_true, Bool.not_eq_true', decide_eq_false_iff_not, mem_intsN, List.all_eq_true]
  refine ⟨h1, fun x hx => ?_⟩
  obtain ⟨ns, hg⟩ := Option.isSome_iff_exists.1 ((specValid_eq g).symm.trans hv)
  obtain ⟨hx0, _⟩ := setOfL_mem _ _ _ _ _ (by omega) ((graphN_all hg).2.2 _ hlt).2 x hx
  have hxe : x = ((x.toNat : Nat) : Int) := by omega
  rw [hxe] at hx ⊢
  have ht := topo_topN g g.length p hp x.toNat hx
  obtain ⟨q, hq, e⟩ := List.getElem_of_mem ht
  have hq2 : q < p := by simp at hq; omega
  have := h2 q hq2
  rw [List.getElem_take] at e
  rw [List.getD_eq_getElem?_getD, List.getElem?_eq_getElem (show q < (topL g).length by omega)] at this
  rw [decide_eq_true_iff, mem_intsN, ← e]
  exact this
theorem plan_moves {g : List Tk} (hv : specValid g = true) {rm : List Int} (hrm : roomB rm = true) {wk : Int} (hwk : 1 ≤ wk) {L : List Int} {k : Nat} (hk : k < 200) (hL : L.length = g.length) (hB : ∀ j, j < g.length → L.getD j 0 = 200 ∨ (0 ≤ L.getD j 0 ∧ L.getD j 0 < k)) (hn : ∃ i, i < g.length ∧ ¬ L.getD i 0 + (rdTk g i).f0 ≤ k) :
  ∃ i, i < g.length ∧ (stepS g rm wk L k).getD i 0 ≤ k ∧ (k : Int) < (stepS g rm wk L k).getD i 0 + (rdTk g i).f0 := by
 have hok := specValid_TOk hv
 by_cases hr : runS g L k = []
 ·
  obtain ⟨x, hx, hrd⟩ := some_ready hv (D := overS g L k) (by
   obtain ⟨i, hi, h⟩ := hn
   exact ⟨i, hi, fun hm => h (mem_overS.1 hm).2⟩)
  have hxi : L.getD x 0 = 200 := by
   rcases hB x hx with e | e
   ·
    exact e
   ·
    exfalso
    have hno : ¬ x ∈ overS g L k := by
     intro hm
     unfold rdB at hrd
     rw [Bool.and_eq_true, Bool.not_eq_true', decide_eq_false_iff_not, mem_intsN] at hrd
     exact hrd.1 hm
    have hm : x ∈ runS g L k := mem_runS.2 ⟨hx, by omega, by
     by_cases hc : L.getD x 0 + (rdTk g x).f0 ≤ k
     ·
      exact absurd (mem_overS.2 ⟨hx, hc⟩) hno
     ·
      omega⟩
    rw [hr] at hm
    cases hm
  have hmem : x ∈ insL (tailsS g) ((readyS g (ints (overS g L k))).filter (idleB L)) := (insL_perm _ _).mem_iff.2 (List.mem_filter.2 ⟨List.mem_filter.2 ⟨List.mem_range.2 hx, hrd⟩, idleB_iff.2 hxi⟩)
  obtain ⟨y, ys, hys⟩ := List.exists_cons_of_ne_nil (List.ne_nil_of_mem hmem)
  have hy : y ∈ nextS g rm wk L k := by
   unfold nextS
   rw [hys, hr]
   exact adm_first hok hrm hwk y ys
  have hyl := nextS_lt g rm wk L k y hy
  have ht := hok.2.2.2.2 y hyl
  refine ⟨y, hyl, ?_, ?_⟩
  ·
   rw [stepS_get hL, if_pos hy]
   omega
  ·
   rw [stepS_get hL, if_pos hy]
   omega
 ·
  obtain ⟨y, ys, hys⟩ := List.exists_cons_of_ne_nil hr
  obtain ⟨h1, h2, h3⟩ := mem_runS.1 (show y ∈ runS g L k by rw [hys]; exact List.mem_cons_self)
  have hny : ¬ y ∈ nextS g rm wk L k := fun hm => by
   have := (nextS_in hm).2.2
   omega
  exact ⟨y, h1, by rw [stepS_get hL, if_neg hny]; exact h2, by rw [stepS_get hL, if_neg hny]; exact h3⟩
theorem work_le {g : List Tk} (rm : List Int) (wk : Int) {L : List Int} {k : Nat} (hL : L.length = g.length) (hok : TOk g) (hk : k < 200) (i : Nat) (hi : i < g.length) : workF g L k i ≤ workF g (stepS g rm wk L k) (k + 1) i ∧ ((stepS g rm wk L k).getD i 0 ≤ k → (k : Int) < (stepS g rm wk L k).getD i 0 + (rdTk g i).f0 → workF g L k i + 1 ≤ workF g (stepS g rm wk L k) (k + 1) i) := by
 have ht := hok.2.2.2.2 i hi
 unfold workF
 by_cases hm : i ∈ nextS g rm wk L k
 ·
  have h1 := (nextS_in hm).2.2
  have h2 : (stepS g rm wk L k).getD i 0 = k := by rw [stepS_get hL, if_pos hm]
  rw [h2, if_pos h1, if_neg (by omega)]
  omega
 ·
  have h2 : (stepS g rm wk L k).getD i 0 = L.getD i 0 := by rw [stepS_get hL, if_neg hm]
  rw [h2]
  by_cases hc : L.getD i 0 = 200
  ·
   rw [if_pos hc, if_pos hc, hc]
   omega
  ·
   rw [if_neg hc, if_neg hc]
   omega
theorem plan_work {g : List Tk} (hv : specValid g = true) {rm : List Int} (hrm : roomB rm = true) {wk : Int} (hwk : 1 ≤ wk) : ∀ m, m ≤ 200 → (∀ k, k < m → ∃ i, i < g.length ∧ ¬ (planL g rm wk k).getD i 0 + (rdTk g i).f0 ≤ k) → (m : Int) ≤ sumTo (workF g (planL g rm wk m) m) g.length
 | 0, _, _ => by
  have := sumTo_bound (f := workF g (planL g rm wk 0) (0 : Nat)) (a := 0) (b := 0) g.length (fun i hi => by
   unfold workF
   rw [if_pos (by
    unfold planL
    rw [List.getD_eq_getElem?_getD, List.getElem?_replicate, if_pos hi]
    rfl)]
   omega)
  omega
 | m + 1, hm, h => by
  have ih := plan_work hv hrm hwk m (by omega) (fun k hk => h k (by omega))
  have hL := (planL_ok g rm wk m (by omega)).1
  have hok := specValid_TOk hv
  obtain ⟨i, hi, h1, h2⟩ := plan_moves hv hrm hwk (by omega) hL (planL_before g rm wk m (by omega)) (h m (by omega))
  have := sumTo_lt (f := workF g (planL g rm wk m) m) (h := workF g (planL g rm wk (m + 1)) (m + 1 : Nat)) g.length (fun j hj => (work_le rm wk hL hok (by omega) j hj).1) ⟨i, hi, (work_le rm wk hL hok (by omega) i hi).2 h1 h2⟩
  omega
theorem plan_ends {g : List Tk} (hv : specValid g = true) {rm : List Int} (hrm : roomB rm = true) {wk : Int} (hwk : 1 ≤ wk) : ∃ k : Nat, (k : Int) ≤ timeS g ∧ ∀ i, i < g.length → (planL g rm wk k).getD i 0 + (rdTk g i).f0 ≤ k := by
 have hok := specValid_TOk hv
 have hT := timeS_bound hok
 by_cases hc : ∃ k : Nat, (k : Int) ≤ timeS g ∧ ∀ i, i < g.length → (planL g rm wk k).getD i 0 + (rdTk g i).f0 ≤ k
 ·
  exact hc
 ·
  exfalso
  have h1 := plan_work hv hrm hwk ((timeS g).toNat + 1) (by omega) (fun k hk => by
   by_cases he : ∃ i, i < g.length ∧ ¬ (planL g rm wk k).getD i 0 + (rdTk g i).f0 ≤ k
   ·
    exact he
   ·
    exfalso
    refine hc ⟨k, by omega, fun i hi => ?_⟩
    by_cases hx : (planL g rm wk k).getD i 0 + (rdTk g i).f0 ≤ k
    ·
     exact hx
    ·
     exact absurd ⟨i, hi, hx⟩ he)
  have h2 : sumTo (workF g (planL g rm wk ((timeS g).toNat + 1)) ((timeS g).toNat + 1 : Nat)) g.length ≤ timeS g := sumTo_le _ (fun i _ => by
   unfold workF
   have := hok.2.1 i
   split <;> omega)
  omega
theorem plan_stands {g : List Tk} {rm : List Int} {wk : Int} {k : Nat} (h : ∀ i, i < g.length → (planL g rm wk k).getD i 0 ≠ 200) : ∀ d, planL g rm wk (k + d) = planL g rm wk k
 | 0 => rfl
 | d + 1 => by
  show stepS g rm wk (planL g rm wk (k + d)) _ = _
  rw [plan_stands h d]
  unfold stepS
  cases hn : nextS g rm wk (planL g rm wk k) (k + d : Nat) with
  | nil => rfl
  | cons x xs =>
   have hx : x ∈ nextS g rm wk (planL g rm wk k) (k + d : Nat) := by rw [hn]; exact List.mem_cons_self
   exact absurd (nextS_in hx).2.2 (h x (nextS_in hx).1)
theorem planS_ends {g : List Tk} (hv : specValid g = true) {rm : List Int} (hrm : roomB rm = true) {wk : Int} (hwk : 1 ≤ wk) : ∀ i, i < g.length → (planS g rm wk).getD i 0 + (rdTk g i).f0 ≤ timeS g := by
 have hok := specValid_TOk hv
 have hT := timeS_bound hok
 obtain ⟨k, hk, he⟩ := plan_ends hv hrm hwk
 have hn200 : ∀ i, i < g.length → (planL g rm wk k).getD i 0 ≠ 200 := fun i hi e => by
  have := he i hi
  have := hok.2.1 i
  omega
 intro i hi
 have := plan_stands hn200 (200 - k)
 rw [show k + (200 - k) = 200 by omega] at this
 unfold planS
 rw [this]
 have := he i hi
 omega
end Go.Proofs.YtdjdfbfcjajlkaaDoor

namespace Go.Proofs.YtdjdfbfcjajlkaaDoor
set_option linter.unusedVariables false
set_option linter.unusedSimpArgs false
open Go.RowKit Go.Shelf Bits
structure PRel (g : List Tk) (L : List Int) (k : Nat) (p : PS) : Prop where
 len : p.st.length = g.length
 b : p.b < 2 ^ g.length
 o : p.o < 2 ^ g.length
 hb : ∀ j, j < g.length → p.b.testBit j = !idleB L j
 hs : ∀ j, j < g.length → p.st.getD j 0 = if idleB L j then 0 else L.getD j 0
 ho : ∀ j, j < g.length → p.o.testBit j = decide (L.getD j 0 + (rdTk g j).f0 ≤ (k : Int) - 1)
theorem bit_far {n x j : Nat} (h : x < 2 ^ n) (hj : n ≤ j) : x.testBit j = false := Nat.testBit_lt_two_pow (Nat.lt_of_lt_of_le h (Nat.pow_le_pow_right (by omega) hj))
theorem elems_eq {n x : Nat} (hn : n ≤ 16) (hx : x < 2 ^ n) (P : Nat → Bool) (h : ∀ j, j < n → x.testBit j = P j) : elems x = (List.range n).filter P := by
 unfold elems
 have h1 := filter_rangeR (P := x.testBit) (n := n) (fun i hi => by
  by_cases hin : i < n
  ·
   exact hin
  ·
   rw [bit_far hx (by omega)] at hi
   cases hi) (16 - n)
 rw [show n + (16 - n) = 16 by omega] at h1
 rw [h1]
 exact List.filter_congr fun i hi => h i (List.mem_range.1 hi)
theorem ovN_bit (g : List Tk) (st : List Int) (now : Int) (j : Nat) : ∀ (l : List Nat) (o : Nat), (ovN g st now o l).testBit j = (o.testBit j || (decide (j ∈ l) && decide (st.getD j 0 + (rdTk g j).f0 ≤ now)))
 | [], o => by simp [ovN]
 | i :: l, o => by
  show (ovN g st now (ovF g st now o i) l).testBit j = _
  rw [ovN_bit g st now j l]
  unfold ovF
  by_cases hij : i = j
  ·
   subst hij
   by_cases hc : st.getD i 0 + (rdTk g i).f0 ≤ now
   ·
    rw [if_pos hc, or_bit, decide_eq_true hc, decide_eq_true (rfl : i = i), decide_eq_true (List.mem_cons_self : i ∈ i :: l)]
    simp
   ·
    rw [if_neg hc, decide_eq_false hc]
    simp
  ·
   have hm : decide (j ∈ i :: l) = decide (j ∈ l) := by
    rw [decide_eq_decide, List.mem_cons]
    constructor
    ·
     rintro (e | e)
     ·
      exact absurd e.symm hij
     ·
      exact e
    ·
     exact Or.inr
   rw [hm]
   by_cases hc : st.getD i 0 + (rdTk g i).f0 ≤ now
   ·
    rw [if_pos hc, or_bit, decide_eq_false hij, Bool.or_false]
   ·
    rw [if_neg hc]
theorem putB_bit (j : Nat) : ∀ (l : List Nat) (b : Nat), (putB b l).testBit j = (b.testBit j || decide (j ∈ l))
 | [], b => by simp [putB]
 | i :: l, b => by
  show (putB (b ||| 2 ^ i) l).testBit j = _
  rw [putB_bit j l, or_bit]
  by_cases hij : i = j
  ·
   subst hij
   simp
  ·
   rw [decide_eq_false hij, Bool.or_false]
   congr 1
   rw [decide_eq_decide, List.mem_cons]
   constructor
   ·
    exact Or.inr
   ·
    rintro (e | e)
    ·
     exact absurd e.symm hij
    ·
     exact e
theorem plan_step {g : List Tk} {ns : List Nat} (rm : List Int) (wk : Int) (hg : graphN g = some ns) {L : List Int} {k : Nat} {p : PS} (hk : k < 200) (hL : L.length = g.length) (hB : ∀ j, j < g.length → L.getD j 0 = 200 ∨ (0 ≤ L.getD j 0 ∧ L.getD j 0 < k)) (h : PRel g L k p) : PRel g (stepS g rm wk L k) (k + 1) (stepN g ns rm wk k p) := by
 obtain ⟨st, b, o⟩ := p
 obtain ⟨h1, h2, h3, h4, h5, h6⟩ := h
 simp only [] at h1 h2 h3 h4 h5 h6
 obtain ⟨h8, hn, _⟩ := graphN_all hg
 have hok := specValid_TOk (graphN_spec hg)
 have hol : ovN g st k o (elems b) < 2 ^ g.length := ovN_lt _ h3 (fun i hi => elems_below h2 hi)
 have hob : ∀ j, j < g.length → (ovN g st k o (elems b)).testBit j = overB g L k j := fun j hj => by
  have ht := hok.2.1 j
  rw [ovN_bit, h6 j hj, show decide (j ∈ elems b) = b.testBit j by
   rw [Bool.eq_iff_iff, decide_eq_true_iff, mem_elems]
   exact ⟨fun e => e.2, fun e => ⟨by omega, e⟩⟩, h4 j hj, h5 j hj]
  unfold overB
  rcases hB j hj with e | e
  ·
   rw [idleB_iff.2 e, e, Bool.not_true, Bool.false_and, Bool.or_false, decide_eq_decide]
   omega
  ·
   have : idleB L j = false := by
    cases hi : idleB L j with
    | false => rfl
    | true => have := idleB_iff.1 hi; omega
   rw [this, Bool.not_false, Bool.true_and, if_neg (by simp), Bool.eq_iff_iff, Bool.or_eq_true, decide_eq_true_iff, decide_eq_true_iff]
   omega
 generalize hov : ovN g st k o (elems b) = ov at hol hob
 have e1 : elems (diff b ov) = runS g L k := by
  refine elems_eq (by omega) (diff_lt h2) _ (fun j hj => ?_)
  rw [diff_bit, h4 j hj, hob j hj]
  unfold runB overB
  rcases hB j hj with e | e
  ·
   rw [idleB_iff.2 e, e, Bool.not_true, Bool.false_and]
   symm
   rw [Bool.and_eq_false_iff]
   left
   exact decide_eq_false (by omega)
  ·
   have : idleB L j = false := by
    cases hi : idleB L j with
    | false => rfl
    | true => have := idleB_iff.1 hi; omega
   rw [this, Bool.not_false, Bool.true_and, decide_eq_true (show L.getD j 0 ≤ (k : Int) by omega), Bool.true_and, Bool.eq_iff_iff, Bool.not_eq_true', decide_eq_false_iff_not, decide_eq_true_iff]
   omega
 have hbit : ∀ j : Nat, ov.testBit j = decide ((j : Int) ∈ ints (overS g L k)) := fun j => by
  by_cases hj : j < g.length
  ·
   rw [hob j hj, Bool.eq_iff_iff, overB_iff, decide_eq_true_iff, mem_intsN, mem_overS]
   exact ⟨fun e => ⟨hj, e⟩, fun e => e.2⟩
  ·
   rw [bit_far hol (by omega)]
   symm
   apply decide_eq_false
   rw [mem_intsN, mem_overS]
   exact fun e => hj e.1
 have e2 : elems (diff (readyN ns ov) b) = (readyS g (ints (overS g L k))).filter (idleB L) := by
  unfold readyS
  rw [List.filter_filter]
  refine elems_eq (by omega) (diff_lt (hn ▸ readyU_lt ns ov _)) _ (fun j hj => ?_)
  rw [diff_bit, readyN_bit, hn, decide_eq_true hj, Bool.true_and, h4 j hj, Bool.not_not, Bool.and_comm]
  congr 1
  unfold isReady rdB
  rw [hbit, needs_in hg hbit hj]
 have e3 : nextN g ns rm wk b ov = nextS g rm wk L k := by
  unfold nextN nextS
  rw [e1, e2, rank_ins, tailN_eq hg]
 unfold stepN
 simp only []
 rw [hov, e3]
 have hnl := nextS_lt g rm wk L k
 have hni : ∀ j, j < g.length → idleB (stepS g rm wk L k) j = (idleB L j && !decide (j ∈ nextS g rm wk L k)) := fun j hj => by
  rw [Bool.eq_iff_iff, idleB_iff, stepS_get hL, Bool.and_eq_true, idleB_iff]
  by_cases hm : j ∈ nextS g rm wk L k
  ·
   rw [if_pos hm]
   simp [hm]
   omega
  ·
   rw [if_neg hm]
   simp [hm]
 refine ⟨by simp only []; rw [putS_len]; exact h1, putB_lt _ h2 hnl, hol, fun j hj => ?_, fun j hj => ?_, fun j hj => ?_⟩
 ·
  simp only []
  rw [putB_bit, h4 j hj, hni j hj]
  cases idleB L j <;> cases decide (j ∈ nextS g rm wk L k) <;> rfl
 ·
  simp only []
  rw [putS_get _ _ _ _ (fun x hx => by rw [h1]; exact hnl x hx), h5 j hj, hni j hj, stepS_get hL]
  by_cases hm : j ∈ nextS g rm wk L k
  ·
   simp [hm]
  ·
   simp [hm]
 ·
  simp only []
  rw [hob j hj, stepS_get hL]
  unfold overB
  have ht := hok.2.2.2.2 j hj
  rw [decide_eq_decide]
  by_cases hm : j ∈ nextS g rm wk L k
  ·
   have := (nextS_in hm).2.2
   rw [if_pos hm, this]
   omega
  ·
   rw [if_neg hm]
   omega
theorem plan_rel {g : List Tk} {ns : List Nat} (rm : List Int) (wk : Int) (hg : graphN g = some ns) : ∀ k, k ≤ 200 → PRel g (planL g rm wk k) k (planN g ns rm wk k)
 | 0, _ => by
  have hok := specValid_TOk (graphN_spec hg)
  have e : ∀ j, j < g.length → (planL g rm wk 0).getD j 0 = 200 := fun j hj => by
   unfold planL
   rw [List.getD_eq_getElem?_getD, List.getElem?_replicate, if_pos hj]
   rfl
  refine ⟨by simp [planN], Nat.two_pow_pos _, Nat.two_pow_pos _, fun j hj => ?_, fun j hj => ?_, fun j hj => ?_⟩
  ·
   rw [idleB_iff.2 (e j hj)]
   simp [planN]
  ·
   rw [idleB_iff.2 (e j hj)]
   show (List.replicate g.length (0 : Int)).getD j 0 = _
   rw [List.getD_eq_getElem?_getD, List.getElem?_replicate, if_pos hj]
   rfl
  ·
   rw [e j hj]
   have := hok.2.1 j
   show (0 : Nat).testBit j = _
   rw [Nat.zero_testBit]
   symm
   exact decide_eq_false (by omega)
 | k + 1, hk => plan_step rm wk hg (by omega) (planL_ok g rm wk k (by omega)).1 (planL_before g rm wk k (by omega)) (plan_rel rm wk hg k (by omega))
theorem least_of {P : Nat → Prop} [DecidablePred P] : ∀ n, P n → ∃ k, k ≤ n ∧ P k ∧ ∀ j, j < k → ¬ P j
 | 0, h => ⟨0, Nat.le_refl _, h, fun j hj => absurd hj (Nat.not_lt_zero _)⟩
 | n + 1, h => by
  by_cases hc : ∃ m, m ≤ n ∧ P m
  ·
   obtain ⟨m, hm, hp⟩ := hc
   obtain ⟨k, h1, h2, h3⟩ := least_of m hp
   exact ⟨k, by omega, h2, h3⟩
  ·
   exact ⟨n + 1, Nat.le_refl _, h, fun j hj hp => hc ⟨j, by omega, hp⟩⟩
theorem all_bits {n x : Nat} (hx : x < 2 ^ n) (h : ∀ j, j < n → x.testBit j = true) : x = 2 ^ n - 1 := by
 apply Nat.eq_of_testBit_eq
 intro i
 rw [Nat.testBit_two_pow_sub_one]
 by_cases hi : i < n
 ·
  rw [h i hi, decide_eq_true hi]
 ·
  rw [bit_far hx (by omega), decide_eq_false hi]
theorem plan_eq {g : List Tk} {ns : List Nat} {rm : List Int} {wk : Int} (hg : graphN g = some ns) (hrm : roomB rm = true) (hwk : 1 ≤ wk) :
  ∃ K, K ≤ 200 ∧ (planN g ns rm wk K).o = 2 ^ g.length - 1 ∧ (∀ k, k < K → (planN g ns rm wk k).o ≠ 2 ^ g.length - 1) ∧ (planN g ns rm wk K).st = planS g rm wk := by
 have hv := graphN_spec hg
 have hok := specValid_TOk hv
 have hT := timeS_bound hok
 obtain ⟨k, hk, he⟩ := plan_ends hv hrm hwk
 have hn200 : ∀ i, i < g.length → (planL g rm wk k).getD i 0 ≠ 200 := fun i hi e => by
  have := he i hi
  have := hok.2.1 i
  omega
 have hall : (planN g ns rm wk (k + 1)).o = 2 ^ g.length - 1 := by
  have hr := plan_rel rm wk hg (k + 1) (by omega)
  refine all_bits hr.o (fun j hj => ?_)
  rw [hr.ho j hj, plan_stands hn200 1]
  have := he j hj
  exact decide_eq_true (by omega)
 obtain ⟨K, h1, h2, h3⟩ := least_of (P := fun k => (planN g ns rm wk k).o = 2 ^ g.length - 1) (k + 1) hall
 refine ⟨K, by omega, h2, h3, ?_⟩
 have hr := plan_rel rm wk hg K (by omega)
 have hK : ∀ i, i < g.length → (planL g rm wk K).getD i 0 ≠ 200 := fun i hi e => by
  have h4 := hr.ho i hi
  rw [h2, Nat.testBit_two_pow_sub_one, decide_eq_true hi, e] at h4
  have h5 := of_decide_eq_true h4.symm
  have := hok.2.1 i
  omega
 have e : planS g rm wk = planL g rm wk K := by
  have := plan_stands hK (200 - K)
  rw [show K + (200 - K) = 200 by omega] at this
  exact this
 rw [e]
 refine list_ext0 (by rw [hr.len, (planL_ok g rm wk K (by omega)).1]) (fun j hj => ?_)
 rw [hr.len] at hj
 rw [hr.hs j hj, if_neg (fun hi => hK j hj (idleB_iff.1 hi))]
end Go.Proofs.YtdjdfbfcjajlkaaDoor

namespace Go.Proofs.YtdjdfbfcjajlkaaDoor
set_option linter.unusedVariables false
set_option linter.unusedSimpArgs false
open Go.RowKit Go.Shelf Bits
open Go.Proofs.YtdjdfbfcjajlkaaDoorW.PrintWords Go.Proofs.YtdjdfbfcjajlkaaDoorW.PrintLast Go.Proofs.YtdjdfbfcjajlkaaDoorW.PrintMore
def pS (g : List Tk) (rm : List Int) (wk : Int) : List Int := if specValid g && placeB rm wk then planS g rm wk else []
theorem placeB_facts {rm : List Int} {wk : Int} (h : placeB rm wk = true) : roomB rm = true ∧ 1 ≤ wk ∧ wk ≤ 4 := by
 unfold placeB at h
 rw [Bool.and_eq_true] at h
 exact ⟨h.1, inB_true.1 h.2⟩
theorem planS_ok (g : List Tk) (rm : List Int) (wk : Int) : StOk g.length (planS g rm wk) := planL_ok g rm wk 200 (Nat.le_refl _)
theorem StOk.sok {n : Nat} {st : List Int} (h : StOk n st) : SOk st := fun i => by have := h.2 i; omega
theorem R_nilJ (w : World) (base : Nat) : Kd.R (Kd.int .i64) 3 w base (fun _ => True) (.slice none 0 0) [] := Kd.R_of_own ⟨by simp [encs], .inl ⟨rfl, by simp [encs]⟩⟩ (fun _ _ => trivial)
theorem graphN_no {g : List Tk} (h : specValid g = false) : graphN g = none := by
 rw [specValid_eq] at h
 cases hg : graphN g with
 | none => rfl
 | some ns => rw [hg] at h; cases h
theorem graphN_yes {g : List Tk} (h : specValid g = true) : ∃ ns, graphN g = some ns := Option.isSome_iff_exists.1 ((specValid_eq g).symm.trans h)
set_option maxRecDepth 100000 in
theorem sPlanStarts_calls (A : Option Addr) (c : Nat) (g : List Tk) (A1 : Option Addr) (c1 : Nat) (rm : List Int) (wk : Int) (w : World) (hr : kTk.C w A g.length g) (hr1 : (Kd.int .i64).C w A1 rm.length rm) :
  Calls Tryd.prog 21 #[.slice A g.length c, .slice A1 rm.length c1, .int .i64 wk] w fun e W' => ∃ v, e = .returned v ∧ Kd.R (Kd.int .i64) 3 W' w.heap.size (fun _ => True) v (pS g rm wk) ∧ Below w.heap.size w W' := by
 have HV := fun b (h : specValid g = b) => validGraph_is b A c g (Lib.hid h) w hr
 have HR := Lib.hid hr
 have HR1 := Lib.hid hr1
 clear hr hr1
 cases h1 : specValid g with
 | false =>
  have HF : Hid (pS g rm wk = []) := Lib.hid (by unfold pS; rw [h1]; rfl)
  have HV := Lib.hid (HV _ h1)
  clear h1
  go_enter Tryd.func21, Tryd.ntmps21
  go_wp2_with (go_at_call 48; refine HV.out.mono ?_; rintro e w1 ⟨rfl, hB1⟩; have HB1 := Lib.hid hB1; clear hB1)
  go_ret
  exact ⟨_, rfl, by rw [HF.out]; exact R_nilJ _ _, HB1.out⟩
 | true =>
  have HVV := Lib.hid h1
  have HV := Lib.hid (HV _ h1)
  clear h1
  cases h2 : roomB rm with
  | false =>
   have HF : Hid (pS g rm wk = []) := Lib.hid (by unfold pS placeB; rw [h2, Bool.false_and, Bool.and_false]; rfl)
   have H2 := Lib.hid h2
   clear h2
   go_enter Tryd.func21, Tryd.ntmps21
   go_wp2_with (first | (go_at_call 48; refine HV.out.mono ?_; rintro e w1 ⟨rfl, hB1⟩; have HB1 := Lib.hid hB1; clear hB1) | (go_at_call 49; refine (validRoom_is _ _ _ _ H2 _ (Kd.C_below HR1.out HB1.out)).mono ?_; rintro e w' ⟨rfl, rfl⟩))
   go_ret
   exact ⟨_, rfl, by rw [HF.out]; exact R_nilJ _ _, HB1.out⟩
  | true =>
   have H2 := Lib.hid h2
   cases h3 : inB wk 1 4 with
   | false =>
    have HF : Hid (pS g rm wk = []) := Lib.hid (by unfold pS placeB; rw [h3, Bool.and_false, Bool.and_false]; rfl)
    have H3 := Lib.hid h3
    clear h2 h3
    go_enter Tryd.func21, Tryd.ntmps21
    go_wp2_with (first | (go_at_call 48; refine HV.out.mono ?_; rintro e w1 ⟨rfl, hB1⟩; have HB1 := Lib.hid hB1; clear hB1) | (go_at_call 49; refine (validRoom_is _ _ _ _ H2 _ (Kd.C_below HR1.out HB1.out)).mono ?_; rintro e w' ⟨rfl, rfl⟩) | (go_at_call 50; refine (inRange_is _ _ _ _ H3 _).mono ?_; rintro e w' ⟨rfl, rfl⟩))
    go_ret
    exact ⟨_, rfl, by rw [HF.out]; exact R_nilJ _ _, HB1.out⟩
   | true =>
    have HF : Hid (pS g rm wk = planS g rm wk) := Lib.hid (by unfold pS placeB; rw [h2, h3, HVV.out]; rfl)
    have H3 := Lib.hid h3
    have HK := Lib.hid (fun (W : World) hr hr1 => plan_calls A c g A1 c1 rm wk HVV.out (roomB_facts h2).1 W hr hr1)
    clear h2 h3
    go_enter Tryd.func21, Tryd.ntmps21
    go_wp2_with (first | (go_at_call 48; refine HV.out.mono ?_; rintro e w1 ⟨rfl, hB1⟩; have HB1 := Lib.hid hB1; clear hB1) | (go_at_call 49; refine (validRoom_is _ _ _ _ H2 _ (Kd.C_below HR1.out HB1.out)).mono ?_; rintro e w' ⟨rfl, rfl⟩) | (go_at_call 50; refine (inRange_is _ _ _ _ H3 _).mono ?_; rintro e w' ⟨rfl, rfl⟩) | (go_at_call 52; refine (HK.out _ (Kd.C_below HR.out HB1.out) (Kd.C_below HR1.out HB1.out)).mono ?_; rintro e w3 ⟨v, rfl, hR, hB3⟩))
    go_ret
    have hz := HB1.out.size
    exact ⟨_, rfl, by rw [HF.out]; exact Kd.R_lower hR hz, HB1.out.trans (hB3.mono hz)⟩
def firstN (P : Nat → Bool) : Nat → Nat → Int
 | 0, _ => -1
 | f + 1, n => if P n then n else firstN P f (n + 1)
def meetsB (g : List Tk) (rm : List Int) (dl : Int) (n : Nat) : Bool := decide (endS g (planS g rm n) g.length ≤ dl)
def wfS (g : List Tk) (rm : List Int) (dl : Int) : Int := if specValid g && (roomB rm && inB dl 0 200) then firstN (meetsB g rm dl) 4 1 else -1
end Go.Proofs.YtdjdfbfcjajlkaaDoor

namespace Go.Proofs.YtdjdfbfcjajlkaaDoor
set_option linter.unusedVariables false
set_option linter.unusedSimpArgs false
open Go.RowKit Go.Shelf Bits
open Go.Proofs.YtdjdfbfcjajlkaaDoorW.PrintWords Go.Proofs.YtdjdfbfcjajlkaaDoorW.PrintLast Go.Proofs.YtdjdfbfcjajlkaaDoorW.PrintMore
attribute [local go_sem] Oper.semAt_some
theorem plan_impl (C : Nat) (g : List Tk) (ns : List Nat) (A1 : Option Addr) (c1 : Nat) (rm : List Int) (wk : Int) (hgr : graphN g = some ns) (hrm : roomB rm = true) (hwk : 1 ≤ wk) (w : World) (hG : IsGraph w C g ns) (hT : Tab w) (hr1 : (Kd.int .i64).C w A1 rm.length rm) :
  Calls Tryd.prog 57 #[.pointer (some ⟨C, 0, none⟩), .slice A1 rm.length c1, .int .i64 wk] w fun e w' => ∃ v, e = .returned v ∧ Kd.R (Kd.int .i64) 3 w' w.heap.size (fun _ => True) v (planS g rm wk) ∧ Below w.heap.size w w' := by
 obtain ⟨K, h1, h2, h3, h4⟩ := plan_eq hgr hrm hwk
 rw [← h4]
 exact iplan_calls C g ns A1 c1 rm wk K hgr (specValid_TOk (graphN_spec hgr)) (roomB_facts hrm).1 h1 h2 h3 w hG hT hr1
set_option maxRecDepth 100000 in
theorem PlanStarts_impl (A : Option Addr) (c : Nat) (g : List Tk) (A1 : Option Addr) (c1 : Nat) (rm : List Int) (wk : Int) (w : World) (hr : kTk.C w A g.length g) (hr1 : (Kd.int .i64).C w A1 rm.length rm) (hT : Tab w) :
  Calls Tryd.prog 22 #[.slice A g.length c, .slice A1 rm.length c1, .int .i64 wk] w fun e W' => ∃ v, e = .returned v ∧ Kd.R (Kd.int .i64) 3 W' w.heap.size (fun _ => True) v (pS g rm wk) ∧ Below w.heap.size w W' := by
 by_cases hp : (specValid g && placeB rm wk) = true
 ·
  have HF : Hid (pS g rm wk = planS g rm wk) := Lib.hid (by unfold pS; rw [if_pos hp])
  rw [Bool.and_eq_true] at hp
  obtain ⟨ns, hg⟩ := graphN_yes hp.1
  obtain ⟨h1, h2, h3⟩ := placeB_facts hp.2
  have HP := Lib.hid (placeIn_yes A c g ns A1 c1 rm wk hp.2 w hr hT hg hr1)
  have HK := Lib.hid (fun (W : World) C (h : IsGraph W C g ns) (hT : Tab W) hr => plan_impl C g ns A1 c1 rm wk hg h1 h2 W h hT hr)
  have HR1 := Lib.hid hr1
  have HT := Lib.hid hT
  clear hr hT hg h1 h2 h3 hp hr1
  go_enter Tryd.func22, Tryd.ntmps22
  go_wp2_with (first | (go_at_call 54; refine HP.out.mono ?_; rintro e w1 ⟨C, rfl, hG, hB1⟩; have HG := Lib.hid hG; have HB1 := Lib.hid hB1; clear hG hB1) | (go_at_call 57; refine (HK.out _ C HG.out (HT.out.keep HT.out.lt HB1.out) (Kd.C_below HR1.out HB1.out)).mono ?_; rintro e w3 ⟨v, rfl, hR, hB3⟩))
  go_ret
  have hz := HB1.out.size
  exact ⟨_, rfl, by rw [HF.out]; exact Kd.R_lower hR hz, HB1.out.trans (hB3.mono hz)⟩
 ·
  have HF : Hid (pS g rm wk = []) := Lib.hid (by unfold pS; rw [if_neg hp])
  have hn : ∀ ns, graphN g = some ns → placeB rm wk = false := fun ns hg => by
   rw [graphN_spec hg, Bool.true_and] at hp
   simpa using hp
  have HP := Lib.hid (placeIn_no A c g A1 c1 rm wk hn w hr hT hr1)
  clear hr hT hp hr1 hn
  go_enter Tryd.func22, Tryd.ntmps22
  go_wp2_with (go_at_call 54; refine HP.out.mono ?_; rintro e w1 ⟨rfl, hB1⟩)
  go_ret
  exact ⟨_, rfl, by rw [HF.out]; exact R_nilJ _ _, hB1⟩
theorem deadlineValid_is (b : Bool) (dl : Int) (h : Hid (inB dl 0 200 = b)) (w : World) : Calls Tryd.prog 55 #[.int .i64 dl] w fun e w' => e = .returned (.bool b) ∧ w' = w := by
 go_enter Tryd.func55, Tryd.ntmps55
 go_wp2_with (go_at_call 64; refine (within_is _ _ _ _ h _).mono ?_; rintro e w2 ⟨rfl, rfl⟩)
 go_ret
 exact ⟨rfl, rfl⟩
set_option maxRecDepth 100000 in
set_option maxHeartbeats 2000000 in
theorem WorkersFor_impl (A : Option Addr) (c : Nat) (g : List Tk) (A1 : Option Addr) (c1 : Nat) (rm : List Int) (dl : Int) (w : World) (hr : kTk.C w A g.length g) (hr1 : (Kd.int .i64).C w A1 rm.length rm) (hT : Tab w) :
  Calls Tryd.prog 18 #[.slice A g.length c, .slice A1 rm.length c1, .int .i64 dl] w fun e W' => e = .returned (.int .i64 (wfS g rm dl)) ∧ Below w.heap.size w W' := by
 by_cases hp : (specValid g && roomB rm) = true
 ·
  rw [Bool.and_eq_true] at hp
  obtain ⟨ns, hg⟩ := graphN_yes hp.1
  have hpl : placeB rm 4 = true := by unfold placeB; rw [hp.2]; rfl
  have HP := Lib.hid (placeIn_yes A c g ns A1 c1 rm 4 hpl w hr hT hg hr1)
  have HK := Lib.hid (fun (n : Nat) (hn : 1 ≤ n) (W : World) C (h : IsGraph W C g ns) (hT : Tab W) hr => plan_impl C g ns A1 c1 rm (n : Nat) hg hp.2 (by omega) W h hT hr)
  have HR1 := Lib.hid hr1
  have HT := Lib.hid hT
  have HOK := Lib.hid (specValid_TOk hp.1)
  have HPP := Lib.hid hp
  clear hr hT hg hp hr1 hpl
  cases h3 : inB dl 0 200 with
  | false =>
   have HF : Hid (wfS g rm dl = -1) := Lib.hid (by unfold wfS; rw [h3, Bool.and_false, Bool.and_false]; rfl)
   have H3 := Lib.hid h3
   clear h3
   go_enter Tryd.func18, Tryd.ntmps18
   go_wp2_with (first | (go_at_call 54; refine HP.out.mono ?_; rintro e w1 ⟨C, rfl, hG, hB1⟩; have HG := Lib.hid hG; have HB1 := Lib.hid hB1; clear hG hB1) | (go_at_call 55; refine (deadlineValid_is _ _ H3 _).mono ?_; rintro e wd ⟨rfl, rfl⟩))
   go_ret
   exact ⟨ret_int HF.out.symm, HB1.out⟩
  | true =>
   have HF : Hid (wfS g rm dl = firstN (meetsB g rm dl) 4 1) := Lib.hid (by unfold wfS; rw [h3, HPP.out.1, HPP.out.2]; rfl)
   have H3 := Lib.hid h3
   clear h3
   go_enter Tryd.func18, Tryd.ntmps18
   go_wp2_with (first | (go_at_call 54; refine HP.out.mono ?_; rintro e w1 ⟨C, rfl, hG, hB1⟩; have HG := Lib.hid hG; have HB1 := Lib.hid hB1; clear hG hB1) | (go_at_call 55; refine (deadlineValid_is _ _ H3 _).mono ?_; rintro e wd ⟨rfl, rfl⟩))
   go_loopw [9] (fun i wr => ∃ n : Nat, 1 ≤ n ∧ n ≤ 5 ∧ i = .int .i64 n ∧ Hid (wfS g rm dl = firstN (meetsB g rm dl) (5 - n) n) ∧ Below wd.heap.size wd wr) (fun i _ => 5 - (intOf i).toNat)
   case atStart => exact ⟨1, by omega, by omega, rfl, HF, Below.refl _ _⟩
   case round =>
    clear HF
    obtain ⟨n, hn1, hn5, rfl, HF, hB⟩ := hrel
    have HB := Lib.hid hB
    clear hB
    by_cases hn : n < 5
    ·
     have dn : decide ((n : Int) ≤ 4) = true := decide_eq_true (by omega)
     have HG2 := Lib.hid (HG.out.below HB.out)
     have HPL := Lib.hid (HK.out n hn1 wr C HG2.out (HT.out.keep HT.out.lt (HB1.out.trans (HB.out.mono HB1.out.size))) (Kd.C_below HR1.out (HB1.out.trans (HB.out.mono HB1.out.size))))
     have hpo := planS_ok g rm n
     have HPO := Lib.hid hpo
     clear hpo
     cases hm : meetsB g rm dl n with
     | true =>
      have HM := Lib.hid hm
      have HFF : Hid (wfS g rm dl = n) := Lib.hid (by
       rw [HF.out, show 5 - n = (4 - n) + 1 by omega]
       show (if meetsB g rm dl n then (n : Int) else _) = _
       rw [if_pos hm])
      unfold meetsB at hm
      clear HM
      generalize planS g rm n = st at HPL HPO hm
      have HEN := Lib.hid (fun (W : World) A' c' h h2 => iend_calls C g ns A' c' st HOK.out HPO.out.sok HPO.out.1 W h h2)
      generalize endS g st g.length = en at hm HEN
      go_wp2_with (first | (go_at_call 57; refine HPL.out.mono ?_; rintro e w3 ⟨v, rfl, hR, hB3⟩; obtain ⟨A3, c3, rfl, _, hC3⟩ := Kd.R_reads hR; have HC3 := Lib.hid hC3; have HB3 := Lib.hid hB3; clear hR hC3 hB3) | (go_at_call 56; refine (HEN.out _ A3 c3 (HG2.out.below HB3.out) HC3.out).mono ?_; rintro e w4 ⟨rfl, rfl⟩))
      go_ret
      exact ⟨ret_int HFF.out.symm, HB1.out.trans ((HB.out.trans (HB3.out.mono HB.out.size)).mono HB1.out.size)⟩
     | false =>
      have HM := Lib.hid hm
      have HFF : Hid (wfS g rm dl = firstN (meetsB g rm dl) (5 - (n + 1)) (n + 1)) := Lib.hid (by
       rw [HF.out, show 5 - n = (5 - (n + 1)) + 1 by omega]
       show (if meetsB g rm dl n then (n : Int) else _) = _
       rw [if_neg (by rw [hm]; simp)])
      unfold meetsB at hm
      clear HM
      generalize planS g rm n = st at HPL HPO hm
      have HEN := Lib.hid (fun (W : World) A' c' h h2 => iend_calls C g ns A' c' st HOK.out HPO.out.sok HPO.out.1 W h h2)
      generalize endS g st g.length = en at hm HEN
      go_wp2_with (first | (go_at_call 57; refine HPL.out.mono ?_; rintro e w3 ⟨v, rfl, hR, hB3⟩; obtain ⟨A3, c3, rfl, _, hC3⟩ := Kd.R_reads hR; have HC3 := Lib.hid hC3; have HB3 := Lib.hid hB3; clear hR hC3 hB3) | (go_at_call 56; refine (HEN.out _ A3 c3 (HG2.out.below HB3.out) HC3.out).mono ?_; rintro e w4 ⟨rfl, rfl⟩))
      go_roundw
      case rel => exact ⟨n + 1, by omega, by omega, by go_num, HFF, HB.out.trans (HB3.out.mono HB.out.size)⟩
      case measure => simp [intOf]; omega
    ·
     obtain rfl : n = 5 := by omega
     have dn : decide (((5 : Nat) : Int) ≤ 4) = false := by decide
     have HFF : Hid (wfS g rm dl = -1) := Lib.hid (by rw [HF.out]; rfl)
     go_wp2
     go_ret
     exact ⟨ret_int HFF.out.symm, HB1.out.trans (HB.out.mono HB1.out.size)⟩
 ·
  have HF : Hid (wfS g rm dl = -1) := Lib.hid (by
   unfold wfS
   rw [← Bool.and_assoc]
   have : (specValid g && roomB rm) = false := by simpa using hp
   rw [this]; rfl)
  have hn : ∀ ns, graphN g = some ns → placeB rm 4 = false := fun ns hg => by
   rw [graphN_spec hg, Bool.true_and] at hp
   unfold placeB
   have : roomB rm = false := by simpa using hp
   rw [this]; rfl
  have HP := Lib.hid (placeIn_no A c g A1 c1 rm 4 hn w hr hT hr1)
  clear hr hT hp hr1 hn
  go_enter Tryd.func18, Tryd.ntmps18
  go_wp2_with (go_at_call 54; refine HP.out.mono ?_; rintro e w1 ⟨rfl, hB1⟩)
  go_ret
  exact ⟨ret_int HF.out.symm, hB1⟩
set_option maxRecDepth 100000 in
set_option maxHeartbeats 2000000 in
theorem sWorkersFor_calls (A : Option Addr) (c : Nat) (g : List Tk) (A1 : Option Addr) (c1 : Nat) (rm : List Int) (dl : Int) (w : World) (hr : kTk.C w A g.length g) (hr1 : (Kd.int .i64).C w A1 rm.length rm) :
  Calls Tryd.prog 15 #[.slice A g.length c, .slice A1 rm.length c1, .int .i64 dl] w fun e W' => e = .returned (.int .i64 (wfS g rm dl)) ∧ Below w.heap.size w W' := by
 have HV := fun b (h : specValid g = b) => validGraph_is b A c g (Lib.hid h) w hr
 have HR := Lib.hid hr
 have HR1 := Lib.hid hr1
 clear hr hr1
 cases h1 : specValid g with
 | false =>
  have HF : Hid (wfS g rm dl = -1) := Lib.hid (by unfold wfS; rw [h1]; rfl)
  have HV := Lib.hid (HV _ h1)
  clear h1
  go_enter Tryd.func15, Tryd.ntmps15
  go_wp2_with (go_at_call 48; refine HV.out.mono ?_; rintro e w1 ⟨rfl, hB1⟩; have HB1 := Lib.hid hB1; clear hB1)
  go_ret
  exact ⟨ret_int HF.out.symm, HB1.out⟩
 | true =>
  have HVV := Lib.hid h1
  have HV := Lib.hid (HV _ h1)
  clear h1
  cases h2 : roomB rm with
  | false =>
   have HF : Hid (wfS g rm dl = -1) := Lib.hid (by unfold wfS; rw [h2, Bool.false_and, Bool.and_false]; rfl)
   have H2 := Lib.hid h2
   clear h2
   go_enter Tryd.func15, Tryd.ntmps15
   go_wp2_with (first | (go_at_call 48; refine HV.out.mono ?_; rintro e w1 ⟨rfl, hB1⟩; have HB1 := Lib.hid hB1; clear hB1) | (go_at_call 49; refine (validRoom_is _ _ _ _ H2 _ (Kd.C_below HR1.out HB1.out)).mono ?_; rintro e w' ⟨rfl, rfl⟩))
   go_ret
   exact ⟨ret_int HF.out.symm, HB1.out⟩
  | true =>
   have H2 := Lib.hid h2
   cases h3 : inB dl 0 200 with
   | false =>
    have HF : Hid (wfS g rm dl = -1) := Lib.hid (by unfold wfS; rw [h3, Bool.and_false, Bool.and_false]; rfl)
    have H3 := Lib.hid h3
    clear h2 h3
    go_enter Tryd.func15, Tryd.ntmps15
    go_wp2_with (first | (go_at_call 48; refine HV.out.mono ?_; rintro e w1 ⟨rfl, hB1⟩; have HB1 := Lib.hid hB1; clear hB1) | (go_at_call 49; refine (validRoom_is _ _ _ _ H2 _ (Kd.C_below HR1.out HB1.out)).mono ?_; rintro e w' ⟨rfl, rfl⟩) | (go_at_call 50; refine (inRange_is _ _ _ _ H3 _).mono ?_; rintro e w' ⟨rfl, rfl⟩))
    go_ret
    exact ⟨ret_int HF.out.symm, HB1.out⟩
   | true =>
    have HF : Hid (wfS g rm dl = firstN (meetsB g rm dl) 4 1) := Lib.hid (by unfold wfS; rw [h3, h2, HVV.out]; rfl)
    have H3 := Lib.hid h3
    have HK := Lib.hid (fun (n : Nat) (W : World) hr hr1 => plan_calls A c g A1 c1 rm (n : Nat) HVV.out (roomB_facts h2).1 W hr hr1)
    have HOK := Lib.hid (specValid_TOk HVV.out)
    clear h2 h3
    go_enter Tryd.func15, Tryd.ntmps15
    go_wp2_with (first | (go_at_call 48; refine HV.out.mono ?_; rintro e w1 ⟨rfl, hB1⟩; have HB1 := Lib.hid hB1; clear hB1) | (go_at_call 49; refine (validRoom_is _ _ _ _ H2 _ (Kd.C_below HR1.out HB1.out)).mono ?_; rintro e w' ⟨rfl, rfl⟩) | (go_at_call 50; refine (inRange_is _ _ _ _ H3 _).mono ?_; rintro e w' ⟨rfl, rfl⟩))
    have HBB := Lib.hid HB1.out
    go_loopw [7] (fun i wr => ∃ n : Nat, 1 ≤ n ∧ n ≤ 5 ∧ i = .int .i64 n ∧ Hid (wfS g rm dl = firstN (meetsB g rm dl) (5 - n) n) ∧ Below w.heap.size w wr) (fun i _ => 5 - (intOf i).toNat)
    case atStart => exact ⟨1, by omega, by omega, rfl, HF, HBB.out⟩
    case round =>
     clear HF
     obtain ⟨n, hn1, hn5, rfl, HF, hB⟩ := hrel
     have HB := Lib.hid hB
     clear hB
     by_cases hn : n < 5
     ·
      have dn : decide ((n : Int) ≤ 4) = true := decide_eq_true (by omega)
      have HPL := Lib.hid (HK.out n wr (Kd.C_below HR.out HB.out) (Kd.C_below HR1.out HB.out))
      have hpo := planS_ok g rm n
      have HPO := Lib.hid hpo
      clear hpo
      cases hm : meetsB g rm dl n with
      | true =>
       have HFF : Hid (wfS g rm dl = n) := Lib.hid (by
        rw [HF.out, show 5 - n = (4 - n) + 1 by omega]
        show (if meetsB g rm dl n then (n : Int) else _) = _
        rw [if_pos hm])
       unfold meetsB at hm
       generalize planS g rm n = st at HPL HPO hm
       have HEN := Lib.hid (fun (W : World) A' c' h h2 => endOf_calls A c g A' c' st HOK.out HPO.out.sok HPO.out.1 W h h2)
       generalize endS g st g.length = en at hm HEN
       go_wp2_with (first | (go_at_call 52; refine HPL.out.mono ?_; rintro e w3 ⟨v, rfl, hR, hB3⟩; obtain ⟨A3, c3, rfl, _, hC3⟩ := Kd.R_reads hR; have HC3 := Lib.hid hC3; have HB3 := Lib.hid (HB.out.trans (hB3.mono HB.out.size)); clear hR hC3 hB3) | (go_at_call 51; refine (HEN.out _ A3 c3 (Kd.C_below HR.out HB3.out) HC3.out).mono ?_; rintro e w4 ⟨rfl, hB4⟩; have HB4 := Lib.hid (HB3.out.trans (hB4.mono HB3.out.size)); clear hB4))
       go_ret
       exact ⟨ret_int HFF.out.symm, HB4.out⟩
      | false =>
       have HFF : Hid (wfS g rm dl = firstN (meetsB g rm dl) (5 - (n + 1)) (n + 1)) := Lib.hid (by
        rw [HF.out, show 5 - n = (5 - (n + 1)) + 1 by omega]
        show (if meetsB g rm dl n then (n : Int) else _) = _
        rw [if_neg (by rw [hm]; simp)])
       unfold meetsB at hm
       generalize planS g rm n = st at HPL HPO hm
       have HEN := Lib.hid (fun (W : World) A' c' h h2 => endOf_calls A c g A' c' st HOK.out HPO.out.sok HPO.out.1 W h h2)
       generalize endS g st g.length = en at hm HEN
       go_wp2_with (first | (go_at_call 52; refine HPL.out.mono ?_; rintro e w3 ⟨v, rfl, hR, hB3⟩; obtain ⟨A3, c3, rfl, _, hC3⟩ := Kd.R_reads hR; have HC3 := Lib.hid hC3; have HB3 := Lib.hid (HB.out.trans (hB3.mono HB.out.size)); clear hR hC3 hB3) | (go_at_call 51; refine (HEN.out _ A3 c3 (Kd.C_below HR.out HB3.out) HC3.out).mono ?_; rintro e w4 ⟨rfl, hB4⟩; have HB4 := Lib.hid (HB3.out.trans (hB4.mono HB3.out.size)); clear hB4))
       go_roundw
       case rel => exact ⟨n + 1, by omega, by omega, by go_num, HFF, HB4.out⟩
       case measure => simp [intOf]; omega
     ·
      obtain rfl : n = 5 := by omega
      have dn : decide (((5 : Nat) : Int) ≤ 4) = false := by decide
      have HFF : Hid (wfS g rm dl = -1) := Lib.hid (by rw [HF.out]; rfl)
      go_wp2
      go_ret
      exact ⟨ret_int HFF.out.symm, HB.out⟩
end Go.Proofs.YtdjdfbfcjajlkaaDoor
