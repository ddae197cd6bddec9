/- Parts of the proof, laid as one text by a program of mine. -/
import Derived.Test.YtkljcdghbefceaaGreatDoorKbtc11
import Derived.Test.YtkljcdghbefceaaGreatDoorKbtc7
import Derived.Test.YtkljcdghbefceaaGreatDoorKbtc5
namespace Go.Proofs.YtkljcdghbefceaaGreatDoor
set_option linter.unusedVariables false
set_option linter.unusedSimpArgs false
open Go.RowKit Go.Shelf Bits
theorem inB_iff {x a b : Int} : inB x a b = true ↔ a ≤ x ∧ x ≤ b := inB_true
theorem roomB_facts {rm : List Int} (h : roomB rm = true) : rm.length = 3 ∧ ∀ p, p < 3 → 4 ≤ rm.getD p 0 ∧ rm.getD p 0 ≤ 8 := by
 unfold roomB allInB at h
 rw [Bool.and_eq_true, List.all_eq_true] at h
 have h3 := of_decide_eq_true h.1
 refine ⟨h3, fun p hp => ?_⟩
 have := h.2 (rm.getD p 0) (by
  rw [List.getD_eq_getElem?_getD, List.getElem?_eq_getElem (by omega)]
  exact List.getElem_mem _)
 exact inB_true.1 this
theorem putS_len (now : Int) : ∀ (l : List Nat) (st : List Int), (putS now st l).length = st.length
 | [], _ => rfl
 | i :: l, st => by
  show (putS now (st.set i now) l).length = _
  rw [putS_len now l, List.length_set]
theorem putS_get (now : Int) : ∀ (l : List Nat) (st : List Int) (j : Nat), (∀ x ∈ l, x < st.length) → (putS now st l).getD j 0 = if j ∈ l then now else st.getD j 0
 | [], st, j, _ => by simp [putS]
 | i :: l, st, j, h => by
  show (putS now (st.set i now) l).getD j 0 = _
  rw [putS_get now l _ j (fun x hx => by rw [List.length_set]; exact h x (List.mem_cons_of_mem _ hx)), getD_setI _ _ _ _ (h i List.mem_cons_self)]
  by_cases hl : j ∈ l
  ·
   rw [if_pos hl, if_pos (List.mem_cons_of_mem _ hl)]
  ·
   rw [if_neg hl]
   by_cases hi : j = i
   ·
    subst hi
    rw [if_pos rfl, if_pos List.mem_cons_self]
   ·
    rw [if_neg hi, if_neg (fun h => by
     rcases List.mem_cons.1 h with e | e
     ·
      exact hi e
     ·
      exact hl e)]
theorem admN_in (g : List Tk) (rm : List Int) (wk : Int) (c : Ct) (l : List Nat) : ∀ i ∈ (admN g rm wk c l).2, i ∈ l := by
 have := admN_sub g rm wk c l l.length (Nat.le_refl _)
 rw [List.take_length] at this
 exact this
theorem nextS_in {g : List Tk} {rm : List Int} {wk : Int} {st : List Int} {now : Int} {x : Nat} (h : x ∈ nextS g rm wk st now) : x < g.length ∧ rdB g (ints (overS g st now)) x = true ∧ st.getD x 0 = 200 := by
 have h1 := insL_mem _ _ x (admN_in g rm wk _ _ x h)
 have h2 := List.mem_filter.1 h1
 have h3 := List.mem_filter.1 h2.1
 refine ⟨List.mem_range.1 h3.1, h3.2, ?_⟩
 have := h2.2
 unfold idleB at this
 exact beq_iff_eq.1 this
theorem stepS_get {g : List Tk} {rm : List Int} {wk : Int} {st : List Int} (hl : st.length = g.length) (k j : Nat) : (stepS g rm wk st k).getD j 0 = if j ∈ nextS g rm wk st k then (k : Int) else st.getD j 0 :=
 putS_get _ _ _ _ (fun x hx => by rw [hl]; exact nextS_lt g rm wk st k x hx)
theorem planL_before (g : List Tk) (rm : List Int) (wk : Int) : ∀ k, k ≤ 200 → ∀ j, j < g.length → (planL g rm wk k).getD j 0 = 200 ∨ (0 ≤ (planL g rm wk k).getD j 0 ∧ (planL g rm wk k).getD j 0 < k)
 | 0, _, j, hj => by
  left
  unfold planL
  rw [List.getD_eq_getElem?_getD, List.getElem?_replicate, if_pos hj]
  rfl
 | k + 1, hk, j, hj => by
  have ih := planL_before g rm wk k (by omega) j hj
  show (stepS g rm wk (planL g rm wk k) k).getD j 0 = 200 ∨ _
  rw [show planL g rm wk (k + 1) = stepS g rm wk (planL g rm wk k) k from rfl, stepS_get (planL_ok g rm wk k (by omega)).1]
  split
  ·
   right; omega
  ·
   rcases ih with h | h
   ·
    exact .inl h
   ·
    right; omega
theorem overB_iff {g : List Tk} {st : List Int} {now : Int} {i : Nat} : overB g st now i = true ↔ st.getD i 0 + (rdTk g i).f0 ≤ now := by
 unfold overB
 exact decide_eq_true_iff
theorem mem_overS {g : List Tk} {st : List Int} {now : Int} {i : Nat} : i ∈ overS g st now ↔ i < g.length ∧ st.getD i 0 + (rdTk g i).f0 ≤ now := by
 unfold overS
 rw [List.mem_filter, List.mem_range, overB_iff]
theorem mem_runS {g : List Tk} {st : List Int} {now : Int} {i : Nat} : i ∈ runS g st now ↔ i < g.length ∧ st.getD i 0 ≤ now ∧ now < st.getD i 0 + (rdTk g i).f0 := by
 unfold runS runB
 rw [List.mem_filter, List.mem_range, Bool.and_eq_true, decide_eq_true_iff, decide_eq_true_iff]
theorem idleB_iff {L : List Int} {j : Nat} : idleB L j = true ↔ L.getD j 0 = 200 := by
 unfold idleB
 exact beq_iff_eq
def workF (g : List Tk) (L : List Int) (k : Int) (i : Nat) : Int := if L.getD i 0 = 200 then 0 else min (rdTk g i).f0 (k - L.getD i 0)
def sumTo (f : Nat → Int) : Nat → Int
 | 0 => 0
 | n + 1 => sumTo f n + f n
theorem sumTo_le {f h : Nat → Int} : ∀ n, (∀ i, i < n → f i ≤ h i) → sumTo f n ≤ sumTo h n
 | 0, _ => Int.le_refl _
 | n + 1, hh => by
  have h1 := sumTo_le n (fun i hi => hh i (by omega))
  have h2 := hh n (by omega)
  unfold sumTo
  omega
theorem sumTo_lt {f h : Nat → Int} : ∀ n, (∀ i, i < n → f i ≤ h i) → (∃ i, i < n ∧ f i + 1 ≤ h i) → sumTo f n + 1 ≤ sumTo h n
 | 0, _, ⟨_, hi, _⟩ => by omega
 | n + 1, hh, ⟨i, hi, hc⟩ => by
  have h2 := hh n (by omega)
  unfold sumTo
  by_cases hin : i < n
  ·
   have h1 := sumTo_lt n (fun i hi => hh i (by omega)) ⟨i, hin, hc⟩
   omega
  ·
   have h1 := sumTo_le n (fun i hi => hh i (Nat.lt_succ_of_lt hi))
   obtain rfl : i = n := by omega
   omega
def timeS (g : List Tk) : Int := sumTo (fun i => (rdTk g i).f0) g.length
theorem sumTo_bound {f : Nat → Int} {a b : Int} : ∀ n, (∀ i, i < n → a ≤ f i ∧ f i ≤ b) → a * n ≤ sumTo f n ∧ sumTo f n ≤ b * n
 | 0, _ => by simp [sumTo]
 | n + 1, h => by
  have h1 := sumTo_bound n (fun i hi => h i (by omega))
  have h2 := h n (by omega)
  unfold sumTo
  rw [show ((n + 1 : Nat) : Int) = (n : Int) + 1 from by omega, Int.mul_add, Int.mul_add]
  omega
theorem timeS_bound {g : List Tk} (h : TOk g) : 0 ≤ timeS g ∧ timeS g ≤ 160 := by
 have := sumTo_bound (f := fun i => (rdTk g i).f0) (a := 0) (b := 20) g.length (fun i _ => h.2.1 i)
 have := h.1
 unfold timeS
 omega
theorem admFold_keeps (g : List Tk) (rm : List Int) (wk : Int) : ∀ (l : List Nat) (st : Ct × List Nat), ∀ x ∈ st.2, x ∈ (l.foldl (admStep g rm wk) st).2
 | [], _, x, h => h
 | i :: l, st, x, h => admFold_keeps g rm wk l (admStep g rm wk st i) x (by
  unfold admStep
  split
  ·
   exact List.mem_append_left _ h
  ·
   exact h)
theorem adm_first {g : List Tk} (hok : TOk g) {rm : List Int} (hrm : roomB rm = true) {wk : Int} (hwk : 1 ≤ wk) (x : Nat) (l : List Nat) : x ∈ (admN g rm wk (cnt g []) (x :: l)).2 := by
 have h2 := hok.2.2.1 x
 have h3 := hok.2.2.2.1 x
 have h4 := (roomB_facts hrm).2 (rdTk g x).f2.toNat (by omega)
 refine admFold_keeps g rm wk l _ x ?_
 unfold admStep
 have : (cnt g []).can (rdTk g x).f2.toNat (rdTk g x).f3 rm wk = true := by
  unfold Ct.can
  rw [Bool.and_eq_true, decide_eq_true_iff, decide_eq_true_iff]
  refine ⟨by show (([] : List Nat).length : Int) < wk; simp; omega, ?_⟩
  show usedS g [] ((rdTk g x).f2.toNat : Int) + (rdTk g x).f3 ≤ rm.getD (rdTk g x).f2.toNat 0
  rw [show usedS g [] ((rdTk g x).f2.toNat : Int) = 0 from rfl]
  omega
 rw [if_pos this]
 simp
theorem topL_len {g : List Tk} (hv : specValid g = true) : (topL g).length = g.length := by
 unfold specValid at hv
 rw [Bool.and_eq_true] at hv
 exact of_decide_eq_true hv.2
theorem some_ready {g : List Tk} (hv : specValid g = true) {D : List Nat} (hD : ∃ i, i < g.length ∧ ¬ i ∈ D) : ∃ i, i < g.length ∧ rdB g (ints D) i = true := by
 obtain ⟨i, hi, hn⟩ := hD
 have hin := top_all hv hi
 -- the first task of the order that is not done
 have key : ∀ m, m ≤ (topL g).length → (∀ p, p < m → (topL g).getD p 0 ∈ D) ∨ ∃ p, p < (topL g).length ∧ ¬ (topL g).getD p 0 ∈ D ∧ ∀ q, q < p → (topL g).getD q 0 ∈ D := by
  intro m
  induction m with
  | zero => exact fun _ => .inl fun p hp => absurd hp (Nat.not_lt_zero _)
  | succ m ih =>
   intro hm
   rcases ih (by omega) with h | h
   ·
    by_cases hc : (topL g).getD m 0 ∈ D
    ·
     left
     intro p hp
     by_cases hpm : p = m
     ·
      rw [hpm]; exact hc
     ·
      exact h p (by omega)
    ·
     exact .inr ⟨m, by omega, hc, h⟩
   ·
    exact .inr h
 rcases key _ (Nat.le_refl _) with h | ⟨p, hp, h1, h2⟩
 ·
  obtain ⟨p, hp, e⟩ := List.getElem_of_mem hin
  refine absurd ?_ hn
  have := h p hp
  rw [List.getD_eq_getElem?_getD, List.getElem?_eq_getElem hp] at this
  rw [← e]
  exact this
 ·
  have hmem : (topL g).getD p 0 ∈ topL g := by
   rw [List.getD_eq_getElem?_getD, List.getElem?_eq_getElem hp]
   exact List.getElem_mem _
  have hlt := (topN_facts g g.length).2.1 _ hmem
  refine ⟨(topL g).getD p 0, hlt, ?_⟩
  unfold rdB allDoneB
  rw [Bool.and_eq_true, Bool.not_eq_true', decide_eq_false_iff_not, mem_intsN, List.all_eq_true]
  refine ⟨h1, fun x hx => ?_⟩
  obtain ⟨ns, hg⟩ := Option.isSome_iff_exists.1 ((specValid_eq g).symm.trans hv)
  obtain ⟨hx0, _⟩ := setOfL_mem _ _ _ _ _ (by omega) ((graphN_all hg).2.2 _ hlt).2 x hx
  have hxe : x = ((x.toNat : Nat) : Int) := by omega
  rw [hxe] at hx ⊢
  have ht := topo_topN g g.length p hp x.toNat hx
  obtain ⟨q, hq, e⟩ := List.getElem_of_mem ht
  have hq2 : q < p := by simp at hq; omega
  have := h2 q hq2
  rw [List.getElem_take] at e
  rw [List.getD_eq_getElem?_getD, List.getElem?_eq_getElem (show q < (topL g).length by omega)] at this
  rw [decide_eq_true_iff, mem_intsN, ← e]
  exact this
theorem plan_moves {g : List Tk} (hv : specValid g = true) {rm : List Int} (hrm : roomB rm = true) {wk : Int} (hwk : 1 ≤ wk) {L : List Int} {k : Nat} (hk : k < 200) (hL : L.length = g.length) (hB : ∀ j, j < g.length → L.getD j 0 = 200 ∨ (0 ≤ L.getD j 0 ∧ L.getD j 0 < k)) (hn : ∃ i, i < g.length ∧ ¬ L.getD i 0 + (rdTk g i).f0 ≤ k) :
  ∃ i, i < g.length ∧ (stepS g rm wk L k).getD i 0 ≤ k ∧ (k : Int) < (stepS g rm wk L k).getD i 0 + (rdTk g i).f0 := by
 have hok := specValid_TOk hv
 by_cases hr : runS g L k = []
 ·
  obtain ⟨x, hx, hrd⟩ := some_ready hv (D := overS g L k) (by
   obtain ⟨i, hi, h⟩ := hn
   exact ⟨i, hi, fun hm => h (mem_overS.1 hm).2⟩)
  have hxi : L.getD x 0 = 200 := by
   rcases hB x hx with e | e
   ·
    exact e
   ·
    exfalso
    have hno : ¬ x ∈ overS g L k := by
     intro hm
     unfold rdB at hrd
     rw [Bool.and_eq_true, Bool.not_eq_true', decide_eq_false_iff_not, mem_intsN] at hrd
     exact hrd.1 hm
    have hm : x ∈ runS g L k := mem_runS.2 ⟨hx, by omega, by
     by_cases hc : L.getD x 0 + (rdTk g x).f0 ≤ k
     ·
      exact absurd (mem_overS.2 ⟨hx, hc⟩) hno
     ·
      omega⟩
    rw [hr] at hm
    cases hm
  have hmem : x ∈ insL (tailsS g) ((readyS g (ints (overS g L k))).filter (idleB L)) := (insL_perm _ _).mem_iff.2 (List.mem_filter.2 ⟨List.mem_filter.2 ⟨List.mem_range.2 hx, hrd⟩, idleB_iff.2 hxi⟩)
  obtain ⟨y, ys, hys⟩ := List.exists_cons_of_ne_nil (List.ne_nil_of_mem hmem)
  have hy : y ∈ nextS g rm wk L k := by
   unfold nextS
   rw [hys, hr]
   exact adm_first hok hrm hwk y ys
  have hyl := nextS_lt g rm wk L k y hy
  have ht := hok.2.2.2.2 y hyl
  refine ⟨y, hyl, ?_, ?_⟩
  ·
   rw [stepS_get hL, if_pos hy]
   omega
  ·
   rw [stepS_get hL, if_pos hy]
   omega
 ·
  obtain ⟨y, ys, hys⟩ := List.exists_cons_of_ne_nil hr
  obtain ⟨h1, h2, h3⟩ := mem_runS.1 (show y ∈ runS g L k by rw [hys]; exact List.mem_cons_self)
  have hny : ¬ y ∈ nextS g rm wk L k := fun hm => by
   have := (nextS_in hm).2.2
   omega
  exact ⟨y, h1, by rw [stepS_get hL, if_neg hny]; exact h2, by rw [stepS_get hL, if_neg hny]; exact h3⟩
theorem work_le {g : List Tk} (rm : List Int) (wk : Int) {L : List Int} {k : Nat} (hL : L.length = g.length) (hok : TOk g) (hk : k < 200) (i : Nat) (hi : i < g.length) : workF g L k i ≤ workF g (stepS g rm wk L k) (k + 1) i ∧ ((stepS g rm wk L k).getD i 0 ≤ k → (k : Int) < (stepS g rm wk L k).getD i 0 + (rdTk g i).f0 → workF g L k i + 1 ≤ workF g (stepS g rm wk L k) (k + 1) i) := by
 have ht := hok.2.2.2.2 i hi
 unfold workF
 by_cases hm : i ∈ nextS g rm wk L k
 ·
  have h1 := (nextS_in hm).2.2
  have h2 : (stepS g rm wk L k).getD i 0 = k := by rw [stepS_get hL, if_pos hm]
  rw [h2, if_pos h1, if_neg (by omega)]
  omega
 ·
  have h2 : (stepS g rm wk L k).getD i 0 = L.getD i 0 := by rw [stepS_get hL, if_neg hm]
  rw [h2]
  by_cases hc : L.getD i 0 = 200
  ·
   rw [if_pos hc, if_pos hc, hc]
   omega
  ·
   rw [if_neg hc, if_neg hc]
   omega
theorem plan_work {g : List Tk} (hv : specValid g = true) {rm : List Int} (hrm : roomB rm = true) {wk : Int} (hwk : 1 ≤ wk) : ∀ m, m ≤ 200 → (∀ k, k < m → ∃ i, i < g.length ∧ ¬ (planL g rm wk k).getD i 0 + (rdTk g i).f0 ≤ k) → (m : Int) ≤ sumTo (workF g (planL g rm wk m) m) g.length
 | 0, _, _ => by
  have := sumTo_bound (f := workF g (planL g rm wk 0) (0 : Nat)) (a := 0) (b := 0) g.length (fun i hi => by
   unfold workF
   rw [if_pos (by
    unfold planL
    rw [List.getD_eq_getElem?_getD, List.getElem?_replicate, if_pos hi]
    rfl)]
   omega)
  omega
 | m + 1, hm, h => by
  have ih := plan_work hv hrm hwk m (by omega) (fun k hk => h k (by omega))
  have hL := (planL_ok g rm wk m (by omega)).1
  have hok := specValid_TOk hv
  obtain ⟨i, hi, h1, h2⟩ := plan_moves hv hrm hwk (by omega) hL (planL_before g rm wk m (by omega)) (h m (by omega))
  have := sumTo_lt (f := workF g (planL g rm wk m) m) (h := workF g (planL g rm wk (m + 1)) (m + 1 : Nat)) g.length (fun j hj => (work_le rm wk hL hok (by omega) j hj).1) ⟨i, hi, (work_le rm wk hL hok (by omega) i hi).2 h1 h2⟩
  omega
theorem plan_ends {g : List Tk} (hv : specValid g = true) {rm : List Int} (hrm : roomB rm = true) {wk : Int} (hwk : 1 ≤ wk) : ∃ k : Nat, (k : Int) ≤ timeS g ∧ ∀ i, i < g.length → (planL g rm wk k).getD i 0 + (rdTk g i).f0 ≤ k := by
 have hok := specValid_TOk hv
 have hT := timeS_bound hok
 by_cases hc : ∃ k : Nat, (k : Int) ≤ timeS g ∧ ∀ i, i < g.length → (planL g rm wk k).getD i 0 + (rdTk g i).f0 ≤ k
 ·
  exact hc
 ·
  exfalso
  have h1 := plan_work hv hrm hwk ((timeS g).toNat + 1) (by omega) (fun k hk => by
   by_cases he : ∃ i, i < g.length ∧ ¬ (planL g rm wk k).getD i 0 + (rdTk g i).f0 ≤ k
   ·
    exact he
   ·
    exfalso
    refine hc ⟨k, by omega, fun i hi => ?_⟩
    by_cases hx : (planL g rm wk k).getD i 0 + (rdTk g i).f0 ≤ k
    ·
     exact hx
    ·
     exact absurd ⟨i, hi, hx⟩ he)
  have h2 : sumTo (workF g (planL g rm wk ((timeS g).toNat + 1)) ((timeS g).toNat + 1 : Nat)) g.length ≤ timeS g := sumTo_le _ (fun i _ => by
   unfold workF
   have := hok.2.1 i
   split <;> omega)
  omega
theorem plan_stands {g : List Tk} {rm : List Int} {wk : Int} {k : Nat} (h : ∀ i, i < g.length → (planL g rm wk k).getD i 0 ≠ 200) : ∀ d, planL g rm wk (k + d) = planL g rm wk k
 | 0 => rfl
 | d + 1 => by
  show stepS g rm wk (planL g rm wk (k + d)) _ = _
  rw [plan_stands h d]
  unfold stepS
  cases hn : nextS g rm wk (planL g rm wk k) (k + d : Nat) with
  | nil => rfl
  | cons x xs =>
   have hx : x ∈ nextS g rm wk (planL g rm wk k) (k + d : Nat) := by rw [hn]; exact List.mem_cons_self
   exact absurd (nextS_in hx).2.2 (h x (nextS_in hx).1)
theorem planS_ends {g : List Tk} (hv : specValid g = true) {rm : List Int} (hrm : roomB rm = true) {wk : Int} (hwk : 1 ≤ wk) : ∀ i, i < g.length → (planS g rm wk).getD i 0 + (rdTk g i).f0 ≤ timeS g := by
 have hok := specValid_TOk hv
 have hT := timeS_bound hok
 obtain ⟨k, hk, he⟩ := plan_ends hv hrm hwk
 have hn200 : ∀ i, i < g.length → (planL g rm wk k).getD i 0 ≠ 200 := fun i hi e => by
  have := he i hi
  have := hok.2.1 i
  omega
 intro i hi
 have := plan_stands hn200 (200 - k)
 rw [show k + (200 - k) = 200 by omega] at this
 unfold planS
 rw [this]
 have := he i hi
 omega
end Go.Proofs.YtkljcdghbefceaaGreatDoor

namespace Go.Proofs.YtkljcdghbefceaaGreatDoor
set_option linter.unusedVariables false
set_option linter.unusedSimpArgs false
open Go.RowKit Go.Shelf Bits
open Go.Proofs.YtkljcdghbefceaaGreatDoorW.PrintWords Go.Proofs.YtkljcdghbefceaaGreatDoorW.PrintLast Go.Proofs.YtkljcdghbefceaaGreatDoorW.PrintMore
def pS (g : List Tk) (rm : List Int) (wk : Int) : List Int := if specValid g && placeB rm wk then planS g rm wk else []
theorem placeB_facts {rm : List Int} {wk : Int} (h : placeB rm wk = true) : roomB rm = true ∧ 1 ≤ wk ∧ wk ≤ 4 := by
 unfold placeB at h
 rw [Bool.and_eq_true] at h
 exact ⟨h.1, inB_true.1 h.2⟩
theorem planS_ok (g : List Tk) (rm : List Int) (wk : Int) : StOk g.length (planS g rm wk) := planL_ok g rm wk 200 (Nat.le_refl _)
theorem StOk.sok {n : Nat} {st : List Int} (h : StOk n st) : SOk st := fun i => by have := h.2 i; omega
theorem R_nilJ (w : World) (base : Nat) : Kd.R (Kd.int .i64) 3 w base (fun _ => True) (.slice none 0 0) [] := Kd.R_of_own ⟨by simp [encs], .inl ⟨rfl, by simp [encs]⟩⟩ (fun _ _ => trivial)
theorem graphN_no {g : List Tk} (h : specValid g = false) : graphN g = none := by
 rw [specValid_eq] at h
 cases hg : graphN g with
 | none => rfl
 | some ns => rw [hg] at h; cases h
theorem graphN_yes {g : List Tk} (h : specValid g = true) : ∃ ns, graphN g = some ns := Option.isSome_iff_exists.1 ((specValid_eq g).symm.trans h)
def firstN (P : Nat → Bool) : Nat → Nat → Int
 | 0, _ => -1
 | f + 1, n => if P n then n else firstN P f (n + 1)
def meetsB (g : List Tk) (rm : List Int) (dl : Int) (n : Nat) : Bool := decide (endS g (planS g rm n) g.length ≤ dl)
def wfS (g : List Tk) (rm : List Int) (dl : Int) : Int := if specValid g && (roomB rm && inB dl 0 200) then firstN (meetsB g rm dl) 4 1 else -1
end Go.Proofs.YtkljcdghbefceaaGreatDoor

namespace Go.Proofs.YtkljcdghbefceaaGreatDoor
set_option linter.unusedVariables false
set_option linter.unusedSimpArgs false
open Go.RowKit Go.Shelf Bits
open Go.Proofs.YtkljcdghbefceaaGreatDoorW.PrintWords Go.Proofs.YtkljcdghbefceaaGreatDoorW.PrintLast Go.Proofs.YtkljcdghbefceaaGreatDoorW.PrintMore
attribute [local go_sem] Oper.semAt_some
set_option maxRecDepth 100000 in
set_option maxHeartbeats 2000000 in
theorem iend_calls (C : Nat) (g : List Tk) (ns : List Nat) (A' : Option Addr) (c' : Nat) (st : List Int) (hg : TOk g) (hs : SOk st) (hl : st.length = g.length) (w : World) (hG : IsGraph w C g ns) (hr' : (Kd.int .i64).C w A' st.length st) :
  Calls Tryz.prog 17 #[.pointer (some ⟨C, 0, none⟩), .slice A' st.length c'] w fun e w' => e = .returned (.int .i64 (endS g st g.length)) ∧ w' = w := by
 obtain ⟨Ag, cg, An, cn, Ao, co, vb, va, h1, h2, _, _⟩ := hG
 have cC := blk_cell h1 0
 simp at cC
 have HR := Lib.hid h2
 have HR' := Lib.hid hr'
 have HG := Lib.hid hg
 have HS := Lib.hid hs
 have HL := Lib.hid hl
 have h8 := hg.1
 have hl8 : st.length ≤ 8 := by omega
 clear h1 h2 hr' hg hs hl
 go_enter Tryz.func17, Tryz.ntmps17
 go_wp2
 go_loop [5, 10] (fun n i => ∃ (j : Nat), j ≤ st.length ∧ i = .int .i64 j ∧ n = .int .i64 (endS g st j)) (fun _ i => st.length - (intOf i).toNat)
 case atStart => exact ⟨0, Nat.zero_le _, rfl, rfl⟩
 case round =>
  obtain ⟨j, hj, rfl, rfl⟩ := hrel
  by_cases hjl : j < st.length
  ·
   have hjg : j < g.length := by have := HL.out; omega
   obtain ⟨ad, A1, c1, rfl, hc0, _⟩ := at_Tk HR.out j hjg
   obtain ⟨ads, rfl, cs⟩ := at_num HR'.out j hjl
   have hjj : decide ((j : Int) < (st.length : Int)) = true := decide_eq_true (by omega)
   have hji : (j : Int) < (g.length : Int) := by omega
   have hjsi : (j : Int) < (st.length : Int) := by omega
   have HE : Hid (endS g st (j + 1) = max (endS g st j) (st.getD j 0 + (rdTk g j).f0)) := Lib.hid rfl
   have hsj := HS.out j
   have htj := HG.out.2.1 j
   have heb := endS_bound HG.out HS.out j
   generalize st.getD j 0 = s at cs hsj HE
   generalize (rdTk g j).f0 = tm at hc0 htj HE
   generalize endS g st j = en at heb HE
   have hwr : IntKind.i64.wrap (s + tm) = s + tm := IntWalk.i64_in _ (by omega)
   go_wp2
   clear hwr
   all_goals
    go_round
    case rel => exact ⟨j + 1, by omega, by go_num, by rw [HE.out]; congr 1; first | omega | (split <;> omega)⟩
    case measure => simp [intOf]; omega
  ·
   obtain rfl : j = st.length := by omega
   have HE : Hid (endS g st g.length = endS g st st.length) := Lib.hid (by rw [HL.out])
   have hjj : decide ((st.length : Int) < (st.length : Int)) = false := decide_eq_false (by omega)
   go_wp2
   go_ret
   exact ⟨ret_int HE.out.symm, rfl⟩
def longL (T : List Int) : Nat → Int
 | 0 => 0
 | k + 1 => max (longL T k) (T.getD k 0)
set_option maxRecDepth 100000 in
theorem longest_calls (A : Option Addr) (c : Nat) (T : List Int) (hl : T.length ≤ 100) (w : World) (hr : (Kd.int .i64).C w A T.length T) :
  Calls Tryz.prog 20 #[.slice A T.length c] w fun e w' => e = .returned (.int .i64 (longL T T.length)) ∧ w' = w := by
 have HR := Lib.hid hr
 clear hr
 go_enter Tryz.func20, Tryz.ntmps20
 go_wp2
 go_loop [3, 8] (fun n i => ∃ (j : Nat), j ≤ T.length ∧ i = .int .i64 j ∧ n = .int .i64 (longL T j)) (fun _ i => T.length - (intOf i).toNat)
 case atStart => exact ⟨0, Nat.zero_le _, rfl, rfl⟩
 case round =>
  obtain ⟨j, hj, rfl, rfl⟩ := hrel
  by_cases hjl : j < T.length
  ·
   obtain ⟨ads, rfl, cs⟩ := at_num HR.out j hjl
   have hjj : decide ((j : Int) < (T.length : Int)) = true := decide_eq_true (by omega)
   have hji : (j : Int) < (T.length : Int) := by omega
   have HE : Hid (longL T (j + 1) = max (longL T j) (T.getD j 0)) := Lib.hid rfl
   generalize T.getD j 0 = s at cs HE
   generalize longL T j = en at HE
   go_wp2
   all_goals
    go_round
    case rel => exact ⟨j + 1, by omega, by go_num, by rw [HE.out]; congr 1; first | omega | (split <;> omega)⟩
    case measure => simp [intOf]; omega
  ·
   obtain rfl : j = T.length := by omega
   have hjj : decide ((T.length : Int) < (T.length : Int)) = false := decide_eq_false (by omega)
   go_wp2
   go_ret
   exact ⟨rfl, rfl⟩
def longestN (g : List Tk) : Int := match graphN g with
 | some ns => longL (tailN g ns) g.length
 | none => -1
end Go.Proofs.YtkljcdghbefceaaGreatDoor

namespace Go.Proofs.YtkljcdghbefceaaGreatDoor
set_option linter.unusedVariables false
set_option linter.unusedSimpArgs false
open Go.RowKit Go.Shelf Bits
theorem planL_step_keeps {g : List Tk} {rm : List Int} {wk : Int} {k j : Nat} (hk : k ≤ 200) (h : (planL g rm wk k).getD j 0 ≠ 200) : (planL g rm wk (k + 1)).getD j 0 = (planL g rm wk k).getD j 0 := by
 rw [show planL g rm wk (k + 1) = stepS g rm wk (planL g rm wk k) k from rfl, stepS_get (planL_ok g rm wk k hk).1, if_neg (fun hm => h (nextS_in hm).2.2)]
theorem planL_keeps {g : List Tk} {rm : List Int} {wk : Int} {k j : Nat} (h : (planL g rm wk k).getD j 0 ≠ 200) : ∀ d, k + d ≤ 200 → (planL g rm wk (k + d)).getD j 0 = (planL g rm wk k).getD j 0
 | 0, _ => rfl
 | d + 1, hd => by
  have ih := planL_keeps h d (by omega)
  rw [show k + (d + 1) = (k + d) + 1 from rfl, planL_step_keeps (by omega) (by rw [ih]; exact h), ih]
theorem planL_final {g : List Tk} {rm : List Int} {wk : Int} {k j : Nat} (hk : k ≤ 200) (h : (planL g rm wk k).getD j 0 ≠ 200) : (planS g rm wk).getD j 0 = (planL g rm wk k).getD j 0 := by
 have := planL_keeps h (200 - k) (by omega)
 rw [show k + (200 - k) = 200 by omega] at this
 exact this
theorem planL_needs {g : List Tk} (hok : TOk g) (hin : ∀ k, k < g.length → ∀ x ∈ (rdTk g k).f1, 0 ≤ x ∧ x < g.length) (rm : List Int) (wk : Int) : ∀ m, m ≤ 200 → ∀ k, k < g.length → (planL g rm wk m).getD k 0 ≠ 200 → ∀ i : Nat, (i : Int) ∈ (rdTk g k).f1 → (planL g rm wk m).getD i 0 ≠ 200 ∧ (planL g rm wk m).getD i 0 + (rdTk g i).f0 ≤ (planL g rm wk m).getD k 0
 | 0, _, k, hk, h, _, _ => by
  refine absurd ?_ h
  unfold planL
  rw [List.getD_eq_getElem?_getD, List.getElem?_replicate, if_pos hk]
  rfl
 | m + 1, hm, k, hk, h, i, hi => by
  have hL := (planL_ok g rm wk m (by omega)).1
  by_cases hc : (planL g rm wk m).getD k 0 = 200
  ·
   have hmem : k ∈ nextS g rm wk (planL g rm wk m) m := by
    by_cases hm' : k ∈ nextS g rm wk (planL g rm wk m) m
    ·
     exact hm'
    ·
     refine absurd ?_ h
     rw [show planL g rm wk (m + 1) = stepS g rm wk (planL g rm wk m) m from rfl, stepS_get hL, if_neg hm']
     exact hc
   have h1 := (nextS_in hmem).2.1
   unfold rdB allDoneB at h1
   rw [Bool.and_eq_true, List.all_eq_true] at h1
   have h2 := of_decide_eq_true (h1.2 _ hi)
   rw [mem_intsN, mem_overS] at h2
   have ht := hok.2.2.2.2 i h2.1
   have hne : (planL g rm wk m).getD i 0 ≠ 200 := fun e => by
    have := h2.2
    rw [e] at this
    omega
   rw [planL_step_keeps (by omega) hne]
   refine ⟨hne, ?_⟩
   rw [show planL g rm wk (m + 1) = stepS g rm wk (planL g rm wk m) m from rfl, stepS_get hL, if_pos hmem]
   exact h2.2
  ·
   obtain ⟨h1, h2⟩ := planL_needs hok hin rm wk m (by omega) k hk hc i hi
   rw [planL_step_keeps (by omega) h1, planL_step_keeps (by omega) hc]
   exact ⟨h1, h2⟩
theorem spec_needs_in {g : List Tk} (hv : specValid g = true) : ∀ k, k < g.length → ∀ x ∈ (rdTk g k).f1, 0 ≤ x ∧ x < g.length := fun k hk x hx => by
 obtain ⟨ns, hg⟩ := graphN_yes hv
 have := setOfL_mem _ _ _ _ _ (by omega) ((graphN_all hg).2.2 k hk).2 x hx
 omega
theorem planS_lt {g : List Tk} (hv : specValid g = true) {rm : List Int} (hrm : roomB rm = true) {wk : Int} (hwk : 1 ≤ wk) {i : Nat} (hi : i < g.length) : (planS g rm wk).getD i 0 < 200 := by
 have hok := specValid_TOk hv
 have := planS_ends hv hrm hwk i hi
 have := timeS_bound hok
 have := hok.2.1 i
 omega
theorem planS_needs {g : List Tk} (hv : specValid g = true) {rm : List Int} (hrm : roomB rm = true) {wk : Int} (hwk : 1 ≤ wk) {k : Nat} (hk : k < g.length) (i : Nat) (hi : (i : Int) ∈ (rdTk g k).f1) : (planS g rm wk).getD i 0 + (rdTk g i).f0 ≤ (planS g rm wk).getD k 0 :=
 (planL_needs (specValid_TOk hv) (spec_needs_in hv) rm wk 200 (Nat.le_refl _) k hk (by have := planS_lt hv hrm hwk hk; show (planS g rm wk).getD k 0 ≠ 200; omega) i hi).2
theorem endS_mono (g : List Tk) (st : List Int) (i : Nat) : ∀ n, i < n → st.getD i 0 + (rdTk g i).f0 ≤ endS g st n
 | 0, h => absurd h (Nat.not_lt_zero _)
 | n + 1, h => by
  unfold endS
  by_cases hi : i < n
  ·
   have := endS_mono g st i n hi
   omega
  ·
   obtain rfl : i = n := by omega
   omega
theorem endS_le {g : List Tk} {st : List Int} {E : Int} (hE : 0 ≤ E) : ∀ n, (∀ i, i < n → st.getD i 0 + (rdTk g i).f0 ≤ E) → endS g st n ≤ E
 | 0, _ => hE
 | n + 1, h => by
  have h1 := endS_le hE n (fun i hi => h i (by omega))
  have h2 := h n (by omega)
  unfold endS
  omega
theorem mostS_le {g : List Tk} {o : List Int} {i : Nat} {b : Int} (hb : 0 ≤ b) : ∀ n, (∀ k, k < n → (i : Int) ∈ (rdTk g k).f1 → o.getD k 0 ≤ b) → mostS g o i n ≤ b
 | 0, _ => hb
 | n + 1, h => by
  have h1 := mostS_le hb n (fun k hk => h k (by omega))
  unfold mostS
  split
  ·
   have h2 := h n (by omega) (of_decide_eq_true (by assumption))
   omega
  ·
   exact h1
theorem getD_setL (o : List Int) (a j : Nat) (v : Int) : (o.set a v).getD j 0 = if j = a ∧ a < o.length then v else o.getD j 0 := by
 by_cases ha : a < o.length
 ·
  rw [getD_setI _ _ _ _ ha]
  by_cases h : j = a
  ·
   rw [if_pos h, if_pos ⟨h, ha⟩]
  ·
   rw [if_neg h, if_neg (fun e => h e.1)]
 ·
  rw [List.set_eq_of_length_le (by omega), if_neg (fun e => ha e.2)]
theorem tails_fit {g : List Tk} {st : List Int} {E : Int} (hE : ∀ i, i < g.length → st.getD i 0 + (rdTk g i).f0 ≤ E) (hN : ∀ k, k < g.length → ∀ i : Nat, (i : Int) ∈ (rdTk g k).f1 → st.getD i 0 + (rdTk g i).f0 ≤ st.getD k 0) :
  ∀ i, i < g.length → st.getD i 0 + (tailsS g).getD i 0 ≤ E ∨ (tailsS g).getD i 0 = 0 := by
 have key : ∀ (pre : List Nat) (o : List Int), o.length = g.length → (∀ i, i < g.length → st.getD i 0 + o.getD i 0 ≤ E ∨ o.getD i 0 = 0) →
   ∀ i, i < g.length → st.getD i 0 + (pre.foldl (fun o p => sStep g o ((topL g).getD p 0)) o).getD i 0 ≤ E ∨ (pre.foldl (fun o p => sStep g o ((topL g).getD p 0)) o).getD i 0 = 0 := by
  intro pre
  induction pre with
  | nil => exact fun o _ h => h
  | cons p pre ih =>
   intro o hl h
   refine ih _ (by unfold sStep; rw [List.length_set]; exact hl) (fun i hi => ?_)
   unfold sStep
   rw [getD_setL]
   split
   ·
    rename_i hc
    left
    rw [← hc.1]
    have := mostS_le (g := g) (o := o) (i := i) (b := E - st.getD i 0 - (rdTk g i).f0) (by have := hE i hi; omega) g.length (fun k hk hm => by
     have h1 := hN k hk i hm
     have h3 := hE k hk
     have h4 := hE i hi
     rcases h k hk with h2 | h2
     ·
      omega
     ·
      omega)
    omega
   ·
    exact h i hi
 exact key _ _ (by simp) (fun i hi => .inr (by
  rw [List.getD_eq_getElem?_getD, List.getElem?_replicate]
  split <;> rfl))
theorem longL_le {T : List Int} {b : Int} (hb : 0 ≤ b) : ∀ n, (∀ i, i < n → T.getD i 0 ≤ b) → longL T n ≤ b
 | 0, _ => hb
 | n + 1, h => by
  have h1 := longL_le hb n (fun i hi => h i (by omega))
  have h2 := h n (by omega)
  unfold longL
  omega
theorem longS_le {g : List Tk} {st : List Int} (h0 : ∀ i, i < g.length → 0 ≤ st.getD i 0) (hN : ∀ k, k < g.length → ∀ i : Nat, (i : Int) ∈ (rdTk g k).f1 → st.getD i 0 + (rdTk g i).f0 ≤ st.getD k 0) : longL (tailsS g) g.length ≤ endS g st g.length := by
 have hE : 0 ≤ endS g st g.length := by
  have : ∀ n, 0 ≤ endS g st n := by
   intro n
   induction n with
   | zero => exact Int.le_refl _
   | succ n ih => unfold endS; omega
  exact this _
 refine longL_le hE _ (fun i hi => ?_)
 have := h0 i hi
 rcases tails_fit (E := endS g st g.length) (fun i hi => endS_mono g st i _ hi) hN i hi with h | h
 ·
  omega
 ·
  omega
end Go.Proofs.YtkljcdghbefceaaGreatDoor

namespace Go.Proofs.YtkljcdghbefceaaGreatDoor
set_option linter.unusedVariables false
set_option linter.unusedSimpArgs false
open Go.RowKit Go.Shelf Bits
def chB (st : List Int) (i : Nat) : Ev := ⟨st.getD i 0, (i : Int), false⟩
def chO (g : List Tk) (st : List Int) (i : Nat) : Ev := ⟨st.getD i 0 + (rdTk g i).f0, (i : Int), true⟩
def chgN (g : List Tk) (st : List Int) : Nat → List Ev
 | 0 => []
 | k + 1 => chgN g st k ++ [chB st k, chO g st k]
def ltE (a b : Ev) : Prop := a.f0 < b.f0 ∨ (a.f0 = b.f0 ∧ ((a.f2 = true ∧ b.f2 = false) ∨ (a.f2 = b.f2 ∧ a.f1 < b.f1)))
instance (a b : Ev) : Decidable (ltE a b) := by unfold ltE; infer_instance
def ltEB (a b : Ev) : Bool := decide (ltE a b)
theorem ltE_irrefl (a : Ev) : ¬ ltE a a := by
 unfold ltE
 rintro (h | ⟨_, ⟨h1, h2⟩ | ⟨_, h⟩⟩)
 ·
  omega
 ·
  rw [h1] at h2; cases h2
 ·
  omega
theorem ltE_trans {a b c : Ev} (h : ltE a b) (k : ltE b c) : ltE a c := by
 unfold ltE at *
 rcases h with h | ⟨h1, h2⟩
 ·
  rcases k with k | ⟨k1, _⟩
  ·
   exact .inl (by omega)
  ·
   exact .inl (by omega)
 ·
  rcases k with k | ⟨k1, k2⟩
  ·
   exact .inl (by omega)
  ·
   refine .inr ⟨by omega, ?_⟩
   rcases h2 with ⟨p, q⟩ | ⟨p, q⟩ <;> rcases k2 with ⟨r, s⟩ | ⟨r, s⟩
   ·
    rw [q] at r; cases r
   ·
    exact .inl ⟨p, by rw [← r]; exact q⟩
   ·
    exact .inl ⟨by rw [p]; exact r, s⟩
   ·
    exact .inr ⟨p.trans r, by omega⟩
theorem ltE_total {a b : Ev} (h : ¬ ltE a b) (k : ¬ ltE b a) : a = b := by
 obtain ⟨a0, a1, a2⟩ := a
 obtain ⟨b0, b1, b2⟩ := b
 unfold ltE at h k
 simp only [not_or, not_and] at h k
 have e0 : a0 = b0 := by omega
 subst e0
 have h2 := h.2 rfl
 have k2 := k.2 rfl
 have e2 : a2 = b2 := by
  cases a2 <;> cases b2 <;> simp_all
 subst e2
 have h3 := h2.2 rfl
 have k3 := k2.2 rfl
 have e1 : a1 = b1 := by omega
 subst e1
 rfl
def chgS (g : List Tk) (st : List Int) : List Ev := (chgN g st g.length).mergeSort fun x y => !ltEB y x
theorem mem_chgN {g : List Tk} {st : List Int} {x : Ev} : ∀ n, x ∈ chgN g st n ↔ ∃ i, i < n ∧ (x = chB st i ∨ x = chO g st i)
 | 0 => by simp [chgN]
 | n + 1 => by
  unfold chgN
  rw [List.mem_append, mem_chgN n]
  simp only [List.mem_cons, List.not_mem_nil, or_false]
  constructor
  ·
   rintro (⟨i, hi, h⟩ | h)
   ·
    exact ⟨i, by omega, h⟩
   ·
    exact ⟨n, by omega, h⟩
  ·
   rintro ⟨i, hi, h⟩
   by_cases hin : i < n
   ·
    exact .inl ⟨i, hin, h⟩
   ·
    obtain rfl : i = n := by omega
    exact .inr h
theorem nodup_chgN (g : List Tk) (st : List Int) : ∀ n, (chgN g st n).Nodup
 | 0 => List.nodup_nil
 | n + 1 => by
  unfold chgN
  rw [List.nodup_append]
  refine ⟨nodup_chgN g st n, by simp [chB, chO], ?_⟩
  intro a ha b hb
  obtain ⟨i, hi, h⟩ := (mem_chgN n).1 ha
  simp only [List.mem_cons, List.not_mem_nil, or_false] at hb
  rintro rfl
  have h1 : a.f1 = i := by rcases h with rfl | rfl <;> rfl
  have h2 : a.f1 = n := by rcases hb with rfl | rfl <;> rfl
  omega
theorem chgS_perm (g : List Tk) (st : List Int) : (chgS g st).Perm (chgN g st g.length) := List.mergeSort_perm _ _
theorem chgS_nodup (g : List Tk) (st : List Int) : (chgS g st).Nodup := (chgS_perm g st).nodup_iff.2 (nodup_chgN g st _)
theorem chgN_len (g : List Tk) (st : List Int) : ∀ n, (chgN g st n).length = 2 * n
 | 0 => rfl
 | n + 1 => by
  unfold chgN
  rw [List.length_append, chgN_len g st n]
  simp
  omega
theorem chgS_len (g : List Tk) (st : List Int) : (chgS g st).length = 2 * g.length := by rw [(chgS_perm g st).length_eq, chgN_len]
theorem chgS_sorted (g : List Tk) (st : List Int) : (chgS g st).Pairwise fun a b => ¬ ltE b a := by
 have h := List.pairwise_mergeSort (le := fun x y => !ltEB y x) (fun a b c h1 h2 => by
  simp only [ltEB, Bool.not_eq_true', decide_eq_false_iff_not] at *
  intro h
  by_cases hab : ltE a b
  ·
   exact h2 (ltE_trans h hab)
  ·
   obtain rfl := ltE_total hab h1
   exact h2 h) (fun a b => by
  simp only [ltEB, Bool.or_eq_true, Bool.not_eq_true', decide_eq_false_iff_not]
  by_cases hab : ltE a b
  ·
   exact .inl (fun h => ltE_irrefl _ (ltE_trans hab h))
  ·
   exact .inr hab) (chgN g st g.length)
 refine List.Pairwise.imp (fun h => ?_) h
 simpa [ltEB] using h
theorem mem_chgS {g : List Tk} {st : List Int} {x : Ev} : x ∈ chgS g st ↔ ∃ i, i < g.length ∧ (x = chB st i ∨ x = chO g st i) := by
 rw [(chgS_perm g st).mem_iff, mem_chgN]
theorem ahead_of {C l1 l2 : List Ev} {e : Ev} (hC : C = l1 ++ e :: l2) (hs : C.Pairwise fun a b => ¬ ltE b a) (hn : C.Nodup) : C.filter (fun x => ltEB x e) = l1 := by
 subst hC
 rw [List.filter_append, List.filter_cons]
 obtain ⟨p1, p2, p3⟩ := List.pairwise_append.1 hs
 obtain ⟨p4, p5⟩ := List.pairwise_cons.1 p2
 rw [List.nodup_append] at hn
 have h1 : l1.filter (fun x => ltEB x e) = l1 := by
  rw [List.filter_eq_self]
  intro a ha
  unfold ltEB
  apply decide_eq_true
  have h2 := p3 a ha e List.mem_cons_self
  by_cases hae : ltE a e
  ·
   exact hae
  ·
   exact absurd (ltE_total hae h2) (hn.2.2 a ha e List.mem_cons_self)
 have h2 : l2.filter (fun x => ltEB x e) = [] := by
  rw [List.filter_eq_nil_iff]
  intro a ha
  have := p4 a ha
  simpa [ltEB] using this
 rw [h1, h2, if_neg (by simp [ltEB, ltE_irrefl])]
 simp
theorem perm_sum {l1 l2 : List Int} (h : l1.Perm l2) : l1.sum = l2.sum := by
 induction h with
 | nil => rfl
 | cons x _ ih => simp [ih]
 | swap x y l => simp; omega
 | trans _ _ a b => rw [a, b]
def sgn (e : Ev) : Int := if e.f2 then -1 else 1
def unU (g : List Tk) (p : Int) (e : Ev) : Int := if (rdTk g e.f1.toNat).f2 = p then sgn e * (rdTk g e.f1.toNat).f3 else 0
def cOf (g : List Tk) (l : List Ev) : Ct := ⟨(l.map sgn).sum, fun p => (l.map (unU g p)).sum⟩
def dStep (d : Nat) (e : Ev) : Nat := if e.f2 then d ||| 2 ^ e.f1.toNat else d
def dOf (l : List Ev) : Nat := l.foldl dStep 0
theorem dOf_snoc (l : List Ev) (e : Ev) : dOf (l ++ [e]) = dStep (dOf l) e := by
 unfold dOf
 rw [List.foldl_append]
 rfl
theorem dOf_bit (j : Nat) : ∀ (l : List Ev) (d : Nat), (l.foldl dStep d).testBit j = (d.testBit j || l.any fun e => e.f2 && decide (e.f1.toNat = j))
 | [], d => by simp
 | e :: l, d => by
  rw [List.foldl_cons, dOf_bit j l, List.any_cons]
  unfold dStep
  cases e.f2
  ·
   simp
  ·
   rw [if_pos rfl, or_bit]
   cases d.testBit j <;> simp
theorem cOf_snoc {g : List Tk} {p : Nat} {l : List Ev} {e : Ev} (hp : (rdTk g e.f1.toNat).f2 = (p : Int)) : cOf g (l ++ [e]) = (cOf g l).add p (rdTk g e.f1.toNat).f3 (sgn e) := by
 unfold cOf Ct.add
 simp only [List.map_append, List.map_cons, List.map_nil, List.sum_append, List.sum_cons, List.sum_nil, Int.add_zero]
 congr 1
 funext j
 unfold unU
 rw [hp]
 by_cases h : j = p
 ·
  subst h
  rw [if_pos rfl, if_pos rfl]
 ·
  rw [if_neg h, if_neg (fun e => h (by omega)), Int.add_zero]
def okE (g : List Tk) (ns : List Nat) (rm : List Int) (wk : Int) (l : List Ev) (e : Ev) : Bool :=
 e.f2 || (decide (diff (ns.getD e.f1.toNat 0) (dOf l) = 0) && (cOf g l).can (rdTk g e.f1.toNat).f2.toNat (rdTk g e.f1.toNat).f3 rm wk)
def zEvD : Ev := ⟨0, 0, false⟩
def okAllB (g : List Tk) (ns : List Nat) (rm : List Int) (wk : Int) (C : List Ev) : Bool := (List.range C.length).all fun q => okE g ns rm wk (C.take q) (rdEv C q)
def startsB (g : List Tk) (ns : List Nat) (rm : List Int) (wk : Int) (st : List Int) : Bool := okAllB g ns rm wk (chgS g st)
def sumF (F : Ev → Int) (P : Ev → Bool) (x : Ev) : Int := if P x then F x else 0
theorem filt_sum (F : Ev → Int) (P : Ev → Bool) (g : List Tk) (st : List Int) : ∀ n, (((chgN g st n).filter P).map F).sum = sumTo (fun i => sumF F P (chB st i) + sumF F P (chO g st i)) n
 | 0 => rfl
 | n + 1 => by
  unfold chgN sumTo
  rw [List.filter_append, List.map_append, List.sum_append, filt_sum F P g st n]
  congr 1
  simp only [List.filter_cons, List.filter_nil]
  unfold sumF
  by_cases h1 : P (chB st n) = true <;> by_cases h2 : P (chO g st n) = true <;> simp [h1, h2]
def actB (g : List Tk) (st : List Int) (i k : Nat) : Bool := (decide (st.getD k 0 < st.getD i 0) || (decide (st.getD k 0 = st.getD i 0) && decide (k < i))) && decide (st.getD i 0 < st.getD k 0 + (rdTk g k).f0)
theorem lt_BB {st : List Int} {i k : Nat} : ltE (chB st k) (chB st i) ↔ st.getD k 0 < st.getD i 0 ∨ (st.getD k 0 = st.getD i 0 ∧ k < i) := by
 unfold ltE chB
 simp
theorem lt_OB {g : List Tk} {st : List Int} {i k : Nat} : ltE (chO g st k) (chB st i) ↔ st.getD k 0 + (rdTk g k).f0 ≤ st.getD i 0 := by
 unfold ltE chO chB
 simp only [true_and]
 constructor
 ·
  rintro (h | ⟨h, _⟩) <;> omega
 ·
  intro h
  by_cases hc : st.getD k 0 + (rdTk g k).f0 < st.getD i 0
  ·
   exact .inl hc
  ·
   exact .inr ⟨by omega, .inl trivial⟩
theorem sgn_ahead {g : List Tk} (hok : TOk g) {st : List Int} {i k : Nat} (hk : k < g.length) : sumF sgn (fun x => ltEB x (chB st i)) (chB st k) + sumF sgn (fun x => ltEB x (chB st i)) (chO g st k) = if actB g st i k then 1 else 0 := by
 have ht := hok.2.2.2.2 k hk
 have e1 : ltEB (chB st k) (chB st i) = (decide (st.getD k 0 < st.getD i 0) || (decide (st.getD k 0 = st.getD i 0) && decide (k < i))) := by
  unfold ltEB
  rw [Bool.eq_iff_iff, decide_eq_true_iff, lt_BB]
  simp
 have e2 : ltEB (chO g st k) (chB st i) = decide (st.getD k 0 + (rdTk g k).f0 ≤ st.getD i 0) := by
  unfold ltEB
  rw [decide_eq_decide, lt_OB]
 unfold sumF actB
 simp only [e1, e2]
 have s1 : sgn (chB st k) = 1 := rfl
 have s2 : sgn (chO g st k) = -1 := rfl
 rw [s1, s2]
 by_cases h1 : st.getD k 0 + (rdTk g k).f0 ≤ st.getD i 0
 ·
  have h2 : st.getD k 0 < st.getD i 0 := by omega
  rw [decide_eq_true h1, decide_eq_true h2, decide_eq_false (show ¬ st.getD i 0 < st.getD k 0 + (rdTk g k).f0 by omega)]
  simp
 ·
  rw [decide_eq_false h1, decide_eq_true (show st.getD i 0 < st.getD k 0 + (rdTk g k).f0 by omega)]
  simp
theorem un_ahead {g : List Tk} (hok : TOk g) {st : List Int} {i k : Nat} (p : Int) (hk : k < g.length) : sumF (unU g p) (fun x => ltEB x (chB st i)) (chB st k) + sumF (unU g p) (fun x => ltEB x (chB st i)) (chO g st k) = if actB g st i k && decide ((rdTk g k).f2 = p) then (rdTk g k).f3 else 0 := by
 have h := sgn_ahead hok (st := st) (i := i) hk
 unfold sumF at h ⊢
 simp only [] at h ⊢
 have u1 : unU g p (chB st k) = if (rdTk g k).f2 = p then (rdTk g k).f3 else 0 := by
  unfold unU
  show (if (rdTk g ((k : Nat) : Int).toNat).f2 = p then 1 * (rdTk g ((k : Nat) : Int).toNat).f3 else 0) = _
  rw [Int.toNat_natCast, Int.one_mul]
 have u2 : unU g p (chO g st k) = if (rdTk g k).f2 = p then -(rdTk g k).f3 else 0 := by
  unfold unU
  show (if (rdTk g ((k : Nat) : Int).toNat).f2 = p then (-1) * (rdTk g ((k : Nat) : Int).toNat).f3 else 0) = _
  rw [Int.toNat_natCast]
  split <;> omega
 have s1 : sgn (chB st k) = 1 := rfl
 have s2 : sgn (chO g st k) = -1 := rfl
 rw [s1, s2] at h
 rw [u1, u2]
 by_cases h4 : (rdTk g k).f2 = p
 ·
  rw [if_pos h4, if_pos h4, decide_eq_true h4, Bool.and_true]
  by_cases h1 : ltEB (chB st k) (chB st i) = true <;> by_cases h2 : ltEB (chO g st k) (chB st i) = true <;> by_cases h3 : actB g st i k = true <;> simp [h1, h2, h3] at h ⊢ <;> omega
 ·
  simp [h4]
def actS (g : List Tk) (st : List Int) (i : Nat) : List Nat := (List.range g.length).filter (actB g st i)
theorem sumTo_count {P : Nat → Bool} : ∀ n, sumTo (fun k => if P k then 1 else 0) n = (((List.range n).filter P).length : Nat)
 | 0 => rfl
 | n + 1 => by
  unfold sumTo
  rw [sumTo_count n, List.range_succ, List.filter_append]
  cases h : P n <;> simp [h]
theorem sumTo_used {g : List Tk} {P : Nat → Bool} {p : Int} : ∀ n, sumTo (fun k => if P k && decide ((rdTk g k).f2 = p) then (rdTk g k).f3 else 0) n = usedS g ((List.range n).filter P) p
 | 0 => rfl
 | n + 1 => by
  unfold sumTo
  rw [sumTo_used n, List.range_succ, List.filter_append]
  cases h : P n
  ·
   simp [h]
  ·
   rw [show List.filter P [n] = [n] by simp [h], usedS_snoc]
   simp [h]
theorem sumTo_congr {f h : Nat → Int} : ∀ n, (∀ i, i < n → f i = h i) → sumTo f n = sumTo h n
 | 0, _ => rfl
 | n + 1, hh => by
  unfold sumTo
  rw [sumTo_congr n (fun i hi => hh i (by omega)), hh n (by omega)]
theorem ahead_sum {g : List Tk} {st : List Int} {l1 l2 : List Ev} {e : Ev} (hC : chgS g st = l1 ++ e :: l2) (F : Ev → Int) : (l1.map F).sum = sumTo (fun k => sumF F (fun x => ltEB x e) (chB st k) + sumF F (fun x => ltEB x e) (chO g st k)) g.length := by
 have h := ahead_of hC (chgS_sorted g st) (chgS_nodup g st)
 rw [← filt_sum, ← h]
 exact perm_sum (((chgS_perm g st).filter _).map F)
theorem cOf_ahead {g : List Tk} (hok : TOk g) {st : List Int} {l1 l2 : List Ev} {i : Nat} (hC : chgS g st = l1 ++ chB st i :: l2) : (cOf g l1).t = ((actS g st i).length : Nat) ∧ ∀ p : Nat, (cOf g l1).u p = usedS g (actS g st i) p := by
 constructor
 ·
  show (l1.map sgn).sum = _
  rw [ahead_sum hC sgn, sumTo_congr _ (fun k hk => sgn_ahead hok hk), sumTo_count]
  rfl
 ·
  intro p
  show (l1.map (unU g p)).sum = _
  rw [ahead_sum hC (unU g p), sumTo_congr _ (fun k hk => un_ahead hok (p : Int) hk), sumTo_used]
  rfl
theorem dOf_ahead {g : List Tk} {st : List Int} {l1 l2 : List Ev} {i : Nat} (hC : chgS g st = l1 ++ chB st i :: l2) (j : Nat) : (dOf l1).testBit j = decide (j < g.length ∧ st.getD j 0 + (rdTk g j).f0 ≤ st.getD i 0) := by
 unfold dOf
 rw [dOf_bit, Nat.zero_testBit, Bool.false_or, Bool.eq_iff_iff, List.any_eq_true, decide_eq_true_iff, ← ahead_of hC (chgS_sorted g st) (chgS_nodup g st)]
 constructor
 ·
  rintro ⟨x, hx, h⟩
  rw [List.mem_filter] at hx
  rw [Bool.and_eq_true, decide_eq_true_iff] at h
  obtain ⟨k, hk, hh⟩ := mem_chgS.1 hx.1
  rcases hh with rfl | rfl
  ·
   exact absurd h.1 (by simp [chB])
  ·
   have e : k = j := by have := h.2; simpa [chO] using this
   subst e
   exact ⟨hk, lt_OB.1 (of_decide_eq_true hx.2)⟩
 ·
  rintro ⟨hj, h⟩
  refine ⟨chO g st j, List.mem_filter.2 ⟨mem_chgS.2 ⟨j, hj, .inr rfl⟩, decide_eq_true (lt_OB.2 h)⟩, ?_⟩
  simp [chO]
def canAt (g : List Tk) (rm : List Int) (wk : Int) (st : List Int) (i : Nat) : Prop :=
 (∀ k : Nat, (k : Int) ∈ (rdTk g i).f1 → st.getD k 0 + (rdTk g k).f0 ≤ st.getD i 0) ∧ ((actS g st i).length : Int) < wk ∧ usedS g (actS g st i) (rdTk g i).f2 + (rdTk g i).f3 ≤ rm.getD (rdTk g i).f2.toNat 0
theorem rdEv_of {C : List Ev} {q : Nat} (hq : q < C.length) : C = C.take q ++ rdEv C q :: C.drop (q + 1) := by
 have : rdEv C q = C[q] := by
  unfold rdEv
  rw [List.getD_eq_getElem?_getD, List.getElem?_eq_getElem hq]
  rfl
 rw [this, ← List.drop_eq_getElem_cons hq, List.take_append_drop]
theorem okE_begin {g : List Tk} {ns : List Nat} (hg : graphN g = some ns) {rm : List Int} {wk : Int} {st : List Int} {l1 l2 : List Ev} {i : Nat} (hi : i < g.length) (hC : chgS g st = l1 ++ chB st i :: l2) : okE g ns rm wk l1 (chB st i) = true ↔ canAt g rm wk st i := by
 have hok := specValid_TOk (graphN_spec hg)
 obtain ⟨h1, h2⟩ := cOf_ahead hok hC
 have h3 := dOf_ahead hC
 have hp := hok.2.2.1 i
 unfold okE canAt
 show (false || (decide (diff (ns.getD ((i : Nat) : Int).toNat 0) (dOf l1) = 0) && (cOf g l1).can (rdTk g ((i : Nat) : Int).toNat).f2.toNat (rdTk g ((i : Nat) : Int).toNat).f3 rm wk)) = true ↔ _
 rw [Int.toNat_natCast, Bool.false_or, Bool.and_eq_true, decide_eq_true_iff, diff_zero]
 unfold Ct.can
 rw [Bool.and_eq_true, decide_eq_true_iff, decide_eq_true_iff, h1, h2, show (((rdTk g i).f2.toNat : Nat) : Int) = (rdTk g i).f2 by omega]
 have hn : (∀ k, (ns.getD i 0).testBit k = true → (dOf l1).testBit k = true) ↔ ∀ k : Nat, (k : Int) ∈ (rdTk g i).f1 → st.getD k 0 + (rdTk g k).f0 ≤ st.getD i 0 := by
  constructor
  ·
   intro h k hk
   have := h k (by rw [need_bit hg hi]; exact decide_eq_true hk)
   rw [h3] at this
   exact (of_decide_eq_true this).2
  ·
   intro h k hk
   rw [need_bit hg hi] at hk
   have hk := of_decide_eq_true hk
   have hl := spec_needs_in (graphN_spec hg) i hi _ hk
   rw [h3]
   exact decide_eq_true ⟨by omega, h k hk⟩
 rw [hn]
theorem startsB_iff {g : List Tk} {ns : List Nat} (hg : graphN g = some ns) {rm : List Int} {wk : Int} {st : List Int} : startsB g ns rm wk st = true ↔ ∀ i, i < g.length → canAt g rm wk st i := by
 unfold startsB okAllB
 rw [List.all_eq_true]
 constructor
 ·
  intro h i hi
  have hm : chB st i ∈ chgS g st := mem_chgS.2 ⟨i, hi, .inl rfl⟩
  obtain ⟨q, hq, e⟩ := List.getElem_of_mem hm
  have h1 := h q (List.mem_range.2 hq)
  have e2 : rdEv (chgS g st) q = chB st i := by
   unfold rdEv
   rw [List.getD_eq_getElem?_getD, List.getElem?_eq_getElem hq]
   exact e
  have hC := rdEv_of hq
  rw [e2] at h1 hC
  exact (okE_begin hg hi hC).1 h1
 ·
  intro h q hq
  have hq := List.mem_range.1 hq
  have hC := rdEv_of hq
  have hm : rdEv (chgS g st) q ∈ chgS g st := by
   unfold rdEv
   rw [List.getD_eq_getElem?_getD, List.getElem?_eq_getElem hq]
   exact List.getElem_mem _
  obtain ⟨i, hi, hh⟩ := mem_chgS.1 hm
  rcases hh with e | e
  ·
   rw [e] at hC ⊢
   exact (okE_begin hg hi hC).2 (h i hi)
  ·
   rw [e]
   rfl
def runOk (g : List Tk) (rm : List Int) (wk : Int) (st : List Int) (i : Nat) : Prop :=
 (∀ k : Nat, (k : Int) ∈ (rdTk g i).f1 → st.getD k 0 + (rdTk g k).f0 ≤ st.getD i 0) ∧ ((runS g st (st.getD i 0)).length : Int) ≤ wk ∧ ∀ p : Nat, p < 3 → usedS g (runS g st (st.getD i 0)) p ≤ rm.getD p 0
theorem usedS_filter (g : List Tk) (p : Int) {P Q : Nat → Bool} (hok : TOk g) : ∀ n, (∀ k, k < n → P k = true → (rdTk g k).f2 = p → Q k = true) → usedS g ((List.range n).filter P) p ≤ usedS g ((List.range n).filter Q) p := by
 intro n h
 rw [← sumTo_used, ← sumTo_used]
 refine sumTo_le n (fun k hk => ?_)
 have hb := hok.2.2.2.1 k
 by_cases h1 : P k = true
 ·
  by_cases h2 : (rdTk g k).f2 = p
  ·
   rw [h1, h k hk h1 h2]
   exact Int.le_refl _
  ·
   simp [h2]
 ·
  have : P k = false := by simpa using h1
  rw [this]
  simp only [Bool.false_and, Bool.false_eq_true, if_false]
  split <;> omega
theorem actB_iff {g : List Tk} {st : List Int} {i k : Nat} : actB g st i k = true ↔ (st.getD k 0 < st.getD i 0 ∨ (st.getD k 0 = st.getD i 0 ∧ k < i)) ∧ st.getD i 0 < st.getD k 0 + (rdTk g k).f0 := by
 unfold actB
 rw [Bool.and_eq_true, Bool.or_eq_true, Bool.and_eq_true, decide_eq_true_iff, decide_eq_true_iff, decide_eq_true_iff, decide_eq_true_iff]
theorem runB_iff {g : List Tk} {st : List Int} {now : Int} {k : Nat} : runB g st now k = true ↔ st.getD k 0 ≤ now ∧ now < st.getD k 0 + (rdTk g k).f0 := by
 unfold runB
 rw [Bool.and_eq_true, decide_eq_true_iff, decide_eq_true_iff]
theorem act_self {g : List Tk} {st : List Int} {i : Nat} (hi : i < g.length) : ((actS g st i).length : Int) + 1 = (((List.range g.length).filter fun k => actB g st i k || decide (k = i)).length : Nat) ∧ ∀ p, usedS g (actS g st i) p + (if (rdTk g i).f2 = p then (rdTk g i).f3 else 0) = usedS g ((List.range g.length).filter fun k => actB g st i k || decide (k = i)) p := by
 have hs : actB g st i i = false := by
  cases h : actB g st i i with
  | false => rfl
  | true => have := actB_iff.1 h; omega
 have key : ∀ (f : Nat → Int) n, i < n → sumTo (fun k => if actB g st i k then f k else 0) n + f i = sumTo (fun k => if actB g st i k || decide (k = i) then f k else 0) n := by
  intro f n
  induction n with
  | zero => intro h; omega
  | succ n ih =>
   intro h
   unfold sumTo
   by_cases hin : i < n
   ·
    have := ih hin
    rw [show decide (n = i) = false from decide_eq_false (by omega), Bool.or_false]
    omega
   ·
    obtain rfl : i = n := by omega
    rw [hs, decide_eq_true rfl, Bool.false_or]
    have : sumTo (fun k => if actB g st i k then f k else 0) i = sumTo (fun k => if actB g st i k || decide (k = i) then f k else 0) i := sumTo_congr i (fun k hk => by rw [decide_eq_false (show ¬ k = i by omega), Bool.or_false])
    rw [this]
    simp
 constructor
 ·
  unfold actS
  rw [← sumTo_count, ← sumTo_count]
  exact key (fun _ => 1) _ hi
 ·
  intro p
  unfold actS
  rw [← sumTo_used, ← sumTo_used]
  have h := key (fun k => if (rdTk g k).f2 = p then (rdTk g k).f3 else 0) _ hi
  have e : ∀ (P : Nat → Bool) n, sumTo (fun k => if P k && decide ((rdTk g k).f2 = p) then (rdTk g k).f3 else 0) n = sumTo (fun k => if P k then (if (rdTk g k).f2 = p then (rdTk g k).f3 else 0) else 0) n := fun P n => sumTo_congr n (fun k _ => by
   cases P k <;> simp)
  rw [e, e]
  exact h
theorem last_of {st : List Int} {P : Nat → Bool} : ∀ n, (∃ k, k < n ∧ P k = true) → ∃ j, j < n ∧ P j = true ∧ ∀ k, k < n → P k = true → st.getD k 0 < st.getD j 0 ∨ (st.getD k 0 = st.getD j 0 ∧ k ≤ j)
 | 0, ⟨_, h, _⟩ => absurd h (Nat.not_lt_zero _)
 | n + 1, h => by
  by_cases hc : ∃ k, k < n ∧ P k = true
  ·
   obtain ⟨j, h1, h2, h3⟩ := last_of n hc
   by_cases hn : P n = true
   ·
    by_cases hl : st.getD n 0 < st.getD j 0
    ·
     refine ⟨j, by omega, h2, fun k hk hp => ?_⟩
     by_cases hkn : k < n
     ·
      exact h3 k hkn hp
     ·
      obtain rfl : k = n := by omega
      exact .inl hl
    ·
     refine ⟨n, by omega, hn, fun k hk hp => ?_⟩
     by_cases hkn : k < n
     ·
      rcases h3 k hkn hp with h | ⟨h, _⟩
      ·
       by_cases he : st.getD k 0 = st.getD n 0
       ·
        exact .inr ⟨he, by omega⟩
       ·
        exact .inl (by omega)
      ·
       by_cases he : st.getD k 0 = st.getD n 0
       ·
        exact .inr ⟨he, by omega⟩
       ·
        exact .inl (by omega)
     ·
      obtain rfl : k = n := by omega
      exact .inr ⟨rfl, Nat.le_refl _⟩
   ·
    refine ⟨j, by omega, h2, fun k hk hp => ?_⟩
    by_cases hkn : k < n
    ·
     exact h3 k hkn hp
    ·
     obtain rfl : k = n := by omega
     exact absurd hp hn
  ·
   obtain ⟨k, hk, hp⟩ := h
   have hkn : k = n := by
    by_cases hk' : k < n
    ·
     exact absurd ⟨k, hk', hp⟩ hc
    ·
     omega
   subst hkn
   refine ⟨k, by omega, hp, fun q hq hpq => ?_⟩
   by_cases hqn : q < k
   ·
    exact absurd ⟨q, hqn, hpq⟩ hc
   ·
    obtain rfl : q = k := by omega
    exact .inr ⟨rfl, Nat.le_refl _⟩
theorem filter_len_le {P Q : Nat → Bool} (n : Nat) (h : ∀ k, k < n → P k = true → Q k = true) : ((List.range n).filter P).length ≤ ((List.range n).filter Q).length := by
 have h1 := sumTo_count (P := P) n
 have h2 := sumTo_count (P := Q) n
 have h3 := sumTo_le (f := fun k => if P k then 1 else 0) (h := fun k => if Q k then 1 else 0) n (fun k hk => by
  by_cases hp : P k = true
  ·
   rw [hp, h k hk hp]
   exact Int.le_refl _
  ·
   have : P k = false := by simpa using hp
   rw [this]
   simp only [Bool.false_eq_true, if_false]
   split <;> omega)
 omega
theorem can_run {g : List Tk} (hok : TOk g) {rm : List Int} (hrm : ∀ p, p < 3 → 4 ≤ rm.getD p 0) {wk : Int} {st : List Int} : (∀ i, i < g.length → canAt g rm wk st i) ↔ ∀ i, i < g.length → runOk g rm wk st i := by
 constructor
 ·
  intro h i hi
  have hti := hok.2.2.2.2 i hi
  obtain ⟨j, hj, hp, hl⟩ := last_of (st := st) (P := runB g st (st.getD i 0)) g.length ⟨i, hi, runB_iff.2 (by omega)⟩
  have hjr := runB_iff.1 hp
  refine ⟨(h i hi).1, ?_, fun p hp3 => ?_⟩
  ·
   have h1 := (act_self (st := st) hj).1
   have h2 := (h j hj).2.1
   have h3 := filter_len_le (P := runB g st (st.getD i 0)) (Q := fun k => actB g st j k || decide (k = j)) g.length (fun k hk hpk => by
    have hr := runB_iff.1 hpk
    by_cases hkj : k = j
    ·
     rw [decide_eq_true hkj, Bool.or_true]
    ·
     rw [actB_iff.2 ?_]
     ·
      rfl
     ·
      rcases hl k hk hpk with hh | hh
      ·
       exact ⟨.inl hh, by omega⟩
      ·
       exact ⟨.inr ⟨hh.1, by omega⟩, by omega⟩)
   unfold runS
   omega
  ·
   by_cases hex : ∃ k, k < g.length ∧ (runB g st (st.getD i 0) k && decide ((rdTk g k).f2 = p)) = true
   ·
    obtain ⟨q, hq, hqp, hql⟩ := last_of (st := st) (P := fun k => runB g st (st.getD i 0) k && decide ((rdTk g k).f2 = p)) g.length hex
    rw [Bool.and_eq_true, decide_eq_true_iff] at hqp
    have hqr := runB_iff.1 hqp.1
    have h1 := (act_self (st := st) hq).2 p
    rw [if_pos hqp.2] at h1
    have h2 := (h q hq).2.2
    rw [hqp.2, Int.toNat_natCast] at h2
    have h3 := usedS_filter g p (P := runB g st (st.getD i 0)) (Q := fun k => actB g st q k || decide (k = q)) hok g.length (fun k hk hpk hpp => by
     have hr := runB_iff.1 hpk
     by_cases hkq : k = q
     ·
      rw [decide_eq_true hkq, Bool.or_true]
     ·
      rw [actB_iff.2 ?_]
      ·
       rfl
      ·
       rcases hql k hk (by rw [hpk, decide_eq_true hpp]; rfl) with hh | hh
       ·
        exact ⟨.inl hh, by omega⟩
       ·
        exact ⟨.inr ⟨hh.1, by omega⟩, by omega⟩)
    unfold runS
    omega
   ·
    have h3 := usedS_filter g p (P := runB g st (st.getD i 0)) (Q := fun _ => false) hok g.length (fun k hk hpk hpp => absurd ⟨k, hk, by rw [hpk, decide_eq_true hpp]; rfl⟩ hex)
    have h4 := hrm p hp3
    have h5 : usedS g ((List.range g.length).filter fun _ => false) p = 0 := by
     rw [show (List.range g.length).filter (fun _ => false) = [] by simp]
     rfl
    unfold runS
    omega
 ·
  intro h i hi
  obtain ⟨h1, h2, h3⟩ := h i hi
  have hti := hok.2.2.2.2 i hi
  have hpi := hok.2.2.1 i
  have hsub : ∀ k, k < g.length → (actB g st i k || decide (k = i)) = true → runB g st (st.getD i 0) k = true := fun k hk hh => by
   rw [Bool.or_eq_true, decide_eq_true_iff] at hh
   rcases hh with hh | hh
   ·
    have := actB_iff.1 hh
    exact runB_iff.2 (by omega)
   ·
    subst hh
    exact runB_iff.2 (by omega)
  have ha := act_self (st := st) hi
  refine ⟨h1, ?_, ?_⟩
  ·
   have := filter_len_le g.length hsub
   have e := ha.1
   unfold runS at h2
   omega
  ·
   have e := ha.2 (rdTk g i).f2
   rw [if_pos rfl] at e
   have := usedS_filter g (rdTk g i).f2 (P := fun k => actB g st i k || decide (k = i)) (Q := runB g st (st.getD i 0)) hok g.length (fun k hk hp _ => hsub k hk hp)
   have h4 := h3 (rdTk g i).f2.toNat (by omega)
   rw [show (((rdTk g i).f2.toNat : Nat) : Int) = (rdTk g i).f2 by omega] at h4
   unfold runS at h4
   omega
end Go.Proofs.YtkljcdghbefceaaGreatDoor
