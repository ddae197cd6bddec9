/- Parts of the proof, laid as one text by a program of mine. -/
import Derived.Test.YtdjdfbfcjajlkaaDoorKbc11
import Derived.Test.YtdjdfbfcjajlkaaDoorKbc14
import Derived.Test.YtdjdfbfcjajlkaaDoorKbc12
import Derived.Test.YtdjdfbfcjajlkaaDoorKbc13
namespace Go.Proofs.YtdjdfbfcjajlkaaDoor
set_option linter.unusedVariables false
set_option linter.unusedSimpArgs false
open Go.RowKit Go.Shelf Bits
theorem filter_rangeR {P : Nat → Bool} {n : Nat} (h : ∀ i, P i = true → i < n) : ∀ d, (List.range (n + d)).filter P = (List.range n).filter P
 | 0 => rfl
 | d + 1 => by
  rw [← Nat.add_assoc, List.range_succ, List.filter_append, filter_rangeR h d]
  have : P (n + d) = false := by
   cases hp : P (n + d) with
   | false => rfl
   | true => have := h _ hp; omega
  simp [this]
theorem needs_in {g : List Tk} {ns : List Nat} (hg : graphN g = some ns) {l : List Int} {s : Nat} (hs : ∀ j : Nat, s.testBit j = decide ((j : Int) ∈ l)) {i : Nat} (hi : i < g.length) : decide (diff (ns.getD i 0) s = 0) = allDoneB (rdTk g i).f1 l := by
 rw [Bool.eq_iff_iff, decide_eq_true_iff, diff_zero]
 unfold allDoneB
 rw [List.all_eq_true]
 obtain ⟨_, _, hn⟩ := graphN_all hg
 constructor
 ·
  intro h x hx
  obtain ⟨hx0, hx1⟩ := setOfL_mem _ _ _ _ _ (by omega) (hn i hi).2 x hx
  have hxe : x = ((x.toNat : Nat) : Int) := by omega
  have := h x.toNat (by rw [need_bit hg hi]; exact decide_eq_true (by rw [← hxe]; exact hx))
  rw [hs] at this
  rw [hxe]
  exact this
 ·
  intro h j hj
  rw [need_bit hg hi] at hj
  rw [hs]
  exact h _ (of_decide_eq_true hj)
theorem doneN_eq (g : List Tk) (l : List Int) : vDoneB g l = (doneN g l).isSome := by
 unfold vDoneB
 rw [specValid_eq]
 cases hg : graphN g with
 | none =>
  rw [show doneN g l = none by unfold doneN; rw [hg]; rfl]
  rfl
 | some ns =>
  rw [show (some ns).isSome = true from rfl, Bool.true_and]
  have h1 := setOfN_isSome l g.length
  cases hs : setOfN l g.length with
  | none =>
   rw [hs] at h1
   rw [show doneN g l = none by unfold doneN; rw [hg]; show (setOfN l g.length).bind _ = none; rw [hs]; rfl]
   cases ha : ascB l
   ·
    rfl
   ·
    rw [ha, Bool.and_true] at h1
    rw [← h1]
    rfl
  | some s =>
   rw [hs] at h1
   have h2 : allInB l 0 (g.length - 1) = true ∧ ascB l = true := by rw [← Bool.and_eq_true]; exact h1.symm
   rw [h2.1, h2.2, Bool.true_and, Bool.true_and, graph_some_lt hg hs]
   have hb : ∀ j : Nat, s.testBit j = decide ((j : Int) ∈ l) := fun j => setOfN_bits hs j
   have hin := setOfL_mem _ _ _ _ _ (by omega) hs
   have h8 := (graphN_all hg).1
   have hc : closedN ns s = l.all fun x => allDoneB (rdTk g x.toNat).f1 l := by
    unfold closedN
    rw [Bool.eq_iff_iff, List.all_eq_true, List.all_eq_true]
    constructor
    ·
     intro h x hx
     obtain ⟨x0, x1⟩ := hin x hx
     have hxe : x = ((x.toNat : Nat) : Int) := by omega
     rw [← needs_in hg hb (by omega)]
     exact h x.toNat (mem_elems.2 ⟨by omega, by rw [hb, ← hxe]; exact decide_eq_true hx⟩)
    ·
     intro h i hi
     have hil := of_decide_eq_true ((hb i).symm.trans (elems_bit hi))
     obtain ⟨i0, i1⟩ := hin _ hil
     show needsIn ns s i = true
     unfold needsIn
     rw [needs_in hg hb (by omega)]
     exact h _ hil
   rw [← hc]
   cases closedN ns s <;> rfl
theorem readyN_eq {g : List Tk} {l : List Int} {ns : List Nat} {s : Nat} (hd : doneN g l = some (ns, s)) : elems (readyN ns s) = readyS g l := by
 obtain ⟨hg, hs, hc⟩ := doneN_facts hd
 obtain ⟨h8, hn, _⟩ := graphN_all hg
 have hb : ∀ j : Nat, s.testBit j = decide ((j : Int) ∈ l) := fun j => setOfN_bits hs j
 unfold elems readyS
 have e : ∀ i, (readyN ns s).testBit i = (decide (i < g.length) && rdB g l i) := fun i => by
  rw [readyN_bit, hn]
  by_cases hi : i < g.length
  ·
   rw [decide_eq_true hi, Bool.true_and, Bool.true_and]
   unfold isReady rdB
   rw [hb, needs_in hg hb hi]
  ·
   rw [decide_eq_false hi]
   rfl
 have h1 := filter_rangeR (P := (readyN ns s).testBit) (n := g.length) (fun i hi => by
  rw [e, Bool.and_eq_true] at hi
  exact of_decide_eq_true hi.1) (16 - g.length)
 rw [show g.length + (16 - g.length) = 16 by omega] at h1
 show (List.range 16).filter (readyN ns s).testBit = _
 rw [h1]
 apply List.filter_congr
 intro i hi
 rw [e, decide_eq_true (List.mem_range.1 hi), Bool.true_and]
theorem bubL_sorted (T : List Int) : ∀ (k : Nat) (A B : List Nat) (x : Nat), A.length = k → (A ++ B).Pairwise (leT T) → (∀ b ∈ B, leT T x b) → (bubL T k (A ++ x :: B)).Pairwise (leT T)
 | 0, A, B, x, hA, hs, hx => by
  obtain rfl : A = [] := List.eq_nil_of_length_eq_zero hA
  show (x :: B).Pairwise (leT T)
  exact List.pairwise_cons.2 ⟨hx, by simpa using hs⟩
 | k + 1, A, B, x, hA, hs, hx => by
  obtain ⟨A', y, rfl⟩ : ∃ A' y, A = A' ++ [y] := ⟨A.dropLast, A.getLast (by intro h; rw [h] at hA; simp at hA), (List.dropLast_concat_getLast _).symm⟩
  have hA' : A'.length = k := by simpa using hA
  have e1 : (A' ++ [y] ++ x :: B).getD (k + 1) 0 = x := by
   rw [List.getD_eq_getElem?_getD, ← hA', show A' ++ [y] ++ x :: B = (A' ++ [y]) ++ x :: B from rfl, List.getElem?_append_right (by simp)]
   simp
  have e2 : (A' ++ [y] ++ x :: B).getD k 0 = y := by
   rw [List.getD_eq_getElem?_getD, ← hA']
   simp
  unfold bubL
  rw [e1, e2]
  have hpw : (A' ++ (y :: B)).Pairwise (leT T) := by simpa using hs
  obtain ⟨p1, p2, p3⟩ := List.pairwise_append.1 hpw
  obtain ⟨p4, p5⟩ := List.pairwise_cons.1 p2
  by_cases hl : lessB T x y = true
  ·
   rw [if_pos hl]
   have e3 : swapL (A' ++ [y] ++ x :: B) k (k + 1) = A' ++ x :: (y :: B) := by
    unfold swapL
    rw [e1, e2, ← hA']
    simp [List.set_append]
   rw [e3]
   exact bubL_sorted T k A' (y :: B) x hA' hpw (fun b hb => by
    rcases List.mem_cons.1 hb with rfl | hb
    ·
     exact less_true hl
    ·
     exact (less_true hl).trans (p4 b hb))
  ·
   rw [if_neg hl]
   have hyx : leT T y x := less_false.1 (by simpa using hl)
   have : (A' ++ [y] ++ x :: B) = A' ++ (y :: x :: B) := by simp
   rw [this]
   refine List.pairwise_append.2 ⟨p1, List.pairwise_cons.2 ⟨fun b hb => ?_, List.pairwise_cons.2 ⟨hx, p5⟩⟩, fun a ha b hb => ?_⟩
   ·
    rcases List.mem_cons.1 hb with rfl | hb
    ·
     exact hyx
    ·
     exact p4 b hb
   ·
    rcases List.mem_cons.1 hb with rfl | hb
    ·
     exact p3 a ha _ (List.mem_cons_self ..)
    ·
     rcases List.mem_cons.1 hb with rfl | hb
     ·
      exact (p3 a ha y (List.mem_cons_self ..)).trans hyx
     ·
      exact p3 a ha b (List.mem_cons_of_mem _ hb)
theorem insL_sortedA (T : List Int) : ∀ (xs acc : List Nat), acc.Pairwise (leT T) → (xs.foldl (fun out x => bubL T out.length (out ++ [x])) acc).Pairwise (leT T)
 | [], acc, h => h
 | x :: xs, acc, h => insL_sortedA T xs _ (bubL_sorted T acc.length acc [] x rfl (by simpa using h) (fun b hb => by cases hb))
theorem insL_sorted (T : List Int) (xs : List Nat) : (insL T xs).Pairwise (leT T) := insL_sortedA T xs [] List.Pairwise.nil
theorem rank_ins (T : List Int) (xs : List Nat) : rankL T xs = insL T xs :=
 rank_unique (rank_sorted T xs).1 (insL_sorted T xs) ((rank_sorted T xs).2.trans (insL_perm T xs).symm)
theorem rdOrd_eq (g : List Tk) (l : List Int) : rdOrdN g l = ints (sRdOrd g l) := by
 unfold rdOrdN sRdOrd
 rw [doneN_eq]
 cases hd : doneN g l with
 | none => rfl
 | some p =>
  obtain ⟨ns, s⟩ := p
  rw [if_pos (show (some (ns, s)).isSome = true from rfl), ← tailN_eq (doneN_facts hd).1, ← readyN_eq hd, ← rank_ins]
theorem rdTasks_eq (g : List Tk) (l : List Int) : rdTasksN g l = ints (sRdTasks g l) := by
 unfold rdTasksN sRdTasks
 rw [doneN_eq]
 cases hd : doneN g l with
 | none => rfl
 | some p =>
  obtain ⟨ns, s⟩ := p
  rw [if_pos (show (some (ns, s)).isSome = true from rfl), ← readyN_eq hd]
  rfl
end Go.Proofs.YtdjdfbfcjajlkaaDoor

namespace Go.Proofs.YtdjdfbfcjajlkaaDoor
set_option linter.unusedVariables false
set_option linter.unusedSimpArgs false
open Go.RowKit Go.Shelf Bits
structure PRel (g : List Tk) (L : List Int) (k : Nat) (p : PS) : Prop where
 len : p.st.length = g.length
 b : p.b < 2 ^ g.length
 o : p.o < 2 ^ g.length
 hb : ∀ j, j < g.length → p.b.testBit j = !idleB L j
 hs : ∀ j, j < g.length → p.st.getD j 0 = if idleB L j then 0 else L.getD j 0
 ho : ∀ j, j < g.length → p.o.testBit j = decide (L.getD j 0 + (rdTk g j).f0 ≤ (k : Int) - 1)
theorem bit_far {n x j : Nat} (h : x < 2 ^ n) (hj : n ≤ j) : x.testBit j = false := Nat.testBit_lt_two_pow (Nat.lt_of_lt_of_le h (Nat.pow_le_pow_right (by omega) hj))
theorem elems_eq {n x : Nat} (hn : n ≤ 16) (hx : x < 2 ^ n) (P : Nat → Bool) (h : ∀ j, j < n → x.testBit j = P j) : elems x = (List.range n).filter P := by
 unfold elems
 have h1 := filter_rangeR (P := x.testBit) (n := n) (fun i hi => by
  by_cases hin : i < n
  ·
   exact hin
  ·
   rw [bit_far hx (by omega)] at hi
   cases hi) (16 - n)
 rw [show n + (16 - n) = 16 by omega] at h1
 rw [h1]
 exact List.filter_congr fun i hi => h i (List.mem_range.1 hi)
theorem ovN_bit (g : List Tk) (st : List Int) (now : Int) (j : Nat) : ∀ (l : List Nat) (o : Nat), (ovN g st now o l).testBit j = (o.testBit j || (decide (j ∈ l) && decide (st.getD j 0 + (rdTk g j).f0 ≤ now)))
 | [], o => by simp [ovN]
 | i :: l, o => by
  show (ovN g st now (ovF g st now o i) l).testBit j = _
  rw [ovN_bit g st now j l]
  unfold ovF
  by_cases hij : i = j
  ·
   subst hij
   by_cases hc : st.getD i 0 + (rdTk g i).f0 ≤ now
   ·
    rw [if_pos hc, or_bit, decide_eq_true hc, decide_eq_true (rfl : i = i), decide_eq_true (List.mem_cons_self : i ∈ i :: l)]
    simp
   ·
    rw [if_neg hc, decide_eq_false hc]
    simp
  ·
   have hm : decide (j ∈ i :: l) = decide (j ∈ l) := by
    rw [decide_eq_decide, List.mem_cons]
    constructor
    ·
     rintro (e | e)
     ·
      exact absurd e.symm hij
     ·
      exact e
    ·
     exact Or.inr
   rw [hm]
   by_cases hc : st.getD i 0 + (rdTk g i).f0 ≤ now
   ·
    rw [if_pos hc, or_bit, decide_eq_false hij, Bool.or_false]
   ·
    rw [if_neg hc]
theorem putB_bit (j : Nat) : ∀ (l : List Nat) (b : Nat), (putB b l).testBit j = (b.testBit j || decide (j ∈ l))
 | [], b => by simp [putB]
 | i :: l, b => by
  show (putB (b ||| 2 ^ i) l).testBit j = _
  rw [putB_bit j l, or_bit]
  by_cases hij : i = j
  ·
   subst hij
   simp
  ·
   rw [decide_eq_false hij, Bool.or_false]
   congr 1
   rw [decide_eq_decide, List.mem_cons]
   constructor
   ·
    exact Or.inr
   ·
    rintro (e | e)
    ·
     exact absurd e.symm hij
    ·
     exact e
theorem plan_step {g : List Tk} {ns : List Nat} (rm : List Int) (wk : Int) (hg : graphN g = some ns) {L : List Int} {k : Nat} {p : PS} (hk : k < 200) (hL : L.length = g.length) (hB : ∀ j, j < g.length → L.getD j 0 = 200 ∨ (0 ≤ L.getD j 0 ∧ L.getD j 0 < k)) (h : PRel g L k p) : PRel g (stepS g rm wk L k) (k + 1) (stepN g ns rm wk k p) := by
 obtain ⟨st, b, o⟩ := p
 obtain ⟨h1, h2, h3, h4, h5, h6⟩ := h
 simp only [] at h1 h2 h3 h4 h5 h6
 obtain ⟨h8, hn, _⟩ := graphN_all hg
 have hok := specValid_TOk (graphN_spec hg)
 have hol : ovN g st k o (elems b) < 2 ^ g.length := ovN_lt _ h3 (fun i hi => elems_below h2 hi)
 have hob : ∀ j, j < g.length → (ovN g st k o (elems b)).testBit j = overB g L k j := fun j hj => by
  have ht := hok.2.1 j
  rw [ovN_bit, h6 j hj, show decide (j ∈ elems b) = b.testBit j by
   rw [Bool.eq_iff_iff, decide_eq_true_iff, mem_elems]
   exact ⟨fun e => e.2, fun e => ⟨by omega, e⟩⟩, h4 j hj, h5 j hj]
  unfold overB
  rcases hB j hj with e | e
  ·
   rw [idleB_iff.2 e, e, Bool.not_true, Bool.false_and, Bool.or_false, decide_eq_decide]
   omega
  ·
   have : idleB L j = false := by
    cases hi : idleB L j with
    | false => rfl
    | true => have := idleB_iff.1 hi; omega
   rw [this, Bool.not_false, Bool.true_and, if_neg (by simp), Bool.eq_iff_iff, Bool.or_eq_true, decide_eq_true_iff, decide_eq_true_iff]
   omega
 generalize hov : ovN g st k o (elems b) = ov at hol hob
 have e1 : elems (diff b ov) = runS g L k := by
  refine elems_eq (by omega) (diff_lt h2) _ (fun j hj => ?_)
  rw [diff_bit, h4 j hj, hob j hj]
  unfold runB overB
  rcases hB j hj with e | e
  ·
   rw [idleB_iff.2 e, e, Bool.not_true, Bool.false_and]
   symm
   rw [Bool.and_eq_false_iff]
   left
   exact decide_eq_false (by omega)
  ·
   have : idleB L j = false := by
    cases hi : idleB L j with
    | false => rfl
    | true => have := idleB_iff.1 hi; omega
   rw [this, Bool.not_false, Bool.true_and, decide_eq_true (show L.getD j 0 ≤ (k : Int) by omega), Bool.true_and, Bool.eq_iff_iff, Bool.not_eq_true', decide_eq_false_iff_not, decide_eq_true_iff]
   omega
 have hbit : ∀ j : Nat, ov.testBit j = decide ((j : Int) ∈ ints (overS g L k)) := fun j => by
  by_cases hj : j < g.length
  ·
   rw [hob j hj, Bool.eq_iff_iff, overB_iff, decide_eq_true_iff, mem_intsN, mem_overS]
   exact ⟨fun e => ⟨hj, e⟩, fun e => e.2⟩
  ·
   rw [bit_far hol (by omega)]
   symm
   apply decide_eq_false
   rw [mem_intsN, mem_overS]
   exact fun e => hj e.1
 have e2 : elems (diff (readyN ns ov) b) = (readyS g (ints (overS g L k))).filter (idleB L) := by
  unfold readyS
  rw [List.filter_filter]
  refine elems_eq (by omega) (diff_lt (hn ▸ readyU_lt ns ov _)) _ (fun j hj => ?_)
  rw [diff_bit, readyN_bit, hn, decide_eq_true hj, Bool.true_and, h4 j hj, Bool.not_not, Bool.and_comm]
  congr 1
  unfold isReady rdB
  rw [hbit, needs_in hg hbit hj]
 have e3 : nextN g ns rm wk b ov = nextS g rm wk L k := by
  unfold nextN nextS
  rw [e1, e2, rank_ins, tailN_eq hg]
 unfold stepN
 simp only []
 rw [hov, e3]
 have hnl := nextS_lt g rm wk L k
 have hni : ∀ j, j < g.length → idleB (stepS g rm wk L k) j = (idleB L j && !decide (j ∈ nextS g rm wk L k)) := fun j hj => by
  rw [Bool.eq_iff_iff, idleB_iff, stepS_get hL, Bool.and_eq_true, idleB_iff]
  by_cases hm : j ∈ nextS g rm wk L k
  ·
   rw [if_pos hm]
   simp [hm]
   omega
  ·
   rw [if_neg hm]
   simp [hm]
 refine ⟨by simp only []; rw [putS_len]; exact h1, putB_lt _ h2 hnl, hol, fun j hj => ?_, fun j hj => ?_, fun j hj => ?_⟩
 ·
  simp only []
  rw [putB_bit, h4 j hj, hni j hj]
  cases idleB L j <;> cases decide (j ∈ nextS g rm wk L k) <;> rfl
 ·
  simp only []
  rw [putS_get _ _ _ _ (fun x hx => by rw [h1]; exact hnl x hx), h5 j hj, hni j hj, stepS_get hL]
  by_cases hm : j ∈ nextS g rm wk L k
  ·
   simp [hm]
  ·
   simp [hm]
 ·
  simp only []
  rw [hob j hj, stepS_get hL]
  unfold overB
  have ht := hok.2.2.2.2 j hj
  rw [decide_eq_decide]
  by_cases hm : j ∈ nextS g rm wk L k
  ·
   have := (nextS_in hm).2.2
   rw [if_pos hm, this]
   omega
  ·
   rw [if_neg hm]
   omega
theorem plan_rel {g : List Tk} {ns : List Nat} (rm : List Int) (wk : Int) (hg : graphN g = some ns) : ∀ k, k ≤ 200 → PRel g (planL g rm wk k) k (planN g ns rm wk k)
 | 0, _ => by
  have hok := specValid_TOk (graphN_spec hg)
  have e : ∀ j, j < g.length → (planL g rm wk 0).getD j 0 = 200 := fun j hj => by
   unfold planL
   rw [List.getD_eq_getElem?_getD, List.getElem?_replicate, if_pos hj]
   rfl
  refine ⟨by simp [planN], Nat.two_pow_pos _, Nat.two_pow_pos _, fun j hj => ?_, fun j hj => ?_, fun j hj => ?_⟩
  ·
   rw [idleB_iff.2 (e j hj)]
   simp [planN]
  ·
   rw [idleB_iff.2 (e j hj)]
   show (List.replicate g.length (0 : Int)).getD j 0 = _
   rw [List.getD_eq_getElem?_getD, List.getElem?_replicate, if_pos hj]
   rfl
  ·
   rw [e j hj]
   have := hok.2.1 j
   show (0 : Nat).testBit j = _
   rw [Nat.zero_testBit]
   symm
   exact decide_eq_false (by omega)
 | k + 1, hk => plan_step rm wk hg (by omega) (planL_ok g rm wk k (by omega)).1 (planL_before g rm wk k (by omega)) (plan_rel rm wk hg k (by omega))
theorem least_of {P : Nat → Prop} [DecidablePred P] : ∀ n, P n → ∃ k, k ≤ n ∧ P k ∧ ∀ j, j < k → ¬ P j
 | 0, h => ⟨0, Nat.le_refl _, h, fun j hj => absurd hj (Nat.not_lt_zero _)⟩
 | n + 1, h => by
  by_cases hc : ∃ m, m ≤ n ∧ P m
  ·
   obtain ⟨m, hm, hp⟩ := hc
   obtain ⟨k, h1, h2, h3⟩ := least_of m hp
   exact ⟨k, by omega, h2, h3⟩
  ·
   exact ⟨n + 1, Nat.le_refl _, h, fun j hj hp => hc ⟨j, by omega, hp⟩⟩
theorem all_bits {n x : Nat} (hx : x < 2 ^ n) (h : ∀ j, j < n → x.testBit j = true) : x = 2 ^ n - 1 := by
 apply Nat.eq_of_testBit_eq
 intro i
 rw [Nat.testBit_two_pow_sub_one]
 by_cases hi : i < n
 ·
  rw [h i hi, decide_eq_true hi]
 ·
  rw [bit_far hx (by omega), decide_eq_false hi]
theorem plan_eq {g : List Tk} {ns : List Nat} {rm : List Int} {wk : Int} (hg : graphN g = some ns) (hrm : roomB rm = true) (hwk : 1 ≤ wk) :
  ∃ K, K ≤ 200 ∧ (planN g ns rm wk K).o = 2 ^ g.length - 1 ∧ (∀ k, k < K → (planN g ns rm wk k).o ≠ 2 ^ g.length - 1) ∧ (planN g ns rm wk K).st = planS g rm wk := by
 have hv := graphN_spec hg
 have hok := specValid_TOk hv
 have hT := timeS_bound hok
 obtain ⟨k, hk, he⟩ := plan_ends hv hrm hwk
 have hn200 : ∀ i, i < g.length → (planL g rm wk k).getD i 0 ≠ 200 := fun i hi e => by
  have := he i hi
  have := hok.2.1 i
  omega
 have hall : (planN g ns rm wk (k + 1)).o = 2 ^ g.length - 1 := by
  have hr := plan_rel rm wk hg (k + 1) (by omega)
  refine all_bits hr.o (fun j hj => ?_)
  rw [hr.ho j hj, plan_stands hn200 1]
  have := he j hj
  exact decide_eq_true (by omega)
 obtain ⟨K, h1, h2, h3⟩ := least_of (P := fun k => (planN g ns rm wk k).o = 2 ^ g.length - 1) (k + 1) hall
 refine ⟨K, by omega, h2, h3, ?_⟩
 have hr := plan_rel rm wk hg K (by omega)
 have hK : ∀ i, i < g.length → (planL g rm wk K).getD i 0 ≠ 200 := fun i hi e => by
  have h4 := hr.ho i hi
  rw [h2, Nat.testBit_two_pow_sub_one, decide_eq_true hi, e] at h4
  have h5 := of_decide_eq_true h4.symm
  have := hok.2.1 i
  omega
 have e : planS g rm wk = planL g rm wk K := by
  have := plan_stands hK (200 - K)
  rw [show K + (200 - K) = 200 by omega] at this
  exact this
 rw [e]
 refine list_ext0 (by rw [hr.len, (planL_ok g rm wk K (by omega)).1]) (fun j hj => ?_)
 rw [hr.len] at hj
 rw [hr.hs j hj, if_neg (fun hi => hK j hj (idleB_iff.1 hi))]
end Go.Proofs.YtdjdfbfcjajlkaaDoor

namespace Go.Proofs.YtdjdfbfcjajlkaaDoor
set_option linter.unusedVariables false
set_option linter.unusedSimpArgs false
open Go.RowKit Go.Shelf Bits
open Go.Proofs.YtdjdfbfcjajlkaaDoorW.PrintWords Go.Proofs.YtdjdfbfcjajlkaaDoorW.PrintLast Go.Proofs.YtdjdfbfcjajlkaaDoorW.PrintMore
attribute [local go_sem] Oper.semAt_some
theorem plan_impl (C : Nat) (g : List Tk) (ns : List Nat) (A1 : Option Addr) (c1 : Nat) (rm : List Int) (wk : Int) (hgr : graphN g = some ns) (hrm : roomB rm = true) (hwk : 1 ≤ wk) (w : World) (hG : IsGraph w C g ns) (hT : Tab w) (hr1 : (Kd.int .i64).C w A1 rm.length rm) :
  Calls Tryd.prog 57 #[.pointer (some ⟨C, 0, none⟩), .slice A1 rm.length c1, .int .i64 wk] w fun e w' => ∃ v, e = .returned v ∧ Kd.R (Kd.int .i64) 3 w' w.heap.size (fun _ => True) v (planS g rm wk) ∧ Below w.heap.size w w' := by
 obtain ⟨K, h1, h2, h3, h4⟩ := plan_eq hgr hrm hwk
 rw [← h4]
 exact iplan_calls C g ns A1 c1 rm wk K hgr (specValid_TOk (graphN_spec hgr)) (roomB_facts hrm).1 h1 h2 h3 w hG hT hr1
set_option maxRecDepth 100000 in
theorem PlanStarts_impl (A : Option Addr) (c : Nat) (g : List Tk) (A1 : Option Addr) (c1 : Nat) (rm : List Int) (wk : Int) (w : World) (hr : kTk.C w A g.length g) (hr1 : (Kd.int .i64).C w A1 rm.length rm) (hT : Tab w) :
  Calls Tryd.prog 22 #[.slice A g.length c, .slice A1 rm.length c1, .int .i64 wk] w fun e W' => ∃ v, e = .returned v ∧ Kd.R (Kd.int .i64) 3 W' w.heap.size (fun _ => True) v (pS g rm wk) ∧ Below w.heap.size w W' := by
 by_cases hp : (specValid g && placeB rm wk) = true
 ·
  have HF : Hid (pS g rm wk = planS g rm wk) := Lib.hid (by unfold pS; rw [if_pos hp])
  rw [Bool.and_eq_true] at hp
  obtain ⟨ns, hg⟩ := graphN_yes hp.1
  obtain ⟨h1, h2, h3⟩ := placeB_facts hp.2
  have HP := Lib.hid (placeIn_yes A c g ns A1 c1 rm wk hp.2 w hr hT hg hr1)
  have HK := Lib.hid (fun (W : World) C (h : IsGraph W C g ns) (hT : Tab W) hr => plan_impl C g ns A1 c1 rm wk hg h1 h2 W h hT hr)
  have HR1 := Lib.hid hr1
  have HT := Lib.hid hT
  clear hr hT hg h1 h2 h3 hp hr1
  go_enter Tryd.func22, Tryd.ntmps22
  go_wp2_with (first | (go_at_call 54; refine HP.out.mono ?_; rintro e w1 ⟨C, rfl, hG, hB1⟩; have HG := Lib.hid hG; have HB1 := Lib.hid hB1; clear hG hB1) | (go_at_call 57; refine (HK.out _ C HG.out (HT.out.keep HT.out.lt HB1.out) (Kd.C_below HR1.out HB1.out)).mono ?_; rintro e w3 ⟨v, rfl, hR, hB3⟩))
  go_ret
  have hz := HB1.out.size
  exact ⟨_, rfl, by rw [HF.out]; exact Kd.R_lower hR hz, HB1.out.trans (hB3.mono hz)⟩
 ·
  have HF : Hid (pS g rm wk = []) := Lib.hid (by unfold pS; rw [if_neg hp])
  have hn : ∀ ns, graphN g = some ns → placeB rm wk = false := fun ns hg => by
   rw [graphN_spec hg, Bool.true_and] at hp
   simpa using hp
  have HP := Lib.hid (placeIn_no A c g A1 c1 rm wk hn w hr hT hr1)
  clear hr hT hp hr1 hn
  go_enter Tryd.func22, Tryd.ntmps22
  go_wp2_with (go_at_call 54; refine HP.out.mono ?_; rintro e w1 ⟨rfl, hB1⟩)
  go_ret
  exact ⟨_, rfl, by rw [HF.out]; exact R_nilJ _ _, hB1⟩
theorem deadlineValid_is (b : Bool) (dl : Int) (h : Hid (inB dl 0 200 = b)) (w : World) : Calls Tryd.prog 55 #[.int .i64 dl] w fun e w' => e = .returned (.bool b) ∧ w' = w := by
 go_enter Tryd.func55, Tryd.ntmps55
 go_wp2_with (go_at_call 64; refine (within_is _ _ _ _ h _).mono ?_; rintro e w2 ⟨rfl, rfl⟩)
 go_ret
 exact ⟨rfl, rfl⟩
set_option maxRecDepth 100000 in
set_option maxHeartbeats 2000000 in
theorem WorkersFor_impl (A : Option Addr) (c : Nat) (g : List Tk) (A1 : Option Addr) (c1 : Nat) (rm : List Int) (dl : Int) (w : World) (hr : kTk.C w A g.length g) (hr1 : (Kd.int .i64).C w A1 rm.length rm) (hT : Tab w) :
  Calls Tryd.prog 18 #[.slice A g.length c, .slice A1 rm.length c1, .int .i64 dl] w fun e W' => e = .returned (.int .i64 (wfS g rm dl)) ∧ Below w.heap.size w W' := by
 by_cases hp : (specValid g && roomB rm) = true
 ·
  rw [Bool.and_eq_true] at hp
  obtain ⟨ns, hg⟩ := graphN_yes hp.1
  have hpl : placeB rm 4 = true := by unfold placeB; rw [hp.2]; rfl
  have HP := Lib.hid (placeIn_yes A c g ns A1 c1 rm 4 hpl w hr hT hg hr1)
  have HK := Lib.hid (fun (n : Nat) (hn : 1 ≤ n) (W : World) C (h : IsGraph W C g ns) (hT : Tab W) hr => plan_impl C g ns A1 c1 rm (n : Nat) hg hp.2 (by omega) W h hT hr)
  have HR1 := Lib.hid hr1
  have HT := Lib.hid hT
  have HOK := Lib.hid (specValid_TOk hp.1)
  have HPP := Lib.hid hp
  clear hr hT hg hp hr1 hpl
  cases h3 : inB dl 0 200 with
  | false =>
   have HF : Hid (wfS g rm dl = -1) := Lib.hid (by unfold wfS; rw [h3, Bool.and_false, Bool.and_false]; rfl)
   have H3 := Lib.hid h3
   clear h3
   go_enter Tryd.func18, Tryd.ntmps18
   go_wp2_with (first | (go_at_call 54; refine HP.out.mono ?_; rintro e w1 ⟨C, rfl, hG, hB1⟩; have HG := Lib.hid hG; have HB1 := Lib.hid hB1; clear hG hB1) | (go_at_call 55; refine (deadlineValid_is _ _ H3 _).mono ?_; rintro e wd ⟨rfl, rfl⟩))
   go_ret
   exact ⟨ret_int HF.out.symm, HB1.out⟩
  | true =>
   have HF : Hid (wfS g rm dl = firstN (meetsB g rm dl) 4 1) := Lib.hid (by unfold wfS; rw [h3, HPP.out.1, HPP.out.2]; rfl)
   have H3 := Lib.hid h3
   clear h3
   go_enter Tryd.func18, Tryd.ntmps18
   go_wp2_with (first | (go_at_call 54; refine HP.out.mono ?_; rintro e w1 ⟨C, rfl, hG, hB1⟩; have HG := Lib.hid hG; have HB1 := Lib.hid hB1; clear hG hB1) | (go_at_call 55; refine (deadlineValid_is _ _ H3 _).mono ?_; rintro e wd ⟨rfl, rfl⟩))
   go_loopw [9] (fun i wr => ∃ n : Nat, 1 ≤ n ∧ n ≤ 5 ∧ i = .int .i64 n ∧ Hid (wfS g rm dl = firstN (meetsB g rm dl) (5 - n) n) ∧ Below wd.heap.size wd wr) (fun i _ => 5 - (intOf i).toNat)
   case atStart => exact ⟨1, by omega, by omega, rfl, HF, Below.refl _ _⟩
   case round =>
    clear HF
    obtain ⟨n, hn1, hn5, rfl, HF, hB⟩ := hrel
    have HB := Lib.hid hB
    clear hB
    by_cases hn : n < 5
    ·
     have dn : decide ((n : Int) ≤ 4) = true := decide_eq_true (by omega)
     have HG2 := Lib.hid (HG.out.below HB.out)
     have HPL := Lib.hid (HK.out n hn1 wr C HG2.out (HT.out.keep HT.out.lt (HB1.out.trans (HB.out.mono HB1.out.size))) (Kd.C_below HR1.out (HB1.out.trans (HB.out.mono HB1.out.size))))
     have hpo := planS_ok g rm n
     have HPO := Lib.hid hpo
     clear hpo
     cases hm : meetsB g rm dl n with
     | true =>
      have HM := Lib.hid hm
      have HFF : Hid (wfS g rm dl = n) := Lib.hid (by
       rw [HF.out, show 5 - n = (4 - n) + 1 by omega]
       show (if meetsB g rm dl n then (n : Int) else _) = _
       rw [if_pos hm])
      unfold meetsB at hm
      clear HM
      generalize planS g rm n = st at HPL HPO hm
      have HEN := Lib.hid (fun (W : World) A' c' h h2 => iend_calls C g ns A' c' st HOK.out HPO.out.sok HPO.out.1 W h h2)
      generalize endS g st g.length = en at hm HEN
      go_wp2_with (first | (go_at_call 57; refine HPL.out.mono ?_; rintro e w3 ⟨v, rfl, hR, hB3⟩; obtain ⟨A3, c3, rfl, _, hC3⟩ := Kd.R_reads hR; have HC3 := Lib.hid hC3; have HB3 := Lib.hid hB3; clear hR hC3 hB3) | (go_at_call 56; refine (HEN.out _ A3 c3 (HG2.out.below HB3.out) HC3.out).mono ?_; rintro e w4 ⟨rfl, rfl⟩))
      go_ret
      exact ⟨ret_int HFF.out.symm, HB1.out.trans ((HB.out.trans (HB3.out.mono HB.out.size)).mono HB1.out.size)⟩
     | false =>
      have HM := Lib.hid hm
      have HFF : Hid (wfS g rm dl = firstN (meetsB g rm dl) (5 - (n + 1)) (n + 1)) := Lib.hid (by
       rw [HF.out, show 5 - n = (5 - (n + 1)) + 1 by omega]
       show (if meetsB g rm dl n then (n : Int) else _) = _
       rw [if_neg (by rw [hm]; simp)])
      unfold meetsB at hm
      clear HM
      generalize planS g rm n = st at HPL HPO hm
      have HEN := Lib.hid (fun (W : World) A' c' h h2 => iend_calls C g ns A' c' st HOK.out HPO.out.sok HPO.out.1 W h h2)
      generalize endS g st g.length = en at hm HEN
      go_wp2_with (first | (go_at_call 57; refine HPL.out.mono ?_; rintro e w3 ⟨v, rfl, hR, hB3⟩; obtain ⟨A3, c3, rfl, _, hC3⟩ := Kd.R_reads hR; have HC3 := Lib.hid hC3; have HB3 := Lib.hid hB3; clear hR hC3 hB3) | (go_at_call 56; refine (HEN.out _ A3 c3 (HG2.out.below HB3.out) HC3.out).mono ?_; rintro e w4 ⟨rfl, rfl⟩))
      go_roundw
      case rel => exact ⟨n + 1, by omega, by omega, by go_num, HFF, HB.out.trans (HB3.out.mono HB.out.size)⟩
      case measure => simp [intOf]; omega
    ·
     obtain rfl : n = 5 := by omega
     have dn : decide (((5 : Nat) : Int) ≤ 4) = false := by decide
     have HFF : Hid (wfS g rm dl = -1) := Lib.hid (by rw [HF.out]; rfl)
     go_wp2
     go_ret
     exact ⟨ret_int HFF.out.symm, HB1.out.trans (HB.out.mono HB1.out.size)⟩
 ·
  have HF : Hid (wfS g rm dl = -1) := Lib.hid (by
   unfold wfS
   rw [← Bool.and_assoc]
   have : (specValid g && roomB rm) = false := by simpa using hp
   rw [this]; rfl)
  have hn : ∀ ns, graphN g = some ns → placeB rm 4 = false := fun ns hg => by
   rw [graphN_spec hg, Bool.true_and] at hp
   unfold placeB
   have : roomB rm = false := by simpa using hp
   rw [this]; rfl
  have HP := Lib.hid (placeIn_no A c g A1 c1 rm 4 hn w hr hT hr1)
  clear hr hT hp hr1 hn
  go_enter Tryd.func18, Tryd.ntmps18
  go_wp2_with (go_at_call 54; refine HP.out.mono ?_; rintro e w1 ⟨rfl, hB1⟩)
  go_ret
  exact ⟨ret_int HF.out.symm, hB1⟩
set_option maxRecDepth 100000 in
set_option maxHeartbeats 2000000 in
theorem sWorkersFor_calls (A : Option Addr) (c : Nat) (g : List Tk) (A1 : Option Addr) (c1 : Nat) (rm : List Int) (dl : Int) (w : World) (hr : kTk.C w A g.length g) (hr1 : (Kd.int .i64).C w A1 rm.length rm) :
  Calls Tryd.prog 15 #[.slice A g.length c, .slice A1 rm.length c1, .int .i64 dl] w fun e W' => e = .returned (.int .i64 (wfS g rm dl)) ∧ Below w.heap.size w W' := by
 have HV := fun b (h : specValid g = b) => validGraph_is b A c g (Lib.hid h) w hr
 have HR := Lib.hid hr
 have HR1 := Lib.hid hr1
 clear hr hr1
 cases h1 : specValid g with
 | false =>
  have HF : Hid (wfS g rm dl = -1) := Lib.hid (by unfold wfS; rw [h1]; rfl)
  have HV := Lib.hid (HV _ h1)
  clear h1
  go_enter Tryd.func15, Tryd.ntmps15
  go_wp2_with (go_at_call 48; refine HV.out.mono ?_; rintro e w1 ⟨rfl, hB1⟩; have HB1 := Lib.hid hB1; clear hB1)
  go_ret
  exact ⟨ret_int HF.out.symm, HB1.out⟩
 | true =>
  have HVV := Lib.hid h1
  have HV := Lib.hid (HV _ h1)
  clear h1
  cases h2 : roomB rm with
  | false =>
   have HF : Hid (wfS g rm dl = -1) := Lib.hid (by unfold wfS; rw [h2, Bool.false_and, Bool.and_false]; rfl)
   have H2 := Lib.hid h2
   clear h2
   go_enter Tryd.func15, Tryd.ntmps15
   go_wp2_with (first | (go_at_call 48; refine HV.out.mono ?_; rintro e w1 ⟨rfl, hB1⟩; have HB1 := Lib.hid hB1; clear hB1) | (go_at_call 49; refine (validRoom_is _ _ _ _ H2 _ (Kd.C_below HR1.out HB1.out)).mono ?_; rintro e w' ⟨rfl, rfl⟩))
   go_ret
   exact ⟨ret_int HF.out.symm, HB1.out⟩
  | true =>
   have H2 := Lib.hid h2
   cases h3 : inB dl 0 200 with
   | false =>
    have HF : Hid (wfS g rm dl = -1) := Lib.hid (by unfold wfS; rw [h3, Bool.and_false, Bool.and_false]; rfl)
    have H3 := Lib.hid h3
    clear h2 h3
    go_enter Tryd.func15, Tryd.ntmps15
    go_wp2_with (first | (go_at_call 48; refine HV.out.mono ?_; rintro e w1 ⟨rfl, hB1⟩; have HB1 := Lib.hid hB1; clear hB1) | (go_at_call 49; refine (validRoom_is _ _ _ _ H2 _ (Kd.C_below HR1.out HB1.out)).mono ?_; rintro e w' ⟨rfl, rfl⟩) | (go_at_call 50; refine (inRange_is _ _ _ _ H3 _).mono ?_; rintro e w' ⟨rfl, rfl⟩))
    go_ret
    exact ⟨ret_int HF.out.symm, HB1.out⟩
   | true =>
    have HF : Hid (wfS g rm dl = firstN (meetsB g rm dl) 4 1) := Lib.hid (by unfold wfS; rw [h3, h2, HVV.out]; rfl)
    have H3 := Lib.hid h3
    have HK := Lib.hid (fun (n : Nat) (W : World) hr hr1 => plan_calls A c g A1 c1 rm (n : Nat) HVV.out (roomB_facts h2).1 W hr hr1)
    have HOK := Lib.hid (specValid_TOk HVV.out)
    clear h2 h3
    go_enter Tryd.func15, Tryd.ntmps15
    go_wp2_with (first | (go_at_call 48; refine HV.out.mono ?_; rintro e w1 ⟨rfl, hB1⟩; have HB1 := Lib.hid hB1; clear hB1) | (go_at_call 49; refine (validRoom_is _ _ _ _ H2 _ (Kd.C_below HR1.out HB1.out)).mono ?_; rintro e w' ⟨rfl, rfl⟩) | (go_at_call 50; refine (inRange_is _ _ _ _ H3 _).mono ?_; rintro e w' ⟨rfl, rfl⟩))
    have HBB := Lib.hid HB1.out
    go_loopw [7] (fun i wr => ∃ n : Nat, 1 ≤ n ∧ n ≤ 5 ∧ i = .int .i64 n ∧ Hid (wfS g rm dl = firstN (meetsB g rm dl) (5 - n) n) ∧ Below w.heap.size w wr) (fun i _ => 5 - (intOf i).toNat)
    case atStart => exact ⟨1, by omega, by omega, rfl, HF, HBB.out⟩
    case round =>
     clear HF
     obtain ⟨n, hn1, hn5, rfl, HF, hB⟩ := hrel
     have HB := Lib.hid hB
     clear hB
     by_cases hn : n < 5
     ·
      have dn : decide ((n : Int) ≤ 4) = true := decide_eq_true (by omega)
      have HPL := Lib.hid (HK.out n wr (Kd.C_below HR.out HB.out) (Kd.C_below HR1.out HB.out))
      have hpo := planS_ok g rm n
      have HPO := Lib.hid hpo
      clear hpo
      cases hm : meetsB g rm dl n with
      | true =>
       have HFF : Hid (wfS g rm dl = n) := Lib.hid (by
        rw [HF.out, show 5 - n = (4 - n) + 1 by omega]
        show (if meetsB g rm dl n then (n : Int) else _) = _
        rw [if_pos hm])
       unfold meetsB at hm
       generalize planS g rm n = st at HPL HPO hm
       have HEN := Lib.hid (fun (W : World) A' c' h h2 => endOf_calls A c g A' c' st HOK.out HPO.out.sok HPO.out.1 W h h2)
       generalize endS g st g.length = en at hm HEN
       go_wp2_with (first | (go_at_call 52; refine HPL.out.mono ?_; rintro e w3 ⟨v, rfl, hR, hB3⟩; obtain ⟨A3, c3, rfl, _, hC3⟩ := Kd.R_reads hR; have HC3 := Lib.hid hC3; have HB3 := Lib.hid (HB.out.trans (hB3.mono HB.out.size)); clear hR hC3 hB3) | (go_at_call 51; refine (HEN.out _ A3 c3 (Kd.C_below HR.out HB3.out) HC3.out).mono ?_; rintro e w4 ⟨rfl, hB4⟩; have HB4 := Lib.hid (HB3.out.trans (hB4.mono HB3.out.size)); clear hB4))
       go_ret
       exact ⟨ret_int HFF.out.symm, HB4.out⟩
      | false =>
       have HFF : Hid (wfS g rm dl = firstN (meetsB g rm dl) (5 - (n + 1)) (n + 1)) := Lib.hid (by
        rw [HF.out, show 5 - n = (5 - (n + 1)) + 1 by omega]
        show (if meetsB g rm dl n then (n : Int) else _) = _
        rw [if_neg (by rw [hm]; simp)])
       unfold meetsB at hm
       generalize planS g rm n = st at HPL HPO hm
       have HEN := Lib.hid (fun (W : World) A' c' h h2 => endOf_calls A c g A' c' st HOK.out HPO.out.sok HPO.out.1 W h h2)
       generalize endS g st g.length = en at hm HEN
       go_wp2_with (first | (go_at_call 52; refine HPL.out.mono ?_; rintro e w3 ⟨v, rfl, hR, hB3⟩; obtain ⟨A3, c3, rfl, _, hC3⟩ := Kd.R_reads hR; have HC3 := Lib.hid hC3; have HB3 := Lib.hid (HB.out.trans (hB3.mono HB.out.size)); clear hR hC3 hB3) | (go_at_call 51; refine (HEN.out _ A3 c3 (Kd.C_below HR.out HB3.out) HC3.out).mono ?_; rintro e w4 ⟨rfl, hB4⟩; have HB4 := Lib.hid (HB3.out.trans (hB4.mono HB3.out.size)); clear hB4))
       go_roundw
       case rel => exact ⟨n + 1, by omega, by omega, by go_num, HFF, HB4.out⟩
       case measure => simp [intOf]; omega
     ·
      obtain rfl : n = 5 := by omega
      have dn : decide (((5 : Nat) : Int) ≤ 4) = false := by decide
      have HFF : Hid (wfS g rm dl = -1) := Lib.hid (by rw [HF.out]; rfl)
      go_wp2
      go_ret
      exact ⟨ret_int HFF.out.symm, HB.out⟩
end Go.Proofs.YtdjdfbfcjajlkaaDoor

namespace Go.Proofs.YtdjdfbfcjajlkaaDoor
set_option linter.unusedVariables false
set_option linter.unusedSimpArgs false
open Go.RowKit Go.Shelf Bits
theorem longestN_eq {g : List Tk} (hv : specValid g = true) : longestN g = longL (tailsS g) g.length := by
 obtain ⟨ns, hg⟩ := graphN_yes hv
 unfold longestN
 rw [hg]
 show longL (tailN g ns) g.length = _
 rw [tailN_eq hg]
theorem longest_le {g : List Tk} (hv : specValid g = true) {st : List Int} (h0 : ∀ i, i < g.length → 0 ≤ st.getD i 0) (hN : ∀ k, k < g.length → ∀ i : Nat, (i : Int) ∈ (rdTk g k).f1 → st.getD i 0 + (rdTk g i).f0 ≤ st.getD k 0) : longestN g ≤ endS g st g.length := by
 rw [longestN_eq hv]
 exact longS_le h0 hN
theorem vDone_nil {g : List Tk} (hv : specValid g = true) : vDoneB g [] = true := by
 unfold vDoneB
 rw [hv]
 rfl
theorem first_zero {g : List Tk} (hv : specValid g = true) {rm : List Int} (hrm : roomB rm = true) {wk : Int} (hwk : 1 ≤ wk) (hg : 0 < g.length) : ∃ y, 0 < (rdOrdN g []).length ∧ (rdOrdN g []).getD 0 0 = ((y : Nat) : Int) ∧ y < g.length ∧ (planS g rm wk).getD y 0 = 0 := by
 have hok := specValid_TOk hv
 rw [rdOrd_eq]
 have e : sRdOrd g [] = insL (tailsS g) (readyS g []) := by
  unfold sRdOrd
  rw [if_pos (vDone_nil hv)]
 rw [e]
 have h0 : ∀ j, j < g.length → (planL g rm wk 0).getD j 0 = 200 := fun j hj => by
  unfold planL
  rw [List.getD_eq_getElem?_getD, List.getElem?_replicate, if_pos hj]
  rfl
 obtain ⟨x, hx, hrd⟩ := some_ready hv (D := []) ⟨0, hg, by simp⟩
 have hmem : x ∈ insL (tailsS g) (readyS g []) := (insL_perm _ _).mem_iff.2 (List.mem_filter.2 ⟨List.mem_range.2 hx, hrd⟩)
 obtain ⟨y, ys, hys⟩ := List.exists_cons_of_ne_nil (List.ne_nil_of_mem hmem)
 have ho : overS g (planL g rm wk 0) (0 : Nat) = [] := by
  unfold overS
  rw [List.filter_eq_nil_iff]
  intro i hi
  rw [overB_iff, h0 i (List.mem_range.1 hi)]
  have := hok.2.1 i
  omega
 have hrn : runS g (planL g rm wk 0) (0 : Nat) = [] := by
  unfold runS
  rw [List.filter_eq_nil_iff]
  intro i hi
  unfold runB
  rw [h0 i (List.mem_range.1 hi)]
  simp
 have hfl : (readyS g []).filter (idleB (planL g rm wk 0)) = readyS g [] := by
  rw [List.filter_eq_self]
  exact fun a ha => idleB_iff.2 (h0 a (readyS_lt a ha))
 have hn : y ∈ nextS g rm wk (planL g rm wk 0) (0 : Nat) := by
  unfold nextS
  rw [ho, hrn, show ints [] = [] from rfl, hfl, hys]
  exact adm_first hok hrm hwk y ys
 have hyl := nextS_lt _ _ _ _ _ y hn
 have h1 : (planL g rm wk 1).getD y 0 = 0 := by
  rw [show planL g rm wk 1 = stepS g rm wk (planL g rm wk 0) (0 : Nat) from rfl, stepS_get (planL_ok g rm wk 0 (by omega)).1, if_pos hn]
  rfl
 refine ⟨y, by rw [hys]; simp [ints], by rw [hys]; rfl, hyl, ?_⟩
 rw [planL_final (k := 1) (by omega) (by rw [h1]; decide), h1]
theorem firstN_mono {P Q : Nat → Bool} (h : ∀ n, P n = true → Q n = true) : ∀ f n, firstN P f n = -1 ∨ ((n : Int) ≤ firstN Q f n ∧ firstN Q f n ≤ firstN P f n)
 | 0, _ => .inl rfl
 | f + 1, n => by
  have ih := firstN_mono h f (n + 1)
  unfold firstN
  by_cases hp : P n = true
  ·
   rw [if_pos hp, if_pos (h n hp)]
   right
   omega
  ·
   rw [if_neg hp]
   by_cases hq : Q n = true
   ·
    rw [if_pos hq]
    rcases ih with e | e
    ·
     exact .inl e
    ·
     right
     omega
   ·
    rw [if_neg hq]
    rcases ih with e | e
    ·
     exact .inl e
    ·
     right
     omega
theorem later_law {g : List Tk} {rm : List Int} {dl : Int} (h : 0 ≤ wfS g rm dl) (hd : dl ≠ 200) : 1 ≤ wfS g rm (dl + 1) ∧ wfS g rm (dl + 1) ≤ wfS g rm dl := by
 unfold wfS at h ⊢
 by_cases hc : (specValid g && (roomB rm && inB dl 0 200)) = true
 ·
  have hc' := hc
  rw [Bool.and_eq_true, Bool.and_eq_true] at hc
  have h1 := inB_true.1 hc.2.2
  have h2 : inB (dl + 1) 0 200 = true := inB_true.2 (by omega)
  rw [if_pos hc'] at h ⊢
  rw [h2, hc.1, hc.2.1, if_pos (show (true && (true && true)) = true from rfl)]
  rcases firstN_mono (P := meetsB g rm dl) (Q := meetsB g rm (dl + 1)) (fun n hn => by
   unfold meetsB at hn ⊢
   have := of_decide_eq_true hn
   exact decide_eq_true (by omega)) 4 1 with e | e
  ·
   rw [e] at h
   omega
  ·
   omega
 ·
  rw [if_neg hc] at h
  omega
theorem firstN_none {P : Nat → Bool} : ∀ f n, (∀ k, n ≤ k → P k = false) → firstN P f n = -1
 | 0, _, _ => rfl
 | f + 1, n, h => by
  unfold firstN
  rw [if_neg (by rw [h n (Nat.le_refl _)]; simp)]
  exact firstN_none f (n + 1) (fun k hk => h k (by omega))
theorem one_law {g : List Tk} (hv : specValid g = true) {rm : List Int} (hrm : roomB rm = true) (hg : 0 < g.length) : wfS g rm (timeS g) = 1 ∧ wfS g rm (longestN g - 1) = -1 := by
 have hok := specValid_TOk hv
 have hT := timeS_bound hok
 constructor
 ·
  unfold wfS
  rw [hv, hrm, inB_true.2 (show 0 ≤ timeS g ∧ timeS g ≤ 200 by omega), if_pos (show (true && (true && true)) = true from rfl)]
  show (if meetsB g rm (timeS g) 1 then ((1 : Nat) : Int) else _) = 1
  rw [if_pos]
  ·
   rfl
  ·
   unfold meetsB
   exact decide_eq_true (endS_le hT.1 _ (planS_ends hv hrm (Int.le_refl _)))
 ·
  unfold wfS
  split
  ·
   refine firstN_none _ _ (fun k hk => ?_)
   unfold meetsB
   apply decide_eq_false
   have := longest_le hv (st := planS g rm (k : Nat)) (fun i _ => (planS_ok g rm k).2 i |>.1) (fun q hq i hi => planS_needs hv hrm (by omega) hq i hi)
   omega
  ·
   rfl
end Go.Proofs.YtdjdfbfcjajlkaaDoor

namespace Go.Proofs.YtdjdfbfcjajlkaaDoor
set_option linter.unusedVariables false
set_option linter.unusedSimpArgs false
open Go.RowKit Go.Shelf Bits
def laterN (d : Int) (st : List Int) (j : Nat) : List Int := (st.take j).map fun x => x + d
theorem laterN_len {d : Int} {st : List Int} {j : Nat} (h : j ≤ st.length) : (laterN d st j).length = j := by
 unfold laterN
 rw [List.length_map, List.length_take]
 omega
theorem laterN_get {d : Int} {st : List Int} {i j : Nat} (hi : i < j) (hj : j ≤ st.length) : (laterN d st j).getD i 0 = st.getD i 0 + d := by
 unfold laterN
 rw [List.getD_eq_getElem?_getD, List.getElem?_map, List.getElem?_take_of_lt hi, List.getD_eq_getElem?_getD, List.getElem?_eq_getElem (by omega)]
 rfl
theorem laterN_snoc {d : Int} {st : List Int} {j : Nat} (hj : j < st.length) : laterN d st (j + 1) = laterN d st j ++ [st.getD j 0 + d] := by
 unfold laterN
 rw [List.take_succ_eq_append_getElem hj, List.map_append, List.getD_eq_getElem?_getD, List.getElem?_eq_getElem hj]
 rfl
theorem later_valid {g : List Tk} {rm : List Int} {wk : Int} {st : List Int} {d : Int} (h : Valid g rm wk st) (hd : 0 ≤ d) (hs : ∀ k, k < st.length → st.getD k 0 + d ≤ 200) : Valid g rm wk (laterN d st st.length) := by
 refine valid_shift (d := d) h (by rw [laterN_len (Nat.le_refl _)]; exact h.len) (fun i hi => laterN_get (by rw [h.len]; exact hi) (Nat.le_refl _)) (fun i hi => ?_)
 have hil : i < st.length := by rw [h.len]; exact hi
 rw [laterN_get hil (Nat.le_refl _)]
 have := h.b i hi
 have := hs i hil
 omega
theorem later_end {g : List Tk} {rm : List Int} {wk : Int} {st : List Int} {d : Int} (h : Valid g rm wk st) (hd : 0 ≤ d) (hs : ∀ k, k < st.length → st.getD k 0 + d ≤ 200) (hn : 0 < g.length) : etS g rm wk (laterN d st st.length) = etS g rm wk st + d := by
 have h' := later_valid h hd hs
 unfold etS
 rw [if_pos (valid_vSt h), if_pos (valid_vSt h')]
 exact end_shift h h' hn (fun i hi => laterN_get (by rw [h.len]; exact hi) (Nat.le_refl _))
theorem large_valid {g : List Tk} {rm : List Int} {wk : Int} {st : List Int} (h : Valid g rm wk st) : Valid g (List.replicate rm.length 8) 4 st := by
 obtain ⟨h1, h2, h3⟩ := placeB_facts h.p
 obtain ⟨h4, h5⟩ := roomB_facts h1
 rw [h4]
 refine valid_more h (by decide) h3 (fun p hp => ?_)
 have := (h5 p hp).2
 have e : (List.replicate 3 (8 : Int)).getD p 0 = 8 := by
  rcases p with _ | _ | _ | p
  ·
   rfl
  ·
   rfl
  ·
   rfl
  ·
   omega
 omega
theorem rep_snoc (n : Nat) (x : Int) : List.replicate (n + 1) x = List.replicate n x ++ [x] := List.replicate_succ'
theorem etS_valid {g : List Tk} {rm : List Int} {wk : Int} {st : List Int} (h : Valid g rm wk st) : etS g rm wk st = endS g st g.length := by
 unfold etS
 rw [if_pos (valid_vSt h)]
theorem etS_no {g : List Tk} {rm : List Int} {wk : Int} {st : List Int} (h : vStB g rm wk st = false) : etS g rm wk st = -1 := by
 unfold etS
 rw [h]
 rfl
theorem etS_cases (g : List Tk) (rm : List Int) (wk : Int) (st : List Int) : (etS g rm wk st = -1 ∧ vStB g rm wk st = false) ∨ (0 ≤ etS g rm wk st ∧ Valid g rm wk st) := by
 cases h : vStB g rm wk st with
 | false => exact .inl ⟨etS_no h, rfl⟩
 | true =>
  refine .inr ⟨?_, vSt_valid h⟩
  rw [etS_valid (vSt_valid h)]
  exact endS_nonneg _ _ _
theorem etS_bound (g : List Tk) (rm : List Int) (wk : Int) (st : List Int) : -1 ≤ etS g rm wk st ∧ etS g rm wk st ≤ 1020 := by
 cases h : vStB g rm wk st with
 | false => rw [etS_no h]; omega
 | true =>
  have hv := vSt_valid h
  rw [etS_valid hv]
  have := endS_bound hv.ok hv.sok g.length
  omega
def someEnd (g : List Tk) (st : List Int) (n : Int) (j : Nat) : Bool := (List.range j).any fun i => st.getD i 0 + (rdTk g i).f0 == n
theorem someEnd_snoc (g : List Tk) (st : List Int) (n : Int) (j : Nat) : someEnd g st n (j + 1) = (someEnd g st n j || (st.getD j 0 + (rdTk g j).f0 == n)) := by
 unfold someEnd
 rw [List.range_succ, List.any_append]
 simp
theorem someEnd_all {g : List Tk} {rm : List Int} {wk : Int} {st : List Int} (h : Valid g rm wk st) (hn : 0 < g.length) : someEnd g st (etS g rm wk st) g.length = true := by
 rw [etS_valid h]
 obtain ⟨i, hi, he⟩ := h.end_some hn
 unfold someEnd
 rw [List.any_eq_true]
 exact ⟨i, List.mem_range.2 hi, by rw [beq_iff_eq]; exact he⟩
theorem end_ge {g : List Tk} {st : List Int} : ∀ n i, i < n → st.getD i 0 + (rdTk g i).f0 ≤ endS g st n
 | n + 1, i, hi => by
  unfold endS
  by_cases h : i = n
  ·
   subst h
   exact Int.le_max_right _ _
  ·
   exact Int.le_trans (end_ge n i (by omega)) (Int.le_max_left _ _)
theorem etS_ge {g : List Tk} {rm : List Int} {wk : Int} {st : List Int} (h : Valid g rm wk st) {i : Nat} (hi : i < g.length) : st.getD i 0 + (rdTk g i).f0 ≤ etS g rm wk st := by
 rw [etS_valid h]
 exact end_ge _ i hi
theorem mdS_never {g : List Tk} {rm : List Int} {wk : Int} {st : List Int} (h : Valid g rm wk st) : mdS g rm wk st 0 = decide (g.length = 0) := by
 unfold mdS
 rw [valid_vSt h]
 by_cases hg : g.length = 0
 ·
  rw [hg, decide_eq_true rfl]
  rfl
 ·
  have := h.end_pos (by omega)
  rw [decide_eq_false hg, decide_eq_false (show ¬ endS g st g.length ≤ 0 by omega)]
  rfl
theorem mdS_is {g : List Tk} {rm : List Int} {wk : Int} {st : List Int} (h : Valid g rm wk st) {dl : Int} (hd : 0 ≤ dl ∧ dl ≤ 200) : mdS g rm wk st dl = decide (etS g rm wk st ≤ dl) := by
 unfold mdS
 rw [valid_vSt h, inB_true.2 hd, etS_valid h]
 rfl
theorem caS_no {g : List Tk} {rm : List Int} {wk : Int} {st : List Int} {now : Int} (h : (vStB g rm wk st && inB now 0 200) = false) : caS g rm wk st now = [] := by
 unfold caS
 rw [h]
 rfl
theorem caS_yes {g : List Tk} {rm : List Int} {wk : Int} {st : List Int} {now : Int} (h : Valid g rm wk st) (hn : 0 ≤ now ∧ now ≤ 200) : caS g rm wk st now = (List.range g.length).map (cancF g st now) := by
 unfold caS
 rw [valid_vSt h, inB_true.2 hn]
 rfl
theorem caS_cases (g : List Tk) (rm : List Int) (wk : Int) (st : List Int) (now : Int) : caS g rm wk st now = [] ∨ (Valid g rm wk st ∧ (0 ≤ now ∧ now ≤ 200) ∧ caS g rm wk st now = (List.range g.length).map (cancF g st now)) := by
 cases h : (vStB g rm wk st && inB now 0 200) with
 | false => exact .inl (caS_no h)
 | true =>
  rw [Bool.and_eq_true] at h
  exact .inr ⟨vSt_valid h.1, inB_true.1 h.2, caS_yes (vSt_valid h.1) (inB_true.1 h.2)⟩
theorem canc_len (F : Nat → Int) (n : Nat) : ((List.range n).map F).length = n := by simp
theorem cancF_bound (g : List Tk) (st : List Int) (now : Int) (i : Nat) : 0 ≤ cancF g st now i ∧ cancF g st now i ≤ 3 := by
 unfold cancF
 split
 ·
  omega
 ·
  split <;> omega
theorem canc_row_bound (g : List Tk) (st : List Int) (now : Int) (i : Nat) : 0 ≤ ((List.range g.length).map (cancF g st now)).getD i 0 ∧ ((List.range g.length).map (cancF g st now)).getD i 0 ≤ 1000 := by
 by_cases h : i < g.length
 ·
  rw [caS_get h]
  have := cancF_bound g st now i
  omega
 ·
  rw [getD_out (by rw [canc_len]; exact h)]
  omega
theorem canc_needs {g : List Tk} {rm : List Int} {wk : Int} {st : List Int} (h : Valid g rm wk st) {now : Int} {i : Nat} (hi : i < g.length) (hc : cancF g st now i ≠ 3) {x : Int} (hx : x ∈ (rdTk g i).f1) : cancF g st now x.toNat = 0 := by
 have hs : st.getD i 0 < now := by
  apply Classical.byContradiction
  intro hn
  exact hc ((canc_left h.ok hi).2 (by omega))
 have hx0 := spec_needs_in h.v i hi x hx
 have := h.needs i hi x.toNat (by rw [Int.toNat_of_nonneg hx0.1]; exact hx)
 exact canc_done.2 (by omega)
theorem canc_end {g : List Tk} {rm : List Int} {wk : Int} {st : List Int} (h : Valid g rm wk st) {i : Nat} (hi : i < g.length) : cancF g st (etS g rm wk st) i = 0 := canc_done.2 (etS_ge h hi)
theorem canc_zero {g : List Tk} {rm : List Int} {wk : Int} {st : List Int} (h : Valid g rm wk st) {i : Nat} (hi : i < g.length) : cancF g st 0 i = 3 := (canc_left h.ok hi).2 (h.b i hi).1
theorem canc_more {g : List Tk} (hok : TOk g) {st : List Int} {now : Int} {i : Nat} (hi : i < g.length) : (cancF g st now i = 0 → cancF g st (now + 1) i = 0) ∧ (cancF g st now i = 1 → cancF g st (now + 1) i ≠ 3) ∧ (cancF g st now i = 0 ∨ cancF g st now i = 1 ∨ cancF g st now i = 3) := by
 refine ⟨fun h => ?_, fun h => ?_, ?_⟩
 ·
  have := canc_done.1 h
  exact canc_done.2 (by omega)
 ·
  have := (canc_failed.1 h).1
  intro h3
  have := (canc_left hok hi).1 h3
  omega
 ·
  unfold cancF
  split
  ·
   exact .inl rfl
  ·
   split
   ·
    exact .inr (.inl rfl)
   ·
    exact .inr (.inr rfl)
end Go.Proofs.YtdjdfbfcjajlkaaDoor

namespace Go.Proofs.YtdjdfbfcjajlkaaDoor
set_option linter.unusedVariables false
set_option linter.unusedSimpArgs false
open Go.RowKit Go.Shelf Bits
theorem pS_yes {g : List Tk} {rm : List Int} {wk : Int} (h : pS g rm wk ≠ []) : specValid g = true ∧ placeB rm wk = true ∧ pS g rm wk = planS g rm wk ∧ 0 < g.length := by
 unfold pS at h ⊢
 by_cases hc : (specValid g && placeB rm wk) = true
 ·
  rw [if_pos hc] at h ⊢
  rw [Bool.and_eq_true] at hc
  refine ⟨hc.1, hc.2, rfl, ?_⟩
  rw [← (planS_ok g rm wk).1]
  exact List.length_pos_iff.2 h
 ·
  rw [if_neg hc] at h
  exact absurd rfl h
theorem pS_is {g : List Tk} {rm : List Int} {wk : Int} (hv : specValid g = true) (hp : placeB rm wk = true) : pS g rm wk = planS g rm wk := by
 unfold pS
 rw [hv, hp]
 rfl
theorem placeB_one {rm : List Int} {wk : Int} (h : placeB rm wk = true) : placeB rm 1 = true := by
 unfold placeB
 rw [(placeB_facts h).1]
 rfl
theorem mem_getD0 {l : List Int} {i : Nat} (h : i < l.length) {x : Int} (e : l.getD i 0 = x) : x ∈ l := by
 rw [List.getD_eq_getElem?_getD, List.getElem?_eq_getElem h] at e
 rw [← e]
 exact List.getElem_mem h
theorem plan_law {g : List Tk} {rm : List Int} {wk : Int} (h : pS g rm wk ≠ []) : Valid g rm wk (pS g rm wk) ∧ (0 : Int) ∈ pS g rm wk := by
 obtain ⟨hv, hp, he, hg⟩ := pS_yes h
 rw [he]
 obtain ⟨h1, h2, _⟩ := placeB_facts hp
 obtain ⟨y, _, _, hy, h0⟩ := first_zero hv h1 h2 hg
 exact ⟨plan_valid hv hp, mem_getD0 (by rw [(planS_ok g rm wk).1]; exact hy) h0⟩
theorem plan_one_law {g : List Tk} {rm : List Int} {wk : Int} (h : pS g rm wk ≠ []) : etS g rm 1 (pS g rm 1) = timeS g := by
 obtain ⟨hv, hp, _, hg⟩ := pS_yes h
 have hp1 := placeB_one hp
 rw [pS_is hv hp1, etS_valid (plan_valid hv hp1)]
 exact plan_one hv (placeB_facts hp).1
theorem plan_twice_law {g : List Tk} {rm : List Int} {wk : Int} (h : pS g rm wk ≠ []) : etS g rm wk (pS g rm wk) ≤ timeS g ∧ longestN g ≤ etS g rm wk (pS g rm wk) := by
 obtain ⟨hv, hp, he, hg⟩ := pS_yes h
 obtain ⟨h1, h2, _⟩ := placeB_facts hp
 have hV := plan_valid hv hp
 rw [he, etS_valid hV]
 exact ⟨endS_le (timeS_bound (specValid_TOk hv)).1 _ (planS_ends hv h1 h2), longest_le hv (fun i hi => (hV.b i hi).1) (fun k hk i hi => hV.needs k hk i hi)⟩
theorem plan_busy_law {g : List Tk} {rm : List Int} {wk : Int} (h : pS g rm wk ≠ []) (t : Nat) (ht : (t : Int) < etS g rm wk (pS g rm wk)) : (ints (raS g rm wk (pS g rm wk) t)).length ≠ 0 := by
 obtain ⟨hv, hp, he, hg⟩ := pS_yes h
 have hV := plan_valid hv hp
 rw [he, etS_valid hV] at ht
 rw [he, ints_length]
 unfold raS
 rw [if_pos (valid_vSt hV)]
 exact fun e => plan_busy hv hp ht (List.eq_nil_of_length_eq_zero e)
theorem firstN_is {P : Nat → Bool} : ∀ f n, firstN P f n = -1 ∨ ∃ m : Nat, firstN P f n = m ∧ n ≤ m ∧ m < n + f ∧ P m = true ∧ ∀ k, n ≤ k → k < m → P k = false
 | 0, n => .inl rfl
 | f + 1, n => by
  unfold firstN
  cases hp : P n with
  | true => exact .inr ⟨n, rfl, Nat.le_refl _, by omega, hp, fun k h1 h2 => by omega⟩
  | false =>
   rcases firstN_is (P := P) f (n + 1) with h | ⟨m, h1, h2, h3, h4, h5⟩
   ·
    exact .inl h
   ·
    refine .inr ⟨m, h1, by omega, by omega, h4, fun k hk hm => ?_⟩
    by_cases e : k = n
    ·
     rw [e]; exact hp
    ·
     exact h5 k (by omega) hm
theorem wf_law {g : List Tk} {rm : List Int} {dl : Int} (h : 0 ≤ wfS g rm dl) : ∃ m : Nat, wfS g rm dl = m ∧ 1 ≤ m ∧ m ≤ 4 ∧ ∀ k : Nat, 1 ≤ k → k ≤ m → mdS g rm k (pS g rm k) dl = decide (k = m) := by
 unfold wfS at h ⊢
 by_cases hc : (specValid g && (roomB rm && inB dl 0 200)) = true
 ·
  rw [if_pos hc] at h ⊢
  simp only [Bool.and_eq_true] at hc
  obtain ⟨hv, hrm, hd⟩ := hc
  rcases firstN_is (P := meetsB g rm dl) 4 1 with e | ⟨m, h1, h2, h3, h4, h5⟩
  ·
   omega
  ·
   refine ⟨m, h1, h2, by omega, fun k hk hkm => ?_⟩
   have hp : placeB rm (k : Int) = true := by
    unfold placeB
    rw [hrm, Bool.true_and]
    exact inB_true.2 (by omega)
   have hV := plan_valid hv hp
   rw [pS_is hv hp]
   unfold mdS
   rw [valid_vSt hV, hd, Bool.true_and, Bool.true_and]
   show meetsB g rm dl k = _
   by_cases e : k = m
   ·
    rw [decide_eq_true e, e, h4]
   ·
    rw [decide_eq_false e, h5 k hk (by omega)]
 ·
  rw [if_neg hc] at h
  omega
end Go.Proofs.YtdjdfbfcjajlkaaDoor

namespace Go.Proofs.YtdjdfbfcjajlkaaDoor
set_option linter.unusedVariables false
set_option linter.unusedSimpArgs false
open Go.RowKit Go.Shelf Bits
def upI (n b : Int) : Int := Int.tdiv (n + b - 1) b
def poolF (g : List Tk) (p : Int) (i : Nat) : Int := if (rdTk g i).f2 = p then (rdTk g i).f0 * (rdTk g i).f3 else 0
def poolW (g : List Tk) (p : Int) : Int := sumTo (poolF g p) g.length
def poolS (g : List Tk) (p r : Int) : Int := if specValid g && (inB p 0 2 && inB r 4 8) then upI (poolW g p) r else -1
def leastN (g : List Tk) (rm : List Int) (wk : Int) : Nat → Int
 | 0 => max (longestN g) (upI (timeS g) wk)
 | p + 1 => max (leastN g rm wk p) (poolS g p (rm.getD p 0))
def leS (g : List Tk) (rm : List Int) (wk : Int) : Int := if specValid g && placeB rm wk then leastN g rm wk 3 else -1
theorem upI_le {n b k : Int} (hn : 0 ≤ n) (hb : 1 ≤ b) (h : n ≤ k * b) : upI n b ≤ k := by
 unfold upI
 rw [Int.tdiv_eq_ediv_of_nonneg (by omega)]
 have : (n + b - 1) / b < k + 1 := Int.ediv_lt_of_lt_mul (by omega) (by rw [Int.add_mul]; omega)
 omega
theorem upI_mul {n b : Int} (hn : 0 ≤ n) (hb : 1 ≤ b) : n ≤ upI n b * b := by
 unfold upI
 rw [Int.tdiv_eq_ediv_of_nonneg (by omega)]
 have h1 := Int.emod_add_mul_ediv (n + b - 1) b
 have h2 := Int.emod_lt_of_pos (n + b - 1) (show 0 < b by omega)
 rw [Int.mul_comm] at h1
 omega
theorem upI_nonneg {n b : Int} (hn : 0 ≤ n) (hb : 1 ≤ b) : 0 ≤ upI n b := by
 unfold upI
 exact Int.tdiv_nonneg (by omega) (by omega)
theorem poolF_bound {g : List Tk} (hok : TOk g) (p : Int) (i : Nat) : 0 ≤ poolF g p i ∧ poolF g p i ≤ 80 := by
 have h2 := hok.2.1 i
 have h3 := hok.2.2.2.1 i
 unfold poolF
 split
 ·
  have := Int.mul_nonneg (show 0 ≤ (rdTk g i).f0 by omega) (show 0 ≤ (rdTk g i).f3 by omega)
  have : (rdTk g i).f0 * (rdTk g i).f3 ≤ 20 * 4 := Int.mul_le_mul (by omega) (by omega) (by omega) (by omega)
  omega
 ·
  omega
theorem poolSum_bound {g : List Tk} (hok : TOk g) (p : Int) (n : Nat) (hn : n ≤ 8) : 0 ≤ sumTo (poolF g p) n ∧ sumTo (poolF g p) n ≤ 640 := by
 have := sumTo_bound (f := poolF g p) (a := 0) (b := 80) n (fun i _ => poolF_bound hok p i)
 omega
theorem poolW_bound {g : List Tk} (hok : TOk g) (p : Int) : 0 ≤ poolW g p ∧ poolW g p ≤ 640 := poolSum_bound hok p _ hok.1
theorem poolS_is {g : List Tk} (hv : specValid g = true) {p r : Int} (hp : 0 ≤ p ∧ p ≤ 2) (hr : 4 ≤ r ∧ r ≤ 8) : poolS g p r = upI (poolW g p) r := by
 unfold poolS
 rw [hv, inB_true.2 hp, inB_true.2 hr]
 rfl
theorem leastN_le {g : List Tk} {rm : List Int} {wk k : Int} (h0 : longestN g ≤ k) (h1 : upI (timeS g) wk ≤ k) (h2 : ∀ p : Nat, p < 3 → poolS g p (rm.getD p 0) ≤ k) : ∀ m, m ≤ 3 → leastN g rm wk m ≤ k
 | 0, _ => by unfold leastN; omega
 | m + 1, hm => by
  have := leastN_le h0 h1 h2 m (by omega)
  have := h2 m (by omega)
  unfold leastN
  omega
theorem leastN_ge (g : List Tk) (rm : List Int) (wk : Int) : ∀ m, longestN g ≤ leastN g rm wk m ∧ upI (timeS g) wk ≤ leastN g rm wk m ∧ ∀ p : Nat, p < m → poolS g p (rm.getD p 0) ≤ leastN g rm wk m
 | 0 => by
  refine ⟨?_, ?_, fun p hp => absurd hp (Nat.not_lt_zero _)⟩ <;> unfold leastN <;> omega
 | m + 1 => by
  obtain ⟨h1, h2, h3⟩ := leastN_ge g rm wk m
  refine ⟨?_, ?_, fun p hp => ?_⟩ <;> unfold leastN
  ·
   omega
  ·
   omega
  ·
   by_cases e : p = m
   ·
    subst e
    omega
   ·
    have := h3 p (by omega)
    omega
theorem leS_is {g : List Tk} (hv : specValid g = true) {rm : List Int} {wk : Int} (hp : placeB rm wk = true) : leS g rm wk = leastN g rm wk 3 := by
 unfold leS
 rw [hv, hp]
 rfl
theorem end_least {g : List Tk} {rm : List Int} {wk : Int} {st : List Int} (h : Valid g rm wk st) : leS g rm wk ≤ etS g rm wk st := by
 rw [leS_is h.v h.p, etS_valid h]
 obtain ⟨hrm, hwk, _⟩ := placeB_facts h.p
 obtain ⟨w1, w2⟩ := h.work
 have hE := endS_nonneg g st g.length
 refine leastN_le (longest_le h.v (fun i hi => (h.b i hi).1) (fun k hk i hi => h.needs k hk i hi)) (upI_le (timeS_bound h.ok).1 hwk w1) (fun p hp => ?_) 3 (Nat.le_refl _)
 have hr := (roomB_facts hrm).2 p hp
 rw [poolS_is h.v (by omega) hr]
 exact upI_le (poolW_bound h.ok p).1 (by omega) (w2 p hp)
theorem least_more {g : List Tk} (hv : specValid g = true) {rm : List Int} {wk : Int} (hp : placeB rm wk = true) (h4 : wk ≠ 4) : leS g rm (wk + 1) ≤ leS g rm wk := by
 obtain ⟨hrm, h1, h2⟩ := placeB_facts hp
 have hp1 : placeB rm (wk + 1) = true := by
  unfold placeB
  rw [hrm, Bool.true_and]
  exact inB_true.2 (by omega)
 rw [leS_is hv hp, leS_is hv hp1]
 obtain ⟨g1, g2, g3⟩ := leastN_ge g rm wk 3
 have hT := timeS_bound (specValid_TOk hv)
 have hm := upI_mul hT.1 h1
 have hu := upI_nonneg hT.1 h1
 refine leastN_le g1 (Int.le_trans (upI_le hT.1 (by omega) ?_) g2) g3 3 (Nat.le_refl _)
 rw [Int.mul_add, Int.mul_one]
 omega
theorem leS_nonneg {g : List Tk} {rm : List Int} {wk : Int} (h : 0 ≤ leS g rm wk) : specValid g = true ∧ placeB rm wk = true := by
 unfold leS at h
 by_cases hc : (specValid g && placeB rm wk) = true
 ·
  rwa [Bool.and_eq_true] at hc
 ·
  rw [if_neg hc] at h
  omega
theorem plan_end_least {g : List Tk} {rm : List Int} {wk : Int} (h : 0 ≤ leS g rm wk) : leS g rm wk ≤ etS g rm wk (pS g rm wk) := by
 obtain ⟨hv, hp⟩ := leS_nonneg h
 rw [pS_is hv hp]
 exact end_least (plan_valid hv hp)
end Go.Proofs.YtdjdfbfcjajlkaaDoor

namespace Go.Proofs.YtdjdfbfcjajlkaaDoor
set_option linter.unusedVariables false
set_option linter.unusedSimpArgs false
open Go.RowKit Go.Shelf Bits
open Go.Proofs.YtdjdfbfcjajlkaaDoorW.PrintWords Go.Proofs.YtdjdfbfcjajlkaaDoorW.PrintLast Go.Proofs.YtdjdfbfcjajlkaaDoorW.PrintMore
def mostB (g : List Tk) (log : List Ev) : Int := match replayB g log with
 | some p => p.2
 | none => -1
section
variable (A : Option Addr) (c : Nat) (g : List Tk) (A' : Option Addr) (c' : Nat) (log : List Ev) (w : World)
end
end Go.Proofs.YtdjdfbfcjajlkaaDoor
