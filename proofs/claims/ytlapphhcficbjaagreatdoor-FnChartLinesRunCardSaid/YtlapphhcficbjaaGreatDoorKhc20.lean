/- Parts of the proof, laid as one text by a program of mine. -/
import Derived.Test.YtlapphhcficbjaaGreatDoorKhc13
import Derived.Test.YtlapphhcficbjaaGreatDoorKhc19
import Derived.Test.YtlapphhcficbjaaGreatDoorKhc18
import Derived.Test.YtlapphhcficbjaaGreatDoorKhc14
import Derived.Shelf.Strings.Repeat
import Derived.Test.YtlapphhcficbjaaGreatDoorProg
namespace Go.Proofs.YtlapphhcficbjaaGreatDoor
set_option linter.unusedVariables false
set_option linter.unusedSimpArgs false
open Go.RowKit Go.Shelf Bits
theorem filter_rangeR {P : Nat → Bool} {n : Nat} (h : ∀ i, P i = true → i < n) : ∀ d, (List.range (n + d)).filter P = (List.range n).filter P
 | 0 => rfl
 | d + 1 => by
  rw [← Nat.add_assoc, List.range_succ, List.filter_append, filter_rangeR h d]
  have : P (n + d) = false := by
   cases hp : P (n + d) with
   | false => rfl
   | true => have := h _ hp; omega
  simp [this]
theorem needs_in {g : List Tk} {ns : List Nat} (hg : graphN g = some ns) {l : List Int} {s : Nat} (hs : ∀ j : Nat, s.testBit j = decide ((j : Int) ∈ l)) {i : Nat} (hi : i < g.length) : decide (diff (ns.getD i 0) s = 0) = allDoneB (rdTk g i).f1 l := by
 rw [Bool.eq_iff_iff, decide_eq_true_iff, diff_zero]
 unfold allDoneB
 rw [List.all_eq_true]
 obtain ⟨_, _, hn⟩ := graphN_all hg
 constructor
 ·
  intro h x hx
  obtain ⟨hx0, hx1⟩ := setOfL_mem _ _ _ _ _ (by omega) (hn i hi).2 x hx
  have hxe : x = ((x.toNat : Nat) : Int) := by omega
  have := h x.toNat (by rw [need_bit hg hi]; exact decide_eq_true (by rw [← hxe]; exact hx))
  rw [hs] at this
  rw [hxe]
  exact this
 ·
  intro h j hj
  rw [need_bit hg hi] at hj
  rw [hs]
  exact h _ (of_decide_eq_true hj)
theorem doneN_eq (g : List Tk) (l : List Int) : vDoneB g l = (doneN g l).isSome := by
 unfold vDoneB
 rw [specValid_eq]
 cases hg : graphN g with
 | none =>
  rw [show doneN g l = none by unfold doneN; rw [hg]; rfl]
  rfl
 | some ns =>
  rw [show (some ns).isSome = true from rfl, Bool.true_and]
  have h1 := setOfN_isSome l g.length
  cases hs : setOfN l g.length with
  | none =>
   rw [hs] at h1
   rw [show doneN g l = none by unfold doneN; rw [hg]; show (setOfN l g.length).bind _ = none; rw [hs]; rfl]
   cases ha : ascB l
   ·
    rfl
   ·
    rw [ha, Bool.and_true] at h1
    rw [← h1]
    rfl
  | some s =>
   rw [hs] at h1
   have h2 : allInB l 0 (g.length - 1) = true ∧ ascB l = true := by rw [← Bool.and_eq_true]; exact h1.symm
   rw [h2.1, h2.2, Bool.true_and, Bool.true_and, graph_some_lt hg hs]
   have hb : ∀ j : Nat, s.testBit j = decide ((j : Int) ∈ l) := fun j => setOfN_bits hs j
   have hin := setOfL_mem _ _ _ _ _ (by omega) hs
   have h8 := (graphN_all hg).1
   have hc : closedN ns s = l.all fun x => allDoneB (rdTk g x.toNat).f1 l := by
    unfold closedN
    rw [Bool.eq_iff_iff, List.all_eq_true, List.all_eq_true]
    constructor
    ·
     intro h x hx
     obtain ⟨x0, x1⟩ := hin x hx
     have hxe : x = ((x.toNat : Nat) : Int) := by omega
     rw [← needs_in hg hb (by omega)]
     exact h x.toNat (mem_elems.2 ⟨by omega, by rw [hb, ← hxe]; exact decide_eq_true hx⟩)
    ·
     intro h i hi
     have hil := of_decide_eq_true ((hb i).symm.trans (elems_bit hi))
     obtain ⟨i0, i1⟩ := hin _ hil
     show needsIn ns s i = true
     unfold needsIn
     rw [needs_in hg hb (by omega)]
     exact h _ hil
   rw [← hc]
   cases closedN ns s <;> rfl
theorem readyN_eq {g : List Tk} {l : List Int} {ns : List Nat} {s : Nat} (hd : doneN g l = some (ns, s)) : elems (readyN ns s) = readyS g l := by
 obtain ⟨hg, hs, hc⟩ := doneN_facts hd
 obtain ⟨h8, hn, _⟩ := graphN_all hg
 have hb : ∀ j : Nat, s.testBit j = decide ((j : Int) ∈ l) := fun j => setOfN_bits hs j
 unfold elems readyS
 have e : ∀ i, (readyN ns s).testBit i = (decide (i < g.length) && rdB g l i) := fun i => by
  rw [readyN_bit, hn]
  by_cases hi : i < g.length
  ·
   rw [decide_eq_true hi, Bool.true_and, Bool.true_and]
   unfold isReady rdB
   rw [hb, needs_in hg hb hi]
  ·
   rw [decide_eq_false hi]
   rfl
 have h1 := filter_rangeR (P := (readyN ns s).testBit) (n := g.length) (fun i hi => by
  rw [e, Bool.and_eq_true] at hi
  exact of_decide_eq_true hi.1) (16 - g.length)
 rw [show g.length + (16 - g.length) = 16 by omega] at h1
 show (List.range 16).filter (readyN ns s).testBit = _
 rw [h1]
 apply List.filter_congr
 intro i hi
 rw [e, decide_eq_true (List.mem_range.1 hi), Bool.true_and]
theorem bubL_sorted (T : List Int) : ∀ (k : Nat) (A B : List Nat) (x : Nat), A.length = k → (A ++ B).Pairwise (leT T) → (∀ b ∈ B, leT T x b) → (bubL T k (A ++ x :: B)).Pairwise (leT T)
 | 0, A, B, x, hA, hs, hx => by
  obtain rfl : A = [] := List.eq_nil_of_length_eq_zero hA
  show (x :: B).Pairwise (leT T)
  exact List.pairwise_cons.2 ⟨hx, by simpa using hs⟩
 | k + 1, A, B, x, hA, hs, hx => by
  obtain ⟨A', y, rfl⟩ : ∃ A' y, A = A' ++ [y] := ⟨A.dropLast, A.getLast (by intro h; rw [h] at hA; simp at hA), (List.dropLast_concat_getLast _).symm⟩
  have hA' : A'.length = k := by simpa using hA
  have e1 : (A' ++ [y] ++ x :: B).getD (k + 1) 0 = x := by
   rw [List.getD_eq_getElem?_getD, ← hA', show A' ++ [y] ++ x :: B = (A' ++ [y]) ++ x :: B from rfl, List.getElem?_append_right (by simp)]
   simp
  have e2 : (A' ++ [y] ++ x :: B).getD k 0 = y := by
   rw [List.getD_eq_getElem?_getD, ← hA']
   simp
  unfold bubL
  rw [e1, e2]
  have hpw : (A' ++ (y :: B)).Pairwise (leT T) := by simpa using hs
  obtain ⟨p1, p2, p3⟩ := List.pairwise_append.1 hpw
  obtain ⟨p4, p5⟩ := List.pairwise_cons.1 p2
  by_cases hl : lessB T x y = true
  ·
   rw [if_pos hl]
   have e3 : swapL (A' ++ [y] ++ x :: B) k (k + 1) = A' ++ x :: (y :: B) := by
    unfold swapL
    rw [e1, e2, ← hA']
    simp [List.set_append]
   rw [e3]
   exact bubL_sorted T k A' (y :: B) x hA' hpw (fun b hb => by
    rcases List.mem_cons.1 hb with rfl | hb
    ·
     exact less_true hl
    ·
     exact (less_true hl).trans (p4 b hb))
  ·
   rw [if_neg hl]
   have hyx : leT T y x := less_false.1 (by simpa using hl)
   have : (A' ++ [y] ++ x :: B) = A' ++ (y :: x :: B) := by simp
   rw [this]
   refine List.pairwise_append.2 ⟨p1, List.pairwise_cons.2 ⟨fun b hb => ?_, List.pairwise_cons.2 ⟨hx, p5⟩⟩, fun a ha b hb => ?_⟩
   ·
    rcases List.mem_cons.1 hb with rfl | hb
    ·
     exact hyx
    ·
     exact p4 b hb
   ·
    rcases List.mem_cons.1 hb with rfl | hb
    ·
     exact p3 a ha _ (List.mem_cons_self ..)
    ·
     rcases List.mem_cons.1 hb with rfl | hb
     ·
      exact (p3 a ha y (List.mem_cons_self ..)).trans hyx
     ·
      exact p3 a ha b (List.mem_cons_of_mem _ hb)
theorem insL_sortedA (T : List Int) : ∀ (xs acc : List Nat), acc.Pairwise (leT T) → (xs.foldl (fun out x => bubL T out.length (out ++ [x])) acc).Pairwise (leT T)
 | [], acc, h => h
 | x :: xs, acc, h => insL_sortedA T xs _ (bubL_sorted T acc.length acc [] x rfl (by simpa using h) (fun b hb => by cases hb))
theorem insL_sorted (T : List Int) (xs : List Nat) : (insL T xs).Pairwise (leT T) := insL_sortedA T xs [] List.Pairwise.nil
theorem rank_ins (T : List Int) (xs : List Nat) : rankL T xs = insL T xs :=
 rank_unique (rank_sorted T xs).1 (insL_sorted T xs) ((rank_sorted T xs).2.trans (insL_perm T xs).symm)
theorem rdOrd_eq (g : List Tk) (l : List Int) : rdOrdN g l = ints (sRdOrd g l) := by
 unfold rdOrdN sRdOrd
 rw [doneN_eq]
 cases hd : doneN g l with
 | none => rfl
 | some p =>
  obtain ⟨ns, s⟩ := p
  rw [if_pos (show (some (ns, s)).isSome = true from rfl), ← tailN_eq (doneN_facts hd).1, ← readyN_eq hd, ← rank_ins]
theorem rdTasks_eq (g : List Tk) (l : List Int) : rdTasksN g l = ints (sRdTasks g l) := by
 unfold rdTasksN sRdTasks
 rw [doneN_eq]
 cases hd : doneN g l with
 | none => rfl
 | some p =>
  obtain ⟨ns, s⟩ := p
  rw [if_pos (show (some (ns, s)).isSome = true from rfl), ← readyN_eq hd]
  rfl
end Go.Proofs.YtlapphhcficbjaaGreatDoor

namespace Go.Proofs.YtlapphhcficbjaaGreatDoor
set_option linter.unusedVariables false
set_option linter.unusedSimpArgs false
open Go.RowKit Go.Shelf Bits
structure PRel (g : List Tk) (L : List Int) (k : Nat) (p : PS) : Prop where
 len : p.st.length = g.length
 b : p.b < 2 ^ g.length
 o : p.o < 2 ^ g.length
 hb : ∀ j, j < g.length → p.b.testBit j = !idleB L j
 hs : ∀ j, j < g.length → p.st.getD j 0 = if idleB L j then 0 else L.getD j 0
 ho : ∀ j, j < g.length → p.o.testBit j = decide (L.getD j 0 + (rdTk g j).f0 ≤ (k : Int) - 1)
theorem bit_far {n x j : Nat} (h : x < 2 ^ n) (hj : n ≤ j) : x.testBit j = false := Nat.testBit_lt_two_pow (Nat.lt_of_lt_of_le h (Nat.pow_le_pow_right (by omega) hj))
theorem elems_eq {n x : Nat} (hn : n ≤ 16) (hx : x < 2 ^ n) (P : Nat → Bool) (h : ∀ j, j < n → x.testBit j = P j) : elems x = (List.range n).filter P := by
 unfold elems
 have h1 := filter_rangeR (P := x.testBit) (n := n) (fun i hi => by
  by_cases hin : i < n
  ·
   exact hin
  ·
   rw [bit_far hx (by omega)] at hi
   cases hi) (16 - n)
 rw [show n + (16 - n) = 16 by omega] at h1
 rw [h1]
 exact List.filter_congr fun i hi => h i (List.mem_range.1 hi)
theorem ovN_bit (g : List Tk) (st : List Int) (now : Int) (j : Nat) : ∀ (l : List Nat) (o : Nat), (ovN g st now o l).testBit j = (o.testBit j || (decide (j ∈ l) && decide (st.getD j 0 + (rdTk g j).f0 ≤ now)))
 | [], o => by simp [ovN]
 | i :: l, o => by
  show (ovN g st now (ovF g st now o i) l).testBit j = _
  rw [ovN_bit g st now j l]
  unfold ovF
  by_cases hij : i = j
  ·
   subst hij
   by_cases hc : st.getD i 0 + (rdTk g i).f0 ≤ now
   ·
    rw [if_pos hc, or_bit, decide_eq_true hc, decide_eq_true (rfl : i = i), decide_eq_true (List.mem_cons_self : i ∈ i :: l)]
    simp
   ·
    rw [if_neg hc, decide_eq_false hc]
    simp
  ·
   have hm : decide (j ∈ i :: l) = decide (j ∈ l) := by
    rw [decide_eq_decide, List.mem_cons]
    constructor
    ·
     rintro (e | e)
     ·
      exact absurd e.symm hij
     ·
      exact e
    ·
     exact Or.inr
   rw [hm]
   by_cases hc : st.getD i 0 + (rdTk g i).f0 ≤ now
   ·
    rw [if_pos hc, or_bit, decide_eq_false hij, Bool.or_false]
   ·
    rw [if_neg hc]
theorem putB_bit (j : Nat) : ∀ (l : List Nat) (b : Nat), (putB b l).testBit j = (b.testBit j || decide (j ∈ l))
 | [], b => by simp [putB]
 | i :: l, b => by
  show (putB (b ||| 2 ^ i) l).testBit j = _
  rw [putB_bit j l, or_bit]
  by_cases hij : i = j
  ·
   subst hij
   simp
  ·
   rw [decide_eq_false hij, Bool.or_false]
   congr 1
   rw [decide_eq_decide, List.mem_cons]
   constructor
   ·
    exact Or.inr
   ·
    rintro (e | e)
    ·
     exact absurd e.symm hij
    ·
     exact e
theorem plan_step {g : List Tk} {ns : List Nat} (rm : List Int) (wk : Int) (hg : graphN g = some ns) {L : List Int} {k : Nat} {p : PS} (hk : k < 200) (hL : L.length = g.length) (hB : ∀ j, j < g.length → L.getD j 0 = 200 ∨ (0 ≤ L.getD j 0 ∧ L.getD j 0 < k)) (h : PRel g L k p) : PRel g (stepS g rm wk L k) (k + 1) (stepN g ns rm wk k p) := by
 obtain ⟨st, b, o⟩ := p
 obtain ⟨h1, h2, h3, h4, h5, h6⟩ := h
 simp only [] at h1 h2 h3 h4 h5 h6
 obtain ⟨h8, hn, _⟩ := graphN_all hg
 have hok := specValid_TOk (graphN_spec hg)
 have hol : ovN g st k o (elems b) < 2 ^ g.length := ovN_lt _ h3 (fun i hi => elems_below h2 hi)
 have hob : ∀ j, j < g.length → (ovN g st k o (elems b)).testBit j = overB g L k j := fun j hj => by
  have ht := hok.2.1 j
  rw [ovN_bit, h6 j hj, show decide (j ∈ elems b) = b.testBit j by
   rw [Bool.eq_iff_iff, decide_eq_true_iff, mem_elems]
   exact ⟨fun e => e.2, fun e => ⟨by omega, e⟩⟩, h4 j hj, h5 j hj]
  unfold overB
  rcases hB j hj with e | e
  ·
   rw [idleB_iff.2 e, e, Bool.not_true, Bool.false_and, Bool.or_false, decide_eq_decide]
   omega
  ·
   have : idleB L j = false := by
    cases hi : idleB L j with
    | false => rfl
    | true => have := idleB_iff.1 hi; omega
   rw [this, Bool.not_false, Bool.true_and, if_neg (by simp), Bool.eq_iff_iff, Bool.or_eq_true, decide_eq_true_iff, decide_eq_true_iff]
   omega
 generalize hov : ovN g st k o (elems b) = ov at hol hob
 have e1 : elems (diff b ov) = runS g L k := by
  refine elems_eq (by omega) (diff_lt h2) _ (fun j hj => ?_)
  rw [diff_bit, h4 j hj, hob j hj]
  unfold runB overB
  rcases hB j hj with e | e
  ·
   rw [idleB_iff.2 e, e, Bool.not_true, Bool.false_and]
   symm
   rw [Bool.and_eq_false_iff]
   left
   exact decide_eq_false (by omega)
  ·
   have : idleB L j = false := by
    cases hi : idleB L j with
    | false => rfl
    | true => have := idleB_iff.1 hi; omega
   rw [this, Bool.not_false, Bool.true_and, decide_eq_true (show L.getD j 0 ≤ (k : Int) by omega), Bool.true_and, Bool.eq_iff_iff, Bool.not_eq_true', decide_eq_false_iff_not, decide_eq_true_iff]
   omega
 have hbit : ∀ j : Nat, ov.testBit j = decide ((j : Int) ∈ ints (overS g L k)) := fun j => by
  by_cases hj : j < g.length
  ·
   rw [hob j hj, Bool.eq_iff_iff, overB_iff, decide_eq_true_iff, mem_intsN, mem_overS]
   exact ⟨fun e => ⟨hj, e⟩, fun e => e.2⟩
  ·
   rw [bit_far hol (by omega)]
   symm
   apply decide_eq_false
   rw [mem_intsN, mem_overS]
   exact fun e => hj e.1
 have e2 : elems (diff (readyN ns ov) b) = (readyS g (ints (overS g L k))).filter (idleB L) := by
  unfold readyS
  rw [List.filter_filter]
  refine elems_eq (by omega) (diff_lt (hn ▸ readyU_lt ns ov _)) _ (fun j hj => ?_)
  rw [diff_bit, readyN_bit, hn, decide_eq_true hj, Bool.true_and, h4 j hj, Bool.not_not, Bool.and_comm]
  congr 1
  unfold isReady rdB
  rw [hbit, needs_in hg hbit hj]
 have e3 : nextN g ns rm wk b ov = nextS g rm wk L k := by
  unfold nextN nextS
  rw [e1, e2, rank_ins, tailN_eq hg]
 unfold stepN
 simp only []
 rw [hov, e3]
 have hnl := nextS_lt g rm wk L k
 have hni : ∀ j, j < g.length → idleB (stepS g rm wk L k) j = (idleB L j && !decide (j ∈ nextS g rm wk L k)) := fun j hj => by
  rw [Bool.eq_iff_iff, idleB_iff, stepS_get hL, Bool.and_eq_true, idleB_iff]
  by_cases hm : j ∈ nextS g rm wk L k
  ·
   rw [if_pos hm]
   simp [hm]
   omega
  ·
   rw [if_neg hm]
   simp [hm]
 refine ⟨by simp only []; rw [putS_len]; exact h1, putB_lt _ h2 hnl, hol, fun j hj => ?_, fun j hj => ?_, fun j hj => ?_⟩
 ·
  simp only []
  rw [putB_bit, h4 j hj, hni j hj]
  cases idleB L j <;> cases decide (j ∈ nextS g rm wk L k) <;> rfl
 ·
  simp only []
  rw [putS_get _ _ _ _ (fun x hx => by rw [h1]; exact hnl x hx), h5 j hj, hni j hj, stepS_get hL]
  by_cases hm : j ∈ nextS g rm wk L k
  ·
   simp [hm]
  ·
   simp [hm]
 ·
  simp only []
  rw [hob j hj, stepS_get hL]
  unfold overB
  have ht := hok.2.2.2.2 j hj
  rw [decide_eq_decide]
  by_cases hm : j ∈ nextS g rm wk L k
  ·
   have := (nextS_in hm).2.2
   rw [if_pos hm, this]
   omega
  ·
   rw [if_neg hm]
   omega
theorem plan_rel {g : List Tk} {ns : List Nat} (rm : List Int) (wk : Int) (hg : graphN g = some ns) : ∀ k, k ≤ 200 → PRel g (planL g rm wk k) k (planN g ns rm wk k)
 | 0, _ => by
  have hok := specValid_TOk (graphN_spec hg)
  have e : ∀ j, j < g.length → (planL g rm wk 0).getD j 0 = 200 := fun j hj => by
   unfold planL
   rw [List.getD_eq_getElem?_getD, List.getElem?_replicate, if_pos hj]
   rfl
  refine ⟨by simp [planN], Nat.two_pow_pos _, Nat.two_pow_pos _, fun j hj => ?_, fun j hj => ?_, fun j hj => ?_⟩
  ·
   rw [idleB_iff.2 (e j hj)]
   simp [planN]
  ·
   rw [idleB_iff.2 (e j hj)]
   show (List.replicate g.length (0 : Int)).getD j 0 = _
   rw [List.getD_eq_getElem?_getD, List.getElem?_replicate, if_pos hj]
   rfl
  ·
   rw [e j hj]
   have := hok.2.1 j
   show (0 : Nat).testBit j = _
   rw [Nat.zero_testBit]
   symm
   exact decide_eq_false (by omega)
 | k + 1, hk => plan_step rm wk hg (by omega) (planL_ok g rm wk k (by omega)).1 (planL_before g rm wk k (by omega)) (plan_rel rm wk hg k (by omega))
theorem least_of {P : Nat → Prop} [DecidablePred P] : ∀ n, P n → ∃ k, k ≤ n ∧ P k ∧ ∀ j, j < k → ¬ P j
 | 0, h => ⟨0, Nat.le_refl _, h, fun j hj => absurd hj (Nat.not_lt_zero _)⟩
 | n + 1, h => by
  by_cases hc : ∃ m, m ≤ n ∧ P m
  ·
   obtain ⟨m, hm, hp⟩ := hc
   obtain ⟨k, h1, h2, h3⟩ := least_of m hp
   exact ⟨k, by omega, h2, h3⟩
  ·
   exact ⟨n + 1, Nat.le_refl _, h, fun j hj hp => hc ⟨j, by omega, hp⟩⟩
theorem all_bits {n x : Nat} (hx : x < 2 ^ n) (h : ∀ j, j < n → x.testBit j = true) : x = 2 ^ n - 1 := by
 apply Nat.eq_of_testBit_eq
 intro i
 rw [Nat.testBit_two_pow_sub_one]
 by_cases hi : i < n
 ·
  rw [h i hi, decide_eq_true hi]
 ·
  rw [bit_far hx (by omega), decide_eq_false hi]
theorem plan_eq {g : List Tk} {ns : List Nat} {rm : List Int} {wk : Int} (hg : graphN g = some ns) (hrm : roomB rm = true) (hwk : 1 ≤ wk) :
  ∃ K, K ≤ 200 ∧ (planN g ns rm wk K).o = 2 ^ g.length - 1 ∧ (∀ k, k < K → (planN g ns rm wk k).o ≠ 2 ^ g.length - 1) ∧ (planN g ns rm wk K).st = planS g rm wk := by
 have hv := graphN_spec hg
 have hok := specValid_TOk hv
 have hT := timeS_bound hok
 obtain ⟨k, hk, he⟩ := plan_ends hv hrm hwk
 have hn200 : ∀ i, i < g.length → (planL g rm wk k).getD i 0 ≠ 200 := fun i hi e => by
  have := he i hi
  have := hok.2.1 i
  omega
 have hall : (planN g ns rm wk (k + 1)).o = 2 ^ g.length - 1 := by
  have hr := plan_rel rm wk hg (k + 1) (by omega)
  refine all_bits hr.o (fun j hj => ?_)
  rw [hr.ho j hj, plan_stands hn200 1]
  have := he j hj
  exact decide_eq_true (by omega)
 obtain ⟨K, h1, h2, h3⟩ := least_of (P := fun k => (planN g ns rm wk k).o = 2 ^ g.length - 1) (k + 1) hall
 refine ⟨K, by omega, h2, h3, ?_⟩
 have hr := plan_rel rm wk hg K (by omega)
 have hK : ∀ i, i < g.length → (planL g rm wk K).getD i 0 ≠ 200 := fun i hi e => by
  have h4 := hr.ho i hi
  rw [h2, Nat.testBit_two_pow_sub_one, decide_eq_true hi, e] at h4
  have h5 := of_decide_eq_true h4.symm
  have := hok.2.1 i
  omega
 have e : planS g rm wk = planL g rm wk K := by
  have := plan_stands hK (200 - K)
  rw [show K + (200 - K) = 200 by omega] at this
  exact this
 rw [e]
 refine list_ext0 (by rw [hr.len, (planL_ok g rm wk K (by omega)).1]) (fun j hj => ?_)
 rw [hr.len] at hj
 rw [hr.hs j hj, if_neg (fun hi => hK j hj (idleB_iff.1 hi))]
end Go.Proofs.YtlapphhcficbjaaGreatDoor

namespace Go.Proofs.YtlapphhcficbjaaGreatDoor
set_option linter.unusedVariables false
set_option linter.unusedSimpArgs false
open Go.RowKit Go.Shelf Bits
open Go.Proofs.YtlapphhcficbjaaGreatDoorW.PrintWords Go.Proofs.YtlapphhcficbjaaGreatDoorW.PrintLast Go.Proofs.YtlapphhcficbjaaGreatDoorW.PrintMore
attribute [local go_sem] Oper.semAt_some
theorem plan_impl (C : Nat) (g : List Tk) (ns : List Nat) (A1 : Option Addr) (c1 : Nat) (rm : List Int) (wk : Int) (hgr : graphN g = some ns) (hrm : roomB rm = true) (hwk : 1 ≤ wk) (w : World) (hG : IsGraph w C g ns) (hT : Tab w) (hr1 : (Kd.int .i64).C w A1 rm.length rm) :
  Calls Tryz.prog 37 #[.pointer (some ⟨C, 0, none⟩), .slice A1 rm.length c1, .int .i64 wk] w fun e w' => ∃ v, e = .returned v ∧ Kd.R (Kd.int .i64) 3 w' w.heap.size (fun _ => True) v (planS g rm wk) ∧ Below w.heap.size w w' := by
 obtain ⟨K, h1, h2, h3, h4⟩ := plan_eq hgr hrm hwk
 rw [← h4]
 exact iplan_calls C g ns A1 c1 rm wk K hgr (specValid_TOk (graphN_spec hgr)) (roomB_facts hrm).1 h1 h2 h3 w hG hT hr1
set_option maxRecDepth 100000 in
theorem PlanStarts_impl (A : Option Addr) (c : Nat) (g : List Tk) (A1 : Option Addr) (c1 : Nat) (rm : List Int) (wk : Int) (w : World) (hr : kTk.C w A g.length g) (hr1 : (Kd.int .i64).C w A1 rm.length rm) (hT : Tab w) :
  Calls Tryz.prog 15 #[.slice A g.length c, .slice A1 rm.length c1, .int .i64 wk] w fun e W' => ∃ v, e = .returned v ∧ Kd.R (Kd.int .i64) 3 W' w.heap.size (fun _ => True) v (pS g rm wk) ∧ Below w.heap.size w W' := by
 by_cases hp : (specValid g && placeB rm wk) = true
 ·
  have HF : Hid (pS g rm wk = planS g rm wk) := Lib.hid (by unfold pS; rw [if_pos hp])
  rw [Bool.and_eq_true] at hp
  obtain ⟨ns, hg⟩ := graphN_yes hp.1
  obtain ⟨h1, h2, h3⟩ := placeB_facts hp.2
  have HP := Lib.hid (placeIn_yes A c g ns A1 c1 rm wk hp.2 w hr hT hg hr1)
  have HK := Lib.hid (fun (W : World) C (h : IsGraph W C g ns) (hT : Tab W) hr => plan_impl C g ns A1 c1 rm wk hg h1 h2 W h hT hr)
  have HR1 := Lib.hid hr1
  have HT := Lib.hid hT
  clear hr hT hg h1 h2 h3 hp hr1
  go_enter Tryz.func15, Tryz.ntmps15
  go_wp2_with (first | (go_at_call 36; refine HP.out.mono ?_; rintro e w1 ⟨C, rfl, hG, hB1⟩; have HG := Lib.hid hG; have HB1 := Lib.hid hB1; clear hG hB1) | (go_at_call 37; refine (HK.out _ C HG.out (HT.out.keep HT.out.lt HB1.out) (Kd.C_below HR1.out HB1.out)).mono ?_; rintro e w3 ⟨v, rfl, hR, hB3⟩))
  go_ret
  have hz := HB1.out.size
  exact ⟨_, rfl, by rw [HF.out]; exact Kd.R_lower hR hz, HB1.out.trans (hB3.mono hz)⟩
 ·
  have HF : Hid (pS g rm wk = []) := Lib.hid (by unfold pS; rw [if_neg hp])
  have hn : ∀ ns, graphN g = some ns → placeB rm wk = false := fun ns hg => by
   rw [graphN_spec hg, Bool.true_and] at hp
   simpa using hp
  have HP := Lib.hid (placeIn_no A c g A1 c1 rm wk hn w hr hT hr1)
  clear hr hT hp hr1 hn
  go_enter Tryz.func15, Tryz.ntmps15
  go_wp2_with (go_at_call 36; refine HP.out.mono ?_; rintro e w1 ⟨rfl, hB1⟩)
  go_ret
  exact ⟨_, rfl, by rw [HF.out]; exact R_nilJ _ _, hB1⟩
end Go.Proofs.YtlapphhcficbjaaGreatDoor

namespace Go.Proofs.YtlapphhcficbjaaGreatDoor
set_option linter.unusedVariables false
set_option linter.unusedSimpArgs false
open Go.RowKit Go.Shelf Bits
open Go.Proofs.YtlapphhcficbjaaGreatDoorW.PrintWords Go.Proofs.YtlapphhcficbjaaGreatDoorW.PrintLast Go.Proofs.YtlapphhcficbjaaGreatDoorW.PrintMore
attribute [local go_sem] Oper.semAt_some
def maskN (P : Nat → Bool) : Nat → Nat
 | 0 => 0
 | n + 1 => if P n then maskN P n ||| 2 ^ n else maskN P n
theorem maskN_lt (P : Nat → Bool) : ∀ n, maskN P n < 2 ^ n
 | 0 => by simp [maskN]
 | n + 1 => by
  have ih := maskN_lt P n
  have h2 : maskN P n < 2 ^ (n + 1) := Nat.lt_of_lt_of_le ih (Nat.pow_le_pow_right (by omega) (Nat.le_succ n))
  unfold maskN
  split
  ·
   exact Nat.or_lt_two_pow h2 (Nat.pow_lt_pow_right (by omega) (by omega))
  ·
   exact h2
theorem maskN_bit (P : Nat → Bool) : ∀ n j, j < n → (maskN P n).testBit j = P j
 | n + 1, j, hj => by
  unfold maskN
  by_cases h : j = n
  ·
   subst h
   have h0 : (maskN P j).testBit j = false := bit_far (maskN_lt P j) (Nat.le_refl _)
   cases hp : P j with
   | true => rw [if_pos rfl, or_bit]; simp
   | false => rw [if_neg (by simp)]; exact h0
  ·
   have ih := maskN_bit P n j (by omega)
   split
   ·
    rw [or_bit, ih]; simp [show n ≠ j from fun e => h e.symm]
   ·
    exact ih
theorem els_mask (P : Nat → Bool) {n : Nat} (hn : n ≤ 16) : els (maskN P n) = ints ((List.range n).filter P) := by
 unfold els
 rw [elems_eq hn (maskN_lt P n) P (fun j hj => maskN_bit P n j hj)]
 rfl
theorem maskN_u16 (P : Nat → Bool) {n : Nat} (hn : n ≤ 16) : maskN P n < 65536 := Nat.lt_of_lt_of_le (maskN_lt P n) (Nat.le_trans (Nat.pow_le_pow_right (by omega) hn) (by decide))
theorem startsIn_yes (A : Option Addr) (c : Nat) (g : List Tk) (A1 : Option Addr) (c1 : Nat) (rm : List Int) (wk : Int) (A2 : Option Addr) (c2 : Nat) (st : List Int) (h : vStB g rm wk st = true) (w : World) (hr : kTk.C w A g.length g) (hr1 : (Kd.int .i64).C w A1 rm.length rm) (hr2 : (Kd.int .i64).C w A2 st.length st) (hT : Tab w) :
  Calls Tryz.prog 24 #[.slice A g.length c, .slice A1 rm.length c1, .int .i64 wk, .slice A2 st.length c2] w fun e w' => ∃ C ns, e = .returned (.tuple #[.pointer (some ⟨C, 0, none⟩), .bool true]) ∧ graphN g = some ns ∧ IsGraph w' C g ns ∧ Below w.heap.size w w' := by
 refine (startsIn_calls A c g A1 c1 rm wk A2 c2 st w hr hr1 hr2 hT).mono ?_
 rintro e w' (⟨_, hC⟩ | ⟨h2, _⟩)
 ·
  obtain ⟨C, ns, h1, h2, h3, h4⟩ := hC
  exact ⟨C, ns, h1, h2, h3, h4⟩
 ·
  rw [st_eq, h] at h2
  cases h2
theorem startsIn_no (A : Option Addr) (c : Nat) (g : List Tk) (A1 : Option Addr) (c1 : Nat) (rm : List Int) (wk : Int) (A2 : Option Addr) (c2 : Nat) (st : List Int) (h : vStB g rm wk st = false) (w : World) (hr : kTk.C w A g.length g) (hr1 : (Kd.int .i64).C w A1 rm.length rm) (hr2 : (Kd.int .i64).C w A2 st.length st) (hT : Tab w) :
  Calls Tryz.prog 24 #[.slice A g.length c, .slice A1 rm.length c1, .int .i64 wk, .slice A2 st.length c2] w fun e w' => e = .returned (.tuple #[.pointer none, .bool false]) ∧ Below w.heap.size w w' := by
 refine (startsIn_calls A c g A1 c1 rm wk A2 c2 st w hr hr1 hr2 hT).mono ?_
 rintro e w' (⟨h2, _⟩ | ⟨_, hC⟩)
 ·
  rw [st_eq, h] at h2
  cases h2
 ·
  exact hC
set_option maxRecDepth 100000 in
theorem EndTime_impl (A : Option Addr) (c : Nat) (g : List Tk) (A1 : Option Addr) (c1 : Nat) (rm : List Int) (wk : Int) (A2 : Option Addr) (c2 : Nat) (st : List Int) (w : World) (hr : kTk.C w A g.length g) (hr1 : (Kd.int .i64).C w A1 rm.length rm) (hr2 : (Kd.int .i64).C w A2 st.length st) (hT : Tab w) :
  Calls Tryz.prog 10 #[.slice A g.length c, .slice A1 rm.length c1, .int .i64 wk, .slice A2 st.length c2] w fun e w' => e = .returned (.int .i64 (etS g rm wk st)) ∧ Below w.heap.size w w' := by
 cases h : vStB g rm wk st with
 | true =>
  have HF : Hid (etS g rm wk st = endS g st g.length) := Lib.hid (by unfold etS; rw [if_pos h])
  have HP := Lib.hid (startsIn_yes A c g A1 c1 rm wk A2 c2 st h w hr hr1 hr2 hT)
  have HV := Lib.hid (vSt_valid h)
  have HR2 := Lib.hid hr2
  clear hr hr1 hr2 hT h
  go_enter Tryz.func10, Tryz.ntmps10
  go_wp2_with (first | (go_at_call 24; refine HP.out.mono ?_; rintro e w1 ⟨C, ns, rfl, hg, hG, hB1⟩; have HG := Lib.hid hG; have HB1 := Lib.hid hB1; clear hg hG hB1) | (go_at_call 27; refine (iend_calls C g ns A2 c2 st HV.out.ok HV.out.sok HV.out.len _ HG.out (Kd.C_below HR2.out HB1.out)).mono ?_; rintro e w2 ⟨rfl, rfl⟩))
  go_ret
  exact ⟨ret_int HF.out.symm, HB1.out⟩
 | false =>
  have HF : Hid (etS g rm wk st = -1) := Lib.hid (by unfold etS; rw [h]; rfl)
  have HP := Lib.hid (startsIn_no A c g A1 c1 rm wk A2 c2 st h w hr hr1 hr2 hT)
  clear hr hr1 hr2 hT h
  go_enter Tryz.func10, Tryz.ntmps10
  go_wp2_with (go_at_call 24; refine HP.out.mono ?_; rintro e w1 ⟨rfl, hB1⟩)
  go_ret
  exact ⟨ret_int HF.out.symm, hB1⟩
set_option maxRecDepth 100000 in
set_option maxHeartbeats 4000000 in
theorem RunningAt_impl (A : Option Addr) (c : Nat) (g : List Tk) (A1 : Option Addr) (c1 : Nat) (rm : List Int) (wk : Int) (A2 : Option Addr) (c2 : Nat) (st : List Int) (now : Int) (w : World) (hr : kTk.C w A g.length g) (hr1 : (Kd.int .i64).C w A1 rm.length rm) (hr2 : (Kd.int .i64).C w A2 st.length st) (hT : Tab w) :
  Calls Tryz.prog 11 #[.slice A g.length c, .slice A1 rm.length c1, .int .i64 wk, .slice A2 st.length c2, .int .i64 now] w fun e w' => ∃ v, e = .returned v ∧ Kd.R (Kd.int .i64) 3 w' w.heap.size (fun _ => True) v (ints (raS g rm wk st now)) ∧ Below w.heap.size w w' := by
 cases h : vStB g rm wk st with
 | true =>
  have HF : Hid (raS g rm wk st now = (List.range st.length).filter (runB g st now)) := Lib.hid (by unfold raS runS; rw [if_pos h, (vSt_valid h).len])
  have HP := Lib.hid (startsIn_yes A c g A1 c1 rm wk A2 c2 st h w hr hr1 hr2 hT)
  have HV := Lib.hid (vSt_valid h)
  have HR2 := Lib.hid hr2
  have HT := Lib.hid hT
  have hl8 : st.length ≤ 8 := by rw [HV.out.len]; exact HV.out.ok.1
  clear hr hr1 hr2 hT h
  go_enter Tryz.func11, Tryz.ntmps11
  go_wp2_with (go_at_call 24; refine HP.out.mono ?_; rintro e w1 ⟨C, ns, rfl, hg, hG, hB1⟩; have HB1 := Lib.hid hB1; have HR3 := Lib.hid (Kd.C_below HR2.out hB1); clear hg hB1; obtain ⟨Ag, cg, An, cn, Ao, co, vb, va, h1, h2, _, _⟩ := hG; have cC := blk_cell h1 0; simp at cC; have HR := Lib.hid h2; clear h1 h2)
  go_loop [13, 28] (fun s i => ∃ (j : Nat), j ≤ st.length ∧ i = .int .i64 j ∧ s = .int .u16 (maskN (runB g st now) j : Nat)) (fun _ i => st.length - (intOf i).toNat)
  case atStart => exact ⟨0, Nat.zero_le _, rfl, rfl⟩
  case round =>
   obtain ⟨j, hj, rfl, rfl⟩ := hrel
   by_cases hjl : j < st.length
   ·
    have hjg : j < g.length := by rw [← HV.out.len]; exact hjl
    obtain ⟨ad, A4, c4, rfl, hc0, _⟩ := at_Tk HR.out j hjg
    obtain ⟨ads, rfl, cs⟩ := at_num HR3.out j hjl
    have hjj : decide ((j : Int) < (st.length : Int)) = true := decide_eq_true (by omega)
    have hji : (j : Int) < (g.length : Int) := by omega
    have hjsi : (j : Int) < (st.length : Int) := by omega
    have HE : Hid (maskN (runB g st now) (j + 1) = if runB g st now j then maskN (runB g st now) j ||| 2 ^ j else maskN (runB g st now) j) := Lib.hid rfl
    have HBD : Hid (runB g st now j = (decide (st.getD j 0 ≤ now) && decide (now < st.getD j 0 + (rdTk g j).f0))) := Lib.hid rfl
    have hmk := maskN_u16 (runB g st now) (n := j) (by omega)
    have hj16 : j < 16 := by omega
    have hsj := HV.out.sok j
    have htj := HV.out.ok.2.1 j
    generalize st.getD j 0 = s at cs hsj HBD
    generalize (rdTk g j).f0 = tm at hc0 htj HBD
    generalize runB g st now j = rb at HE HBD
    generalize maskN (runB g st now) j = mk at HE hmk
    have hwr : IntKind.i64.wrap (s + tm) = s + tm := IntWalk.i64_in _ (by omega)
    by_cases g1 : s ≤ now
    ·
     have d1 : decide (s ≤ now) = true := decide_eq_true g1
     by_cases g2 : now < s + tm
     ·
      have d2 : decide (now < s + tm) = true := decide_eq_true g2
      rw [d1, d2] at HBD
      clear g1 g2
      go_wp2_with (go_at_call 28; refine (with_calls mk j hmk hj16 _).mono ?_; rintro e w6 ⟨rfl, rfl⟩)
      clear hwr
      go_round
      case rel => exact ⟨j + 1, by omega, by go_num, by rw [HE.out, HBD.out]; rfl⟩
      case measure => simp [intOf]; omega
     ·
      have d2 : decide (now < s + tm) = false := decide_eq_false g2
      rw [d1, d2] at HBD
      clear g1 g2
      go_wp2
      clear hwr
      go_round
      case rel => exact ⟨j + 1, by omega, by go_num, by rw [HE.out, HBD.out]; rfl⟩
      case measure => simp [intOf]; omega
    ·
     have d1 : decide (s ≤ now) = false := decide_eq_false g1
     rw [d1] at HBD
     clear g1
     go_wp2
     clear hwr
     go_round
     case rel => exact ⟨j + 1, by omega, by go_num, by rw [HE.out, HBD.out]; rfl⟩
     case measure => simp [intOf]; omega
   ·
    obtain rfl : j = st.length := by omega
    have hjj : decide ((st.length : Int) < (st.length : Int)) = false := decide_eq_false (by omega)
    have hmk := maskN_u16 (runB g st now) (n := st.length) (by omega)
    have HEL := Lib.hid (els_mask (runB g st now) (n := st.length) (by omega))
    have HLC := Lib.hid (list_calls (maskN (runB g st now) st.length) hmk _ (HT.out.keep HT.out.lt HB1.out))
    rw [HEL.out, ← HF.out] at HLC
    go_wp2_with (go_at_call 29; refine HLC.out.mono ?_; rintro e w3 ⟨v, rfl, hR, hB3⟩)
    go_ret
    have hz := HB1.out.size
    exact ⟨_, rfl, Kd.R_lower hR hz, HB1.out.trans (hB3.mono hz)⟩
 | false =>
  have HF : Hid (raS g rm wk st now = []) := Lib.hid (by unfold raS; rw [h]; rfl)
  have HP := Lib.hid (startsIn_no A c g A1 c1 rm wk A2 c2 st h w hr hr1 hr2 hT)
  clear hr hr1 hr2 hT h
  go_enter Tryz.func11, Tryz.ntmps11
  go_wp2_with (go_at_call 24; refine HP.out.mono ?_; rintro e w1 ⟨rfl, hB1⟩)
  go_ret
  exact ⟨_, rfl, by rw [HF.out]; exact R_nilJ _ _, hB1⟩
end Go.Proofs.YtlapphhcficbjaaGreatDoor

namespace Go.Proofs.YtlapphhcficbjaaGreatDoor
set_option linter.unusedVariables false
set_option linter.unusedSimpArgs false
open Go.RowKit Go.Shelf Bits
open Go.Proofs.YtlapphhcficbjaaGreatDoorW.PrintWords Go.Proofs.YtlapphhcficbjaaGreatDoorW.PrintLast Go.Proofs.YtlapphhcficbjaaGreatDoorW.PrintMore
def usedOkB (g : List Tk) (rm : List Int) (run : List Nat) : Bool := (List.range 3).all fun p => decide (usedS g run (p : Nat) ≤ rm.getD p 0)
theorem vRunB_eq {g : List Tk} (hv : specValid g = true) {rm : List Int} (hrm : roomB rm = true) (st : List Int) (now : Int) : vRunB g rm (runS g st now) = usedOkB g rm (runS g st now) := by
 unfold vRunB usedOkB
 rw [hv, hrm, runS_in, show ascB (ints (runS g st now)) = true from ascB_filter _ _]
 rfl
theorem ascends_isV (b : Bool) (A : Option Addr) (c : Nat) (l : List Int) (h : Hid (ascB l = b)) (w : World) (hr : (Kd.int .i64).C w A l.length l) :
  Calls Tryz.prog 106 #[.slice A l.length c] w fun e w' => e = .returned (.bool b) ∧ Below w.heap.size w w' :=
 (ascends_calls A c l w hr).mono fun e w' ⟨he, hw⟩ => ⟨by rw [he, h.out], by first | exact hw | (rw [hw]; exact Below.refl _ _)⟩
set_option maxRecDepth 100000 in
set_option maxHeartbeats 4000000 in
theorem validRunning_calls (A : Option Addr) (c : Nat) (g : List Tk) (A1 : Option Addr) (c1 : Nat) (rm : List Int) (A2 : Option Addr) (c2 : Nat) (run : List Nat) (hv : specValid g = true) (hrm : roomB rm = true) (hl : run.length ≤ 50) (hlt : ∀ i ∈ run, i < g.length) (hasc : ascB (ints run) = true) (hin : allInB (ints run) 0 (g.length - 1) = true) (w : World) (hr : kTk.C w A g.length g) (hr1 : (Kd.int .i64).C w A1 rm.length rm) (hr2 : (Kd.int .i64).C w A2 run.length (ints run)) :
  Calls Tryz.prog 68 #[.slice A g.length c, .slice A1 rm.length c1, .slice A2 run.length c2] w fun e w' => e = .returned (.bool (usedOkB g rm run)) ∧ Below w.heap.size w w' := by
 have HR := Lib.hid hr
 have HR1 := Lib.hid hr1
 have HR2 := Lib.hid hr2
 have HV := Lib.hid hv
 have HRM := Lib.hid hrm
 have HLT := Lib.hid hlt
 have HAS := Lib.hid hasc
 have hn8 := (specValid_TOk hv).1
 have HIN := Lib.hid hin
 have HOK := Lib.hid (specValid_TOk hv)
 have H3L := Lib.hid (roomB_facts hrm).1
 have hc2 : (Kd.int .i64).C w A2 (ints run).length (ints run) := by rw [ints_length]; exact hr2
 have HC2 := Lib.hid hc2
 have hwn : IntKind.i64.wrap ((g.length : Int) - 1) = (g.length : Int) - 1 := IntWalk.i64_in _ (by omega)
 have has := fun W (h : (Kd.int .i64).C W A2 (ints run).length (ints run)) => ascends_isV true A2 c2 (ints run) HAS W h
 have hal := fun W (h : (Kd.int .i64).C W A2 (ints run).length (ints run)) => allIn_is true A2 c2 (ints run) 0 ((g.length : Int) - 1) HIN W h
 rw [ints_length] at has hal
 have HASC := Lib.hid has
 have HALL := Lib.hid hal
 clear hr hr1 hr2 hv hrm hlt hasc hin hc2 has hal
 go_enter Tryz.func68, Tryz.ntmps68
 go_wp2_with (first
  | (go_at_call 63; refine (validGraph_is true A c g HV w HR.out).mono ?_; rintro e w1 ⟨rfl, hB1⟩; have HB1 := Lib.hid hB1; clear hB1)
  | (go_at_call 64; refine (validRoom_is _ _ _ _ HRM _ (Kd.C_below HR1.out HB1.out)).mono ?_; rintro e wv ⟨rfl, rfl⟩)
  | (go_at_call 106; refine (HASC.out _ (Kd.C_below HR2.out HB1.out)).mono ?_; rintro e w2 ⟨rfl, hB2⟩; have HB2 := Lib.hid (HB1.out.trans (hB2.mono HB1.out.size)); clear hB2)
  | (go_at_call 66; refine (HALL.out _ (Kd.C_below HR2.out HB2.out)).mono ?_; rintro e w3 ⟨rfl, rfl⟩))
 clear hwn
 go_loopw [7] (fun i wr => ∃ j, j ≤ 3 ∧ i = .int .i64 (j : Nat) ∧ Below w.heap.size w wr ∧ Hid (∀ q, q < j → decide (usedS g run (q : Nat) ≤ rm.getD q 0) = true)) (fun i _ => 3 - (intOf i).toNat)
 case atStart => exact ⟨0, by omega, rfl, HB2.out, Lib.hid fun q h => absurd h (Nat.not_lt_zero _)⟩
 case round =>
  obtain ⟨j, hj, rfl, hB, HS⟩ := hrel
  have HB := Lib.hid hB
  by_cases hj3 : j < 3
  ·
   have dj : decide ((j : Int) < 3) = true := decide_eq_true (by omega)
   obtain ⟨ad, rfl, cx⟩ := at_num (Kd.C_below HR1.out hB) j (by have := H3L.out; omega)
   have hji : (j : Int) < (rm.length : Int) := by have := H3L.out; omega
   have HCG := Lib.hid (Kd.C_below HR.out hB)
   have HCN := Lib.hid (Kd.C_below HR2.out hB)
   have hrl : run.length ≤ 100 := by omega
   obtain ⟨U, hU⟩ : ∃ U, usedS g run (j : Int) = U := ⟨_, rfl⟩
   have HU := Lib.hid hU
   have HX : Hid (∃ x, x = rm.getD j 0) := Lib.hid ⟨_, rfl⟩
   obtain ⟨x, hx⟩ := HX.out
   rw [← hx] at cx
   have hxx := Lib.hid hx
   clear hU
   clear hB hx HX
   by_cases hc : U ≤ x
   ·
    have dc : decide (x < U) = false := decide_eq_false (by omega)
    have HT : Hid (decide (usedS g run (j : Nat) ≤ rm.getD j 0) = true) := Lib.hid (decide_eq_true (by rw [HU.out, ← hxx.out]; exact hc))
    clear hc
    go_wp2
    go_quiet ((go_at_call 107; exact Calls.quiet_of_same (used_is U _ _ g _ _ run (j : Int) HU HOK.out hrl HLT.out _ (Kd.C_drewN HCG.out _) (Kd.C_drewN HCN.out _))))
    go_wp2
    go_roundw
    case rel =>
     refine ⟨j + 1, by omega, by go_num, pw_below_drewN HB.out _, Lib.hid fun q hq => ?_⟩
     by_cases e : q = j
     ·
      rw [e]; exact HT.out
     ·
      exact HS.out q (by omega)
    case measure => simp [intOf]; omega
   ·
    have dc : decide (x < U) = true := decide_eq_true (by omega)
    have HF : Hid (usedOkB g rm run = false) := Lib.hid (by
     unfold usedOkB
     rw [List.all_eq_false]
     exact ⟨j, List.mem_range.2 hj3, by rw [HU.out, ← hxx.out, decide_eq_false hc]; simp⟩)
    clear hc
    go_wp2
    go_quiet ((go_at_call 107; exact Calls.quiet_of_same (used_is U _ _ g _ _ run (j : Int) HU HOK.out hrl HLT.out _ (Kd.C_drewN HCG.out _) (Kd.C_drewN HCN.out _))))
    go_wp2
    go_ret
    exact ⟨ret_bool HF.out.symm, pw_below_drewN HB.out _⟩
  ·
   obtain rfl : j = 3 := by omega
   have dj : decide (((3 : Nat) : Int) < 3) = false := by decide
   have HF : Hid (usedOkB g rm run = true) := Lib.hid (by
    unfold usedOkB
    rw [List.all_eq_true]
    exact fun q hq => HS.out q (List.mem_range.1 hq))
   go_wp2
   go_ret
   exact ⟨ret_bool HF.out.symm, HB.out⟩
set_option maxRecDepth 1000000 in
set_option maxHeartbeats 8000000 in
theorem validStarts_calls (A : Option Addr) (c : Nat) (g : List Tk) (A1 : Option Addr) (c1 : Nat) (rm : List Int) (wk : Int) (A2 : Option Addr) (c2 : Nat) (st : List Int) (w : World) (hr : kTk.C w A g.length g) (hr1 : (Kd.int .i64).C w A1 rm.length rm) (hr2 : (Kd.int .i64).C w A2 st.length st) :
  Calls Tryz.prog 26 #[.slice A g.length c, .slice A1 rm.length c1, .int .i64 wk, .slice A2 st.length c2] w fun e w' => e = .returned (.bool (vStB g rm wk st)) ∧ Below w.heap.size w w' := by
 have HVG := fun b (h : specValid g = b) => validGraph_is b A c g (Lib.hid h) w hr
 have HR := Lib.hid hr
 have HR1 := Lib.hid hr1
 have HR2 := Lib.hid hr2
 have hlg := (C_len hr2).2
 clear hr hr1 hr2
 cases h1 : specValid g with
 | false =>
  have HF : Hid (vStB g rm wk st = false) := Lib.hid (by unfold vStB; rw [h1]; rfl)
  have HVG := Lib.hid (HVG _ h1)
  clear h1
  go_enter Tryz.func26, Tryz.ntmps26
  go_wp2_with (go_at_call 63; refine HVG.out.mono ?_; rintro e w1 ⟨rfl, hB1⟩; have HB1 := Lib.hid hB1; clear hB1)
  go_ret
  exact ⟨ret_bool HF.out.symm, HB1.out⟩
 | true =>
  have HVV := Lib.hid h1
  have HVG := Lib.hid (HVG _ h1)
  have HOK := Lib.hid (specValid_TOk h1)
  have hg8 := (specValid_TOk h1).1
  clear h1
  cases h2 : roomB rm with
  | false =>
   have HF : Hid (vStB g rm wk st = false) := Lib.hid (by unfold vStB; rw [h2, Bool.false_and, Bool.and_false])
   have H2 := Lib.hid h2
   clear h2
   go_enter Tryz.func26, Tryz.ntmps26
   go_wp2_with (first | (go_at_call 63; refine HVG.out.mono ?_; rintro e w1 ⟨rfl, hB1⟩; have HB1 := Lib.hid hB1; clear hB1) | (go_at_call 64; refine (validRoom_is _ _ _ _ H2 _ (Kd.C_below HR1.out HB1.out)).mono ?_; rintro e w' ⟨rfl, rfl⟩))
   go_ret
   exact ⟨ret_bool HF.out.symm, HB1.out⟩
  | true =>
   have H2 := Lib.hid h2
   clear h2
   cases h3 : inB wk 1 4 with
   | false =>
    have HF : Hid (vStB g rm wk st = false) := Lib.hid (by unfold vStB; rw [h3, Bool.false_and, Bool.and_false, Bool.and_false])
    have H3 := Lib.hid h3
    clear h3
    go_enter Tryz.func26, Tryz.ntmps26
    go_wp2_with (first | (go_at_call 63; refine HVG.out.mono ?_; rintro e w1 ⟨rfl, hB1⟩; have HB1 := Lib.hid hB1; clear hB1) | (go_at_call 64; refine (validRoom_is _ _ _ _ H2 _ (Kd.C_below HR1.out HB1.out)).mono ?_; rintro e w' ⟨rfl, rfl⟩) | (go_at_call 65; refine (inRange_is _ _ _ _ H3 _).mono ?_; rintro e w' ⟨rfl, rfl⟩))
    go_ret
    exact ⟨ret_bool HF.out.symm, HB1.out⟩
   | true =>
    have H3 := Lib.hid h3
    clear h3
    by_cases h4 : st.length = g.length
    ·
     have d4 : ((st.length : Int) != (g.length : Int)) = false := by rw [bne_eq_false_iff_eq]; omega
     have HL := Lib.hid h4
     cases h5 : allInB st 0 200 with
     | false =>
      have HF : Hid (vStB g rm wk st = false) := Lib.hid (by unfold vStB; rw [h5]; simp)
      have H5 := Lib.hid h5
      clear h4 h5
      go_enter Tryz.func26, Tryz.ntmps26
      go_wp2_with (first | (go_at_call 63; refine HVG.out.mono ?_; rintro e w1 ⟨rfl, hB1⟩; have HB1 := Lib.hid hB1; clear hB1) | (go_at_call 64; refine (validRoom_is _ _ _ _ H2 _ (Kd.C_below HR1.out HB1.out)).mono ?_; rintro e w' ⟨rfl, rfl⟩) | (go_at_call 65; refine (inRange_is _ _ _ _ H3 _).mono ?_; rintro e w' ⟨rfl, rfl⟩) | (go_at_call 66; refine (allIn_is _ _ _ _ _ _ H5 _ (Kd.C_below HR2.out HB1.out)).mono ?_; rintro e w' ⟨rfl, rfl⟩))
      go_ret
      exact ⟨ret_bool HF.out.symm, HB1.out⟩
     | true =>
      have HE : Hid (vStB g rm wk st = (List.range g.length).all (startOkB g rm wk st)) := Lib.hid (by unfold vStB; rw [HVV.out, H2.out, H3.out, h5, decide_eq_true h4]; rfl)
      have H5 := Lib.hid h5
      have HSOK := Lib.hid (allIn_sok h5)
      have HNI := Lib.hid (spec_needs_in HVV.out)
      have HVRG := Lib.hid (fun (run : List Nat) (b : Bool) (hu : usedOkB g rm run = b) (q1 : run.length ≤ 50) (q2 : ∀ i ∈ run, i < g.length) (q3 : ascB (ints run) = true) (q4 : allInB (ints run) 0 (g.length - 1) = true) (W : World) Ar cr h h1 h2 => (validRunning_calls A c g A1 c1 rm Ar cr run HVV.out H2.out q1 q2 q3 q4 W h h1 h2).mono fun e w' hh => (⟨by rw [hh.1, hu], hh.2⟩ : e = .returned (.bool b) ∧ Below W.heap.size W w'))
      have HRA := Lib.hid (fun (now : Int) (W : World) h h' => runningAt_calls A c g A2 c2 st now HOK.out HSOK.out h4 W h h')
      clear h4 h5
      go_enter Tryz.func26, Tryz.ntmps26
      go_wp2_with (first | (go_at_call 63; refine HVG.out.mono ?_; rintro e w1 ⟨rfl, hB1⟩; have HB1 := Lib.hid hB1; clear hB1) | (go_at_call 64; refine (validRoom_is _ _ _ _ H2 _ (Kd.C_below HR1.out HB1.out)).mono ?_; rintro e w' ⟨rfl, rfl⟩) | (go_at_call 65; refine (inRange_is _ _ _ _ H3 _).mono ?_; rintro e w' ⟨rfl, rfl⟩) | (go_at_call 66; refine (allIn_is _ _ _ _ _ _ H5 _ (Kd.C_below HR2.out HB1.out)).mono ?_; rintro e w' ⟨rfl, rfl⟩))
      have HBB := Lib.hid HB1.out
      go_loopw [9] (fun i wr => ∃ j, j ≤ g.length ∧ i = .int .i64 (j : Nat) ∧ Below w.heap.size w wr ∧ Hid (∀ q, q < j → startOkB g rm wk st q = true)) (fun i _ => g.length - (intOf i).toNat)
      case atStart => exact ⟨0, Nat.zero_le _, rfl, HBB.out, Lib.hid fun q h => absurd h (Nat.not_lt_zero _)⟩
      case round =>
       obtain ⟨j, hj, rfl, hB, HS⟩ := hrel
       obtain ⟨wo, rfl⟩ : ∃ wo : World, wo = wr := ⟨_, rfl⟩
       have HB := Lib.hid hB
       clear hB
       by_cases hjl : j < g.length
       ·
        have hjj : decide ((j : Int) < (g.length : Int)) = true := decide_eq_true (by omega)
        have hji : (j : Int) < (g.length : Int) := by omega
        have hjs : (j : Int) < (st.length : Int) := by have := HL.out; omega
        have HNJ := Lib.hid (HNI.out j hjl)
        obtain ⟨ad, A3, c3, rfl, hx0, hx1, hx2, hx3, hl3, hC3⟩ := at_Tk (Kd.C_below HR.out HB.out) j hjl
        have hnl := (C_len hC3).2
        have HNO : Hid (needsOkB g st j = (rdTk g j).f1.all fun x => decide (st.getD x.toNat 0 + (rdTk g x.toNat).f0 ≤ st.getD j 0)) := Lib.hid rfl
        have HTJ := Lib.hid (And.intro hx1 hC3)
        clear hx0 hx1 hx2 hx3 hl3 hC3
        generalize (rdTk g j).f1 = nd at HNJ HNO HTJ hnl
        go_wp2
        go_loopw [10] (fun i wi => ∃ q, q ≤ nd.length ∧ i = .int .i64 (q : Nat) ∧ Below wo.heap.size wo wi ∧ Hid (∀ p, p < q → decide (st.getD (nd.getD p 0).toNat 0 + (rdTk g (nd.getD p 0).toNat).f0 ≤ st.getD j 0) = true)) (fun i _ => nd.length - (intOf i).toNat)
        case atStart => exact ⟨0, Nat.zero_le _, rfl, Below.refl _ _, Lib.hid fun q h => absurd h (Nat.not_lt_zero _)⟩
        case round =>
         obtain ⟨q, hq, rfl, hBi, HI⟩ := hrel
         have HBi := Lib.hid hBi
         have HBw := Lib.hid (HB.out.trans (hBi.mono HB.out.size))
         have cn := (hBi.cell (World.block_lt_of_cell? wo _ HTJ.out.1)).trans HTJ.out.1
         have hC3 := Kd.C_below HTJ.out.2 hBi
         clear hBi
         by_cases hql : q < nd.length
         ·
          have hqq : decide ((q : Int) < (nd.length : Int)) = true := decide_eq_true (by omega)
          have hqi : (q : Int) < (nd.length : Int) := by omega
          obtain ⟨ad3, rfl, cq⟩ := at_num hC3 q hql
          have hxr := HNJ.out (nd.getD q 0) (mem_getD hql)
          have HXQ : Hid (∃ m : Nat, nd.getD q 0 = (m : Int) ∧ m < g.length) := Lib.hid ⟨(nd.getD q 0).toNat, by omega, by omega⟩
          obtain ⟨m, hm, hmg⟩ := HXQ.out
          have HMQ := Lib.hid hm
          rw [hm] at cq
          clear hxr HXQ hm hC3
          obtain ⟨adm, Am, cm, e1, hm0, _⟩ := at_Tk (Kd.C_below HR.out HBw.out) m hmg
          cases e1
          obtain ⟨ads, e2, csm⟩ := at_num (Kd.C_below HR2.out HBw.out) m (by have := HL.out; omega)
          obtain ⟨ads', e3, csj⟩ := at_num (Kd.C_below HR2.out HBw.out) j (by have := HL.out; omega)
          subst e2
          cases e3
          have hmi : (m : Int) < (g.length : Int) := by omega
          have hms : (m : Int) < (st.length : Int) := by have := HL.out; omega
          have hsm := HSOK.out m
          have htm := HOK.out.2.1 m
          have HD : Hid (decide (st.getD (nd.getD q 0).toNat 0 + (rdTk g (nd.getD q 0).toNat).f0 ≤ st.getD j 0) = decide (st.getD m 0 + (rdTk g m).f0 ≤ st.getD j 0)) := Lib.hid (by rw [HMQ.out, Int.toNat_natCast])
          generalize st.getD m 0 = sm at csm hsm HD
          generalize (rdTk g m).f0 = tm at hm0 htm HD
          have HSJ : Hid (∃ x, x = st.getD j 0) := Lib.hid ⟨_, rfl⟩
          obtain ⟨sj, hsj⟩ := HSJ.out
          rw [← hsj] at csj HD
          have HSJ2 := Lib.hid hsj
          clear hsj HSJ
          by_cases hc : sm + tm ≤ sj
          ·
           have dc : decide (sj < sm + tm) = false := decide_eq_false (by omega)
           have HT : Hid (decide (st.getD (nd.getD q 0).toNat 0 + (rdTk g (nd.getD q 0).toNat).f0 ≤ st.getD j 0) = true) := Lib.hid (by rw [← HSJ2.out, HD.out]; exact decide_eq_true hc)
           have hwr : IntKind.i64.wrap (sm + tm) = sm + tm := IntWalk.i64_in _ (by omega)
           clear hc
           go_wp2
           go_quiet (fail)
           clear hwr
           go_wp2
           go_roundw
           case rel =>
            refine ⟨q + 1, by omega, by go_num, pw_below_drewN HBi.out _, Lib.hid fun p hp => ?_⟩
            by_cases e : p = q
            ·
             rw [e]; exact HT.out
            ·
             exact HI.out p (by omega)
           case measure => simp [intOf]; omega
          ·
           have dc : decide (sj < sm + tm) = true := decide_eq_true (by omega)
           have HF : Hid (vStB g rm wk st = false) := Lib.hid (by
            rw [HE.out, List.all_eq_false]
            refine ⟨j, List.mem_range.2 hjl, ?_⟩
            unfold startOkB
            rw [show needsOkB g st j = false by
             rw [HNO.out]
             exact all_not 0 hql (by rw [← HSJ2.out, HD.out]; exact decide_eq_false hc)]
            simp)
           have hwr : IntKind.i64.wrap (sm + tm) = sm + tm := IntWalk.i64_in _ (by omega)
           clear hc
           go_wp2
           go_quiet (fail)
           clear hwr
           go_wp2
           go_ret
           exact ⟨ret_bool HF.out.symm, pw_below_drewN HBw.out _⟩
         ·
          obtain rfl : q = nd.length := by omega
          have hqq : decide ((nd.length : Int) < (nd.length : Int)) = false := decide_eq_false (by omega)
          have HNT : Hid (needsOkB g st j = true) := Lib.hid (by rw [HNO.out]; exact all_take 0 (fun p hp => HI.out p hp))
          obtain ⟨ads', e3, csj⟩ := at_num (Kd.C_below HR2.out HBw.out) j (by have := HL.out; omega)
          subst e3
          have HSE : Hid (startOkB g rm wk st j = (needsOkB g st j && (decide (((runS g st (st.getD j 0)).length : Int) ≤ wk) && usedOkB g rm (runS g st (st.getD j 0))))) := Lib.hid (by rw [← vRunB_eq HVV.out H2.out]; rfl)
          have HRJ := Lib.hid (HRA.out (st.getD j 0) wr (Kd.C_below HR.out HBw.out) (Kd.C_below HR2.out HBw.out))
          have HRF := Lib.hid (And.intro (show (runS g st (st.getD j 0)).length ≤ 50 from Nat.le_trans (filter_range_le _ _) (by omega)) (And.intro (fun i (hi : i ∈ runS g st (st.getD j 0)) => (mem_runS.1 hi).1) (And.intro (show ascB (ints (runS g st (st.getD j 0))) = true from ascB_filter _ _) (runS_in g st (st.getD j 0)))))
          generalize runS g st (st.getD j 0) = run at HSE HRJ HRF
          generalize st.getD j 0 = sj at csj HRJ
          by_cases hc : (run.length : Int) ≤ wk
          ·
           have dc : decide (wk < (run.length : Int)) = false := decide_eq_false (by omega)
           rw [HNT.out, decide_eq_true hc, Bool.true_and, Bool.true_and] at HSE
           clear hc
           cases hu : usedOkB g rm run with
           | true =>
            rw [hu] at HSE
            have HVR := Lib.hid (HVRG.out run true hu HRF.out.1 HRF.out.2.1 HRF.out.2.2.1 HRF.out.2.2.2)
            clear hu
            go_wp2_with (first | (go_at_call 67; refine HRJ.out.mono ?_; rintro e w4 ⟨v4, rfl, hR4, hB4⟩; obtain ⟨A4, c4, rfl, _, hC4⟩ := Kd.R_reads hR4; rw [ints_length] at hC4; rw [ints_length]; have HC4 := Lib.hid hC4; have HB4 := Lib.hid (HBw.out.trans (hB4.mono HBw.out.size)); clear hR4 hC4 hB4) | (go_at_call 68; refine (HVR.out _ A4 c4 (Kd.C_below HR.out HB4.out) (Kd.C_below HR1.out HB4.out) HC4.out).mono ?_; rintro e w5 ⟨rfl, hB5⟩; have HB5 := Lib.hid (HB4.out.trans (hB5.mono HB4.out.size)); clear hB5))
            go_roundw
            case rel =>
             refine ⟨j + 1, by omega, by go_num, HB5.out, Lib.hid fun q hq => ?_⟩
             by_cases e : q = j
             ·
              rw [e]; exact HSE.out
             ·
              exact HS.out q (by omega)
            case measure => simp [intOf]; omega
           | false =>
            rw [hu] at HSE
            have HF : Hid (vStB g rm wk st = false) := Lib.hid (by
             rw [HE.out, List.all_eq_false]
             exact ⟨j, List.mem_range.2 hjl, by rw [HSE.out]; simp⟩)
            have HVR := Lib.hid (HVRG.out run false hu HRF.out.1 HRF.out.2.1 HRF.out.2.2.1 HRF.out.2.2.2)
            clear hu
            go_wp2_with (first | (go_at_call 67; refine HRJ.out.mono ?_; rintro e w4 ⟨v4, rfl, hR4, hB4⟩; obtain ⟨A4, c4, rfl, _, hC4⟩ := Kd.R_reads hR4; rw [ints_length] at hC4; rw [ints_length]; have HC4 := Lib.hid hC4; have HB4 := Lib.hid (HBw.out.trans (hB4.mono HBw.out.size)); clear hR4 hC4 hB4) | (go_at_call 68; refine (HVR.out _ A4 c4 (Kd.C_below HR.out HB4.out) (Kd.C_below HR1.out HB4.out) HC4.out).mono ?_; rintro e w5 ⟨rfl, hB5⟩; have HB5 := Lib.hid (HB4.out.trans (hB5.mono HB4.out.size)); clear hB5))
            go_ret
            exact ⟨ret_bool HF.out.symm, HB5.out⟩
          ·
           have dc : decide (wk < (run.length : Int)) = true := decide_eq_true (by omega)
           have HF : Hid (vStB g rm wk st = false) := Lib.hid (by
            rw [HE.out, List.all_eq_false]
            exact ⟨j, List.mem_range.2 hjl, by rw [HSE.out, decide_eq_false hc]; simp⟩)
           clear hc
           go_wp2_with (go_at_call 67; refine HRJ.out.mono ?_; rintro e w4 ⟨v4, rfl, hR4, hB4⟩; obtain ⟨A4, c4, rfl, _, hC4⟩ := Kd.R_reads hR4; rw [ints_length] at hC4; rw [ints_length]; have HC4 := Lib.hid hC4; have HB4 := Lib.hid (HBw.out.trans (hB4.mono HBw.out.size)); clear hR4 hC4 hB4)
           go_ret
           exact ⟨ret_bool HF.out.symm, HB4.out⟩
       ·
        obtain rfl : j = g.length := by omega
        have hjj : decide ((g.length : Int) < (g.length : Int)) = false := decide_eq_false (by omega)
        have HF : Hid (vStB g rm wk st = true) := Lib.hid (by
         rw [HE.out, List.all_eq_true]
         exact fun q hq => HS.out q (List.mem_range.1 hq))
        go_wp2
        go_ret
        exact ⟨ret_bool HF.out.symm, HB.out⟩
    ·
     have d4 : ((st.length : Int) != (g.length : Int)) = true := by rw [bne_iff_ne]; omega
     have HF : Hid (vStB g rm wk st = false) := Lib.hid (by unfold vStB; rw [decide_eq_false h4]; simp)
     clear h4
     go_enter Tryz.func26, Tryz.ntmps26
     go_wp2_with (first | (go_at_call 63; refine HVG.out.mono ?_; rintro e w1 ⟨rfl, hB1⟩; have HB1 := Lib.hid hB1; clear hB1) | (go_at_call 64; refine (validRoom_is _ _ _ _ H2 _ (Kd.C_below HR1.out HB1.out)).mono ?_; rintro e w' ⟨rfl, rfl⟩) | (go_at_call 65; refine (inRange_is _ _ _ _ H3 _).mono ?_; rintro e w' ⟨rfl, rfl⟩))
     go_ret
     exact ⟨ret_bool HF.out.symm, HB1.out⟩
theorem validStarts_is (b : Bool) (A : Option Addr) (c : Nat) (g : List Tk) (A1 : Option Addr) (c1 : Nat) (rm : List Int) (wk : Int) (A2 : Option Addr) (c2 : Nat) (st : List Int) (h : Hid (vStB g rm wk st = b)) (w : World) (hr : kTk.C w A g.length g) (hr1 : (Kd.int .i64).C w A1 rm.length rm) (hr2 : (Kd.int .i64).C w A2 st.length st) :
  Calls Tryz.prog 26 #[.slice A g.length c, .slice A1 rm.length c1, .int .i64 wk, .slice A2 st.length c2] w fun e w' => e = .returned (.bool b) ∧ Below w.heap.size w w' :=
 (validStarts_calls A c g A1 c1 rm wk A2 c2 st w hr hr1 hr2).mono fun e w' ⟨he, hw⟩ => ⟨by rw [he, h.out], hw⟩
end Go.Proofs.YtlapphhcficbjaaGreatDoor

namespace Go.Proofs.YtlapphhcficbjaaGreatDoor
set_option linter.unusedVariables false
set_option linter.unusedSimpArgs false
open Go.RowKit Go.Shelf Bits
open Go.Proofs.YtlapphhcficbjaaGreatDoorW.PrintWords Go.Proofs.YtlapphhcficbjaaGreatDoorW.PrintLast Go.Proofs.YtlapphhcficbjaaGreatDoorW.PrintMore
attribute [local go_sem] Oper.semAt_some
theorem map_snoc_range (F : Nat → Int) (j : Nat) : (List.range (j + 1)).map F = (List.range j).map F ++ [F j] := by
 rw [List.range_succ, List.map_append]
 rfl
end Go.Proofs.YtlapphhcficbjaaGreatDoor

namespace Go.Proofs
open Go.Shelf
def Tryz.lays105_ren : Go.Shelf.Ren := ⟨fun | 105 => 25 | 212 => 57 | 99 => 58 | 165 => 59 | 166 => 60 | 170 => 61 | 169 => 62 | 263 => 99 | 264 => 100 | 206 => 101 | 240 => 102 | 241 => 103 | 276 => 126 | 277 => 127 | n => n, fun | 9 => 9 | 3 => 3 | 4 => 4 | 20 => 20 | 0 => 0 | 46 => 92 | 109 => 93 | 5 => 5 | 72 => 98 | 76 => 102 | 51 => 147 | 146 => 148 | 53 => 150 | 148 => 151 | 70 => 96 | 37 => 22 | 75 => 101 | 127 => 153 | 164 => 170 | 80 => 104 | n => n, fun | n => n⟩
theorem Tryz.lays105 : Go.Proofs.Lays.n105 Tryz.prog Tryz.lays105_ren := {
  mixed := by kernel_rfl
  f99 := Tryz.func58.trans (congrArg some (by kernel_rfl))
  f105 := Tryz.func25.trans (congrArg some (by kernel_rfl))
  f165 := Tryz.func59.trans (congrArg some (by kernel_rfl))
  f166 := Tryz.func60.trans (congrArg some (by kernel_rfl))
  f169 := Tryz.func62.trans (congrArg some (by kernel_rfl))
  f170 := Tryz.func61.trans (congrArg some (by kernel_rfl))
  f206 := Tryz.func101.trans (congrArg some (by kernel_rfl))
  f212 := Tryz.func57.trans (congrArg some (by kernel_rfl))
  f240 := Tryz.func102.trans (congrArg some (by kernel_rfl))
  f241 := Tryz.func103.trans (congrArg some (by kernel_rfl))
  f263 := Tryz.func99.trans (congrArg some (by kernel_rfl))
  f264 := Tryz.func100.trans (congrArg some (by kernel_rfl))
  f276 := Tryz.func126.trans (congrArg some (by kernel_rfl))
  f277 := Tryz.func127.trans (congrArg some (by kernel_rfl))
  t0 := Tryz.underlying0
  a0 := Tryz.isAgg0
  z0 := Tryz.sizeOf0
  v0 := Tryz.zeroValue0
  t3 := Tryz.underlying3
  a3 := Tryz.isAgg3
  z3 := Tryz.sizeOf3
  v3 := Tryz.zeroValue3
  t4 := Tryz.underlying4
  a4 := Tryz.isAgg4
  z4 := Tryz.sizeOf4
  v4 := Tryz.zeroValue4
  t5 := Tryz.underlying5
  a5 := Tryz.isAgg5
  z5 := Tryz.sizeOf5
  v5 := Tryz.zeroValue5
  t9 := Tryz.underlying9
  a9 := Tryz.isAgg9
  z9 := Tryz.sizeOf9
  v9 := Tryz.zeroValue9
  t20 := Tryz.underlying20
  a20 := Tryz.isAgg20
  z20 := Tryz.sizeOf20
  v20 := Tryz.zeroValue20
  t37 := Tryz.underlying22
  a37 := Tryz.isAgg22
  z37 := Tryz.sizeOf22
  v37 := Tryz.zeroValue22
  t46 := Tryz.underlying92
  a46 := Tryz.isAgg92
  z46 := Tryz.sizeOf92
  v46 := Tryz.zeroValue92
  t51 := Tryz.underlying147
  a51 := Tryz.isAgg147
  z51 := Tryz.sizeOf147
  v51 := Tryz.zeroValue147
  t53 := Tryz.underlying150
  a53 := Tryz.isAgg150
  z53 := Tryz.sizeOf150
  v53 := Tryz.zeroValue150
  t70 := Tryz.underlying96
  a70 := Tryz.isAgg96
  z70 := Tryz.sizeOf96
  v70 := Tryz.zeroValue96
  t72 := Tryz.underlying98
  a72 := Tryz.isAgg98
  z72 := Tryz.sizeOf98
  v72 := Tryz.zeroValue98
  t75 := Tryz.underlying101
  a75 := Tryz.isAgg101
  z75 := Tryz.sizeOf101
  v75 := Tryz.zeroValue101
  t76 := Tryz.underlying102
  a76 := Tryz.isAgg102
  z76 := Tryz.sizeOf102
  v76 := Tryz.zeroValue102
  t109 := Tryz.underlying93
  a109 := Tryz.isAgg93
  z109 := Tryz.sizeOf93
  v109 := Tryz.zeroValue93
  t127 := Tryz.underlying153
  a127 := Tryz.isAgg153
  z127 := Tryz.sizeOf153
  v127 := Tryz.zeroValue153
  t146 := Tryz.underlying148
  a146 := Tryz.isAgg148
  z146 := Tryz.sizeOf148
  v146 := Tryz.zeroValue148
  t148 := Tryz.underlying151
  a148 := Tryz.isAgg151
  z148 := Tryz.sizeOf151
  v148 := Tryz.zeroValue151
  t164 := Tryz.underlying170
  a164 := Tryz.isAgg170
  z164 := Tryz.sizeOf170
  v164 := Tryz.zeroValue170 }
theorem Tryz.Builder_Extra_105 : Builder.Extra Tryz.prog Tryz.lays105_ren := {
  sizeBuilder := by kernel_rfl
  liesBuilder := by kernel_rfl
  t5 := Tryz.underlying5
  a5 := Tryz.isAgg5
  z5 := Tryz.sizeOf5
  v5 := Tryz.zeroValue5
  infoByte := by kernel_rfl
  cellsByte := by kernel_rfl
  sizeByte := by kernel_rfl
  neB5 := by decide }
open Go.RowKit Go.Lib in
/-- **strings.Repeat: count ≥ 0, the result within one allocation: count copies of s.** (LAID: no walk: one application.) -/
theorem Tryz.strings_Repeat (s : ByteArray) (c : Nat) (w : World) (hc : c ≤ 9223372036854775807) (hlen : s.size * c ≤ 140737488355328) :
    Calls Tryz.prog 25 #[.string s, .int .i64 c] w fun e w' => e = .returned (.string ⟨(Lib.repeatL s.data.toList c).toArray⟩) ∧ Below w.heap.size w w' := Any.strings_Repeat Tryz.lays105 Tryz.Builder_Extra_105 s c w hc hlen
end Go.Proofs
