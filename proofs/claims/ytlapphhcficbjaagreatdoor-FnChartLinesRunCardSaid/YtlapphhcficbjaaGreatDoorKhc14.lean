/- Parts of the proof, laid as one text by a program of mine. -/
import Derived.Test.YtlapphhcficbjaaGreatDoorKhc13
namespace Go.Proofs.YtlapphhcficbjaaGreatDoor
set_option linter.unusedVariables false
set_option linter.unusedSimpArgs false
open Go.RowKit Go.Shelf Bits
def chB (st : List Int) (i : Nat) : Ev := ⟨st.getD i 0, (i : Int), false⟩
def chO (g : List Tk) (st : List Int) (i : Nat) : Ev := ⟨st.getD i 0 + (rdTk g i).f0, (i : Int), true⟩
def chgN (g : List Tk) (st : List Int) : Nat → List Ev
 | 0 => []
 | k + 1 => chgN g st k ++ [chB st k, chO g st k]
def ltE (a b : Ev) : Prop := a.f0 < b.f0 ∨ (a.f0 = b.f0 ∧ ((a.f2 = true ∧ b.f2 = false) ∨ (a.f2 = b.f2 ∧ a.f1 < b.f1)))
instance (a b : Ev) : Decidable (ltE a b) := by unfold ltE; infer_instance
def ltEB (a b : Ev) : Bool := decide (ltE a b)
theorem ltE_irrefl (a : Ev) : ¬ ltE a a := by
 unfold ltE
 rintro (h | ⟨_, ⟨h1, h2⟩ | ⟨_, h⟩⟩)
 ·
  omega
 ·
  rw [h1] at h2; cases h2
 ·
  omega
theorem ltE_trans {a b c : Ev} (h : ltE a b) (k : ltE b c) : ltE a c := by
 unfold ltE at *
 rcases h with h | ⟨h1, h2⟩
 ·
  rcases k with k | ⟨k1, _⟩
  ·
   exact .inl (by omega)
  ·
   exact .inl (by omega)
 ·
  rcases k with k | ⟨k1, k2⟩
  ·
   exact .inl (by omega)
  ·
   refine .inr ⟨by omega, ?_⟩
   rcases h2 with ⟨p, q⟩ | ⟨p, q⟩ <;> rcases k2 with ⟨r, s⟩ | ⟨r, s⟩
   ·
    rw [q] at r; cases r
   ·
    exact .inl ⟨p, by rw [← r]; exact q⟩
   ·
    exact .inl ⟨by rw [p]; exact r, s⟩
   ·
    exact .inr ⟨p.trans r, by omega⟩
theorem ltE_total {a b : Ev} (h : ¬ ltE a b) (k : ¬ ltE b a) : a = b := by
 obtain ⟨a0, a1, a2⟩ := a
 obtain ⟨b0, b1, b2⟩ := b
 unfold ltE at h k
 simp only [not_or, not_and] at h k
 have e0 : a0 = b0 := by omega
 subst e0
 have h2 := h.2 rfl
 have k2 := k.2 rfl
 have e2 : a2 = b2 := by
  cases a2 <;> cases b2 <;> simp_all
 subst e2
 have h3 := h2.2 rfl
 have k3 := k2.2 rfl
 have e1 : a1 = b1 := by omega
 subst e1
 rfl
def chgS (g : List Tk) (st : List Int) : List Ev := (chgN g st g.length).mergeSort fun x y => !ltEB y x
theorem mem_chgN {g : List Tk} {st : List Int} {x : Ev} : ∀ n, x ∈ chgN g st n ↔ ∃ i, i < n ∧ (x = chB st i ∨ x = chO g st i)
 | 0 => by simp [chgN]
 | n + 1 => by
  unfold chgN
  rw [List.mem_append, mem_chgN n]
  simp only [List.mem_cons, List.not_mem_nil, or_false]
  constructor
  ·
   rintro (⟨i, hi, h⟩ | h)
   ·
    exact ⟨i, by omega, h⟩
   ·
    exact ⟨n, by omega, h⟩
  ·
   rintro ⟨i, hi, h⟩
   by_cases hin : i < n
   ·
    exact .inl ⟨i, hin, h⟩
   ·
    obtain rfl : i = n := by omega
    exact .inr h
theorem nodup_chgN (g : List Tk) (st : List Int) : ∀ n, (chgN g st n).Nodup
 | 0 => List.nodup_nil
 | n + 1 => by
  unfold chgN
  rw [List.nodup_append]
  refine ⟨nodup_chgN g st n, by simp [chB, chO], ?_⟩
  intro a ha b hb
  obtain ⟨i, hi, h⟩ := (mem_chgN n).1 ha
  simp only [List.mem_cons, List.not_mem_nil, or_false] at hb
  rintro rfl
  have h1 : a.f1 = i := by rcases h with rfl | rfl <;> rfl
  have h2 : a.f1 = n := by rcases hb with rfl | rfl <;> rfl
  omega
theorem chgS_perm (g : List Tk) (st : List Int) : (chgS g st).Perm (chgN g st g.length) := List.mergeSort_perm _ _
theorem chgS_nodup (g : List Tk) (st : List Int) : (chgS g st).Nodup := (chgS_perm g st).nodup_iff.2 (nodup_chgN g st _)
theorem chgN_len (g : List Tk) (st : List Int) : ∀ n, (chgN g st n).length = 2 * n
 | 0 => rfl
 | n + 1 => by
  unfold chgN
  rw [List.length_append, chgN_len g st n]
  simp
  omega
theorem chgS_len (g : List Tk) (st : List Int) : (chgS g st).length = 2 * g.length := by rw [(chgS_perm g st).length_eq, chgN_len]
theorem chgS_sorted (g : List Tk) (st : List Int) : (chgS g st).Pairwise fun a b => ¬ ltE b a := by
 have h := List.pairwise_mergeSort (le := fun x y => !ltEB y x) (fun a b c h1 h2 => by
  simp only [ltEB, Bool.not_eq_true', decide_eq_false_iff_not] at *
  intro h
  by_cases hab : ltE a b
  ·
   exact h2 (ltE_trans h hab)
  ·
   obtain rfl := ltE_total hab h1
   exact h2 h) (fun a b => by
  simp only [ltEB, Bool.or_eq_true, Bool.not_eq_true', decide_eq_false_iff_not]
  by_cases hab : ltE a b
  ·
   exact .inl (fun h => ltE_irrefl _ (ltE_trans hab h))
  ·
   exact .inr hab) (chgN g st g.length)
 refine List.Pairwise.imp (fun h => ?_) h
 simpa [ltEB] using h
theorem mem_chgS {g : List Tk} {st : List Int} {x : Ev} : x ∈ chgS g st ↔ ∃ i, i < g.length ∧ (x = chB st i ∨ x = chO g st i) := by
 rw [(chgS_perm g st).mem_iff, mem_chgN]
theorem ahead_of {C l1 l2 : List Ev} {e : Ev} (hC : C = l1 ++ e :: l2) (hs : C.Pairwise fun a b => ¬ ltE b a) (hn : C.Nodup) : C.filter (fun x => ltEB x e) = l1 := by
 subst hC
 rw [List.filter_append, List.filter_cons]
 obtain ⟨p1, p2, p3⟩ := List.pairwise_append.1 hs
 obtain ⟨p4, p5⟩ := List.pairwise_cons.1 p2
 rw [List.nodup_append] at hn
 have h1 : l1.filter (fun x => ltEB x e) = l1 := by
  rw [List.filter_eq_self]
  intro a ha
  unfold ltEB
  apply decide_eq_true
  have h2 := p3 a ha e List.mem_cons_self
  by_cases hae : ltE a e
  ·
   exact hae
  ·
   exact absurd (ltE_total hae h2) (hn.2.2 a ha e List.mem_cons_self)
 have h2 : l2.filter (fun x => ltEB x e) = [] := by
  rw [List.filter_eq_nil_iff]
  intro a ha
  have := p4 a ha
  simpa [ltEB] using this
 rw [h1, h2, if_neg (by simp [ltEB, ltE_irrefl])]
 simp
theorem perm_sum {l1 l2 : List Int} (h : l1.Perm l2) : l1.sum = l2.sum := by
 induction h with
 | nil => rfl
 | cons x _ ih => simp [ih]
 | swap x y l => simp; omega
 | trans _ _ a b => rw [a, b]
def sgn (e : Ev) : Int := if e.f2 then -1 else 1
def unU (g : List Tk) (p : Int) (e : Ev) : Int := if (rdTk g e.f1.toNat).f2 = p then sgn e * (rdTk g e.f1.toNat).f3 else 0
def cOf (g : List Tk) (l : List Ev) : Ct := ⟨(l.map sgn).sum, fun p => (l.map (unU g p)).sum⟩
def dStep (d : Nat) (e : Ev) : Nat := if e.f2 then d ||| 2 ^ e.f1.toNat else d
def dOf (l : List Ev) : Nat := l.foldl dStep 0
theorem dOf_snoc (l : List Ev) (e : Ev) : dOf (l ++ [e]) = dStep (dOf l) e := by
 unfold dOf
 rw [List.foldl_append]
 rfl
theorem dOf_bit (j : Nat) : ∀ (l : List Ev) (d : Nat), (l.foldl dStep d).testBit j = (d.testBit j || l.any fun e => e.f2 && decide (e.f1.toNat = j))
 | [], d => by simp
 | e :: l, d => by
  rw [List.foldl_cons, dOf_bit j l, List.any_cons]
  unfold dStep
  cases e.f2
  ·
   simp
  ·
   rw [if_pos rfl, or_bit]
   cases d.testBit j <;> simp
theorem cOf_snoc {g : List Tk} {p : Nat} {l : List Ev} {e : Ev} (hp : (rdTk g e.f1.toNat).f2 = (p : Int)) : cOf g (l ++ [e]) = (cOf g l).add p (rdTk g e.f1.toNat).f3 (sgn e) := by
 unfold cOf Ct.add
 simp only [List.map_append, List.map_cons, List.map_nil, List.sum_append, List.sum_cons, List.sum_nil, Int.add_zero]
 congr 1
 funext j
 unfold unU
 rw [hp]
 by_cases h : j = p
 ·
  subst h
  rw [if_pos rfl, if_pos rfl]
 ·
  rw [if_neg h, if_neg (fun e => h (by omega)), Int.add_zero]
def okE (g : List Tk) (ns : List Nat) (rm : List Int) (wk : Int) (l : List Ev) (e : Ev) : Bool :=
 e.f2 || (decide (diff (ns.getD e.f1.toNat 0) (dOf l) = 0) && (cOf g l).can (rdTk g e.f1.toNat).f2.toNat (rdTk g e.f1.toNat).f3 rm wk)
def zEvD : Ev := ⟨0, 0, false⟩
def okAllB (g : List Tk) (ns : List Nat) (rm : List Int) (wk : Int) (C : List Ev) : Bool := (List.range C.length).all fun q => okE g ns rm wk (C.take q) (rdEv C q)
def startsB (g : List Tk) (ns : List Nat) (rm : List Int) (wk : Int) (st : List Int) : Bool := okAllB g ns rm wk (chgS g st)
def sumF (F : Ev → Int) (P : Ev → Bool) (x : Ev) : Int := if P x then F x else 0
theorem filt_sum (F : Ev → Int) (P : Ev → Bool) (g : List Tk) (st : List Int) : ∀ n, (((chgN g st n).filter P).map F).sum = sumTo (fun i => sumF F P (chB st i) + sumF F P (chO g st i)) n
 | 0 => rfl
 | n + 1 => by
  unfold chgN sumTo
  rw [List.filter_append, List.map_append, List.sum_append, filt_sum F P g st n]
  congr 1
  simp only [List.filter_cons, List.filter_nil]
  unfold sumF
  by_cases h1 : P (chB st n) = true <;> by_cases h2 : P (chO g st n) = true <;> simp [h1, h2]
def actB (g : List Tk) (st : List Int) (i k : Nat) : Bool := (decide (st.getD k 0 < st.getD i 0) || (decide (st.getD k 0 = st.getD i 0) && decide (k < i))) && decide (st.getD i 0 < st.getD k 0 + (rdTk g k).f0)
theorem lt_BB {st : List Int} {i k : Nat} : ltE (chB st k) (chB st i) ↔ st.getD k 0 < st.getD i 0 ∨ (st.getD k 0 = st.getD i 0 ∧ k < i) := by
 unfold ltE chB
 simp
theorem lt_OB {g : List Tk} {st : List Int} {i k : Nat} : ltE (chO g st k) (chB st i) ↔ st.getD k 0 + (rdTk g k).f0 ≤ st.getD i 0 := by
 unfold ltE chO chB
 simp only [true_and]
 constructor
 ·
  rintro (h | ⟨h, _⟩) <;> omega
 ·
  intro h
  by_cases hc : st.getD k 0 + (rdTk g k).f0 < st.getD i 0
  ·
   exact .inl hc
  ·
   exact .inr ⟨by omega, .inl trivial⟩
theorem sgn_ahead {g : List Tk} (hok : TOk g) {st : List Int} {i k : Nat} (hk : k < g.length) : sumF sgn (fun x => ltEB x (chB st i)) (chB st k) + sumF sgn (fun x => ltEB x (chB st i)) (chO g st k) = if actB g st i k then 1 else 0 := by
 have ht := hok.2.2.2.2 k hk
 have e1 : ltEB (chB st k) (chB st i) = (decide (st.getD k 0 < st.getD i 0) || (decide (st.getD k 0 = st.getD i 0) && decide (k < i))) := by
  unfold ltEB
  rw [Bool.eq_iff_iff, decide_eq_true_iff, lt_BB]
  simp
 have e2 : ltEB (chO g st k) (chB st i) = decide (st.getD k 0 + (rdTk g k).f0 ≤ st.getD i 0) := by
  unfold ltEB
  rw [decide_eq_decide, lt_OB]
 unfold sumF actB
 simp only [e1, e2]
 have s1 : sgn (chB st k) = 1 := rfl
 have s2 : sgn (chO g st k) = -1 := rfl
 rw [s1, s2]
 by_cases h1 : st.getD k 0 + (rdTk g k).f0 ≤ st.getD i 0
 ·
  have h2 : st.getD k 0 < st.getD i 0 := by omega
  rw [decide_eq_true h1, decide_eq_true h2, decide_eq_false (show ¬ st.getD i 0 < st.getD k 0 + (rdTk g k).f0 by omega)]
  simp
 ·
  rw [decide_eq_false h1, decide_eq_true (show st.getD i 0 < st.getD k 0 + (rdTk g k).f0 by omega)]
  simp
theorem un_ahead {g : List Tk} (hok : TOk g) {st : List Int} {i k : Nat} (p : Int) (hk : k < g.length) : sumF (unU g p) (fun x => ltEB x (chB st i)) (chB st k) + sumF (unU g p) (fun x => ltEB x (chB st i)) (chO g st k) = if actB g st i k && decide ((rdTk g k).f2 = p) then (rdTk g k).f3 else 0 := by
 have h := sgn_ahead hok (st := st) (i := i) hk
 unfold sumF at h ⊢
 simp only [] at h ⊢
 have u1 : unU g p (chB st k) = if (rdTk g k).f2 = p then (rdTk g k).f3 else 0 := by
  unfold unU
  show (if (rdTk g ((k : Nat) : Int).toNat).f2 = p then 1 * (rdTk g ((k : Nat) : Int).toNat).f3 else 0) = _
  rw [Int.toNat_natCast, Int.one_mul]
 have u2 : unU g p (chO g st k) = if (rdTk g k).f2 = p then -(rdTk g k).f3 else 0 := by
  unfold unU
  show (if (rdTk g ((k : Nat) : Int).toNat).f2 = p then (-1) * (rdTk g ((k : Nat) : Int).toNat).f3 else 0) = _
  rw [Int.toNat_natCast]
  split <;> omega
 have s1 : sgn (chB st k) = 1 := rfl
 have s2 : sgn (chO g st k) = -1 := rfl
 rw [s1, s2] at h
 rw [u1, u2]
 by_cases h4 : (rdTk g k).f2 = p
 ·
  rw [if_pos h4, if_pos h4, decide_eq_true h4, Bool.and_true]
  by_cases h1 : ltEB (chB st k) (chB st i) = true <;> by_cases h2 : ltEB (chO g st k) (chB st i) = true <;> by_cases h3 : actB g st i k = true <;> simp [h1, h2, h3] at h ⊢ <;> omega
 ·
  simp [h4]
def actS (g : List Tk) (st : List Int) (i : Nat) : List Nat := (List.range g.length).filter (actB g st i)
theorem sumTo_count {P : Nat → Bool} : ∀ n, sumTo (fun k => if P k then 1 else 0) n = (((List.range n).filter P).length : Nat)
 | 0 => rfl
 | n + 1 => by
  unfold sumTo
  rw [sumTo_count n, List.range_succ, List.filter_append]
  cases h : P n <;> simp [h]
theorem sumTo_used {g : List Tk} {P : Nat → Bool} {p : Int} : ∀ n, sumTo (fun k => if P k && decide ((rdTk g k).f2 = p) then (rdTk g k).f3 else 0) n = usedS g ((List.range n).filter P) p
 | 0 => rfl
 | n + 1 => by
  unfold sumTo
  rw [sumTo_used n, List.range_succ, List.filter_append]
  cases h : P n
  ·
   simp [h]
  ·
   rw [show List.filter P [n] = [n] by simp [h], usedS_snoc]
   simp [h]
theorem sumTo_congr {f h : Nat → Int} : ∀ n, (∀ i, i < n → f i = h i) → sumTo f n = sumTo h n
 | 0, _ => rfl
 | n + 1, hh => by
  unfold sumTo
  rw [sumTo_congr n (fun i hi => hh i (by omega)), hh n (by omega)]
theorem ahead_sum {g : List Tk} {st : List Int} {l1 l2 : List Ev} {e : Ev} (hC : chgS g st = l1 ++ e :: l2) (F : Ev → Int) : (l1.map F).sum = sumTo (fun k => sumF F (fun x => ltEB x e) (chB st k) + sumF F (fun x => ltEB x e) (chO g st k)) g.length := by
 have h := ahead_of hC (chgS_sorted g st) (chgS_nodup g st)
 rw [← filt_sum, ← h]
 exact perm_sum (((chgS_perm g st).filter _).map F)
theorem cOf_ahead {g : List Tk} (hok : TOk g) {st : List Int} {l1 l2 : List Ev} {i : Nat} (hC : chgS g st = l1 ++ chB st i :: l2) : (cOf g l1).t = ((actS g st i).length : Nat) ∧ ∀ p : Nat, (cOf g l1).u p = usedS g (actS g st i) p := by
 constructor
 ·
  show (l1.map sgn).sum = _
  rw [ahead_sum hC sgn, sumTo_congr _ (fun k hk => sgn_ahead hok hk), sumTo_count]
  rfl
 ·
  intro p
  show (l1.map (unU g p)).sum = _
  rw [ahead_sum hC (unU g p), sumTo_congr _ (fun k hk => un_ahead hok (p : Int) hk), sumTo_used]
  rfl
theorem dOf_ahead {g : List Tk} {st : List Int} {l1 l2 : List Ev} {i : Nat} (hC : chgS g st = l1 ++ chB st i :: l2) (j : Nat) : (dOf l1).testBit j = decide (j < g.length ∧ st.getD j 0 + (rdTk g j).f0 ≤ st.getD i 0) := by
 unfold dOf
 rw [dOf_bit, Nat.zero_testBit, Bool.false_or, Bool.eq_iff_iff, List.any_eq_true, decide_eq_true_iff, ← ahead_of hC (chgS_sorted g st) (chgS_nodup g st)]
 constructor
 ·
  rintro ⟨x, hx, h⟩
  rw [List.mem_filter] at hx
  rw [Bool.and_eq_true, decide_eq_true_iff] at h
  obtain ⟨k, hk, hh⟩ := mem_chgS.1 hx.1
  rcases hh with rfl | rfl
  ·
   exact absurd h.1 (by simp [chB])
  ·
   have e : k = j := by have := h.2; simpa [chO] using this
   subst e
   exact ⟨hk, lt_OB.1 (of_decide_eq_true hx.2)⟩
 ·
  rintro ⟨hj, h⟩
  refine ⟨chO g st j, List.mem_filter.2 ⟨mem_chgS.2 ⟨j, hj, .inr rfl⟩, decide_eq_true (lt_OB.2 h)⟩, ?_⟩
  simp [chO]
def canAt (g : List Tk) (rm : List Int) (wk : Int) (st : List Int) (i : Nat) : Prop :=
 (∀ k : Nat, (k : Int) ∈ (rdTk g i).f1 → st.getD k 0 + (rdTk g k).f0 ≤ st.getD i 0) ∧ ((actS g st i).length : Int) < wk ∧ usedS g (actS g st i) (rdTk g i).f2 + (rdTk g i).f3 ≤ rm.getD (rdTk g i).f2.toNat 0
theorem rdEv_of {C : List Ev} {q : Nat} (hq : q < C.length) : C = C.take q ++ rdEv C q :: C.drop (q + 1) := by
 have : rdEv C q = C[q] := by
  unfold rdEv
  rw [List.getD_eq_getElem?_getD, List.getElem?_eq_getElem hq]
  rfl
 rw [this, ← List.drop_eq_getElem_cons hq, List.take_append_drop]
theorem okE_begin {g : List Tk} {ns : List Nat} (hg : graphN g = some ns) {rm : List Int} {wk : Int} {st : List Int} {l1 l2 : List Ev} {i : Nat} (hi : i < g.length) (hC : chgS g st = l1 ++ chB st i :: l2) : okE g ns rm wk l1 (chB st i) = true ↔ canAt g rm wk st i := by
 have hok := specValid_TOk (graphN_spec hg)
 obtain ⟨h1, h2⟩ := cOf_ahead hok hC
 have h3 := dOf_ahead hC
 have hp := hok.2.2.1 i
 unfold okE canAt
 show (false || (decide (diff (ns.getD ((i : Nat) : Int).toNat 0) (dOf l1) = 0) && (cOf g l1).can (rdTk g ((i : Nat) : Int).toNat).f2.toNat (rdTk g ((i : Nat) : Int).toNat).f3 rm wk)) = true ↔ _
 rw [Int.toNat_natCast, Bool.false_or, Bool.and_eq_true, decide_eq_true_iff, diff_zero]
 unfold Ct.can
 rw [Bool.and_eq_true, decide_eq_true_iff, decide_eq_true_iff, h1, h2, show (((rdTk g i).f2.toNat : Nat) : Int) = (rdTk g i).f2 by omega]
 have hn : (∀ k, (ns.getD i 0).testBit k = true → (dOf l1).testBit k = true) ↔ ∀ k : Nat, (k : Int) ∈ (rdTk g i).f1 → st.getD k 0 + (rdTk g k).f0 ≤ st.getD i 0 := by
  constructor
  ·
   intro h k hk
   have := h k (by rw [need_bit hg hi]; exact decide_eq_true hk)
   rw [h3] at this
   exact (of_decide_eq_true this).2
  ·
   intro h k hk
   rw [need_bit hg hi] at hk
   have hk := of_decide_eq_true hk
   have hl := spec_needs_in (graphN_spec hg) i hi _ hk
   rw [h3]
   exact decide_eq_true ⟨by omega, h k hk⟩
 rw [hn]
theorem startsB_iff {g : List Tk} {ns : List Nat} (hg : graphN g = some ns) {rm : List Int} {wk : Int} {st : List Int} : startsB g ns rm wk st = true ↔ ∀ i, i < g.length → canAt g rm wk st i := by
 unfold startsB okAllB
 rw [List.all_eq_true]
 constructor
 ·
  intro h i hi
  have hm : chB st i ∈ chgS g st := mem_chgS.2 ⟨i, hi, .inl rfl⟩
  obtain ⟨q, hq, e⟩ := List.getElem_of_mem hm
  have h1 := h q (List.mem_range.2 hq)
  have e2 : rdEv (chgS g st) q = chB st i := by
   unfold rdEv
   rw [List.getD_eq_getElem?_getD, List.getElem?_eq_getElem hq]
   exact e
  have hC := rdEv_of hq
  rw [e2] at h1 hC
  exact (okE_begin hg hi hC).1 h1
 ·
  intro h q hq
  have hq := List.mem_range.1 hq
  have hC := rdEv_of hq
  have hm : rdEv (chgS g st) q ∈ chgS g st := by
   unfold rdEv
   rw [List.getD_eq_getElem?_getD, List.getElem?_eq_getElem hq]
   exact List.getElem_mem _
  obtain ⟨i, hi, hh⟩ := mem_chgS.1 hm
  rcases hh with e | e
  ·
   rw [e] at hC ⊢
   exact (okE_begin hg hi hC).2 (h i hi)
  ·
   rw [e]
   rfl
def runOk (g : List Tk) (rm : List Int) (wk : Int) (st : List Int) (i : Nat) : Prop :=
 (∀ k : Nat, (k : Int) ∈ (rdTk g i).f1 → st.getD k 0 + (rdTk g k).f0 ≤ st.getD i 0) ∧ ((runS g st (st.getD i 0)).length : Int) ≤ wk ∧ ∀ p : Nat, p < 3 → usedS g (runS g st (st.getD i 0)) p ≤ rm.getD p 0
theorem usedS_filter (g : List Tk) (p : Int) {P Q : Nat → Bool} (hok : TOk g) : ∀ n, (∀ k, k < n → P k = true → (rdTk g k).f2 = p → Q k = true) → usedS g ((List.range n).filter P) p ≤ usedS g ((List.range n).filter Q) p := by
 intro n h
 rw [← sumTo_used, ← sumTo_used]
 refine sumTo_le n (fun k hk => ?_)
 have hb := hok.2.2.2.1 k
 by_cases h1 : P k = true
 ·
  by_cases h2 : (rdTk g k).f2 = p
  ·
   rw [h1, h k hk h1 h2]
   exact Int.le_refl _
  ·
   simp [h2]
 ·
  have : P k = false := by simpa using h1
  rw [this]
  simp only [Bool.false_and, Bool.false_eq_true, if_false]
  split <;> omega
theorem actB_iff {g : List Tk} {st : List Int} {i k : Nat} : actB g st i k = true ↔ (st.getD k 0 < st.getD i 0 ∨ (st.getD k 0 = st.getD i 0 ∧ k < i)) ∧ st.getD i 0 < st.getD k 0 + (rdTk g k).f0 := by
 unfold actB
 rw [Bool.and_eq_true, Bool.or_eq_true, Bool.and_eq_true, decide_eq_true_iff, decide_eq_true_iff, decide_eq_true_iff, decide_eq_true_iff]
theorem runB_iff {g : List Tk} {st : List Int} {now : Int} {k : Nat} : runB g st now k = true ↔ st.getD k 0 ≤ now ∧ now < st.getD k 0 + (rdTk g k).f0 := by
 unfold runB
 rw [Bool.and_eq_true, decide_eq_true_iff, decide_eq_true_iff]
theorem act_self {g : List Tk} {st : List Int} {i : Nat} (hi : i < g.length) : ((actS g st i).length : Int) + 1 = (((List.range g.length).filter fun k => actB g st i k || decide (k = i)).length : Nat) ∧ ∀ p, usedS g (actS g st i) p + (if (rdTk g i).f2 = p then (rdTk g i).f3 else 0) = usedS g ((List.range g.length).filter fun k => actB g st i k || decide (k = i)) p := by
 have hs : actB g st i i = false := by
  cases h : actB g st i i with
  | false => rfl
  | true => have := actB_iff.1 h; omega
 have key : ∀ (f : Nat → Int) n, i < n → sumTo (fun k => if actB g st i k then f k else 0) n + f i = sumTo (fun k => if actB g st i k || decide (k = i) then f k else 0) n := by
  intro f n
  induction n with
  | zero => intro h; omega
  | succ n ih =>
   intro h
   unfold sumTo
   by_cases hin : i < n
   ·
    have := ih hin
    rw [show decide (n = i) = false from decide_eq_false (by omega), Bool.or_false]
    omega
   ·
    obtain rfl : i = n := by omega
    rw [hs, decide_eq_true rfl, Bool.false_or]
    have : sumTo (fun k => if actB g st i k then f k else 0) i = sumTo (fun k => if actB g st i k || decide (k = i) then f k else 0) i := sumTo_congr i (fun k hk => by rw [decide_eq_false (show ¬ k = i by omega), Bool.or_false])
    rw [this]
    simp
 constructor
 ·
  unfold actS
  rw [← sumTo_count, ← sumTo_count]
  exact key (fun _ => 1) _ hi
 ·
  intro p
  unfold actS
  rw [← sumTo_used, ← sumTo_used]
  have h := key (fun k => if (rdTk g k).f2 = p then (rdTk g k).f3 else 0) _ hi
  have e : ∀ (P : Nat → Bool) n, sumTo (fun k => if P k && decide ((rdTk g k).f2 = p) then (rdTk g k).f3 else 0) n = sumTo (fun k => if P k then (if (rdTk g k).f2 = p then (rdTk g k).f3 else 0) else 0) n := fun P n => sumTo_congr n (fun k _ => by
   cases P k <;> simp)
  rw [e, e]
  exact h
theorem last_of {st : List Int} {P : Nat → Bool} : ∀ n, (∃ k, k < n ∧ P k = true) → ∃ j, j < n ∧ P j = true ∧ ∀ k, k < n → P k = true → st.getD k 0 < st.getD j 0 ∨ (st.getD k 0 = st.getD j 0 ∧ k ≤ j)
 | 0, ⟨_, h, _⟩ => absurd h (Nat.not_lt_zero _)
 | n + 1, h => by
  by_cases hc : ∃ k, k < n ∧ P k = true
  ·
   obtain ⟨j, h1, h2, h3⟩ := last_of n hc
   by_cases hn : P n = true
   ·
    by_cases hl : st.getD n 0 < st.getD j 0
    ·
     refine ⟨j, by omega, h2, fun k hk hp => ?_⟩
     by_cases hkn : k < n
     ·
      exact h3 k hkn hp
     ·
      obtain rfl : k = n := by omega
      exact .inl hl
    ·
     refine ⟨n, by omega, hn, fun k hk hp => ?_⟩
     by_cases hkn : k < n
     ·
      rcases h3 k hkn hp with h | ⟨h, _⟩
      ·
       by_cases he : st.getD k 0 = st.getD n 0
       ·
        exact .inr ⟨he, by omega⟩
       ·
        exact .inl (by omega)
      ·
       by_cases he : st.getD k 0 = st.getD n 0
       ·
        exact .inr ⟨he, by omega⟩
       ·
        exact .inl (by omega)
     ·
      obtain rfl : k = n := by omega
      exact .inr ⟨rfl, Nat.le_refl _⟩
   ·
    refine ⟨j, by omega, h2, fun k hk hp => ?_⟩
    by_cases hkn : k < n
    ·
     exact h3 k hkn hp
    ·
     obtain rfl : k = n := by omega
     exact absurd hp hn
  ·
   obtain ⟨k, hk, hp⟩ := h
   have hkn : k = n := by
    by_cases hk' : k < n
    ·
     exact absurd ⟨k, hk', hp⟩ hc
    ·
     omega
   subst hkn
   refine ⟨k, by omega, hp, fun q hq hpq => ?_⟩
   by_cases hqn : q < k
   ·
    exact absurd ⟨q, hqn, hpq⟩ hc
   ·
    obtain rfl : q = k := by omega
    exact .inr ⟨rfl, Nat.le_refl _⟩
theorem filter_len_le {P Q : Nat → Bool} (n : Nat) (h : ∀ k, k < n → P k = true → Q k = true) : ((List.range n).filter P).length ≤ ((List.range n).filter Q).length := by
 have h1 := sumTo_count (P := P) n
 have h2 := sumTo_count (P := Q) n
 have h3 := sumTo_le (f := fun k => if P k then 1 else 0) (h := fun k => if Q k then 1 else 0) n (fun k hk => by
  by_cases hp : P k = true
  ·
   rw [hp, h k hk hp]
   exact Int.le_refl _
  ·
   have : P k = false := by simpa using hp
   rw [this]
   simp only [Bool.false_eq_true, if_false]
   split <;> omega)
 omega
theorem can_run {g : List Tk} (hok : TOk g) {rm : List Int} (hrm : ∀ p, p < 3 → 4 ≤ rm.getD p 0) {wk : Int} {st : List Int} : (∀ i, i < g.length → canAt g rm wk st i) ↔ ∀ i, i < g.length → runOk g rm wk st i := by
 constructor
 ·
  intro h i hi
  have hti := hok.2.2.2.2 i hi
  obtain ⟨j, hj, hp, hl⟩ := last_of (st := st) (P := runB g st (st.getD i 0)) g.length ⟨i, hi, runB_iff.2 (by omega)⟩
  have hjr := runB_iff.1 hp
  refine ⟨(h i hi).1, ?_, fun p hp3 => ?_⟩
  ·
   have h1 := (act_self (st := st) hj).1
   have h2 := (h j hj).2.1
   have h3 := filter_len_le (P := runB g st (st.getD i 0)) (Q := fun k => actB g st j k || decide (k = j)) g.length (fun k hk hpk => by
    have hr := runB_iff.1 hpk
    by_cases hkj : k = j
    ·
     rw [decide_eq_true hkj, Bool.or_true]
    ·
     rw [actB_iff.2 ?_]
     ·
      rfl
     ·
      rcases hl k hk hpk with hh | hh
      ·
       exact ⟨.inl hh, by omega⟩
      ·
       exact ⟨.inr ⟨hh.1, by omega⟩, by omega⟩)
   unfold runS
   omega
  ·
   by_cases hex : ∃ k, k < g.length ∧ (runB g st (st.getD i 0) k && decide ((rdTk g k).f2 = p)) = true
   ·
    obtain ⟨q, hq, hqp, hql⟩ := last_of (st := st) (P := fun k => runB g st (st.getD i 0) k && decide ((rdTk g k).f2 = p)) g.length hex
    rw [Bool.and_eq_true, decide_eq_true_iff] at hqp
    have hqr := runB_iff.1 hqp.1
    have h1 := (act_self (st := st) hq).2 p
    rw [if_pos hqp.2] at h1
    have h2 := (h q hq).2.2
    rw [hqp.2, Int.toNat_natCast] at h2
    have h3 := usedS_filter g p (P := runB g st (st.getD i 0)) (Q := fun k => actB g st q k || decide (k = q)) hok g.length (fun k hk hpk hpp => by
     have hr := runB_iff.1 hpk
     by_cases hkq : k = q
     ·
      rw [decide_eq_true hkq, Bool.or_true]
     ·
      rw [actB_iff.2 ?_]
      ·
       rfl
      ·
       rcases hql k hk (by rw [hpk, decide_eq_true hpp]; rfl) with hh | hh
       ·
        exact ⟨.inl hh, by omega⟩
       ·
        exact ⟨.inr ⟨hh.1, by omega⟩, by omega⟩)
    unfold runS
    omega
   ·
    have h3 := usedS_filter g p (P := runB g st (st.getD i 0)) (Q := fun _ => false) hok g.length (fun k hk hpk hpp => absurd ⟨k, hk, by rw [hpk, decide_eq_true hpp]; rfl⟩ hex)
    have h4 := hrm p hp3
    have h5 : usedS g ((List.range g.length).filter fun _ => false) p = 0 := by
     rw [show (List.range g.length).filter (fun _ => false) = [] by simp]
     rfl
    unfold runS
    omega
 ·
  intro h i hi
  obtain ⟨h1, h2, h3⟩ := h i hi
  have hti := hok.2.2.2.2 i hi
  have hpi := hok.2.2.1 i
  have hsub : ∀ k, k < g.length → (actB g st i k || decide (k = i)) = true → runB g st (st.getD i 0) k = true := fun k hk hh => by
   rw [Bool.or_eq_true, decide_eq_true_iff] at hh
   rcases hh with hh | hh
   ·
    have := actB_iff.1 hh
    exact runB_iff.2 (by omega)
   ·
    subst hh
    exact runB_iff.2 (by omega)
  have ha := act_self (st := st) hi
  refine ⟨h1, ?_, ?_⟩
  ·
   have := filter_len_le g.length hsub
   have e := ha.1
   unfold runS at h2
   omega
  ·
   have e := ha.2 (rdTk g i).f2
   rw [if_pos rfl] at e
   have := usedS_filter g (rdTk g i).f2 (P := fun k => actB g st i k || decide (k = i)) (Q := runB g st (st.getD i 0)) hok g.length (fun k hk hp _ => hsub k hk hp)
   have h4 := h3 (rdTk g i).f2.toNat (by omega)
   rw [show (((rdTk g i).f2.toNat : Nat) : Int) = (rdTk g i).f2 by omega] at h4
   unfold runS at h4
   omega
end Go.Proofs.YtlapphhcficbjaaGreatDoor

namespace Go.Proofs.YtlapphhcficbjaaGreatDoor
set_option linter.unusedVariables false
set_option linter.unusedSimpArgs false
open Go.RowKit Go.Shelf Bits
def vRunB (g : List Tk) (rm : List Int) (run : List Nat) : Bool := specValid g && (roomB rm && (ascB (ints run) && (allInB (ints run) 0 (g.length - 1) && (List.range 3).all fun p => decide (usedS g run (p : Nat) ≤ rm.getD p 0))))
def needsOkB (g : List Tk) (st : List Int) (i : Nat) : Bool := (rdTk g i).f1.all fun x => decide (st.getD x.toNat 0 + (rdTk g x.toNat).f0 ≤ st.getD i 0)
def startOkB (g : List Tk) (rm : List Int) (wk : Int) (st : List Int) (i : Nat) : Bool :=
 needsOkB g st i && (decide (((runS g st (st.getD i 0)).length : Int) ≤ wk) && vRunB g rm (runS g st (st.getD i 0)))
def vStB (g : List Tk) (rm : List Int) (wk : Int) (st : List Int) : Bool := specValid g && (roomB rm && (inB wk 1 4 && (decide (st.length = g.length) && (allInB st 0 200 && (List.range g.length).all (startOkB g rm wk st)))))
def stN (g : List Tk) (rm : List Int) (wk : Int) (st : List Int) : Bool := match graphN g with
 | some ns => placeB rm wk && (decide (st.length = g.length) && (allInB st 0 200 && startsB g ns rm wk st))
 | none => false
theorem ascB_filter (P : Nat → Bool) (n : Nat) : ascB (ints ((List.range n).filter P)) = true := by
 have h : ((List.range n).filter P).Pairwise (· < ·) := List.Pairwise.filter P List.pairwise_lt_range
 generalize (List.range n).filter P = L at h
 unfold ascB
 rw [List.all_eq_true]
 intro j hj
 have hj := List.mem_range.1 hj
 rw [ints_length] at hj
 rw [ints_getD, ints_getD]
 have := (List.pairwise_iff_getElem.1 h) j (j + 1) (by omega) (by omega) (by omega)
 rw [List.getD_eq_getElem?_getD, List.getD_eq_getElem?_getD, List.getElem?_eq_getElem (show j < L.length by omega), List.getElem?_eq_getElem (show j + 1 < L.length by omega)]
 exact decide_eq_true (by simpa using this)
theorem runS_in (g : List Tk) (st : List Int) (now : Int) : allInB (ints (runS g st now)) 0 (g.length - 1) = true := by
 unfold allInB
 rw [List.all_eq_true]
 intro x hx
 unfold ints at hx
 obtain ⟨k, hk, rfl⟩ := List.mem_map.1 hx
 have := (mem_runS.1 hk).1
 refine inB_true.2 ?_
 simp only [Int.ofNat_eq_natCast]
 omega
theorem startOk_iff {g : List Tk} (hv : specValid g = true) {rm : List Int} (hrm : roomB rm = true) {wk : Int} {st : List Int} {i : Nat} (hi : i < g.length) : startOkB g rm wk st i = true ↔ runOk g rm wk st i := by
 unfold startOkB runOk vRunB needsOkB
 rw [hv, hrm, runS_in, show ascB (ints (runS g st (st.getD i 0))) = true from ascB_filter _ _, Bool.true_and, Bool.true_and, Bool.true_and, Bool.true_and, Bool.and_eq_true, Bool.and_eq_true, List.all_eq_true, List.all_eq_true, decide_eq_true_iff]
 have e1 : (∀ x ∈ (rdTk g i).f1, decide (st.getD x.toNat 0 + (rdTk g x.toNat).f0 ≤ st.getD i 0) = true) ↔ ∀ k : Nat, (k : Int) ∈ (rdTk g i).f1 → st.getD k 0 + (rdTk g k).f0 ≤ st.getD i 0 := by
  constructor
  ·
   intro h k hk
   have := of_decide_eq_true (h _ hk)
   rwa [Int.toNat_natCast] at this
  ·
   intro h x hx
   have hin := spec_needs_in hv i hi x hx
   have := h x.toNat (by rw [show ((x.toNat : Nat) : Int) = x by omega]; exact hx)
   exact decide_eq_true this
 have e2 : (∀ p ∈ List.range 3, decide (usedS g (runS g st (st.getD i 0)) (p : Nat) ≤ rm.getD p 0) = true) ↔ ∀ p : Nat, p < 3 → usedS g (runS g st (st.getD i 0)) p ≤ rm.getD p 0 := by
  constructor
  ·
   exact fun h p hp => of_decide_eq_true (h p (List.mem_range.2 hp))
  ·
   exact fun h p hp => decide_eq_true (h p (List.mem_range.1 hp))
 rw [e1, e2]
theorem vSt_iff {g : List Tk} {rm : List Int} {wk : Int} {st : List Int} : vStB g rm wk st = true ↔ specValid g = true ∧ placeB rm wk = true ∧ st.length = g.length ∧ allInB st 0 200 = true ∧ ∀ i, i < g.length → runOk g rm wk st i := by
 unfold vStB placeB
 simp only [Bool.and_eq_true, decide_eq_true_iff, List.all_eq_true, List.mem_range]
 constructor
 ·
  rintro ⟨h1, h2, h3, h4, h5, h6⟩
  exact ⟨h1, ⟨h2, h3⟩, h4, h5, fun i hi => (startOk_iff h1 h2 hi).1 (h6 i hi)⟩
 ·
  rintro ⟨h1, ⟨h2, h3⟩, h4, h5, h6⟩
  exact ⟨h1, h2, h3, h4, h5, fun i hi => (startOk_iff h1 h2 hi).2 (h6 i hi)⟩
theorem st_eq (g : List Tk) (rm : List Int) (wk : Int) (st : List Int) : stN g rm wk st = vStB g rm wk st := by
 rw [Bool.eq_iff_iff, vSt_iff]
 unfold stN
 cases hg : graphN g with
 | none =>
  rw [specValid_eq, hg]
  simp
 | some ns =>
  simp only [Bool.and_eq_true, decide_eq_true_iff]
  rw [startsB_iff hg]
  have hv := graphN_spec hg
  constructor
  ·
   rintro ⟨h1, h2, h3, h4⟩
   have hr := (roomB_facts (placeB_facts h1).1).2
   exact ⟨hv, h1, h2, h3, (can_run (specValid_TOk hv) (fun p hp => (hr p hp).1)).1 h4⟩
  ·
   rintro ⟨_, h1, h2, h3, h4⟩
   have hr := (roomB_facts (placeB_facts h1).1).2
   exact ⟨h1, h2, h3, (can_run (specValid_TOk hv) (fun p hp => (hr p hp).1)).2 h4⟩
structure Valid (g : List Tk) (rm : List Int) (wk : Int) (st : List Int) : Prop where
 v : specValid g = true
 p : placeB rm wk = true
 len : st.length = g.length
 b : ∀ i, i < g.length → 0 ≤ st.getD i 0 ∧ st.getD i 0 ≤ 200
 run : ∀ i, i < g.length → runOk g rm wk st i
theorem vSt_valid {g : List Tk} {rm : List Int} {wk : Int} {st : List Int} (h : vStB g rm wk st = true) : Valid g rm wk st := by
 obtain ⟨h1, h2, h3, h4, h5⟩ := vSt_iff.1 h
 refine ⟨h1, h2, h3, fun i hi => ?_, h5⟩
 unfold allInB at h4
 rw [List.all_eq_true] at h4
 exact inB_true.1 (h4 _ (mem_getD (by omega)))
theorem Valid.ok {g : List Tk} {rm : List Int} {wk : Int} {st : List Int} (h : Valid g rm wk st) : TOk g := specValid_TOk h.v
theorem valid_vSt {g : List Tk} {rm : List Int} {wk : Int} {st : List Int} (h : Valid g rm wk st) : vStB g rm wk st = true := by
 refine vSt_iff.2 ⟨h.v, h.p, h.len, ?_, h.run⟩
 unfold allInB
 exact all_take 0 (fun j hj => inB_true.2 (h.b j (by have := h.len; omega)))
theorem Valid.needs {g : List Tk} {rm : List Int} {wk : Int} {st : List Int} (h : Valid g rm wk st) : ∀ k, k < g.length → ∀ i : Nat, (i : Int) ∈ (rdTk g k).f1 → st.getD i 0 + (rdTk g i).f0 ≤ st.getD k 0 := fun k hk i hi => (h.run k hk).1 i hi
theorem getD_out {l : List Int} {i : Nat} (h : ¬ i < l.length) : l.getD i 0 = 0 := by
 rw [List.getD_eq_getElem?_getD, List.getElem?_eq_none (by omega)]
 rfl
theorem Valid.sok {g : List Tk} {rm : List Int} {wk : Int} {st : List Int} (h : Valid g rm wk st) : SOk st := fun i => by
 by_cases hi : i < g.length
 ·
  have := h.b i hi
  omega
 ·
  rw [getD_out (by have := h.len; omega)]
  omega
theorem allIn_sok {st : List Int} (h : allInB st 0 200 = true) : SOk st := fun i => by
 by_cases hi : i < st.length
 ·
  unfold allInB at h
  rw [List.all_eq_true] at h
  have := inB_true.1 (h _ (mem_getD hi))
  omega
 ·
  rw [getD_out hi]
  omega
end Go.Proofs.YtlapphhcficbjaaGreatDoor

namespace Go.Proofs.YtlapphhcficbjaaGreatDoor
set_option linter.unusedVariables false
set_option linter.unusedSimpArgs false
open Go.RowKit Go.Shelf Bits
def etS (g : List Tk) (rm : List Int) (wk : Int) (st : List Int) : Int := if vStB g rm wk st then endS g st g.length else -1
def raS (g : List Tk) (rm : List Int) (wk : Int) (st : List Int) (now : Int) : List Nat := if vStB g rm wk st then runS g st now else []
def cancF (g : List Tk) (st : List Int) (now : Int) (i : Nat) : Int := if st.getD i 0 + (rdTk g i).f0 ≤ now then 0 else if st.getD i 0 < now then 1 else 3
def caS (g : List Tk) (rm : List Int) (wk : Int) (st : List Int) (now : Int) : List Int := if vStB g rm wk st && inB now 0 200 then (List.range g.length).map (cancF g st now) else []
def lgS (g : List Tk) (rm : List Int) (wk : Int) (st : List Int) : List Ev := if vStB g rm wk st then chgS g st else []
def lateB (g : List Tk) (st : List Int) (dl : Int) (i : Nat) : Bool := decide (dl - (tailsS g).getD i 0 < st.getD i 0)
def ltS (g : List Tk) (rm : List Int) (wk : Int) (st : List Int) (dl : Int) : List Nat := if vStB g rm wk st && inB dl 0 200 then (List.range g.length).filter (lateB g st dl) else []
def mdS (g : List Tk) (rm : List Int) (wk : Int) (st : List Int) (dl : Int) : Bool := vStB g rm wk st && (inB dl 0 200 && decide (endS g st g.length ≤ dl))
theorem runS_shift {g : List Tk} {st st' : List Int} {d : Int} (h : ∀ i, i < g.length → st'.getD i 0 = st.getD i 0 + d) (now : Int) : runS g st' (now + d) = runS g st now := by
 unfold runS
 apply List.filter_congr
 intro i hi
 rw [Bool.eq_iff_iff, runB_iff, runB_iff, h i (List.mem_range.1 hi)]
 omega
theorem valid_shift {g : List Tk} {rm : List Int} {wk : Int} {st st' : List Int} {d : Int} (h : Valid g rm wk st) (hl : st'.length = g.length) (he : ∀ i, i < g.length → st'.getD i 0 = st.getD i 0 + d) (hb : ∀ i, i < g.length → 0 ≤ st'.getD i 0 ∧ st'.getD i 0 ≤ 200) : Valid g rm wk st' := by
 refine ⟨h.v, h.p, hl, hb, fun i hi => ?_⟩
 obtain ⟨h1, h2, h3⟩ := h.run i hi
 unfold runOk
 rw [he i hi, runS_shift he]
 refine ⟨fun k hk => ?_, h2, h3⟩
 have := spec_needs_in h.v i hi _ hk
 have := h1 k hk
 rw [he k (by omega)]
 omega
theorem valid_more {g : List Tk} {rm rm' : List Int} {wk wk' : Int} {st : List Int} (h : Valid g rm wk st) (hp : placeB rm' wk' = true) (hw : wk ≤ wk') (hr : ∀ p, p < 3 → rm.getD p 0 ≤ rm'.getD p 0) : Valid g rm' wk' st := by
 refine ⟨h.v, hp, h.len, h.b, fun i hi => ?_⟩
 obtain ⟨h1, h2, h3⟩ := h.run i hi
 exact ⟨h1, by omega, fun p hp => by have := h3 p hp; have := hr p hp; omega⟩
theorem endS_some {g : List Tk} {st : List Int} : ∀ n, 0 < n → (∀ i, i < n → 0 ≤ st.getD i 0 + (rdTk g i).f0) → ∃ i, i < n ∧ st.getD i 0 + (rdTk g i).f0 = endS g st n
 | 0, h, _ => absurd h (Nat.lt_irrefl _)
 | n + 1, _, h => by
  by_cases hn : 0 < n
  ·
   obtain ⟨i, hi, he⟩ := endS_some n hn (fun i hi => h i (by omega))
   unfold endS
   by_cases hc : endS g st n ≤ st.getD n 0 + (rdTk g n).f0
   ·
    exact ⟨n, by omega, by omega⟩
   ·
    exact ⟨i, by omega, by omega⟩
  ·
   obtain rfl : n = 0 := by omega
   refine ⟨0, by omega, ?_⟩
   have := h 0 (by omega)
   unfold endS endS
   omega
theorem endS_nonneg (g : List Tk) (st : List Int) : ∀ n, 0 ≤ endS g st n
 | 0 => Int.le_refl _
 | n + 1 => by
  have := endS_nonneg g st n
  unfold endS
  omega
theorem Valid.end_some {g : List Tk} {rm : List Int} {wk : Int} {st : List Int} (h : Valid g rm wk st) (hn : 0 < g.length) : ∃ i, i < g.length ∧ st.getD i 0 + (rdTk g i).f0 = endS g st g.length :=
 endS_some _ hn (fun i hi => by have := h.b i hi; have := h.ok.2.1 i; omega)
theorem Valid.end_pos {g : List Tk} {rm : List Int} {wk : Int} {st : List Int} (h : Valid g rm wk st) (hn : 0 < g.length) : 1 ≤ endS g st g.length := by
 obtain ⟨i, hi, he⟩ := h.end_some hn
 have := h.b i hi
 have := h.ok.2.2.2.2 i hi
 omega
theorem end_shift {g : List Tk} {rm : List Int} {wk : Int} {st st' : List Int} {d : Int} (h : Valid g rm wk st) (h' : Valid g rm wk st') (hn : 0 < g.length) (he : ∀ i, i < g.length → st'.getD i 0 = st.getD i 0 + d) : endS g st' g.length = endS g st g.length + d := by
 obtain ⟨i, hi, e1⟩ := h.end_some hn
 obtain ⟨j, hj, e2⟩ := h'.end_some hn
 have h1 := endS_mono g st j _ hj
 have h2 := endS_mono g st' i _ hi
 rw [he i hi] at h2
 rw [he j hj] at e2
 omega
theorem Valid.runs {g : List Tk} {rm : List Int} {wk : Int} {st : List Int} (h : Valid g rm wk st) (now : Int) : ((runS g st now).length : Int) ≤ wk ∧ ∀ p : Nat, p < 3 → usedS g (runS g st now) p ≤ rm.getD p 0 := by
 have hok := h.ok
 obtain ⟨hr, hw, _⟩ := placeB_facts h.p
 have hr := (roomB_facts hr).2
 by_cases hex : ∃ k, k < g.length ∧ runB g st now k = true
 ·
  obtain ⟨j, hj, hp, hl⟩ := last_of (st := st) (P := runB g st now) g.length hex
  have hjr := runB_iff.1 hp
  obtain ⟨_, h2, h3⟩ := h.run j hj
  have hsub : ∀ k, k < g.length → runB g st now k = true → runB g st (st.getD j 0) k = true := fun k hk hpk => by
   have hkr := runB_iff.1 hpk
   rcases hl k hk hpk with hh | hh
   ·
    exact runB_iff.2 (by omega)
   ·
    exact runB_iff.2 (by omega)
  constructor
  ·
   have := filter_len_le g.length hsub
   unfold runS at h2 ⊢
   omega
  ·
   intro p hp3
   have h4 := usedS_filter g p (P := runB g st now) (Q := runB g st (st.getD j 0)) hok g.length (fun k hk hpk _ => hsub k hk hpk)
   have h5 := h3 p hp3
   unfold runS at h5 ⊢
   omega
 ·
  have e : runS g st now = [] := by
   unfold runS
   rw [List.filter_eq_nil_iff]
   exact fun i hi hpi => hex ⟨i, List.mem_range.1 hi, hpi⟩
  rw [e]
  refine ⟨by simp; omega, fun p hp3 => ?_⟩
  have := (hr p hp3).1
  show (0 : Int) ≤ _
  omega
theorem Valid.run_end {g : List Tk} {rm : List Int} {wk : Int} {st : List Int} (h : Valid g rm wk st) : runS g st (endS g st g.length) = [] ∧ runS g st (-1) = [] ∧ (endS g st g.length ≠ 0 → runS g st (endS g st g.length - 1) ≠ []) := by
 refine ⟨?_, ?_, fun hne => ?_⟩
 ·
  unfold runS
  rw [List.filter_eq_nil_iff]
  intro i hi hp
  have := runB_iff.1 hp
  have := endS_mono g st i _ (List.mem_range.1 hi)
  omega
 ·
  unfold runS
  rw [List.filter_eq_nil_iff]
  intro i hi hp
  have := runB_iff.1 hp
  have := h.b i (List.mem_range.1 hi)
  omega
 ·
  have hn : 0 < g.length := by
   by_cases hn : 0 < g.length
   ·
    exact hn
   ·
    refine absurd ?_ hne
    rw [show g.length = 0 by omega]
    rfl
  obtain ⟨i, hi, he⟩ := h.end_some hn
  have := h.ok.2.2.2.2 i hi
  exact List.ne_nil_of_mem (mem_runS.2 ⟨hi, by omega, by omega⟩)
def clampW (g : List Tk) (st : List Int) (m : Int) (i : Nat) : Int := max 0 (min (rdTk g i).f0 (m - st.getD i 0))
theorem sumTo_mul {a : Nat → Int} {b : Nat → Int} {c : Nat → Int} : ∀ n, (∀ i, i < n → a i + b i = c i) → sumTo a n + sumTo b n = sumTo c n
 | 0, _ => rfl
 | n + 1, h => by
  have h1 := sumTo_mul n (fun i hi => h i (by omega))
  have h2 := h n (by omega)
  unfold sumTo
  omega
theorem work_done {g : List Tk} (hok : TOk g) {st : List Int} (h0 : ∀ i, i < g.length → 0 ≤ st.getD i 0) (wt : Nat → Int) : ∀ m : Nat, sumTo (fun t => sumTo (fun i => if runB g st t i then wt i else 0) g.length) m = sumTo (fun i => wt i * clampW g st m i) g.length
 | 0 => by
  show (0 : Int) = _
  have : sumTo (fun i => wt i * clampW g st (0 : Nat) i) g.length = sumTo (fun _ => 0) g.length := sumTo_congr _ (fun i hi => by
   unfold clampW
   have := h0 i hi
   have := hok.2.1 i
   rw [show max 0 (min (rdTk g i).f0 (((0 : Nat) : Int) - st.getD i 0)) = 0 by omega, Int.mul_zero])
  rw [this]
  have := sumTo_bound (f := fun _ => (0 : Int)) (a := 0) (b := 0) g.length (fun i _ => by omega)
  omega
 | m + 1 => by
  have ih := work_done hok h0 wt m
  show sumTo (fun t => sumTo (fun i => if runB g st t i then wt i else 0) g.length) m + sumTo (fun i => if runB g st (m : Nat) i then wt i else 0) g.length = _
  rw [ih]
  refine sumTo_mul _ (fun i hi => ?_)
  have ht := hok.2.2.2.2 i hi
  have hs := h0 i hi
  unfold clampW
  by_cases hr : runB g st (m : Int) i = true
  ·
   have := runB_iff.1 hr
   rw [if_pos hr, show max 0 (min (rdTk g i).f0 ((m + 1 : Nat) - st.getD i 0)) = max 0 (min (rdTk g i).f0 ((m : Int) - st.getD i 0)) + 1 by omega, Int.mul_add, Int.mul_one]
  ·
   rw [if_neg hr]
   have hn : ¬ (st.getD i 0 ≤ (m : Int) ∧ (m : Int) < st.getD i 0 + (rdTk g i).f0) := fun h => hr (runB_iff.2 h)
   rw [show max 0 (min (rdTk g i).f0 ((m + 1 : Nat) - st.getD i 0)) = max 0 (min (rdTk g i).f0 ((m : Int) - st.getD i 0)) by omega, Int.add_zero]
theorem work_all {g : List Tk} (hok : TOk g) {st : List Int} (h0 : ∀ i, i < g.length → 0 ≤ st.getD i 0) (wt : Nat → Int) {m : Nat} (hm : ∀ i, i < g.length → st.getD i 0 + (rdTk g i).f0 ≤ m) : sumTo (fun t => sumTo (fun i => if runB g st t i then wt i else 0) g.length) m = sumTo (fun i => wt i * (rdTk g i).f0) g.length := by
 rw [work_done hok h0]
 refine sumTo_congr _ (fun i hi => ?_)
 have := hm i hi
 have := hok.2.1 i
 unfold clampW
 rw [show max 0 (min (rdTk g i).f0 ((m : Int) - st.getD i 0)) = (rdTk g i).f0 by omega]
theorem run_sum {g : List Tk} (hok : TOk g) {st : List Int} (h0 : ∀ i, i < g.length → 0 ≤ st.getD i 0) {m : Nat} (hm : ∀ i, i < g.length → st.getD i 0 + (rdTk g i).f0 ≤ m) : sumTo (fun t => ((runS g st (t : Nat)).length : Nat)) m = timeS g := by
 have h := work_all hok h0 (fun _ => 1) hm
 have e : sumTo (fun t => sumTo (fun i => if runB g st (t : Nat) i then 1 else 0) g.length) m = sumTo (fun t => ((runS g st (t : Nat)).length : Nat)) m := sumTo_congr _ (fun t _ => by
  rw [sumTo_count]
  rfl)
 rw [← e, h]
 exact sumTo_congr _ (fun i _ => by rw [Int.one_mul])
theorem run_used {g : List Tk} (hok : TOk g) {st : List Int} (h0 : ∀ i, i < g.length → 0 ≤ st.getD i 0) {m : Nat} (hm : ∀ i, i < g.length → st.getD i 0 + (rdTk g i).f0 ≤ m) (p : Int) : sumTo (fun t => usedS g (runS g st (t : Nat)) p) m = sumTo (fun i => if (rdTk g i).f2 = p then (rdTk g i).f0 * (rdTk g i).f3 else 0) g.length := by
 have h := work_all hok h0 (fun i => if (rdTk g i).f2 = p then (rdTk g i).f3 else 0) hm
 have e : sumTo (fun t => sumTo (fun i => if runB g st (t : Nat) i then (if (rdTk g i).f2 = p then (rdTk g i).f3 else 0) else 0) g.length) m = sumTo (fun t => usedS g (runS g st (t : Nat)) p) m := sumTo_congr _ (fun t _ => by
  unfold runS
  rw [← sumTo_used]
  exact sumTo_congr _ (fun i _ => by cases runB g st (t : Nat) i <;> simp))
 rw [← e, h]
 refine sumTo_congr _ (fun i _ => ?_)
 by_cases hc : (rdTk g i).f2 = p
 ·
  rw [if_pos hc, if_pos hc, Int.mul_comm]
 ·
  rw [if_neg hc, if_neg hc, Int.zero_mul]
theorem tails_ge {g : List Tk} (hv : specValid g = true) {i : Nat} (hi : i < g.length) : (rdTk g i).f0 ≤ (tailsS g).getD i 0 := by
 have hok := specValid_TOk hv
 have key : ∀ (pre : List Nat) (o : List Int), o.length = g.length → ((rdTk g i).f0 ≤ o.getD i 0 ∨ ∃ p ∈ pre, (topL g).getD p 0 = i) → (rdTk g i).f0 ≤ (pre.foldl (fun o p => sStep g o ((topL g).getD p 0)) o).getD i 0 := by
  intro pre
  induction pre with
  | nil =>
   rintro o _ (h | ⟨_, h, _⟩)
   ·
    exact h
   ·
    cases h
  | cons p pre ih =>
   intro o hl h
   refine ih _ (by unfold sStep; rw [List.length_set]; exact hl) ?_
   have hm := mostS_nonneg g o ((topL g).getD p 0) g.length
   unfold sStep
   rw [getD_setL]
   by_cases hc : i = (topL g).getD p 0 ∧ (topL g).getD p 0 < o.length
   ·
    rw [if_pos hc]
    left
    rw [← hc.1] at hm ⊢
    omega
   ·
    rw [if_neg hc]
    rcases h with h | ⟨q, hq, he⟩
    ·
     exact .inl h
    ·
     rcases List.mem_cons.1 hq with rfl | hq
     ·
      exact absurd ⟨he.symm, by rw [he, hl]; exact hi⟩ hc
     ·
      exact .inr ⟨q, hq, he⟩
 refine key _ _ (by simp) (.inr ?_)
 obtain ⟨p, hp, e⟩ := List.getElem_of_mem (top_all hv hi)
 refine ⟨p, ?_, by rw [List.getD_eq_getElem?_getD, List.getElem?_eq_getElem hp]; exact e⟩
 unfold backL
 rw [List.mem_map]
 exact ⟨(topL g).length - 1 - p, List.mem_range.2 (by omega), by omega⟩
theorem lateB_iff {g : List Tk} {st : List Int} {dl : Int} {i : Nat} : lateB g st dl i = true ↔ dl - (tailsS g).getD i 0 < st.getD i 0 := by
 unfold lateB
 exact decide_eq_true_iff
theorem late_end {g : List Tk} {rm : List Int} {wk : Int} {st : List Int} (h : Valid g rm wk st) {dl : Int} {i : Nat} (hi : i < g.length) (hl : lateB g st dl i = true) : dl < endS g st g.length := by
 have hl := lateB_iff.1 hl
 have h1 := tails_ge h.v hi
 have h2 := h.ok.2.2.2.2 i hi
 rcases tails_fit (E := endS g st g.length) (fun i hi => endS_mono g st i _ hi) h.needs i hi with h3 | h3
 ·
  omega
 ·
  omega
theorem last_late {g : List Tk} {rm : List Int} {wk : Int} {st : List Int} (h : Valid g rm wk st) {dl : Int} (hd : dl < endS g st g.length) {i : Nat} (hi : i < g.length) (he : st.getD i 0 + (rdTk g i).f0 = endS g st g.length) : lateB g st dl i = true := by
 have := tails_ge h.v hi
 exact lateB_iff.2 (by omega)
theorem late_iff {g : List Tk} {rm : List Int} {wk : Int} {st : List Int} (h : Valid g rm wk st) (dl : Int) (hd0 : 0 ≤ dl) : (List.range g.length).filter (lateB g st dl) ≠ [] ↔ dl < endS g st g.length := by
 constructor
 ·
  intro hne
  obtain ⟨i, t, e⟩ := List.exists_cons_of_ne_nil hne
  have hm : i ∈ (List.range g.length).filter (lateB g st dl) := by rw [e]; exact List.mem_cons_self
  have hm := List.mem_filter.1 hm
  exact late_end h (List.mem_range.1 hm.1) hm.2
 ·
  intro hd
  have hn : 0 < g.length := by
   by_cases hn : 0 < g.length
   ·
    exact hn
   ·
    rw [show g.length = 0 by omega] at hd
    have : endS g st 0 = 0 := rfl
    omega
  obtain ⟨i, hi, he⟩ := h.end_some hn
  exact List.ne_nil_of_mem (List.mem_filter.2 ⟨List.mem_range.2 hi, last_late h hd hi he⟩)
theorem caS_get {g : List Tk} {st : List Int} {now : Int} {i : Nat} (hi : i < g.length) : ((List.range g.length).map (cancF g st now)).getD i 0 = cancF g st now i := by
 rw [List.getD_eq_getElem?_getD, List.getElem?_map, List.getElem?_range hi]
 rfl
theorem canc_done {g : List Tk} {st : List Int} {now : Int} {i : Nat} : cancF g st now i = 0 ↔ st.getD i 0 + (rdTk g i).f0 ≤ now := by
 unfold cancF
 split
 ·
  simp_all
 ·
  split <;> simp_all
theorem canc_failed {g : List Tk} {st : List Int} {now : Int} {i : Nat} : cancF g st now i = 1 ↔ st.getD i 0 < now ∧ ¬ st.getD i 0 + (rdTk g i).f0 ≤ now := by
 unfold cancF
 split
 ·
  rename_i h
  simp only [h, not_true_eq_false, and_false]
  decide
 ·
  rename_i h
  split
  ·
   rename_i h2
   simp only [h2, h, not_false_eq_true, and_self]
  ·
   rename_i h2
   simp only [h2, false_and]
   decide
theorem canc_left {g : List Tk} (hok : TOk g) {st : List Int} {now : Int} {i : Nat} (hi : i < g.length) : cancF g st now i = 3 ↔ now ≤ st.getD i 0 := by
 have := hok.2.2.2.2 i hi
 unfold cancF
 split
 ·
  rename_i h
  constructor
  ·
   intro h; exact absurd h (by decide)
  ·
   intro h2; omega
 ·
  rename_i h
  split
  ·
   rename_i h2
   constructor
   ·
    intro h; exact absurd h (by decide)
   ·
    intro h3; omega
  ·
   rename_i h2
   exact ⟨fun _ => by omega, fun _ => rfl⟩
end Go.Proofs.YtlapphhcficbjaaGreatDoor

namespace Go.Proofs.YtlapphhcficbjaaGreatDoor
set_option linter.unusedVariables false
set_option linter.unusedSimpArgs false
open Go.RowKit Go.Shelf Bits
def laterN (d : Int) (st : List Int) (j : Nat) : List Int := (st.take j).map fun x => x + d
theorem laterN_len {d : Int} {st : List Int} {j : Nat} (h : j ≤ st.length) : (laterN d st j).length = j := by
 unfold laterN
 rw [List.length_map, List.length_take]
 omega
theorem laterN_get {d : Int} {st : List Int} {i j : Nat} (hi : i < j) (hj : j ≤ st.length) : (laterN d st j).getD i 0 = st.getD i 0 + d := by
 unfold laterN
 rw [List.getD_eq_getElem?_getD, List.getElem?_map, List.getElem?_take_of_lt hi, List.getD_eq_getElem?_getD, List.getElem?_eq_getElem (by omega)]
 rfl
theorem laterN_snoc {d : Int} {st : List Int} {j : Nat} (hj : j < st.length) : laterN d st (j + 1) = laterN d st j ++ [st.getD j 0 + d] := by
 unfold laterN
 rw [List.take_succ_eq_append_getElem hj, List.map_append, List.getD_eq_getElem?_getD, List.getElem?_eq_getElem hj]
 rfl
theorem later_valid {g : List Tk} {rm : List Int} {wk : Int} {st : List Int} {d : Int} (h : Valid g rm wk st) (hd : 0 ≤ d) (hs : ∀ k, k < st.length → st.getD k 0 + d ≤ 200) : Valid g rm wk (laterN d st st.length) := by
 refine valid_shift (d := d) h (by rw [laterN_len (Nat.le_refl _)]; exact h.len) (fun i hi => laterN_get (by rw [h.len]; exact hi) (Nat.le_refl _)) (fun i hi => ?_)
 have hil : i < st.length := by rw [h.len]; exact hi
 rw [laterN_get hil (Nat.le_refl _)]
 have := h.b i hi
 have := hs i hil
 omega
theorem later_end {g : List Tk} {rm : List Int} {wk : Int} {st : List Int} {d : Int} (h : Valid g rm wk st) (hd : 0 ≤ d) (hs : ∀ k, k < st.length → st.getD k 0 + d ≤ 200) (hn : 0 < g.length) : etS g rm wk (laterN d st st.length) = etS g rm wk st + d := by
 have h' := later_valid h hd hs
 unfold etS
 rw [if_pos (valid_vSt h), if_pos (valid_vSt h')]
 exact end_shift h h' hn (fun i hi => laterN_get (by rw [h.len]; exact hi) (Nat.le_refl _))
theorem large_valid {g : List Tk} {rm : List Int} {wk : Int} {st : List Int} (h : Valid g rm wk st) : Valid g (List.replicate rm.length 8) 4 st := by
 obtain ⟨h1, h2, h3⟩ := placeB_facts h.p
 obtain ⟨h4, h5⟩ := roomB_facts h1
 rw [h4]
 refine valid_more h (by decide) h3 (fun p hp => ?_)
 have := (h5 p hp).2
 have e : (List.replicate 3 (8 : Int)).getD p 0 = 8 := by
  rcases p with _ | _ | _ | p
  ·
   rfl
  ·
   rfl
  ·
   rfl
  ·
   omega
 omega
theorem rep_snoc (n : Nat) (x : Int) : List.replicate (n + 1) x = List.replicate n x ++ [x] := List.replicate_succ'
theorem etS_valid {g : List Tk} {rm : List Int} {wk : Int} {st : List Int} (h : Valid g rm wk st) : etS g rm wk st = endS g st g.length := by
 unfold etS
 rw [if_pos (valid_vSt h)]
theorem etS_no {g : List Tk} {rm : List Int} {wk : Int} {st : List Int} (h : vStB g rm wk st = false) : etS g rm wk st = -1 := by
 unfold etS
 rw [h]
 rfl
theorem etS_cases (g : List Tk) (rm : List Int) (wk : Int) (st : List Int) : (etS g rm wk st = -1 ∧ vStB g rm wk st = false) ∨ (0 ≤ etS g rm wk st ∧ Valid g rm wk st) := by
 cases h : vStB g rm wk st with
 | false => exact .inl ⟨etS_no h, rfl⟩
 | true =>
  refine .inr ⟨?_, vSt_valid h⟩
  rw [etS_valid (vSt_valid h)]
  exact endS_nonneg _ _ _
theorem etS_bound (g : List Tk) (rm : List Int) (wk : Int) (st : List Int) : -1 ≤ etS g rm wk st ∧ etS g rm wk st ≤ 1020 := by
 cases h : vStB g rm wk st with
 | false => rw [etS_no h]; omega
 | true =>
  have hv := vSt_valid h
  rw [etS_valid hv]
  have := endS_bound hv.ok hv.sok g.length
  omega
def someEnd (g : List Tk) (st : List Int) (n : Int) (j : Nat) : Bool := (List.range j).any fun i => st.getD i 0 + (rdTk g i).f0 == n
theorem someEnd_snoc (g : List Tk) (st : List Int) (n : Int) (j : Nat) : someEnd g st n (j + 1) = (someEnd g st n j || (st.getD j 0 + (rdTk g j).f0 == n)) := by
 unfold someEnd
 rw [List.range_succ, List.any_append]
 simp
theorem someEnd_all {g : List Tk} {rm : List Int} {wk : Int} {st : List Int} (h : Valid g rm wk st) (hn : 0 < g.length) : someEnd g st (etS g rm wk st) g.length = true := by
 rw [etS_valid h]
 obtain ⟨i, hi, he⟩ := h.end_some hn
 unfold someEnd
 rw [List.any_eq_true]
 exact ⟨i, List.mem_range.2 hi, by rw [beq_iff_eq]; exact he⟩
theorem end_ge {g : List Tk} {st : List Int} : ∀ n i, i < n → st.getD i 0 + (rdTk g i).f0 ≤ endS g st n
 | n + 1, i, hi => by
  unfold endS
  by_cases h : i = n
  ·
   subst h
   exact Int.le_max_right _ _
  ·
   exact Int.le_trans (end_ge n i (by omega)) (Int.le_max_left _ _)
theorem etS_ge {g : List Tk} {rm : List Int} {wk : Int} {st : List Int} (h : Valid g rm wk st) {i : Nat} (hi : i < g.length) : st.getD i 0 + (rdTk g i).f0 ≤ etS g rm wk st := by
 rw [etS_valid h]
 exact end_ge _ i hi
theorem mdS_never {g : List Tk} {rm : List Int} {wk : Int} {st : List Int} (h : Valid g rm wk st) : mdS g rm wk st 0 = decide (g.length = 0) := by
 unfold mdS
 rw [valid_vSt h]
 by_cases hg : g.length = 0
 ·
  rw [hg, decide_eq_true rfl]
  rfl
 ·
  have := h.end_pos (by omega)
  rw [decide_eq_false hg, decide_eq_false (show ¬ endS g st g.length ≤ 0 by omega)]
  rfl
theorem mdS_is {g : List Tk} {rm : List Int} {wk : Int} {st : List Int} (h : Valid g rm wk st) {dl : Int} (hd : 0 ≤ dl ∧ dl ≤ 200) : mdS g rm wk st dl = decide (etS g rm wk st ≤ dl) := by
 unfold mdS
 rw [valid_vSt h, inB_true.2 hd, etS_valid h]
 rfl
theorem caS_no {g : List Tk} {rm : List Int} {wk : Int} {st : List Int} {now : Int} (h : (vStB g rm wk st && inB now 0 200) = false) : caS g rm wk st now = [] := by
 unfold caS
 rw [h]
 rfl
theorem caS_yes {g : List Tk} {rm : List Int} {wk : Int} {st : List Int} {now : Int} (h : Valid g rm wk st) (hn : 0 ≤ now ∧ now ≤ 200) : caS g rm wk st now = (List.range g.length).map (cancF g st now) := by
 unfold caS
 rw [valid_vSt h, inB_true.2 hn]
 rfl
theorem caS_cases (g : List Tk) (rm : List Int) (wk : Int) (st : List Int) (now : Int) : caS g rm wk st now = [] ∨ (Valid g rm wk st ∧ (0 ≤ now ∧ now ≤ 200) ∧ caS g rm wk st now = (List.range g.length).map (cancF g st now)) := by
 cases h : (vStB g rm wk st && inB now 0 200) with
 | false => exact .inl (caS_no h)
 | true =>
  rw [Bool.and_eq_true] at h
  exact .inr ⟨vSt_valid h.1, inB_true.1 h.2, caS_yes (vSt_valid h.1) (inB_true.1 h.2)⟩
theorem canc_len (F : Nat → Int) (n : Nat) : ((List.range n).map F).length = n := by simp
theorem cancF_bound (g : List Tk) (st : List Int) (now : Int) (i : Nat) : 0 ≤ cancF g st now i ∧ cancF g st now i ≤ 3 := by
 unfold cancF
 split
 ·
  omega
 ·
  split <;> omega
theorem canc_row_bound (g : List Tk) (st : List Int) (now : Int) (i : Nat) : 0 ≤ ((List.range g.length).map (cancF g st now)).getD i 0 ∧ ((List.range g.length).map (cancF g st now)).getD i 0 ≤ 1000 := by
 by_cases h : i < g.length
 ·
  rw [caS_get h]
  have := cancF_bound g st now i
  omega
 ·
  rw [getD_out (by rw [canc_len]; exact h)]
  omega
theorem canc_needs {g : List Tk} {rm : List Int} {wk : Int} {st : List Int} (h : Valid g rm wk st) {now : Int} {i : Nat} (hi : i < g.length) (hc : cancF g st now i ≠ 3) {x : Int} (hx : x ∈ (rdTk g i).f1) : cancF g st now x.toNat = 0 := by
 have hs : st.getD i 0 < now := by
  apply Classical.byContradiction
  intro hn
  exact hc ((canc_left h.ok hi).2 (by omega))
 have hx0 := spec_needs_in h.v i hi x hx
 have := h.needs i hi x.toNat (by rw [Int.toNat_of_nonneg hx0.1]; exact hx)
 exact canc_done.2 (by omega)
theorem canc_end {g : List Tk} {rm : List Int} {wk : Int} {st : List Int} (h : Valid g rm wk st) {i : Nat} (hi : i < g.length) : cancF g st (etS g rm wk st) i = 0 := canc_done.2 (etS_ge h hi)
theorem canc_zero {g : List Tk} {rm : List Int} {wk : Int} {st : List Int} (h : Valid g rm wk st) {i : Nat} (hi : i < g.length) : cancF g st 0 i = 3 := (canc_left h.ok hi).2 (h.b i hi).1
theorem canc_more {g : List Tk} (hok : TOk g) {st : List Int} {now : Int} {i : Nat} (hi : i < g.length) : (cancF g st now i = 0 → cancF g st (now + 1) i = 0) ∧ (cancF g st now i = 1 → cancF g st (now + 1) i ≠ 3) ∧ (cancF g st now i = 0 ∨ cancF g st now i = 1 ∨ cancF g st now i = 3) := by
 refine ⟨fun h => ?_, fun h => ?_, ?_⟩
 ·
  have := canc_done.1 h
  exact canc_done.2 (by omega)
 ·
  have := (canc_failed.1 h).1
  intro h3
  have := (canc_left hok hi).1 h3
  omega
 ·
  unfold cancF
  split
  ·
   exact .inl rfl
  ·
   split
   ·
    exact .inr (.inl rfl)
   ·
    exact .inr (.inr rfl)
end Go.Proofs.YtlapphhcficbjaaGreatDoor
