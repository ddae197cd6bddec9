/- Parts of the proof, laid as one text by a program of mine. -/
import Derived.Test.YtkljcdghbefceaaGreatDoorKbtc17
import Derived.OrdersHeld
import Derived.Lib.SliceRun
import Derived.Deep.RegionHeld3
import Derived.Test.YtkljcdghbefceaaGreatDoorKbtc15
import Derived.Test.YtkljcdghbefceaaGreatDoorKbtc14
import Derived.Test.YtkljcdghbefceaaGreatDoorKbtc2
namespace Go.Proofs.YtkljcdghbefceaaGreatDoor
set_option linter.unusedVariables false
set_option linter.unusedSimpArgs false
open Go.RowKit Go.Shelf Bits
inductive POrd (g : List Tk) : List Nat → Prop
 | nil : POrd g []
 | snoc {l : List Nat} {i : Nat} : POrd g l → i < g.length → canN g l i = true → POrd g (l ++ [i])
theorem canN_iff {g : List Tk} {l : List Nat} {i : Nat} : canN g l i = true ↔ ¬ i ∈ l ∧ ∀ x ∈ (rdTk g i).f1, x ∈ ints l := by
 unfold canN
 rw [Bool.and_eq_true, Bool.not_eq_true', decide_eq_false_iff_not, List.all_eq_true]
 simp only [decide_eq_true_iff]
theorem canN_needs {g : List Tk} {l : List Nat} {i : Nat} (h : canN g l i = true) : ∀ x ∈ (rdTk g i).f1, x.toNat ∈ l := fun x hx => by
 have := (canN_iff.1 h).2 x hx
 unfold ints at this
 obtain ⟨k, hk, e⟩ := List.mem_map.1 this
 rw [← e]
 exact hk
theorem nextN2_mem {g : List Tk} {l : List Nat} {i : Nat} : i ∈ nextN2 g l ↔ i < g.length ∧ canN g l i = true := by
 unfold nextN2
 rw [List.mem_filter, List.mem_range]
theorem POrd.nd {g : List Tk} {l : List Nat} (h : POrd g l) : l.Nodup ∧ ∀ i ∈ l, i < g.length := by
 induction h with
 | nil => exact ⟨List.nodup_nil, fun i hi => absurd hi (by simp)⟩
 | snoc h hi hc ih =>
  refine ⟨?_, fun k hk => ?_⟩
  ·
   rw [List.nodup_append]
   refine ⟨ih.1, by simp, fun a ha b hb => ?_⟩
   rw [List.mem_singleton.1 hb]
   exact fun e => (canN_iff.1 hc).1 (e ▸ ha)
  ·
   rcases List.mem_append.1 hk with hk | hk
   ·
    exact ih.2 k hk
   ·
    rw [List.mem_singleton.1 hk]; exact hi
theorem POrd.ned {g : List Tk} {l : List Nat} (h : POrd g l) : ∀ j, j < l.length → ∀ x ∈ (rdTk g (l.getD j 0)).f1, x.toNat ∈ l.take j := by
 induction h with
 | nil => exact fun j hj => absurd hj (Nat.not_lt_zero _)
 | @snoc l i h hi hc ih =>
  intro j hj x hx
  rw [List.length_append, List.length_singleton] at hj
  by_cases hjl : j < l.length
  ·
   have e : (l ++ [i]).getD j 0 = l.getD j 0 := by
    rw [List.getD_eq_getElem?_getD, List.getD_eq_getElem?_getD, List.getElem?_append_left hjl]
   rw [e] at hx
   rw [List.take_append_of_le_length (by omega)]
   exact ih j hjl x hx
  ·
   obtain rfl : j = l.length := by omega
   have e : (l ++ [i]).getD l.length 0 = i := by
    rw [List.getD_eq_getElem?_getD, List.getElem?_append_right (Nat.le_refl _), Nat.sub_self]
    rfl
   rw [e] at hx
   rw [List.take_append_of_le_length (Nat.le_refl _), List.take_length]
   exact canN_needs hc x hx
theorem POrd.ord {g : List Tk} {l : List Nat} (h : POrd g l) (hl : l.length = g.length) : IsOrd g l := ⟨hl, h.nd.2, h.nd.1, h.ned⟩
theorem POrd.le {g : List Tk} {l : List Nat} (h : POrd g l) : l.length ≤ g.length := nodup_below h.nd.1 h.nd.2
theorem rowO_snoc (g : List Tk) (rm : List Int) (wk : Int) (l : List Nat) (i : Nat) : rowO g rm wk (l ++ [i]) = ordSt g rm wk (rowO g rm wk l) i := by
 unfold rowO
 rw [List.foldl_append]
 rfl
theorem rowO_take (g : List Tk) (rm : List Int) (wk : Int) (l : List Nat) : ∀ j, j ≤ l.length → rowO g rm wk (l.take j) = ordL g rm wk l j
 | 0, _ => rfl
 | j + 1, hj => by
  rw [take_snocN (by omega), rowO_snoc, rowO_take g rm wk l j (by omega)]
  rfl
theorem rowO_all (g : List Tk) (rm : List Int) (wk : Int) (l : List Nat) : rowO g rm wk l = ordL g rm wk l l.length := by
 have := rowO_take g rm wk l l.length (Nat.le_refl _)
 rwa [List.take_length] at this
theorem POrd.part {g : List Tk} {rm : List Int} {wk : Int} {l : List Nat} (hok : TOk g) (hp : placeB rm wk = true) (h : POrd g l) : Part g rm wk l (rowO g rm wk l) := by
 induction h with
 | nil => exact part_zero hp
 | snoc h hi hc ih =>
  rw [rowO_snoc]
  exact ih.step hok hp h.nd.1 hi (canN_iff.1 hc).1 (canN_needs hc)
def endP (g : List Tk) (rm : List Int) (wk : Int) (l : List Nat) : Int := bF g (rowO g rm wk l) l
theorem bF_congrM {g : List Tk} {st st' : List Int} : ∀ (l : List Nat) (m : Int), (∀ k ∈ l, st.getD k 0 = st'.getD k 0) → l.foldl (fun m k => max m (st.getD k 0 + (rdTk g k).f0)) m = l.foldl (fun m k => max m (st'.getD k 0 + (rdTk g k).f0)) m
 | [], _, _ => rfl
 | k :: l, m, h => by
  rw [List.foldl_cons, List.foldl_cons, h k List.mem_cons_self]
  exact bF_congrM l _ (fun q hq => h q (List.mem_cons_of_mem _ hq))
theorem bF_congr {g : List Tk} {st st' : List Int} (l : List Nat) (h : ∀ k ∈ l, st.getD k 0 = st'.getD k 0) : bF g st l = bF g st' l := bF_congrM l 0 h
theorem endP_snoc {g : List Tk} {rm : List Int} {wk : Int} {l : List Nat} {i : Nat} (hok : TOk g) (hp : placeB rm wk = true) (h : POrd g l) (hi : i < g.length) (hc : canN g l i = true) :
  endP g rm wk (l ++ [i]) = max (endP g rm wk l) ((placeS g rm wk (rowO g rm wk l) i : Nat) + (rdTk g i).f0) := by
 have hlen := (h.part hok hp).len
 unfold endP
 rw [bF_snoc, rowO_snoc]
 have e1 : bF g (ordSt g rm wk (rowO g rm wk l) i) l = bF g (rowO g rm wk l) l := bF_congr l (fun k hk => by
  unfold ordSt
  rw [getD_setL]
  by_cases e : k = i
  ·
   exact absurd (e ▸ hk) (canN_iff.1 hc).1
  ·
   rw [if_neg (fun h => e h.1)])
 have e2 : (ordSt g rm wk (rowO g rm wk l) i).getD i 0 = (placeS g rm wk (rowO g rm wk l) i : Nat) := by
  unfold ordSt
  rw [getD_setL, if_pos ⟨rfl, by rw [hlen]; exact hi⟩]
 rw [e1, e2]
theorem endP_all {g : List Tk} {rm : List Int} {wk : Int} {l : List Nat} (h : IsOrd g l) : endP g rm wk l = endO g rm wk l := by
 unfold endP endO
 generalize rowO g rm wk l = st
 obtain ⟨b1, b2, b3⟩ := bF_from (g := g) (st := st) l 0
 refine Int.le_antisymm (b3 _ (endS_nonneg _ _ _) (fun k hk => endS_mono g st k _ (h.lt k hk))) ?_
 exact endS_le b1 _ (fun i hi => b2 i (ord_all h hi))
theorem ordersN_ord {g : List Tk} : ∀ (f : Nat) (l : List Nat), POrd g l → l.length + f = g.length → ∀ o ∈ ordersN g f l, IsOrd g o
 | 0, l, h, hl, o, ho => by
  rw [List.mem_singleton.1 ho]
  exact h.ord hl
 | f + 1, l, h, hl, o, ho => by
  unfold ordersN at ho
  obtain ⟨i, hi, ho⟩ := List.mem_flatMap.1 ho
  obtain ⟨hi, hc⟩ := nextN2_mem.1 hi
  exact ordersN_ord f (l ++ [i]) (h.snoc hi hc) (by rw [List.length_append, List.length_singleton]; omega) o ho
theorem ordersN_low {g : List Tk} {rm : List Int} {wk : Int} (hok : TOk g) (hp : placeB rm wk = true) : ∀ (f : Nat) (l : List Nat), POrd g l → l.length + f = g.length → ∀ o ∈ ordersN g f l, endP g rm wk l ≤ endO g rm wk o
 | 0, l, h, hl, o, ho => by
  rw [List.mem_singleton.1 ho, endP_all (h.ord hl)]
  exact Int.le_refl _
 | f + 1, l, h, hl, o, ho => by
  unfold ordersN at ho
  obtain ⟨i, hi, ho⟩ := List.mem_flatMap.1 ho
  obtain ⟨hi, hc⟩ := nextN2_mem.1 hi
  have h1 := ordersN_low hok hp f (l ++ [i]) (h.snoc hi hc) (by rw [List.length_append, List.length_singleton]; omega) o ho
  rw [endP_snoc hok hp h hi hc] at h1
  omega
theorem search_eq {g : List Tk} {rm : List Int} {wk : Int} (hok : TOk g) (hp : placeB rm wk = true) : searchN g rm wk g.length [] 0 none = (ordersN g g.length []).foldl (scanO (endO g rm wk)) none := by
 refine search_scan (X := fun f l e => POrd g l ∧ l.length + f = g.length ∧ e = endP g rm wk l) (fun l e h => ?_) (fun f l e h o ho => ?_) (fun f l e i h hi => ?_) g.length [] 0 none ⟨.nil, by simp, rfl⟩
 ·
  rw [h.2.2]
  exact (endP_all (h.1.ord (by have := h.2.1; omega))).symm
 ·
  rw [h.2.2]
  exact ordersN_low hok hp f l h.1 h.2.1 o ho
 ·
  obtain ⟨hi, hc⟩ := nextN2_mem.1 hi
  refine ⟨h.1.snoc hi hc, by have := h.2.1; rw [List.length_append, List.length_singleton]; omega, ?_⟩
  rw [endP_snoc hok hp h.1 hi hc, h.2.2]
theorem take_pord {g : List Tk} {o : List Nat} (hv : specValid g = true) (h : IsOrd g o) {j : Nat} (hj : j < o.length) : o.getD j 0 ∈ nextN2 g (o.take j) := by
 have hm := h.lt _ (getD_mem hj)
 refine nextN2_mem.2 ⟨hm, canN_iff.2 ⟨(nodup_take h.nd hj).2, fun x hx => ?_⟩⟩
 have h0 := spec_needs_in hv _ hm x hx
 rw [show x = ((x.toNat : Nat) : Int) by omega, mem_ints]
 exact h.ned j hj x hx
theorem ord_mem {g : List Tk} {o : List Nat} (hv : specValid g = true) (h : IsOrd g o) : ∀ f j, j + f = g.length → o ∈ ordersN g f (o.take j)
 | 0, j, hj => by
  rw [List.take_of_length_le (by rw [h.len]; omega)]
  exact List.mem_singleton.2 rfl
 | f + 1, j, hj => by
  have hjl : j < o.length := by rw [h.len]; omega
  unfold ordersN
  refine List.mem_flatMap.2 ⟨_, take_pord hv h hjl, ?_⟩
  rw [← take_snocN hjl]
  exact ord_mem hv h f (j + 1) (by omega)
theorem ord_in {g : List Tk} {o : List Nat} (hv : specValid g = true) (h : IsOrd g o) : o ∈ ordersN g g.length [] := ord_mem hv h g.length 0 (by omega)
def bestP (g : List Tk) (rm : List Int) (wk : Int) : Option (List Nat × Int) := (ordersN g g.length []).foldl (scanO (endO g rm wk)) none
theorem best_some {g : List Tk} {rm : List Int} {wk : Int} (hv : specValid g = true) : ∃ b, bestP g rm wk = some (b, endO g rm wk b) ∧ b ∈ ordersN g g.length [] ∧ IsOrd g b ∧ ∀ o, IsOrd g o → endO g rm wk b ≤ endO g rm wk o := by
 have hne : ordersN g g.length [] ≠ [] := fun e => by
  have := ord_in hv (top_ord hv)
  rw [e] at this
  exact absurd this (by simp)
 obtain ⟨b, b1, b2, b3, b4⟩ := scan_least (E := endO g rm wk) (ordersN g g.length []) none (fun b x h => by cases h) (.inl hne)
 have hb : b ∈ ordersN g g.length [] := by
  rcases b2 with b2 | ⟨x, b2⟩
  ·
   exact b2
  ·
   cases b2
 exact ⟨b, b1, hb, ordersN_ord g.length [] .nil (by simp) b hb, fun o ho => b3 o (ord_in hv ho)⟩
def boN (g : List Tk) (rm : List Int) (wk : Int) : List Nat := if seaB g rm wk then ((bestP g rm wk).getD ([], 0)).1 else []
def btN (g : List Tk) (rm : List Int) (wk : Int) : Int := if seaB g rm wk then ((bestP g rm wk).getD ([], 0)).2 else -1
theorem endO_valid {g : List Tk} {rm : List Int} {wk : Int} {o : List Nat} (hs : seaB g rm wk = true) (h : IsOrd g o) : etS g rm wk (osN g rm wk (ints o)) = endO g rm wk o ∧ (osN g rm wk (ints o)).length = g.length := by
 obtain ⟨a1, a2, a3⟩ := seaB_facts hs
 have hV := (ord_valid a1 a3 h).1
 rw [os_ord hs h, etS_valid hV]
 unfold endO
 rw [rowO_all]
 exact ⟨rfl, hV.len⟩
theorem best_is {g : List Tk} {rm : List Int} {wk : Int} (hs : seaB g rm wk = true) : IsOrd g (boN g rm wk) ∧ btN g rm wk = endO g rm wk (boN g rm wk) ∧ ∀ o, IsOrd g o → btN g rm wk ≤ endO g rm wk o := by
 obtain ⟨b, b1, b2, b3, b4⟩ := best_some (rm := rm) (wk := wk) (seaB_facts hs).1
 unfold boN btN
 rw [if_pos hs, if_pos hs, b1]
 exact ⟨b3, rfl, b4⟩
theorem best_law {g : List Tk} {rm : List Int} {wk : Int} (h : boN g rm wk ≠ []) : seaB g rm wk = true ∧ (boN g rm wk).length = g.length ∧ (osN g rm wk (ints (boN g rm wk))).length = g.length ∧ etS g rm wk (osN g rm wk (ints (boN g rm wk))) = btN g rm wk := by
 have hs : seaB g rm wk = true := by
  cases hc : seaB g rm wk with
  | true => rfl
  | false => unfold boN at h; rw [hc] at h; exact absurd rfl h
 obtain ⟨b1, b2, b3⟩ := best_is hs
 obtain ⟨e1, e2⟩ := endO_valid hs b1
 exact ⟨hs, b1.len, e2, by rw [e1, b2]⟩
theorem bestOrd_law {g : List Tk} {rm : List Int} {wk : Int} {l : List Int} (h : osN g rm wk l ≠ []) : btN g rm wk ≤ etS g rm wk (osN g rm wk l) := by
 obtain ⟨h1, h2, h3, h4⟩ := osN_yes h
 obtain ⟨hO, he⟩ := isOrdB_ord h2
 obtain ⟨b1, b2, b3⟩ := best_is h1
 have e1 := (endO_valid h1 hO).1
 rw [he] at e1
 rw [e1]
 exact b3 _ hO
theorem btN_no {g : List Tk} {rm : List Int} {wk : Int} (h : btN g rm wk < 0) : seaB g rm wk = false := by
 cases hc : seaB g rm wk with
 | false => rfl
 | true =>
  have := (best_is hc).2.1
  have h2 : 0 ≤ endO g rm wk (boN g rm wk) := endS_nonneg _ _ _
  omega
theorem bestTime_law {g : List Tk} {rm : List Int} {wk : Int} (h : 0 ≤ btN g rm wk) : btN g rm wk ≤ etS g rm wk (pS g rm wk) ∧ leS g rm wk ≤ btN g rm wk := by
 have hs : seaB g rm wk = true := by
  cases hc : seaB g rm wk with
  | true => rfl
  | false => unfold btN at h; rw [hc] at h; simp at h
 obtain ⟨a1, a2, a3⟩ := seaB_facts hs
 obtain ⟨b1, b2, b3⟩ := best_is hs
 have hV := plan_valid a1 a3
 constructor
 ·
  rw [pS_is a1 a3]
  have hO := plO_ord hV (fun i hi => (hV.b i hi).2)
  refine Int.le_trans (b3 _ hO) ?_
  have h1 := (endO_valid hs hO)
  by_cases hg : 0 < g.length
  ·
   obtain ⟨p1, p2⟩ := planO_law hs hg
   rw [pS_is a1 a3] at p2
   have hV2 := (ord_valid a1 a3 hO).1
   rw [← h1.1, os_ord hs hO, etS_valid hV2, etS_valid hV]
   rw [os_ord hs hO] at p2
   refine endS_le (endS_nonneg _ _ _) _ (fun i hi => ?_)
   have := p2 i hi
   have := endS_mono g (planS g rm wk) i _ hi
   omega
  ·
   have e : g.length = 0 := by omega
   rw [etS_valid hV]
   unfold endO
   generalize rowO g rm wk (plO g.length (planS g rm wk) 201) = s1
   generalize planS g rm wk = s2
   rw [e]
   exact Int.le_refl (0 : Int)
 ·
  rw [b2, ← (endO_valid hs b1).1, os_ord hs b1]
  exact end_least (ord_valid a1 a3 b1).1
end Go.Proofs.YtkljcdghbefceaaGreatDoor

namespace Go.Proofs.YtkljcdghbefceaaGreatDoor
set_option linter.unusedVariables false
set_option linter.unusedSimpArgs false
open Go.RowKit Go.Shelf Bits
open Go.Proofs.YtkljcdghbefceaaGreatDoorW.PrintWords Go.Proofs.YtkljcdghbefceaaGreatDoorW.PrintLast Go.Proofs.YtkljcdghbefceaaGreatDoorW.PrintMore
theorem ready_next {g : List Tk} {ns : List Nat} {L : List Nat} {p : Nat} (hg : graphN g = some ns) (hb : ∀ k, p.testBit k = decide (k ∈ L)) : elems (readyN ns p) = nextN2 g L := by
 obtain ⟨h8, hn, _⟩ := graphN_all hg
 have hb2 : ∀ j : Nat, p.testBit j = decide ((j : Int) ∈ ints L) := fun j => by rw [hb, decide_eq_decide, mem_ints]
 unfold elems nextN2
 have e : ∀ i, (readyN ns p).testBit i = (decide (i < g.length) && canN g L i) := fun i => by
  rw [readyN_bit, hn]
  by_cases hi : i < g.length
  ·
   rw [decide_eq_true hi, Bool.true_and, Bool.true_and]
   unfold isReady canN
   rw [hb, needs_in hg hb2 hi]
   rfl
  ·
   rw [decide_eq_false hi]
   rfl
 have h1 := filter_rangeR (P := (readyN ns p).testBit) (n := g.length) (fun i hi => by
  rw [e, Bool.and_eq_true] at hi
  exact of_decide_eq_true hi.1) (16 - g.length)
 rw [show g.length + (16 - g.length) = 16 by omega] at h1
 show (List.range 16).filter (readyN ns p).testBit = _
 rw [h1]
 apply List.filter_congr
 intro i hi
 have := List.mem_range.1 hi
 rw [e, decide_eq_true this, Bool.true_and]
theorem bits_add {L : List Nat} {p i : Nat} (hb : ∀ k, p.testBit k = decide (k ∈ L)) : ∀ k, (p ||| 2 ^ i).testBit k = decide (k ∈ L ++ [i]) := fun k => by
 rw [or_bit, hb]
 by_cases h1 : k ∈ L
 ·
  rw [decide_eq_true h1, decide_eq_true (List.mem_append_left _ h1)]
  rfl
 ·
  rw [decide_eq_false h1, Bool.false_or, decide_eq_decide, List.mem_append, List.mem_singleton]
  constructor
  ·
   exact fun e => .inr e.symm
  ·
   rintro (h | h)
   ·
    exact absurd h h1
   ·
    exact h.symm
def accE : Option (List Nat × Int) → Int
 | none => 0
 | some (_, x) => x
def accB : Option (List Nat × Int) → List Nat
 | none => []
 | some (b, _) => b
structure Agr (g : List Tk) (rm : List Int) (wk : Int) (st : List Int) (L : List Nat) : Prop where
 len : st.length = g.length
 ag : ∀ k ∈ L, st.getD k 0 = (rowO g rm wk L).getD k 0
 b : ∀ k, 0 ≤ st.getD k 0 ∧ st.getD k 0 ≤ 160
theorem Agr.step {g : List Tk} {rm : List Int} {wk : Int} {st : List Int} {L : List Nat} {i : Nat} (hok : TOk g) (hp : placeB rm wk = true) (h : POrd g L) (hi : i < g.length) (hc : canN g L i = true) (ha : Agr g rm wk st L) : Agr g rm wk (st.set i (placeS g rm wk (rowO g rm wk L) i : Nat)) (L ++ [i]) := by
 have hP := h.part hok hp (rm := rm) (wk := wk)
 have hsm := hP.small hok h.nd.1
 obtain ⟨p1, p2, _, _⟩ := hP.place hok hp h.nd.1 (canN_needs hc)
 refine ⟨by rw [List.length_set]; exact ha.len, fun k hk => ?_, fun k => ?_⟩
 ·
  rw [rowO_snoc]
  unfold ordSt
  rw [getD_setL, getD_setL, ha.len, hP.len]
  by_cases e : k = i ∧ i < g.length
  ·
   rw [if_pos e, if_pos e]
  ·
   rw [if_neg e, if_neg e]
   rcases List.mem_append.1 hk with hk | hk
   ·
    exact ha.ag k hk
   ·
    exact absurd ⟨List.mem_singleton.1 hk, hi⟩ e
 ·
  rw [getD_setL]
  split
  ·
   omega
  ·
   exact ha.b k
theorem Agr.back {g : List Tk} {rm : List Int} {wk : Int} {st : List Int} {L : List Nat} {i : Nat} (hni : ¬ i ∈ L) (ha : Agr g rm wk st (L ++ [i])) : Agr g rm wk st L :=
 ⟨ha.len, fun k hk => by
  rw [ha.ag k (List.mem_append_left _ hk), rowO_snoc]
  unfold ordSt
  rw [getD_setL]
  by_cases e : k = i
  ·
   exact absurd (e ▸ hk) hni
  ·
   rw [if_neg (fun h => e h.1)], ha.b⟩
structure SRun (S sb : Nat) (vl : Value) (W : World) (vl' : Value) (W' : World) : Prop where
 size : W.heap.size ≤ W'.heap.size
 keep : ∀ k, k < W.heap.size → k ≠ S → k ≠ sb → some k ≠ vl.ownBlock → W'.heap[k]? = W.heap[k]?
 at_ : vl'.ownBlock = vl.ownBlock ∨ ∃ b, vl'.ownBlock = some b ∧ W.heap.size ≤ b
theorem SRun.refl (S sb : Nat) (vl : Value) (W : World) : SRun S sb vl W vl W := ⟨Nat.le_refl _, fun _ _ _ _ _ => rfl, .inl rfl⟩
theorem SRun.trans {S sb : Nat} {vl v1 v2 : Value} {W W1 W2 : World} (h : SRun S sb vl W v1 W1) (k : SRun S sb v1 W1 v2 W2) : SRun S sb vl W v2 W2 := by
 refine ⟨Nat.le_trans h.size k.size, fun i hi h1 h2 h3 => ?_, ?_⟩
 ·
  refine (k.keep i (Nat.lt_of_lt_of_le hi h.size) h1 h2 (fun e => ?_)).trans (h.keep i hi h1 h2 h3)
  rcases h.at_ with q | ⟨b, q, hb⟩
  ·
   exact h3 (e.trans q)
  ·
   rw [q] at e
   cases e
   omega
 ·
  rcases k.at_ with q | ⟨b, q, hb⟩
  ·
   rcases h.at_ with q2 | ⟨b, q2, hb⟩
   ·
    exact .inl (q.trans q2)
   ·
    exact .inr ⟨b, q.trans q2, hb⟩
  ·
   exact .inr ⟨b, q, Nat.le_trans h.size hb⟩
theorem SRun.below {S sb : Nat} {vl : Value} {W W' : World} (hb : Below W.heap.size W W') : SRun S sb vl W vl W' := ⟨hb.size, fun k hk _ _ _ => hb.block k hk, .inl rfl⟩
theorem SRun.set {S sb : Nat} {vl : Value} (W : World) {p : Addr} (hp : p.block = S ∨ p.block = sb) (v : Value) : SRun S sb vl W vl (W.setCell p v) :=
 ⟨by rw [World.size_setCell]; exact Nat.le_refl _, fun k _ h1 h2 _ => Below.heap_setCell W p v k (fun e => by rcases hp with h | h <;> omega), .inl rfl⟩
theorem SRun.grown {S sb : Nat} {vl v1 : Value} {W W' : World} (hg : W.grownBy W' vl.ownBlock) (hat : v1.ownBlock = vl.ownBlock ∨ ∃ b, v1.ownBlock = some b ∧ W.heap.size ≤ b) : SRun S sb vl W v1 W' :=
 ⟨hg.size, fun k hk _ _ h3 => hg.block k hk h3, hat⟩
theorem SRun.own {S sb : Nat} {vl vl' : Value} {W W1 : World} (h : SRun S sb vl W vl' W1) {W2 : World} {row : Option Nat} (hg : W1.grownBy W2 row) (hr : ∀ r, row = some r → W.heap.size ≤ r) : SRun S sb vl W vl' W2 :=
 ⟨Nat.le_trans h.size hg.size, fun k hk h1 h2 h3 => (hg.block k (Nat.lt_of_lt_of_le hk h.size) (fun e => by have := hr k e.symm; omega)).trans (h.keep k hk h1 h2 h3), h.at_⟩
theorem SRun.pop {S sb : Nat} {vl v1 : Value} {W W1 : World} (h : SRun S sb vl W v1 W1) {v2 : Value} (e : v2.ownBlock = v1.ownBlock) : SRun S sb vl W v2 W1 := ⟨h.size, h.keep, by rw [e]; exact h.at_⟩
structure SS (w0 : World) (C : Nat) (n : Nat) (S sb : Nat) (A1 : Option Addr) (c1 r : Nat) (wk : Int) (L : List Nat) (st : List Int) (acc : Option (List Nat × Int)) (vl vb : Value) (W : World) : Prop where
 blk : W.heap[S]? = some (.cells #[.pointer (some ⟨C, 0, none⟩), .slice A1 r c1, .int .i64 wk, .slice (some ⟨sb, 0, none⟩) n n, vl, vb, .int .i64 (accE acc), .bool acc.isSome] 57 (0, 0))
 row : IRow W sb st
 lst : Kd.R (Kd.int .i64) 3 W w0.heap.size (fun k => k ≠ S ∧ k ≠ sb) vl (ints L)
 bst : Kd.R (Kd.int .i64) 3 W w0.heap.size (fun k => (k ≠ S ∧ k ≠ sb) ∧ some k ≠ vl.ownBlock) vb (ints (accB acc))
 low : Below w0.heap.size w0 W
section
variable {w0 : World} {C n S sb : Nat} {A1 : Option Addr} {c1 r : Nat} {wk : Int} {L : List Nat} {st : List Int} {acc : Option (List Nat × Int)} {vl vb : Value} {W : World}
theorem SS.neS (h : SS w0 C n S sb A1 c1 r wk L st acc vl vb W) : some S ≠ vl.ownBlock := fun e => (h.lst.1 S e.symm).1 rfl
theorem SS.neR (h : SS w0 C n S sb A1 c1 r wk L st acc vl vb W) : some sb ≠ vl.ownBlock := fun e => (h.lst.1 sb e.symm).2 rfl
theorem SS.below (h : SS w0 C n S sb A1 c1 r wk L st acc vl vb W) {W' : World} (hb : Below W.heap.size W W') : SS w0 C n S sb A1 c1 r wk L st acc vl vb W' :=
 ⟨blk_below h.blk hb, blk_below h.row hb, Kd.R_below h.lst hb, Kd.R_below h.bst hb, h.low.trans (hb.mono h.low.size)⟩
theorem SS.nc (h : SS w0 C n S sb A1 c1 r wk L st acc vl vb W) {W' : World} {row : Option Nat} (hg : W.grownBy W' row) (hr : ∀ q, row = some q → w0.heap.size ≤ q ∧ ∃ o : Obj, W.heap[q]? = some o ∧ o.isCells = false) : SS w0 C n S sb A1 c1 r wk L st acc vl vb W' := by
 have key : ∀ (k : Nat) (cs : Array Value) (t : TypeId), W.heap[k]? = some (.cells cs t (0, 0)) → W'.heap[k]? = some (.cells cs t (0, 0)) := fun k cs t hk => (hg.block k (blk_lt hk) (fun e => by
  obtain ⟨_, o, ho, hn⟩ := hr k e.symm
  rw [hk] at ho
  cases ho
  cases hn)).trans hk
 refine ⟨key _ _ _ h.blk, key _ _ _ h.row, R_grownNC h.lst hg (fun q e => (hr q e).2), R_grownNC h.bst hg (fun q e => (hr q e).2), h.low.trans ⟨hg.os, hg.tape, hg.output, hg.size, fun k hk => hg.block k (Nat.lt_of_lt_of_le hk h.low.size) (fun e => by have := (hr k e.symm).1; omega)⟩⟩
theorem SS.others (h : SS w0 C n S sb A1 c1 r wk L st acc vl vb W) {vl' : Value} {W' : World} (k : SRun S sb vl W vl' W') : KeepsOthers W W' := by
 refine ⟨k.size, fun i o hi ho => (k.keep i (blk_lt hi) (fun e => ?_) (fun e => ?_) (fun e => ?_)).trans hi⟩
 ·
  rw [e, h.blk] at hi
  cases hi
  cases ho
 ·
  rw [e, show W.heap[sb]? = _ from h.row] at hi
  cases hi
  cases ho
 ·
  obtain ⟨cells, hc⟩ := Kd.R_typed h.lst i e.symm
  rw [hc] at hi
  cases hi
  cases ho
theorem SS.setStart (h : SS w0 C n S sb A1 c1 r wk L st acc vl vb W) (hSb : S ≠ sb) (hb : w0.heap.size ≤ sb) (i : Nat) (x : Int) : SS w0 C n S sb A1 c1 r wk L (st.set i x) acc vl vb (W.setCell ⟨sb, i, none⟩ (.int .i64 x)) :=
 ⟨blk_far h.blk hSb _, h.row.set i x, Kd.R_far h.lst (p := ⟨sb, i, none⟩) (fun k hk => hk.2) _, Kd.R_far h.bst (p := ⟨sb, i, none⟩) (fun k hk => hk.1.2) _, h.low.setCell (p := ⟨sb, i, none⟩) hb _⟩
theorem SS.setList (h : SS w0 C n S sb A1 c1 r wk L st acc vl vb W) (hSb : S ≠ sb) (hb : w0.heap.size ≤ S) {W1 : World} {v1 : Value} {L1 : List Nat} (hR : Kd.R (Kd.int .i64) 3 W1 w0.heap.size (fun k => k ≠ S ∧ k ≠ sb) v1 (ints L1)) (hg : W.grownBy W1 vl.ownBlock) (hat : v1.ownBlock = vl.ownBlock ∨ ∃ b, v1.ownBlock = some b ∧ W.heap.size ≤ b) (hB : Below w0.heap.size w0 W1) :
  SS w0 C n S sb A1 c1 r wk L1 st acc v1 vb (W1.setCell ⟨S, 4, none⟩ v1) := by
 have hb1 := (hg.block S (blk_lt h.blk) h.neS).trans h.blk
 have hr1 : IRow W1 sb st := (hg.block sb (blk_lt h.row) h.neR).trans h.row
 exact ⟨blk_set hb1 4 v1, hr1.far (p := ⟨S, 4, none⟩) (fun e => hSb e.symm) _, Kd.R_far hR (p := ⟨S, 4, none⟩) (fun k hk => hk.1) _, Kd.R_far (Kd.R_after h.bst hg hat) (p := ⟨S, 4, none⟩) (fun k hk => hk.1.1) _, hB.setCell (p := ⟨S, 4, none⟩) hb _⟩
theorem own_len (A : Option Addr) (n m c d : Nat) : (Value.slice A n c).ownBlock = (Value.slice A m d).ownBlock := by cases A <;> rfl
theorem SS.pop {i : Nat} {A : Option Addr} {m c : Nat} (h : SS w0 C n S sb A1 c1 r wk (L ++ [i]) st acc (.slice A m c) vb W) (hSb : S ≠ sb) (hb : w0.heap.size ≤ S) : SS w0 C n S sb A1 c1 r wk L st acc (.slice A L.length c) vb (W.setCell ⟨S, 4, none⟩ (.slice A L.length c)) := by
 have hR := Kd.R_take h.lst (m := L.length) (by rw [ints_length, List.length_append]; omega)
 rw [take_ints, List.take_append_of_le_length (Nat.le_refl _), List.take_length] at hR
 refine ⟨blk_set h.blk 4 _, h.row.far (p := ⟨S, 4, none⟩) (fun e => hSb e.symm) _, Kd.R_far hR (p := ⟨S, 4, none⟩) (fun k hk => hk.1) _, Kd.R_far (Kd.R_mono h.bst (fun k hk => ⟨hk.1, ?_⟩)) (p := ⟨S, 4, none⟩) (fun k hk => hk.1.1) _, h.low.setCell (p := ⟨S, 4, none⟩) hb _⟩
 rw [own_len A L.length m c c]
 exact hk.2
theorem SS.leaf (h : SS w0 C n S sb A1 c1 r wk L st acc vl vb W) (hSb : S ≠ sb) (hb : w0.heap.size ≤ S) {W5 : World} {v5 : Value} (hB : Below W.heap.size W W5) (hR : Kd.R (Kd.int .i64) 3 W5 W.heap.size (fun _ => True) v5 (ints L)) (e : Int) :
  SS w0 C n S sb A1 c1 r wk L st (some (L, e)) vl v5 (((W5.setCell ⟨S, 5, none⟩ v5).setCell ⟨S, 6, none⟩ (.int .i64 e)).setCell ⟨S, 7, none⟩ (.bool true)) := by
 have h5 := h.below hB
 have hl := Kd.R_lt h.lst
 have hS := blk_lt h.blk
 have hs := blk_lt h.row
 have hR2 : Kd.R (Kd.int .i64) 3 W5 w0.heap.size (fun k => (k ≠ S ∧ k ≠ sb) ∧ some k ≠ vl.ownBlock) v5 (ints L) := Kd.R_lower (Kd.R_mono (Kd.R_bound hR) (fun k hk => ⟨⟨by have := hk.2.1; omega, by have := hk.2.1; omega⟩, fun e => by have := hl k e.symm; have := hk.2.1; omega⟩)) h.low.size
 have f1 : ∀ (W : World) (k : Nat) (v : Value), Kd.R (Kd.int .i64) 3 W w0.heap.size (fun k => k ≠ S ∧ k ≠ sb) vl (ints L) → Kd.R (Kd.int .i64) 3 (W.setCell ⟨S, k, none⟩ v) w0.heap.size (fun k => k ≠ S ∧ k ≠ sb) vl (ints L) := fun W k v h => Kd.R_far h (p := ⟨S, k, none⟩) (fun k hk => hk.1) _
 have f2 : ∀ (W : World) (k : Nat) (v : Value), Kd.R (Kd.int .i64) 3 W w0.heap.size (fun k => (k ≠ S ∧ k ≠ sb) ∧ some k ≠ vl.ownBlock) v5 (ints L) → Kd.R (Kd.int .i64) 3 (W.setCell ⟨S, k, none⟩ v) w0.heap.size (fun k => (k ≠ S ∧ k ≠ sb) ∧ some k ≠ vl.ownBlock) v5 (ints L) := fun W k v h => Kd.R_far h (p := ⟨S, k, none⟩) (fun k hk => hk.1.1) _
 have f3 : ∀ (W : World) (k : Nat) (v : Value), IRow W sb st → IRow (W.setCell ⟨S, k, none⟩ v) sb st := fun W k v h => h.far (p := ⟨S, k, none⟩) (fun e => hSb e.symm) _
 exact ⟨blk_set (blk_set (blk_set h5.blk 5 _) 6 _) 7 _, f3 _ _ _ (f3 _ _ _ (f3 _ _ _ h5.row)), f1 _ _ _ (f1 _ _ _ (f1 _ _ _ h5.lst)), f2 _ _ _ (f2 _ _ _ (f2 _ _ _ hR2)),
  ((h5.low.setCell (p := ⟨S, 5, none⟩) hb _).setCell (p := ⟨S, 6, none⟩) hb _).setCell (p := ⟨S, 7, none⟩) hb _⟩
end
theorem wpIn_region_held {P : Program} {Q : Exit → Act → World → Prop} {S : World → Prop} {id l n : Nat} {a : Act} {w : World} {L : List Oper} (hm : P.follows .mixedOrders = true) (hd : noDeferB L.toArray = true) (hQ : ¬ LetsOut Q)
  (h : wpAnyH P .any L.toArray Q S L.toArray.size (Array.replicate L.toArray.size false) a w.drew) : (Code.region id L.toArray true).wpIn (Fence.wide.inRound l) n P Q a w :=
 wpIn_region_any hm (wpAnyIn_of_wpAny hQ (noDefer_spec hd) _ _ _ _ (wpAny_of_held _ _ _ _ h))
theorem cell_far2 {w : World} {p a : Addr} {v u : Value} (h : w.cell? a = some u) (hp : p.block ≠ a.block) : (w.setCell p v).cell? a = some u := (World.cell?_setCell_far w p a v hp).trans h
theorem cell_alloc2 {w : World} {a : Addr} {o : Obj} {u : Value} (h : w.cell? a = some u) : (w.alloc o).cell? a = some u := (World.cell?_alloc_some w a o (by rw [h]; rfl)).trans h
theorem take_lit {P : Program} {md : Region.Mode} {L : List Oper} {Q : Exit → Act → World → Prop} {S : World → Prop} {i : Nat} {oi : Oper} {v : Value} {fuel : Nat} {listed : Array Bool} {a : Act} {w : World} (hi : L[i]? = some oi) (hs : Region.noSelect L.toArray = true) (hf : Region.free md L.toArray listed i = true) (hr : (Region.ready md L.toArray listed).contains i = true)
  (hQ : ∀ c a w, Q (.panic c) (a.put oi.dst v) w → Q (.panic c) a w) (hy : YieldsIf P L.toArray S oi v a) (hS : S w) (h : wpAnyH P md L.toArray Q S fuel (listed.setIfInBounds i true) (a.put oi.dst v) w) : wpAnyH P md L.toArray Q S (fuel + 1) listed a w :=
 wpAnyH_take (by simpa using hi) hs hf hr hQ hy hS h
theorem cons_lit {P : Program} {md : Region.Mode} {L : List Oper} {Q : Exit → Act → World → Prop} {S : World → Prop} {fuel : Nat} {listed : Array Bool} {a : Act} {w : World} {i : Nat} {o : Oper} {rs : List Nat} (ho : L[i]? = some o)
  (h : ∀ K' : Act → World → Prop, Go.Shut (∀ a w, S w → (S w → wpAnyH P md L.toArray Q S fuel (listed.setIfInBounds i true) a w) → K' a w) → if Region.wanted o (yielded L.toArray a.tmps) = true then Oper.wp P o a w K' Q else K' (a.put o.dst undef) w)
  (hs : AllReadyH P md L.toArray Q S fuel listed a w rs) : AllReadyH P md L.toArray Q S fuel listed a w (i :: rs) := AllReadyH.cons (by simpa using ho) h hs
set_option maxRecDepth 100000 in
set_option maxHeartbeats 2000000 in
theorem clone_calls (A : Option Addr) (c : Nat) (xs : List Int) (hl : xs.length ≤ 1000) (w : World) (hr : (Kd.int .i64).C w A xs.length xs) :
  Calls Tryz.prog 59 #[.slice A xs.length c] w fun e w' => ∃ v, e = .returned v ∧ Kd.R (Kd.int .i64) 3 w' w.heap.size (fun _ => True) v xs ∧ Below w.heap.size w w' := by
 have q24 : ∀ (w : World) (a : Option Addr) (n c n' c' : Nat), (binOp .eql 24 (.slice a n c) (.slice none n' c')).run Tryz.prog w = .ok (.bool a.isNone) w := fun w a n c n' c' => Lib.run_eql_slice_nil w _ _ a n c n' c' Tryz.underlying24
 cases A with
 | none =>
  have h0 : xs = [] := by
   by_cases hp : 0 < xs.length
   ·
    obtain ⟨ad, e, _⟩ := hr.2.2 hp
    cases e
   ·
    exact List.eq_nil_of_length_eq_zero (by omega)
  subst h0
  clear hr hl
  go_enter Tryz.func59, Tryz.ntmps59
  go_wp2
  go_ret
  exact ⟨_, rfl, Kd.R_nil _ _ _ _ _, Below.refl _ _⟩
 | some ad =>
  have hBa : Below w.heap.size w (w.alloc (.cells #[] 3)) := (Below.refl _ _).alloc (Nat.le_refl _) _
  have hO : Kd.R (Kd.int .i64) 3 (w.alloc (.cells #[] 3)) w.heap.size (fun _ => True) (.slice (some ⟨w.heap.size, 0, none⟩) 0 0) [] := Kd.R_of_own (World.ownsRow_lit (base := w.heap.size) (size := 1) w #[] 0 (Nat.le_refl _) (by simp [maxLen]) rfl) (fun _ _ => trivial)
  have HC := Lib.hid (Kd.C_below hr hBa)
  have HO := Lib.hid (And.intro hO hBa)
  clear hr hO hBa
  go_enter Tryz.func59, Tryz.ntmps59
  go_wp2_with (at_builtin; refine Kd.R_append_rows (Kd.int .i64) (w0 := w) w.heap.size rfl (.tmp 5) (.tmp 6) 24 3 (.int .i64 0) 8 rfl Tryz.underlying24 infoInt rfl (by decide) (by omega) (.slice (some ⟨w.heap.size, 0, none⟩) 0 0) [] xs (some ad) xs.length c (fun _ => True) (fun _ => False) rfl rfl HO.out.1 HC.out (fun _ _ h => h) (fun _ h => h.elim) (fun _ _ => trivial) HO.out.2 HO.out.2.size (by simp; omega) ?_; intro v1 w1 hO1 hB1 hg1 hat1; have H1 := Lib.hid (And.intro hO1 hB1); clear hO1 hB1 hg1 hat1)
  go_ret
  exact ⟨_, rfl, H1.out.1, H1.out.2⟩
end Go.Proofs.YtkljcdghbefceaaGreatDoor

namespace Go.Proofs.YtkljcdghbefceaaGreatDoor
set_option linter.unusedVariables false
set_option linter.unusedSimpArgs false
open Go.RowKit Go.Shelf Bits
open Go.Proofs.YtkljcdghbefceaaGreatDoorW.PrintWords Go.Proofs.YtkljcdghbefceaaGreatDoorW.PrintLast Go.Proofs.YtkljcdghbefceaaGreatDoorW.PrintMore
attribute [local go_sem] Oper.semAt_some max2_int max_two
structure SBx (h S p : Nat) (e : Int) (W : World) : Prop where
 s : Boxed W h 55 (.pointer (some ⟨S, 0, none⟩))
 p : Boxed W (h + 1) 46 (.int .u16 (p : Nat))
 e : Boxed W (h + 1 + 1) 3 (.int .i64 e)
theorem sbx_init (w : World) (S p : Nat) (e : Int) : SBx w.heap.size S p e (((w.alloc (.cells #[.pointer (some ⟨S, 0, none⟩)] 55)).alloc (.cells #[.int .u16 (p : Nat)] 46)).alloc (.cells #[.int .i64 e] 3)) := by
 have z : ∀ (W : World) (o : Obj), (W.alloc o).heap.size = W.heap.size + 1 := fun W o => World.size_alloc W o
 refine ⟨((Boxed.new w 55 _).alloc _).alloc _, ?_, ?_⟩
 ·
  have h1 := Boxed.new (w.alloc (.cells #[.pointer (some ⟨S, 0, none⟩)] 55)) 46 (.int .u16 (p : Nat))
  rw [z] at h1
  exact h1.alloc _
 ·
  have h1 := Boxed.new ((w.alloc (.cells #[.pointer (some ⟨S, 0, none⟩)] 55)).alloc (.cells #[.int .u16 (p : Nat)] 46)) 3 (.int .i64 e)
  rw [z, z] at h1
  exact h1
theorem SBx.run {h S p sb : Nat} {e : Int} {vl v' : Value} {W1 W' : World} (q : SBx h S p e W1) (hr : SRun S sb vl W1 v' W') (h1 : S < h) (h2 : sb < h) (h3 : ∀ k, vl.ownBlock = some k → k < h) : SBx h S p e W' := by
 have key : ∀ (k : Nat) (o : Obj), h ≤ k → W1.heap[k]? = some o → W'.heap[k]? = some o := fun k o hk ho => (hr.keep k (blk_lt ho) (by omega) (by omega) (fun e => by have := h3 k e.symm; omega)).trans ho
 exact ⟨key h _ (Nat.le_refl _) q.s, key (h + 1) _ (by omega) q.p, key (h + 1 + 1) _ (by omega) q.e⟩
theorem SS.shut {w0 : World} {C n S sb : Nat} {A1 : Option Addr} {c1 r : Nat} {wk : Int} {L : List Nat} {st : List Int} {acc : Option (List Nat × Int)} {vl vb : Value} {W W' : World} {B : Nat} (h : SS w0 C n S sb A1 c1 r wk L st acc vl vb W) (hs : Shut B W W') (hB : w0.heap.size ≤ B) : SS w0 C n S sb A1 c1 r wk L st acc vl vb W' :=
 ⟨hs.cells _ _ h.blk rfl, hs.cells _ _ h.row rfl, Shut.R hs h.lst, Shut.R hs h.bst, h.low.trans (hs.below.mono hB)⟩
theorem SRun.shut {S sb : Nat} {vl v1 : Value} {W W1 W' : World} (h : SRun S sb vl W v1 W1) (hs : Shut W.heap.size W1 W') : SRun S sb vl W v1 W' :=
 ⟨by rw [hs.size]; exact h.size, fun k hk h1 h2 h3 => (hs.block k hk).trans (h.keep k hk h1 h2 h3), h.at_⟩
theorem below_mid {B : Nat} {w0 W W' : World} (h1 : Below B w0 W) (h2 : Below B w0 W') (hs : W.heap.size ≤ W'.heap.size) : Below B W W' := ⟨h2.os.trans h1.os.symm, h2.tape.trans h1.tape.symm, h2.output.trans h1.output.symm, hs, fun k hk => (h2.block k hk).trans (h1.block k hk).symm⟩
def accN (g : List Tk) (rm : List Int) (wk : Int) (f : Nat) (L : List Nat) (e : Int) (is : List Nat) (acc : Option (List Nat × Int)) : Option (List Nat × Int) := is.foldl (fun a i => searchN g rm wk f (L ++ [i]) (max e ((placeS g rm wk (rowO g rm wk L) i : Nat) + (rdTk g i).f0)) a) acc
theorem accN_snoc (g : List Tk) (rm : List Int) (wk : Int) (f : Nat) (L : List Nat) (e : Int) (is : List Nat) (i : Nat) (acc : Option (List Nat × Int)) : accN g rm wk f L e (is ++ [i]) acc = searchN g rm wk f (L ++ [i]) (max e ((placeS g rm wk (rowO g rm wk L) i : Nat) + (rdTk g i).f0)) (accN g rm wk f L e is acc) := by
 unfold accN
 rw [List.foldl_append]
 rfl
theorem searchN_cut {g : List Tk} {rm : List Int} {wk : Int} {L : List Nat} {e : Int} {acc : Option (List Nat × Int)} (h : cutO acc e = true) : ∀ f, searchN g rm wk f L e acc = acc
 | 0 => by unfold searchN; rw [h]; rfl
 | f + 1 => by unfold searchN; rw [h]; rfl
theorem searchN_go {g : List Tk} {rm : List Int} {wk : Int} {L : List Nat} {e : Int} {acc : Option (List Nat × Int)} (h : cutO acc e = false) (f : Nat) : searchN g rm wk (f + 1) L e acc = accN g rm wk f L e (nextN2 g L) acc := by
 unfold searchN accN
 rw [h]
 rfl
theorem searchN_leaf {g : List Tk} {rm : List Int} {wk : Int} {L : List Nat} {e : Int} {acc : Option (List Nat × Int)} (h : cutO acc e = false) : searchN g rm wk 0 L e acc = some (L, e) := by
 unfold searchN
 rw [h]
 rfl
theorem max_is (e x : Int) : (if e < x then x else e) = max e x := by
 split <;> omega
def FromAt (w0 : World) (C : Nat) (g : List Tk) (S sb : Nat) (A1 : Option Addr) (c1 : Nat) (rm : List Int) (wk : Int) (f : Nat) : Prop := ∀ (L : List Nat) (p : Nat) (e : Int) (acc : Option (List Nat × Int)) (st : List Int) (vl vb : Value) (W : World), POrd g L → L.length + f = g.length → p < 2 ^ g.length → (∀ k, p.testBit k = decide (k ∈ L)) → Agr g rm wk st L → (0 ≤ e ∧ e ≤ 200) → SS w0 C g.length S sb A1 c1 rm.length wk L st acc vl vb W →
 Calls Tryz.prog 32 #[.pointer (some ⟨S, 0, none⟩), .int .u16 (p : Nat), .int .i64 e] W fun E W' => (∃ v, E = .returned v) ∧ ∃ st' vl' vb', Agr g rm wk st' L ∧ SS w0 C g.length S sb A1 c1 rm.length wk L st' (searchN g rm wk f L e acc) vl' vb' W' ∧ SRun S sb vl W vl' W'
set_option maxRecDepth 1000000 in
set_option maxHeartbeats 8000000 in
theorem from_cut (w0 : World) (C : Nat) (g : List Tk) (ns : List Nat) (S sb : Nat) (A1 : Option Addr) (c1 : Nat) (rm : List Int) (wk : Int) (hgr : graphN g = some ns) (hv : specValid g = true) (h5 : g.length ≤ 5) (hp : placeB rm wk = true) (hG : IsGraph w0 C g ns) (hT : Tab w0) (hr1 : (Kd.int .i64).C w0 A1 rm.length rm) (hSb : S ≠ sb) (hS0 : w0.heap.size ≤ S) (hs0 : w0.heap.size ≤ sb) (f : Nat) (L : List Nat) (p : Nat) (e : Int) (acc : Option (List Nat × Int)) (st : List Int) (vl vb : Value) (W : World) (hL : POrd g L) (hlen : L.length + f = g.length) (hpb : p < 2 ^ g.length) (hbits : ∀ k, p.testBit k = decide (k ∈ L)) (hA : Agr g rm wk st L) (he : 0 ≤ e ∧ e ≤ 200) (hSS : SS w0 C g.length S sb A1 c1 rm.length wk L st acc vl vb W) (hcut : cutO acc e = true) :
  Calls Tryz.prog 32 #[.pointer (some ⟨S, 0, none⟩), .int .u16 (p : Nat), .int .i64 e] W fun E W' => (∃ v, E = .returned v) ∧ ∃ st' vl' vb', Agr g rm wk st' L ∧ SS w0 C g.length S sb A1 c1 rm.length wk L st' (acc) vl' vb' W' ∧ SRun S sb vl W vl' W' := by
 obtain ⟨b, x, rfl, hx⟩ : ∃ b x, acc = some (b, x) ∧ x ≤ e := by
  cases acc with
  | none => cases hcut
  | some q =>
   obtain ⟨b, x⟩ := q
   exact ⟨b, x, rfl, of_decide_eq_true hcut⟩
 clear hcut
 obtain ⟨AL, cL, rfl, hcL, hCL⟩ := Kd.R_reads hSS.lst
 rw [ints_length] at hSS hcL hCL ⊢
 have hok := specValid_TOk hv
 have hlL : L.length ≤ 5 := by have := hL.le; omega
 have hSl := blk_lt hSS.blk
 have hsl := blk_lt hSS.row
 have hll := Kd.R_lt hSS.lst
 have hB1 : Below W.heap.size W (((W.alloc (.cells #[.pointer (some ⟨S, 0, none⟩)] 55)).alloc (.cells #[.int .u16 (p : Nat)] 46)).alloc (.cells #[.int .i64 e] 3)) := (((Below.refl _ W).alloc (Nat.le_refl _) _).alloc (by simp) _).alloc (by simp; omega) _
 have hBx := sbx_init W S p e
 have hS1 := hSS.below hB1
 have hz1 : (((W.alloc (.cells #[.pointer (some ⟨S, 0, none⟩)] 55)).alloc (.cells #[.int .u16 (p : Nat)] 46)).alloc (.cells #[.int .i64 e] 3)).heap.size = W.heap.size + 3 := by simp
 have HLL := Lib.hid hll
 have HBITS := Lib.hid hbits
 have HLEN := Lib.hid hlen
 have HGR := Lib.hid hgr
 have HV := Lib.hid hv
 have HPB := Lib.hid hp
 have HPP := Lib.hid hpb
 have HG0 := Lib.hid hG
 have HT0 := Lib.hid hT
 have HR0 := Lib.hid hr1
 have HAG := Lib.hid hA
 have HLO := Lib.hid hL
 have HOK := Lib.hid hok
 have HS0 := Lib.hid hSS
 have htl := hT.lt
 obtain ⟨hh, HH⟩ : ∃ hh : Nat, Hid (hh = W.heap.size) := ⟨_, Lib.hid rfl⟩
 rw [← HH.out] at hBx
 clear hll hbits hlen hgr hv hp hG hT hr1 hA hL hok hSS
 refine calls_of_wp_marks Tryz.func32 rfl ?_
 simp only [Tryz.ntmps32, List.size_toArray, List.length_cons, List.length_nil, Nat.reduceAdd, Nat.reduceSub, Array.replicate_succ, Array.replicate_zero, List.push_toArray, List.append_toArray, List.nil_append, List.cons_append]
 go_wp2
 obtain ⟨W1, hW1⟩ : ∃ W1, W1 = ((W.alloc (.cells #[.pointer (some ⟨S, 0, none⟩)] 55)).alloc (.cells #[.int .u16 (p : Nat)] 46)).alloc (.cells #[.int .i64 e] 3) := ⟨_, rfl⟩
 rw [← hW1] at hBx hB1 hS1 hz1 ⊢
 clear hW1
 rw [← HH.out] at hz1 hSl hsl ⊢
 have HZ1 := Lib.hid hz1
 have HB1 := Lib.hid hB1
 have HR1 : Hid (SRun S sb (.slice AL L.length cL) W (.slice AL L.length cL) W1) := Lib.hid (SRun.below hB1)
 clear hz1 hB1
 have cS := hBx.s.cell
 have cE := hBx.e.cell
 have HBX := Lib.hid hBx
 have HS1 := Lib.hid hS1
 clear hBx
 have c6 := blk_cell hS1.blk 6
 have c7 := blk_cell hS1.blk 7
 simp [accE] at c6 c7
 clear hS1
 have dge : decide (x ≤ e) = true := decide_eq_true hx
 clear hx
 go_quiet (fail)
 go_wp2
 refine leave_marks (B := W.heap.size) [] _ (Marks.nil _) (fun D h => by cases h) (fun w' hs => ⟨results_none rfl _ _ _, ?_⟩)
 have hBq : Below W1.heap.size W1 (W1.drewN nq) := pw_below_drewN (Below.refl _ _) nq
 exact ⟨⟨_, rfl⟩, st, _, vb, HAG.out, (HS1.out.below hBq).shut hs HS0.out.low.size, (HR1.out.trans (SRun.below hBq)).shut hs⟩
set_option maxRecDepth 1000000 in
set_option maxHeartbeats 8000000 in
theorem from_leaf (w0 : World) (C : Nat) (g : List Tk) (ns : List Nat) (S sb : Nat) (A1 : Option Addr) (c1 : Nat) (rm : List Int) (wk : Int) (hgr : graphN g = some ns) (hv : specValid g = true) (h5 : g.length ≤ 5) (hp : placeB rm wk = true) (hG : IsGraph w0 C g ns) (hT : Tab w0) (hr1 : (Kd.int .i64).C w0 A1 rm.length rm) (hSb : S ≠ sb) (hS0 : w0.heap.size ≤ S) (hs0 : w0.heap.size ≤ sb) (L : List Nat) (p : Nat) (e : Int) (acc : Option (List Nat × Int)) (st : List Int) (vl vb : Value) (W : World) (hL : POrd g L) (hlen : L.length + 0 = g.length) (hpb : p < 2 ^ g.length) (hbits : ∀ k, p.testBit k = decide (k ∈ L)) (hA : Agr g rm wk st L) (he : 0 ≤ e ∧ e ≤ 200) (hSS : SS w0 C g.length S sb A1 c1 rm.length wk L st acc vl vb W) (hcu : cutO acc e = false) :
  Calls Tryz.prog 32 #[.pointer (some ⟨S, 0, none⟩), .int .u16 (p : Nat), .int .i64 e] W fun E W' => (∃ v, E = .returned v) ∧ ∃ st' vl' vb', Agr g rm wk st' L ∧ SS w0 C g.length S sb A1 c1 rm.length wk L st' (some (L, e)) vl' vb' W' ∧ SRun S sb vl W vl' W' := by
 have dl : ((L.length : Int) == (g.length : Int)) = true := by rw [beq_iff_eq]; omega
 obtain ⟨AL, cL, rfl, hcL, hCL⟩ := Kd.R_reads hSS.lst
 rw [ints_length] at hSS hcL hCL ⊢
 have hok := specValid_TOk hv
 have hlL : L.length ≤ 5 := by have := hL.le; omega
 have hSl := blk_lt hSS.blk
 have hsl := blk_lt hSS.row
 have hll := Kd.R_lt hSS.lst
 have hB1 : Below W.heap.size W (((W.alloc (.cells #[.pointer (some ⟨S, 0, none⟩)] 55)).alloc (.cells #[.int .u16 (p : Nat)] 46)).alloc (.cells #[.int .i64 e] 3)) := (((Below.refl _ W).alloc (Nat.le_refl _) _).alloc (by simp) _).alloc (by simp; omega) _
 have hBx := sbx_init W S p e
 have hS1 := hSS.below hB1
 have hz1 : (((W.alloc (.cells #[.pointer (some ⟨S, 0, none⟩)] 55)).alloc (.cells #[.int .u16 (p : Nat)] 46)).alloc (.cells #[.int .i64 e] 3)).heap.size = W.heap.size + 3 := by simp
 have HLL := Lib.hid hll
 have HBITS := Lib.hid hbits
 have HLEN := Lib.hid hlen
 have HGR := Lib.hid hgr
 have HV := Lib.hid hv
 have HPB := Lib.hid hp
 have HPP := Lib.hid hpb
 have HG0 := Lib.hid hG
 have HT0 := Lib.hid hT
 have HR0 := Lib.hid hr1
 have HAG := Lib.hid hA
 have HLO := Lib.hid hL
 have HOK := Lib.hid hok
 have HS0 := Lib.hid hSS
 have htl := hT.lt
 obtain ⟨hh, HH⟩ : ∃ hh : Nat, Hid (hh = W.heap.size) := ⟨_, Lib.hid rfl⟩
 rw [← HH.out] at hBx
 clear hll hbits hlen hgr hv hp hG hT hr1 hA hL hok hSS
 refine calls_of_wp_marks Tryz.func32 rfl ?_
 simp only [Tryz.ntmps32, List.size_toArray, List.length_cons, List.length_nil, Nat.reduceAdd, Nat.reduceSub, Array.replicate_succ, Array.replicate_zero, List.push_toArray, List.append_toArray, List.nil_append, List.cons_append]
 go_wp2
 obtain ⟨W1, hW1⟩ : ∃ W1, W1 = ((W.alloc (.cells #[.pointer (some ⟨S, 0, none⟩)] 55)).alloc (.cells #[.int .u16 (p : Nat)] 46)).alloc (.cells #[.int .i64 e] 3) := ⟨_, rfl⟩
 rw [← hW1] at hBx hB1 hS1 hz1 ⊢
 clear hW1
 rw [← HH.out] at hz1 hSl hsl ⊢
 have HZ1 := Lib.hid hz1
 have HB1 := Lib.hid hB1
 have HR1 : Hid (SRun S sb (.slice AL L.length cL) W (.slice AL L.length cL) W1) := Lib.hid (SRun.below hB1)
 clear hz1 hB1
 have cS := hBx.s.cell
 have cE := hBx.e.cell
 have HBX := Lib.hid hBx
 have HS1 := Lib.hid hS1
 clear hBx
 have c6 := blk_cell hS1.blk 6
 have c7 := blk_cell hS1.blk 7
 simp at c6 c7
 clear hS1
 have HCU := Lib.hid hcu
 clear hcu
 go_cut [18] from 7 to 19 (fun v18 wc => v18 = .bool false ∧ Below W1.heap.size W1 wc)
 case first =>
  rcases acc with _ | ⟨b, x0⟩
  ·
   simp [accE] at c6 c7
   go_quiet (fail)
   (try go_wp2)
   go_meet
   case rel => exact ⟨rfl, pw_below_drewN (Below.refl _ _) nq⟩
  ·
   simp [accE] at c6 c7
   have dge : decide (x0 ≤ e) = false := HCU.out
   go_quiet (fail)
   (try go_wp2)
   go_meet
   case rel => exact ⟨rfl, pw_below_drewN (Below.refl _ _) nq⟩
 case rest =>
  obtain ⟨rfl, hBq⟩ := hcut
  go_wp2
  obtain ⟨W2, rfl⟩ : ∃ W2, W2 = wc := ⟨_, rfl⟩
  clear cS cE c6 c7
  have HS2 := Lib.hid (HS1.out.below hBq)
  have HR2 : Hid (SRun S sb (.slice AL L.length cL) W1 (.slice AL L.length cL) W2) := Lib.hid (SRun.below hBq)
  have hsz : ∀ k, (Value.slice AL L.length cL).ownBlock = some k → k < hh := fun k hk => by have := HLL.out k hk; have := HH.out; omega
  have HSZ := Lib.hid hsz
  have hBx2 := HBX.out.run HR2.out hSl hsl hsz
  have cS := hBx2.s.cell
  have c4 := blk_cell HS2.out.blk 4
  have c0 := blk_cell HS2.out.blk 0
  simp at c4 c0
  have HGW : Hid (∀ W', Below W2.heap.size W2 W' → IsGraph W' C g ns) := Lib.hid (fun W' hW => HG0.out.below (HS2.out.low.trans (hW.mono HS2.out.low.size)))
  clear hBx2 hBq hsz
  go_quiet ((go_at_call 25; exact Calls.quiet_of_same (size_calls _ C g ns (HGW.out _ (pw_below_drewN (Below.refl _ _) _)))))
  go_wp2
  have hBq : Below W2.heap.size W2 (W2.drewN nq) := pw_below_drewN (Below.refl _ _) nq
  obtain ⟨W3, hW3⟩ : ∃ W3, W3 = W2.drewN nq := ⟨_, rfl⟩
  rw [← hW3] at hBq ⊢
  clear hW3 cS c4 c0
  have HS3 := Lib.hid (HS2.out.below hBq)
  have HR3 : Hid (SRun S sb (.slice AL L.length cL) W1 (.slice AL L.length cL) W3) := Lib.hid (HR2.out.trans (SRun.below hBq))
  have HGD : Hid (∀ W', Below W3.heap.size W3 W' → IsGraph W' C g ns ∧ Tab W') := Lib.hid (fun W' hW => ⟨HG0.out.below (HS3.out.low.trans (hW.mono HS3.out.low.size)), HT0.out.keep htl (HS3.out.low.trans (hW.mono HS3.out.low.size))⟩)
  clear hBq
  have hBx3 := HBX.out.run HR3.out hSl hsl HSZ.out
  have hBd : Below W3.heap.size W3 W3.drew := (Below.refl _ _).drew
  have hSd := HS3.out.below hBd
  have cSd := (boxed_low hBx3.s hBd).cell
  have cEd := (boxed_low hBx3.e hBd).cell
  have c4d := blk_cell hSd.blk 4
  simp at c4d
  have hcl := clone_calls AL cL (ints L) (by rw [ints_length]; omega) W3.drew (Kd.R_reads' hSd.lst).2.2
  rw [ints_length] at hcl
  have HCL := Lib.hid hcl
  have HSD := Lib.hid hSd
  clear hcl hSd hBd hBx3
  refine wp_region_held_drew (S := fun w' => w'.cell? ⟨hh, 0, none⟩ = some (.pointer (some ⟨S, 0, none⟩)) ∧ w'.cell? ⟨hh + 1 + 1, 0, none⟩ = some (.int .i64 e)) (by kernel_rfl) ⟨cSd, cEd⟩ (fun hHeld => ?_)
  refine take_lit (i := 0) (v := ?v1) rfl (by kernel_rfl) (by kernel_rfl) (by kernel_rfl) (fun _ _ _ h => h) (Or.inl ⟨by rfl, ?hy1⟩) hHeld ?rest1
  case hy1 =>
   rintro ww ⟨hs1, hs2⟩
   go_simp
   (try with_reducible rfl)
  case rest1 =>
  try simp only [Act.put, List.setIfInBounds_toArray, List.set_cons_zero, List.set_cons_succ]
  refine take_lit (i := 1) (v := ?v2) rfl (by kernel_rfl) (by kernel_rfl) (by kernel_rfl) (fun _ _ _ h => h) (Or.inl ⟨by rfl, ?hy2⟩) hHeld ?rest2
  case hy2 =>
   rintro ww ⟨hs1, hs2⟩
   go_simp
   (try with_reducible rfl)
  case rest2 =>
  try simp only [Act.put, List.setIfInBounds_toArray, List.set_cons_zero, List.set_cons_succ]
  refine take_lit (i := 2) (v := ?v3) rfl (by kernel_rfl) (by kernel_rfl) (by kernel_rfl) (fun _ _ _ h => h) (Or.inl ⟨by rfl, ?hy3⟩) hHeld ?rest3
  case hy3 =>
   rintro ww ⟨hs1, hs2⟩
   go_simp
   (try with_reducible rfl)
  case rest3 =>
  try simp only [Act.put, List.setIfInBounds_toArray, List.set_cons_zero, List.set_cons_succ]
  refine take_lit (i := 3) (v := ?v4) rfl (by kernel_rfl) (by kernel_rfl) (by kernel_rfl) (fun _ _ _ h => h) (Or.inl ⟨by rfl, ?hy4⟩) hHeld ?rest4
  case hy4 =>
   rintro ww ⟨hs1, hs2⟩
   go_simp
   (try with_reducible rfl)
  case rest4 =>
  try simp only [Act.put, List.setIfInBounds_toArray, List.set_cons_zero, List.set_cons_succ]
  refine take_lit (i := 4) (v := ?v5) rfl (by kernel_rfl) (by kernel_rfl) (by kernel_rfl) (fun _ _ _ h => h) (Or.inl ⟨by rfl, ?hy5⟩) hHeld ?rest5
  case hy5 =>
   rintro ww ⟨hs1, hs2⟩
   go_simp
   (try with_reducible rfl)
  case rest5 =>
  try simp only [Act.put, List.setIfInBounds_toArray, List.set_cons_zero, List.set_cons_succ]
  refine take_lit (i := 5) (v := ?v6) rfl (by kernel_rfl) (by kernel_rfl) (by kernel_rfl) (fun _ _ _ h => h) (Or.inl ⟨by rfl, ?hy6⟩) hHeld ?rest6
  case hy6 =>
   rintro ww ⟨hs1, hs2⟩
   go_simp
   (try with_reducible rfl)
  case rest6 =>
  try simp only [Act.put, List.setIfInBounds_toArray, List.set_cons_zero, List.set_cons_succ]
  refine take_lit (i := 8) (v := ?v7) rfl (by kernel_rfl) (by kernel_rfl) (by kernel_rfl) (fun _ _ _ h => h) (Or.inl ⟨by rfl, ?hy7⟩) hHeld ?rest7
  case hy7 =>
   rintro ww ⟨hs1, hs2⟩
   go_simp
   (try with_reducible rfl)
  case rest7 =>
  try simp only [Act.put, List.setIfInBounds_toArray, List.set_cons_zero, List.set_cons_succ]
  refine wpAnyH_ready (rs := [6]) (by kernel_rfl) (by simp) ?_
  refine cons_lit rfl (fun K hK => ?_) AllReadyH.nil
  go_simp
  refine hK.out _ _ hHeld (fun hHeld => ?_)
  clear hK K
  try simp only [Act.put, List.setIfInBounds_toArray, List.set_cons_zero, List.set_cons_succ]
  refine wpAnyH_ready (rs := [7]) (by kernel_rfl) (by simp) ?_
  refine cons_lit rfl (fun K hK => ?_) AllReadyH.nil
  go_simp
  go_at_call 59
  refine HCL.out.mono ?_
  rintro E w5 ⟨v5, rfl, hR5, hB5⟩
  obtain ⟨A5, c5', rfl, _, _⟩ := Kd.R_reads hR5
  refine hK.out _ _ ⟨pw_cell_below hB5 hHeld.1, pw_cell_below hB5 hHeld.2⟩ (fun hHeld => ?_)
  clear hK K
  try simp only [Act.put, List.setIfInBounds_toArray, List.set_cons_zero, List.set_cons_succ]
  have HS5 := Lib.hid (HSD.out.below hB5)
  have HRB := Lib.hid (And.intro hR5 hB5)
  have c5 := blk_cell HS5.out.blk 5
  simp at c5
  have f5 := blk_frozen HS5.out.blk 5
  have k6 := blk_set HS5.out.blk 5 (.slice A5 (ints L).length c5')
  have c6 := blk_cell k6 6
  simp at c6
  have f6 := blk_frozen k6 6
  have k7 := blk_set k6 6 (.int .i64 e)
  have c7 := blk_cell k7 7
  simp at c7
  have f7 := blk_frozen k7 7
  clear hR5 hB5 k6 k7 c4d cSd cEd
  refine take_lit (i := 9) (v := ?v8) rfl (by kernel_rfl) (by kernel_rfl) (by kernel_rfl) (fun _ _ _ h => h) (Or.inl ⟨by rfl, ?hy8⟩) hHeld ?rest8
  case hy8 =>
   rintro ww ⟨hs1, hs2⟩
   go_simp
   (try with_reducible rfl)
  case rest8 =>
  try simp only [Act.put, List.setIfInBounds_toArray, List.set_cons_zero, List.set_cons_succ]
  refine take_lit (i := 10) (v := ?v9) rfl (by kernel_rfl) (by kernel_rfl) (by kernel_rfl) (fun _ _ _ h => h) (Or.inl ⟨by rfl, ?hy9⟩) hHeld ?rest9
  case hy9 =>
   rintro ww ⟨hs1, hs2⟩
   go_simp
   (try with_reducible rfl)
  case rest9 =>
  try simp only [Act.put, List.setIfInBounds_toArray, List.set_cons_zero, List.set_cons_succ]
  refine wpAnyH_ready (rs := [11]) (by kernel_rfl) (by simp) ?_
  refine cons_lit rfl (fun K hK => ?_) AllReadyH.nil
  go_simp
  refine hK.out _ _ (⟨cell_far2 hHeld.1 (by show S ≠ hh; omega), cell_far2 hHeld.2 (by show S ≠ hh + 1 + 1; omega)⟩) (fun hHeld => ?_)
  clear hK K
  try simp only [Act.put, List.setIfInBounds_toArray, List.set_cons_zero, List.set_cons_succ]
  refine take_lit (i := 12) (v := ?v10) rfl (by kernel_rfl) (by kernel_rfl) (by kernel_rfl) (fun _ _ _ h => h) (Or.inl ⟨by rfl, ?hy10⟩) hHeld ?rest10
  case hy10 =>
   rintro ww ⟨hs1, hs2⟩
   go_simp
   (try with_reducible rfl)
  case rest10 =>
  try simp only [Act.put, List.setIfInBounds_toArray, List.set_cons_zero, List.set_cons_succ]
  refine take_lit (i := 13) (v := ?v11) rfl (by kernel_rfl) (by kernel_rfl) (by kernel_rfl) (fun _ _ _ h => h) (Or.inl ⟨by rfl, ?hy11⟩) hHeld ?rest11
  case hy11 =>
   rintro ww ⟨hs1, hs2⟩
   go_simp
   (try with_reducible rfl)
  case rest11 =>
  try simp only [Act.put, List.setIfInBounds_toArray, List.set_cons_zero, List.set_cons_succ]
  refine wpAnyH_ready (rs := [14]) (by kernel_rfl) (by simp) ?_
  refine cons_lit rfl (fun K hK => ?_) AllReadyH.nil
  go_simp
  refine hK.out _ _ (⟨cell_far2 hHeld.1 (by show S ≠ hh; omega), cell_far2 hHeld.2 (by show S ≠ hh + 1 + 1; omega)⟩) (fun hHeld => ?_)
  clear hK K
  try simp only [Act.put, List.setIfInBounds_toArray, List.set_cons_zero, List.set_cons_succ]
  refine take_lit (i := 15) (v := ?v12) rfl (by kernel_rfl) (by kernel_rfl) (by kernel_rfl) (fun _ _ _ h => h) (Or.inl ⟨by rfl, ?hy12⟩) hHeld ?rest12
  case hy12 =>
   rintro ww ⟨hs1, hs2⟩
   go_simp
   (try with_reducible rfl)
  case rest12 =>
  try simp only [Act.put, List.setIfInBounds_toArray, List.set_cons_zero, List.set_cons_succ]
  refine take_lit (i := 16) (v := ?v13) rfl (by kernel_rfl) (by kernel_rfl) (by kernel_rfl) (fun _ _ _ h => h) (Or.inl ⟨by rfl, ?hy13⟩) hHeld ?rest13
  case hy13 =>
   rintro ww ⟨hs1, hs2⟩
   go_simp
   (try with_reducible rfl)
  case rest13 =>
  try simp only [Act.put, List.setIfInBounds_toArray, List.set_cons_zero, List.set_cons_succ]
  refine wpAnyH_ready (rs := [17]) (by kernel_rfl) (by simp) ?_
  refine cons_lit rfl (fun K hK => ?_) AllReadyH.nil
  go_simp
  refine hK.out _ _ (⟨cell_far2 hHeld.1 (by show S ≠ hh; omega), cell_far2 hHeld.2 (by show S ≠ hh + 1 + 1; omega)⟩) (fun hHeld => ?_)
  clear hK K
  try simp only [Act.put, List.setIfInBounds_toArray, List.set_cons_zero, List.set_cons_succ]
  refine wpAnyH_done (by kernel_rfl) ?_ _
  go_wp2
  refine leave_marks (B := W.heap.size) [] _ (Marks.nil _) (fun D h => by cases h) (fun w' hs => ⟨results_none rfl _ _ _, ?_⟩)
  have hF := HSD.out.leaf hSb hS0 HRB.out.2 HRB.out.1 e
  have hr := (((SRun.below (S := S) (sb := sb) (vl := .slice AL L.length cL) HRB.out.2).trans (SRun.set w5 (p := ⟨S, 5, none⟩) (.inl rfl) (.slice A5 (ints L).length c5'))).trans (SRun.set _ (p := ⟨S, 6, none⟩) (.inl rfl) (.int .i64 e))).trans (SRun.set _ (p := ⟨S, 7, none⟩) (.inl rfl) (.bool true))
  have hr3 : SRun S sb (.slice AL L.length cL) W3 (.slice AL L.length cL) W3.drew := SRun.below (Below.refl _ _).drew
  exact ⟨⟨_, rfl⟩, st, _, _, HAG.out, hF.shut hs HS0.out.low.size, (HR1.out.trans ((HR3.out.trans hr3).trans hr)).shut hs⟩
end Go.Proofs.YtkljcdghbefceaaGreatDoor
