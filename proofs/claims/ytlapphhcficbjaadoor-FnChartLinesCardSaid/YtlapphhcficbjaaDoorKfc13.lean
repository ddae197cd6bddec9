/- Parts of the proof, laid as one text by a program of mine. -/
import Derived.Test.YtlapphhcficbjaaDoorKfc12
import Derived.Lib.Repeat
import Derived.StillTailTactics
import Derived.Sort.Grow
import Derived.Test.YtlapphhcficbjaaDoorKfc8
namespace Go.Proofs.YtlapphhcficbjaaDoor
set_option linter.unusedVariables false
set_option linter.unusedSimpArgs false
open Go.RowKit Go.Shelf Bits
def laterN (d : Int) (st : List Int) (j : Nat) : List Int := (st.take j).map fun x => x + d
theorem laterN_len {d : Int} {st : List Int} {j : Nat} (h : j ≤ st.length) : (laterN d st j).length = j := by
 unfold laterN
 rw [List.length_map, List.length_take]
 omega
theorem laterN_get {d : Int} {st : List Int} {i j : Nat} (hi : i < j) (hj : j ≤ st.length) : (laterN d st j).getD i 0 = st.getD i 0 + d := by
 unfold laterN
 rw [List.getD_eq_getElem?_getD, List.getElem?_map, List.getElem?_take_of_lt hi, List.getD_eq_getElem?_getD, List.getElem?_eq_getElem (by omega)]
 rfl
theorem laterN_snoc {d : Int} {st : List Int} {j : Nat} (hj : j < st.length) : laterN d st (j + 1) = laterN d st j ++ [st.getD j 0 + d] := by
 unfold laterN
 rw [List.take_succ_eq_append_getElem hj, List.map_append, List.getD_eq_getElem?_getD, List.getElem?_eq_getElem hj]
 rfl
theorem later_valid {g : List Tk} {rm : List Int} {wk : Int} {st : List Int} {d : Int} (h : Valid g rm wk st) (hd : 0 ≤ d) (hs : ∀ k, k < st.length → st.getD k 0 + d ≤ 200) : Valid g rm wk (laterN d st st.length) := by
 refine valid_shift (d := d) h (by rw [laterN_len (Nat.le_refl _)]; exact h.len) (fun i hi => laterN_get (by rw [h.len]; exact hi) (Nat.le_refl _)) (fun i hi => ?_)
 have hil : i < st.length := by rw [h.len]; exact hi
 rw [laterN_get hil (Nat.le_refl _)]
 have := h.b i hi
 have := hs i hil
 omega
theorem later_end {g : List Tk} {rm : List Int} {wk : Int} {st : List Int} {d : Int} (h : Valid g rm wk st) (hd : 0 ≤ d) (hs : ∀ k, k < st.length → st.getD k 0 + d ≤ 200) (hn : 0 < g.length) : etS g rm wk (laterN d st st.length) = etS g rm wk st + d := by
 have h' := later_valid h hd hs
 unfold etS
 rw [if_pos (valid_vSt h), if_pos (valid_vSt h')]
 exact end_shift h h' hn (fun i hi => laterN_get (by rw [h.len]; exact hi) (Nat.le_refl _))
theorem large_valid {g : List Tk} {rm : List Int} {wk : Int} {st : List Int} (h : Valid g rm wk st) : Valid g (List.replicate rm.length 8) 4 st := by
 obtain ⟨h1, h2, h3⟩ := placeB_facts h.p
 obtain ⟨h4, h5⟩ := roomB_facts h1
 rw [h4]
 refine valid_more h (by decide) h3 (fun p hp => ?_)
 have := (h5 p hp).2
 have e : (List.replicate 3 (8 : Int)).getD p 0 = 8 := by
  rcases p with _ | _ | _ | p
  ·
   rfl
  ·
   rfl
  ·
   rfl
  ·
   omega
 omega
theorem rep_snoc (n : Nat) (x : Int) : List.replicate (n + 1) x = List.replicate n x ++ [x] := List.replicate_succ'
theorem etS_valid {g : List Tk} {rm : List Int} {wk : Int} {st : List Int} (h : Valid g rm wk st) : etS g rm wk st = endS g st g.length := by
 unfold etS
 rw [if_pos (valid_vSt h)]
theorem etS_no {g : List Tk} {rm : List Int} {wk : Int} {st : List Int} (h : vStB g rm wk st = false) : etS g rm wk st = -1 := by
 unfold etS
 rw [h]
 rfl
theorem etS_cases (g : List Tk) (rm : List Int) (wk : Int) (st : List Int) : (etS g rm wk st = -1 ∧ vStB g rm wk st = false) ∨ (0 ≤ etS g rm wk st ∧ Valid g rm wk st) := by
 cases h : vStB g rm wk st with
 | false => exact .inl ⟨etS_no h, rfl⟩
 | true =>
  refine .inr ⟨?_, vSt_valid h⟩
  rw [etS_valid (vSt_valid h)]
  exact endS_nonneg _ _ _
theorem etS_bound (g : List Tk) (rm : List Int) (wk : Int) (st : List Int) : -1 ≤ etS g rm wk st ∧ etS g rm wk st ≤ 1020 := by
 cases h : vStB g rm wk st with
 | false => rw [etS_no h]; omega
 | true =>
  have hv := vSt_valid h
  rw [etS_valid hv]
  have := endS_bound hv.ok hv.sok g.length
  omega
def someEnd (g : List Tk) (st : List Int) (n : Int) (j : Nat) : Bool := (List.range j).any fun i => st.getD i 0 + (rdTk g i).f0 == n
theorem someEnd_snoc (g : List Tk) (st : List Int) (n : Int) (j : Nat) : someEnd g st n (j + 1) = (someEnd g st n j || (st.getD j 0 + (rdTk g j).f0 == n)) := by
 unfold someEnd
 rw [List.range_succ, List.any_append]
 simp
theorem someEnd_all {g : List Tk} {rm : List Int} {wk : Int} {st : List Int} (h : Valid g rm wk st) (hn : 0 < g.length) : someEnd g st (etS g rm wk st) g.length = true := by
 rw [etS_valid h]
 obtain ⟨i, hi, he⟩ := h.end_some hn
 unfold someEnd
 rw [List.any_eq_true]
 exact ⟨i, List.mem_range.2 hi, by rw [beq_iff_eq]; exact he⟩
theorem end_ge {g : List Tk} {st : List Int} : ∀ n i, i < n → st.getD i 0 + (rdTk g i).f0 ≤ endS g st n
 | n + 1, i, hi => by
  unfold endS
  by_cases h : i = n
  ·
   subst h
   exact Int.le_max_right _ _
  ·
   exact Int.le_trans (end_ge n i (by omega)) (Int.le_max_left _ _)
theorem etS_ge {g : List Tk} {rm : List Int} {wk : Int} {st : List Int} (h : Valid g rm wk st) {i : Nat} (hi : i < g.length) : st.getD i 0 + (rdTk g i).f0 ≤ etS g rm wk st := by
 rw [etS_valid h]
 exact end_ge _ i hi
theorem mdS_never {g : List Tk} {rm : List Int} {wk : Int} {st : List Int} (h : Valid g rm wk st) : mdS g rm wk st 0 = decide (g.length = 0) := by
 unfold mdS
 rw [valid_vSt h]
 by_cases hg : g.length = 0
 ·
  rw [hg, decide_eq_true rfl]
  rfl
 ·
  have := h.end_pos (by omega)
  rw [decide_eq_false hg, decide_eq_false (show ¬ endS g st g.length ≤ 0 by omega)]
  rfl
theorem mdS_is {g : List Tk} {rm : List Int} {wk : Int} {st : List Int} (h : Valid g rm wk st) {dl : Int} (hd : 0 ≤ dl ∧ dl ≤ 200) : mdS g rm wk st dl = decide (etS g rm wk st ≤ dl) := by
 unfold mdS
 rw [valid_vSt h, inB_true.2 hd, etS_valid h]
 rfl
theorem caS_no {g : List Tk} {rm : List Int} {wk : Int} {st : List Int} {now : Int} (h : (vStB g rm wk st && inB now 0 200) = false) : caS g rm wk st now = [] := by
 unfold caS
 rw [h]
 rfl
theorem caS_yes {g : List Tk} {rm : List Int} {wk : Int} {st : List Int} {now : Int} (h : Valid g rm wk st) (hn : 0 ≤ now ∧ now ≤ 200) : caS g rm wk st now = (List.range g.length).map (cancF g st now) := by
 unfold caS
 rw [valid_vSt h, inB_true.2 hn]
 rfl
theorem caS_cases (g : List Tk) (rm : List Int) (wk : Int) (st : List Int) (now : Int) : caS g rm wk st now = [] ∨ (Valid g rm wk st ∧ (0 ≤ now ∧ now ≤ 200) ∧ caS g rm wk st now = (List.range g.length).map (cancF g st now)) := by
 cases h : (vStB g rm wk st && inB now 0 200) with
 | false => exact .inl (caS_no h)
 | true =>
  rw [Bool.and_eq_true] at h
  exact .inr ⟨vSt_valid h.1, inB_true.1 h.2, caS_yes (vSt_valid h.1) (inB_true.1 h.2)⟩
theorem canc_len (F : Nat → Int) (n : Nat) : ((List.range n).map F).length = n := by simp
theorem cancF_bound (g : List Tk) (st : List Int) (now : Int) (i : Nat) : 0 ≤ cancF g st now i ∧ cancF g st now i ≤ 3 := by
 unfold cancF
 split
 ·
  omega
 ·
  split <;> omega
theorem canc_row_bound (g : List Tk) (st : List Int) (now : Int) (i : Nat) : 0 ≤ ((List.range g.length).map (cancF g st now)).getD i 0 ∧ ((List.range g.length).map (cancF g st now)).getD i 0 ≤ 1000 := by
 by_cases h : i < g.length
 ·
  rw [caS_get h]
  have := cancF_bound g st now i
  omega
 ·
  rw [getD_out (by rw [canc_len]; exact h)]
  omega
theorem canc_needs {g : List Tk} {rm : List Int} {wk : Int} {st : List Int} (h : Valid g rm wk st) {now : Int} {i : Nat} (hi : i < g.length) (hc : cancF g st now i ≠ 3) {x : Int} (hx : x ∈ (rdTk g i).f1) : cancF g st now x.toNat = 0 := by
 have hs : st.getD i 0 < now := by
  apply Classical.byContradiction
  intro hn
  exact hc ((canc_left h.ok hi).2 (by omega))
 have hx0 := spec_needs_in h.v i hi x hx
 have := h.needs i hi x.toNat (by rw [Int.toNat_of_nonneg hx0.1]; exact hx)
 exact canc_done.2 (by omega)
theorem canc_end {g : List Tk} {rm : List Int} {wk : Int} {st : List Int} (h : Valid g rm wk st) {i : Nat} (hi : i < g.length) : cancF g st (etS g rm wk st) i = 0 := canc_done.2 (etS_ge h hi)
theorem canc_zero {g : List Tk} {rm : List Int} {wk : Int} {st : List Int} (h : Valid g rm wk st) {i : Nat} (hi : i < g.length) : cancF g st 0 i = 3 := (canc_left h.ok hi).2 (h.b i hi).1
theorem canc_more {g : List Tk} (hok : TOk g) {st : List Int} {now : Int} {i : Nat} (hi : i < g.length) : (cancF g st now i = 0 → cancF g st (now + 1) i = 0) ∧ (cancF g st now i = 1 → cancF g st (now + 1) i ≠ 3) ∧ (cancF g st now i = 0 ∨ cancF g st now i = 1 ∨ cancF g st now i = 3) := by
 refine ⟨fun h => ?_, fun h => ?_, ?_⟩
 ·
  have := canc_done.1 h
  exact canc_done.2 (by omega)
 ·
  have := (canc_failed.1 h).1
  intro h3
  have := (canc_left hok hi).1 h3
  omega
 ·
  unfold cancF
  split
  ·
   exact .inl rfl
  ·
   split
   ·
    exact .inr (.inl rfl)
   ·
    exact .inr (.inr rfl)
end Go.Proofs.YtlapphhcficbjaaDoor

namespace Go.Proofs.YtlapphhcficbjaaDoor
set_option linter.unusedVariables false
set_option linter.unusedSimpArgs false
open Go.RowKit Go.Shelf Bits
open Go.Proofs.YtlapphhcficbjaaDoorW.PrintWords Go.Proofs.YtlapphhcficbjaaDoorW.PrintLast Go.Proofs.YtlapphhcficbjaaDoorW.PrintMore
def lineP (a t : Nat) : List UInt8 := List.replicate (min t a) 46 ++ List.replicate (t - a) 35
def lineB (a t : Nat) : ByteArray := ⟨(lineP a t).toArray⟩
theorem lineP_zero (a : Nat) : lineP a 0 = [] := by simp [lineP]
theorem lineP_len (a t : Nat) : (lineP a t).length = t := by
 simp only [lineP, List.length_append, List.length_replicate]
 omega
theorem lineP_dot {a t : Nat} (h : t < a) : lineP a t ++ [46] = lineP a (t + 1) := by
 unfold lineP
 rw [show t - a = 0 by omega, show t + 1 - a = 0 by omega, show min t a = t by omega, show min (t + 1) a = t + 1 by omega]
 simp [List.replicate_succ']
theorem lineP_hash {a t : Nat} (h : a ≤ t) : lineP a t ++ [35] = lineP a (t + 1) := by
 unfold lineP
 rw [show t + 1 - a = (t - a) + 1 by omega, show min t a = a by omega, show min (t + 1) a = a by omega, List.append_assoc, List.replicate_succ']
theorem mk_append (x y : List UInt8) : (⟨x.toArray⟩ ++ ⟨y.toArray⟩ : ByteArray) = ⟨(x ++ y).toArray⟩ := by
 apply ByteArray.ext
 simp [ByteArray.data_append]
theorem lineB_dot {a t : Nat} (h : t < a) : lineB a t ++ ⟨#[46]⟩ = lineB a (t + 1) := by
 unfold lineB
 rw [← lineP_dot h]
 exact mk_append _ [46]
theorem lineB_hash {a t : Nat} (h : a ≤ t) : lineB a t ++ ⟨#[35]⟩ = lineB a (t + 1) := by
 unfold lineB
 rw [← lineP_hash h]
 exact mk_append _ [35]
theorem lineB_size (a t : Nat) : (lineB a t).size = t := by
 show (lineP a t).toArray.size = t
 rw [List.size_toArray, lineP_len]
theorem lineB_zero (a : Nat) : lineB a 0 = ⟨#[]⟩ := by
 unfold lineB
 rw [lineP_zero]
theorem rep_one (x : UInt8) (c : Nat) : Lib.repeatL [x] c = List.replicate c x := by
 have h := Lib.repeatL_replicate x 1 c
 rw [Nat.mul_one] at h
 exact h
theorem lineB_rep (a n : Nat) : (⟨(Lib.repeatL [46] a).toArray⟩ ++ ⟨(Lib.repeatL [35] n).toArray⟩ : ByteArray) = lineB a (a + n) := by
 rw [rep_one, rep_one, mk_append]
 unfold lineB lineP
 rw [show min (a + n) a = a by omega, show a + n - a = n by omega]
theorem lineP_get {a t k : Nat} (h : k < t) : (lineP a t)[k]? = some (if k < a then 46 else 35) := by
 unfold lineP
 rw [List.getElem?_append]
 by_cases hk : k < a
 ·
  rw [if_pos hk, List.length_replicate, if_pos (by omega), List.getElem?_replicate, if_pos (by omega)]
 ·
  rw [if_neg hk, List.length_replicate, if_neg (by omega), List.getElem?_replicate, if_pos (by omega)]
def lnS (g : List Tk) (st : List Int) (i : Nat) : ByteArray := lineB (st.getD i 0).toNat ((st.getD i 0).toNat + (rdTk g i).f0.toNat)
def chS (g : List Tk) (rm : List Int) (wk : Int) (st : List Int) : List ByteArray := if vStB g rm wk st then (List.range g.length).map (lnS g st) else []
theorem chS_len_le (g : List Tk) (rm : List Int) (wk : Int) (st : List Int) : (chS g rm wk st).length ≤ g.length := by
 unfold chS
 split
 ·
  simp
 ·
  exact Nat.zero_le _
theorem range_snocC {α : Type} (f : Nat → α) (j : Nat) : (List.range (j + 1)).map f = (List.range j).map f ++ [f j] := by
 rw [List.range_succ, List.map_append]
 rfl
end Go.Proofs.YtlapphhcficbjaaDoor

namespace Go.Proofs.YtlapphhcficbjaaDoor
set_option linter.unusedVariables false
set_option linter.unusedSimpArgs false
open Go.RowKit Go.Shelf Bits
open Go.Proofs.YtlapphhcficbjaaDoorW.PrintWords Go.Proofs.YtlapphhcficbjaaDoorW.PrintLast Go.Proofs.YtlapphhcficbjaaDoorW.PrintMore
attribute [local go_sem] Oper.semAt_some
def cmpI (x y : Int) : Int := if x < y then -1 else if y < x then 1 else 0
def cmpE (a b : Ev) : Int := if a.f0 = b.f0 ∧ a.f2 ≠ b.f2 then (if a.f2 then -1 else 1) else if cmpI a.f0 b.f0 ≠ 0 then cmpI a.f0 b.f0 else cmpI a.f1 b.f1
theorem cmpI_neg {x y : Int} : cmpI x y < 0 ↔ x < y := by
 unfold cmpI
 split
 ·
  simp_all
 ·
  split <;> simp_all
theorem cmpI_zero {x y : Int} : cmpI x y = 0 ↔ x = y := by
 unfold cmpI
 split
 ·
  rename_i h
  constructor
  ·
   intro e; exact absurd e (by decide)
  ·
   intro e; omega
 ·
  rename_i h
  split
  ·
   rename_i h2
   constructor
   ·
    intro e; exact absurd e (by decide)
   ·
    intro e; omega
  ·
   rename_i h2
   exact ⟨fun _ => by omega, fun _ => rfl⟩
theorem cmpE_lt (a b : Ev) : cmpE a b < 0 ↔ ltE a b := by
 unfold cmpE ltE
 by_cases h0 : a.f0 = b.f0
 ·
  by_cases h2 : a.f2 = b.f2
  ·
   rw [if_neg (fun h => h.2 h2), if_neg (by rw [cmpI_zero.2 h0]; simp), cmpI_neg]
   constructor
   ·
    intro h
    exact .inr ⟨h0, .inr ⟨h2, h⟩⟩
   ·
    rintro (h | ⟨_, ⟨h, k⟩ | ⟨_, h⟩⟩)
    ·
     omega
    ·
     rw [h, k] at h2; cases h2
    ·
     exact h
  ·
   rw [if_pos ⟨h0, h2⟩]
   cases ha : a.f2
   ·
    simp only [Bool.false_eq_true, if_false]
    constructor
    ·
     intro h; exact absurd h (by decide)
    ·
     rintro (h | ⟨_, ⟨h, _⟩ | ⟨h, _⟩⟩)
     ·
      omega
     ·
      cases h
     ·
      rw [ha] at h2; exact absurd h h2
   ·
    have hb : b.f2 = false := by
     cases hb : b.f2
     ·
      rfl
     ·
      rw [ha, hb] at h2; exact absurd rfl h2
    simp only [if_true]
    exact ⟨fun _ => .inr ⟨h0, .inl ⟨by first | rfl | trivial | exact ha, hb⟩⟩, fun _ => by decide⟩
 ·
  rw [if_neg (fun h => h0 h.1), if_pos (fun h => h0 (cmpI_zero.1 h)), cmpI_neg]
  constructor
  ·
   exact .inl
  ·
   rintro (h | ⟨h, _⟩)
   ·
    exact h
   ·
    exact absurd h h0
theorem isNaN_calls (x : Int) (w : World) : Calls Tryd.prog 125 #[.int .i64 x] w fun e w' => e = .returned (.bool false) ∧ w' = w := by
 go_enter Tryd.func125, Tryd.ntmps125
 go_wp2
 go_ret
 exact ⟨ret_bool (by simp), rfl⟩
theorem compare_calls (x y : Int) (w : World) : Calls Tryd.prog 99 #[.int .i64 x, .int .i64 y] w fun e w' => e = .returned (.int .i64 (cmpI x y)) ∧ w' = w := by
 by_cases h1 : x < y
 ·
  have d1 : decide (x < y) = true := decide_eq_true h1
  have HF : Hid (cmpI x y = -1) := Lib.hid (by unfold cmpI; rw [if_pos h1])
  clear h1
  go_enter Tryd.func99, Tryd.ntmps99
  go_wp2_with (go_at_call 125; refine (isNaN_calls _ _).mono ?_; rintro e w' ⟨rfl, rfl⟩)
  go_ret
  exact ⟨ret_int HF.out.symm, rfl⟩
 ·
  have d1 : decide (x < y) = false := decide_eq_false h1
  by_cases h2 : y < x
  ·
   have d2 : decide (y < x) = true := decide_eq_true h2
   have HF : Hid (cmpI x y = 1) := Lib.hid (by unfold cmpI; rw [if_neg h1, if_pos h2])
   clear h1 h2
   go_enter Tryd.func99, Tryd.ntmps99
   go_wp2_with (go_at_call 125; refine (isNaN_calls _ _).mono ?_; rintro e w' ⟨rfl, rfl⟩)
   go_ret
   exact ⟨ret_int HF.out.symm, rfl⟩
  ·
   have d2 : decide (y < x) = false := decide_eq_false h2
   have HF : Hid (cmpI x y = 0) := Lib.hid (by unfold cmpI; rw [if_neg h1, if_neg h2])
   clear h1 h2
   go_enter Tryd.func99, Tryd.ntmps99
   go_wp2_with (go_at_call 125; refine (isNaN_calls _ _).mono ?_; rintro e w' ⟨rfl, rfl⟩)
   go_ret
   exact ⟨ret_int HF.out.symm, rfl⟩
theorem or_calls (A : Option Addr) (c : Nat) (a b r : Int) (HR : Hid ((if a ≠ 0 then a else b) = r)) (w : World) (hr : (Kd.int .i64).C w A 2 [a, b]) : Calls Tryd.prog 98 #[.slice A 2 c] w fun e w' => e = .returned (.int .i64 r) ∧ w' = w := by
 obtain ⟨ad, rfl, c0⟩ := at_num hr 0 (by omega)
 obtain ⟨ad', e', c1⟩ := at_num hr 1 (by omega)
 cases e'
 replace c0 : w.cell? (ad.add 0) = some (.int .i64 a) := c0
 rw [show ad.add 0 = ad from by cases ad; rfl] at c0
 replace c1 : w.cell? (ad.add 1) = some (.int .i64 b) := c1
 have c1 : w.cell? ⟨ad.block, ad.off + 1, none⟩ = some (.int .i64 b) := by simpa [Addr.add] using c1
 clear hr
 go_enter Tryd.func98, Tryd.ntmps98
 go_wp2
 go_loop [8] (fun i => ∃ (j : Nat), j ≤ 2 ∧ i = .int .i64 j ∧ Hid ((1 ≤ j → a = 0) ∧ (2 ≤ j → b = 0))) (fun i => 2 - (intOf i).toNat)
 case atStart => exact ⟨0, by omega, rfl, Lib.hid ⟨fun h => by omega, fun h => by omega⟩⟩
 case round =>
  obtain ⟨j, hj, rfl, HS⟩ := hrel
  by_cases h0 : j = 0
  ·
   subst h0
   by_cases ha : a = 0
   ·
    have da : (a != 0) = false := by rw [bne_eq_false_iff_eq]; exact ha
    have HA := Lib.hid ha
    clear ha
    go_wp2
    go_round
    case rel => exact ⟨1, by omega, rfl, Lib.hid ⟨fun _ => HA.out, fun h => by omega⟩⟩
    case measure => simp [intOf]
   ·
    have da : (a != 0) = true := by rw [bne_iff_ne]; exact ha
    have HF : Hid (r = a) := Lib.hid (by rw [← HR.out]; exact if_pos ha)
    clear ha
    go_wp2
    go_ret
    exact ⟨ret_int HF.out.symm, rfl⟩
  ·
   by_cases h1 : j = 1
   ·
    subst h1
    have HA := Lib.hid (HS.out.1 (Nat.le_refl _))
    by_cases hb : b = 0
    ·
     have da : (b != 0) = false := by rw [bne_eq_false_iff_eq]; exact hb
     have HB := Lib.hid hb
     clear hb h0
     go_wp2
     go_round
     case rel => exact ⟨2, by omega, rfl, Lib.hid ⟨fun _ => HA.out, fun _ => HB.out⟩⟩
     case measure => simp [intOf]
    ·
     have da : (b != 0) = true := by rw [bne_iff_ne]; exact hb
     have HF : Hid (r = b) := Lib.hid (by rw [← HR.out]; exact if_neg (fun h => h HA.out))
     clear hb h0
     go_wp2
     go_ret
     exact ⟨ret_int HF.out.symm, rfl⟩
   ·
    obtain rfl : j = 2 := by omega
    have HF : Hid (r = 0) := Lib.hid (by rw [← HR.out, HS.out.2 (Nat.le_refl _), HS.out.1 (by omega)]; rfl)
    clear h0 h1
    go_wp2
    go_ret
    exact ⟨ret_int HF.out.symm, rfl⟩
end Go.Proofs.YtlapphhcficbjaaDoor

namespace Go.Proofs.YtlapphhcficbjaaDoorW.PrintWords
set_option linter.unusedVariables false
set_option linter.unusedSimpArgs false
open Go Go.RowKit
namespace Kd
section
variable {α : Type} {d : Kd α} {e base g n cap : Nat} {ok ok' oki okp : Nat → Prop} {W : World} {v : Value} {xs : List α} {i : Int} {c : List Value}
theorem H_N (h : H d e W base ok v xs i oki c) (h0 : 0 ≤ i) (hi : i.toNat < xs.length) {x' : α} (hF : FK d W okp x' c) (hp : ∀ k, okp k → ok' k ∧ some k ≠ v.ownBlock) (ho : ∀ k, ok k → ok' k) : N d e W base ok' v (xs.set i.toNat x') := by
 obtain ⟨hoo, f, hown, inner, hw, hr⟩ := h
 rw [List.length_zipIdx] at hw
 have hraw := reps_raw hr (fun x cs hq => ⟨(gap f d i.toNat c).K_len ((gap f d i.toNat c).K_of_M hq), (gap f d i.toNat c).K_one ((gap f d i.toNat c).K_of_M hq)⟩)
 rw [List.length_zipIdx] at hraw
 refine ⟨fun k hk => ho k (hown k hk).1, chunks d.sz xs.length inner, by rw [chunks_length, List.length_set], ⟨fun k hk => hk.symm, inner, by rw [chunks_length]; exact hw, hraw⟩, fun j x cs hx hc => ?_⟩
 have hj : j < xs.length := by have := (List.getElem?_eq_some_iff.1 hx).1; rwa [List.length_set] at this
 have hM := hr.2 j _ (zip_at (List.getElem?_eq_getElem hj))
 rw [chunks_get hc]
 by_cases he : j = i.toNat
 ·
  subst he
  rw [List.getElem?_set_self hj] at hx
  injection hx with hx
  subst hx
  have e9 : (inner.drop (i.toNat * d.sz)).take d.sz = c := (hM.1 rfl).1
  rw [e9]
  exact FK_mono hF hp
 ·
  rw [List.getElem?_set_ne (fun e_ => he e_.symm), List.getElem?_eq_getElem hj] at hx
  injection hx with hx
  subst hx
  exact FK_mono (FK_of_M (hM.2 he)) (fun k hk => ⟨ho k hk.1.1.1, hk.1.2⟩)
theorem H_lt9 (h : H d e W base ok (.slice (some ⟨g, 0, none⟩) n cap) xs i oki c) : g < W.heap.size := by
 obtain ⟨_, f, hR⟩ := h
 exact R_lt hR g (by simp [Value.ownBlock])
end
end Kd
end Go.Proofs.YtlapphhcficbjaaDoorW.PrintWords
