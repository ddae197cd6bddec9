/- Parts of the proof, laid as one text by a program of mine. -/
import Derived.Test.YtkljcdghbefceaaDoorKbestc21
import Derived.Test.YtkljcdghbefceaaDoorKbestc15
import Derived.Test.YtkljcdghbefceaaDoorKbestc12
import Derived.Test.YtkljcdghbefceaaDoorKbestc16
import Derived.Test.YtkljcdghbefceaaDoorKbestc18
import Derived.OrdersHeld
import Derived.Lib.SliceRun
import Derived.Deep.RegionHeld3
import Derived.Test.YtkljcdghbefceaaDoorKbestc17
import Derived.Test.YtkljcdghbefceaaDoorKbestc14
import Derived.Test.YtkljcdghbefceaaDoorKbestc2
namespace Go.Proofs.YtkljcdghbefceaaDoor
set_option linter.unusedVariables false
set_option linter.unusedSimpArgs false
open Go.RowKit Go.Shelf Bits
open Go.Proofs.YtkljcdghbefceaaDoorW.PrintWords Go.Proofs.YtkljcdghbefceaaDoorW.PrintLast Go.Proofs.YtkljcdghbefceaaDoorW.PrintMore
attribute [local go_sem] Oper.semAt_some
def maskN (P : Nat → Bool) : Nat → Nat
 | 0 => 0
 | n + 1 => if P n then maskN P n ||| 2 ^ n else maskN P n
theorem maskN_lt (P : Nat → Bool) : ∀ n, maskN P n < 2 ^ n
 | 0 => by simp [maskN]
 | n + 1 => by
  have ih := maskN_lt P n
  have h2 : maskN P n < 2 ^ (n + 1) := Nat.lt_of_lt_of_le ih (Nat.pow_le_pow_right (by omega) (Nat.le_succ n))
  unfold maskN
  split
  ·
   exact Nat.or_lt_two_pow h2 (Nat.pow_lt_pow_right (by omega) (by omega))
  ·
   exact h2
theorem maskN_bit (P : Nat → Bool) : ∀ n j, j < n → (maskN P n).testBit j = P j
 | n + 1, j, hj => by
  unfold maskN
  by_cases h : j = n
  ·
   subst h
   have h0 : (maskN P j).testBit j = false := bit_far (maskN_lt P j) (Nat.le_refl _)
   cases hp : P j with
   | true => rw [if_pos rfl, or_bit]; simp
   | false => rw [if_neg (by simp)]; exact h0
  ·
   have ih := maskN_bit P n j (by omega)
   split
   ·
    rw [or_bit, ih]; simp [show n ≠ j from fun e => h e.symm]
   ·
    exact ih
theorem els_mask (P : Nat → Bool) {n : Nat} (hn : n ≤ 16) : els (maskN P n) = ints ((List.range n).filter P) := by
 unfold els
 rw [elems_eq hn (maskN_lt P n) P (fun j hj => maskN_bit P n j hj)]
 rfl
theorem maskN_u16 (P : Nat → Bool) {n : Nat} (hn : n ≤ 16) : maskN P n < 65536 := Nat.lt_of_lt_of_le (maskN_lt P n) (Nat.le_trans (Nat.pow_le_pow_right (by omega) hn) (by decide))
theorem startsIn_yes (A : Option Addr) (c : Nat) (g : List Tk) (A1 : Option Addr) (c1 : Nat) (rm : List Int) (wk : Int) (A2 : Option Addr) (c2 : Nat) (st : List Int) (h : vStB g rm wk st = true) (w : World) (hr : kTk.C w A g.length g) (hr1 : (Kd.int .i64).C w A1 rm.length rm) (hr2 : (Kd.int .i64).C w A2 st.length st) (hT : Tab w) :
  Calls Tryd.prog 41 #[.slice A g.length c, .slice A1 rm.length c1, .int .i64 wk, .slice A2 st.length c2] w fun e w' => ∃ C ns, e = .returned (.tuple #[.pointer (some ⟨C, 0, none⟩), .bool true]) ∧ graphN g = some ns ∧ IsGraph w' C g ns ∧ Below w.heap.size w w' := by
 refine (startsIn_calls A c g A1 c1 rm wk A2 c2 st w hr hr1 hr2 hT).mono ?_
 rintro e w' (⟨_, hC⟩ | ⟨h2, _⟩)
 ·
  obtain ⟨C, ns, h1, h2, h3, h4⟩ := hC
  exact ⟨C, ns, h1, h2, h3, h4⟩
 ·
  rw [st_eq, h] at h2
  cases h2
theorem startsIn_no (A : Option Addr) (c : Nat) (g : List Tk) (A1 : Option Addr) (c1 : Nat) (rm : List Int) (wk : Int) (A2 : Option Addr) (c2 : Nat) (st : List Int) (h : vStB g rm wk st = false) (w : World) (hr : kTk.C w A g.length g) (hr1 : (Kd.int .i64).C w A1 rm.length rm) (hr2 : (Kd.int .i64).C w A2 st.length st) (hT : Tab w) :
  Calls Tryd.prog 41 #[.slice A g.length c, .slice A1 rm.length c1, .int .i64 wk, .slice A2 st.length c2] w fun e w' => e = .returned (.tuple #[.pointer none, .bool false]) ∧ Below w.heap.size w w' := by
 refine (startsIn_calls A c g A1 c1 rm wk A2 c2 st w hr hr1 hr2 hT).mono ?_
 rintro e w' (⟨h2, _⟩ | ⟨_, hC⟩)
 ·
  rw [st_eq, h] at h2
  cases h2
 ·
  exact hC
set_option maxRecDepth 100000 in
theorem ValidStarts_impl (A : Option Addr) (c : Nat) (g : List Tk) (A1 : Option Addr) (c1 : Nat) (rm : List Int) (wk : Int) (A2 : Option Addr) (c2 : Nat) (st : List Int) (w : World) (hr : kTk.C w A g.length g) (hr1 : (Kd.int .i64).C w A1 rm.length rm) (hr2 : (Kd.int .i64).C w A2 st.length st) (hT : Tab w) :
  Calls Tryd.prog 14 #[.slice A g.length c, .slice A1 rm.length c1, .int .i64 wk, .slice A2 st.length c2] w fun e w' => e = .returned (.bool (vStB g rm wk st)) ∧ Below w.heap.size w w' := by
 cases h : vStB g rm wk st with
 | true =>
  have HP := Lib.hid (startsIn_yes A c g A1 c1 rm wk A2 c2 st h w hr hr1 hr2 hT)
  clear hr hr1 hr2 hT h
  go_enter Tryd.func14, Tryd.ntmps14
  go_wp2_with (go_at_call 41; refine HP.out.mono ?_; rintro e w1 ⟨C, ns, rfl, hg, hG, hB1⟩)
  go_ret
  exact ⟨rfl, hB1⟩
 | false =>
  have HP := Lib.hid (startsIn_no A c g A1 c1 rm wk A2 c2 st h w hr hr1 hr2 hT)
  clear hr hr1 hr2 hT h
  go_enter Tryd.func14, Tryd.ntmps14
  go_wp2_with (go_at_call 41; refine HP.out.mono ?_; rintro e w1 ⟨rfl, hB1⟩)
  go_ret
  exact ⟨rfl, hB1⟩
set_option maxRecDepth 100000 in
theorem EndTime_impl (A : Option Addr) (c : Nat) (g : List Tk) (A1 : Option Addr) (c1 : Nat) (rm : List Int) (wk : Int) (A2 : Option Addr) (c2 : Nat) (st : List Int) (w : World) (hr : kTk.C w A g.length g) (hr1 : (Kd.int .i64).C w A1 rm.length rm) (hr2 : (Kd.int .i64).C w A2 st.length st) (hT : Tab w) :
  Calls Tryd.prog 15 #[.slice A g.length c, .slice A1 rm.length c1, .int .i64 wk, .slice A2 st.length c2] w fun e w' => e = .returned (.int .i64 (etS g rm wk st)) ∧ Below w.heap.size w w' := by
 cases h : vStB g rm wk st with
 | true =>
  have HF : Hid (etS g rm wk st = endS g st g.length) := Lib.hid (by unfold etS; rw [if_pos h])
  have HP := Lib.hid (startsIn_yes A c g A1 c1 rm wk A2 c2 st h w hr hr1 hr2 hT)
  have HV := Lib.hid (vSt_valid h)
  have HR2 := Lib.hid hr2
  clear hr hr1 hr2 hT h
  go_enter Tryd.func15, Tryd.ntmps15
  go_wp2_with (first | (go_at_call 41; refine HP.out.mono ?_; rintro e w1 ⟨C, ns, rfl, hg, hG, hB1⟩; have HG := Lib.hid hG; have HB1 := Lib.hid hB1; clear hg hG hB1) | (go_at_call 42; refine (iend_calls C g ns A2 c2 st HV.out.ok HV.out.sok HV.out.len _ HG.out (Kd.C_below HR2.out HB1.out)).mono ?_; rintro e w2 ⟨rfl, rfl⟩))
  go_ret
  exact ⟨ret_int HF.out.symm, HB1.out⟩
 | false =>
  have HF : Hid (etS g rm wk st = -1) := Lib.hid (by unfold etS; rw [h]; rfl)
  have HP := Lib.hid (startsIn_no A c g A1 c1 rm wk A2 c2 st h w hr hr1 hr2 hT)
  clear hr hr1 hr2 hT h
  go_enter Tryd.func15, Tryd.ntmps15
  go_wp2_with (go_at_call 41; refine HP.out.mono ?_; rintro e w1 ⟨rfl, hB1⟩)
  go_ret
  exact ⟨ret_int HF.out.symm, hB1⟩
end Go.Proofs.YtkljcdghbefceaaDoor

namespace Go.Proofs.YtkljcdghbefceaaDoor
set_option linter.unusedVariables false
set_option linter.unusedSimpArgs false
open Go.RowKit Go.Shelf Bits
open Go.Proofs.YtkljcdghbefceaaDoorW.PrintWords Go.Proofs.YtkljcdghbefceaaDoorW.PrintLast Go.Proofs.YtkljcdghbefceaaDoorW.PrintMore
theorem C_nilI (w : World) : (Kd.int .i64).C w none 0 [] := ⟨rfl, by simp, fun hn => absurd hn (by simp)⟩
set_option maxRecDepth 100000 in
theorem allTime_calls (A : Option Addr) (c : Nat) (g : List Tk) (h16 : g.length ≤ 16) (ht : ∀ i, 0 ≤ (rdTk g i).f0 ∧ (rdTk g i).f0 ≤ 1000) (w : World) (hr : kTk.C w A g.length g) :
  Calls Tryd.prog 16 #[.slice A g.length c] w fun e w' => e = .returned (.int .i64 (timeS g)) ∧ w' = w := by
 have HR := Lib.hid hr
 have HT := Lib.hid ht
 clear hr ht
 go_enter Tryd.func16, Tryd.ntmps16
 go_wp2
 go_loop [3, 4] (fun n i => ∃ (j : Nat), j ≤ g.length ∧ i = .int .i64 j ∧ n = .int .i64 (sumTo (fun i => (rdTk g i).f0) j)) (fun _ i => g.length - (intOf i).toNat)
 case atStart => exact ⟨0, Nat.zero_le _, rfl, rfl⟩
 case round =>
  obtain ⟨j, hj, rfl, rfl⟩ := hrel
  by_cases hjl : j < g.length
  ·
   obtain ⟨ad, A1, c1, rfl, hc0, _⟩ := at_Tk HR.out j hjl
   have hjj : decide ((j : Int) < (g.length : Int)) = true := decide_eq_true (by omega)
   have hji : (j : Int) < (g.length : Int) := by omega
   have HE : Hid (sumTo (fun i => (rdTk g i).f0) (j + 1) = sumTo (fun i => (rdTk g i).f0) j + (rdTk g j).f0) := Lib.hid rfl
   have hb := sumTo_bound (f := fun i => (rdTk g i).f0) (a := 0) (b := 1000) j (fun i _ => HT.out i)
   have htj := HT.out j
   generalize sumTo (fun i => (rdTk g i).f0) j = s at HE hb
   generalize (rdTk g j).f0 = tm at hc0 htj HE
   have hwr : IntKind.i64.wrap (s + tm) = s + tm := IntWalk.i64_in _ (by omega)
   go_wp2
   clear hwr
   go_round
   case rel => exact ⟨j + 1, by omega, by go_num, by rw [HE.out]⟩
   case measure => simp [intOf]; omega
  ·
   obtain rfl : j = g.length := by omega
   have hjj : decide ((g.length : Int) < (g.length : Int)) = false := decide_eq_false (by omega)
   go_wp2
   go_ret
   exact ⟨rfl, rfl⟩
end Go.Proofs.YtkljcdghbefceaaDoor

namespace Go.Proofs.YtkljcdghbefceaaDoor
set_option linter.unusedVariables false
set_option linter.unusedSimpArgs false
open Go.RowKit Go.Shelf Bits
def canN (g : List Tk) (l : List Nat) (i : Nat) : Bool := !decide (i ∈ l) && (rdTk g i).f1.all fun x => decide (x ∈ ints l)
def nextN2 (g : List Tk) (l : List Nat) : List Nat := (List.range g.length).filter (canN g l)
def ordersN (g : List Tk) : Nat → List Nat → List (List Nat)
 | 0, l => [l]
 | f + 1, l => (nextN2 g l).flatMap fun i => ordersN g f (l ++ [i])
def rowO (g : List Tk) (rm : List Int) (wk : Int) (l : List Nat) : List Int := l.foldl (ordSt g rm wk) (List.replicate g.length 200)
def endO (g : List Tk) (rm : List Int) (wk : Int) (l : List Nat) : Int := endS g (rowO g rm wk l) g.length
def scanO (E : List Nat → Int) (acc : Option (List Nat × Int)) (o : List Nat) : Option (List Nat × Int) := match acc with
 | none => some (o, E o)
 | some (b, x) => if E o < x then some (o, E o) else some (b, x)
def cutO (acc : Option (List Nat × Int)) (e : Int) : Bool := match acc with
 | none => false
 | some (_, x) => decide (x ≤ e)
def searchN (g : List Tk) (rm : List Int) (wk : Int) : Nat → List Nat → Int → Option (List Nat × Int) → Option (List Nat × Int)
 | 0, l, e, acc => if cutO acc e then acc else some (l, e)
 | f + 1, l, e, acc => if cutO acc e then acc else (nextN2 g l).foldl (fun a i => searchN g rm wk f (l ++ [i]) (max e ((placeS g rm wk (rowO g rm wk l) i : Nat) + (rdTk g i).f0)) a) acc
theorem scan_cut {E : List Nat → Int} {e : Int} : ∀ (os : List (List Nat)) (acc : Option (List Nat × Int)), cutO acc e = true → (∀ o ∈ os, e ≤ E o) → os.foldl (scanO E) acc = acc
 | [], acc, _, _ => rfl
 | o :: os, acc, h, ho => by
  rw [List.foldl_cons]
  have : scanO E acc o = acc := by
   cases acc with
   | none => cases h
   | some p =>
    obtain ⟨b, x⟩ := p
    have hx : x ≤ e := of_decide_eq_true h
    have := ho o List.mem_cons_self
    unfold scanO
    exact if_neg (by omega)
  rw [this]
  exact scan_cut os acc h (fun o ho2 => ho o (List.mem_cons_of_mem _ ho2))
theorem search_scan {g : List Tk} {rm : List Int} {wk : Int} {E : List Nat → Int} {X : Nat → List Nat → Int → Prop} (hE0 : ∀ l e, X 0 l e → E l = e) (hlow : ∀ f l e, X f l e → ∀ o ∈ ordersN g f l, e ≤ E o) (hX : ∀ f l e i, X (f + 1) l e → i ∈ nextN2 g l → X f (l ++ [i]) (max e ((placeS g rm wk (rowO g rm wk l) i : Nat) + (rdTk g i).f0))) :
  ∀ f l e acc, X f l e → searchN g rm wk f l e acc = (ordersN g f l).foldl (scanO E) acc
 | 0, l, e, acc, h => by
  unfold searchN ordersN
  have he := hE0 l e h
  cases acc with
  | none =>
   show some (l, e) = some (l, E l)
   rw [he]
  | some p =>
   obtain ⟨b, x⟩ := p
   show (if decide (x ≤ e) = true then some (b, x) else some (l, e)) = (if E l < x then some (l, E l) else some (b, x))
   rw [he]
   by_cases hx : x ≤ e
   ·
    rw [if_pos (decide_eq_true hx), if_neg (by omega)]
   ·
    rw [if_neg (by simp only [decide_eq_true_iff]; exact hx), if_pos (by omega)]
 | f + 1, l, e, acc, h => by
  cases hc : cutO acc e with
  | true =>
   rw [scan_cut _ acc hc (hlow (f + 1) l e h)]
   unfold searchN
   rw [hc, if_pos rfl]
  | false =>
   unfold searchN ordersN
   rw [hc, if_neg (by simp)]
   have key : ∀ (is : List Nat) (a : Option (List Nat × Int)), (∀ i ∈ is, i ∈ nextN2 g l) → is.foldl (fun a i => searchN g rm wk f (l ++ [i]) (max e ((placeS g rm wk (rowO g rm wk l) i : Nat) + (rdTk g i).f0)) a) a = (is.flatMap fun i => ordersN g f (l ++ [i])).foldl (scanO E) a := by
    intro is
    induction is with
    | nil => intro a _; rfl
    | cons i is ih =>
     intro a hi
     rw [List.foldl_cons, List.flatMap_cons, List.foldl_append, ← search_scan hE0 hlow hX f (l ++ [i]) _ a (hX f l e i h (hi i List.mem_cons_self))]
     exact ih _ (fun k hk => hi k (List.mem_cons_of_mem _ hk))
   exact key (nextN2 g l) acc (fun i hi => hi)
theorem scan_least {E : List Nat → Int} : ∀ (os : List (List Nat)) (acc : Option (List Nat × Int)), (∀ b x, acc = some (b, x) → x = E b) → (os ≠ [] ∨ acc ≠ none) → ∃ b, os.foldl (scanO E) acc = some (b, E b) ∧ (b ∈ os ∨ ∃ x, acc = some (b, x)) ∧ (∀ o ∈ os, E b ≤ E o) ∧ ∀ c x, acc = some (c, x) → E b ≤ x
 | [], acc, ha, hn => by
  cases acc with
  | none => rcases hn with h | h <;> exact absurd rfl h
  | some p =>
   obtain ⟨b, x⟩ := p
   have := ha b x rfl
   subst this
   exact ⟨b, rfl, .inr ⟨_, rfl⟩, fun o ho => absurd ho (by simp), fun c x h => by cases h; exact Int.le_refl _⟩
 | o :: os, acc, ha, _ => by
  rw [List.foldl_cons]
  have hs : ∃ c, scanO E acc o = some (c, E c) ∧ (c = o ∨ ∃ x, acc = some (c, x)) ∧ E c ≤ E o ∧ ∀ d x, acc = some (d, x) → E c ≤ x := by
   cases acc with
   | none => exact ⟨o, rfl, .inl rfl, Int.le_refl _, fun d x h => by cases h⟩
   | some p =>
    obtain ⟨b, x⟩ := p
    have hx := ha b x rfl
    unfold scanO
    show ∃ c, (if E o < x then some (o, E o) else some (b, x)) = some (c, E c) ∧ _
    by_cases h : E o < x
    ·
     rw [if_pos h]
     exact ⟨o, rfl, .inl rfl, Int.le_refl _, fun d y hd => by cases hd; omega⟩
    ·
     rw [if_neg h]
     exact ⟨b, by rw [hx], .inr ⟨x, rfl⟩, by omega, fun d y hd => by cases hd; omega⟩
  obtain ⟨c, h1, h2, h3, h4⟩ := hs
  obtain ⟨b, b1, b2, b3, b4⟩ := scan_least os (scanO E acc o) (fun b x h => by rw [h1] at h; cases h; rfl) (.inr (by rw [h1]; simp))
  refine ⟨b, b1, ?_, fun q hq => ?_, fun d x hd => ?_⟩
  ·
   rcases b2 with b2 | ⟨x, b2⟩
   ·
    exact .inl (List.mem_cons_of_mem _ b2)
   ·
    rw [h1] at b2
    cases b2
    rcases h2 with rfl | h2
    ·
     exact .inl List.mem_cons_self
    ·
     exact .inr h2
  ·
   have hbc := b4 c (E c) h1
   rcases List.mem_cons.1 hq with rfl | hq
   ·
    omega
   ·
    exact b3 q hq
  ·
   have hbc := b4 c (E c) h1
   have := h4 d x hd
   omega
end Go.Proofs.YtkljcdghbefceaaDoor

namespace Go.Proofs.YtkljcdghbefceaaDoor
set_option linter.unusedVariables false
set_option linter.unusedSimpArgs false
open Go.RowKit Go.Shelf Bits
def upI (n b : Int) : Int := Int.tdiv (n + b - 1) b
def poolF (g : List Tk) (p : Int) (i : Nat) : Int := if (rdTk g i).f2 = p then (rdTk g i).f0 * (rdTk g i).f3 else 0
def poolW (g : List Tk) (p : Int) : Int := sumTo (poolF g p) g.length
def poolS (g : List Tk) (p r : Int) : Int := if specValid g && (inB p 0 2 && inB r 4 8) then upI (poolW g p) r else -1
def leastN (g : List Tk) (rm : List Int) (wk : Int) : Nat → Int
 | 0 => max (longestN g) (upI (timeS g) wk)
 | p + 1 => max (leastN g rm wk p) (poolS g p (rm.getD p 0))
def leS (g : List Tk) (rm : List Int) (wk : Int) : Int := if specValid g && placeB rm wk then leastN g rm wk 3 else -1
theorem upI_le {n b k : Int} (hn : 0 ≤ n) (hb : 1 ≤ b) (h : n ≤ k * b) : upI n b ≤ k := by
 unfold upI
 rw [Int.tdiv_eq_ediv_of_nonneg (by omega)]
 have : (n + b - 1) / b < k + 1 := Int.ediv_lt_of_lt_mul (by omega) (by rw [Int.add_mul]; omega)
 omega
theorem upI_mul {n b : Int} (hn : 0 ≤ n) (hb : 1 ≤ b) : n ≤ upI n b * b := by
 unfold upI
 rw [Int.tdiv_eq_ediv_of_nonneg (by omega)]
 have h1 := Int.emod_add_mul_ediv (n + b - 1) b
 have h2 := Int.emod_lt_of_pos (n + b - 1) (show 0 < b by omega)
 rw [Int.mul_comm] at h1
 omega
theorem upI_nonneg {n b : Int} (hn : 0 ≤ n) (hb : 1 ≤ b) : 0 ≤ upI n b := by
 unfold upI
 exact Int.tdiv_nonneg (by omega) (by omega)
theorem poolF_bound {g : List Tk} (hok : TOk g) (p : Int) (i : Nat) : 0 ≤ poolF g p i ∧ poolF g p i ≤ 80 := by
 have h2 := hok.2.1 i
 have h3 := hok.2.2.2.1 i
 unfold poolF
 split
 ·
  have := Int.mul_nonneg (show 0 ≤ (rdTk g i).f0 by omega) (show 0 ≤ (rdTk g i).f3 by omega)
  have : (rdTk g i).f0 * (rdTk g i).f3 ≤ 20 * 4 := Int.mul_le_mul (by omega) (by omega) (by omega) (by omega)
  omega
 ·
  omega
theorem poolSum_bound {g : List Tk} (hok : TOk g) (p : Int) (n : Nat) (hn : n ≤ 8) : 0 ≤ sumTo (poolF g p) n ∧ sumTo (poolF g p) n ≤ 640 := by
 have := sumTo_bound (f := poolF g p) (a := 0) (b := 80) n (fun i _ => poolF_bound hok p i)
 omega
theorem poolW_bound {g : List Tk} (hok : TOk g) (p : Int) : 0 ≤ poolW g p ∧ poolW g p ≤ 640 := poolSum_bound hok p _ hok.1
theorem poolS_is {g : List Tk} (hv : specValid g = true) {p r : Int} (hp : 0 ≤ p ∧ p ≤ 2) (hr : 4 ≤ r ∧ r ≤ 8) : poolS g p r = upI (poolW g p) r := by
 unfold poolS
 rw [hv, inB_true.2 hp, inB_true.2 hr]
 rfl
theorem leastN_le {g : List Tk} {rm : List Int} {wk k : Int} (h0 : longestN g ≤ k) (h1 : upI (timeS g) wk ≤ k) (h2 : ∀ p : Nat, p < 3 → poolS g p (rm.getD p 0) ≤ k) : ∀ m, m ≤ 3 → leastN g rm wk m ≤ k
 | 0, _ => by unfold leastN; omega
 | m + 1, hm => by
  have := leastN_le h0 h1 h2 m (by omega)
  have := h2 m (by omega)
  unfold leastN
  omega
theorem leastN_ge (g : List Tk) (rm : List Int) (wk : Int) : ∀ m, longestN g ≤ leastN g rm wk m ∧ upI (timeS g) wk ≤ leastN g rm wk m ∧ ∀ p : Nat, p < m → poolS g p (rm.getD p 0) ≤ leastN g rm wk m
 | 0 => by
  refine ⟨?_, ?_, fun p hp => absurd hp (Nat.not_lt_zero _)⟩ <;> unfold leastN <;> omega
 | m + 1 => by
  obtain ⟨h1, h2, h3⟩ := leastN_ge g rm wk m
  refine ⟨?_, ?_, fun p hp => ?_⟩ <;> unfold leastN
  ·
   omega
  ·
   omega
  ·
   by_cases e : p = m
   ·
    subst e
    omega
   ·
    have := h3 p (by omega)
    omega
theorem leS_is {g : List Tk} (hv : specValid g = true) {rm : List Int} {wk : Int} (hp : placeB rm wk = true) : leS g rm wk = leastN g rm wk 3 := by
 unfold leS
 rw [hv, hp]
 rfl
theorem end_least {g : List Tk} {rm : List Int} {wk : Int} {st : List Int} (h : Valid g rm wk st) : leS g rm wk ≤ etS g rm wk st := by
 rw [leS_is h.v h.p, etS_valid h]
 obtain ⟨hrm, hwk, _⟩ := placeB_facts h.p
 obtain ⟨w1, w2⟩ := h.work
 have hE := endS_nonneg g st g.length
 refine leastN_le (longest_le h.v (fun i hi => (h.b i hi).1) (fun k hk i hi => h.needs k hk i hi)) (upI_le (timeS_bound h.ok).1 hwk w1) (fun p hp => ?_) 3 (Nat.le_refl _)
 have hr := (roomB_facts hrm).2 p hp
 rw [poolS_is h.v (by omega) hr]
 exact upI_le (poolW_bound h.ok p).1 (by omega) (w2 p hp)
theorem least_more {g : List Tk} (hv : specValid g = true) {rm : List Int} {wk : Int} (hp : placeB rm wk = true) (h4 : wk ≠ 4) : leS g rm (wk + 1) ≤ leS g rm wk := by
 obtain ⟨hrm, h1, h2⟩ := placeB_facts hp
 have hp1 : placeB rm (wk + 1) = true := by
  unfold placeB
  rw [hrm, Bool.true_and]
  exact inB_true.2 (by omega)
 rw [leS_is hv hp, leS_is hv hp1]
 obtain ⟨g1, g2, g3⟩ := leastN_ge g rm wk 3
 have hT := timeS_bound (specValid_TOk hv)
 have hm := upI_mul hT.1 h1
 have hu := upI_nonneg hT.1 h1
 refine leastN_le g1 (Int.le_trans (upI_le hT.1 (by omega) ?_) g2) g3 3 (Nat.le_refl _)
 rw [Int.mul_add, Int.mul_one]
 omega
theorem leS_nonneg {g : List Tk} {rm : List Int} {wk : Int} (h : 0 ≤ leS g rm wk) : specValid g = true ∧ placeB rm wk = true := by
 unfold leS at h
 by_cases hc : (specValid g && placeB rm wk) = true
 ·
  rwa [Bool.and_eq_true] at hc
 ·
  rw [if_neg hc] at h
  omega
theorem plan_end_least {g : List Tk} {rm : List Int} {wk : Int} (h : 0 ≤ leS g rm wk) : leS g rm wk ≤ etS g rm wk (pS g rm wk) := by
 obtain ⟨hv, hp⟩ := leS_nonneg h
 rw [pS_is hv hp]
 exact end_least (plan_valid hv hp)
end Go.Proofs.YtkljcdghbefceaaDoor

namespace Go.Proofs.YtkljcdghbefceaaDoor
set_option linter.unusedVariables false
set_option linter.unusedSimpArgs false
open Go.RowKit Go.Shelf Bits
inductive POrd (g : List Tk) : List Nat → Prop
 | nil : POrd g []
 | snoc {l : List Nat} {i : Nat} : POrd g l → i < g.length → canN g l i = true → POrd g (l ++ [i])
theorem canN_iff {g : List Tk} {l : List Nat} {i : Nat} : canN g l i = true ↔ ¬ i ∈ l ∧ ∀ x ∈ (rdTk g i).f1, x ∈ ints l := by
 unfold canN
 rw [Bool.and_eq_true, Bool.not_eq_true', decide_eq_false_iff_not, List.all_eq_true]
 simp only [decide_eq_true_iff]
theorem canN_needs {g : List Tk} {l : List Nat} {i : Nat} (h : canN g l i = true) : ∀ x ∈ (rdTk g i).f1, x.toNat ∈ l := fun x hx => by
 have := (canN_iff.1 h).2 x hx
 unfold ints at this
 obtain ⟨k, hk, e⟩ := List.mem_map.1 this
 rw [← e]
 exact hk
theorem nextN2_mem {g : List Tk} {l : List Nat} {i : Nat} : i ∈ nextN2 g l ↔ i < g.length ∧ canN g l i = true := by
 unfold nextN2
 rw [List.mem_filter, List.mem_range]
theorem POrd.nd {g : List Tk} {l : List Nat} (h : POrd g l) : l.Nodup ∧ ∀ i ∈ l, i < g.length := by
 induction h with
 | nil => exact ⟨List.nodup_nil, fun i hi => absurd hi (by simp)⟩
 | snoc h hi hc ih =>
  refine ⟨?_, fun k hk => ?_⟩
  ·
   rw [List.nodup_append]
   refine ⟨ih.1, by simp, fun a ha b hb => ?_⟩
   rw [List.mem_singleton.1 hb]
   exact fun e => (canN_iff.1 hc).1 (e ▸ ha)
  ·
   rcases List.mem_append.1 hk with hk | hk
   ·
    exact ih.2 k hk
   ·
    rw [List.mem_singleton.1 hk]; exact hi
theorem POrd.ned {g : List Tk} {l : List Nat} (h : POrd g l) : ∀ j, j < l.length → ∀ x ∈ (rdTk g (l.getD j 0)).f1, x.toNat ∈ l.take j := by
 induction h with
 | nil => exact fun j hj => absurd hj (Nat.not_lt_zero _)
 | @snoc l i h hi hc ih =>
  intro j hj x hx
  rw [List.length_append, List.length_singleton] at hj
  by_cases hjl : j < l.length
  ·
   have e : (l ++ [i]).getD j 0 = l.getD j 0 := by
    rw [List.getD_eq_getElem?_getD, List.getD_eq_getElem?_getD, List.getElem?_append_left hjl]
   rw [e] at hx
   rw [List.take_append_of_le_length (by omega)]
   exact ih j hjl x hx
  ·
   obtain rfl : j = l.length := by omega
   have e : (l ++ [i]).getD l.length 0 = i := by
    rw [List.getD_eq_getElem?_getD, List.getElem?_append_right (Nat.le_refl _), Nat.sub_self]
    rfl
   rw [e] at hx
   rw [List.take_append_of_le_length (Nat.le_refl _), List.take_length]
   exact canN_needs hc x hx
theorem POrd.ord {g : List Tk} {l : List Nat} (h : POrd g l) (hl : l.length = g.length) : IsOrd g l := ⟨hl, h.nd.2, h.nd.1, h.ned⟩
theorem POrd.le {g : List Tk} {l : List Nat} (h : POrd g l) : l.length ≤ g.length := nodup_below h.nd.1 h.nd.2
theorem rowO_snoc (g : List Tk) (rm : List Int) (wk : Int) (l : List Nat) (i : Nat) : rowO g rm wk (l ++ [i]) = ordSt g rm wk (rowO g rm wk l) i := by
 unfold rowO
 rw [List.foldl_append]
 rfl
theorem rowO_take (g : List Tk) (rm : List Int) (wk : Int) (l : List Nat) : ∀ j, j ≤ l.length → rowO g rm wk (l.take j) = ordL g rm wk l j
 | 0, _ => rfl
 | j + 1, hj => by
  rw [take_snocN (by omega), rowO_snoc, rowO_take g rm wk l j (by omega)]
  rfl
theorem rowO_all (g : List Tk) (rm : List Int) (wk : Int) (l : List Nat) : rowO g rm wk l = ordL g rm wk l l.length := by
 have := rowO_take g rm wk l l.length (Nat.le_refl _)
 rwa [List.take_length] at this
theorem POrd.part {g : List Tk} {rm : List Int} {wk : Int} {l : List Nat} (hok : TOk g) (hp : placeB rm wk = true) (h : POrd g l) : Part g rm wk l (rowO g rm wk l) := by
 induction h with
 | nil => exact part_zero hp
 | snoc h hi hc ih =>
  rw [rowO_snoc]
  exact ih.step hok hp h.nd.1 hi (canN_iff.1 hc).1 (canN_needs hc)
def endP (g : List Tk) (rm : List Int) (wk : Int) (l : List Nat) : Int := bF g (rowO g rm wk l) l
theorem bF_congrM {g : List Tk} {st st' : List Int} : ∀ (l : List Nat) (m : Int), (∀ k ∈ l, st.getD k 0 = st'.getD k 0) → l.foldl (fun m k => max m (st.getD k 0 + (rdTk g k).f0)) m = l.foldl (fun m k => max m (st'.getD k 0 + (rdTk g k).f0)) m
 | [], _, _ => rfl
 | k :: l, m, h => by
  rw [List.foldl_cons, List.foldl_cons, h k List.mem_cons_self]
  exact bF_congrM l _ (fun q hq => h q (List.mem_cons_of_mem _ hq))
theorem bF_congr {g : List Tk} {st st' : List Int} (l : List Nat) (h : ∀ k ∈ l, st.getD k 0 = st'.getD k 0) : bF g st l = bF g st' l := bF_congrM l 0 h
theorem endP_snoc {g : List Tk} {rm : List Int} {wk : Int} {l : List Nat} {i : Nat} (hok : TOk g) (hp : placeB rm wk = true) (h : POrd g l) (hi : i < g.length) (hc : canN g l i = true) :
  endP g rm wk (l ++ [i]) = max (endP g rm wk l) ((placeS g rm wk (rowO g rm wk l) i : Nat) + (rdTk g i).f0) := by
 have hlen := (h.part hok hp).len
 unfold endP
 rw [bF_snoc, rowO_snoc]
 have e1 : bF g (ordSt g rm wk (rowO g rm wk l) i) l = bF g (rowO g rm wk l) l := bF_congr l (fun k hk => by
  unfold ordSt
  rw [getD_setL]
  by_cases e : k = i
  ·
   exact absurd (e ▸ hk) (canN_iff.1 hc).1
  ·
   rw [if_neg (fun h => e h.1)])
 have e2 : (ordSt g rm wk (rowO g rm wk l) i).getD i 0 = (placeS g rm wk (rowO g rm wk l) i : Nat) := by
  unfold ordSt
  rw [getD_setL, if_pos ⟨rfl, by rw [hlen]; exact hi⟩]
 rw [e1, e2]
theorem endP_all {g : List Tk} {rm : List Int} {wk : Int} {l : List Nat} (h : IsOrd g l) : endP g rm wk l = endO g rm wk l := by
 unfold endP endO
 generalize rowO g rm wk l = st
 obtain ⟨b1, b2, b3⟩ := bF_from (g := g) (st := st) l 0
 refine Int.le_antisymm (b3 _ (endS_nonneg _ _ _) (fun k hk => endS_mono g st k _ (h.lt k hk))) ?_
 exact endS_le b1 _ (fun i hi => b2 i (ord_all h hi))
theorem ordersN_ord {g : List Tk} : ∀ (f : Nat) (l : List Nat), POrd g l → l.length + f = g.length → ∀ o ∈ ordersN g f l, IsOrd g o
 | 0, l, h, hl, o, ho => by
  rw [List.mem_singleton.1 ho]
  exact h.ord hl
 | f + 1, l, h, hl, o, ho => by
  unfold ordersN at ho
  obtain ⟨i, hi, ho⟩ := List.mem_flatMap.1 ho
  obtain ⟨hi, hc⟩ := nextN2_mem.1 hi
  exact ordersN_ord f (l ++ [i]) (h.snoc hi hc) (by rw [List.length_append, List.length_singleton]; omega) o ho
theorem ordersN_low {g : List Tk} {rm : List Int} {wk : Int} (hok : TOk g) (hp : placeB rm wk = true) : ∀ (f : Nat) (l : List Nat), POrd g l → l.length + f = g.length → ∀ o ∈ ordersN g f l, endP g rm wk l ≤ endO g rm wk o
 | 0, l, h, hl, o, ho => by
  rw [List.mem_singleton.1 ho, endP_all (h.ord hl)]
  exact Int.le_refl _
 | f + 1, l, h, hl, o, ho => by
  unfold ordersN at ho
  obtain ⟨i, hi, ho⟩ := List.mem_flatMap.1 ho
  obtain ⟨hi, hc⟩ := nextN2_mem.1 hi
  have h1 := ordersN_low hok hp f (l ++ [i]) (h.snoc hi hc) (by rw [List.length_append, List.length_singleton]; omega) o ho
  rw [endP_snoc hok hp h hi hc] at h1
  omega
theorem search_eq {g : List Tk} {rm : List Int} {wk : Int} (hok : TOk g) (hp : placeB rm wk = true) : searchN g rm wk g.length [] 0 none = (ordersN g g.length []).foldl (scanO (endO g rm wk)) none := by
 refine search_scan (X := fun f l e => POrd g l ∧ l.length + f = g.length ∧ e = endP g rm wk l) (fun l e h => ?_) (fun f l e h o ho => ?_) (fun f l e i h hi => ?_) g.length [] 0 none ⟨.nil, by simp, rfl⟩
 ·
  rw [h.2.2]
  exact (endP_all (h.1.ord (by have := h.2.1; omega))).symm
 ·
  rw [h.2.2]
  exact ordersN_low hok hp f l h.1 h.2.1 o ho
 ·
  obtain ⟨hi, hc⟩ := nextN2_mem.1 hi
  refine ⟨h.1.snoc hi hc, by have := h.2.1; rw [List.length_append, List.length_singleton]; omega, ?_⟩
  rw [endP_snoc hok hp h.1 hi hc, h.2.2]
theorem take_pord {g : List Tk} {o : List Nat} (hv : specValid g = true) (h : IsOrd g o) {j : Nat} (hj : j < o.length) : o.getD j 0 ∈ nextN2 g (o.take j) := by
 have hm := h.lt _ (getD_mem hj)
 refine nextN2_mem.2 ⟨hm, canN_iff.2 ⟨(nodup_take h.nd hj).2, fun x hx => ?_⟩⟩
 have h0 := spec_needs_in hv _ hm x hx
 rw [show x = ((x.toNat : Nat) : Int) by omega, mem_ints]
 exact h.ned j hj x hx
theorem ord_mem {g : List Tk} {o : List Nat} (hv : specValid g = true) (h : IsOrd g o) : ∀ f j, j + f = g.length → o ∈ ordersN g f (o.take j)
 | 0, j, hj => by
  rw [List.take_of_length_le (by rw [h.len]; omega)]
  exact List.mem_singleton.2 rfl
 | f + 1, j, hj => by
  have hjl : j < o.length := by rw [h.len]; omega
  unfold ordersN
  refine List.mem_flatMap.2 ⟨_, take_pord hv h hjl, ?_⟩
  rw [← take_snocN hjl]
  exact ord_mem hv h f (j + 1) (by omega)
theorem ord_in {g : List Tk} {o : List Nat} (hv : specValid g = true) (h : IsOrd g o) : o ∈ ordersN g g.length [] := ord_mem hv h g.length 0 (by omega)
def bestP (g : List Tk) (rm : List Int) (wk : Int) : Option (List Nat × Int) := (ordersN g g.length []).foldl (scanO (endO g rm wk)) none
theorem best_some {g : List Tk} {rm : List Int} {wk : Int} (hv : specValid g = true) : ∃ b, bestP g rm wk = some (b, endO g rm wk b) ∧ b ∈ ordersN g g.length [] ∧ IsOrd g b ∧ ∀ o, IsOrd g o → endO g rm wk b ≤ endO g rm wk o := by
 have hne : ordersN g g.length [] ≠ [] := fun e => by
  have := ord_in hv (top_ord hv)
  rw [e] at this
  exact absurd this (by simp)
 obtain ⟨b, b1, b2, b3, b4⟩ := scan_least (E := endO g rm wk) (ordersN g g.length []) none (fun b x h => by cases h) (.inl hne)
 have hb : b ∈ ordersN g g.length [] := by
  rcases b2 with b2 | ⟨x, b2⟩
  ·
   exact b2
  ·
   cases b2
 exact ⟨b, b1, hb, ordersN_ord g.length [] .nil (by simp) b hb, fun o ho => b3 o (ord_in hv ho)⟩
def boN (g : List Tk) (rm : List Int) (wk : Int) : List Nat := if seaB g rm wk then ((bestP g rm wk).getD ([], 0)).1 else []
def btN (g : List Tk) (rm : List Int) (wk : Int) : Int := if seaB g rm wk then ((bestP g rm wk).getD ([], 0)).2 else -1
theorem endO_valid {g : List Tk} {rm : List Int} {wk : Int} {o : List Nat} (hs : seaB g rm wk = true) (h : IsOrd g o) : etS g rm wk (osN g rm wk (ints o)) = endO g rm wk o ∧ (osN g rm wk (ints o)).length = g.length := by
 obtain ⟨a1, a2, a3⟩ := seaB_facts hs
 have hV := (ord_valid a1 a3 h).1
 rw [os_ord hs h, etS_valid hV]
 unfold endO
 rw [rowO_all]
 exact ⟨rfl, hV.len⟩
theorem best_is {g : List Tk} {rm : List Int} {wk : Int} (hs : seaB g rm wk = true) : IsOrd g (boN g rm wk) ∧ btN g rm wk = endO g rm wk (boN g rm wk) ∧ ∀ o, IsOrd g o → btN g rm wk ≤ endO g rm wk o := by
 obtain ⟨b, b1, b2, b3, b4⟩ := best_some (rm := rm) (wk := wk) (seaB_facts hs).1
 unfold boN btN
 rw [if_pos hs, if_pos hs, b1]
 exact ⟨b3, rfl, b4⟩
theorem best_law {g : List Tk} {rm : List Int} {wk : Int} (h : boN g rm wk ≠ []) : seaB g rm wk = true ∧ (boN g rm wk).length = g.length ∧ (osN g rm wk (ints (boN g rm wk))).length = g.length ∧ etS g rm wk (osN g rm wk (ints (boN g rm wk))) = btN g rm wk := by
 have hs : seaB g rm wk = true := by
  cases hc : seaB g rm wk with
  | true => rfl
  | false => unfold boN at h; rw [hc] at h; exact absurd rfl h
 obtain ⟨b1, b2, b3⟩ := best_is hs
 obtain ⟨e1, e2⟩ := endO_valid hs b1
 exact ⟨hs, b1.len, e2, by rw [e1, b2]⟩
theorem bestOrd_law {g : List Tk} {rm : List Int} {wk : Int} {l : List Int} (h : osN g rm wk l ≠ []) : btN g rm wk ≤ etS g rm wk (osN g rm wk l) := by
 obtain ⟨h1, h2, h3, h4⟩ := osN_yes h
 obtain ⟨hO, he⟩ := isOrdB_ord h2
 obtain ⟨b1, b2, b3⟩ := best_is h1
 have e1 := (endO_valid h1 hO).1
 rw [he] at e1
 rw [e1]
 exact b3 _ hO
theorem btN_no {g : List Tk} {rm : List Int} {wk : Int} (h : btN g rm wk < 0) : seaB g rm wk = false := by
 cases hc : seaB g rm wk with
 | false => rfl
 | true =>
  have := (best_is hc).2.1
  have h2 : 0 ≤ endO g rm wk (boN g rm wk) := endS_nonneg _ _ _
  omega
theorem bestTime_law {g : List Tk} {rm : List Int} {wk : Int} (h : 0 ≤ btN g rm wk) : btN g rm wk ≤ etS g rm wk (pS g rm wk) ∧ leS g rm wk ≤ btN g rm wk := by
 have hs : seaB g rm wk = true := by
  cases hc : seaB g rm wk with
  | true => rfl
  | false => unfold btN at h; rw [hc] at h; simp at h
 obtain ⟨a1, a2, a3⟩ := seaB_facts hs
 obtain ⟨b1, b2, b3⟩ := best_is hs
 have hV := plan_valid a1 a3
 constructor
 ·
  rw [pS_is a1 a3]
  have hO := plO_ord hV (fun i hi => (hV.b i hi).2)
  refine Int.le_trans (b3 _ hO) ?_
  have h1 := (endO_valid hs hO)
  by_cases hg : 0 < g.length
  ·
   obtain ⟨p1, p2⟩ := planO_law hs hg
   rw [pS_is a1 a3] at p2
   have hV2 := (ord_valid a1 a3 hO).1
   rw [← h1.1, os_ord hs hO, etS_valid hV2, etS_valid hV]
   rw [os_ord hs hO] at p2
   refine endS_le (endS_nonneg _ _ _) _ (fun i hi => ?_)
   have := p2 i hi
   have := endS_mono g (planS g rm wk) i _ hi
   omega
  ·
   have e : g.length = 0 := by omega
   rw [etS_valid hV]
   unfold endO
   generalize rowO g rm wk (plO g.length (planS g rm wk) 201) = s1
   generalize planS g rm wk = s2
   rw [e]
   exact Int.le_refl (0 : Int)
 ·
  rw [b2, ← (endO_valid hs b1).1, os_ord hs b1]
  exact end_least (ord_valid a1 a3 b1).1
end Go.Proofs.YtkljcdghbefceaaDoor

namespace Go.Proofs.YtkljcdghbefceaaDoor
set_option linter.unusedVariables false
set_option linter.unusedSimpArgs false
open Go.RowKit Go.Shelf Bits
open Go.Proofs.YtkljcdghbefceaaDoorW.PrintWords Go.Proofs.YtkljcdghbefceaaDoorW.PrintLast Go.Proofs.YtkljcdghbefceaaDoorW.PrintMore
theorem ready_next {g : List Tk} {ns : List Nat} {L : List Nat} {p : Nat} (hg : graphN g = some ns) (hb : ∀ k, p.testBit k = decide (k ∈ L)) : elems (readyN ns p) = nextN2 g L := by
 obtain ⟨h8, hn, _⟩ := graphN_all hg
 have hb2 : ∀ j : Nat, p.testBit j = decide ((j : Int) ∈ ints L) := fun j => by rw [hb, decide_eq_decide, mem_ints]
 unfold elems nextN2
 have e : ∀ i, (readyN ns p).testBit i = (decide (i < g.length) && canN g L i) := fun i => by
  rw [readyN_bit, hn]
  by_cases hi : i < g.length
  ·
   rw [decide_eq_true hi, Bool.true_and, Bool.true_and]
   unfold isReady canN
   rw [hb, needs_in hg hb2 hi]
   rfl
  ·
   rw [decide_eq_false hi]
   rfl
 have h1 := filter_rangeR (P := (readyN ns p).testBit) (n := g.length) (fun i hi => by
  rw [e, Bool.and_eq_true] at hi
  exact of_decide_eq_true hi.1) (16 - g.length)
 rw [show g.length + (16 - g.length) = 16 by omega] at h1
 show (List.range 16).filter (readyN ns p).testBit = _
 rw [h1]
 apply List.filter_congr
 intro i hi
 have := List.mem_range.1 hi
 rw [e, decide_eq_true this, Bool.true_and]
theorem bits_add {L : List Nat} {p i : Nat} (hb : ∀ k, p.testBit k = decide (k ∈ L)) : ∀ k, (p ||| 2 ^ i).testBit k = decide (k ∈ L ++ [i]) := fun k => by
 rw [or_bit, hb]
 by_cases h1 : k ∈ L
 ·
  rw [decide_eq_true h1, decide_eq_true (List.mem_append_left _ h1)]
  rfl
 ·
  rw [decide_eq_false h1, Bool.false_or, decide_eq_decide, List.mem_append, List.mem_singleton]
  constructor
  ·
   exact fun e => .inr e.symm
  ·
   rintro (h | h)
   ·
    exact absurd h h1
   ·
    exact h.symm
def accE : Option (List Nat × Int) → Int
 | none => 0
 | some (_, x) => x
def accB : Option (List Nat × Int) → List Nat
 | none => []
 | some (b, _) => b
structure Agr (g : List Tk) (rm : List Int) (wk : Int) (st : List Int) (L : List Nat) : Prop where
 len : st.length = g.length
 ag : ∀ k ∈ L, st.getD k 0 = (rowO g rm wk L).getD k 0
 b : ∀ k, 0 ≤ st.getD k 0 ∧ st.getD k 0 ≤ 160
theorem Agr.step {g : List Tk} {rm : List Int} {wk : Int} {st : List Int} {L : List Nat} {i : Nat} (hok : TOk g) (hp : placeB rm wk = true) (h : POrd g L) (hi : i < g.length) (hc : canN g L i = true) (ha : Agr g rm wk st L) : Agr g rm wk (st.set i (placeS g rm wk (rowO g rm wk L) i : Nat)) (L ++ [i]) := by
 have hP := h.part hok hp (rm := rm) (wk := wk)
 have hsm := hP.small hok h.nd.1
 obtain ⟨p1, p2, _, _⟩ := hP.place hok hp h.nd.1 (canN_needs hc)
 refine ⟨by rw [List.length_set]; exact ha.len, fun k hk => ?_, fun k => ?_⟩
 ·
  rw [rowO_snoc]
  unfold ordSt
  rw [getD_setL, getD_setL, ha.len, hP.len]
  by_cases e : k = i ∧ i < g.length
  ·
   rw [if_pos e, if_pos e]
  ·
   rw [if_neg e, if_neg e]
   rcases List.mem_append.1 hk with hk | hk
   ·
    exact ha.ag k hk
   ·
    exact absurd ⟨List.mem_singleton.1 hk, hi⟩ e
 ·
  rw [getD_setL]
  split
  ·
   omega
  ·
   exact ha.b k
theorem Agr.back {g : List Tk} {rm : List Int} {wk : Int} {st : List Int} {L : List Nat} {i : Nat} (hni : ¬ i ∈ L) (ha : Agr g rm wk st (L ++ [i])) : Agr g rm wk st L :=
 ⟨ha.len, fun k hk => by
  rw [ha.ag k (List.mem_append_left _ hk), rowO_snoc]
  unfold ordSt
  rw [getD_setL]
  by_cases e : k = i
  ·
   exact absurd (e ▸ hk) hni
  ·
   rw [if_neg (fun h => e h.1)], ha.b⟩
structure SRun (S sb : Nat) (vl : Value) (W : World) (vl' : Value) (W' : World) : Prop where
 size : W.heap.size ≤ W'.heap.size
 keep : ∀ k, k < W.heap.size → k ≠ S → k ≠ sb → some k ≠ vl.ownBlock → W'.heap[k]? = W.heap[k]?
 at_ : vl'.ownBlock = vl.ownBlock ∨ ∃ b, vl'.ownBlock = some b ∧ W.heap.size ≤ b
theorem SRun.refl (S sb : Nat) (vl : Value) (W : World) : SRun S sb vl W vl W := ⟨Nat.le_refl _, fun _ _ _ _ _ => rfl, .inl rfl⟩
theorem SRun.trans {S sb : Nat} {vl v1 v2 : Value} {W W1 W2 : World} (h : SRun S sb vl W v1 W1) (k : SRun S sb v1 W1 v2 W2) : SRun S sb vl W v2 W2 := by
 refine ⟨Nat.le_trans h.size k.size, fun i hi h1 h2 h3 => ?_, ?_⟩
 ·
  refine (k.keep i (Nat.lt_of_lt_of_le hi h.size) h1 h2 (fun e => ?_)).trans (h.keep i hi h1 h2 h3)
  rcases h.at_ with q | ⟨b, q, hb⟩
  ·
   exact h3 (e.trans q)
  ·
   rw [q] at e
   cases e
   omega
 ·
  rcases k.at_ with q | ⟨b, q, hb⟩
  ·
   rcases h.at_ with q2 | ⟨b, q2, hb⟩
   ·
    exact .inl (q.trans q2)
   ·
    exact .inr ⟨b, q.trans q2, hb⟩
  ·
   exact .inr ⟨b, q, Nat.le_trans h.size hb⟩
theorem SRun.below {S sb : Nat} {vl : Value} {W W' : World} (hb : Below W.heap.size W W') : SRun S sb vl W vl W' := ⟨hb.size, fun k hk _ _ _ => hb.block k hk, .inl rfl⟩
theorem SRun.set {S sb : Nat} {vl : Value} (W : World) {p : Addr} (hp : p.block = S ∨ p.block = sb) (v : Value) : SRun S sb vl W vl (W.setCell p v) :=
 ⟨by rw [World.size_setCell]; exact Nat.le_refl _, fun k _ h1 h2 _ => Below.heap_setCell W p v k (fun e => by rcases hp with h | h <;> omega), .inl rfl⟩
theorem SRun.grown {S sb : Nat} {vl v1 : Value} {W W' : World} (hg : W.grownBy W' vl.ownBlock) (hat : v1.ownBlock = vl.ownBlock ∨ ∃ b, v1.ownBlock = some b ∧ W.heap.size ≤ b) : SRun S sb vl W v1 W' :=
 ⟨hg.size, fun k hk _ _ h3 => hg.block k hk h3, hat⟩
theorem SRun.own {S sb : Nat} {vl vl' : Value} {W W1 : World} (h : SRun S sb vl W vl' W1) {W2 : World} {row : Option Nat} (hg : W1.grownBy W2 row) (hr : ∀ r, row = some r → W.heap.size ≤ r) : SRun S sb vl W vl' W2 :=
 ⟨Nat.le_trans h.size hg.size, fun k hk h1 h2 h3 => (hg.block k (Nat.lt_of_lt_of_le hk h.size) (fun e => by have := hr k e.symm; omega)).trans (h.keep k hk h1 h2 h3), h.at_⟩
theorem SRun.pop {S sb : Nat} {vl v1 : Value} {W W1 : World} (h : SRun S sb vl W v1 W1) {v2 : Value} (e : v2.ownBlock = v1.ownBlock) : SRun S sb vl W v2 W1 := ⟨h.size, h.keep, by rw [e]; exact h.at_⟩
structure SS (w0 : World) (C : Nat) (n : Nat) (S sb : Nat) (A1 : Option Addr) (c1 r : Nat) (wk : Int) (L : List Nat) (st : List Int) (acc : Option (List Nat × Int)) (vl vb : Value) (W : World) : Prop where
 blk : W.heap[S]? = some (.cells #[.pointer (some ⟨C, 0, none⟩), .slice A1 r c1, .int .i64 wk, .slice (some ⟨sb, 0, none⟩) n n, vl, vb, .int .i64 (accE acc), .bool acc.isSome] 100 (0, 0))
 row : IRow W sb st
 lst : Kd.R (Kd.int .i64) 3 W w0.heap.size (fun k => k ≠ S ∧ k ≠ sb) vl (ints L)
 bst : Kd.R (Kd.int .i64) 3 W w0.heap.size (fun k => (k ≠ S ∧ k ≠ sb) ∧ some k ≠ vl.ownBlock) vb (ints (accB acc))
 low : Below w0.heap.size w0 W
section
variable {w0 : World} {C n S sb : Nat} {A1 : Option Addr} {c1 r : Nat} {wk : Int} {L : List Nat} {st : List Int} {acc : Option (List Nat × Int)} {vl vb : Value} {W : World}
theorem SS.neS (h : SS w0 C n S sb A1 c1 r wk L st acc vl vb W) : some S ≠ vl.ownBlock := fun e => (h.lst.1 S e.symm).1 rfl
theorem SS.neR (h : SS w0 C n S sb A1 c1 r wk L st acc vl vb W) : some sb ≠ vl.ownBlock := fun e => (h.lst.1 sb e.symm).2 rfl
theorem SS.below (h : SS w0 C n S sb A1 c1 r wk L st acc vl vb W) {W' : World} (hb : Below W.heap.size W W') : SS w0 C n S sb A1 c1 r wk L st acc vl vb W' :=
 ⟨blk_below h.blk hb, blk_below h.row hb, Kd.R_below h.lst hb, Kd.R_below h.bst hb, h.low.trans (hb.mono h.low.size)⟩
theorem SS.nc (h : SS w0 C n S sb A1 c1 r wk L st acc vl vb W) {W' : World} {row : Option Nat} (hg : W.grownBy W' row) (hr : ∀ q, row = some q → w0.heap.size ≤ q ∧ ∃ o : Obj, W.heap[q]? = some o ∧ o.isCells = false) : SS w0 C n S sb A1 c1 r wk L st acc vl vb W' := by
 have key : ∀ (k : Nat) (cs : Array Value) (t : TypeId), W.heap[k]? = some (.cells cs t (0, 0)) → W'.heap[k]? = some (.cells cs t (0, 0)) := fun k cs t hk => (hg.block k (blk_lt hk) (fun e => by
  obtain ⟨_, o, ho, hn⟩ := hr k e.symm
  rw [hk] at ho
  cases ho
  cases hn)).trans hk
 refine ⟨key _ _ _ h.blk, key _ _ _ h.row, R_grownNC h.lst hg (fun q e => (hr q e).2), R_grownNC h.bst hg (fun q e => (hr q e).2), h.low.trans ⟨hg.os, hg.tape, hg.output, hg.size, fun k hk => hg.block k (Nat.lt_of_lt_of_le hk h.low.size) (fun e => by have := (hr k e.symm).1; omega)⟩⟩
theorem SS.others (h : SS w0 C n S sb A1 c1 r wk L st acc vl vb W) {vl' : Value} {W' : World} (k : SRun S sb vl W vl' W') : KeepsOthers W W' := by
 refine ⟨k.size, fun i o hi ho => (k.keep i (blk_lt hi) (fun e => ?_) (fun e => ?_) (fun e => ?_)).trans hi⟩
 ·
  rw [e, h.blk] at hi
  cases hi
  cases ho
 ·
  rw [e, show W.heap[sb]? = _ from h.row] at hi
  cases hi
  cases ho
 ·
  obtain ⟨cells, hc⟩ := Kd.R_typed h.lst i e.symm
  rw [hc] at hi
  cases hi
  cases ho
theorem SS.setStart (h : SS w0 C n S sb A1 c1 r wk L st acc vl vb W) (hSb : S ≠ sb) (hb : w0.heap.size ≤ sb) (i : Nat) (x : Int) : SS w0 C n S sb A1 c1 r wk L (st.set i x) acc vl vb (W.setCell ⟨sb, i, none⟩ (.int .i64 x)) :=
 ⟨blk_far h.blk hSb _, h.row.set i x, Kd.R_far h.lst (p := ⟨sb, i, none⟩) (fun k hk => hk.2) _, Kd.R_far h.bst (p := ⟨sb, i, none⟩) (fun k hk => hk.1.2) _, h.low.setCell (p := ⟨sb, i, none⟩) hb _⟩
theorem SS.setList (h : SS w0 C n S sb A1 c1 r wk L st acc vl vb W) (hSb : S ≠ sb) (hb : w0.heap.size ≤ S) {W1 : World} {v1 : Value} {L1 : List Nat} (hR : Kd.R (Kd.int .i64) 3 W1 w0.heap.size (fun k => k ≠ S ∧ k ≠ sb) v1 (ints L1)) (hg : W.grownBy W1 vl.ownBlock) (hat : v1.ownBlock = vl.ownBlock ∨ ∃ b, v1.ownBlock = some b ∧ W.heap.size ≤ b) (hB : Below w0.heap.size w0 W1) :
  SS w0 C n S sb A1 c1 r wk L1 st acc v1 vb (W1.setCell ⟨S, 4, none⟩ v1) := by
 have hb1 := (hg.block S (blk_lt h.blk) h.neS).trans h.blk
 have hr1 : IRow W1 sb st := (hg.block sb (blk_lt h.row) h.neR).trans h.row
 exact ⟨blk_set hb1 4 v1, hr1.far (p := ⟨S, 4, none⟩) (fun e => hSb e.symm) _, Kd.R_far hR (p := ⟨S, 4, none⟩) (fun k hk => hk.1) _, Kd.R_far (Kd.R_after h.bst hg hat) (p := ⟨S, 4, none⟩) (fun k hk => hk.1.1) _, hB.setCell (p := ⟨S, 4, none⟩) hb _⟩
theorem own_len (A : Option Addr) (n m c d : Nat) : (Value.slice A n c).ownBlock = (Value.slice A m d).ownBlock := by cases A <;> rfl
theorem SS.pop {i : Nat} {A : Option Addr} {m c : Nat} (h : SS w0 C n S sb A1 c1 r wk (L ++ [i]) st acc (.slice A m c) vb W) (hSb : S ≠ sb) (hb : w0.heap.size ≤ S) : SS w0 C n S sb A1 c1 r wk L st acc (.slice A L.length c) vb (W.setCell ⟨S, 4, none⟩ (.slice A L.length c)) := by
 have hR := Kd.R_take h.lst (m := L.length) (by rw [ints_length, List.length_append]; omega)
 rw [take_ints, List.take_append_of_le_length (Nat.le_refl _), List.take_length] at hR
 refine ⟨blk_set h.blk 4 _, h.row.far (p := ⟨S, 4, none⟩) (fun e => hSb e.symm) _, Kd.R_far hR (p := ⟨S, 4, none⟩) (fun k hk => hk.1) _, Kd.R_far (Kd.R_mono h.bst (fun k hk => ⟨hk.1, ?_⟩)) (p := ⟨S, 4, none⟩) (fun k hk => hk.1.1) _, h.low.setCell (p := ⟨S, 4, none⟩) hb _⟩
 rw [own_len A L.length m c c]
 exact hk.2
theorem SS.leaf (h : SS w0 C n S sb A1 c1 r wk L st acc vl vb W) (hSb : S ≠ sb) (hb : w0.heap.size ≤ S) {W5 : World} {v5 : Value} (hB : Below W.heap.size W W5) (hR : Kd.R (Kd.int .i64) 3 W5 W.heap.size (fun _ => True) v5 (ints L)) (e : Int) :
  SS w0 C n S sb A1 c1 r wk L st (some (L, e)) vl v5 (((W5.setCell ⟨S, 5, none⟩ v5).setCell ⟨S, 6, none⟩ (.int .i64 e)).setCell ⟨S, 7, none⟩ (.bool true)) := by
 have h5 := h.below hB
 have hl := Kd.R_lt h.lst
 have hS := blk_lt h.blk
 have hs := blk_lt h.row
 have hR2 : Kd.R (Kd.int .i64) 3 W5 w0.heap.size (fun k => (k ≠ S ∧ k ≠ sb) ∧ some k ≠ vl.ownBlock) v5 (ints L) := Kd.R_lower (Kd.R_mono (Kd.R_bound hR) (fun k hk => ⟨⟨by have := hk.2.1; omega, by have := hk.2.1; omega⟩, fun e => by have := hl k e.symm; have := hk.2.1; omega⟩)) h.low.size
 have f1 : ∀ (W : World) (k : Nat) (v : Value), Kd.R (Kd.int .i64) 3 W w0.heap.size (fun k => k ≠ S ∧ k ≠ sb) vl (ints L) → Kd.R (Kd.int .i64) 3 (W.setCell ⟨S, k, none⟩ v) w0.heap.size (fun k => k ≠ S ∧ k ≠ sb) vl (ints L) := fun W k v h => Kd.R_far h (p := ⟨S, k, none⟩) (fun k hk => hk.1) _
 have f2 : ∀ (W : World) (k : Nat) (v : Value), Kd.R (Kd.int .i64) 3 W w0.heap.size (fun k => (k ≠ S ∧ k ≠ sb) ∧ some k ≠ vl.ownBlock) v5 (ints L) → Kd.R (Kd.int .i64) 3 (W.setCell ⟨S, k, none⟩ v) w0.heap.size (fun k => (k ≠ S ∧ k ≠ sb) ∧ some k ≠ vl.ownBlock) v5 (ints L) := fun W k v h => Kd.R_far h (p := ⟨S, k, none⟩) (fun k hk => hk.1.1) _
 have f3 : ∀ (W : World) (k : Nat) (v : Value), IRow W sb st → IRow (W.setCell ⟨S, k, none⟩ v) sb st := fun W k v h => h.far (p := ⟨S, k, none⟩) (fun e => hSb e.symm) _
 exact ⟨blk_set (blk_set (blk_set h5.blk 5 _) 6 _) 7 _, f3 _ _ _ (f3 _ _ _ (f3 _ _ _ h5.row)), f1 _ _ _ (f1 _ _ _ (f1 _ _ _ h5.lst)), f2 _ _ _ (f2 _ _ _ (f2 _ _ _ hR2)),
  ((h5.low.setCell (p := ⟨S, 5, none⟩) hb _).setCell (p := ⟨S, 6, none⟩) hb _).setCell (p := ⟨S, 7, none⟩) hb _⟩
end
theorem wpIn_region_held {P : Program} {Q : Exit → Act → World → Prop} {S : World → Prop} {id l n : Nat} {a : Act} {w : World} {L : List Oper} (hm : P.follows .mixedOrders = true) (hd : noDeferB L.toArray = true) (hQ : ¬ LetsOut Q)
  (h : wpAnyH P .any L.toArray Q S L.toArray.size (Array.replicate L.toArray.size false) a w.drew) : (Code.region id L.toArray true).wpIn (Fence.wide.inRound l) n P Q a w :=
 wpIn_region_any hm (wpAnyIn_of_wpAny hQ (noDefer_spec hd) _ _ _ _ (wpAny_of_held _ _ _ _ h))
theorem cell_far2 {w : World} {p a : Addr} {v u : Value} (h : w.cell? a = some u) (hp : p.block ≠ a.block) : (w.setCell p v).cell? a = some u := (World.cell?_setCell_far w p a v hp).trans h
theorem cell_alloc2 {w : World} {a : Addr} {o : Obj} {u : Value} (h : w.cell? a = some u) : (w.alloc o).cell? a = some u := (World.cell?_alloc_some w a o (by rw [h]; rfl)).trans h
theorem take_lit {P : Program} {md : Region.Mode} {L : List Oper} {Q : Exit → Act → World → Prop} {S : World → Prop} {i : Nat} {oi : Oper} {v : Value} {fuel : Nat} {listed : Array Bool} {a : Act} {w : World} (hi : L[i]? = some oi) (hs : Region.noSelect L.toArray = true) (hf : Region.free md L.toArray listed i = true) (hr : (Region.ready md L.toArray listed).contains i = true)
  (hQ : ∀ c a w, Q (.panic c) (a.put oi.dst v) w → Q (.panic c) a w) (hy : YieldsIf P L.toArray S oi v a) (hS : S w) (h : wpAnyH P md L.toArray Q S fuel (listed.setIfInBounds i true) (a.put oi.dst v) w) : wpAnyH P md L.toArray Q S (fuel + 1) listed a w :=
 wpAnyH_take (by simpa using hi) hs hf hr hQ hy hS h
theorem cons_lit {P : Program} {md : Region.Mode} {L : List Oper} {Q : Exit → Act → World → Prop} {S : World → Prop} {fuel : Nat} {listed : Array Bool} {a : Act} {w : World} {i : Nat} {o : Oper} {rs : List Nat} (ho : L[i]? = some o)
  (h : ∀ K' : Act → World → Prop, Go.Shut (∀ a w, S w → (S w → wpAnyH P md L.toArray Q S fuel (listed.setIfInBounds i true) a w) → K' a w) → if Region.wanted o (yielded L.toArray a.tmps) = true then Oper.wp P o a w K' Q else K' (a.put o.dst undef) w)
  (hs : AllReadyH P md L.toArray Q S fuel listed a w rs) : AllReadyH P md L.toArray Q S fuel listed a w (i :: rs) := AllReadyH.cons (by simpa using ho) h hs
set_option maxRecDepth 100000 in
set_option maxHeartbeats 2000000 in
theorem clone_calls (A : Option Addr) (c : Nat) (xs : List Int) (hl : xs.length ≤ 1000) (w : World) (hr : (Kd.int .i64).C w A xs.length xs) :
  Calls Tryd.prog 85 #[.slice A xs.length c] w fun e w' => ∃ v, e = .returned v ∧ Kd.R (Kd.int .i64) 3 w' w.heap.size (fun _ => True) v xs ∧ Below w.heap.size w w' := by
 have q24 : ∀ (w : World) (a : Option Addr) (n c n' c' : Nat), (binOp .eql 24 (.slice a n c) (.slice none n' c')).run Tryd.prog w = .ok (.bool a.isNone) w := fun w a n c n' c' => Lib.run_eql_slice_nil w _ _ a n c n' c' Tryd.underlying24
 cases A with
 | none =>
  have h0 : xs = [] := by
   by_cases hp : 0 < xs.length
   ·
    obtain ⟨ad, e, _⟩ := hr.2.2 hp
    cases e
   ·
    exact List.eq_nil_of_length_eq_zero (by omega)
  subst h0
  clear hr hl
  go_enter Tryd.func85, Tryd.ntmps85
  go_wp2
  go_ret
  exact ⟨_, rfl, Kd.R_nil _ _ _ _ _, Below.refl _ _⟩
 | some ad =>
  have hBa : Below w.heap.size w (w.alloc (.cells #[] 3)) := (Below.refl _ _).alloc (Nat.le_refl _) _
  have hO : Kd.R (Kd.int .i64) 3 (w.alloc (.cells #[] 3)) w.heap.size (fun _ => True) (.slice (some ⟨w.heap.size, 0, none⟩) 0 0) [] := Kd.R_of_own (World.ownsRow_lit (base := w.heap.size) (size := 1) w #[] 0 (Nat.le_refl _) (by simp [maxLen]) rfl) (fun _ _ => trivial)
  have HC := Lib.hid (Kd.C_below hr hBa)
  have HO := Lib.hid (And.intro hO hBa)
  clear hr hO hBa
  go_enter Tryd.func85, Tryd.ntmps85
  go_wp2_with (at_builtin; refine Kd.R_append_rows (Kd.int .i64) (w0 := w) w.heap.size rfl (.tmp 5) (.tmp 6) 24 3 (.int .i64 0) 8 rfl Tryd.underlying24 infoInt rfl (by decide) (by omega) (.slice (some ⟨w.heap.size, 0, none⟩) 0 0) [] xs (some ad) xs.length c (fun _ => True) (fun _ => False) rfl rfl HO.out.1 HC.out (fun _ _ h => h) (fun _ h => h.elim) (fun _ _ => trivial) HO.out.2 HO.out.2.size (by simp; omega) ?_; intro v1 w1 hO1 hB1 hg1 hat1; have H1 := Lib.hid (And.intro hO1 hB1); clear hO1 hB1 hg1 hat1)
  go_ret
  exact ⟨_, rfl, H1.out.1, H1.out.2⟩
end Go.Proofs.YtkljcdghbefceaaDoor
