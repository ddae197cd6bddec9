/- Parts of the proof, laid as one text by a program of mine. -/
import Derived.Lib.TrailingZeros
import Derived.RangeFuncNested
import Derived.RangeFuncBound
import Derived.RangeFuncCalls
import Derived.RangeFuncLeaves
import Derived.RangeFuncBox
import Derived.Shelf.Abstract
import Derived.Shelf.RegionOpen
import Derived.Shelf.Spec.TrailingZeros
import Derived.WalkKit
import Derived.OwnWalkIn
import Derived.TacticsInMore
import Derived.LoopNIn
import Derived.LoopIn
import Derived.Outline
import Derived.Lib.Hide
import Derived.Test.YtkljcdghbefceaaGreatDoorProg
import Derived.Test.YtkljcdghbefceaaGreatDoorRows
import Derived.ChangeSame
import Derived.ChangeVars
import Derived.JoinedOf
import Derived.RowKit
import Derived.RowKitTokens
import Derived.LaidLaws
import Derived.ProofKit
import Derived.OpenShut
import Derived.ChangeOld
import Derived.Below
import Derived.Lib.LaidTab
import Derived.Lib.LaidIn
import Derived.SevenTiedAt
namespace Go.Proofs.YtkljcdghbefceaaGreatDoor.Bits
set_option linter.unusedVariables false
set_option linter.unusedSimpArgs false
def elems (s : Nat) : List Nat := (List.range 16).filter s.testBit
theorem elems_lt {s x : Nat} (h : x ∈ elems s) : x < 16 := by
 simp [elems] at h; exact h.1
theorem elems_bit {s x : Nat} (h : x ∈ elems s) : s.testBit x = true := by
 simp [elems] at h; exact h.2
theorem mem_elems {s x : Nat} : x ∈ elems s ↔ x < 16 ∧ s.testBit x = true := by simp [elems]
theorem elems_length (s : Nat) : (elems s).length ≤ 16 := by
 have := List.length_filter_le s.testBit (List.range 16); simpa [elems] using this
theorem elems_zero : elems 0 = [] := by simp [elems]
theorem elems_below {s n x : Nat} (hs : s < 2 ^ n) (h : x ∈ elems s) : x < n := by
 have h1 := Nat.ge_two_pow_of_testBit (elems_bit h)
 exact (Nat.pow_lt_pow_iff_right (by omega)).1 (Nat.lt_of_le_of_lt h1 hs)
theorem filter_first (p q : Nat → Bool) (n k : Nat) (hk : k < n) (hp : p k = true) (hlow : ∀ j, j < k → p j = false) (hq : ∀ j, j < n → q j = (p j && decide (j ≠ k))) :
  (List.range n).filter p = k :: (List.range n).filter q := by
 have e : List.range n = List.range k ++ k :: List.range' (k + 1) (n - k - 1) := by
  rw [List.range_eq_range', List.range_eq_range']
  have h2 : k :: List.range' (k + 1) (n - k - 1) = List.range' k (n - k) := by
   conv => rhs; rw [show n - k = (n - k - 1) + 1 from by omega, List.range'_succ]
  rw [h2]
  have := List.range'_append (s := 0) (m := k) (n := n - k) (step := 1)
  simp only [Nat.zero_add, Nat.one_mul] at this
  rw [this]; congr 1; omega
 rw [e, List.filter_append, List.filter_append]
 have a1 : (List.range k).filter p = [] := by
  rw [List.filter_eq_nil_iff]; intro j hj; rw [hlow j (List.mem_range.1 hj)]; simp
 have a2 : (List.range k).filter q = [] := by
  rw [List.filter_eq_nil_iff]; intro j hj
  have := List.mem_range.1 hj
  rw [hq j (by omega), hlow j this]; simp
 rw [a1, a2, List.filter_cons, List.filter_cons, hp, hq k hk]
 simp only [List.nil_append, ne_eq, not_true_eq_false, decide_false, Bool.and_false, if_true, Bool.false_eq_true, if_false]
 congr 1
 apply List.filter_congr
 intro j hj
 have := List.mem_range'_1.1 hj
 rw [hq j (by omega)]
 have : j ≠ k := by omega
 simp [this]
theorem low_form (x : Nat) (h0 : x ≠ 0) (h : x < 65536) : ∃ k m, Lib.ctz 16 x = k ∧ x = 2 ^ k * (2 * m + 1) ∧ k < 16 := by
 obtain ⟨m, hm, hk⟩ := Lib.ctzFrom_spec 16 x (by omega) h
 exact ⟨_, m, by simp [Lib.ctz, h0], hm, hk⟩
theorem bit_form (k m i : Nat) : (2 ^ k * m).testBit i = (decide (k ≤ i) && m.testBit (i - k)) := by
 rw [Nat.mul_comm, Nat.testBit_mul_two_pow]
theorem drop_low (k m : Nat) : (2 ^ k * (2 * m + 1)) &&& (2 ^ k * (2 * m + 1) - 1) = 2 ^ k * (2 * m) := by
 apply Nat.eq_of_testBit_eq
 intro i
 have e : 2 ^ k * (2 * m + 1) - 1 = 2 ^ k * (2 * m) + (2 ^ k - 1) := by
  have : 0 < 2 ^ k := Nat.two_pow_pos k
  rw [Nat.mul_add, Nat.mul_one]; omega
 rw [Nat.testBit_and, bit_form, e, Nat.two_pow_add_eq_or_of_lt (by have := Nat.two_pow_pos k; omega), Nat.testBit_or, bit_form, Nat.testBit_two_pow_sub_one]
 by_cases hik : k ≤ i
 ·
  obtain ⟨j, rfl⟩ : ∃ j, i = k + j := ⟨i - k, by omega⟩
  simp only [Nat.le_add_right, decide_true, Bool.true_and, Nat.add_sub_cancel_left]
  have hd : decide (k + j < k) = false := by simp
  rw [hd, Bool.or_false]
  cases j with
  | zero => simp
  | succ j =>
   have e1 : (2 * m + 1) / 2 = m := by omega
   have e2 : (2 * m) / 2 = m := by omega
   rw [Nat.testBit_succ, Nat.testBit_succ, e1, e2, Bool.and_self]
 ·
  simp [hik]
theorem elems_low (x : Nat) (h0 : x ≠ 0) (h : x < 65536) : elems x = Lib.ctz 16 x :: elems (x &&& (x - 1)) := by
 obtain ⟨k, m, hc, hx, hk⟩ := low_form x h0 h
 rw [hc]
 have hd := drop_low k m
 rw [← hx] at hd
 unfold elems
 apply filter_first _ _ 16 k hk
 ·
  rw [hx, bit_form]; simp
 ·
  intro j hj; rw [hx, bit_form, decide_eq_false (by omega : ¬ k ≤ j), Bool.false_and]
 ·
  intro j _
  rw [hd, bit_form, hx, bit_form]
  by_cases hik : k ≤ j
  ·
   obtain ⟨i, rfl⟩ : ∃ i, j = k + i := ⟨j - k, by omega⟩
   simp only [Nat.le_add_right, decide_true, Bool.true_and, Nat.add_sub_cancel_left]
   cases i with
   | zero => simp
   | succ i =>
    have e1 : (2 * m + 1) / 2 = m := by omega
    have e2 : (2 * m) / 2 = m := by omega
    have e3 : decide (k + (i + 1) ≠ k) = true := decide_eq_true (by omega)
    rw [Nat.testBit_succ, Nat.testBit_succ, e1, e2, e3, Bool.and_true]
  ·
   simp [hik]
theorem low_lt (x : Nat) (h : x < 65536) : x &&& (x - 1) < 65536 := Nat.lt_of_le_of_lt Nat.and_le_left h
theorem low_less (x : Nat) (h0 : x ≠ 0) (h : x < 65536) : x &&& (x - 1) < x := by
 obtain ⟨k, m, _, hx, _⟩ := low_form x h0 h
 have hd := drop_low k m
 rw [← hx] at hd
 rw [hd, hx, Nat.mul_add]
 have := Nat.two_pow_pos k
 omega
end Go.Proofs.YtkljcdghbefceaaGreatDoor.Bits

namespace Go.Proofs.YtkljcdghbefceaaGreatDoor
set_option linter.unusedVariables false
set_option linter.unusedSimpArgs false
open Go.RowKit Go.Shelf Bits
attribute [local go_sem] Oper.semAt_some
def Tab (w : World) : Prop := TabAt 0 Lib.deBruijn32tab w
theorem wrap_u16' (n : Int) : IntKind.u16.wrap n = n % 65536 := by simp [IntKind.wrap, IntKind.signed, IntKind.bits]
theorem bits_and_u16_nat (a b : Nat) (ha : a < 65536) (hb : b < 65536) : bits .and .u16 (a : Int) (b : Int) = ((a &&& b : Nat) : Int) := by
 have hx : a &&& b < 2 ^ 16 := Nat.and_lt_two_pow _ (by omega)
 have h1 : (BitVec.ofInt 16 (a : Int)).toNat = a := by
  rw [BitVec.ofInt_natCast, BitVec.toNat_ofNat]; exact Nat.mod_eq_of_lt (by omega)
 have h2 : (BitVec.ofInt 16 (b : Int)).toNat = b := by
  rw [BitVec.ofInt_natCast, BitVec.toNat_ofNat]; exact Nat.mod_eq_of_lt (by omega)
 show IntKind.u16.wrap ((BitVec.ofInt 16 (a : Int) &&& BitVec.ofInt 16 (b : Int)).toNat : Int) = _
 rw [BitVec.toNat_and, h1, h2, wrap_u16']
 omega
set_option maxHeartbeats 1000000 in
theorem tz16_core (x k idx : Nat) (w : World) (hx0 : ((x : Int) == 0) = false)
  (key : bits BinOp.and IntKind.u16 (x : Int) (IntKind.u16.wrap (-(x : Int))) % 4294967296 * 125613361 % 4294967296 / 134217728 = (idx : Int))
  (hi : idx < 32) (hk : k < 32) (hcell : w.cell? ⟨0, idx, none⟩ = some (.int .u8 k)) :
  Calls Tryz.prog 75 #[.int .u16 x] w fun e w' => e = .returned (.int .i64 k) ∧ w' = w := by
 go_enter Tryz.func75, Tryz.ntmps75
 go_wp2_with (simp only [key])
 go_ret
 exact ⟨rfl, rfl⟩
theorem tz16_calls (x : Nat) (h0 : x ≠ 0) (hx : x < 65536) (w : World) (hT : Tab w) :
  Calls Tryz.prog 75 #[.int .u16 x] w fun e w' => e = .returned (.int .i64 (Lib.ctz 16 x)) ∧ w' = w := by
 obtain ⟨hlow, hk⟩ := Lib.lowest_bit 16 x h0 hx
 obtain ⟨hi, htab⟩ := Lib.deBruijn32_at (Lib.ctz 16 x) (by omega)
 have hcell := hT _ hi
 rw [htab] at hcell
 refine tz16_core x _ _ w (by simp; omega) ?_ hi (by omega) hcell
 have e1 : IntKind.u16.wrap (-(x : Int)) = ((65536 - x : Nat) : Int) := by rw [wrap_u16']; omega
 rw [e1, bits_and_u16_nat x _ hx (by omega), show (65536 : Nat) = 2 ^ 16 from rfl, hlow]
 have hlt : (2 : Nat) ^ Lib.ctz 16 x < 65536 := Nat.pow_lt_pow_right (by omega) hk
 clear hlow htab hcell hi e1
 generalize (2 : Nat) ^ Lib.ctz 16 x = q at *
 rw [show (q : Int) % 4294967296 = q from by omega]
 omega
abbrev El (s : Nat) := { x : Nat // x ∈ elems s }
theorem Tab.lt {w : World} (h : Tab w) : 0 < w.heap.size := World.block_lt_of_cell? w _ (h 0 (by decide))
theorem Tab.keep {w w' : World} (h : Tab w) {n : Nat} (hn : 0 < n) (hb : Below n w w') : Tab w' := fun j hj => (hb.cell (p := ⟨_, j, none⟩) hn).trans (h j hj)
set_option maxRecDepth 100000 in
set_option maxHeartbeats 1000000 in
theorem all1_in (l Bn n₀ : Nat) (n : Nat) (hn : 1 ≤ n) (s : Nat) (hs : s < 65536) (J Jx : List (El s) → World → Prop)
  (hY : ∀ (pre : List (El s)) x W, J pre W → pre.length < (elems s).length → YieldAt Fence.wide (n - 1) Tryz.prog l #[.int .i64 (x.1 : Nat)] W fun e W' =>
   (e = .returned (.bool true) ∧ J (pre ++ [x]) W' ∧ Below n₀ W W') ∨ (e = .returned (.bool false) ∧ Jx (pre ++ [x]) W'))
  (W : World) (hBn : W.cell? ⟨Bn, 0, none⟩ = some (.int .u16 s)) (hT : Tab W) (hg : 0 < n₀) (h0 : J [] W) :
  CallsIn Fence.wide n Tryz.prog 74 #[.func (.yield l) #[] #[], .pointer (some ⟨Bn, 0, none⟩)] W fun e W' => (∃ v, e = .returned v) ∧
   ((∃ ys : List (El s), ys.map (·.1) = elems s ∧ J ys W') ∨ (∃ pre : List (El s), pre.map (·.1) <+: elems s ∧ Jx pre W')) := by
 refine callsIn_of_wp Tryz.func74 rfl trivial ?_ rfl
 simp only [Tryz.ntmps74, List.size_toArray, List.length_cons, List.length_nil, Nat.reduceAdd, Nat.reduceSub, Array.replicate_succ, Array.replicate_zero, List.push_toArray, List.append_toArray, List.nil_append, List.cons_append]
 gi_wp2
 gi_loopw [3] (fun p wr => ∃ (pre : List (El s)) (rest : Nat), p = .int .u16 rest ∧ rest < 65536 ∧ elems s = pre.map (·.1) ++ elems rest ∧ J pre wr ∧ Tab wr)
  (fun p _ => (intOf p).toNat)
 case atStart =>
  exact ⟨[], s, rfl, hs, rfl, h0, hT⟩
 case round =>
  obtain ⟨pre, rest, rfl, hr, hx, hJs, hTr⟩ := hrel
  by_cases hz : rest = 0
  ·
   subst hz
   have HX0 := Lib.hid (Eq.trans (by rw [elems_zero, List.append_nil]) hx.symm : pre.map (·.1) = elems s)
   clear hx
   gi_wp2
   go_end0
   exact ⟨⟨_, rfl⟩, .inl ⟨pre, HX0.out, hJs⟩⟩
  ·
   have hne : ((rest : Int) != 0) = true := by simp; omega
   have hlow := elems_low rest hz hr
   have hmem : Lib.ctz 16 rest ∈ elems s := by rw [hx, hlow]; simp
   have hlen : pre.length < (elems s).length := by rw [hx, hlow]; simp
   obtain ⟨fn, tmps, assign, body, hy, hR⟩ := hY pre ⟨Lib.ctz 16 rest, hmem⟩ wr hJs hlen
   have HX := Lib.hid hx
   have HL := Lib.hid hlow
   clear hx hlow
   gi_wp2_with (refine ⟨trivial, ?_⟩; gi_at_call 75; refine (callsIn_wide.2 (tz16_calls rest hz hr _ hTr)).mono ?_; rintro e w' ⟨rfl, rfl⟩)
   refine hR.mono ?_
   rintro e W3 (⟨rfl, hJ3, hk3⟩ | ⟨rfl, hJx3⟩)
   ·
    have hT3 := hTr.keep hg hk3
    gi_wp2
    have hb : bits BinOp.and IntKind.u16 (rest : Int) ((rest : Int) - 1) = ((rest &&& (rest - 1) : Nat) : Int) := by
     have := bits_and_u16_nat rest (rest - 1) hr (by omega)
     rwa [show ((rest - 1 : Nat) : Int) = (rest : Int) - 1 from by omega] at this
    go_roundw
    case rel => exact ⟨pre ++ [⟨_, hmem⟩], rest &&& (rest - 1), by rw [hb], low_lt _ hr, Eq.trans HX.out (by rw [HL.out, List.map_append, List.append_assoc]; rfl), hJ3, hT3⟩
    case measure => simp only [intOf, hb]; have := low_less rest hz hr; omega
   ·
    gi_wp2
    refine bodyPost_ret (results_none rfl _ _ _) rfl ?_
    exact ⟨⟨_, rfl⟩, .inr ⟨pre ++ [⟨_, hmem⟩], ⟨elems (rest &&& (rest - 1)), Eq.trans (by rw [HL.out, List.map_append, List.append_assoc]; rfl) HX.out.symm⟩, hJx3⟩⟩
set_option maxHeartbeats 1000000 in
theorem all_calls (s : Nat) (w : World) :
  Calls Tryz.prog 47 #[.int .u16 s] w fun e w' => e = .returned (.func (.func 74) #[] #[.pointer (some ⟨w.heap.size, 0, none⟩)]) ∧ w' = w.alloc (.cells #[.int .u16 s] 46) := by
 go_enter Tryz.func47, Tryz.ntmps47
 go_wp2
 go_ret
 exact ⟨rfl, rfl⟩
theorem all_stops (n : Nat) (hn : 1 ≤ n) (Bn n₀ s : Nat) (hs : s < 65536) (w : World) (hB : Bn < w.heap.size)
  (hc : w.cell? ⟨Bn, 0, none⟩ = some (.int .u16 s)) (hT : Tab w) (hg : 0 < n₀) :
  SeqStopsK Fence.wide n Tryz.prog 74 #[.pointer (some ⟨Bn, 0, none⟩)] (fun x : El s => #[Value.int .i64 (x.1 : Nat)]) (Below n₀)
   (fun ys => ys.map (·.1) = elems s) (fun pre => pre.map (·.1) <+: elems s) (elems s).length w := fun l J Jx W hW _ _ hY h0 =>
 all1_in l Bn n₀ n hn s hs J Jx hY W ((hW.cell (p := ⟨Bn, 0, none⟩) hB).trans hc) (hT.keep (hT.lt) hW) hg h0
end Go.Proofs.YtkljcdghbefceaaGreatDoor

namespace Go.Proofs.YtkljcdghbefceaaGreatDoor
set_option linter.unusedVariables false
set_option linter.unusedSimpArgs false
open Go.ChangeShapes Go.WideShapes Go.ChangeAt Go.RowKit Go.Shelf
theorem own : ownKnob Tryz.prog.godebug = none := by kernel_rfl
theorem laidOut : laidOutB Tryz.prog = true := by kernel_rfl
theorem gT : Tryz.prog.globalNamed "math/bits.deBruijn32tab" = some 0 := by kernel_rfl
theorem gTType : (Tryz.prog.globals[0]?).map (·.type) = some 123 := by kernel_rfl
def laid1 : List (String × DataW Unit) := [("math/bits.deBruijn32tab", Lib.tabData .u8 (Lib.deBruijn32tab.map Int.ofNat))]
noncomputable def laidWorld (os : Os) : World :=
 let w0 := World.holding Tryz.prog os ⟨#[], #[], []⟩
 { w0 with heap := w0.heap.modify 0 fun
   | .cells _ t frozen => .cells ((Lib.deBruijn32tab.map Int.ofNat).map fun z => Value.int .u8 z).toArray t frozen
   | o => o }
theorem laid_met (os : Os) (args : Array Value) : laidMet Tryz.prog laid1 ((laidWorld os).forCall (fun _ _ => 0) ⟨#[], args, []⟩).memory :=
 (LaidIn.of_run [0] 8 (by kernel_rfl) (by kernel_rfl) (by kernel_rfl) (by kernel_rfl)).met
theorem tab_of_laid {W : World} (h : laidMet Tryz.prog laid1 W) : Tab W := by
 have h2 : Lib.TabIs Tryz.prog W "math/bits.deBruijn32tab" .u8 (Lib.deBruijn32tab.map Int.ofNat) := Lib.tabIs_of_head gT gTType Tryz.underlying123 Tryz.underlying5 (by kernel_rfl) (by kernel_rfl) h
 intro j hj
 have h3 := World.var?_cell gT h2 j
 rw [h3]
 simp [hj]
end Go.Proofs.YtkljcdghbefceaaGreatDoor
