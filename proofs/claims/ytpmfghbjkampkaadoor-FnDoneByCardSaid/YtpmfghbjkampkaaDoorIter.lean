/- The iterator over a small set: math/bits.TrailingZeros16, set.all and its closure: for every loop body. -/
import Derived.RangeFuncNested
import Derived.RangeFuncBound
import Derived.RangeFuncCalls
import Derived.RangeFuncLeaves
import Derived.RangeFuncBox
import Derived.Shelf.Abstract
import Derived.Shelf.RegionOpen
import Derived.Shelf.Spec.TrailingZeros
import Derived.WalkKit
import Derived.OwnWalkIn
import Derived.TacticsInMore
import Derived.LoopNIn
import Derived.LoopIn
import Derived.Outline
import Derived.Lib.Hide
import Derived.Test.YtpmfghbjkampkaaDoorProg
import Derived.Test.YtpmfghbjkampkaaDoorBits
namespace Go.Proofs.YtpmfghbjkampkaaDoor
set_option linter.unusedVariables false
set_option linter.unusedSimpArgs false
open Go.RowKit Go.Shelf Bits
attribute [local go_sem] Oper.semAt_some
def Tab (w : World) : Prop := TabAt 0 Lib.deBruijn32tab w
theorem wrap_u16' (n : Int) : IntKind.u16.wrap n = n % 65536 := by simp [IntKind.wrap, IntKind.signed, IntKind.bits]
theorem bits_and_u16_nat (a b : Nat) (ha : a < 65536) (hb : b < 65536) : bits .and .u16 (a : Int) (b : Int) = ((a &&& b : Nat) : Int) := by
 have hx : a &&& b < 2 ^ 16 := Nat.and_lt_two_pow _ (by omega)
 have h1 : (BitVec.ofInt 16 (a : Int)).toNat = a := by
  rw [BitVec.ofInt_natCast, BitVec.toNat_ofNat]; exact Nat.mod_eq_of_lt (by omega)
 have h2 : (BitVec.ofInt 16 (b : Int)).toNat = b := by
  rw [BitVec.ofInt_natCast, BitVec.toNat_ofNat]; exact Nat.mod_eq_of_lt (by omega)
 show IntKind.u16.wrap ((BitVec.ofInt 16 (a : Int) &&& BitVec.ofInt 16 (b : Int)).toNat : Int) = _
 rw [BitVec.toNat_and, h1, h2, wrap_u16']
 omega
set_option maxHeartbeats 1000000 in
theorem tz16_core (x k idx : Nat) (w : World) (hx0 : ((x : Int) == 0) = false)
  (key : bits BinOp.and IntKind.u16 (x : Int) (IntKind.u16.wrap (-(x : Int))) % 4294967296 * 125613361 % 4294967296 / 134217728 = (idx : Int))
  (hi : idx < 32) (hk : k < 32) (hcell : w.cell? ⟨0, idx, none⟩ = some (.int .u8 k)) :
  Calls Tryd.prog 99 #[.int .u16 x] w fun e w' => e = .returned (.int .i64 k) ∧ w' = w := by
 go_enter Tryd.func99, Tryd.ntmps99
 go_wp2_with (simp only [key])
 go_ret
 exact ⟨rfl, rfl⟩
theorem tz16_calls (x : Nat) (h0 : x ≠ 0) (hx : x < 65536) (w : World) (hT : Tab w) :
  Calls Tryd.prog 99 #[.int .u16 x] w fun e w' => e = .returned (.int .i64 (Lib.ctz 16 x)) ∧ w' = w := by
 obtain ⟨hlow, hk⟩ := Lib.lowest_bit 16 x h0 hx
 obtain ⟨hi, htab⟩ := Lib.deBruijn32_at (Lib.ctz 16 x) (by omega)
 have hcell := hT _ hi
 rw [htab] at hcell
 refine tz16_core x _ _ w (by simp; omega) ?_ hi (by omega) hcell
 have e1 : IntKind.u16.wrap (-(x : Int)) = ((65536 - x : Nat) : Int) := by rw [wrap_u16']; omega
 rw [e1, bits_and_u16_nat x _ hx (by omega), show (65536 : Nat) = 2 ^ 16 from rfl, hlow]
 have hlt : (2 : Nat) ^ Lib.ctz 16 x < 65536 := Nat.pow_lt_pow_right (by omega) hk
 clear hlow htab hcell hi e1
 generalize (2 : Nat) ^ Lib.ctz 16 x = q at *
 rw [show (q : Int) % 4294967296 = q from by omega]
 omega
abbrev El (s : Nat) := { x : Nat // x ∈ elems s }
theorem Tab.lt {w : World} (h : Tab w) : 0 < w.heap.size := World.block_lt_of_cell? w _ (h 0 (by decide))
theorem Tab.keep {w w' : World} (h : Tab w) {n : Nat} (hn : 0 < n) (hb : Below n w w') : Tab w' := fun j hj => (hb.cell (p := ⟨_, j, none⟩) hn).trans (h j hj)
set_option maxRecDepth 100000 in
set_option maxHeartbeats 1000000 in
theorem all1_in (l Bn n₀ : Nat) (n : Nat) (hn : 1 ≤ n) (s : Nat) (hs : s < 65536) (J Jx : List (El s) → World → Prop)
  (hY : ∀ (pre : List (El s)) x W, J pre W → pre.length < (elems s).length → YieldAt Fence.wide (n - 1) Tryd.prog l #[.int .i64 (x.1 : Nat)] W fun e W' =>
   (e = .returned (.bool true) ∧ J (pre ++ [x]) W' ∧ Below n₀ W W') ∨ (e = .returned (.bool false) ∧ Jx (pre ++ [x]) W'))
  (W : World) (hBn : W.cell? ⟨Bn, 0, none⟩ = some (.int .u16 s)) (hT : Tab W) (hg : 0 < n₀) (h0 : J [] W) :
  CallsIn Fence.wide n Tryd.prog 98 #[.func (.yield l) #[] #[], .pointer (some ⟨Bn, 0, none⟩)] W fun e W' => (∃ v, e = .returned v) ∧
   ((∃ ys : List (El s), ys.map (·.1) = elems s ∧ J ys W') ∨ (∃ pre : List (El s), pre.map (·.1) <+: elems s ∧ Jx pre W')) := by
 refine callsIn_of_wp Tryd.func98 rfl trivial ?_ rfl
 simp only [Tryd.ntmps98, List.size_toArray, List.length_cons, List.length_nil, Nat.reduceAdd, Nat.reduceSub, Array.replicate_succ, Array.replicate_zero, List.push_toArray, List.append_toArray, List.nil_append, List.cons_append]
 gi_wp2
 gi_loopw [3] (fun p wr => ∃ (pre : List (El s)) (rest : Nat), p = .int .u16 rest ∧ rest < 65536 ∧ elems s = pre.map (·.1) ++ elems rest ∧ J pre wr ∧ Tab wr)
  (fun p _ => (intOf p).toNat)
 case atStart =>
  exact ⟨[], s, rfl, hs, rfl, h0, hT⟩
 case round =>
  obtain ⟨pre, rest, rfl, hr, hx, hJs, hTr⟩ := hrel
  by_cases hz : rest = 0
  ·
   subst hz
   have HX0 := Lib.hid (Eq.trans (by rw [elems_zero, List.append_nil]) hx.symm : pre.map (·.1) = elems s)
   clear hx
   gi_wp2
   go_end0
   exact ⟨⟨_, rfl⟩, .inl ⟨pre, HX0.out, hJs⟩⟩
  ·
   have hne : ((rest : Int) != 0) = true := by simp; omega
   have hlow := elems_low rest hz hr
   have hmem : Lib.ctz 16 rest ∈ elems s := by rw [hx, hlow]; simp
   have hlen : pre.length < (elems s).length := by rw [hx, hlow]; simp
   obtain ⟨fn, tmps, assign, body, hy, hR⟩ := hY pre ⟨Lib.ctz 16 rest, hmem⟩ wr hJs hlen
   have HX := Lib.hid hx
   have HL := Lib.hid hlow
   clear hx hlow
   gi_wp2_with (refine ⟨trivial, ?_⟩; gi_at_call 99; refine (callsIn_wide.2 (tz16_calls rest hz hr _ hTr)).mono ?_; rintro e w' ⟨rfl, rfl⟩)
   refine hR.mono ?_
   rintro e W3 (⟨rfl, hJ3, hk3⟩ | ⟨rfl, hJx3⟩)
   ·
    have hT3 := hTr.keep hg hk3
    gi_wp2
    have hb : bits BinOp.and IntKind.u16 (rest : Int) ((rest : Int) - 1) = ((rest &&& (rest - 1) : Nat) : Int) := by
     have := bits_and_u16_nat rest (rest - 1) hr (by omega)
     rwa [show ((rest - 1 : Nat) : Int) = (rest : Int) - 1 from by omega] at this
    go_roundw
    case rel => exact ⟨pre ++ [⟨_, hmem⟩], rest &&& (rest - 1), by rw [hb], low_lt _ hr, Eq.trans HX.out (by rw [HL.out, List.map_append, List.append_assoc]; rfl), hJ3, hT3⟩
    case measure => simp only [intOf, hb]; have := low_less rest hz hr; omega
   ·
    gi_wp2
    refine bodyPost_ret (results_none rfl _ _ _) rfl ?_
    exact ⟨⟨_, rfl⟩, .inr ⟨pre ++ [⟨_, hmem⟩], ⟨elems (rest &&& (rest - 1)), Eq.trans (by rw [HL.out, List.map_append, List.append_assoc]; rfl) HX.out.symm⟩, hJx3⟩⟩
set_option maxHeartbeats 1000000 in
theorem all_calls (s : Nat) (w : World) :
  Calls Tryd.prog 59 #[.int .u16 s] w fun e w' => e = .returned (.func (.func 98) #[] #[.pointer (some ⟨w.heap.size, 0, none⟩)]) ∧ w' = w.alloc (.cells #[.int .u16 s] 80) := by
 go_enter Tryd.func59, Tryd.ntmps59
 go_wp2
 go_ret
 exact ⟨rfl, rfl⟩
theorem all_stops (n : Nat) (hn : 1 ≤ n) (Bn n₀ s : Nat) (hs : s < 65536) (w : World) (hB : Bn < w.heap.size)
  (hc : w.cell? ⟨Bn, 0, none⟩ = some (.int .u16 s)) (hT : Tab w) (hg : 0 < n₀) :
  SeqStopsK Fence.wide n Tryd.prog 98 #[.pointer (some ⟨Bn, 0, none⟩)] (fun x : El s => #[Value.int .i64 (x.1 : Nat)]) (Below n₀)
   (fun ys => ys.map (·.1) = elems s) (fun pre => pre.map (·.1) <+: elems s) (elems s).length w := fun l J Jx W hW _ _ hY h0 =>
 all1_in l Bn n₀ n hn s hs J Jx hY W ((hW.cell (p := ⟨Bn, 0, none⟩) hB).trans hc) (hT.keep (hT.lt) hW) hg h0
end Go.Proofs.YtpmfghbjkampkaaDoor
