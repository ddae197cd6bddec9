/- order: the numbers of tasks in an order in which each one comes behind its needs. -/
import Derived.Test.YtpmfghbjkampkaaDoorSetOf
namespace Go.Proofs.YtpmfghbjkampkaaDoor
set_option linter.unusedVariables false
set_option linter.unusedSimpArgs false
open Go.RowKit Go.Shelf Bits
open Go.Proofs.YtpmfghbjkampkaaDoorW.PrintWords Go.Proofs.YtpmfghbjkampkaaDoorW.PrintLast Go.Proofs.YtpmfghbjkampkaaDoorW.PrintMore
theorem bits_andNot_u16 (a b : Nat) (ha : a < 65536) : bits .andNot .u16 (a : Int) (b : Int) = ((diff a b : Nat) : Int) := by
 have h1 : (BitVec.ofInt 16 (a : Int)) = BitVec.ofNat 16 a := by simp
 have h2 : (BitVec.ofInt 16 (b : Int)) = BitVec.ofNat 16 b := by simp
 show IntKind.u16.wrap ((BitVec.ofInt 16 (a : Int) &&& ~~~ BitVec.ofInt 16 (b : Int)).toNat : Int) = _
 rw [h1, h2]
 have e : (BitVec.ofNat 16 a &&& ~~~ BitVec.ofNat 16 b).toNat = diff a b := by
  apply Nat.eq_of_testBit_eq
  intro i
  rw [diff_bit, ← BitVec.getLsbD, BitVec.getLsbD_and, BitVec.getLsbD_not, BitVec.getLsbD_ofNat, BitVec.getLsbD_ofNat]
  by_cases hi : i < 16
  ·
   simp [hi]
  ·
   have : a.testBit i = false := Nat.testBit_lt_two_pow (Nat.lt_of_lt_of_le (show a < 2 ^ 16 from ha) (Nat.pow_le_pow_right (by omega) (by omega)))
   simp [hi, this]
 rw [e, wrap_u16']
 have := diff_lt (b := b) (n := 16) ha
 omega
def OrderPost (ns : List Nat) (w : World) (e : Ending) (w' : World) : Prop :=
 ∃ v, e = .returned (.tuple #[v, .int .u16 ((ordN ns ns.length).2 : Nat)]) ∧ Kd.R (Kd.int .i64) 3 w' w.heap.size (fun _ => True) v (ints (ordN ns ns.length).1) ∧ Below w.heap.size w w'
theorem not_ready_of_has {ns : List Nat} {done i : Nat} (h : done.testBit i = true) : isReady ns done i = false := by unfold isReady; rw [h]; rfl
theorem ready_of_not {ns : List Nat} {done i : Nat} (h : done.testBit i = false) : isReady ns done i = decide (diff (ns.getD i 0) done = 0) := by unfold isReady; rw [h]; rfl
set_option maxRecDepth 100000 in
set_option maxHeartbeats 2000000 in
theorem order_calls (A : Option Addr) (c : Nat) (ns : List Nat) (hlen : ns.length ≤ 15) (hns : ∀ i, ns.getD i 0 < 65536) (w : World) (hr : (Kd.int .u16).C w A ns.length (ints ns)) :
  Calls Tryd.prog 110 #[.slice A ns.length c] w (OrderPost ns w) := by
 have HR := Lib.hid hr
 clear hr
 have HNS := Lib.hid hns
 clear hns
 go_enter Tryd.func110, Tryd.ntmps110
 go_wp2
 have HB1 : Below w.heap.size w (w.alloc (.cells #[] 3)) := (Below.refl _ _).alloc (Nat.le_refl _) _
 have HO : Kd.R (Kd.int .i64) 3 (w.alloc (.cells #[] 3)) w.heap.size (fun _ => True) (.slice (some ⟨w.heap.size, 0, none⟩) 0 0) (ints []) := Kd.R_of_own (World.ownsRow_lit (base := w.heap.size) (size := 1) w #[] 0 (Nat.le_refl _) (by simp [maxLen]) rfl) (fun _ _ => trivial)
 go_loopw [4, 5, 11] (fun out s i wr => ∃ (k : Nat) (l : List Nat) (d : Nat), k ≤ ns.length ∧ i = .int .i64 k ∧ s = .int .u16 d ∧ Hid (ordN ns k = (l, d)) ∧ Kd.R (Kd.int .i64) 3 wr w.heap.size (fun _ => True) out (ints l) ∧ Below w.heap.size w wr) (fun _ _ i _ => ns.length - (intOf i).toNat)
 case atStart => exact ⟨0, [], 0, Nat.zero_le _, rfl, rfl, Lib.hid rfl, HO, HB1⟩
 case round =>
  clear HO HB1
  obtain ⟨k, l, d, hk, rfl, rfl, HS, HO, HB⟩ := hrel
  by_cases hlt : k < ns.length
  ·
   have hd : d < 65536 := by
    have := (ordN_lt ns k).1
    rw [HS.out] at this
    exact Nat.lt_of_lt_of_le this (pow_le_u16 (by omega))
   have hll : l.length < 1000000 := by
    have := (ordN_lt ns k).2.2
    rw [HS.out] at this
    simp at this
    omega
   go_wp2
   obtain ⟨wo, rfl⟩ : ∃ wo : World, wo = wr := ⟨_, rfl⟩
   go_loopw [4, 5, 15] (fun out s i wi => ∃ (j : Nat), j ≤ ns.length ∧ i = .int .i64 j ∧ s = .int .u16 d ∧ Hid (∀ q, q < j → isReady ns d q = false) ∧ Kd.R (Kd.int .i64) 3 wi w.heap.size (fun _ => True) out (ints l) ∧ Below w.heap.size w wi) (fun _ _ i _ => ns.length - (intOf i).toNat)
   case atStart => exact ⟨0, Nat.zero_le _, rfl, rfl, Lib.hid fun q h => absurd h (Nat.not_lt_zero _), HO, HB⟩
   case round =>
    clear HO HB
    obtain ⟨j, hj, rfl, rfl, hlow, HO, HB⟩ := hrel
    by_cases hjl : j < ns.length
    ·
     obtain ⟨ad, rfl, hc⟩ := at_set (Kd.C_below HR.out HB) j hjl
     have hx : ns.getD j 0 < 65536 := HNS.out j
     cases ht : d.testBit j
     ·
      have HT := Lib.hid ht
      clear ht
      cases hrd : isReady ns d j
      ·
       have HD := Lib.hid hrd
       have hb : (bits BinOp.andNot IntKind.u16 ((ns.getD j 0 : Nat) : Int) (d : Int) == 0) = false := by
        rw [bits_andNot_u16 _ d hx]
        have := hrd
        rw [ready_of_not HT.out, decide_eq_false_iff_not] at this
        simp only [beq_eq_false_iff_ne, ne_eq]
        omega
       clear hrd
       generalize ns.getD j 0 = x at hc hb hx
       go_wp2_with (go_at_call 74; refine (has_is _ d j HT hd (by omega) _).mono ?_; rintro e w' ⟨rfl, rfl⟩)
       go_roundw
       case rel => exact ⟨j + 1, by omega, by go_num, rfl, Lib.hid (fun q hq => by rcases Nat.lt_succ_iff_lt_or_eq.1 hq with h | h; exact hlow.out q h; rw [h]; exact HD.out), HO, HB⟩
       case measure => simp [intOf]; omega
      ·
       have HD := Lib.hid hrd
       have hb : (bits BinOp.andNot IntKind.u16 ((ns.getD j 0 : Nat) : Int) (d : Int) == 0) = true := by
        rw [bits_andNot_u16 _ d hx]
        have := hrd
        rw [ready_of_not HT.out, decide_eq_true_iff] at this
        rw [this]; rfl
       clear hrd
       have hstep : ordN ns (k + 1) = (l ++ [j], d ||| 2 ^ j) := by
        show ordStep ns (ordN ns k) = _
        rw [HS.out]
        unfold ordStep
        rw [firstReady_some hjl HD.out hlow.out]
       have HS2 := Lib.hid hstep
       clear hstep
       generalize ns.getD j 0 = x at hc hb hx
       go_wp2_with (first | (go_at_call 74; refine (has_is _ d j HT hd (by omega) _).mono ?_; rintro e w' ⟨rfl, rfl⟩) | (go_at_call 60; refine (with_calls d j hd (by omega) _).mono ?_; rintro e w' ⟨rfl, rfl⟩) | (at_builtin; refine ap_int (w0 := w) w.heap.size rfl _ _ rfl u4 (ints l) (j : Int) rfl rfl rfl HO HB HB.size (by rw [ints_length]; exact hll) ?_; intro v1 w2 hO2 hB2 _ _))
       go_roundw
       case rel => exact ⟨k + 1, l ++ [j], d ||| 2 ^ j, by omega, by go_num, rfl, HS2, by simpa [ints] using hO2, hB2⟩
       case measure => simp [intOf]; omega
     ·
      have HT := Lib.hid ht
      clear ht
      generalize ns.getD j 0 = x at hc hx
      go_wp2_with (go_at_call 74; refine (has_is _ d j HT hd (by omega) _).mono ?_; rintro e w' ⟨rfl, rfl⟩)
      go_roundw
      case rel => exact ⟨j + 1, by omega, by go_num, rfl, Lib.hid (fun q hq => by rcases Nat.lt_succ_iff_lt_or_eq.1 hq with h | h; exact hlow.out q h; rw [h]; exact not_ready_of_has HT.out), HO, HB⟩
      case measure => simp [intOf]; omega
    ·
     have hstep : ordN ns (k + 1) = (l, d) := by
      show ordStep ns (ordN ns k) = _
      rw [HS.out]
      unfold ordStep
      rw [firstReady_none (fun q hq => hlow.out q (by omega))]
     have HS2 := Lib.hid hstep
     clear hstep
     go_wp2
     go_roundw
     case rel => exact ⟨k + 1, l, d, by omega, by go_num, rfl, HS2, HO, HB⟩
     case measure => simp [intOf]; omega
  ·
   have hke : k = ns.length := by omega
   have HK := Lib.hid hke
   clear hke
   go_wp2
   go_ret2
   have e : ordN ns ns.length = (l, d) := by rw [← HK.out]; exact HS.out
   refine ⟨_, by rw [e]; rfl, by rw [e]; exact HO, HB⟩
end Go.Proofs.YtpmfghbjkampkaaDoor
