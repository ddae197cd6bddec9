/- setOf: the set of ascending numbers. -/
import Derived.Test.YtpmfghbjkampkaaDoorSmall
import Derived.Test.YtpmfghbjkampkaaDoorPlain
namespace Go.Proofs.YtpmfghbjkampkaaDoor
set_option linter.unusedVariables false
set_option linter.unusedSimpArgs false
open Go.RowKit Go.Shelf Bits
open Go.Proofs.YtpmfghbjkampkaaDoorW.PrintWords Go.Proofs.YtpmfghbjkampkaaDoorW.PrintLast Go.Proofs.YtpmfghbjkampkaaDoorW.PrintMore
def setRet (o : Option Nat) : Ending := .returned (.tuple #[.int .u16 ((o.getD 0 : Nat) : Int), .bool o.isSome])
set_option maxHeartbeats 1000000 in
theorem setOf_calls (A : Option Addr) (c : Nat) (l : List Int) (n : Nat) (hn : n ≤ 15) (w : World) (hr : (Kd.int .i64).C w A l.length l) :
  Calls Tryd.prog 101 #[.slice A l.length c, .int .i64 n] w fun e w' => e = setRet (setOfN l n) ∧ w' = w := by
 have hl := (C_len hr).2
 have HR := Lib.hid hr
 clear hr
 go_enter Tryd.func101, Tryd.ntmps101
 go_wp2
 go_loop [6, 7, 12] (fun s last i => ∃ (k : Nat) (a : Nat) (b : Int), k ≤ l.length ∧ i = .int .i64 k ∧ last = .int .i64 b ∧ s = .int .u16 a ∧ a < 65536 ∧ -1 ≤ b ∧ b ≤ 15 ∧ Hid (setOfN l n = setOfL n (l.drop k) b a)) (fun _ _ i => l.length - (intOf i).toNat)
 case atStart => exact ⟨0, 0, -1, Nat.zero_le _, rfl, rfl, rfl, by omega, by omega, by omega, rfl⟩
 case round =>
  obtain ⟨k, a, b, hk, rfl, rfl, rfl, ha, hb0, hb1, HS⟩ := hrel
  by_cases hlt : k < l.length
  ·
   obtain ⟨ad, rfl, hc⟩ := at_num HR.out k hlt
   have hd : l.drop k = l.getD k 0 :: l.drop (k + 1) := by
    rw [List.drop_eq_getElem_cons hlt]; simp [List.getD_eq_getElem?_getD, hlt]
   rw [hd, setOfL_cons] at HS
   clear hd
   generalize l.getD k 0 = x at *
   by_cases hin : b + 1 ≤ x ∧ x ≤ n - 1
   ·
    rw [if_pos hin] at HS
    obtain ⟨m, rfl⟩ := Int.eq_ofNat_of_zero_le (by omega : 0 ≤ x)
    rw [Int.toNat_natCast] at HS
    have hm : m < 16 := by omega
    have hor := or_lt a (2 ^ m) ha (pow_u16 m hm).2
    have HI := Lib.hid (inB_true.2 hin)
    obtain ⟨hin1, hin2⟩ := hin
    go_wp2_with (first | (go_at_call 73; refine (within_calls _ _ _ _).mono ?_; rintro e w' ⟨rfl, rfl⟩; rw [HI.out]) | (go_at_call 60; refine (with_calls a m ha hm _).mono ?_; rintro e w' ⟨rfl, rfl⟩))
    go_round
    case rel => exact ⟨k + 1, _, m, by omega, by go_num, rfl, rfl, hor, by omega, by omega, HS⟩
    case measure => simp [intOf]; omega
   ·
    rw [if_neg hin] at HS
    have HI := Lib.hid (inB_false.2 (show x < b + 1 ∨ (n : Int) - 1 < x by omega))
    clear hin
    go_wp2_with (go_at_call 73; refine (within_calls _ _ _ _).mono ?_; rintro e w' ⟨rfl, rfl⟩; rw [HI.out])
    go_ret2
    exact ⟨by rw [HS.out]; rfl, rfl⟩
  ·
   have hke : l.drop k = [] := List.drop_eq_nil_of_le (by omega)
   rw [hke] at HS
   clear hke
   go_wp2
   go_ret2
   exact ⟨by rw [HS.out]; rfl, rfl⟩
theorem setOf_some (A : Option Addr) (c : Nat) (l : List Int) (n s : Nat) (h : Hid (setOfN l n = some s)) (hn : n ≤ 15) (w : World) (hr : (Kd.int .i64).C w A l.length l) :
  Calls Tryd.prog 101 #[.slice A l.length c, .int .i64 n] w fun e w' => e = .returned (.tuple #[.int .u16 s, .bool true]) ∧ w' = w :=
 (setOf_calls A c l n hn w hr).mono fun e w' ⟨he, hw⟩ => ⟨by rw [he, h.out]; rfl, hw⟩
theorem setOf_none (A : Option Addr) (c : Nat) (l : List Int) (n : Nat) (h : Hid (setOfN l n = none)) (hn : n ≤ 15) (w : World) (hr : (Kd.int .i64).C w A l.length l) :
  Calls Tryd.prog 101 #[.slice A l.length c, .int .i64 n] w fun e w' => e = .returned (.tuple #[.int .u16 0, .bool false]) ∧ w' = w :=
 (setOf_calls A c l n hn w hr).mono fun e w' ⟨he, hw⟩ => ⟨by rw [he, h.out]; rfl, hw⟩
end Go.Proofs.YtpmfghbjkampkaaDoor
