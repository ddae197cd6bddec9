/- The draws' plain functions come to an end: the reader's picks, lists of numbers, graphs. -/
import Derived.Test.YtpmfghbjkampkaaDoorQ2
namespace Go.Proofs.YtpmfghbjkampkaaDoor.PFnValidLog
set_option linter.unusedVariables false
set_option linter.unusedSimpArgs false
open Go Go.RowKit
open Go.Proofs.YtpmfghbjkampkaaDoorW.PrintWords Go.Proofs.YtpmfghbjkampkaaDoorW.PrintLast Go.Proofs.YtpmfghbjkampkaaDoorW.PrintMore
def Gets {α : Type} (g : Nat → Option α) (P : α → Prop) : Prop := ∃ k0 r, P r ∧ ∀ k, k0 ≤ k → g k = some r
section
variable {α β : Type} {P Q : α → Prop} {f g : Nat → Option α}
theorem Gets.ret {r : α} (h : P r) : Gets (fun _ => some r) P := ⟨0, r, h, fun _ _ => rfl⟩
theorem Gets.bind {h : Nat → α → Option β} {R : β → Prop} (hg : Gets g P) (hh : ∀ x, P x → Gets (fun k => h k x) R) : Gets (fun k => (g k).bind (h k)) R := by
 obtain ⟨k0, r, hr, h0⟩ := hg
 obtain ⟨k1, s, hs, h1⟩ := hh r hr
 refine ⟨k0 + k1, s, hs, fun k hk => ?_⟩
 show (g k).bind (h k) = some s
 rw [h0 k (by omega), Option.bind_some]
 exact h1 k (by omega)
theorem Gets.step (e : ∀ k, f (k + 1) = g k) (h : Gets g P) : Gets f P := by
 obtain ⟨k0, r, hr, h0⟩ := h
 refine ⟨k0 + 1, r, hr, fun k hk => ?_⟩
 obtain ⟨m, rfl⟩ : ∃ m, k = m + 1 := ⟨k - 1, by omega⟩
 rw [e, h0 m (by omega)]
theorem Gets.pos {c : Prop} [Decidable c] (hc : c) (h : Gets f P) : Gets (fun k => if c then f k else g k) P := by
 obtain ⟨k0, r, hr, h0⟩ := h
 exact ⟨k0, r, hr, fun k hk => (if_pos hc).trans (h0 k hk)⟩
theorem Gets.neg {c : Prop} [Decidable c] (hc : ¬ c) (h : Gets g P) : Gets (fun k => if c then f k else g k) P := by
 obtain ⟨k0, r, hr, h0⟩ := h
 exact ⟨k0, r, hr, fun k hk => (if_neg hc).trans (h0 k hk)⟩
theorem Gets.ite {c : Prop} [Decidable c] (ha : c → Gets f P) (hb : ¬ c → Gets g P) : Gets (fun k => if c then f k else g k) P := by
 by_cases hc : c
 ·
  exact Gets.pos hc (ha hc)
 ·
  exact Gets.neg hc (hb hc)
theorem Gets.mono (h : Gets g P) (hp : ∀ r, P r → Q r) : Gets g Q := by
 obtain ⟨k0, r, hr, h0⟩ := h
 exact ⟨k0, r, hp r hr, h0⟩
theorem Gets.congr (h : Gets g P) (e : ∀ k, f k = g k) : Gets f P := by
 obtain ⟨k0, r, hr, h0⟩ := h
 exact ⟨k0, r, hr, fun k hk => (e k).trans (h0 k hk)⟩
theorem Gets.at (h : Gets g P) : ∃ k r, P r ∧ g k = some r := by
 obtain ⟨k0, r, hr, h0⟩ := h
 exact ⟨k0, r, hr, h0 k0 (Nat.le_refl _)⟩
end
theorem w64 {x : Int} (h : -9223372036854775808 ≤ x) (h' : x < 9223372036854775808) : wrap64 x = x := by unfold wrap64; omega
theorem xor_nonneg {a b : Int} (ha : 0 ≤ a) (ha' : a < 4611686018427387904) (hb : 0 ≤ b) (hb' : b < 4611686018427387904) : 0 ≤ Go.bits .xor .i64 a b ∧ Go.bits .xor .i64 a b < 4611686018427387904 := by
 obtain ⟨a, rfl⟩ := Int.eq_ofNat_of_zero_le ha
 obtain ⟨b, rfl⟩ := Int.eq_ofNat_of_zero_le hb
 have ha2 : a < 2 ^ 62 := by
  have : (2 : Nat) ^ 62 = 4611686018427387904 := by decide
  omega
 have hb2 : b < 2 ^ 62 := by
  have : (2 : Nat) ^ 62 = 4611686018427387904 := by decide
  omega
 have hx : a ^^^ b < 2 ^ 62 := Nat.xor_lt_two_pow ha2 hb2
 have h64 : (2 : Nat) ^ 62 = 4611686018427387904 := by decide
 have e1 : a % 2 ^ 64 = a := Nat.mod_eq_of_lt (Nat.lt_of_lt_of_le ha2 (by decide))
 have e2 : b % 2 ^ 64 = b := Nat.mod_eq_of_lt (Nat.lt_of_lt_of_le hb2 (by decide))
 have e : Go.bits .xor .i64 (a : Int) (b : Int) = ((a ^^^ b : Nat) : Int) := by
  have hb : IntKind.i64.bits = 64 := rfl
  simp only [Go.bits, hb, BitVec.ofInt_natCast, BitVec.toNat_xor, BitVec.toNat_ofNat, e1, e2]
  rw [IntKind.wrap_i64]
  omega
 rw [e]
 omega
theorem rd_byte {b : List Int} (hb : ∀ x ∈ b, 0 ≤ x ∧ x < 256) (i : Int) : 0 ≤ rd b i ∧ rd b i < 256 := by
 unfold rd
 rw [List.getD_eq_getElem?_getD]
 cases h : b[i.toNat]? with
 | none => exact ⟨Int.le_refl _, by decide⟩
 | some x => exact hb x (List.mem_of_getElem? h)
def Picked (n p : Int) (r : Int × Int) : Prop := 0 ≤ r.1 ∧ (0 < n → r.1 < n) ∧ (n ≤ 0 → r.1 = 0) ∧ r.2 = p + 1
theorem pick_gets {b : List Int} (hb : ∀ x ∈ b, 0 ≤ x ∧ x < 256) (hl : b.length ≤ 2000) {p n : Int} (h0 : 0 ≤ p) (h1 : p ≤ 1000000) : Gets (fun k => spec_reader_pick.f k b p n) (Picked n p) := by
 have e1 : wrap64 (p + 1) = p + 1 := w64 (by omega) (by omega)
 have e2 : wrap64 (p + 1 - 1) = p := by rw [w64 (by omega) (by omega)]; omega
 unfold spec_reader_pick.f
 rw [e1]
 refine Gets.ite (fun hn => ?_) (fun hn => ?_)
 ·
  refine Gets.step (fun k => by rw [spec_reader_pick.j0]) ?_
  refine Gets.pos rfl (Gets.ret ⟨Int.le_refl _, fun h => by omega, fun _ => rfl, rfl⟩)
 ·
  by_cases hz : b.length = 0
  ·
   refine Gets.step (fun k => by rw [spec_reader_pick.j0]) ?_
   refine Gets.pos (by simp [hz]) (Gets.ret ⟨Int.le_refl _, fun h => by omega, fun _ => rfl, rfl⟩)
  ·
   refine Gets.step (fun k => by rw [spec_reader_pick.j0]) ?_
   refine Gets.neg (by simp [hz]) ?_
   rw [e2]
   refine Gets.ite (fun hp => ?_) (fun hp => ?_)
   ·
    refine Gets.pos h0 (Gets.neg (by omega) (Gets.ret ?_))
    have hr := rd_byte hb p
    rw [w64 (by omega) (by omega)]
    exact ⟨Int.tmod_nonneg _ hr.1, fun h => Int.tmod_lt_of_pos _ h, fun h => by omega, rfl⟩
   ·
    have hL : (0 : Int) < (b.length : Int) := by omega
    have m1 := Int.tmod_nonneg (b.length : Int) h0
    have m2 := Int.tmod_lt_of_pos p hL
    have e3 : wrap64 (p * 7) = p * 7 := w64 (by omega) (by omega)
    have e4 : wrap64 (p * 7 + 3) = p * 7 + 3 := w64 (by omega) (by omega)
    rw [e3, e4]
    have m3 := Int.tmod_nonneg (b.length : Int) (show 0 ≤ p * 7 + 3 by omega)
    have m4 := Int.tmod_lt_of_pos (p * 7 + 3) hL
    refine Gets.neg (by omega) (Gets.pos m1 (Gets.pos m2 (Gets.pos m3 (Gets.pos m4 (Gets.neg (by omega) (Gets.ret ?_))))))
    have q1 := rd_byte hb (Int.tmod p b.length)
    have q2 := rd_byte hb (Int.tmod (p * 7 + 3) b.length)
    have q3 : 0 ≤ Int.tdiv p b.length := Int.tdiv_nonneg h0 (by omega)
    have q4 : Int.tdiv p b.length ≤ p := by
     rw [Int.tdiv_eq_ediv_of_nonneg h0]
     exact Int.ediv_le_self _ h0
    generalize rd b (Int.tmod p b.length) = u at q1 ⊢
    generalize rd b (Int.tmod (p * 7 + 3) b.length) = v at q2 ⊢
    generalize Int.tdiv p b.length = d at q3 q4 ⊢
    rw [w64 (x := u) (by omega) (by omega), w64 (x := v) (by omega) (by omega), w64 (x := d) (by omega) (by omega), w64 (x := u * 131) (by omega) (by omega), w64 (x := v * 1117) (by omega) (by omega), w64 (x := p * 29) (by omega) (by omega), w64 (x := d * 53) (by omega) (by omega), w64 (x := u * 131 + v * 1117) (by omega) (by omega), w64 (x := u * 131 + v * 1117 + p * 29) (by omega) (by omega), w64 (x := u * 131 + v * 1117 + p * 29 + d * 53) (by omega) (by omega)]
    have x0 : 0 ≤ u * 131 + v * 1117 + p * 29 + d * 53 ∧ u * 131 + v * 1117 + p * 29 + d * 53 < 1000000000 := by omega
    generalize u * 131 + v * 1117 + p * 29 + d * 53 = x at x0 ⊢
    have y1 : 0 ≤ Int.tdiv x 64 := Int.tdiv_nonneg x0.1 (by omega)
    have y2 : Int.tdiv x 64 ≤ x := by
     rw [Int.tdiv_eq_ediv_of_nonneg x0.1]
     exact Int.ediv_le_self _ x0.1
    rw [w64 (x := Int.tdiv x 64) (by omega) (by omega)]
    have z := xor_nonneg x0.1 (by omega) y1 (by omega)
    exact ⟨Int.tmod_nonneg _ z.1, fun h => Int.tmod_lt_of_pos _ h, fun h => by omega, rfl⟩
theorem one_gets {b : List Int} (hb : ∀ x ∈ b, 0 ≤ x ∧ x < 256) (hl : b.length ≤ 2000) {p : Int} {l : List Int} (h0 : 0 ≤ p) (h1 : p ≤ 1000000) (hp : 0 < l.length) : Gets (fun k => spec_reader_one.f k b p l) (fun r => r.1 ∈ l ∧ r.2 = p + 1) := by
 unfold spec_reader_one.f
 refine Gets.bind (pick_gets hb hl h0 h1) fun x hx => ?_
 obtain ⟨x1, x2, x3, x4⟩ := hx
 have := x2 (by omega)
 refine Gets.pos x1 (Gets.pos this (Gets.ret ⟨?_, x4⟩))
 unfold rd
 rw [List.getD_eq_getElem?_getD, List.getElem?_eq_getElem (by omega : x.1.toNat < l.length)]
 exact List.getElem_mem _
end Go.Proofs.YtpmfghbjkampkaaDoor.PFnValidLog
