/- Parts of the proof, laid as one text by a program of mine. -/
import Derived.Test.YtlapphhcficbjaaGreatDoorKhc14
import Derived.Lib.Repeat
import Derived.StillTailTactics
import Derived.Sort.Grow
import Derived.Test.YtlapphhcficbjaaGreatDoorKhc8
namespace Go.Proofs.YtlapphhcficbjaaGreatDoor
set_option linter.unusedVariables false
set_option linter.unusedSimpArgs false
open Go.RowKit Go.Shelf Bits
open Go.Proofs.YtlapphhcficbjaaGreatDoorW.PrintWords Go.Proofs.YtlapphhcficbjaaGreatDoorW.PrintLast Go.Proofs.YtlapphhcficbjaaGreatDoorW.PrintMore
def lineP (a t : Nat) : List UInt8 := List.replicate (min t a) 46 ++ List.replicate (t - a) 35
def lineB (a t : Nat) : ByteArray := ⟨(lineP a t).toArray⟩
theorem lineP_zero (a : Nat) : lineP a 0 = [] := by simp [lineP]
theorem lineP_len (a t : Nat) : (lineP a t).length = t := by
 simp only [lineP, List.length_append, List.length_replicate]
 omega
theorem lineP_dot {a t : Nat} (h : t < a) : lineP a t ++ [46] = lineP a (t + 1) := by
 unfold lineP
 rw [show t - a = 0 by omega, show t + 1 - a = 0 by omega, show min t a = t by omega, show min (t + 1) a = t + 1 by omega]
 simp [List.replicate_succ']
theorem lineP_hash {a t : Nat} (h : a ≤ t) : lineP a t ++ [35] = lineP a (t + 1) := by
 unfold lineP
 rw [show t + 1 - a = (t - a) + 1 by omega, show min t a = a by omega, show min (t + 1) a = a by omega, List.append_assoc, List.replicate_succ']
theorem mk_append (x y : List UInt8) : (⟨x.toArray⟩ ++ ⟨y.toArray⟩ : ByteArray) = ⟨(x ++ y).toArray⟩ := by
 apply ByteArray.ext
 simp [ByteArray.data_append]
theorem lineB_dot {a t : Nat} (h : t < a) : lineB a t ++ ⟨#[46]⟩ = lineB a (t + 1) := by
 unfold lineB
 rw [← lineP_dot h]
 exact mk_append _ [46]
theorem lineB_hash {a t : Nat} (h : a ≤ t) : lineB a t ++ ⟨#[35]⟩ = lineB a (t + 1) := by
 unfold lineB
 rw [← lineP_hash h]
 exact mk_append _ [35]
theorem lineB_size (a t : Nat) : (lineB a t).size = t := by
 show (lineP a t).toArray.size = t
 rw [List.size_toArray, lineP_len]
theorem lineB_zero (a : Nat) : lineB a 0 = ⟨#[]⟩ := by
 unfold lineB
 rw [lineP_zero]
theorem rep_one (x : UInt8) (c : Nat) : Lib.repeatL [x] c = List.replicate c x := by
 have h := Lib.repeatL_replicate x 1 c
 rw [Nat.mul_one] at h
 exact h
theorem lineB_rep (a n : Nat) : (⟨(Lib.repeatL [46] a).toArray⟩ ++ ⟨(Lib.repeatL [35] n).toArray⟩ : ByteArray) = lineB a (a + n) := by
 rw [rep_one, rep_one, mk_append]
 unfold lineB lineP
 rw [show min (a + n) a = a by omega, show a + n - a = n by omega]
theorem lineP_get {a t k : Nat} (h : k < t) : (lineP a t)[k]? = some (if k < a then 46 else 35) := by
 unfold lineP
 rw [List.getElem?_append]
 by_cases hk : k < a
 ·
  rw [if_pos hk, List.length_replicate, if_pos (by omega), List.getElem?_replicate, if_pos (by omega)]
 ·
  rw [if_neg hk, List.length_replicate, if_neg (by omega), List.getElem?_replicate, if_pos (by omega)]
def lnS (g : List Tk) (st : List Int) (i : Nat) : ByteArray := lineB (st.getD i 0).toNat ((st.getD i 0).toNat + (rdTk g i).f0.toNat)
def chS (g : List Tk) (rm : List Int) (wk : Int) (st : List Int) : List ByteArray := if vStB g rm wk st then (List.range g.length).map (lnS g st) else []
theorem chS_len_le (g : List Tk) (rm : List Int) (wk : Int) (st : List Int) : (chS g rm wk st).length ≤ g.length := by
 unfold chS
 split
 ·
  simp
 ·
  exact Nat.zero_le _
theorem range_snocC {α : Type} (f : Nat → α) (j : Nat) : (List.range (j + 1)).map f = (List.range j).map f ++ [f j] := by
 rw [List.range_succ, List.map_append]
 rfl
end Go.Proofs.YtlapphhcficbjaaGreatDoor

namespace Go.Proofs.YtlapphhcficbjaaGreatDoor
set_option linter.unusedVariables false
set_option linter.unusedSimpArgs false
open Go.RowKit Go.Shelf Bits
open Go.Proofs.YtlapphhcficbjaaGreatDoorW.PrintWords Go.Proofs.YtlapphhcficbjaaGreatDoorW.PrintLast Go.Proofs.YtlapphhcficbjaaGreatDoorW.PrintMore
attribute [local go_sem] Oper.semAt_some
def cmpI (x y : Int) : Int := if x < y then -1 else if y < x then 1 else 0
def cmpE (a b : Ev) : Int := if a.f0 = b.f0 ∧ a.f2 ≠ b.f2 then (if a.f2 then -1 else 1) else if cmpI a.f0 b.f0 ≠ 0 then cmpI a.f0 b.f0 else cmpI a.f1 b.f1
theorem cmpI_neg {x y : Int} : cmpI x y < 0 ↔ x < y := by
 unfold cmpI
 split
 ·
  simp_all
 ·
  split <;> simp_all
theorem cmpI_zero {x y : Int} : cmpI x y = 0 ↔ x = y := by
 unfold cmpI
 split
 ·
  rename_i h
  constructor
  ·
   intro e; exact absurd e (by decide)
  ·
   intro e; omega
 ·
  rename_i h
  split
  ·
   rename_i h2
   constructor
   ·
    intro e; exact absurd e (by decide)
   ·
    intro e; omega
  ·
   rename_i h2
   exact ⟨fun _ => by omega, fun _ => rfl⟩
theorem cmpE_lt (a b : Ev) : cmpE a b < 0 ↔ ltE a b := by
 unfold cmpE ltE
 by_cases h0 : a.f0 = b.f0
 ·
  by_cases h2 : a.f2 = b.f2
  ·
   rw [if_neg (fun h => h.2 h2), if_neg (by rw [cmpI_zero.2 h0]; simp), cmpI_neg]
   constructor
   ·
    intro h
    exact .inr ⟨h0, .inr ⟨h2, h⟩⟩
   ·
    rintro (h | ⟨_, ⟨h, k⟩ | ⟨_, h⟩⟩)
    ·
     omega
    ·
     rw [h, k] at h2; cases h2
    ·
     exact h
  ·
   rw [if_pos ⟨h0, h2⟩]
   cases ha : a.f2
   ·
    simp only [Bool.false_eq_true, if_false]
    constructor
    ·
     intro h; exact absurd h (by decide)
    ·
     rintro (h | ⟨_, ⟨h, _⟩ | ⟨h, _⟩⟩)
     ·
      omega
     ·
      cases h
     ·
      rw [ha] at h2; exact absurd h h2
   ·
    have hb : b.f2 = false := by
     cases hb : b.f2
     ·
      rfl
     ·
      rw [ha, hb] at h2; exact absurd rfl h2
    simp only [if_true]
    exact ⟨fun _ => .inr ⟨h0, .inl ⟨by first | rfl | trivial | exact ha, hb⟩⟩, fun _ => by decide⟩
 ·
  rw [if_neg (fun h => h0 h.1), if_pos (fun h => h0 (cmpI_zero.1 h)), cmpI_neg]
  constructor
  ·
   exact .inl
  ·
   rintro (h | ⟨h, _⟩)
   ·
    exact h
   ·
    exact absurd h h0
theorem isNaN_calls (x : Int) (w : World) : Calls Tryz.prog 123 #[.int .i64 x] w fun e w' => e = .returned (.bool false) ∧ w' = w := by
 go_enter Tryz.func123, Tryz.ntmps123
 go_wp2
 go_ret
 exact ⟨ret_bool (by simp), rfl⟩
theorem compare_calls (x y : Int) (w : World) : Calls Tryz.prog 93 #[.int .i64 x, .int .i64 y] w fun e w' => e = .returned (.int .i64 (cmpI x y)) ∧ w' = w := by
 by_cases h1 : x < y
 ·
  have d1 : decide (x < y) = true := decide_eq_true h1
  have HF : Hid (cmpI x y = -1) := Lib.hid (by unfold cmpI; rw [if_pos h1])
  clear h1
  go_enter Tryz.func93, Tryz.ntmps93
  go_wp2_with (go_at_call 123; refine (isNaN_calls _ _).mono ?_; rintro e w' ⟨rfl, rfl⟩)
  go_ret
  exact ⟨ret_int HF.out.symm, rfl⟩
 ·
  have d1 : decide (x < y) = false := decide_eq_false h1
  by_cases h2 : y < x
  ·
   have d2 : decide (y < x) = true := decide_eq_true h2
   have HF : Hid (cmpI x y = 1) := Lib.hid (by unfold cmpI; rw [if_neg h1, if_pos h2])
   clear h1 h2
   go_enter Tryz.func93, Tryz.ntmps93
   go_wp2_with (go_at_call 123; refine (isNaN_calls _ _).mono ?_; rintro e w' ⟨rfl, rfl⟩)
   go_ret
   exact ⟨ret_int HF.out.symm, rfl⟩
  ·
   have d2 : decide (y < x) = false := decide_eq_false h2
   have HF : Hid (cmpI x y = 0) := Lib.hid (by unfold cmpI; rw [if_neg h1, if_neg h2])
   clear h1 h2
   go_enter Tryz.func93, Tryz.ntmps93
   go_wp2_with (go_at_call 123; refine (isNaN_calls _ _).mono ?_; rintro e w' ⟨rfl, rfl⟩)
   go_ret
   exact ⟨ret_int HF.out.symm, rfl⟩
theorem or_calls (A : Option Addr) (c : Nat) (a b r : Int) (HR : Hid ((if a ≠ 0 then a else b) = r)) (w : World) (hr : (Kd.int .i64).C w A 2 [a, b]) : Calls Tryz.prog 92 #[.slice A 2 c] w fun e w' => e = .returned (.int .i64 r) ∧ w' = w := by
 obtain ⟨ad, rfl, c0⟩ := at_num hr 0 (by omega)
 obtain ⟨ad', e', c1⟩ := at_num hr 1 (by omega)
 cases e'
 replace c0 : w.cell? (ad.add 0) = some (.int .i64 a) := c0
 rw [show ad.add 0 = ad from by cases ad; rfl] at c0
 replace c1 : w.cell? (ad.add 1) = some (.int .i64 b) := c1
 have c1 : w.cell? ⟨ad.block, ad.off + 1, none⟩ = some (.int .i64 b) := by simpa [Addr.add] using c1
 clear hr
 go_enter Tryz.func92, Tryz.ntmps92
 go_wp2
 go_loop [8] (fun i => ∃ (j : Nat), j ≤ 2 ∧ i = .int .i64 j ∧ Hid ((1 ≤ j → a = 0) ∧ (2 ≤ j → b = 0))) (fun i => 2 - (intOf i).toNat)
 case atStart => exact ⟨0, by omega, rfl, Lib.hid ⟨fun h => by omega, fun h => by omega⟩⟩
 case round =>
  obtain ⟨j, hj, rfl, HS⟩ := hrel
  by_cases h0 : j = 0
  ·
   subst h0
   by_cases ha : a = 0
   ·
    have da : (a != 0) = false := by rw [bne_eq_false_iff_eq]; exact ha
    have HA := Lib.hid ha
    clear ha
    go_wp2
    go_round
    case rel => exact ⟨1, by omega, rfl, Lib.hid ⟨fun _ => HA.out, fun h => by omega⟩⟩
    case measure => simp [intOf]
   ·
    have da : (a != 0) = true := by rw [bne_iff_ne]; exact ha
    have HF : Hid (r = a) := Lib.hid (by rw [← HR.out]; exact if_pos ha)
    clear ha
    go_wp2
    go_ret
    exact ⟨ret_int HF.out.symm, rfl⟩
  ·
   by_cases h1 : j = 1
   ·
    subst h1
    have HA := Lib.hid (HS.out.1 (Nat.le_refl _))
    by_cases hb : b = 0
    ·
     have da : (b != 0) = false := by rw [bne_eq_false_iff_eq]; exact hb
     have HB := Lib.hid hb
     clear hb h0
     go_wp2
     go_round
     case rel => exact ⟨2, by omega, rfl, Lib.hid ⟨fun _ => HA.out, fun _ => HB.out⟩⟩
     case measure => simp [intOf]
    ·
     have da : (b != 0) = true := by rw [bne_iff_ne]; exact hb
     have HF : Hid (r = b) := Lib.hid (by rw [← HR.out]; exact if_neg (fun h => h HA.out))
     clear hb h0
     go_wp2
     go_ret
     exact ⟨ret_int HF.out.symm, rfl⟩
   ·
    obtain rfl : j = 2 := by omega
    have HF : Hid (r = 0) := Lib.hid (by rw [← HR.out, HS.out.2 (Nat.le_refl _), HS.out.1 (by omega)]; rfl)
    clear h0 h1
    go_wp2
    go_ret
    exact ⟨ret_int HF.out.symm, rfl⟩
end Go.Proofs.YtlapphhcficbjaaGreatDoor

namespace Go.Proofs.YtlapphhcficbjaaGreatDoorW.PrintWords
set_option linter.unusedVariables false
set_option linter.unusedSimpArgs false
open Go Go.RowKit
namespace Kd
section
variable {α : Type} {d : Kd α} {e base g n cap : Nat} {ok ok' oki okp : Nat → Prop} {W : World} {v : Value} {xs : List α} {i : Int} {c : List Value}
theorem H_N (h : H d e W base ok v xs i oki c) (h0 : 0 ≤ i) (hi : i.toNat < xs.length) {x' : α} (hF : FK d W okp x' c) (hp : ∀ k, okp k → ok' k ∧ some k ≠ v.ownBlock) (ho : ∀ k, ok k → ok' k) : N d e W base ok' v (xs.set i.toNat x') := by
 obtain ⟨hoo, f, hown, inner, hw, hr⟩ := h
 rw [List.length_zipIdx] at hw
 have hraw := reps_raw hr (fun x cs hq => ⟨(gap f d i.toNat c).K_len ((gap f d i.toNat c).K_of_M hq), (gap f d i.toNat c).K_one ((gap f d i.toNat c).K_of_M hq)⟩)
 rw [List.length_zipIdx] at hraw
 refine ⟨fun k hk => ho k (hown k hk).1, chunks d.sz xs.length inner, by rw [chunks_length, List.length_set], ⟨fun k hk => hk.symm, inner, by rw [chunks_length]; exact hw, hraw⟩, fun j x cs hx hc => ?_⟩
 have hj : j < xs.length := by have := (List.getElem?_eq_some_iff.1 hx).1; rwa [List.length_set] at this
 have hM := hr.2 j _ (zip_at (List.getElem?_eq_getElem hj))
 rw [chunks_get hc]
 by_cases he : j = i.toNat
 ·
  subst he
  rw [List.getElem?_set_self hj] at hx
  injection hx with hx
  subst hx
  have e9 : (inner.drop (i.toNat * d.sz)).take d.sz = c := (hM.1 rfl).1
  rw [e9]
  exact FK_mono hF hp
 ·
  rw [List.getElem?_set_ne (fun e_ => he e_.symm), List.getElem?_eq_getElem hj] at hx
  injection hx with hx
  subst hx
  exact FK_mono (FK_of_M (hM.2 he)) (fun k hk => ⟨ho k hk.1.1.1, hk.1.2⟩)
theorem H_lt9 (h : H d e W base ok (.slice (some ⟨g, 0, none⟩) n cap) xs i oki c) : g < W.heap.size := by
 obtain ⟨_, f, hR⟩ := h
 exact R_lt hR g (by simp [Value.ownBlock])
end
end Kd
end Go.Proofs.YtlapphhcficbjaaGreatDoorW.PrintWords
