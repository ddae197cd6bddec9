/- Parts of the proof, laid as one text by a program of mine. -/
import Derived.Test.YtdjdfbfcjajlkaaDoorKcc3
import Derived.Test.YtdjdfbfcjajlkaaDoorKcc2
import Derived.Deep.QuietTactic
import Derived.BigQuiet
namespace Go.Proofs.YtdjdfbfcjajlkaaDoor
set_option linter.unusedVariables false
set_option linter.unusedSimpArgs false
open Go.RowKit Go.Shelf Bits
open Go.Proofs.YtdjdfbfcjajlkaaDoorW.PrintWords Go.Proofs.YtdjdfbfcjajlkaaDoorW.PrintLast Go.Proofs.YtdjdfbfcjajlkaaDoorW.PrintMore
def RowV (W : World) (B m : Nat) (t : TypeId) (f : Nat → Value) : Prop := W.heap[B]? = some (.cells ((List.range m).map f).toArray t (0, 0))
theorem RowV.cell {W : World} {B m : Nat} {t : TypeId} {f : Nat → Value} (h : RowV W B m t f) {q : Nat} (hq : q < m) : W.cell? ⟨B, q, none⟩ = some (f q) := by
 rw [blk_cell h q]
 simp [hq]
theorem RowV.frozen {W : World} {B m : Nat} {t : TypeId} {f : Nat → Value} (h : RowV W B m t f) (q : Nat) : W.frozen? ⟨B, q, none⟩ = false := blk_frozen h q
theorem RowV.lt {W : World} {B m : Nat} {t : TypeId} {f : Nat → Value} (h : RowV W B m t f) : B < W.heap.size := blk_lt h
theorem RowV.congr {W : World} {B m : Nat} {t : TypeId} {f f' : Nat → Value} (h : RowV W B m t f) (he : ∀ q, q < m → f q = f' q) : RowV W B m t f' := by
 unfold RowV at h ⊢
 rw [h, List.map_congr_left (fun q hq => he q (List.mem_range.1 hq))]
theorem RowV.set {W : World} {B m : Nat} {t : TypeId} {f : Nat → Value} (h : RowV W B m t f) (q : Nat) (v : Value) : RowV (W.setCell ⟨B, q, none⟩ v) B m t (fun x => if x = q then v else f x) := by
 have hs := blk_set h q v
 unfold RowV
 rw [hs]
 congr 2
 have : ((List.range m).map f).set q v = (List.range m).map (fun x => if x = q then v else f x) := by
  apply List.ext_getElem (by simp)
  intro i h1 h2
  simp only [List.getElem_set, List.getElem_map, List.getElem_range]
  by_cases e : q = i
  ·
   rw [if_pos e, if_pos e.symm]
  ·
   rw [if_neg e, if_neg (fun e2 => e e2.symm)]
 rw [← this]
 simp
theorem RowV.far {W : World} {B m : Nat} {t : TypeId} {f : Nat → Value} (h : RowV W B m t f) {p : Addr} (hp : B ≠ p.block) (u : Value) : RowV (W.setCell p u) B m t f := blk_far h hp u
theorem RowV.below {W W' : World} {B m : Nat} {t : TypeId} {f : Nat → Value} (h : RowV W B m t f) (hb : Below W.heap.size W W') : RowV W' B m t f := (hb.block B (blk_lt h)).trans h
theorem RowV.block {W W' : World} {B m : Nat} {t : TypeId} {f : Nat → Value} (h : RowV W B m t f) (hb : W'.heap[B]? = W.heap[B]?) : RowV W' B m t f := hb.trans h
def cellT (g : List Tk) (vs : Nat → Value) (q : Nat) : Value :=
 if q % 4 = 0 then .int .i64 (rdTk g (q / 4)).f0 else if q % 4 = 1 then vs (q / 4) else if q % 4 = 2 then .int .i64 (rdTk g (q / 4)).f2 else .int .i64 (rdTk g (q / 4)).f3
theorem cellT_at (g : List Tk) (vs : Nat → Value) (i : Nat) : cellT g vs (i * 4) = .int .i64 (rdTk g i).f0 ∧ cellT g vs (i * 4 + 1) = vs i ∧ cellT g vs (i * 4 + 2) = .int .i64 (rdTk g i).f2 ∧ cellT g vs (i * 4 + 3) = .int .i64 (rdTk g i).f3 := by
 have h0 : i * 4 % 4 = 0 := by omega
 have h1 : (i * 4 + 1) % 4 = 1 := by omega
 have h2 : (i * 4 + 2) % 4 = 2 := by omega
 have h3 : (i * 4 + 3) % 4 = 3 := by omega
 have d0 : i * 4 / 4 = i := by omega
 have d1 : (i * 4 + 1) / 4 = i := by omega
 have d2 : (i * 4 + 2) / 4 = i := by omega
 have d3 : (i * 4 + 3) / 4 = i := by omega
 unfold cellT
 rw [h0, h1, h2, h3, d0, d1, d2, d3]
 exact ⟨rfl, rfl, rfl, rfl⟩
theorem plain_add (B q : Nat) : (⟨B, 0, none⟩ : Addr).add q = ⟨B, q, none⟩ := by
 unfold Addr.add
 split <;> simp_all
theorem C_of_RowV {W : World} {B : Nat} {t : TypeId} {g : List Tk} {vs : Nat → Value} (h : RowV W B (g.length * 4) t (cellT g vs)) (hm : g.length ≤ 10000000) (hv : ∀ i, i < g.length → ∃ A c, vs i = .slice A (rdTk g i).f1.length c ∧ (rdTk g i).f1.length ≤ c ∧ (Kd.int .i64).C W A (rdTk g i).f1.length (rdTk g i).f1) : kTk.C W (some ⟨B, 0, none⟩) g.length g := by
 refine ⟨rfl, by omega, fun _ => ⟨_, rfl, fun j p hj => ?_⟩⟩
 have hjl : j < g.length := (List.getElem?_eq_some_iff.1 hj).1
 have hp : rdTk g j = p := by
  unfold rdTk
  rw [List.getD_eq_getElem?_getD, hj]
  rfl
 obtain ⟨A, c, e, hl, hC⟩ := hv j hjl
 rw [hp] at e hl hC
 refine ⟨[.int .i64 p.f0, .slice A p.f1.length c, .int .i64 p.f2, .int .i64 p.f3], rfl, ⟨[.int .i64 p.f0], [.slice A p.f1.length c, .int .i64 p.f2, .int .i64 p.f3], rfl, rfl, ⟨[.slice A p.f1.length c], [.int .i64 p.f2, .int .i64 p.f3], rfl, ⟨A, c, rfl, hl, hC⟩, ⟨[.int .i64 p.f2], [.int .i64 p.f3], rfl, rfl, rfl⟩⟩⟩, fun i u hu => ?_⟩
 obtain ⟨c0, c1, c2, c3⟩ := cellT_at g vs j
 rw [hp] at c0 c2 c3
 rw [e] at c1
 rw [plain_add]
 have hi : i < 4 := by
  have := (List.getElem?_eq_some_iff.1 hu).1
  simpa using this
 have hq : j * kTk.sz + i < g.length * 4 := by
  show j * 4 + i < g.length * 4
  omega
 rw [h.cell hq]
 show some (cellT g vs (j * 4 + i)) = some u
 rcases i with _ | _ | _ | _ | i
 ·
  rw [Nat.add_zero, c0]
  simpa using hu
 ·
  rw [c1]
  simpa using hu
 ·
  rw [c2]
  simpa using hu
 ·
  rw [c3]
  simpa using hu
 ·
  omega
end Go.Proofs.YtdjdfbfcjajlkaaDoor

namespace Go.Proofs.YtdjdfbfcjajlkaaDoor
set_option linter.unusedVariables false
set_option linter.unusedSimpArgs false
open Go.RowKit Go.Shelf Bits
open Go.Proofs.YtdjdfbfcjajlkaaDoorW.PrintWords Go.Proofs.YtdjdfbfcjajlkaaDoorW.PrintLast Go.Proofs.YtdjdfbfcjajlkaaDoorW.PrintMore
theorem inRange_calls (n lo hi : Int) (w : World) : Calls Tryd.prog 50 #[.int .i64 n, .int .i64 lo, .int .i64 hi] w fun e w' => e = .returned (.bool (inB n lo hi)) ∧ w' = w := by
 by_cases h1 : lo ≤ n
 ·
  have d1 : decide (lo ≤ n) = true := by simpa using h1
  go_enter Tryd.func50, Tryd.ntmps50
  go_wp2
  go_ret
  exact ⟨ret_bool (by rw [inB, decide_eq_true h1, Bool.true_and]), rfl⟩
 ·
  have d1 : decide (lo ≤ n) = false := by simpa using h1
  go_enter Tryd.func50, Tryd.ntmps50
  go_wp2
  go_ret
  exact ⟨ret_bool (by rw [inB, decide_eq_false (by omega : ¬ lo ≤ n), Bool.false_and]), rfl⟩
theorem inRange_is (b : Bool) (n lo hi : Int) (h : Hid (inB n lo hi = b)) (w : World) : Calls Tryd.prog 50 #[.int .i64 n, .int .i64 lo, .int .i64 hi] w fun e w' => e = .returned (.bool b) ∧ w' = w :=
 (inRange_calls n lo hi w).mono fun e w' ⟨he, hw⟩ => ⟨by rw [he, h.out], hw⟩
def ascB (l : List Int) : Bool := (List.range (l.length - 1)).all fun j => decide (l.getD j 0 < l.getD (j + 1) 0)
def allInB (l : List Int) (lo hi : Int) : Bool := l.all fun x => inB x lo hi
def allDoneB (needs done : List Int) : Bool := needs.all fun x => decide (x ∈ done)
theorem all_take {α : Type} {p : α → Bool} {l : List α} (z : α) (h : ∀ j, j < l.length → p (l.getD j z) = true) : l.all p = true := by
 rw [List.all_eq_true]
 intro x hx
 obtain ⟨j, hj, rfl⟩ := List.getElem_of_mem hx
 have := h j hj
 rwa [List.getD_eq_getElem?_getD, List.getElem?_eq_getElem hj] at this
theorem all_not {α : Type} {p : α → Bool} {l : List α} (z : α) {j : Nat} (hj : j < l.length) (h : p (l.getD j z) = false) : l.all p = false := by
 rw [List.all_eq_false]
 refine ⟨l.getD j z, ?_, by rw [h]; simp⟩
 rw [List.getD_eq_getElem?_getD, List.getElem?_eq_getElem hj]
 exact List.getElem_mem _
theorem not_mem_of {l : List Int} {n : Int} (h : ∀ j, j < l.length → l.getD j 0 ≠ n) : ¬ n ∈ l := by
 intro hx
 obtain ⟨j, hj, rfl⟩ := List.getElem_of_mem hx
 exact h j hj (by rw [List.getD_eq_getElem?_getD, List.getElem?_eq_getElem hj]; rfl)
theorem mem_getD {l : List Int} {j : Nat} (hj : j < l.length) : l.getD j 0 ∈ l := by
 rw [List.getD_eq_getElem?_getD, List.getElem?_eq_getElem hj]
 exact List.getElem_mem _
theorem step_lt {k : Nat} {P : Nat → Prop} (h : Hid (∀ j, j < k → P j)) (hk : P k) : Hid (∀ j, j < k + 1 → P j) := Lib.hid fun j hj => by
 rcases Nat.lt_succ_iff_lt_or_eq.1 hj with h1 | h1
 ·
  exact h.out j h1
 ·
  rw [h1]; exact hk
set_option maxHeartbeats 1000000 in
theorem allIn_calls (A : Option Addr) (c : Nat) (l : List Int) (lo hi : Int) (w : World) (hr : (Kd.int .i64).C w A l.length l) :
  Calls Tryd.prog 82 #[.slice A l.length c, .int .i64 lo, .int .i64 hi] w fun e w' => e = .returned (.bool (allInB l lo hi)) ∧ w' = w := by
 have hl := (C_len hr).2
 have HR := Lib.hid hr
 clear hr
 go_enter Tryd.func82, Tryd.ntmps82
 go_wp2
 go_loop [7] (fun i => ∃ (k : Nat), k ≤ l.length ∧ i = .int .i64 k ∧ Hid (∀ j, j < k → inB (l.getD j 0) lo hi = true)) (fun i => l.length - (intOf i).toNat)
 case atStart => exact ⟨0, Nat.zero_le _, rfl, Lib.hid fun j h => absurd h (Nat.not_lt_zero _)⟩
 case round =>
  obtain ⟨k, hk, rfl, HS⟩ := hrel
  by_cases hlt : k < l.length
  ·
   obtain ⟨ad, rfl, hc⟩ := at_num HR.out k hlt
   cases hb : inB (l.getD k 0) lo hi
   ·
    have HB := Lib.hid hb
    have HF := Lib.hid (all_not (p := fun x => inB x lo hi) 0 hlt hb)
    clear hb
    generalize l.getD k 0 = x at hc HB
    go_wp2_with (go_at_call 50; refine (inRange_is _ _ _ _ HB _).mono ?_; rintro e w' ⟨rfl, rfl⟩)
    go_ret
    exact ⟨ret_bool HF.out.symm, rfl⟩
   ·
    have HB := Lib.hid hb
    have HN := step_lt HS hb
    clear hb
    generalize l.getD k 0 = x at hc HB
    go_wp2_with (go_at_call 50; refine (inRange_is _ _ _ _ HB _).mono ?_; rintro e w' ⟨rfl, rfl⟩)
    go_round
    case rel => exact ⟨k + 1, by omega, by go_num, HN⟩
    case measure => simp [intOf]; omega
  ·
   have HF := Lib.hid (all_take (p := fun x => inB x lo hi) (l := l) 0 fun j hj => HS.out j (by omega))
   go_wp2
   go_ret
   exact ⟨ret_bool HF.out.symm, rfl⟩
set_option maxHeartbeats 1000000 in
theorem isIn_calls (A : Option Addr) (c : Nat) (l : List Int) (n : Int) (w : World) (hr : (Kd.int .i64).C w A l.length l) :
  Calls Tryd.prog 110 #[.slice A l.length c, .int .i64 n] w fun e w' => e = .returned (.bool (decide (n ∈ l))) ∧ w' = w := by
 have hl := (C_len hr).2
 have HR := Lib.hid hr
 clear hr
 go_enter Tryd.func110, Tryd.ntmps110
 go_wp2
 go_loop [5] (fun i => ∃ (k : Nat), k ≤ l.length ∧ i = .int .i64 k ∧ Hid (∀ j, j < k → l.getD j 0 ≠ n)) (fun i => l.length - (intOf i).toNat)
 case atStart => exact ⟨0, Nat.zero_le _, rfl, Lib.hid fun j h => absurd h (Nat.not_lt_zero _)⟩
 case round =>
  obtain ⟨k, hk, rfl, HS⟩ := hrel
  by_cases hlt : k < l.length
  ·
   obtain ⟨ad, rfl, hc⟩ := at_num HR.out k hlt
   by_cases hb : l.getD k 0 = n
   ·
    have HF : Hid (decide (n ∈ l) = true) := Lib.hid (decide_eq_true (by rw [← hb]; exact mem_getD hlt))
    have d1 : (l.getD k 0 == n) = true := beq_iff_eq.2 hb
    clear hb
    generalize l.getD k 0 = x at hc d1
    go_wp2
    go_ret
    exact ⟨ret_bool HF.out.symm, rfl⟩
   ·
    have HN := step_lt HS hb
    have d1 : (l.getD k 0 == n) = false := beq_eq_false_iff_ne.2 hb
    clear hb
    generalize l.getD k 0 = x at hc d1
    go_wp2
    go_round
    case rel => exact ⟨k + 1, by omega, by go_num, HN⟩
    case measure => simp [intOf]; omega
  ·
   have HF : Hid (decide (n ∈ l) = false) := Lib.hid (decide_eq_false (not_mem_of fun j hj => HS.out j (by omega)))
   go_wp2
   go_ret
   exact ⟨ret_bool HF.out.symm, rfl⟩
theorem isIn_is (b : Bool) (A : Option Addr) (c : Nat) (l : List Int) (n : Int) (h : Hid (decide (n ∈ l) = b)) (w : World) (hr : (Kd.int .i64).C w A l.length l) : Calls Tryd.prog 110 #[.slice A l.length c, .int .i64 n] w fun e w' => e = .returned (.bool b) ∧ w' = w :=
 (isIn_calls A c l n w hr).mono fun e w' ⟨he, hw⟩ => ⟨by rw [he, h.out], hw⟩
set_option maxHeartbeats 1000000 in
theorem allDone_calls (A : Option Addr) (c : Nat) (l : List Int) (A' : Option Addr) (c' : Nat) (d : List Int) (w : World) (hr : (Kd.int .i64).C w A l.length l) (hr' : (Kd.int .i64).C w A' d.length d) :
  Calls Tryd.prog 111 #[.slice A l.length c, .slice A' d.length c'] w fun e w' => e = .returned (.bool (allDoneB l d)) ∧ w' = w := by
 have hl := (C_len hr).2
 have HR := Lib.hid hr
 have HR' := Lib.hid hr'
 clear hr hr'
 go_enter Tryd.func111, Tryd.ntmps111
 go_wp2
 go_loop [5] (fun i => ∃ (k : Nat), k ≤ l.length ∧ i = .int .i64 k ∧ Hid (∀ j, j < k → decide (l.getD j 0 ∈ d) = true)) (fun i => l.length - (intOf i).toNat)
 case atStart => exact ⟨0, Nat.zero_le _, rfl, Lib.hid fun j h => absurd h (Nat.not_lt_zero _)⟩
 case round =>
  obtain ⟨k, hk, rfl, HS⟩ := hrel
  by_cases hlt : k < l.length
  ·
   obtain ⟨ad, rfl, hc⟩ := at_num HR.out k hlt
   cases hb : decide (l.getD k 0 ∈ d)
   ·
    have HB := Lib.hid hb
    have HF := Lib.hid (all_not (p := fun x => decide (x ∈ d)) 0 hlt hb)
    clear hb
    generalize l.getD k 0 = x at hc HB
    go_wp2_with (go_at_call 110; refine (isIn_is _ _ _ _ _ HB _ HR'.out).mono ?_; rintro e w' ⟨rfl, rfl⟩)
    go_ret
    exact ⟨ret_bool HF.out.symm, rfl⟩
   ·
    have HB := Lib.hid hb
    have HN := step_lt HS hb
    clear hb
    generalize l.getD k 0 = x at hc HB
    go_wp2_with (go_at_call 110; refine (isIn_is _ _ _ _ _ HB _ HR'.out).mono ?_; rintro e w' ⟨rfl, rfl⟩)
    go_round
    case rel => exact ⟨k + 1, by omega, by go_num, HN⟩
    case measure => simp [intOf]; omega
  ·
   have HF := Lib.hid (all_take (p := fun x => decide (x ∈ d)) (l := l) 0 fun j hj => HS.out j (by omega))
   go_wp2
   go_ret
   exact ⟨ret_bool HF.out.symm, rfl⟩
theorem allDone_is (b : Bool) (A : Option Addr) (c : Nat) (l : List Int) (A' : Option Addr) (c' : Nat) (d : List Int) (h : Hid (allDoneB l d = b)) (w : World) (hr : (Kd.int .i64).C w A l.length l) (hr' : (Kd.int .i64).C w A' d.length d) :
  Calls Tryd.prog 111 #[.slice A l.length c, .slice A' d.length c'] w fun e w' => e = .returned (.bool b) ∧ w' = w :=
 (allDone_calls A c l A' c' d w hr hr').mono fun e w' ⟨he, hw⟩ => ⟨by rw [he, h.out], hw⟩
set_option maxHeartbeats 1000000 in
theorem ascends_calls (A : Option Addr) (c : Nat) (l : List Int) (w : World) (hr : (Kd.int .i64).C w A l.length l) :
  Calls Tryd.prog 123 #[.slice A l.length c] w fun e w' => e = .returned (.bool (ascB l)) ∧ Below w.heap.size w w' := by
 have hl := (C_len hr).2
 have HR := Lib.hid hr
 clear hr
 go_enter Tryd.func123, Tryd.ntmps123
 go_wp2
 go_loopw [3] (fun i wr => ∃ (k : Nat), 1 ≤ k ∧ k ≤ max 1 l.length ∧ i = .int .i64 k ∧ Hid (∀ j, j < k - 1 → decide (l.getD j 0 < l.getD (j + 1) 0) = true) ∧ Below w.heap.size w wr) (fun i _ => l.length - (intOf i).toNat)
 case atStart => exact ⟨1, Nat.le_refl _, by omega, rfl, Lib.hid fun j h => absurd h (Nat.not_lt_zero _), Below.refl _ _⟩
 case round =>
  obtain ⟨k, hk0, hk, rfl, HS, HB⟩ := hrel
  by_cases hlt : k < l.length
  ·
   obtain ⟨ad, rfl, hc⟩ := at_num (Kd.C_below HR.out HB) k hlt
   obtain ⟨ad', e, hc'⟩ := at_num (Kd.C_below HR.out HB) (k - 1) (by omega)
   cases e
   have hkk : k - 1 + 1 = k := by omega
   have hkl : k - 1 < l.length := by omega
   have HKK := Lib.hid hkk
   clear hkk
   cases hb : decide (l.getD (k - 1) 0 < l.getD k 0)
   ·
    have HF : Hid (ascB l = false) := Lib.hid (by
     unfold ascB
     rw [List.all_eq_false]
     exact ⟨k - 1, List.mem_range.2 (by omega), by rw [HKK.out, hb]; simp⟩)
    have hle : l.getD k 0 ≤ l.getD (k - 1) 0 := by have := of_decide_eq_false hb; omega
    clear hb
    generalize l.getD k 0 = x at hc hle
    generalize l.getD (k - 1) 0 = y at hc' hle
    go_wp2
    go_quiet (fail)
    go_wp2
    go_ret
    exact ⟨ret_bool HF.out.symm, pw_below_drewN HB _⟩
   ·
    have HN : Hid (∀ j, j < k + 1 - 1 → decide (l.getD j 0 < l.getD (j + 1) 0) = true) := Lib.hid fun j hj => by
     by_cases e : j = k - 1
     ·
      rw [e, HKK.out]; exact hb
     ·
      exact HS.out j (by omega)
    have hle : l.getD (k - 1) 0 < l.getD k 0 := of_decide_eq_true hb
    clear hb
    generalize l.getD k 0 = x at hc hle
    generalize l.getD (k - 1) 0 = y at hc' hle
    go_wp2
    go_quiet (fail)
    go_wp2
    go_roundw
    case rel => exact ⟨k + 1, by omega, by omega, by go_num, HN, pw_below_drewN HB _⟩
    case measure => simp [intOf]; omega
  ·
   have HF : Hid (ascB l = true) := Lib.hid (by
    unfold ascB
    rw [List.all_eq_true]
    exact fun j hj => HS.out j (by have := List.mem_range.1 hj; omega))
   go_wp2
   go_ret
   exact ⟨ret_bool HF.out.symm, HB⟩
end Go.Proofs.YtdjdfbfcjajlkaaDoor

namespace Go.Proofs.YtdjdfbfcjajlkaaDoor
set_option linter.unusedVariables false
set_option linter.unusedSimpArgs false
open Go.RowKit Go.Shelf Bits
open Go.Proofs.YtdjdfbfcjajlkaaDoorW.PrintWords Go.Proofs.YtdjdfbfcjajlkaaDoorW.PrintLast Go.Proofs.YtdjdfbfcjajlkaaDoorW.PrintMore
theorem list_ext0 {a b : List Int} (hl : a.length = b.length) (h : ∀ j, j < a.length → a.getD j 0 = b.getD j 0) : a = b := by
 apply List.ext_getElem hl
 intro j h1 h2
 have := h j h1
 rw [List.getD_eq_getElem?_getD, List.getD_eq_getElem?_getD, List.getElem?_eq_getElem h1, List.getElem?_eq_getElem h2] at this
 exact this
end Go.Proofs.YtdjdfbfcjajlkaaDoor

namespace Go.Proofs.YtdjdfbfcjajlkaaDoor
set_option linter.unusedVariables false
set_option linter.unusedSimpArgs false
open Go.RowKit Go.Shelf Bits
theorem needsL_all (n : Nat) : ∀ (l : List Tk) (ns : List Nat), needsL n l = some ns → l.length = ns.length ∧ ∀ i, i < l.length → taskOk (l.getD i zTk) = true ∧ setOfN (l.getD i zTk).f1 n = some (ns.getD i 0)
 | [], ns, h => by
  simp only [needsL, Option.some.injEq] at h
  subst h
  exact ⟨rfl, fun i hi => absurd hi (Nat.not_lt_zero _)⟩
 | t :: r, ns, h => by
  cases h1 : setOfN t.f1 n with
  | none => rw [needsL_bad (Or.inl h1)] at h; cases h
  | some s =>
   cases h2 : taskOk t with
   | false => rw [needsL_bad (Or.inr h2)] at h; cases h
   | true =>
    rw [needsL_good h1 h2] at h
    obtain ⟨ms, h3, rfl⟩ := Option.map_eq_some_iff.1 h
    obtain ⟨h4, h5⟩ := needsL_all n r ms h3
    refine ⟨by simp [h4], fun i hi => ?_⟩
    cases i with
    | zero => exact ⟨h2, h1⟩
    | succ i => exact h5 i (by simpa using hi)
theorem graphN_all {g : List Tk} {ns : List Nat} (h : graphN g = some ns) : g.length ≤ 8 ∧ ns.length = g.length ∧ ∀ i, i < g.length → taskOk (rdTk g i) = true ∧ setOfN (rdTk g i).f1 g.length = some (ns.getD i 0) := by
 obtain ⟨h1, _, h3, h4⟩ := graphN_some h
 have h5 : needsL g.length g = some ns := by
  unfold needsN at h1
  rwa [if_neg (by omega)] at h1
 exact ⟨h3, h4, (needsL_all _ _ _ h5).2⟩
theorem graphN_time {g : List Tk} {ns : List Nat} (h : graphN g = some ns) (i : Nat) : 0 ≤ (rdTk g i).f0 ∧ (rdTk g i).f0 ≤ 20 := by
 by_cases hi : i < g.length
 ·
  have h1 := ((graphN_all h).2.2 i hi).1
  unfold taskOk at h1
  simp only [Bool.and_eq_true] at h1
  have := inB_true.1 h1.1.1
  omega
 ·
  simp [rdTk, List.getD_eq_getElem?_getD, List.getElem?_eq_none (Nat.le_of_not_lt hi), zTk]
theorem graphN_need_lt {g : List Tk} {ns : List Nat} (h : graphN g = some ns) (i : Nat) : ns.getD i 0 < 2 ^ g.length := by
 by_cases hi : i < g.length
 ·
  exact setOfN_lt ((graphN_all h).2.2 i hi).2
 ·
  have := (graphN_all h).2.1
  rw [List.getD_eq_getElem?_getD, List.getElem?_eq_none (by omega)]
  exact Nat.two_pow_pos _
theorem graphN_need_u16 {g : List Tk} {ns : List Nat} (h : graphN g = some ns) (i : Nat) : ns.getD i 0 < 65536 :=
 Nat.lt_of_lt_of_le (graphN_need_lt h i) (pow_le_u16 (by have := (graphN_all h).1; omega))
end Go.Proofs.YtdjdfbfcjajlkaaDoor

namespace Go.Proofs.YtdjdfbfcjajlkaaDoor
set_option linter.unusedVariables false
set_option linter.unusedSimpArgs false
open Go.RowKit Go.Shelf Bits
open Go.Proofs.YtdjdfbfcjajlkaaDoorW.PrintWords Go.Proofs.YtdjdfbfcjajlkaaDoorW.PrintLast Go.Proofs.YtdjdfbfcjajlkaaDoorW.PrintMore
attribute [local go_sem] Oper.semAt_some
def zeroI (n : Nat) : Array Value := ((List.replicate n (0 : Int)).map (Value.int .i64)).toArray
theorem madeI (n : Nat) : madeCells #[Value.int .i64 0] n = zeroI n := by
 unfold zeroI
 apply Array.ext
 ·
  simp [madeCells]
 ·
  intro i h1 h2
  simp [madeCells, Nat.mod_one]
theorem run_makeI (n : Nat) (hn : n ≤ 1000000) (W : World) : (Instr.makeSlice 23 (Value.int IntKind.i64 (n : Int)) (Value.int IntKind.i64 (n : Int))).run Tryd.prog W = .ok (.slice (some ⟨W.heap.size, 0, none⟩) n n) (W.alloc (.cells (zeroI n) 3)) := by
 obtain ⟨i0, hi, hz0, hz1, hz2⟩ := info_parts infoInt
 rw [← madeI]
 have := run_make (P := Tryd.prog) W 23 3 i0 (.int .i64 0) Tryd.underlying23 hi hz0 .i64 .i64 (n : Int) (n : Int) (by omega) (by omega) (by rw [hz2]; omega) (by omega)
 simpa [hz1, Value.cells] using this
def tailN (g : List Tk) (ns : List Nat) : List Int := tailsL g ns (ordN ns ns.length).1 (backL (ordN ns ns.length).1.length (ordN ns ns.length).1.length)
set_option maxRecDepth 100000 in
set_option maxHeartbeats 8000000 in
theorem tails_calls (C : Nat) (g : List Tk) (ns : List Nat) (hgr : graphN g = some ns) (w : World) (hG : IsGraph w C g ns) (hT : Tab w) :
  Calls Tryd.prog 69 #[.pointer (some ⟨C, 0, none⟩)] w fun e w' => ∃ v, e = .returned v ∧ Kd.R (Kd.int .i64) 3 w' w.heap.size (fun _ => True) v (tailN g ns) ∧ Below w.heap.size w w' := by
 obtain ⟨hn, hd, hlen, hnl⟩ := graphN_some hgr
 have HGR := Lib.hid hgr
 have HN := Lib.hid hn
 have HNL := Lib.hid hnl
 have HG := Lib.hid hG
 obtain ⟨Ag, cg, An, cn, Ao, co, vb, va, h1, h2, h3, h4⟩ := hG
 have hCl := blk_lt h1
 have cC := blk_cell h1 2
 simp at cC
 have HH := Lib.hid (And.intro h1 (And.intro h2 (And.intro h3 h4)))
 have hmk := run_makeI g.length (by omega)
 have hol := (ordN_lt ns ns.length).2.2
 have cC3 : ∀ o1 o2 o3 : Obj, (((w.alloc o1).alloc o2).alloc o3).cell? ⟨C, 2, none⟩ = some (.slice Ao (ordN ns ns.length).1.length co) := fun o1 o2 o3 => pw_cell_below ((((Below.refl _ w).alloc (Nat.le_refl _) o1).alloc (by simp) o2).alloc (by simp; omega) o3) cC
 clear h1 h2 h3 h4 hgr hn hd hnl cC
 refine calls_of_wp_marks Tryd.func69 rfl ?_
 simp only [Tryd.ntmps69, List.size_toArray, List.length_cons, List.length_nil, Nat.reduceAdd, Nat.reduceSub, Array.replicate_succ, Array.replicate_zero, List.push_toArray, List.append_toArray, List.nil_append, List.cons_append]
 go_wp2_with (first | (go_at_call 65; refine (size_calls _ C g ns (HG.out.below ((Below.refl _ _).alloc (Nat.le_refl _) _))).mono ?_; rintro e w' ⟨rfl, rfl⟩) | (go_at_call 102; refine (backward_calls _ _ _ _).mono ?_; rintro e w' ⟨rfl, rfl⟩))
 obtain ⟨X, hXe⟩ : ∃ X, X = w.heap.size := ⟨_, rfl⟩
 obtain ⟨m, hm⟩ : ∃ m, m = (ordN ns ns.length).1.length := ⟨_, rfl⟩
 obtain ⟨W0, hW0⟩ : ∃ W0, W0 = (((w.alloc (.cells #[.pointer (some ⟨C, 0, none⟩)] 60)).alloc (.cells (zeroI g.length) 3)).alloc (.cells #[.slice (some ⟨w.heap.size + 1, 0, none⟩) g.length g.length] 23)).alloc (.cells #[.slice Ao (ordN ns ns.length).1.length co] 23) := ⟨_, rfl⟩
 have hB0 : Below w.heap.size w W0 := by rw [hW0]; exact ((((Below.refl _ w).alloc (Nat.le_refl _) _).alloc (by simp) _).alloc (by simp; omega) _).alloc (by simp; omega) _
 have hnl8 : ns.length ≤ 8 := by have := HNL.out; omega
 have hz0 : W0.heap.size = w.heap.size + 1 + 1 + 1 + 1 := by rw [hW0]; simp
 have hbB : Boxed W0 (w.heap.size + 1 + 1 + 1) 23 (.slice Ao (ordN ns ns.length).1.length co) := by rw [hW0]; have := Boxed.new (((w.alloc (.cells #[.pointer (some ⟨C, 0, none⟩)] 60)).alloc (.cells (zeroI g.length) 3)).alloc (.cells #[.slice (some ⟨w.heap.size + 1, 0, none⟩) g.length g.length] 23)) 23 (.slice Ao (ordN ns ns.length).1.length co); rwa [World.size_alloc, World.size_alloc, World.size_alloc] at this
 have hTH : THeap w (w.heap.size + 4) g.length C w.heap.size (w.heap.size + 1 + 1) (w.heap.size + 1) (List.replicate g.length 0) W0 := by
  refine ⟨?_, ?_, ?_, hB0, by rw [hz0]; omega⟩ <;> rw [hW0]
  ·
   exact (((Boxed.new w _ _).alloc _).alloc _).alloc _
  ·
   have := (Boxed.new ((w.alloc (.cells #[.pointer (some ⟨C, 0, none⟩)] 60)).alloc (.cells (zeroI g.length) 3)) 23 (.slice (some ⟨w.heap.size + 1, 0, none⟩) g.length g.length)).alloc (.cells #[.slice Ao (ordN ns ns.length).1.length co] 23)
   rwa [World.size_alloc, World.size_alloc] at this
  ·
   have h0 : (w.alloc (.cells #[.pointer (some ⟨C, 0, none⟩)] 60)).heap.size = w.heap.size + 1 := by simp
   have := World.alloc_heap_new (w.alloc (.cells #[.pointer (some ⟨C, 0, none⟩)] 60)) (.cells (zeroI g.length) 3)
   rw [h0] at this
   exact (Below.heap_alloc _ _ _ (by simp)).trans ((Below.heap_alloc _ _ _ (by simp)).trans this)
 rw [← hW0]
 clear hW0 cC3 hmk
 have hord := (ordN_lt ns ns.length).2.1
 have HORD := Lib.hid hord
 have hCo : (Kd.int .i64).C W0 Ao (ints (ordN ns ns.length).1).length (ints (ordN ns ns.length).1) := by rw [ints_length]; exact Kd.C_below HH.out.2.2.2 hB0
 obtain ⟨Aq, hA', hAl⟩ : ∃ Aq : Option Addr, (∀ ad, Ao = some ad → 0 < (ints (ordN ns ns.length).1).length → Aq = some ad) ∧ (∀ ad, Aq = some ad → ad.block < w.heap.size) := by
  refine ⟨if (ordN ns ns.length).1.length = 0 then none else Ao, fun ad e hl => ?_, fun ad e => ?_⟩
  ·
   rw [ints_length] at hl
   rw [if_neg (by omega)]
   exact e
  ·
   split at e
   ·
    cases e
   ·
    obtain ⟨ad', e', hc⟩ := at_num HH.out.2.2.2 0 (by omega)
    rw [e] at e'
    cases e'
    have := World.block_lt_of_cell? w _ hc
    have e2 : (ad.add 0).block = ad.block := by unfold Addr.add; split <;> rfl
    rwa [e2] at this
 have htl := hT.lt
 clear hord hXe hm
 have hil := ints_length (ordN ns ns.length).1
 refine wp_rangeBack (w.heap.size + 1 + 1 + 1) Ao Aq co (ints (ordN ns ns.length).1) hA' (by rw [hil]; omega) rfl (by rw [hz0]; omega) (by rw [hil]; exact hbB.cell) hCo (fun ad e => by have := hAl ad e; omega)
  (fun pre W => THeap w (w.heap.size + 4) g.length C w.heap.size (w.heap.size + 1 + 1) (w.heap.size + 1) (tailsL g ns (ordN ns ns.length).1 (pre.map (·.1))) W) (fun _ _ _ => False)
  (THeap.own _ (by rw [hz0]; omega)) (fun _ _ _ _ _ h _ _ => h) hTH
  (fun x a' W' => ∃ (t : Array Value) (b : Nat), a' = { tmps := t, defers := [] } ∧ t.size = 53 ∧ t.getD 1 undef = .pointer (some ⟨w.heap.size, 0, none⟩) ∧ t.getD 3 undef = .pointer (some ⟨w.heap.size + 1 + 1, 0, none⟩) ∧ t.getD 5 undef = .pointer (some ⟨b, 0, none⟩) ∧ W0.heap.size ≤ b ∧ Boxed W' b 3 (.int .i64 ((ints (ordN ns ns.length).1).getD x.1 0)))
  (fun x a' s W1 W2 row h hg hr => by
   obtain ⟨t, b, q1, q2, q3, q4, q5, q6, q7⟩ := h
   exact ⟨t, b, q1, q2, q3, q4, q5, q6, (Own.from (boxed_own b 3 (fun _ : Unit => _)) _) () W1 W2 row q7 hg hr⟩) ?assign ?body ?done ?stop
 case stop => exact fun _ _ _ _ _ h _ => h.elim
 case assign =>
  intro l pre x W K hI hK
  generalize (ints (ordN ns ns.length).1).getD x.1 0 = z at hK ⊢
  have hWs := hI.hB.size
  gi_wp2
  exact hK _ _ ((KeepsOthers.alloc _ _).from _) (KeepB.below ((Below.refl _ _).alloc (Nat.le_refl _) _)) (hI.alloc _) ⟨_, W.heap.size, rfl, rfl, rfl, rfl, rfl, by have := hI.hn; omega, Boxed.new _ _ _⟩
 case body =>
  rintro l pre x a' W hlW ⟨lr, hlr⟩ hI ⟨t, b, rfl, ht, t1, t3, t5, hb1, hbx⟩ hlen'
  obtain ⟨u, rfl⟩ : ∃ u : Nat → Value, t = #[u 0, u 1, u 2, u 3, u 4, u 5, u 6, u 7, u 8, u 9, u 10, u 11, u 12, u 13, u 14, u 15, u 16, u 17, u 18, u 19, u 20, u 21, u 22, u 23, u 24, u 25, u 26, u 27, u 28, u 29, u 30, u 31, u 32, u 33, u 34, u 35, u 36, u 37, u 38, u 39, u 40, u 41, u 42, u 43, u 44, u 45, u 46, u 47, u 48, u 49, u 50, u 51, u 52] := ⟨fun i => t.getD i undef, (arr_of_size t 53 ht).trans rfl⟩
  replace t1 : u 1 = _ := t1
  replace t3 : u 3 = _ := t3
  replace t5 : u 5 = _ := t5
  clear ht
  rw [ints_getD] at hbx
  have hxl : x.1 < (ordN ns ns.length).1.length := by rw [← hil]; exact x.2
  have hin : (ordN ns ns.length).1.getD x.1 0 < g.length := by
   rw [← HNL.out]
   apply HORD.out
   rw [List.getD_eq_getElem?_getD, List.getElem?_eq_getElem hxl]
   exact List.getElem_mem _
  have hSP := tails_span (g := g) (ns := ns) (ord := (ordN ns ns.length).1) (graphN_time HGR.out) (pre.map (·.1))
  have hSN := tailsL_snoc g ns (ordN ns ns.length).1 (pre.map (·.1)) x.1
  have HSN : Hid (tailsL g ns (ordN ns ns.length).1 ((pre ++ [x]).map (·.1)) = tailStep g ns (tailsL g ns (ordN ns ns.length).1 (pre.map (·.1))) ((ordN ns ns.length).1.getD x.1 0)) := Lib.hid (by rw [List.map_append, List.map_cons, List.map_nil]; exact hSN)
  clear hSN
  have hpl : pre.length < 8 := by omega
  rw [List.length_map] at hSP
  generalize tailsL g ns (ordN ns ns.length).1 (pre.map (·.1)) = o at hI hSP HSN
  generalize (ordN ns ns.length).1.getD x.1 0 = i at hbx hin HSN
  obtain ⟨h1, h2, h3, _⟩ := HH.out
  have hBw := hI.hB
  have h1' : W.heap[C]? = _ := (hBw.block C hCl).trans h1
  have cC0 := blk_cell h1' 0
  have cC1 := blk_cell h1' 1
  simp at cC0 cC1
  obtain ⟨adg, A1, c1, rfl, hx0, _⟩ := at_Tk (Kd.C_below h2 hBw) i hin
  obtain ⟨adn, rfl, hn1⟩ := at_set (Kd.C_below h3 hBw) i (by rw [HNL.out]; exact hin)
  have hnl := HNL.out
  have hin2 : i < ns.length := by omega
  have hs := needsN_lt HN.out i
  have hs2 := needsN_pow HN.out i
  have htm := graphN_time HGR.out i
  have hol' : o.length = g.length := hSP.1
  have cX := hI.hX.cell
  have cO := hI.hO.cell
  have cI := hbx.cell
  have cR := hI.hR.cell i (by omega)
  have fR := hI.hR.frozen i
  have hoi := hSP.2 i
  have HTS : Hid (tailStep g ns o i = (elems (ns.getD i 0)).foldl (tailPush i) (o.set i (o.getD i 0 + (rdTk g i).f0))) := Lib.hid rfl
  have HOI : Hid (o.getD i 0 = o.getD i 0) := Lib.hid rfl
  generalize hy : o.getD i 0 = y at cR hoi HTS
  generalize htq : (rdTk g i).f0 = tm at hx0 htm HTS
  generalize hsq : ns.getD i 0 = s at hn1 hs hs2 HTS
  have HY := Lib.hid hy
  have HSQ := Lib.hid hsq
  clear h1 h2 h3 h1' hy htq hsq HOI hnl
  have hii : (i : Int) < (g.length : Int) := by omega
  have hii2 : (i : Int) < (ns.length : Int) := by omega
  have hwr : IntKind.i64.wrap (y + tm) = y + tm := IntWalk.i64_in _ (by omega)
  gi_wp2
  refine wpIn_region_still_tail 14 mixed (by kernel_rfl) (by kernel_rfl) (fun ⟨_, _, h⟩ => h) ?_
  simp only [List.take_succ_cons, List.take_zero, List.drop_succ_cons, List.drop_zero]
  repeat (with_reducible refine wpStill_step (fun K hK => ?_); go_simp; with_reducible refine hK _ ?_; clear hK K)
  with_reducible refine wpStill_nil ?_
  clear hwr
  go_wp2
  have hXR : w.heap.size ≠ w.heap.size + 1 := by omega
  have hOR : w.heap.size + 1 + 1 ≠ w.heap.size + 1 := by omega
  have hWn := hI.hn
  have hbR : b ≠ w.heap.size + 1 := by omega
  obtain ⟨W1, hW1⟩ : ∃ W1, W1 = (W.setCell ⟨w.heap.size + 1, i, none⟩ (.int .i64 (y + tm))).drew := ⟨_, rfl⟩
  have hI1 : THeap w (w.heap.size + 4) g.length C w.heap.size (w.heap.size + 1 + 1) (w.heap.size + 1) (o.set i (y + tm)) W1 := by rw [hW1]; exact (hI.set hXR hOR (by omega) i (y + tm)).drew
  have hbx1 : Boxed W1 b 3 (.int .i64 (i : Int)) := by rw [hW1]; exact blk_far hbx hbR _
  have hKF1 : KeepsOthers W W1 := by rw [hW1]; exact (KeepsOthers.setCell _ _ _).trans (KeepsOthers.drew _)
  have hKB1 : KeepB (w.heap.size + 1 + 1 + 1) Aq W W1 := by
   rw [hW1]
   exact KeepB.set W ⟨w.heap.size + 1, i, none⟩ _ (show w.heap.size + 1 + 1 + 1 ≠ w.heap.size + 1 by omega) (fun ad e => show ad.block ≠ w.heap.size + 1 by have := hAl ad e; omega)
  have hlr1 : W1.heap[l]? = some (.loop lr) := hKF1.same l _ hlr rfl
  have hz1 : W1.heap.size = W.heap.size := by rw [hW1]; simp [World.setCell, World.drew]
  rw [← hW1]
  have HI := Lib.hid hI1
  have HK1 := Lib.hid (And.intro hKF1 (And.intro hKB1 hlr1))
  clear hW1 cX cO cI cR fR cC0 cC1 hI hbx hBw hKF1 hKB1 hlr1
  have hBw1 := hI1.hB
  have cC1 : W1.cell? ⟨C, 1, none⟩ = some (.slice (some adn) ns.length cn) := pw_cell_below hBw1 (by have := blk_cell HH.out.1 1; simpa using this)
  have cn1 : W1.cell? (adn.add i) = some (.int .u16 (s : Nat)) := by
   obtain ⟨ad', e', hc⟩ := at_set (Kd.C_below HH.out.2.2.1 hBw1) i hin2
   cases e'
   rw [hc, HSQ.out]
  have HZ1 := Lib.hid hz1
  clear hz1
  have cX := hI1.hX.cell
  have cI := hbx1.cell
  gi_wp2
  refine wpIn_region_still_tail 7 mixed (by kernel_rfl) (by kernel_rfl) (fun ⟨_, _, h⟩ => h) ?_
  simp only [List.take_succ_cons, List.take_zero, List.drop_succ_cons, List.drop_zero]
  repeat (with_reducible refine wpStill_step (fun K hK => ?_); go_simp; with_reducible refine hK _ ?_; clear hK K)
  with_reducible refine wpStill_nil ?_
  go_wp2_with (go_at_call 89; refine (all_calls s _).mono ?_; rintro e w' ⟨rfl, rfl⟩)
  gi_wp2
  obtain ⟨W2, hW2⟩ : ∃ W2, W2 = (W1.alloc (.cells #[.int .u16 s] 69)).drew := ⟨_, rfl⟩
  have hI2 : THeap w (w.heap.size + 4) g.length C w.heap.size (w.heap.size + 1 + 1) (w.heap.size + 1) (o.set i (y + tm)) W2 := by rw [hW2]; exact (hI1.alloc _).drew
  have hbx2 : Boxed W2 b 3 (.int .i64 (i : Int)) := by rw [hW2]; exact hbx1.alloc _
  have hset2 : Boxed W2 W1.heap.size 69 (.int .u16 s) := by rw [hW2]; exact Boxed.new W1 _ _
  have hKF2 : KeepsOthers W W2 := by rw [hW2]; exact HK1.out.1.trans ((KeepsOthers.alloc _ _).trans (KeepsOthers.drew _))
  have hKB2 : KeepB (w.heap.size + 1 + 1 + 1) Aq W W2 := by rw [hW2]; exact HK1.out.2.1.trans (KeepB.below (((Below.refl _ _).alloc (Nat.le_refl _) _).drew))
  have hlr2 : W2.heap[l]? = some (.loop lr) := by rw [hW2]; exact (KeepsOthers.alloc _ _).same l _ HK1.out.2.2 rfl
  have hz2 : W2.heap.size = W1.heap.size + 1 := by rw [hW2]; exact World.size_alloc _ _
  rw [← hW2]
  have hbw2 := hbx2.lt
  clear hW2 hI1 hBw1 cX cI cC1 cn1
  have hn1 := HI.out.hn
  refine wpIn_rangeSetN (l₀ := l) (r₀ := lr) s W1.heap.size w.heap.size hs ?hl0 rfl (by omega) ?hc0 ?hT0 (by have := hI2.hB.size; omega) htl
   (fun pre2 W' => THeap w (w.heap.size + 4) g.length C w.heap.size (w.heap.size + 1 + 1) (w.heap.size + 1) ((pre2.map (·.1)).foldl (tailPush i) (o.set i (y + tm))) W' ∧ Boxed W' b 3 (.int .i64 (i : Int)) ∧ KeepsFrom W0.heap.size W W' ∧ KeepB (w.heap.size + 1 + 1 + 1) Aq W W') (fun _ _ _ => False) ?hI ?hIx ?h0
   (fun x => { tmps := #[u 0, .pointer (some ⟨w.heap.size, 0, none⟩), u 2, .pointer (some ⟨w.heap.size + 1 + 1, 0, none⟩), u 4, .pointer (some ⟨b, 0, none⟩), .int .i64 (x.1 : Nat), u 7, u 8, u 9, u 10, u 11, u 12, u 13, u 14, u 15, u 16, .slice (some ⟨w.heap.size + 1, 0, none⟩) g.length g.length, .int .i64 (i : Int), .pointer (some ⟨w.heap.size + 1, i, none⟩), .int .i64 y, .pointer (some ⟨C, 0, none⟩), .pointer (some ⟨C, 0, none⟩), .pointer (some ⟨C, 0, none⟩), .slice (some adg) g.length cg, .int .i64 (i : Int), .pointer (some (adg.add (i * 4))), .pointer (some (adg.add (i * 4))), .int .i64 tm, .int .i64 (y + tm), .pointer (some ⟨w.heap.size + 1, i, none⟩), .pointer (some ⟨C, 0, none⟩), .pointer (some ⟨C, 0, none⟩), .pointer (some ⟨C, 1, none⟩), .slice (some adn) ns.length cn, .int .i64 (i : Int), .pointer (some (adn.add i)), .int .u16 s, .func (.func 117) #[] #[.pointer (some ⟨W1.heap.size, 0, none⟩)], .int .i64 (x.1 : Nat), u 40, u 41, u 42, u 43, u 44, u 45, u 46, u 47, u 48, u 49, u 50, u 51, u 52], defers := [] }) ?assign2 ?body2 ?done2 ?stop2
  case hl0 => exact hlr2
  case hc0 => exact hset2.cell
  case hT0 => exact hT.keep htl hI2.hB
  case hI =>
   exact (THeap.own _ (by omega)).and ((Own.from (boxed_own b 3 (fun _ => _)) _).and ((ownFrom_keepsFrom (by have := HK1.out.1.size; omega)).and (ownFrom_keepB (by omega) (fun ad e => by have := hAl ad e; omega))))
  case hIx => exact fun _ _ _ _ _ h _ _ => h
  case h0 => exact ⟨hI2, hbx2, hKF2.from _, hKB2⟩
  case stop2 => exact fun _ _ _ h => h.elim
  case assign2 =>
   intro l2 x2 W3 K hK
   gi_wp2
   exact hK
  case body2 =>
   rintro l2 pre2 x2 W3 ⟨hI3, hbx3, hKF3, hKB3⟩ hlt2
   have hx2n : x2.1 < g.length := elems_below hs2 x2.2
   have hSp := Span.pushes i (pre2.map (·.1)) _ (hSP.set (b' := 20 * pre.length + 20) (x := y + tm) (by omega) (by omega) i)
   have HFS : Hid (((pre2 ++ [x2]).map (·.1)).foldl (tailPush i) (o.set i (y + tm)) = tailPush i ((pre2.map (·.1)).foldl (tailPush i) (o.set i (y + tm))) x2.1) := Lib.hid (by rw [List.map_append, List.foldl_append]; rfl)
   generalize (pre2.map (·.1)).foldl (tailPush i) (o.set i (y + tm)) = p at hI3 hSp HFS
   have hpl2 := hSp.1
   have cO := hI3.hO.cell
   have cI := hbx3.cell
   have cR1 := hI3.hR.cell x2.1 (by omega)
   have cR2 := hI3.hR.cell i (by omega)
   have fR := hI3.hR.frozen x2.1
   have h1 := hSp.2 x2.1
   have h2 := hSp.2 i
   have HTP : Hid (tailPush i p x2.1 = p.set x2.1 (max (p.getD x2.1 0) (p.getD i 0))) := Lib.hid rfl
   generalize p.getD x2.1 0 = a1 at cR1 h1 HTP
   generalize p.getD i 0 = a2 at cR2 h2 HTP
   have hxi : ((x2.1 : Nat) : Int) < (g.length : Int) := by omega
   clear hz0 hz2
   gi_wp2
   refine wpIn_region_still_tail 12 mixed (by kernel_rfl) (by kernel_rfl) (fun ⟨_, _, h⟩ => h) ?_
   simp only [List.take_succ_cons, List.take_zero, List.drop_succ_cons, List.drop_zero]
   repeat (with_reducible refine wpStill_step (fun K hK => ?_); go_simp; with_reducible refine hK _ ?_; clear hK K)
   with_reducible refine wpStill_nil ?_
   have HF : Hid (∀ z : Int, z = max a1 a2 → KeepsFrom W2.heap.size W3 (W3.setCell ⟨w.heap.size + 1, x2.1, none⟩ (.int .i64 z)).drew ∧ Below w.heap.size W3 (W3.setCell ⟨w.heap.size + 1, x2.1, none⟩ (.int .i64 z)).drew ∧ THeap w (w.heap.size + 4) g.length C w.heap.size (w.heap.size + 1 + 1) (w.heap.size + 1) (((pre2 ++ [x2]).map (·.1)).foldl (tailPush i) (o.set i (y + tm))) (W3.setCell ⟨w.heap.size + 1, x2.1, none⟩ (.int .i64 z)).drew ∧ Boxed (W3.setCell ⟨w.heap.size + 1, x2.1, none⟩ (.int .i64 z)).drew b 3 (.int .i64 (i : Int)) ∧ KeepsFrom W0.heap.size W (W3.setCell ⟨w.heap.size + 1, x2.1, none⟩ (.int .i64 z)).drew ∧ KeepB (w.heap.size + 1 + 1 + 1) Aq W (W3.setCell ⟨w.heap.size + 1, x2.1, none⟩ (.int .i64 z)).drew) := by
    refine Lib.hid fun z hz => ?_
    have hk : KeepsOthers W3 (W3.setCell ⟨w.heap.size + 1, x2.1, none⟩ (.int .i64 z)).drew := (KeepsOthers.setCell _ _ _).trans (KeepsOthers.drew _)
    refine ⟨hk.from _, ((Below.refl _ _).setCell (p := ⟨w.heap.size + 1, x2.1, none⟩) (show w.heap.size ≤ w.heap.size + 1 by omega) _).drew, ?_, blk_far hbx3 hbR _, hKF3.trans (hk.from _), hKB3.trans (KeepB.set W3 ⟨w.heap.size + 1, x2.1, none⟩ _ (show w.heap.size + 1 + 1 + 1 ≠ w.heap.size + 1 by omega) (fun ad e => show ad.block ≠ w.heap.size + 1 by have := hAl ad e; omega))⟩
    rw [HFS.out, HTP.out, ← hz]
    exact (hI3.set hXR hOR (by omega) x2.1 z).drew
   go_wp2
   all_goals exact HF.out _ (by omega)
  case done2 =>
   rintro ys W3 hys ⟨hI3, hbx3, hKF3, hKB3⟩
   gi_wp2
   rw [hys] at hI3
   refine ⟨hKF3, hKB3, ?_⟩
   show THeap _ _ _ _ _ _ _ _ _
   rw [HSN.out, HTS.out]
   exact hI3
 case done =>
  rintro D ys W hD hys hI hK
  have hbk : backL (ints (ordN ns ns.length).1).length (ints (ordN ns ns.length).1).length = backL (ordN ns ns.length).1.length (ordN ns ns.length).1.length := by rw [hil]
  have hM := congrArg (tailsL g ns (ordN ns ns.length).1) (hys.trans hbk)
  rw [hM] at hI
  have hlen' := tails_span (g := g) (ns := ns) (ord := (ordN ns ns.length).1) (graphN_time HGR.out) (backL (ordN ns ns.length).1.length (ordN ns ns.length).1.length)
  have HI := Lib.hid hI
  have cO := hI.hO.cell
  have HL := Lib.hid hlen'.1
  clear hI hM hlen' hys hbk
  go_wp2
  refine leave_one hK (results_tmp rfl _ _ _) ⟨_, rfl, ?_, ?_⟩
  ·
   have hR := HI.out.hR
   have : IRow (W.putObj D (.deferred none)) (w.heap.size + 1) (tailsL g ns (ordN ns ns.length).1 (backL (ordN ns ns.length).1.length (ordN ns ns.length).1.length)) := by
    refine ((grownBy_putObj' W D _).block _ (blk_lt hR) (fun e => ?_)).trans hR
    cases e
    omega
   have hown := this.own (base := w.heap.size) (by omega) (by rw [HL.out]; omega)
   rw [HL.out] at hown
   exact hown
  ·
   exact HI.out.hB.trans (belowK_b (w := w) (Nat.le_refl _) W D _ _ (by omega) hK rfl rfl)
theorem tailN_span {g : List Tk} {ns : List Nat} (h : graphN g = some ns) : Span (tailN g ns) g.length 160 := by
 have h1 := tails_span (g := g) (ns := ns) (ord := (ordN ns ns.length).1) (graphN_time h) (backL (ordN ns ns.length).1.length (ordN ns ns.length).1.length)
 have h2 := (ordN_lt ns ns.length).2.2
 obtain ⟨_, _, h3, h4⟩ := graphN_some h
 rw [backL_length] at h1
 exact ⟨h1.1, fun j => by have := h1.2 j; unfold tailN; omega⟩
end Go.Proofs.YtdjdfbfcjajlkaaDoor

namespace Go.Proofs.YtdjdfbfcjajlkaaDoor
set_option linter.unusedVariables false
set_option linter.unusedSimpArgs false
open Go.RowKit Go.Shelf Bits
open Go.Proofs.YtdjdfbfcjajlkaaDoorW.PrintWords Go.Proofs.YtdjdfbfcjajlkaaDoorW.PrintLast Go.Proofs.YtdjdfbfcjajlkaaDoorW.PrintMore
attribute [local go_sem] Oper.semAt_some
theorem run_makeX (n : Nat) (hn : n ≤ 2000000) (W : World) : (Instr.makeSlice 23 (Value.int IntKind.i64 (n : Int)) (Value.int IntKind.i64 (n : Int))).run Tryd.prog W = .ok (.slice (some ⟨W.heap.size, 0, none⟩) n n) (W.alloc (.cells (zeroI n) 3)) := by
 obtain ⟨i0, hi, hz0, hz1, hz2⟩ := info_parts infoInt
 rw [← madeI]
 have := run_make (P := Tryd.prog) W 23 3 i0 (.int .i64 0) Tryd.underlying23 hi hz0 .i64 .i64 (n : Int) (n : Int) (by omega) (by omega) (by rw [hz2]; omega) (by omega)
 simpa [hz1, Value.cells] using this
theorem zeroI_row (n : Nat) : zeroI n = ((List.replicate n (0 : Int)).map (Value.int .i64)).toArray := by
 unfold zeroI
 simp
def cpyL (l : List Int) (j : Nat) : List Int := (List.range l.length).map fun i => if i < j then l.getD i 0 else 0
theorem cpyL_len (l : List Int) (j : Nat) : (cpyL l j).length = l.length := by simp [cpyL]
theorem cpyL_zero (l : List Int) : cpyL l 0 = List.replicate l.length 0 := by
 unfold cpyL
 apply List.ext_getElem (by simp)
 intro i h1 h2
 simp
theorem cpyL_set (l : List Int) (j : Nat) : (cpyL l j).set j (l.getD j 0) = cpyL l (j + 1) := by
 unfold cpyL
 apply List.ext_getElem (by simp)
 intro i h1 h2
 simp only [List.getElem_set, List.getElem_map, List.getElem_range]
 by_cases h : j = i
 ·
  rw [if_pos h, if_pos (by omega), h]
 ·
  rw [if_neg h]
  by_cases h' : i < j
  ·
   rw [if_pos h', if_pos (by omega)]
  ·
   rw [if_neg h', if_neg (by omega)]
theorem cpyL_end (l : List Int) : cpyL l l.length = l := by
 unfold cpyL
 apply List.ext_getElem (by simp)
 intro i h1 h2
 simp only [List.length_map, List.length_range] at h1
 simp [h1]
theorem IRow.C {W : World} {b : Nat} {xs : List Int} (h : IRow W b xs) (hl : xs.length ≤ 2000000) : (Kd.int .i64).C W (some ⟨b, 0, none⟩) xs.length xs := by
 refine ⟨rfl, by omega, fun _ => ⟨_, rfl, fun j p hj => ⟨[.int .i64 p], rfl, rfl, fun i u hu => ?_⟩⟩⟩
 have hjl : j < xs.length := (List.getElem?_eq_some_iff.1 hj).1
 have hi : i = 0 := by
  have := (List.getElem?_eq_some_iff.1 hu).1
  simp at this
  exact this
 subst hi
 rw [plain_add]
 have hq : j * (Kd.int .i64).sz + 0 = j := by
  show j * 1 + 0 = j
  omega
 rw [hq, h.cell j hjl, List.getD_eq_getElem?_getD, hj]
 simpa using hu
set_option maxRecDepth 100000 in
set_option maxHeartbeats 2000000 in
theorem toIntS_calls (A : Option Addr) (c : Nat) (l : List Int) (hl : l.length ≤ 1048576) (w : World) (hr : (Kd.int .i64).C w A l.length l) :
  Calls Tryd.prog 17 #[.slice A l.length c] w fun e w' => ∃ b, e = .returned (.slice (some ⟨b, 0, none⟩) l.length l.length) ∧ w.heap.size ≤ b ∧ IRow w' b l ∧ Below w.heap.size w w' := by
 have HR := Lib.hid hr
 have hmk := run_makeX l.length (by omega)
 clear hr
 go_enter Tryd.func17, Tryd.ntmps17
 go_wp2
 clear hmk
 have hI0 : IRow (w.alloc (.cells (zeroI l.length) 3)) w.heap.size (cpyL l 0) := by
  rw [cpyL_zero, zeroI_row]
  exact World.alloc_heap_new w _
 have hB0 : Below w.heap.size w (w.alloc (.cells (zeroI l.length) 3)) := (Below.refl _ _).alloc (Nat.le_refl _) _
 go_loopw [4] (fun i wr => ∃ j, j ≤ l.length ∧ i = .int .i64 (j : Nat) ∧ IRow wr w.heap.size (cpyL l j) ∧ Below w.heap.size w wr) (fun i _ => l.length - (intOf i).toNat)
 case atStart => exact ⟨0, Nat.zero_le _, rfl, hI0, hB0⟩
 case round =>
  clear hI0 hB0
  obtain ⟨j, hj, rfl, hI, hB⟩ := hrel
  by_cases hjl : j < l.length
  ·
   obtain ⟨ad, rfl, cx⟩ := at_num (Kd.C_below HR.out hB) j hjl
   have hjj : decide ((j : Int) < (l.length : Int)) = true := decide_eq_true (by omega)
   have hji : (j : Int) < (l.length : Int) := by omega
   have cr := hI.cell j (by rw [cpyL_len]; exact hjl)
   have fr := hI.frozen j
   have HE := Lib.hid (cpyL_set l j)
   have HI := Lib.hid hI
   have HB := Lib.hid hB
   generalize l.getD j 0 = x at cx HE
   clear hI hB
   go_wp2
   go_roundw
   case rel => exact ⟨j + 1, by omega, by go_num, by rw [← HE.out]; exact HI.out.set j x, HB.out.setCell (p := ⟨w.heap.size, j, none⟩) (Nat.le_refl _) _⟩
   case measure => simp [intOf]; omega
  ·
   obtain rfl : j = l.length := by omega
   have hjj : decide ((l.length : Int) < (l.length : Int)) = false := decide_eq_false (by omega)
   rw [cpyL_end] at hI
   go_wp2
   go_ret
   exact ⟨_, rfl, Nat.le_refl _, hI, hB⟩
def szI (left : Int) (n : Nat) : Int := if left < n then -1 else left - n
theorem szIntS_calls (A : Option Addr) (c : Nat) (l : List Int) (left : Int) (h0 : 0 ≤ left ∧ left ≤ 1048576) (hl : l.length ≤ 9223372036854775807) (w : World) :
  Calls Tryd.prog 79 #[.slice A l.length c, .int .i64 left] w fun e w' => e = .returned (.int .i64 (szI left l.length)) ∧ w' = w := by
 have hwr : IntKind.i64.wrap (left - (l.length : Int)) = left - l.length := IntWalk.i64_in _ (by omega)
 by_cases hn : left < (l.length : Int)
 ·
  have dn : decide (left - (l.length : Int) < 0) = true := by apply decide_eq_true; clear hwr; omega
  have HF : Hid (szI left l.length = -1) := Lib.hid (if_pos hn)
  clear hn h0
  go_enter Tryd.func79, Tryd.ntmps79
  go_wp2
  go_ret
  exact ⟨ret_int HF.out.symm, rfl⟩
 ·
  have dn : decide (left - (l.length : Int) < 0) = false := by apply decide_eq_false; clear hwr; omega
  have HF : Hid (szI left l.length = left - l.length) := Lib.hid (if_neg hn)
  clear hn h0
  go_enter Tryd.func79, Tryd.ntmps79
  go_wp2
  go_ret
  exact ⟨ret_int HF.out.symm, rfl⟩
set_option maxRecDepth 100000 in
set_option maxHeartbeats 2000000 in
theorem eqIntS_same (A : Option Addr) (c : Nat) (a : List Int) (B : Option Addr) (d : Nat) (w : World) (hr : (Kd.int .i64).C w A a.length a) (hr' : (Kd.int .i64).C w B a.length a) :
  Calls Tryd.prog 20 #[.slice A a.length c, .slice B a.length d] w fun e w' => e = .returned (.bool true) ∧ Below w.heap.size w w' := by
 have HR := Lib.hid hr
 have HR' := Lib.hid hr'
 have hla := (C_len hr).2
 clear hr hr'
 have dl : ((a.length : Int) != (a.length : Int)) = false := bne_self_eq_false _
 go_enter Tryd.func20, Tryd.ntmps20
 go_wp2
 go_loopw [5] (fun i wr => ∃ j, j ≤ a.length ∧ i = .int .i64 (j : Nat) ∧ Below w.heap.size w wr) (fun i _ => a.length - (intOf i).toNat)
 case atStart => exact ⟨0, Nat.zero_le _, rfl, Below.refl _ _⟩
 case round =>
  obtain ⟨j, hj, rfl, hB⟩ := hrel
  by_cases hjl : j < a.length
  ·
   have hjj : decide ((j : Int) < (a.length : Int)) = true := decide_eq_true (by omega)
   have hja : (j : Int) < (a.length : Int) := by omega
   obtain ⟨ad, rfl, cx⟩ := at_num (Kd.C_below HR.out hB) j hjl
   obtain ⟨bd, rfl, cy⟩ := at_num (Kd.C_below HR'.out hB) j hjl
   generalize a.getD j 0 = x at cx cy
   have dn : (x != x) = false := bne_self_eq_false _
   have HB := Lib.hid hB
   clear hB
   go_wp2
   (try go_quiet (fail))
   (try go_wp2)
   go_roundw
   case rel => exact ⟨j + 1, by omega, by go_num, by repeat (first | exact HB.out | apply pw_below_drewN)⟩
   case measure => simp [intOf]; omega
  ·
   obtain rfl : j = a.length := by omega
   have hjj : decide ((a.length : Int) < (a.length : Int)) = false := decide_eq_false (by omega)
   go_wp2
   go_ret
   exact ⟨rfl, hB⟩
set_option maxRecDepth 100000 in
set_option maxHeartbeats 2000000 in
theorem toTask_calls (f0 : Int) (f1 : List Int) (f2 f3 : Int) (A : Option Addr) (c : Nat) (hl : f1.length ≤ 1048576) (w : World) (hr : (Kd.int .i64).C w A f1.length f1) :
  Calls Tryd.prog 53 #[.agg #[.int .i64 f0, .slice A f1.length c, .int .i64 f2, .int .i64 f3]] w fun e w' => ∃ b, e = .returned (.agg #[.int .i64 f0, .slice (some ⟨b, 0, none⟩) f1.length f1.length, .int .i64 f2, .int .i64 f3]) ∧ w.heap.size ≤ b ∧ IRow w' b f1 ∧ Below w.heap.size w w' := by
 have HTI := Lib.hid (fun (W : World) (hW : Below w.heap.size w W) => toIntS_calls A c f1 hl W (Kd.C_below hr hW))
 clear hr
 go_enter Tryd.func53, Tryd.ntmps53
 go_upto_region 3 with (fail)
 generalize hW0 : (((w.alloc (.cells #[.int .i64 f0, .slice A f1.length c, .int .i64 f2, .int .i64 f3] 53)).alloc (.cells #[.int .i64 0, .slice none 0 0, .int .i64 0, .int .i64 0] 58)).alloc (.cells #[.int .i64 f0, .slice none 0 0, .int .i64 0, .int .i64 0] 58) : World) = W0
 have b1 : W0.heap[w.heap.size]? = some (.cells #[.int .i64 f0, .slice A f1.length c, .int .i64 f2, .int .i64 f3] 53 (0, 0)) := by
  rw [← hW0]
  exact blk_alloc (blk_alloc (World.alloc_heap_new w _) _) _
 have b2 : W0.heap[w.heap.size + 1]? = some (.cells #[.int .i64 0, .slice none 0 0, .int .i64 0, .int .i64 0] 58 (0, 0)) := by
  rw [← hW0]
  have h := World.alloc_heap_new (w.alloc (.cells #[.int .i64 f0, .slice A f1.length c, .int .i64 f2, .int .i64 f3] 53)) (.cells #[.int .i64 0, .slice none 0 0, .int .i64 0, .int .i64 0] 58)
  rw [World.size_alloc] at h
  exact blk_alloc h _
 have b3 : W0.heap[w.heap.size + 1 + 1]? = some (.cells #[.int .i64 f0, .slice none 0 0, .int .i64 0, .int .i64 0] 58 (0, 0)) := by
  rw [← hW0]
  have h := World.alloc_heap_new ((w.alloc (.cells #[.int .i64 f0, .slice A f1.length c, .int .i64 f2, .int .i64 f3] 53)).alloc (.cells #[.int .i64 0, .slice none 0 0, .int .i64 0, .int .i64 0] 58)) (.cells #[.int .i64 f0, .slice none 0 0, .int .i64 0, .int .i64 0] 58)
  rw [World.size_alloc, World.size_alloc] at h
  exact h
 have hB0 : Below w.heap.size w W0 := by
  rw [← hW0]
  exact (((Below.refl _ w).alloc (Nat.le_refl _) _).alloc (by simp) _).alloc (by simp; omega) _
 have hz0 : W0.heap.size = w.heap.size + 1 + 1 + 1 := by rw [← hW0]; simp
 have HZ0 := Lib.hid hz0
 clear hW0 hz0
 have HB0 := Lib.hid hB0
 have HTI2 := Lib.hid (HTI.out W0 hB0)
 have c11 : W0.cell? ⟨w.heap.size, 1, none⟩ = some (.slice A f1.length c) := (blk_cell b1 1).trans rfl
 have HBL := Lib.hid (And.intro b1 (And.intro b2 b3))
 clear b1 b2 b3 hB0
 go_wp2_with (go_at_call 17; refine HTI2.out.mono ?_; rintro e w3 ⟨b, rfl, hb, hI, hB3⟩; have d1 := blk_below HBL.out.1 hB3; have d3 := blk_below HBL.out.2.2 hB3; have d2 := blk_below HBL.out.2.1 hB3; have k12 := (blk_cell d1 2).trans rfl; have k13 := (blk_cell d1 3).trans rfl; have k31 := (blk_cell d3 1).trans rfl; have k30 := (blk_cell d3 0).trans rfl; have k32 := (blk_cell d3 2).trans rfl; have k33 := (blk_cell d3 3).trans rfl; have k20 := (blk_cell d2 0).trans rfl; have k21 := (blk_cell d2 1).trans rfl; have k22 := (blk_cell d2 2).trans rfl; have k23 := (blk_cell d2 3).trans rfl; have r3 := blk_frozen d3; have r2 := blk_frozen d2; have HX := Lib.hid (And.intro hb (And.intro hI (And.intro hB3 (And.intro d2 d3)))); clear hb hI hB3 d1 d2 d3)
 obtain ⟨hb, hI, hB3, d2, d3⟩ := HX.out
 have hz0 := HZ0.out
 have hg := blk_set (blk_set (blk_set (blk_set (blk_far (blk_far (blk_far d2 (p := ⟨w.heap.size + 1 + 1, 1, none⟩) (by simp) (.slice (some ⟨b, 0, none⟩) f1.length f1.length)) (p := ⟨w.heap.size + 1 + 1, 2, none⟩) (by simp) (.int .i64 f2)) (p := ⟨w.heap.size + 1 + 1, 3, none⟩) (by simp) (.int .i64 f3)) 0 (.int .i64 f0)) 1 (.slice (some ⟨b, 0, none⟩) f1.length f1.length)) 2 (.int .i64 f2)) 3 (.int .i64 f3)
 have hk : ((((#[Value.int .i64 0, Value.slice none 0 0, Value.int .i64 0, Value.int .i64 0].setIfInBounds 0 (Value.int .i64 f0)).setIfInBounds 1 (Value.slice (some ⟨b, 0, none⟩) f1.length f1.length)).setIfInBounds 2 (Value.int .i64 f2)).setIfInBounds 3 (Value.int .i64 f3)) = #[Value.int .i64 f0, Value.slice (some ⟨b, 0, none⟩) f1.length f1.length, Value.int .i64 f2, Value.int .i64 f3] := by simp
 rw [hk] at hg
 refine bodyPost_ret (results_cell_row rfl _ _ (w.heap.size + 1) 58 _ (0, 0) _ rfl hg Tryd.underlying58 rfl (by kernel_rfl)) rfl ?_
 refine ⟨b, rfl, by omega, ?_, ?_⟩
 ·
  exact ((((((hI.far (p := ⟨w.heap.size + 1 + 1, 1, none⟩) (by show b ≠ w.heap.size + 1 + 1; omega) _).far (p := ⟨w.heap.size + 1 + 1, 2, none⟩) (by show b ≠ w.heap.size + 1 + 1; omega) _).far (p := ⟨w.heap.size + 1 + 1, 3, none⟩) (by show b ≠ w.heap.size + 1 + 1; omega) _).far (p := ⟨w.heap.size + 1, 0, none⟩) (by show b ≠ w.heap.size + 1; omega) _).far (p := ⟨w.heap.size + 1, 1, none⟩) (by show b ≠ w.heap.size + 1; omega) _).far (p := ⟨w.heap.size + 1, 2, none⟩) (by show b ≠ w.heap.size + 1; omega) _).far (p := ⟨w.heap.size + 1, 3, none⟩) (by show b ≠ w.heap.size + 1; omega) _
 ·
  have h3 := HB0.out.trans (hB3.mono (by omega))
  exact ((((((h3.setCell (p := ⟨w.heap.size + 1 + 1, 1, none⟩) (by show w.heap.size ≤ w.heap.size + 1 + 1; omega) _).setCell (p := ⟨w.heap.size + 1 + 1, 2, none⟩) (by show w.heap.size ≤ w.heap.size + 1 + 1; omega) _).setCell (p := ⟨w.heap.size + 1 + 1, 3, none⟩) (by show w.heap.size ≤ w.heap.size + 1 + 1; omega) _).setCell (p := ⟨w.heap.size + 1, 0, none⟩) (by show w.heap.size ≤ w.heap.size + 1; omega) _).setCell (p := ⟨w.heap.size + 1, 1, none⟩) (by show w.heap.size ≤ w.heap.size + 1; omega) _).setCell (p := ⟨w.heap.size + 1, 2, none⟩) (by show w.heap.size ≤ w.heap.size + 1; omega) _).setCell (p := ⟨w.heap.size + 1, 3, none⟩) (by show w.heap.size ≤ w.heap.size + 1; omega) _
end Go.Proofs.YtdjdfbfcjajlkaaDoor
