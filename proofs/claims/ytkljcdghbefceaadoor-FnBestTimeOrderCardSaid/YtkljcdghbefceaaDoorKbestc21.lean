/- Parts of the proof, laid as one text by a program of mine. -/
import Derived.Test.YtkljcdghbefceaaDoorKbestc20
import Derived.Shelf.SlSortCmp.InsertionK
import Derived.Shelf.SlSortCmp.NoneTotal
import Derived.Test.YtkljcdghbefceaaDoorProg
import Derived.StillTailTactics
import Derived.Deep.RegionHeld3
import Derived.Test.YtkljcdghbefceaaDoorKbestc13
import Derived.Test.YtkljcdghbefceaaDoorKbestc11
namespace Go.Proofs.YtkljcdghbefceaaDoor
set_option linter.unusedVariables false
set_option linter.unusedSimpArgs false
open Go.RowKit Go.Shelf Bits Go.Sort
open Go.Proofs.YtkljcdghbefceaaDoorW.PrintWords Go.Proofs.YtkljcdghbefceaaDoorW.PrintLast Go.Proofs.YtkljcdghbefceaaDoorW.PrintMore
attribute [local go_sem] Oper.semAt_some
theorem grow2 (W : World) (a b : Obj) : (W.alloc a).alloc b = grow (W.drewN 0) #[a, b] := by
 rw [alloc_eq_grow, alloc_eq_grow, grow_grow]
 rfl
theorem grow3 (W : World) (a b c : Obj) : (((W.alloc a).alloc b).alloc c).drew = grow (W.drewN 1) #[a, b, c] := by
 rw [alloc_eq_grow, alloc_eq_grow, alloc_eq_grow, grow_grow, grow_grow]
 rfl
theorem lit2 (W : World) (x y : Int) : (Kd.int .i64).C (W.alloc (.cells #[.int .i64 x, .int .i64 y] 3)).drew (some ⟨W.heap.size, 0, none⟩) 2 [x, y] :=
 Kd.C_below (Kd.R_reads' (lit_R W [x, y] (by simp))).2.2 (Below.refl _ _).drew
set_option maxRecDepth 100000 in
set_option maxHeartbeats 4000000 in
theorem chgCmp_calls (a b : Ev) (W : World) :
  Calls Tryd.prog 82 #[.agg #[.int .i64 a.f0, .int .i64 a.f1, .bool a.f2], .agg #[.int .i64 b.f0, .int .i64 b.f1, .bool b.f2]] W fun e w' => e = .returned (.int .i64 (cmpE a b)) ∧ ∃ q os', w' = grow (W.drewN q) os' := by
 obtain ⟨a0, a1, a2⟩ := a
 obtain ⟨b0, b1, b2⟩ := b
 obtain ⟨r1, h1⟩ : ∃ r1, cmpI a0 b0 = r1 := ⟨_, rfl⟩
 obtain ⟨r2, h2⟩ : ∃ r2, cmpI a1 b1 = r2 := ⟨_, rfl⟩
 have H1 := Lib.hid h1
 have H2 := Lib.hid h2
 by_cases h0 : a0 = b0
 ·
  cases a2 <;> cases b2
  ·
   have HE : Hid (cmpE ⟨a0, a1, false⟩ ⟨b0, b1, false⟩ = if r1 ≠ 0 then r1 else r2) := Lib.hid (by unfold cmpE; rw [if_neg (fun h => h.2 rfl), ← h1, ← h2])
   obtain ⟨r, hr⟩ : ∃ r, (if r1 ≠ 0 then r1 else r2) = r := ⟨_, rfl⟩
   have HR : Hid (Hid ((if r1 ≠ 0 then r1 else r2) = r)) := Lib.hid (Lib.hid hr)
   rw [hr] at HE
   have d0 : (a0 == b0) = true := beq_iff_eq.2 h0
   clear hr h0 h1 h2
   simp only []
   go_enter Tryd.func82, Tryd.ntmps82
   go_wp2
   have ca0 : ((W.alloc (.cells #[.int .i64 a0, .int .i64 a1, .bool false] 97)).alloc (.cells #[.int .i64 b0, .int .i64 b1, .bool false] 97)).cell? ⟨W.heap.size, 0, none⟩ = some (.int .i64 a0) := by go_simp
   have ca1 : ((W.alloc (.cells #[.int .i64 a0, .int .i64 a1, .bool false] 97)).alloc (.cells #[.int .i64 b0, .int .i64 b1, .bool false] 97)).cell? ⟨W.heap.size, 1, none⟩ = some (.int .i64 a1) := by go_simp
   have cb0 : ((W.alloc (.cells #[.int .i64 a0, .int .i64 a1, .bool false] 97)).alloc (.cells #[.int .i64 b0, .int .i64 b1, .bool false] 97)).cell? ⟨W.heap.size + 1, 0, none⟩ = some (.int .i64 b0) := by go_simp
   have cb1 : ((W.alloc (.cells #[.int .i64 a0, .int .i64 a1, .bool false] 97)).alloc (.cells #[.int .i64 b0, .int .i64 b1, .bool false] 97)).cell? ⟨W.heap.size + 1, 1, none⟩ = some (.int .i64 b1) := by go_simp
   obtain ⟨W2, hW2⟩ : ∃ W2, W2 = (W.alloc (.cells #[.int .i64 a0, .int .i64 a1, .bool false] 97)).alloc (.cells #[.int .i64 b0, .int .i64 b1, .bool false] 97) := ⟨_, rfl⟩
   rw [← hW2] at ca0 ca1 cb0 cb1 ⊢
   have HW2 := Lib.hid hW2
   clear hW2
   go_still_tail 10, mixed
   repeat still_step
   still_call (compare_calls a0 b0 _)
   repeat still_step
   still_call (compare_calls a1 b1 _)
   repeat still_step
   refine wpStill_nil ?_
   rw [show cmpI a0 b0 = r1 from H1.out, show cmpI a1 b1 = r2 from H2.out]
   change wpList _ _ _ _ _ W2.drew
   go_wp2_with (go_at_call 83; refine (or_calls _ _ r1 r2 r HR.out _ (lit2 _ r1 r2)).mono ?_; rintro e w' ⟨rfl, rfl⟩)
   go_ret
   exact ⟨ret_int HE.out.symm, 1, _, by rw [HW2.out]; exact grow3 _ _ _ _⟩
  ·
   have HE : Hid (cmpE ⟨a0, a1, false⟩ ⟨b0, b1, true⟩ = 1) := Lib.hid (by unfold cmpE; rw [if_pos ⟨h0, by simp⟩]; rfl)
   have d0 : (a0 == b0) = true := beq_iff_eq.2 h0
   clear h0 h1 h2
   simp only [] 
   go_enter Tryd.func82, Tryd.ntmps82
   go_wp2
   go_ret
   exact ⟨ret_int HE.out.symm, 0, _, grow2 _ _ _⟩
  ·
   have HE : Hid (cmpE ⟨a0, a1, true⟩ ⟨b0, b1, false⟩ = -1) := Lib.hid (by unfold cmpE; rw [if_pos ⟨h0, by simp⟩]; rfl)
   have d0 : (a0 == b0) = true := beq_iff_eq.2 h0
   clear h0 h1 h2
   simp only [] 
   go_enter Tryd.func82, Tryd.ntmps82
   go_wp2
   go_ret
   exact ⟨ret_int HE.out.symm, 0, _, grow2 _ _ _⟩
  ·
   have HE : Hid (cmpE ⟨a0, a1, true⟩ ⟨b0, b1, true⟩ = if r1 ≠ 0 then r1 else r2) := Lib.hid (by unfold cmpE; rw [if_neg (fun h => h.2 rfl), ← h1, ← h2])
   obtain ⟨r, hr⟩ : ∃ r, (if r1 ≠ 0 then r1 else r2) = r := ⟨_, rfl⟩
   have HR : Hid (Hid ((if r1 ≠ 0 then r1 else r2) = r)) := Lib.hid (Lib.hid hr)
   rw [hr] at HE
   have d0 : (a0 == b0) = true := beq_iff_eq.2 h0
   clear hr h0 h1 h2
   simp only []
   go_enter Tryd.func82, Tryd.ntmps82
   go_wp2
   have ca0 : ((W.alloc (.cells #[.int .i64 a0, .int .i64 a1, .bool true] 97)).alloc (.cells #[.int .i64 b0, .int .i64 b1, .bool true] 97)).cell? ⟨W.heap.size, 0, none⟩ = some (.int .i64 a0) := by go_simp
   have ca1 : ((W.alloc (.cells #[.int .i64 a0, .int .i64 a1, .bool true] 97)).alloc (.cells #[.int .i64 b0, .int .i64 b1, .bool true] 97)).cell? ⟨W.heap.size, 1, none⟩ = some (.int .i64 a1) := by go_simp
   have cb0 : ((W.alloc (.cells #[.int .i64 a0, .int .i64 a1, .bool true] 97)).alloc (.cells #[.int .i64 b0, .int .i64 b1, .bool true] 97)).cell? ⟨W.heap.size + 1, 0, none⟩ = some (.int .i64 b0) := by go_simp
   have cb1 : ((W.alloc (.cells #[.int .i64 a0, .int .i64 a1, .bool true] 97)).alloc (.cells #[.int .i64 b0, .int .i64 b1, .bool true] 97)).cell? ⟨W.heap.size + 1, 1, none⟩ = some (.int .i64 b1) := by go_simp
   obtain ⟨W2, hW2⟩ : ∃ W2, W2 = (W.alloc (.cells #[.int .i64 a0, .int .i64 a1, .bool true] 97)).alloc (.cells #[.int .i64 b0, .int .i64 b1, .bool true] 97) := ⟨_, rfl⟩
   rw [← hW2] at ca0 ca1 cb0 cb1 ⊢
   have HW2 := Lib.hid hW2
   clear hW2
   go_still_tail 10, mixed
   repeat still_step
   still_call (compare_calls a0 b0 _)
   repeat still_step
   still_call (compare_calls a1 b1 _)
   repeat still_step
   refine wpStill_nil ?_
   rw [show cmpI a0 b0 = r1 from H1.out, show cmpI a1 b1 = r2 from H2.out]
   change wpList _ _ _ _ _ W2.drew
   go_wp2_with (go_at_call 83; refine (or_calls _ _ r1 r2 r HR.out _ (lit2 _ r1 r2)).mono ?_; rintro e w' ⟨rfl, rfl⟩)
   go_ret
   exact ⟨ret_int HE.out.symm, 1, _, by rw [HW2.out]; exact grow3 _ _ _ _⟩
 ·
  cases a2 <;> cases b2
  ·
   have HE : Hid (cmpE ⟨a0, a1, false⟩ ⟨b0, b1, false⟩ = if r1 ≠ 0 then r1 else r2) := Lib.hid (by unfold cmpE; rw [if_neg (fun h => h0 h.1), ← h1, ← h2])
   obtain ⟨r, hr⟩ : ∃ r, (if r1 ≠ 0 then r1 else r2) = r := ⟨_, rfl⟩
   have HR : Hid (Hid ((if r1 ≠ 0 then r1 else r2) = r)) := Lib.hid (Lib.hid hr)
   rw [hr] at HE
   have d0 : (a0 == b0) = false := beq_eq_false_iff_ne.2 h0
   clear hr h0 h1 h2
   simp only []
   go_enter Tryd.func82, Tryd.ntmps82
   go_wp2
   have ca0 : ((W.alloc (.cells #[.int .i64 a0, .int .i64 a1, .bool false] 97)).alloc (.cells #[.int .i64 b0, .int .i64 b1, .bool false] 97)).cell? ⟨W.heap.size, 0, none⟩ = some (.int .i64 a0) := by go_simp
   have ca1 : ((W.alloc (.cells #[.int .i64 a0, .int .i64 a1, .bool false] 97)).alloc (.cells #[.int .i64 b0, .int .i64 b1, .bool false] 97)).cell? ⟨W.heap.size, 1, none⟩ = some (.int .i64 a1) := by go_simp
   have cb0 : ((W.alloc (.cells #[.int .i64 a0, .int .i64 a1, .bool false] 97)).alloc (.cells #[.int .i64 b0, .int .i64 b1, .bool false] 97)).cell? ⟨W.heap.size + 1, 0, none⟩ = some (.int .i64 b0) := by go_simp
   have cb1 : ((W.alloc (.cells #[.int .i64 a0, .int .i64 a1, .bool false] 97)).alloc (.cells #[.int .i64 b0, .int .i64 b1, .bool false] 97)).cell? ⟨W.heap.size + 1, 1, none⟩ = some (.int .i64 b1) := by go_simp
   obtain ⟨W2, hW2⟩ : ∃ W2, W2 = (W.alloc (.cells #[.int .i64 a0, .int .i64 a1, .bool false] 97)).alloc (.cells #[.int .i64 b0, .int .i64 b1, .bool false] 97) := ⟨_, rfl⟩
   rw [← hW2] at ca0 ca1 cb0 cb1 ⊢
   have HW2 := Lib.hid hW2
   clear hW2
   go_still_tail 10, mixed
   repeat still_step
   still_call (compare_calls a0 b0 _)
   repeat still_step
   still_call (compare_calls a1 b1 _)
   repeat still_step
   refine wpStill_nil ?_
   rw [show cmpI a0 b0 = r1 from H1.out, show cmpI a1 b1 = r2 from H2.out]
   change wpList _ _ _ _ _ W2.drew
   go_wp2_with (go_at_call 83; refine (or_calls _ _ r1 r2 r HR.out _ (lit2 _ r1 r2)).mono ?_; rintro e w' ⟨rfl, rfl⟩)
   go_ret
   exact ⟨ret_int HE.out.symm, 1, _, by rw [HW2.out]; exact grow3 _ _ _ _⟩
  ·
   have HE : Hid (cmpE ⟨a0, a1, false⟩ ⟨b0, b1, true⟩ = if r1 ≠ 0 then r1 else r2) := Lib.hid (by unfold cmpE; rw [if_neg (fun h => h0 h.1), ← h1, ← h2])
   obtain ⟨r, hr⟩ : ∃ r, (if r1 ≠ 0 then r1 else r2) = r := ⟨_, rfl⟩
   have HR : Hid (Hid ((if r1 ≠ 0 then r1 else r2) = r)) := Lib.hid (Lib.hid hr)
   rw [hr] at HE
   have d0 : (a0 == b0) = false := beq_eq_false_iff_ne.2 h0
   clear hr h0 h1 h2
   simp only []
   go_enter Tryd.func82, Tryd.ntmps82
   go_wp2
   have ca0 : ((W.alloc (.cells #[.int .i64 a0, .int .i64 a1, .bool false] 97)).alloc (.cells #[.int .i64 b0, .int .i64 b1, .bool true] 97)).cell? ⟨W.heap.size, 0, none⟩ = some (.int .i64 a0) := by go_simp
   have ca1 : ((W.alloc (.cells #[.int .i64 a0, .int .i64 a1, .bool false] 97)).alloc (.cells #[.int .i64 b0, .int .i64 b1, .bool true] 97)).cell? ⟨W.heap.size, 1, none⟩ = some (.int .i64 a1) := by go_simp
   have cb0 : ((W.alloc (.cells #[.int .i64 a0, .int .i64 a1, .bool false] 97)).alloc (.cells #[.int .i64 b0, .int .i64 b1, .bool true] 97)).cell? ⟨W.heap.size + 1, 0, none⟩ = some (.int .i64 b0) := by go_simp
   have cb1 : ((W.alloc (.cells #[.int .i64 a0, .int .i64 a1, .bool false] 97)).alloc (.cells #[.int .i64 b0, .int .i64 b1, .bool true] 97)).cell? ⟨W.heap.size + 1, 1, none⟩ = some (.int .i64 b1) := by go_simp
   obtain ⟨W2, hW2⟩ : ∃ W2, W2 = (W.alloc (.cells #[.int .i64 a0, .int .i64 a1, .bool false] 97)).alloc (.cells #[.int .i64 b0, .int .i64 b1, .bool true] 97) := ⟨_, rfl⟩
   rw [← hW2] at ca0 ca1 cb0 cb1 ⊢
   have HW2 := Lib.hid hW2
   clear hW2
   go_still_tail 10, mixed
   repeat still_step
   still_call (compare_calls a0 b0 _)
   repeat still_step
   still_call (compare_calls a1 b1 _)
   repeat still_step
   refine wpStill_nil ?_
   rw [show cmpI a0 b0 = r1 from H1.out, show cmpI a1 b1 = r2 from H2.out]
   change wpList _ _ _ _ _ W2.drew
   go_wp2_with (go_at_call 83; refine (or_calls _ _ r1 r2 r HR.out _ (lit2 _ r1 r2)).mono ?_; rintro e w' ⟨rfl, rfl⟩)
   go_ret
   exact ⟨ret_int HE.out.symm, 1, _, by rw [HW2.out]; exact grow3 _ _ _ _⟩
  ·
   have HE : Hid (cmpE ⟨a0, a1, true⟩ ⟨b0, b1, false⟩ = if r1 ≠ 0 then r1 else r2) := Lib.hid (by unfold cmpE; rw [if_neg (fun h => h0 h.1), ← h1, ← h2])
   obtain ⟨r, hr⟩ : ∃ r, (if r1 ≠ 0 then r1 else r2) = r := ⟨_, rfl⟩
   have HR : Hid (Hid ((if r1 ≠ 0 then r1 else r2) = r)) := Lib.hid (Lib.hid hr)
   rw [hr] at HE
   have d0 : (a0 == b0) = false := beq_eq_false_iff_ne.2 h0
   clear hr h0 h1 h2
   simp only []
   go_enter Tryd.func82, Tryd.ntmps82
   go_wp2
   have ca0 : ((W.alloc (.cells #[.int .i64 a0, .int .i64 a1, .bool true] 97)).alloc (.cells #[.int .i64 b0, .int .i64 b1, .bool false] 97)).cell? ⟨W.heap.size, 0, none⟩ = some (.int .i64 a0) := by go_simp
   have ca1 : ((W.alloc (.cells #[.int .i64 a0, .int .i64 a1, .bool true] 97)).alloc (.cells #[.int .i64 b0, .int .i64 b1, .bool false] 97)).cell? ⟨W.heap.size, 1, none⟩ = some (.int .i64 a1) := by go_simp
   have cb0 : ((W.alloc (.cells #[.int .i64 a0, .int .i64 a1, .bool true] 97)).alloc (.cells #[.int .i64 b0, .int .i64 b1, .bool false] 97)).cell? ⟨W.heap.size + 1, 0, none⟩ = some (.int .i64 b0) := by go_simp
   have cb1 : ((W.alloc (.cells #[.int .i64 a0, .int .i64 a1, .bool true] 97)).alloc (.cells #[.int .i64 b0, .int .i64 b1, .bool false] 97)).cell? ⟨W.heap.size + 1, 1, none⟩ = some (.int .i64 b1) := by go_simp
   obtain ⟨W2, hW2⟩ : ∃ W2, W2 = (W.alloc (.cells #[.int .i64 a0, .int .i64 a1, .bool true] 97)).alloc (.cells #[.int .i64 b0, .int .i64 b1, .bool false] 97) := ⟨_, rfl⟩
   rw [← hW2] at ca0 ca1 cb0 cb1 ⊢
   have HW2 := Lib.hid hW2
   clear hW2
   go_still_tail 10, mixed
   repeat still_step
   still_call (compare_calls a0 b0 _)
   repeat still_step
   still_call (compare_calls a1 b1 _)
   repeat still_step
   refine wpStill_nil ?_
   rw [show cmpI a0 b0 = r1 from H1.out, show cmpI a1 b1 = r2 from H2.out]
   change wpList _ _ _ _ _ W2.drew
   go_wp2_with (go_at_call 83; refine (or_calls _ _ r1 r2 r HR.out _ (lit2 _ r1 r2)).mono ?_; rintro e w' ⟨rfl, rfl⟩)
   go_ret
   exact ⟨ret_int HE.out.symm, 1, _, by rw [HW2.out]; exact grow3 _ _ _ _⟩
  ·
   have HE : Hid (cmpE ⟨a0, a1, true⟩ ⟨b0, b1, true⟩ = if r1 ≠ 0 then r1 else r2) := Lib.hid (by unfold cmpE; rw [if_neg (fun h => h0 h.1), ← h1, ← h2])
   obtain ⟨r, hr⟩ : ∃ r, (if r1 ≠ 0 then r1 else r2) = r := ⟨_, rfl⟩
   have HR : Hid (Hid ((if r1 ≠ 0 then r1 else r2) = r)) := Lib.hid (Lib.hid hr)
   rw [hr] at HE
   have d0 : (a0 == b0) = false := beq_eq_false_iff_ne.2 h0
   clear hr h0 h1 h2
   simp only []
   go_enter Tryd.func82, Tryd.ntmps82
   go_wp2
   have ca0 : ((W.alloc (.cells #[.int .i64 a0, .int .i64 a1, .bool true] 97)).alloc (.cells #[.int .i64 b0, .int .i64 b1, .bool true] 97)).cell? ⟨W.heap.size, 0, none⟩ = some (.int .i64 a0) := by go_simp
   have ca1 : ((W.alloc (.cells #[.int .i64 a0, .int .i64 a1, .bool true] 97)).alloc (.cells #[.int .i64 b0, .int .i64 b1, .bool true] 97)).cell? ⟨W.heap.size, 1, none⟩ = some (.int .i64 a1) := by go_simp
   have cb0 : ((W.alloc (.cells #[.int .i64 a0, .int .i64 a1, .bool true] 97)).alloc (.cells #[.int .i64 b0, .int .i64 b1, .bool true] 97)).cell? ⟨W.heap.size + 1, 0, none⟩ = some (.int .i64 b0) := by go_simp
   have cb1 : ((W.alloc (.cells #[.int .i64 a0, .int .i64 a1, .bool true] 97)).alloc (.cells #[.int .i64 b0, .int .i64 b1, .bool true] 97)).cell? ⟨W.heap.size + 1, 1, none⟩ = some (.int .i64 b1) := by go_simp
   obtain ⟨W2, hW2⟩ : ∃ W2, W2 = (W.alloc (.cells #[.int .i64 a0, .int .i64 a1, .bool true] 97)).alloc (.cells #[.int .i64 b0, .int .i64 b1, .bool true] 97) := ⟨_, rfl⟩
   rw [← hW2] at ca0 ca1 cb0 cb1 ⊢
   have HW2 := Lib.hid hW2
   clear hW2
   go_still_tail 10, mixed
   repeat still_step
   still_call (compare_calls a0 b0 _)
   repeat still_step
   still_call (compare_calls a1 b1 _)
   repeat still_step
   refine wpStill_nil ?_
   rw [show cmpI a0 b0 = r1 from H1.out, show cmpI a1 b1 = r2 from H2.out]
   change wpList _ _ _ _ _ W2.drew
   go_wp2_with (go_at_call 83; refine (or_calls _ _ r1 r2 r HR.out _ (lit2 _ r1 r2)).mono ?_; rintro e w' ⟨rfl, rfl⟩)
   go_ret
   exact ⟨ret_int HE.out.symm, 1, _, by rw [HW2.out]; exact grow3 _ _ _ _⟩
end Go.Proofs.YtkljcdghbefceaaDoor

namespace Go.Proofs.YtkljcdghbefceaaDoor
set_option linter.unusedVariables false
set_option linter.unusedSimpArgs false
open Go.RowKit Go.Shelf Bits Go.Sort
open Go.Proofs.YtkljcdghbefceaaDoorW.PrintWords Go.Proofs.YtkljcdghbefceaaDoorW.PrintLast Go.Proofs.YtkljcdghbefceaaDoorW.PrintMore
attribute [local go_sem] Oper.semAt_some
instance : Inhabited Ev := ⟨zEv⟩
def encE (x : Ev) : List Value := [.int .i64 x.f0, .int .i64 x.f1, .bool x.f2]
theorem ltOf_cmpE : ltOf cmpE = ltEB := by
 funext x y
 unfold ltOf ltEB
 rw [decide_eq_decide]
 exact cmpE_lt x y
theorem swoE : SWO (ltOf cmpE) where
 irrefl x := by rw [ltOf_cmpE]; unfold ltEB; exact decide_eq_false (ltE_irrefl x)
 trans x y z h1 h2 := by
  rw [ltOf_cmpE] at *
  unfold ltEB at *
  exact decide_eq_true (ltE_trans (of_decide_eq_true h1) (of_decide_eq_true h2))
 ntrans x y z h1 h2 := by
  rw [ltOf_cmpE] at *
  unfold ltEB at *
  have h1 := of_decide_eq_false h1
  have h2 := of_decide_eq_false h2
  apply decide_eq_false
  intro h
  by_cases hyx : ltE y x
  ·
   exact h2 (ltE_trans hyx h)
  ·
   obtain rfl := ltE_total h1 hyx
   exact h2 h
theorem ltE_anti (x y : Ev) (h1 : ltOf cmpE x y = false) (h2 : ltOf cmpE y x = false) : x = y := by
 rw [ltOf_cmpE] at *
 unfold ltEB at *
 exact ltE_total (of_decide_eq_false h1) (of_decide_eq_false h2)
theorem infoCh : (Tryd.prog.info? 97).map (fun i => (i.zero, i.size, i.bytes)) = some (some (.agg #[(.int .i64 0), (.int .i64 0), (.bool false)]), 3, 24) := by kernel_rfl
theorem flat_get (d : List Ev) (j c : Nat) (hj : j < d.length) (hc : c < 3) : (flatK encE 3 d.toArray)[j * 3 + c]! = (encE (d.toArray[j]!))[c]! := by
 rw [get_flatK _ _ _ _ (by simp; omega)]
 rw [show (j * 3 + c) / 3 = j by omega, show (j * 3 + c) % 3 = c by omega]
theorem arr_getD (d : List Ev) (j : Nat) (hj : j < d.length) : d.toArray[j]! = rdEv d j := by
 unfold rdEv
 rw [List.getD_eq_getElem?_getD, List.getElem?_eq_getElem hj]
 simp [hj]
theorem addA (b q : Nat) : (⟨b, 0, none⟩ : Addr).add q = ⟨b, q, none⟩ := by
 unfold Addr.add
 split <;> simp_all
theorem holds_of_C {W : World} {b n : Nat} {d : List Ev} (h : kEv.C W (some ⟨b, 0, none⟩) n d) (hf : ∀ j, W.frozen? ⟨b, j, none⟩ = false) : HoldsK encE 3 W b 0 d.toArray := by
 intro t ht
 have hn : d.length = n := h.1
 have ht : t < d.length * 3 := by simpa using ht
 refine ⟨?_, hf _⟩
 obtain ⟨ad, e, h0, h1, h2⟩ := at_Ev h (t / 3) (by omega)
 cases e
 have hj : t / 3 < d.length := by omega
 have e0 : t = (t / 3) * 3 + t % 3 := by omega
 have hm : t % 3 < 3 := Nat.mod_lt _ (by omega)
 have key : (flatK encE 3 d.toArray)[t]! = (encE (rdEv d (t / 3)))[t % 3]! := by
  have := flat_get d (t / 3) (t % 3) hj hm
  rw [← e0, arr_getD d _ hj] at this
  exact this
 show W.cell? ⟨b, 0 + t, none⟩ = some (id _)
 rw [key]
 have cs : ∀ c, c < 3 → W.cell? ⟨b, t / 3 * 3 + c, none⟩ = some ((encE (rdEv d (t / 3)))[c]!) := fun c hc => by
  rcases c with _ | _ | _ | c
  ·
   rw [addA] at h0
   exact h0
  ·
   rw [addA] at h1
   exact h1
  ·
   rw [addA] at h2
   exact h2
  ·
   omega
 have := cs (t % 3) hm
 rw [← e0] at this
 rw [Nat.zero_add]
 exact this
theorem C_of_holds {W : World} {b : Nat} {d : List Ev} (h : HoldsK encE 3 W b 0 d.toArray) (hl : d.length ≤ 1000) : kEv.C W (some ⟨b, 0, none⟩) d.length d := by
 refine ⟨rfl, by omega, fun _ => ⟨_, rfl, fun j p hj => ⟨[.int .i64 p.f0, .int .i64 p.f1, .bool p.f2], rfl, ?_, fun i u hu => ?_⟩⟩⟩
 ·
  exact kEv.K_of_M (kEv_mkM W 0 (fun _ => True) p)
 ·
  have hjl : j < d.length := by
   by_cases hjl : j < d.length
   ·
    exact hjl
   ·
    rw [List.getElem?_eq_none (by omega)] at hj
    cases hj
  have hi : i < 3 := by
   by_cases hi : i < 3
   ·
    exact hi
   ·
    rw [List.getElem?_eq_none (by simp; omega)] at hu
    cases hu
  have hp : p = rdEv d j := by
   unfold rdEv
   rw [List.getD_eq_getElem?_getD, hj]
   rfl
  have := (h (j * 3 + i) (by simp; omega)).1
  rw [flat_get d j i hjl hi, arr_getD d j hjl, ← hp] at this
  have e : (encE p)[i]! = u := by
   unfold encE
   rw [List.getElem!_eq_getElem?_getD, hu]
   rfl
  rw [e] at this
  have e2 : (⟨b, 0, none⟩ : Addr).add (j * kEv.sz + i) = ⟨b, 0 + (j * 3 + i), none⟩ := by
   show (⟨b, 0, none⟩ : Addr).add (j * 3 + i) = _
   unfold Addr.add
   split <;> simp_all
  rw [e2]
  exact this
section
variable {ops : Array Oper} {o : Oper} {rest : List Oper} {a : Act} {Q : Exit → Act → World → Prop} {w0 W : World}
theorem ap_ch2 (base : Nat) (hgd : o.guard = none) (s x : Operand) (ho : o.op = .call { callee := .builtin .append, args := #[s, x], argTypes := #[94, 94] })
  (v : Value) (xs : List Ev) (y z : Ev) (hs : a.eval s = v) {N : Nat} (hx : a.eval x = .slice (some ⟨N, 0, none⟩) 2 2) (hN : N = W.heap.size)
  (HO : Kd.R kEv 97 W base (fun _ => True) v xs) (HB : Below base w0 W) (hbase : base ≤ W.heap.size) (hl : xs.length < 1000000)
  (h : ∀ v1 w1, Kd.R kEv 97 w1 base (fun _ => True) v1 (xs ++ [y, z]) → Below base w0 w1 → wpList Tryd.prog ops Q rest (a.put o.dst v1) w1) :
  wpList Tryd.prog ops Q (o :: rest) a (W.alloc (.cells #[.int .i64 y.f0, .int .i64 y.f1, .bool y.f2, .int .i64 z.f0, .int .i64 z.f1, .bool z.f2] 97)) := by
 have hBa : Below W.heap.size W (W.alloc (.cells #[.int .i64 y.f0, .int .i64 y.f1, .bool y.f2, .int .i64 z.f0, .int .i64 z.f1, .bool z.f2] 97)) := (Below.refl _ _).alloc (Nat.le_refl _) _
 refine Kd.R_append_rows kEv base hgd s x 94 97 (.agg #[(.int .i64 0), (.int .i64 0), (.bool false)]) 24 ho Tryd.underlying94 infoCh rfl (by decide) (by decide)
  v xs [y, z] (some ⟨N, 0, none⟩) 2 2 (fun _ => True) (fun _ => False) hs hx (Kd.R_below HO hBa) (Rr := kEv.K (W.alloc (.cells #[.int .i64 y.f0, .int .i64 y.f1, .bool y.f2, .int .i64 z.f0, .int .i64 z.f1, .bool z.f2] 97))) ?_ (fun p cs hp => ?_) (fun _ hk => hk.elim) (fun _ _ => trivial) (HB.trans (hBa.mono hbase)) (by have := hBa.size; omega) (by omega) (fun v1 w1 h1 h2 _ _ => h v1 w1 h1 h2)
 ·
  subst hN
  refine ⟨rfl, by omega, fun _ => ⟨_, rfl, fun j p hj => ⟨[.int .i64 p.f0, .int .i64 p.f1, .bool p.f2], rfl, kEv.K_of_M (kEv_mkM _ 0 (fun _ => True) p), fun i u hu => ?_⟩⟩⟩
  have hblk := World.alloc_heap_new W (.cells #[.int .i64 y.f0, .int .i64 y.f1, .bool y.f2, .int .i64 z.f0, .int .i64 z.f1, .bool z.f2] 97)
  have e2 : ∀ q, (⟨W.heap.size, 0, none⟩ : Addr).add q = ⟨W.heap.size, q, none⟩ := fun q => by
   unfold Addr.add
   split <;> simp_all
  rw [e2]
  have hc := blk_cell hblk (j * kEv.sz + i)
  rw [hc]
  rcases j with _ | _ | j
  ·
   cases hj
   rcases i with _ | _ | _ | i
   ·
    simpa using hu
   ·
    simpa using hu
   ·
    simpa using hu
   ·
    simp at hu
  ·
   cases hj
   rcases i with _ | _ | _ | i
   ·
    simpa [show kEv.sz = 3 from rfl] using hu
   ·
    simpa [show kEv.sz = 3 from rfl] using hu
   ·
    simpa [show kEv.sz = 3 from rfl] using hu
   ·
    simp at hu
  ·
   simp at hj
 ·
  rw [kEv_open hp]
  exact kEv_mkM _ _ _ p
end
def ChR (W : World) (base : Nat) (A : Option Addr) (l : List Ev) : Prop := ∀ W', W.heap.size ≤ W'.heap.size → (∀ k, base ≤ k → k < W.heap.size → W'.heap[k]? = W.heap[k]?) → kEv.C W' A l.length l
theorem C_step_ev {W W' : World} {b n : Nat} {d : List Ev} (h : kEv.C W (some ⟨b, 0, none⟩) n d) (hb : W'.heap[b]? = W.heap[b]?) : kEv.C W' (some ⟨b, 0, none⟩) n d := by
 refine ⟨h.1, h.2.1, fun hn => ?_⟩
 obtain ⟨ad, e, hc⟩ := h.2.2 hn
 refine ⟨ad, e, fun j p hj => ?_⟩
 obtain ⟨c, h1, h2, h3⟩ := hc j p hj
 refine ⟨c, h1, ?_, fun i u hu => ?_⟩
 ·
  rw [kEv_open h2]
  exact kEv.K_of_M (kEv_mkM _ 0 (fun _ => True) p)
 ·
  have := h3 i u hu
  cases e
  have e2 : ∀ q, (⟨b, 0, none⟩ : Addr).add q = ⟨b, q, none⟩ := fun q => by
   unfold Addr.add
   split <;> simp_all
  rw [e2] at this ⊢
  rw [← this]
  unfold World.cell?
  simp only [hb]
-- @IF (*loop.example/buildscheduler/impl.graph).changes
theorem sorted_keeps (w : World) (b n : Nat) (d : List Ev) (os : Array Obj) (k : Nat) (hk : k ≠ b) (hl : k < w.heap.size) : (sortWorldK encE 3 w b 0 n d.toArray os).heap[k]? = w.heap[k]? := by
 unfold sortWorldK putRowK putRow mapBlock grow Sort.ahead
 show ((w.heap.modify b _) ++ os)[k]? = _
 rw [Array.getElem?_append_left (by simpa using hl), Array.getElem?_modify]
 simp [Ne.symm hk]
theorem sorted_size (w : World) (b n : Nat) (d : List Ev) (os : Array Obj) : w.heap.size ≤ (sortWorldK encE 3 w b 0 n d.toArray os).heap.size := by
 unfold sortWorldK putRowK putRow mapBlock grow Sort.ahead
 simp
theorem sorted_below {w0 w : World} {base b : Nat} (n : Nat) (d : List Ev) (os : Array Obj) (hB : Below base w0 w) (hb : base ≤ b) (hs : base ≤ w.heap.size) : Below base w0 (sortWorldK encE 3 w b 0 n d.toArray os) := by
 refine hB.trans ⟨rfl, rfl, rfl, ?_, fun k hk => sorted_keeps w b n d os k (by omega) (by omega)⟩
 have := sorted_size w b n d os
 omega
end Go.Proofs.YtkljcdghbefceaaDoor

namespace Go.Proofs
open Go.Shelf
def Tryd.sortCh_ren : Go.Shelf.Ren := ⟨fun | 6 => 81 | 15 => 91 | 14 => 90 | 28 => 103 | 29 => 104 | 20 => 95 | 21 => 96 | 22 => 97 | 23 => 98 | 24 => 99 | 25 => 100 | 26 => 101 | 27 => 102 | 46 => 105 | 47 => 106 | 48 => 107 | 49 => 108 | 50 => 109 | 57 => 110 | n => n, fun | 22 => 94 | 24 => 97 | 25 => 117 | 3 => 3 | 39 => 120 | 0 => 0 | 53 => 119 | 55 => 145 | 4 => 4 | 46 => 137 | 45 => 136 | 50 => 141 | 5 => 5 | 9 => 9 | 66 => 146 | 70 => 150 | 76 => 152 | 77 => 153 | n => n, fun | n => n⟩
theorem Tryd.sortCh : Go.Proofs.SlLaysF0.n6 Tryd.prog Tryd.sortCh_ren := {
  mixed := by kernel_rfl
  f6 := ⟨Tryd.f81.name, by decide, Tryd.func81.trans (congrArg some (by kernel_rfl))⟩
  f14 := ⟨Tryd.f90.name, by decide, Tryd.func90.trans (congrArg some (by kernel_rfl))⟩
  f15 := Tryd.func91.trans (congrArg some (by kernel_rfl))
  f20 := ⟨Tryd.f95.name, by decide, Tryd.func95.trans (congrArg some (by kernel_rfl))⟩
  f21 := ⟨Tryd.f96.name, by decide, Tryd.func96.trans (congrArg some (by kernel_rfl))⟩
  f22 := ⟨Tryd.f97.name, by decide, Tryd.func97.trans (congrArg some (by kernel_rfl))⟩
  f23 := ⟨Tryd.f98.name, by decide, Tryd.func98.trans (congrArg some (by kernel_rfl))⟩
  f24 := ⟨Tryd.f99.name, by decide, Tryd.func99.trans (congrArg some (by kernel_rfl))⟩
  f25 := ⟨Tryd.f100.name, by decide, Tryd.func100.trans (congrArg some (by kernel_rfl))⟩
  f26 := ⟨Tryd.f101.name, by decide, Tryd.func101.trans (congrArg some (by kernel_rfl))⟩
  f27 := ⟨Tryd.f102.name, by decide, Tryd.func102.trans (congrArg some (by kernel_rfl))⟩
  f28 := Tryd.func103.trans (congrArg some (by kernel_rfl))
  f29 := Tryd.func104.trans (congrArg some (by kernel_rfl))
  f46 := ⟨Tryd.f105.name, by decide, Tryd.func105.trans (congrArg some (by kernel_rfl))⟩
  f47 := Tryd.func106.trans (congrArg some (by kernel_rfl))
  f48 := Tryd.func107.trans (congrArg some (by kernel_rfl))
  f49 := ⟨Tryd.f108.name, by decide, Tryd.func108.trans (congrArg some (by kernel_rfl))⟩
  f50 := ⟨Tryd.f109.name, by decide, Tryd.func109.trans (congrArg some (by kernel_rfl))⟩
  f57 := ⟨Tryd.f110.name, by decide, Tryd.func110.trans (congrArg some (by kernel_rfl))⟩
  t0 := Tryd.underlying0
  a0 := Tryd.isAgg0
  z0 := Tryd.sizeOf0
  v0 := Tryd.zeroValue0
  t3 := Tryd.underlying3
  a3 := Tryd.isAgg3
  z3 := Tryd.sizeOf3
  v3 := Tryd.zeroValue3
  t4 := Tryd.underlying4
  a4 := Tryd.isAgg4
  z4 := Tryd.sizeOf4
  v4 := Tryd.zeroValue4
  t5 := Tryd.underlying5
  a5 := Tryd.isAgg5
  z5 := Tryd.sizeOf5
  v5 := Tryd.zeroValue5
  t9 := Tryd.underlying9
  a9 := Tryd.isAgg9
  z9 := Tryd.sizeOf9
  v9 := Tryd.zeroValue9
  t22 := Tryd.underlying94
  a22 := Tryd.isAgg94
  z22 := Tryd.sizeOf94
  v22 := Tryd.zeroValue94
  t25 := Tryd.underlying117
  a25 := Tryd.isAgg117
  z25 := Tryd.sizeOf117
  v25 := Tryd.zeroValue117
  t39 := Tryd.underlying120
  a39 := Tryd.isAgg120
  z39 := Tryd.sizeOf120
  v39 := Tryd.zeroValue120
  t45 := Tryd.underlying136
  a45 := Tryd.isAgg136
  z45 := Tryd.sizeOf136
  v45 := Tryd.zeroValue136
  t46 := Tryd.underlying137
  a46 := Tryd.isAgg137
  z46 := Tryd.sizeOf137
  v46 := Tryd.zeroValue137
  t50 := Tryd.underlying141
  a50 := Tryd.isAgg141
  z50 := Tryd.sizeOf141
  v50 := Tryd.zeroValue141
  t53 := Tryd.underlying119
  a53 := Tryd.isAgg119
  z53 := Tryd.sizeOf119
  v53 := Tryd.zeroValue119
  t55 := Tryd.underlying145
  a55 := Tryd.isAgg145
  z55 := Tryd.sizeOf145
  v55 := Tryd.zeroValue145
  t66 := Tryd.underlying146
  a66 := Tryd.isAgg146
  z66 := Tryd.sizeOf146
  v66 := Tryd.zeroValue146
  t70 := Tryd.underlying150
  a70 := Tryd.isAgg150
  z70 := Tryd.sizeOf150
  v70 := Tryd.zeroValue150
  t76 := Tryd.underlying152
  a76 := Tryd.isAgg152
  z76 := Tryd.sizeOf152
  v76 := Tryd.zeroValue152
  t77 := Tryd.underlying153
  a77 := Tryd.isAgg153
  z77 := Tryd.sizeOf153
  v77 := Tryd.zeroValue153 }
end Go.Proofs

namespace Go.Proofs.YtkljcdghbefceaaDoor
set_option linter.unusedVariables false
set_option linter.unusedSimpArgs false
open Go.RowKit Go.Shelf Bits Go.Sort
open Go.Proofs.YtkljcdghbefceaaDoorW.PrintWords Go.Proofs.YtkljcdghbefceaaDoorW.PrintLast Go.Proofs.YtkljcdghbefceaaDoorW.PrintMore
attribute [local go_sem] Oper.semAt_some
set_option maxRecDepth 1000000 in
set_option maxHeartbeats 4000000 in
theorem sortCh_calls (W0 W : World) (base : Nat) (A : Option Addr) (c : Nat) (d : List Ev) (hR : Kd.R kEv 97 W base (fun _ => True) (.slice A d.length c) d) (hl : d.length ≤ 1000) (hB : Below base W0 W) (hbs : base ≤ W.heap.size) :
  Calls Tryd.prog 81 #[.slice A d.length c, .func (.func 82) #[] #[]] W fun e w' => e = .returned (.tuple #[]) ∧ ChR w' base A (d.mergeSort fun x y => !ltEB y x) ∧ Below base W0 w' := by
 by_cases h0 : d.length = 0
 ·
  obtain rfl : d = [] := List.eq_nil_of_length_eq_zero h0
  have hcon := AnyF.slices_SortFunc_none Tryd.sortCh A c (.func (.func 82) #[] #[]) W
  change Calls Tryd.prog 81 _ _ _ at hcon
  refine hcon.mono ?_
  rintro e w' ⟨rfl, rfl⟩
  refine ⟨rfl, fun W' _ _ => ?_, hB⟩
  rw [List.mergeSort_nil]
  exact ⟨rfl, by simp, fun hn => absurd hn (by simp)⟩
 ·
  obtain ⟨b, cap, e, hb, hlt, cells, hc⟩ := Kd.R_form hR (by omega)
  cases e
  have hC := (Kd.R_reads' hR).2.2
  have eg : ∀ args w, (callFunc 82 args).run Tryd.prog w = .ok (.enter 82 args) w := enters_of Tryd.func82 (by kernel_rfl) rfl
  have hcon := AnyQ.slices_SortFunc_total Tryd.sortCh 3 Tryd.isAgg97 Tryd.sizeOf97 encE (fun _ => rfl) (fun x v hv => by simp [encE] at hv; rcases hv with rfl | rfl | rfl <;> rfl) cmpE swoE 82 #[] b 0 c d.toArray W eg (fun _ _ _ _ x y => chgCmp_calls x y _) (holds_of_C hC (fun j => blk_frozen hc j)) hlt (by simp; omega) ltE_anti
  change Calls Tryd.prog 81 _ _ _ at hcon
  rw [ltOf_cmpE, List.size_toArray, List.toList_toArray] at hcon
  refine hcon.mono ?_
  rintro e w' ⟨rfl, n, os, rfl⟩
  have hp := List.mergeSort_perm d (fun x y => !ltEB y x)
  have hll : (d.mergeSort fun x y => !ltEB y x).length = d.length := hp.length_eq
  refine ⟨rfl, fun W' h1 h2 => ?_, sorted_below n _ os hB hb hbs⟩
  have hH := holdsK_grow encE 3 (putRowK encE 3 (Sort.ahead W n) b 0 (d.mergeSort fun x y => !ltEB y x).toArray) os b 0 (d.mergeSort fun x y => !ltEB y x).toArray (by unfold putRowK putRow mapBlock Sort.ahead; simpa using hlt) (holdsK_putRowK encE 3 (Sort.ahead W n) b 0 d.toArray _ (holdsK_ahead encE 3 W n b 0 _ (holds_of_C hC (fun j => blk_frozen hc j))) (by simp [hll]))
  have hC' := C_of_holds hH (by omega)
  have hsz := sorted_size W b n (d.mergeSort fun x y => !ltEB y x) os
  refine C_step_ev hC' (h2 b hb (by omega))
set_option maxRecDepth 1000000 in
set_option maxHeartbeats 4000000 in
theorem changes_calls (C : Nat) (g : List Tk) (ns : List Nat) (A' : Option Addr) (c' : Nat) (st : List Int) (hg : TOk g) (hs : SOk st) (hl : st.length = g.length) (w : World) (hG : IsGraph w C g ns) (hr' : (Kd.int .i64).C w A' st.length st) :
  Calls Tryd.prog 66 #[.pointer (some ⟨C, 0, none⟩), .slice A' st.length c'] w fun e w' => ∃ A c, e = .returned (.slice A (chgS g st).length c) ∧ ChR w' w.heap.size A (chgS g st) ∧ Below w.heap.size w w' := by
 obtain ⟨i0, hi, hz0, hz1, hz2⟩ := info_parts infoCh
 have HG := Lib.hid hG
 have HR' := Lib.hid hr'
 have HOK := Lib.hid hg
 have HS := Lib.hid hs
 have HL := Lib.hid hl
 have h8 := hg.1
 have hl8 : st.length ≤ 8 := by omega
 have hw2 : IntKind.i64.wrap (2 * (g.length : Int)) = ((2 * g.length : Nat) : Int) := by rw [show 2 * (g.length : Int) = ((2 * g.length : Nat) : Int) by omega]; exact IntWalk.i64_in _ (by omega)
 clear hG hr' hg hs hl
 go_enter Tryd.func66, Tryd.ntmps66
 go_wp2_with (first | (go_at_call 30; refine (size_calls _ C g ns HG.out).mono ?_; rintro e w' ⟨rfl, h⟩; obtain rfl : w = w' := h.symm) | (at_make; refine wpList_make_own _ rfl _ _ 94 rfl w.heap.size 97 i0 (.agg #[(.int .i64 0), (.int .i64 0), (.bool false)]) 3 Tryd.underlying94 hi hz0 hz1 .i64 .i64 _ (2 * g.length) rfl rfl rfl (by rw [hz2]; omega) (by simp only [maxLen]; omega) (Nat.le_refl _) ?_; intro w1 hown hg1))
 clear hw2
 have HB1 : Below w.heap.size w w1 := (Below.refl _ _).grown hg1 (Nat.le_refl _) (fun k e => by cases e)
 have HO : Kd.R kEv 97 w1 w.heap.size (fun _ => True) (.slice (some ⟨w.heap.size, 0, none⟩) 0 (2 * g.length)) [] := ⟨fun _ _ => trivial, [], hown, Reps.none _ _⟩
 clear hown hg1
 go_loopw [5, 14] (fun q i wr => ∃ j, j ≤ st.length ∧ i = .int .i64 (j : Nat) ∧ Kd.R kEv 97 wr w.heap.size (fun _ => True) q (chgN g st j) ∧ Below w.heap.size w wr) (fun _ i _ => st.length - (intOf i).toNat)
 case atStart => exact ⟨0, Nat.zero_le _, rfl, HO, HB1⟩
 case round =>
  clear HO HB1
  obtain ⟨j, hj, rfl, hO, hB⟩ := hrel
  by_cases hjl : j < st.length
  ·
   have hjj : decide ((j : Int) < (st.length : Int)) = true := decide_eq_true (by omega)
   have hji : (j : Int) < (st.length : Int) := by omega
   have hjg : j < g.length := by have := HL.out; omega
   have hjgi : (j : Int) < (g.length : Int) := by omega
   obtain ⟨Ag, cg, An, cn, Ao, co, vb, va, h1, h2, _, _⟩ := HG.out.below hB
   have cC := blk_cell h1 0
   simp at cC
   obtain ⟨ad, A3, c3, rfl, hx0, _⟩ := at_Tk h2 j hjg
   obtain ⟨ads, rfl, cs⟩ := at_num (Kd.C_below HR'.out hB) j hjl
   have HC : Hid (chgN g st (j + 1) = chgN g st j ++ [⟨st.getD j 0, (j : Int), false⟩, ⟨st.getD j 0 + (rdTk g j).f0, (j : Int), true⟩]) := Lib.hid rfl
   have hcl := chgN_len g st j
   have hsj := HS.out j
   have htj := HOK.out.2.1 j
   generalize chgN g st j = cl at hO HC hcl
   generalize st.getD j 0 = s at cs hsj HC
   generalize (rdTk g j).f0 = tm at hx0 htj HC
   have hcl6 : cl.length < 1000000 := by omega
   have hwr : IntKind.i64.wrap (s + tm) = s + tm := IntWalk.i64_in _ (by omega)
   clear h1 h2
   go_wp2_with (at_builtin; refine ap_ch2 (w0 := w) w.heap.size rfl _ _ rfl u5 cl ⟨s, (j : Int), false⟩ ⟨s + tm, (j : Int), true⟩ rfl rfl rfl hO hB hB.size hcl6 ?_; intro v1 w2 hO3 hB3)
   clear hwr
   go_roundw
   case rel => exact ⟨j + 1, by omega, by go_num, by rw [HC.out]; exact hO3, hB3⟩
   case measure => simp [intOf]; omega
  ·
   obtain rfl : j = st.length := by omega
   have hjj : decide ((st.length : Int) < (st.length : Int)) = false := decide_eq_false (by omega)
   obtain ⟨A9, c9, rfl, _, _⟩ := Kd.R_reads hO
   have hcl := chgN_len g st st.length
   have HE : Hid (chgN g st st.length = chgN g st g.length) := Lib.hid (by rw [HL.out])
   have HSC := Lib.hid (sortCh_calls w wr w.heap.size A9 c9 (chgN g st st.length) hO (by omega) hB hB.size)
   have HLN : Hid ((chgN g st st.length).length = (chgS g st).length) := Lib.hid (by rw [chgS_len, chgN_len, HL.out])
   have HSS : Hid ((chgN g st st.length).mergeSort (fun x y => !ltEB y x) = chgS g st) := Lib.hid (by rw [HE.out]; rfl)
   clear hO hB hcl
   generalize chgN g st st.length = cl at HSC HLN HSS
   go_wp2_with (go_at_call 81; refine HSC.out.mono ?_; rintro e w3 ⟨rfl, hR3, hB3⟩)
   go_ret
   exact ⟨A9, c9, by rw [HLN.out]; rfl, by rw [← HSS.out]; exact hR3, hB3⟩
end Go.Proofs.YtkljcdghbefceaaDoor

namespace Go.Proofs.YtkljcdghbefceaaDoor
set_option linter.unusedVariables false
set_option linter.unusedSimpArgs false
open Go.RowKit Go.Shelf Bits
open Go.Proofs.YtkljcdghbefceaaDoorW.PrintWords Go.Proofs.YtkljcdghbefceaaDoorW.PrintLast Go.Proofs.YtkljcdghbefceaaDoorW.PrintMore
attribute [local go_sem] Oper.semAt_some
theorem below_has {w w' : World} (h : Below w.heap.size w w') {a : Addr} {v : Value} (hc : w.cell? a = some v) : w'.cell? a = some v := by
 refine (h.cell ?_).trans hc
 apply Classical.byContradiction
 intro hn
 unfold World.cell? at hc
 rw [Array.getElem?_eq_none (by omega)] at hc
 cases hc
theorem kept_cell {w w' : World} {b : Nat} (h : KeepBut w w' b none) {a : Addr} {v : Value} (hc : w.cell? a = some v) (hn : a.block ≠ b) : w'.cell? a = some v := by
 refine (World.cell?_of_block (h.2 a.block ?_ hn (by simp))).trans hc
 apply Classical.byContradiction
 intro hn
 unfold World.cell? at hc
 rw [Array.getElem?_eq_none (by omega)] at hc
 cases hc
theorem all_not_at {g : List Tk} {ns : List Nat} {rm : List Int} {wk : Int} {cl : List Ev} {j : Nat} (h : okE g ns rm wk (cl.take j) (rdEv cl j) = false) (hj : j < cl.length) : okAllB g ns rm wk cl = false := by
 unfold okAllB
 rw [List.all_eq_false]
 exact ⟨j, List.mem_range.2 hj, by rw [h]; simp⟩
theorem sum_abs {f : Ev → Int} {b : Int} (hf : ∀ e, -b ≤ f e ∧ f e ≤ b) (hb : 0 ≤ b) : ∀ l : List Ev, -(b * l.length) ≤ (l.map f).sum ∧ (l.map f).sum ≤ b * l.length
 | [] => by simp
 | e :: l => by
  have ih := sum_abs hf hb l
  have h := hf e
  rw [List.map_cons, List.sum_cons, List.length_cons, show ((l.length + 1 : Nat) : Int) = (l.length : Int) + 1 from by omega, Int.mul_add, Int.mul_one]
  omega
theorem cOf_small {g : List Tk} (hok : TOk g) {l : List Ev} (hl : l.length ≤ 20) : (cOf g l).small 1000 := by
 refine ⟨?_, fun j => ?_⟩
 ·
  have := sum_abs (f := sgn) (b := 1) (fun e => by unfold sgn; split <;> omega) (by omega) l
  show -1000 ≤ (l.map sgn).sum ∧ (l.map sgn).sum ≤ 1000
  omega
 ·
  have := sum_abs (f := unU g (j : Int)) (b := 4) (fun e => by
   have := hok.2.2.2.1 e.f1.toNat
   unfold unU sgn
   split
   ·
    split <;> omega
   ·
    omega) (by omega) l
  show -(1000 * 1000) ≤ (l.map (unU g (j : Int))).sum ∧ (l.map (unU g (j : Int))).sum ≤ 1000 * 1000
  omega
theorem dOf_lt {n : Nat} : ∀ (l : List Ev) (d : Nat), d < 2 ^ n → (∀ e ∈ l, e.f1.toNat < n) → l.foldl dStep d < 2 ^ n
 | [], _, h, _ => h
 | e :: l, d, h, hl => by
  refine dOf_lt l (dStep d e) ?_ (fun x hx => hl x (List.mem_cons_of_mem _ hx))
  unfold dStep
  split
  ·
   exact Nat.or_lt_two_pow h (Nat.pow_lt_pow_right (by decide) (hl e List.mem_cons_self))
  ·
   exact h
def StPost (g : List Tk) (rm : List Int) (wk : Int) (st : List Int) (w : World) (e : Ending) (w' : World) : Prop :=
 (stN g rm wk st = true ∧ ∃ C ns, e = .returned (.tuple #[.pointer (some ⟨C, 0, none⟩), .bool true]) ∧ graphN g = some ns ∧ IsGraph w' C g ns ∧ Below w.heap.size w w') ∨
 (stN g rm wk st = false ∧ e = .returned (.tuple #[.pointer none, .bool false]) ∧ Below w.heap.size w w')
set_option maxRecDepth 1000000 in
set_option maxHeartbeats 8000000 in
theorem startsIn_calls (A : Option Addr) (c : Nat) (g : List Tk) (A1 : Option Addr) (c1 : Nat) (rm : List Int) (wk : Int) (A2 : Option Addr) (c2 : Nat) (st : List Int) (w : World) (hr : kTk.C w A g.length g) (hr1 : (Kd.int .i64).C w A1 rm.length rm) (hr2 : (Kd.int .i64).C w A2 st.length st) (hT : Tab w) :
  Calls Tryd.prog 41 #[.slice A g.length c, .slice A1 rm.length c1, .int .i64 wk, .slice A2 st.length c2] w (StPost g rm wk st w) := by
 have hgl := (C_len hr).2
 have hsl := (C_len hr2).2
 by_cases hp : ∃ ns, graphN g = some ns ∧ placeB rm wk = true
 ·
  obtain ⟨ns, hg, hp⟩ := hp
  have HP := Lib.hid (placeIn_yes A c g ns A1 c1 rm wk hp w hr hT hg hr1)
  have HR1 := Lib.hid hr1
  have HR2 := Lib.hid hr2
  have HGR := Lib.hid hg
  have HOK := Lib.hid (specValid_TOk (graphN_spec hg))
  have h8 := (specValid_TOk (graphN_spec hg)).1
  have HRM := Lib.hid (roomB_facts (placeB_facts hp).1).1
  have HNL := Lib.hid (graphN_all hg).2.1
  have HNS := Lib.hid (needsN_lt (graphN_some hg).1)
  by_cases h4 : st.length = g.length
  ·
   have d4 : ((st.length : Int) != (g.length : Int)) = false := by rw [bne_eq_false_iff_eq]; omega
   have HL := Lib.hid h4
   have HE : Hid (stN g rm wk st = (allInB st 0 200 && startsB g ns rm wk st)) := Lib.hid (by
    unfold stN
    rw [hg]
    show (placeB rm wk && (decide (st.length = g.length) && (allInB st 0 200 && startsB g ns rm wk st))) = _
    rw [hp, decide_eq_true h4, Bool.true_and, Bool.true_and])
   clear hr hr1 hr2 hT hg hp h4
   go_enter Tryd.func41, Tryd.ntmps41
   go_wp2_with (go_at_call 38; refine HP.out.mono ?_; rintro e w1 ⟨C, rfl, hG1, hB1⟩; have HG1 := Lib.hid hG1; have HB1 := Lib.hid hB1; clear hG1 hB1)
   go_loop [37] (fun i => ∃ (k : Nat), k ≤ st.length ∧ i = .int .i64 k ∧ Hid (∀ j, j < k → inB (st.getD j 0) 0 200 = true)) (fun i => st.length - (intOf i).toNat)
   case atStart => exact ⟨0, Nat.zero_le _, rfl, Lib.hid fun j h => absurd h (Nat.not_lt_zero _)⟩
   case round =>
    obtain ⟨k, hk, rfl, HS⟩ := hrel
    by_cases hlt : k < st.length
    ·
     have hjj : decide ((k : Int) < (st.length : Int)) = true := decide_eq_true (by omega)
     have hji : (k : Int) < (st.length : Int) := by omega
     obtain ⟨ad, rfl, hc⟩ := at_num (Kd.C_below HR2.out HB1.out) k hlt
     cases hb : inB (st.getD k 0) 0 200
     ·
      have HF : Hid (stN g rm wk st = false) := Lib.hid (by
       rw [HE.out, show allInB st 0 200 = false by
        unfold allInB
        exact all_not 0 hlt hb]
       rfl)
      have HW := Lib.hid hb
      clear hb
      generalize st.getD k 0 = x at hc HW
      go_wp2_with (go_at_call 31; refine (within_is _ _ _ _ HW _).mono ?_; rintro e w2 ⟨rfl, rfl⟩)
      go_ret2
      exact .inr ⟨HF.out, rfl, HB1.out⟩
     ·
      have HN : Hid (∀ j, j < k + 1 → inB (st.getD j 0) 0 200 = true) := Lib.hid (fun j hj => by
       by_cases e : j = k
       ·
        rw [e]; exact hb
       ·
        exact HS.out j (by omega))
      have HW := Lib.hid hb
      clear hb
      generalize st.getD k 0 = x at hc HW
      go_wp2_with (go_at_call 31; refine (within_is _ _ _ _ HW _).mono ?_; rintro e w2 ⟨rfl, rfl⟩)
      go_round
      case rel => exact ⟨k + 1, by omega, by go_num, HN⟩
      case measure => simp [intOf]; omega
    ·
     have hjj : decide ((k : Int) < (st.length : Int)) = false := decide_eq_false (by omega)
     have HAI : Hid (allInB st 0 200 = true) := Lib.hid (by
      unfold allInB
      exact all_take 0 (fun j hj => HS.out j (by omega)))
     have HSOK := Lib.hid (allIn_sok HAI.out)
     have HE2 : Hid (stN g rm wk st = okAllB g ns rm wk (chgS g st)) := Lib.hid (by rw [HE.out, HAI.out, Bool.true_and]; rfl)
     have HBa : Hid (Below w1.heap.size w1 (w1.alloc (.cells #[.int .i64 0, .int .i64 0, .int .i64 0, .int .i64 0] 80))) := Lib.hid ((Below.refl _ _).alloc (Nat.le_refl _) _)
     have HCH := Lib.hid (changes_calls C g ns A2 c2 st HOK.out HSOK.out HL.out _ (HG1.out.below HBa.out) (Kd.C_below HR2.out (HB1.out.trans (HBa.out.mono HB1.out.size))))
     have HCA : Hid (CAt (w1.alloc (.cells #[.int .i64 0, .int .i64 0, .int .i64 0, .int .i64 0] 80)) w1.heap.size (cOf g [])) := Lib.hid (World.alloc_heap_new w1 _)
     have HMEM := Lib.hid (fun (x : Ev) (hx : x ∈ chgS g st) => mem_chgS.1 hx)
     have hcl : (chgS g st).length ≤ 16 := by rw [chgS_len]; omega
     generalize chgS g st = cl at HE2 HCH HMEM hcl
     go_wp2_with (go_at_call 66; refine HCH.out.mono ?_; rintro e w3 ⟨A3, c3, rfl, hR3, hB3⟩; have HR3 := Lib.hid hR3; have HB3 := Lib.hid hB3; clear hR3 hB3)
     have HK3 := Lib.hid (keep_below w1.heap.size HB3.out)
     have HCA3 := Lib.hid (HCA.out.below HB3.out)
     have HB13 := Lib.hid (HBa.out.trans (HB3.out.mono HBa.out.size))
     have hb3 := HCA3.out.lt
     go_loopw [15, 49] (fun d i wr => ∃ j, j ≤ cl.length ∧ i = .int .i64 (j : Nat) ∧ d = .int .u16 (dOf (cl.take j) : Nat) ∧ Hid (∀ q, q < j → okE g ns rm wk (cl.take q) (rdEv cl q) = true) ∧ CAt wr w1.heap.size (cOf g (cl.take j)) ∧ KeepBut w3 wr w1.heap.size none ∧ Below w1.heap.size w1 wr) (fun _ i _ => cl.length - (intOf i).toNat)
     case atStart => exact ⟨0, Nat.zero_le _, rfl, rfl, Lib.hid fun q h => absurd h (Nat.not_lt_zero _), HCA3.out, KeepBut.refl _ _ _, HB13.out⟩
     case round =>
      obtain ⟨j, hj, rfl, rfl, HQ, hCA, hK, hB⟩ := hrel
      by_cases hjl : j < cl.length
      ·
       have hjj : decide ((j : Int) < (cl.length : Int)) = true := decide_eq_true (by omega)
       have hji : (j : Int) < (cl.length : Int) := by omega
       have hCR : kEv.C wr A3 cl.length cl := HR3.out wr hK.1 (fun q hq hql => hK.2 q hql (by simp at hq; omega) (by simp))
       obtain ⟨ad, rfl, x0, x1, x2⟩ := at_Ev hCR j hjl
       have hmem : rdEv cl j ∈ cl := by
        unfold rdEv
        rw [List.getD_eq_getElem?_getD, List.getElem?_eq_getElem hjl]
        exact List.getElem_mem _
       have HTK : Hid (cl.take (j + 1) = cl.take j ++ [rdEv cl j]) := Lib.hid (by
        rw [List.take_succ_eq_append_getElem hjl]
        unfold rdEv
        rw [List.getD_eq_getElem?_getD, List.getElem?_eq_getElem hjl]
        rfl)
       have hdl : dOf (cl.take j) < 2 ^ g.length := dOf_lt _ 0 (Nat.two_pow_pos _) (fun e he => by
        obtain ⟨q, hq, hh⟩ := HMEM.out e (List.mem_of_mem_take he)
        rcases hh with rfl | rfl
        ·
         simpa [chB] using hq
        ·
         simpa [chO] using hq)
       have hd16 : dOf (cl.take j) < 65536 := Nat.lt_of_lt_of_le hdl (Nat.le_trans (Nat.pow_le_pow_right (by omega) h8) (by decide))
       have HCS : Hid ((cOf g (cl.take j)).small 1000) := Lib.hid (cOf_small HOK.out (by rw [List.length_take]; omega))
       have HOE : Hid (okE g ns rm wk (cl.take j) (rdEv cl j) = ((rdEv cl j).f2 || (decide (diff (ns.getD (rdEv cl j).f1.toNat 0) (dOf (cl.take j)) = 0) && (cOf g (cl.take j)).can (rdTk g (rdEv cl j).f1.toNat).f2.toNat (rdTk g (rdEv cl j).f1.toNat).f3 rm wk))) := Lib.hid rfl
       have HSN := Lib.hid (fun (p : Nat) (hp : (rdTk g (rdEv cl j).f1.toNat).f2 = (p : Int)) => (cOf_snoc (g := g) (l := cl.take j) (e := rdEv cl j) hp))
       have HDN := Lib.hid (dOf_snoc (cl.take j) (rdEv cl j))
       rw [← HTK.out] at HSN HDN
       obtain ⟨i, hig, hev⟩ := HMEM.out _ hmem
       have hf1 : (rdEv cl j).f1 = (i : Int) := by rcases hev with e | e <;> (rw [e]; rfl)
       have htn : (rdEv cl j).f1.toNat = i := by rw [hf1, Int.toNat_natCast]
       have HFL : Hid (∃ b, b = (rdEv cl j).f2) := Lib.hid ⟨_, rfl⟩
       obtain ⟨bo, hbo⟩ := HFL.out
       have HSG : Hid (sgn (rdEv cl j) = if bo then -1 else 1) := Lib.hid (by unfold sgn; rw [hbo])
       have HDS : Hid (dStep (dOf (cl.take j)) (rdEv cl j) = if bo then dOf (cl.take j) ||| 2 ^ i else dOf (cl.take j)) := Lib.hid (by unfold dStep; rw [htn, hbo])
       rw [htn, ← hbo] at HOE
       rw [htn] at HSN
       rw [hf1] at x1
       rw [← hbo] at x2
       clear hf1 htn hbo hev HFL hmem hCR
       generalize (rdEv cl j).f0 = at0 at x0
       have hi16 : i < 16 := by omega
       -- the graph and the event, boxed
       have HCA := Lib.hid hCA
       have HK := Lib.hid hK
       have HBB := Lib.hid hB
       have hbr : w1.heap.size < wr.heap.size := hCA.lt
       clear hCA hK hB
       go_upto_region 15 with (fail)
       obtain ⟨W1, hW1⟩ : ∃ W1, W1 = wr.alloc (.cells #[.int .i64 at0, .int .i64 (i : Nat), .bool bo] 97) := ⟨_, rfl⟩
       have hsz1 : W1.heap.size = wr.heap.size + 1 := by rw [hW1]; simp
       have hBE : Below wr.heap.size wr W1 := by rw [hW1]; exact (Below.refl _ _).alloc (Nat.le_refl _) _
       have hEb : W1.heap[wr.heap.size]? = some (.cells #[.int .i64 at0, .int .i64 (i : Nat), .bool bo] 97 (0, 0)) := by rw [hW1]; exact World.alloc_heap_new _ _
       rw [← hW1]
       clear hW1 x0 x1 x2
       have HB11 := Lib.hid (HBB.out.trans (hBE.mono HBB.out.size))
       have HCA1 := Lib.hid (HCA.out.below hBE)
       have HK1 := Lib.hid (keep_trans HK.out (keep_below w1.heap.size hBE))
       have e1 : W1.cell? ⟨wr.heap.size, 1, none⟩ = some (.int .i64 (i : Nat)) := (blk_cell hEb 1).trans (by simp)
       obtain ⟨Ag, cg, An, cn, Ao, co, vb, va, h1, h2, h3, _⟩ := HG1.out.below HB11.out
       have cC := blk_cell h1 0
       simp at cC
       obtain ⟨adt, A4, c4, rfl, hx0, hx1, hx2, hx3, _, _⟩ := at_Tk h2 i hig
       obtain ⟨p, hp⟩ : ∃ p : Nat, (rdTk g i).f2 = (p : Int) := ⟨(rdTk g i).f2.toNat, by have := HOK.out.2.2.1 i; omega⟩
       have hp3 : p < 3 := by have := HOK.out.2.2.1 i; omega
       have hu4 := HOK.out.2.2.2.1 i
       have HSN2 : Hid (cOf g (cl.take (j + 1)) = (cOf g (cl.take j)).add p (rdTk g i).f3 (sgn (rdEv cl j))) := Lib.hid (HSN.out p hp)
       rw [hp] at hx2 HOE
       rw [Int.toNat_natCast] at HOE
       have HEB := Lib.hid hEb
       clear HSN hp h1 h2 h3 hBE hEb
       generalize (rdTk g i).f0 = f0 at hx0
       generalize (rdTk g i).f1.length = n1 at hx1
       generalize (rdTk g i).f3 = f3 at hx3 hu4 HSN2 HOE
       generalize cOf g (cl.take j) = ct at HCA1 HCS HOE HSN2
       generalize dOf (cl.take j) = dn at hdl hd16 HOE HDN HDS
       have hii : (i : Int) < (g.length : Int) := by omega
       have HKEEP : Hid (∀ W, Below W1.heap.size W1 W → (W.cell? ⟨wr.heap.size, 1, none⟩ = some (.int .i64 (i : Nat)) ∧ W.cell? ⟨C, 0, none⟩ = some (.slice (some adt) g.length cg) ∧ W.cell? (adt.add (i * 4)) = some (.int .i64 f0) ∧ W.cell? ⟨(adt.add (i * 4)).block, (adt.add (i * 4)).off + 1, none⟩ = some (.slice A4 n1 c4) ∧ W.cell? ⟨(adt.add (i * 4)).block, (adt.add (i * 4)).off + 2, none⟩ = some (.int .i64 (p : Nat)) ∧ W.cell? ⟨(adt.add (i * 4)).block, (adt.add (i * 4)).off + 3, none⟩ = some (.int .i64 f3) ∧ Below W1.heap.size W1 W)) := Lib.hid (fun W hW => ⟨below_has hW e1, below_has hW cC, below_has hW hx0, below_has hW hx1, below_has hW hx2, below_has hW hx3, hW⟩)
       go_region_held3 (fun W => W.cell? ⟨wr.heap.size, 1, none⟩ = some (.int .i64 (i : Nat)) ∧ W.cell? ⟨C, 0, none⟩ = some (.slice (some adt) g.length cg) ∧ W.cell? (adt.add (i * 4)) = some (.int .i64 f0) ∧ W.cell? ⟨(adt.add (i * 4)).block, (adt.add (i * 4)).off + 1, none⟩ = some (.slice A4 n1 c4) ∧ W.cell? ⟨(adt.add (i * 4)).block, (adt.add (i * 4)).off + 2, none⟩ = some (.int .i64 (p : Nat)) ∧ W.cell? ⟨(adt.add (i * 4)).block, (adt.add (i * 4)).off + 3, none⟩ = some (.int .i64 f3) ∧ Below W1.heap.size W1 W) (first | (refine HKEEP.out _ ?_; repeat (first | exact Below.refl _ _ | apply below_alloc | apply pw_below_drewN | apply below_drew1))) (fail)
       obtain ⟨W2, hW2⟩ : ∃ W2, W2 = (W1.alloc (.cells #[.int .i64 f0, .slice A4 n1 c4, .int .i64 (p : Nat), .int .i64 f3] 45)).drew := ⟨_, rfl⟩
       have HB2 : Hid (Below W1.heap.size W1 W2) := Lib.hid (by rw [hW2]; exact below_drew1 ((Below.refl _ _).alloc (Nat.le_refl _) _))
       have hTb : W2.heap[W1.heap.size]? = some (.cells #[.int .i64 f0, .slice A4 n1 c4, .int .i64 (p : Nat), .int .i64 f3] 45 (0, 0)) := by rw [hW2]; exact World.alloc_heap_new W1 _
       rw [hsz1] at hTb
       rw [← hW2]
       have e2 : W1.cell? ⟨wr.heap.size, 2, none⟩ = some (.bool bo) := (blk_cell HEB.out 2).trans (by simp)
       have HB12 := Lib.hid (HB11.out.trans (HB2.out.mono HB11.out.size))
       have HCA2 := Lib.hid (HCA1.out.below HB2.out)
       have HK2 := Lib.hid (keep_trans HK1.out (keep_below w1.heap.size HB2.out))
       replace e1 := below_has HB2.out e1
       replace e2 := below_has HB2.out e2
       have b0 : W2.cell? ⟨wr.heap.size + 1, 0, none⟩ = some (.int .i64 f0) := (blk_cell hTb 0).trans (by simp)
       have b1 : W2.cell? ⟨wr.heap.size + 1, 1, none⟩ = some (.slice A4 n1 c4) := (blk_cell hTb 1).trans (by simp)
       have b2 : W2.cell? ⟨wr.heap.size + 1, 2, none⟩ = some (.int .i64 (p : Nat)) := (blk_cell hTb 2).trans (by simp)
       have b3 : W2.cell? ⟨wr.heap.size + 1, 3, none⟩ = some (.int .i64 f3) := (blk_cell hTb 3).trans (by simp)
       clear hW2 hTb HKEEP hx0 hx1 hx2 hx3 cC HEB HCA1 HK1 hsz1
       cases bo
       ·
        rw [HSG.out, if_neg (by simp)] at HSN2
        rw [HDS.out, if_neg (by simp)] at HDN
        obtain ⟨Ag', cg', An, cn, Ao, co, vb, va, h1, h2, h3, _⟩ := HG1.out.below HB12.out
        have cN := blk_cell h1 1
        simp at cN
        obtain ⟨adn, rfl, cn1⟩ := at_set h3 i (by rw [HNL.out]; exact hig)
        rw [HNL.out] at cN
        have hn16 := HNS.out i
        rw [Bool.false_or] at HOE
        generalize ns.getD i 0 = nd at cn1 hn16 HOE
        have hbd : bits BinOp.andNot IntKind.u16 (nd : Int) (dn : Int) = ((diff nd dn : Nat) : Int) := bits_andNot_u16 _ _ hn16
        clear HSG HDS h1 h2 h3
        by_cases hdf : diff nd dn = 0
        ·
         have hdz : (((diff nd dn : Nat) : Int) != 0) = false := by rw [hdf]; rfl
         rw [decide_eq_true hdf, Bool.true_and] at HOE
         have HTK := Lib.hid (fun W hW => takes_calls w1.heap.size ct f0 (.slice A4 n1 c4) p f3 A1 c1 rm wk hp3 ⟨by omega, by omega⟩ HCS.out HRM.out W (HCA2.out.below hW) (Kd.C_below HR1.out (HB1.out.trans ((HB12.out.trans (hW.mono HB12.out.size)).mono HB1.out.size))))
         have HB5 : ∀ {w5 : World}, Below w1.heap.size W2.drew w5 → Below w1.heap.size W2 w5 := fun h => (Below.refl _ _).drew.trans h
         clear hdf
         generalize diff nd dn = dd at hbd hdz
         cases hcan : ct.can p f3 rm wk
         ·
          rw [hcan] at HTK HOE
          have HFL2 : Hid (stN g rm wk st = false) := Lib.hid (by rw [HE2.out]; exact all_not_at HOE.out hjl)
          go_upto_region 19 with (fail)
          go_still_tail 15, mixed
          repeat still_step
          try refine wpStill_nil ?_
          change wpList _ _ _ _ _ W2.drew
          go_wp2_with (go_at_call 52; refine (HTK.out _ (Below.refl _ _).drew).mono ?_; rintro e w5 ⟨rfl, hC5, hK5, hB5⟩)
          go_ret2
          exact .inr ⟨HFL2.out, rfl, HB1.out.trans ((HB12.out.trans (HB5 hB5)).mono HB1.out.size)⟩
         ·
          rw [hcan] at HTK HOE
          have HQ2 : Hid (∀ q, q < j + 1 → okE g ns rm wk (cl.take q) (rdEv cl q) = true) := Lib.hid (fun q hq => by
           by_cases e : q = j
           ·
            rw [e]; exact HOE.out
           ·
            exact HQ.out q (by omega))
          go_upto_region 19 with (fail)
          go_still_tail 15, mixed
          repeat still_step
          try refine wpStill_nil ?_
          change wpList _ _ _ _ _ W2.drew
          go_wp2_with (go_at_call 52; refine (HTK.out _ (Below.refl _ _).drew).mono ?_; rintro e w5 ⟨rfl, hC5, hK5, hB5⟩)
          replace hC5 : CAt w5 w1.heap.size (ct.add p f3 1) := by simpa using hC5
          go_roundw
          case rel => exact ⟨j + 1, by omega, by go_num, by rw [HDN.out], HQ2, by rw [HSN2.out]; exact hC5, keep_trans HK2.out ((keep_below w1.heap.size (Below.refl _ _).drew).trans hK5 (.inl rfl)), HB12.out.trans (HB5 hB5)⟩
          case measure => simp [intOf]; omega
        ·
         have hdz : (((diff nd dn : Nat) : Int) != 0) = true := bne_iff_ne.2 (by omega)
         rw [decide_eq_false hdf, Bool.false_and] at HOE
         have HFL2 : Hid (stN g rm wk st = false) := Lib.hid (by rw [HE2.out]; exact all_not_at HOE.out hjl)
         clear hdf
         generalize diff nd dn = dd at hbd hdz
         go_upto_region 19 with (fail)
         go_quiet (fail)
         go_wp2
         go_ret2
         exact .inr ⟨HFL2.out, rfl, HB1.out.trans (((pw_below_drewN HB12.out _)).mono HB1.out.size)⟩
       ·
        have HOE2 : Hid (okE g ns rm wk (cl.take j) (rdEv cl j) = true) := Lib.hid (by rw [HOE.out]; rfl)
        have HQ2 : Hid (∀ q, q < j + 1 → okE g ns rm wk (cl.take q) (rdEv cl q) = true) := Lib.hid (fun q hq => by
         by_cases e : q = j
         ·
          rw [e]; exact HOE2.out
         ·
          exact HQ.out q (by omega))
        have HADD := Lib.hid (add_calls w1.heap.size ct f0 (.slice A4 n1 c4) p f3 (-1) hp3 ⟨by omega, by omega⟩ (.inr rfl) HCS.out W2 HCA2.out)
        rw [HSG.out, if_pos rfl] at HSN2
        rw [HDS.out, if_pos rfl] at HDN
        clear HOE HOE2 HSG HDS
        go_wp2_with (first | (go_at_call 51; refine HADD.out.mono ?_; rintro e w5 ⟨rfl, hC5, hK5, hB5⟩; have e5 := kept_cell hK5 e1 (Nat.ne_of_gt hbr)) | (go_at_call 33; refine (with_calls dn i hd16 hi16 _).mono ?_; rintro e w6 ⟨rfl, rfl⟩))
        go_roundw
        case rel => exact ⟨j + 1, by omega, by go_num, by rw [HDN.out], HQ2, by rw [HSN2.out]; exact hC5, keep_trans HK2.out hK5, HB12.out.trans hB5⟩
        case measure => simp [intOf]; omega
      ·
       obtain rfl : j = cl.length := by omega
       have hjj : decide ((cl.length : Int) < (cl.length : Int)) = false := decide_eq_false (by omega)
       have HTR : Hid (stN g rm wk st = true) := Lib.hid (by
        rw [HE2.out]
        unfold okAllB
        rw [List.all_eq_true]
        exact fun q hq => HQ.out q (List.mem_range.1 hq))
       go_wp2
       go_ret2
       exact .inl ⟨HTR.out, C, ns, rfl, HGR.out, HG1.out.below hB, HB1.out.trans (hB.mono HB1.out.size)⟩
  ·
   have HF : Hid (stN g rm wk st = false) := Lib.hid (by
    unfold stN
    rw [hg]
    show (placeB rm wk && (decide (st.length = g.length) && (allInB st 0 200 && startsB g ns rm wk st))) = _
    rw [decide_eq_false h4, Bool.false_and, Bool.and_false])
   have d4 : ((st.length : Int) != (g.length : Int)) = true := bne_iff_ne.2 (by omega)
   clear hr hr1 hr2 hT hg hp h4
   go_enter Tryd.func41, Tryd.ntmps41
   go_wp2_with (go_at_call 38; refine HP.out.mono ?_; rintro e w1 ⟨C, rfl, hG1, hB1⟩)
   go_ret2
   exact .inr ⟨HF.out, rfl, hB1⟩
 ·
  have HF : Hid (stN g rm wk st = false) := Lib.hid (by
   unfold stN
   cases hg : graphN g with
   | none => rfl
   | some ns =>
    show (placeB rm wk && (decide (st.length = g.length) && (allInB st 0 200 && startsB g ns rm wk st))) = _
    cases hpb : placeB rm wk with
    | false => rfl
    | true => exact absurd ⟨ns, hg, hpb⟩ hp)
  have HP := Lib.hid (placeIn_no A c g A1 c1 rm wk (fun ns hg => by
   cases hpb : placeB rm wk with
   | false => rfl
   | true => exact absurd ⟨ns, hg, hpb⟩ hp) w hr hT hr1)
  clear hp hr hr1 hr2 hT
  go_enter Tryd.func41, Tryd.ntmps41
  go_wp2_with (go_at_call 38; refine HP.out.mono ?_; rintro e w1 ⟨rfl, hB1⟩)
  go_ret2
  exact .inr ⟨HF.out, rfl, hB1⟩
end Go.Proofs.YtkljcdghbefceaaDoor
