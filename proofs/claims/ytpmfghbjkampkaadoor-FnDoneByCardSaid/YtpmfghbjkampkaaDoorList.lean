/- (set).list: the numbers of a set, ascending, in memory of its own. -/
import Derived.Test.YtpmfghbjkampkaaDoorBase
namespace Go.Proofs.YtpmfghbjkampkaaDoor
set_option linter.unusedVariables false
set_option linter.unusedSimpArgs false
open Go.RowKit Go.Shelf Bits
open Go.Proofs.YtpmfghbjkampkaaDoorW.PrintWords Go.Proofs.YtpmfghbjkampkaaDoorW.PrintLast Go.Proofs.YtpmfghbjkampkaaDoorW.PrintMore
attribute [local go_sem] Oper.semAt_some
def els (s : Nat) : List Int := (elems s).map Int.ofNat
theorem els_of {s : Nat} {ys : List (El s)} (h : ys.map (·.1) = elems s) : ys.map (fun x => Int.ofNat x.1) = els s := by
 have := congrArg (List.map Int.ofNat) h
 rwa [List.map_map] at this
theorem len_of {s : Nat} {ys : List (El s)} (h : ys.map (·.1) = elems s) : ys.length = (els s).length := by
 have := congrArg List.length h
 simpa [els] using this
theorem els_length (s : Nat) : (els s).length ≤ 16 := by have := elems_length s; simpa [els] using this
set_option maxRecDepth 100000 in
set_option maxHeartbeats 2000000 in
theorem list_calls (s : Nat) (hs : s < 65536) (w : World) (hT : Tab w) :
  Calls Tryd.prog 61 #[.int .u16 s] w fun e W' => ∃ v, e = .returned v ∧ Kd.R (Kd.int .i64) 3 W' w.heap.size (fun _ => True) v (els s) ∧ Below w.heap.size w W' := by
 obtain ⟨i0, hi, hz0, hz1, hz2⟩ := info_parts infoInt
 have hmk : ∀ w, (Instr.makeSlice 23 (Value.int IntKind.i64 0) (Value.int IntKind.i64 8)).run Tryd.prog w = .ok (.slice (some ⟨w.heap.size, 0, none⟩) 0 8) (w.alloc (.cells #[.int .i64 0, .int .i64 0, .int .i64 0, .int .i64 0, .int .i64 0, .int .i64 0, .int .i64 0, .int .i64 0] 3)) := fun _ => by kernel_rfl
 refine calls_of_wp_marks Tryd.func61 rfl ?_
 simp only [Tryd.ntmps61, List.size_toArray, List.length_cons, List.length_nil, Nat.reduceAdd, Nat.reduceSub, Array.replicate_succ, Array.replicate_zero, List.push_toArray, List.append_toArray, List.nil_append, List.cons_append]
 go_wp2_with (go_at_call 59; refine (all_calls s _).mono ?_; rintro e w' ⟨rfl, rfl⟩)
 obtain ⟨W0, hW0⟩ : ∃ W0, W0 = (w.alloc (.cells #[.int .i64 0, .int .i64 0, .int .i64 0, .int .i64 0, .int .i64 0, .int .i64 0, .int .i64 0, .int .i64 0] 3)).alloc (.cells #[.slice (some ⟨w.heap.size, 0, none⟩) 0 8] 23) := ⟨_, rfl⟩
 have hB0 : Below w.heap.size w W0 := by rw [hW0]; exact ((Below.refl _ w).alloc (Nat.le_refl _) _).alloc (by simp) _
 have hz0' : W0.heap.size = w.heap.size + 1 + 1 := by rw [hW0]; simp
 have hO0 : W0.ownsRow w.heap.size 3 1 (.slice (some ⟨w.heap.size, 0, none⟩) 0 8) 0 [] := by rw [hW0]; exact (World.ownsRow_made (base := w.heap.size) w _ 8 (Nat.le_refl _) (by simp [maxLen]) rfl).alloc _
 have hb0 : Boxed W0 (w.heap.size + 1) 23 (.slice (some ⟨w.heap.size, 0, none⟩) 0 8) := by rw [hW0]; have := Boxed.new (w.alloc (.cells #[.int .i64 0, .int .i64 0, .int .i64 0, .int .i64 0, .int .i64 0, .int .i64 0, .int .i64 0, .int .i64 0] 3)) 23 (.slice (some ⟨w.heap.size, 0, none⟩) 0 8); rwa [World.size_alloc] at this
 rw [← hW0]
 clear hW0
 have htl := hT.lt
 have hT0 := hT.keep htl hB0
 have hBox := Boxed.new W0 80 (.int .u16 s)
 rw [hz0'] at hBox
 refine wp_rangeSet1 s (w.heap.size + 1 + 1) w.heap.size hs rfl (by simp [hz0']) hBox.cell (hT0.keep hT0.lt ((Below.refl _ _).alloc (Nat.le_refl _) _)) (by simp [hz0']; omega) htl
  (fun pre W => (∃ v, Boxed W (w.heap.size + 1) 23 v ∧ W.ownsRow w.heap.size 3 1 v pre.length (nums .i64 (pre.map fun x => Int.ofNat x.1)) ∧ True) ∧ Below w.heap.size w W) (fun _ _ _ => False)
  (OwnFrom.and (Own.from (holdsRow_own w.heap.size (w.heap.size + 1) 23 3 1 (fun pre : List (El s) => pre.length) (fun pre => nums .i64 (pre.map fun x => Int.ofNat x.1)) (fun _ _ => True)) _) (ownFrom_below (Nat.le_refl _) (by simp [hz0']; omega)))
  (fun _ _ _ _ _ h _ _ => h)
  ⟨⟨_, hb0.alloc _, hO0.alloc _, trivial⟩, hB0.alloc hB0.size _⟩
  (fun x => { tmps := #[.int .u16 s, undef, .slice none 0 0, .pointer (some ⟨w.heap.size + 1, 0, none⟩), .int .i64 (x.1 : Nat), .slice (some ⟨w.heap.size, 0, none⟩) 0 8, .int .u16 s, .func (.func 98) #[] #[.pointer (some ⟨w.heap.size + 1 + 1, 0, none⟩)], .int .i64 (x.1 : Nat), undef, undef, undef, undef, undef, undef, undef], defers := [] }) ?assign ?body ?done ?stop
 case assign =>
  intro l x W K hK
  gi_wp2
  exact hK
 case body =>
  rintro l pre x W ⟨⟨v, hv, hrow, -⟩, hB⟩ hlt
  have hc := hv.cell
  have hel := elems_length s
  gi_wp2_with (gi_at_builtin; refine wpListIn_append_own _ rfl _ _ 23 rfl w.heap.size 3 i0 (.int .i64 0) 1 8 Tryd.underlying23 hi hz0 hz1 hz2 rfl (by decide) _ _ _ rfl (hrow.alloc _) ⟨W.heap.size, 0, none⟩ 1 1 [.int .i64 (x.1 : Nat)] rfl rfl (cell_one_new _ _ _) (by simp [Value.oneCell']) (by simp only [maxLen]; omega) (by omega) (by have := hB.size; simp; omega) ?_; intro v' w1 hown' hgrow _; obtain ⟨g', cap', rfl⟩ := ownsRow_succ hown'; obtain ⟨hv1, hv2, hr2, hk2, hb2⟩ := hv.appended (by decide) hrow hB.size (by omega) hown' hgrow; have hc1 := hv1.cell; have hf1 := hv1.frozen)
  exact ⟨hk2.from _, hb2, ⟨_, hv2, by simpa [nums] using hr2, trivial⟩, hB.trans hb2⟩
 case stop =>
  rintro D c pre W _ _ h _
  exact h.elim
 case done =>
  rintro D ys W hD hys ⟨⟨v, hv, hrow, -⟩, hB⟩ hK
  have hc := hv.cell
  rw [els_of hys, len_of hys] at hrow
  have hR : Kd.R (Kd.int .i64) 3 W w.heap.size (fun _ => True) v (els s) := Kd.R_of_own hrow (fun _ _ => trivial)
  obtain ⟨A, c, rfl, hlc, hC⟩ := Kd.R_reads hR
  have hel := els_length s
  have hBW := hB.size
  have hvl := hv.lt
  go_wp2_with (at_builtin; refine Kd.R_append_row (Value.int .i64) (0 : Int) (h1 := fun _ => rfl) (w0 := w) w.heap.size rfl _ _ 23 3 (.int .i64 0) 8 rfl Tryd.underlying23 infoInt rfl (by decide) _ [] (els s) _ _ _ (fun _ => True) rfl rfl (fun _ _ => trivial) ?c1 ?c2 ?c3 ?c4 ?c5 ?_; (case c1 => exact Kd.R_of_own (World.ownsRow_lit (base := w.heap.size) (size := 1) W #[] 0 hB.size (by simp [maxLen]) rfl) (fun _ _ => trivial)); (case c2 => exact Kd.C_below hC ((Below.refl _ _).alloc (Nat.le_refl _) _)); (case c3 => exact hB.alloc hB.size _); (case c4 => (have := hB.size; simp; omega)); (case c5 => (simp; omega)); intro v1 w1 hR1 hB1 hg1 _)
  rw [List.nil_append] at hR1
  have hR2 : Kd.R (Kd.int .i64) 3 w1 w.heap.size (fun _ => True) v1 (els s) := hR1
  have hDW : D < W.heap.size := (Array.getElem?_eq_some_iff.1 hK).1
  have hK1 : w1.heap[D]? = some (.deferred (some [])) := (hg1.block D (by simp; omega) (fun e => by have e2 : D = W.heap.size := Option.some.inj e; omega)).trans ((Below.heap_alloc _ _ _ hDW).trans hK)
  refine leave_one hK1 (results_tmp rfl _ _ _) ⟨v1, rfl, R_grownNC hR2 (grownBy_putObj' _ D (.deferred none)) (fun r e => by cases e; exact ⟨_, hK1, rfl⟩), ?_⟩
  exact hB1.trans (belowK_b (w := w) (Nat.le_refl _) w1 D _ _ (by simp [hz0'] at hD; omega) hK1 rfl rfl)
end Go.Proofs.YtpmfghbjkampkaaDoor
