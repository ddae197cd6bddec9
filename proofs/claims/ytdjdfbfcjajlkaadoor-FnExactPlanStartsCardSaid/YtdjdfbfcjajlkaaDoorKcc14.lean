/- Parts of the proof, laid as one text by a program of mine. -/
import Derived.Test.YtdjdfbfcjajlkaaDoorKcc2
import Derived.Test.YtdjdfbfcjajlkaaDoorKcc3
import Derived.Deep.RegionHeld3
import Derived.Test.YtdjdfbfcjajlkaaDoorKcc4
import Derived.Test.YtdjdfbfcjajlkaaDoorKcc6
import Derived.Test.YtdjdfbfcjajlkaaDoorKcc12
import Derived.Test.YtdjdfbfcjajlkaaDoorKcc11
namespace Go.Proofs.YtdjdfbfcjajlkaaDoor
set_option linter.unusedVariables false
set_option linter.unusedSimpArgs false
open Go.RowKit Go.Shelf Bits
open Go.Proofs.YtdjdfbfcjajlkaaDoorW.PrintWords Go.Proofs.YtdjdfbfcjajlkaaDoorW.PrintLast Go.Proofs.YtdjdfbfcjajlkaaDoorW.PrintMore
attribute [local go_sem] Oper.semAt_some
def els (s : Nat) : List Int := (elems s).map Int.ofNat
theorem els_of {s : Nat} {ys : List (El s)} (h : ys.map (·.1) = elems s) : ys.map (fun x => Int.ofNat x.1) = els s := by
 have := congrArg (List.map Int.ofNat) h
 rwa [List.map_map] at this
theorem len_of {s : Nat} {ys : List (El s)} (h : ys.map (·.1) = elems s) : ys.length = (els s).length := by
 have := congrArg List.length h
 simpa [els] using this
theorem els_length (s : Nat) : (els s).length ≤ 16 := by have := elems_length s; simpa [els] using this
set_option maxRecDepth 100000 in
set_option maxHeartbeats 2000000 in
theorem list_calls (s : Nat) (hs : s < 65536) (w : World) (hT : Tab w) :
  Calls Tryd.prog 63 #[.int .u16 s] w fun e W' => ∃ v, e = .returned v ∧ Kd.R (Kd.int .i64) 3 W' w.heap.size (fun _ => True) v (els s) ∧ Below w.heap.size w W' := by
 obtain ⟨i0, hi, hz0, hz1, hz2⟩ := info_parts infoInt
 have hmk : ∀ w, (Instr.makeSlice 23 (Value.int IntKind.i64 0) (Value.int IntKind.i64 8)).run Tryd.prog w = .ok (.slice (some ⟨w.heap.size, 0, none⟩) 0 8) (w.alloc (.cells #[.int .i64 0, .int .i64 0, .int .i64 0, .int .i64 0, .int .i64 0, .int .i64 0, .int .i64 0, .int .i64 0] 3)) := fun _ => by kernel_rfl
 refine calls_of_wp_marks Tryd.func63 rfl ?_
 simp only [Tryd.ntmps63, List.size_toArray, List.length_cons, List.length_nil, Nat.reduceAdd, Nat.reduceSub, Array.replicate_succ, Array.replicate_zero, List.push_toArray, List.append_toArray, List.nil_append, List.cons_append]
 go_wp2_with (go_at_call 89; refine (all_calls s _).mono ?_; rintro e w' ⟨rfl, rfl⟩)
 obtain ⟨W0, hW0⟩ : ∃ W0, W0 = (w.alloc (.cells #[.int .i64 0, .int .i64 0, .int .i64 0, .int .i64 0, .int .i64 0, .int .i64 0, .int .i64 0, .int .i64 0] 3)).alloc (.cells #[.slice (some ⟨w.heap.size, 0, none⟩) 0 8] 23) := ⟨_, rfl⟩
 have hB0 : Below w.heap.size w W0 := by rw [hW0]; exact ((Below.refl _ w).alloc (Nat.le_refl _) _).alloc (by simp) _
 have hz0' : W0.heap.size = w.heap.size + 1 + 1 := by rw [hW0]; simp
 have hO0 : W0.ownsRow w.heap.size 3 1 (.slice (some ⟨w.heap.size, 0, none⟩) 0 8) 0 [] := by rw [hW0]; exact (World.ownsRow_made (base := w.heap.size) w _ 8 (Nat.le_refl _) (by simp [maxLen]) rfl).alloc _
 have hb0 : Boxed W0 (w.heap.size + 1) 23 (.slice (some ⟨w.heap.size, 0, none⟩) 0 8) := by rw [hW0]; have := Boxed.new (w.alloc (.cells #[.int .i64 0, .int .i64 0, .int .i64 0, .int .i64 0, .int .i64 0, .int .i64 0, .int .i64 0, .int .i64 0] 3)) 23 (.slice (some ⟨w.heap.size, 0, none⟩) 0 8); rwa [World.size_alloc] at this
 rw [← hW0]
 clear hW0
 have htl := hT.lt
 have hT0 := hT.keep htl hB0
 have hBox := Boxed.new W0 69 (.int .u16 s)
 rw [hz0'] at hBox
 refine wp_rangeSet1 s (w.heap.size + 1 + 1) w.heap.size hs rfl (by simp [hz0']) hBox.cell (hT0.keep hT0.lt ((Below.refl _ _).alloc (Nat.le_refl _) _)) (by simp [hz0']; omega) htl
  (fun pre W => (∃ v, Boxed W (w.heap.size + 1) 23 v ∧ W.ownsRow w.heap.size 3 1 v pre.length (nums .i64 (pre.map fun x => Int.ofNat x.1)) ∧ True) ∧ Below w.heap.size w W) (fun _ _ _ => False)
  (OwnFrom.and (Own.from (holdsRow_own w.heap.size (w.heap.size + 1) 23 3 1 (fun pre : List (El s) => pre.length) (fun pre => nums .i64 (pre.map fun x => Int.ofNat x.1)) (fun _ _ => True)) _) (ownFrom_below (Nat.le_refl _) (by simp [hz0']; omega)))
  (fun _ _ _ _ _ h _ _ => h)
  ⟨⟨_, hb0.alloc _, hO0.alloc _, trivial⟩, hB0.alloc hB0.size _⟩
  (fun x => { tmps := #[.int .u16 s, undef, .slice none 0 0, .pointer (some ⟨w.heap.size + 1, 0, none⟩), .int .i64 (x.1 : Nat), .slice (some ⟨w.heap.size, 0, none⟩) 0 8, .int .u16 s, .func (.func 117) #[] #[.pointer (some ⟨w.heap.size + 1 + 1, 0, none⟩)], .int .i64 (x.1 : Nat), undef, undef, undef, undef, undef, undef, undef], defers := [] }) ?assign ?body ?done ?stop
 case assign =>
  intro l x W K hK
  gi_wp2
  exact hK
 case body =>
  rintro l pre x W ⟨⟨v, hv, hrow, -⟩, hB⟩ hlt
  have hc := hv.cell
  have hel := elems_length s
  gi_wp2_with (gi_at_builtin; refine wpListIn_append_own _ rfl _ _ 23 rfl w.heap.size 3 i0 (.int .i64 0) 1 8 Tryd.underlying23 hi hz0 hz1 hz2 rfl (by decide) _ _ _ rfl (hrow.alloc _) ⟨W.heap.size, 0, none⟩ 1 1 [.int .i64 (x.1 : Nat)] rfl rfl (cell_one_new _ _ _) (by simp [Value.oneCell']) (by simp only [maxLen]; omega) (by omega) (by have := hB.size; simp; omega) ?_; intro v' w1 hown' hgrow _; obtain ⟨g', cap', rfl⟩ := ownsRow_succ hown'; obtain ⟨hv1, hv2, hr2, hk2, hb2⟩ := hv.appended (by decide) hrow hB.size (by omega) hown' hgrow; have hc1 := hv1.cell; have hf1 := hv1.frozen)
  exact ⟨hk2.from _, hb2, ⟨_, hv2, by simpa [nums] using hr2, trivial⟩, hB.trans hb2⟩
 case stop =>
  rintro D c pre W _ _ h _
  exact h.elim
 case done =>
  rintro D ys W hD hys ⟨⟨v, hv, hrow, -⟩, hB⟩ hK
  have hc := hv.cell
  rw [els_of hys, len_of hys] at hrow
  have hR : Kd.R (Kd.int .i64) 3 W w.heap.size (fun _ => True) v (els s) := Kd.R_of_own hrow (fun _ _ => trivial)
  obtain ⟨A, c, rfl, hlc, hC⟩ := Kd.R_reads hR
  have hel := els_length s
  have hBW := hB.size
  have hvl := hv.lt
  go_wp2_with (at_builtin; refine Kd.R_append_row (Value.int .i64) (0 : Int) (h1 := fun _ => rfl) (w0 := w) w.heap.size rfl _ _ 23 3 (.int .i64 0) 8 rfl Tryd.underlying23 infoInt rfl (by decide) _ [] (els s) _ _ _ (fun _ => True) rfl rfl (fun _ _ => trivial) ?c1 ?c2 ?c3 ?c4 ?c5 ?_; (case c1 => exact Kd.R_of_own (World.ownsRow_lit (base := w.heap.size) (size := 1) W #[] 0 hB.size (by simp [maxLen]) rfl) (fun _ _ => trivial)); (case c2 => exact Kd.C_below hC ((Below.refl _ _).alloc (Nat.le_refl _) _)); (case c3 => exact hB.alloc hB.size _); (case c4 => (have := hB.size; simp; omega)); (case c5 => (simp; omega)); intro v1 w1 hR1 hB1 hg1 _)
  rw [List.nil_append] at hR1
  have hR2 : Kd.R (Kd.int .i64) 3 w1 w.heap.size (fun _ => True) v1 (els s) := hR1
  have hDW : D < W.heap.size := (Array.getElem?_eq_some_iff.1 hK).1
  have hK1 : w1.heap[D]? = some (.deferred (some [])) := (hg1.block D (by simp; omega) (fun e => by have e2 : D = W.heap.size := Option.some.inj e; omega)).trans ((Below.heap_alloc _ _ _ hDW).trans hK)
  refine leave_one hK1 (results_tmp rfl _ _ _) ⟨v1, rfl, R_grownNC hR2 (grownBy_putObj' _ D (.deferred none)) (fun r e => by cases e; exact ⟨_, hK1, rfl⟩), ?_⟩
  exact hB1.trans (belowK_b (w := w) (Nat.le_refl _) w1 D _ _ (by simp [hz0'] at hD; omega) hK1 rfl rfl)
end Go.Proofs.YtdjdfbfcjajlkaaDoor

namespace Go.Proofs.YtdjdfbfcjajlkaaDoor
set_option linter.unusedVariables false
set_option linter.unusedSimpArgs false
open Go.RowKit Go.Shelf Bits
open Go.Proofs.YtdjdfbfcjajlkaaDoorW.PrintWords Go.Proofs.YtdjdfbfcjajlkaaDoorW.PrintLast Go.Proofs.YtdjdfbfcjajlkaaDoorW.PrintMore
end Go.Proofs.YtdjdfbfcjajlkaaDoor

namespace Go.Proofs.YtdjdfbfcjajlkaaDoor
set_option linter.unusedVariables false
set_option linter.unusedSimpArgs false
open Go.RowKit Go.Shelf Bits
open Go.Proofs.YtdjdfbfcjajlkaaDoorW.PrintWords Go.Proofs.YtdjdfbfcjajlkaaDoorW.PrintLast Go.Proofs.YtdjdfbfcjajlkaaDoorW.PrintMore
end Go.Proofs.YtdjdfbfcjajlkaaDoor

namespace Go.Proofs.YtdjdfbfcjajlkaaDoor
set_option linter.unusedVariables false
set_option linter.unusedSimpArgs false
open Go.RowKit Go.Shelf Bits
open Go.Proofs.YtdjdfbfcjajlkaaDoorW.PrintWords Go.Proofs.YtdjdfbfcjajlkaaDoorW.PrintLast Go.Proofs.YtdjdfbfcjajlkaaDoorW.PrintMore
def MInv (M : Mach) : Prop := ∀ i, 0 ≤ M.bg i ∧ M.bg i ≤ 200
theorem MInv.zero : MInv Mach.zero := fun _ => by simp [Mach.zero]
theorem stepM_some {g : List Tk} {ns : List Nat} {M M' : Mach} {e : Ev} (h : stepM g ns M e = some M') :
  evIn g e = true ∧ ((e.f2 = false ∧ mayBegin ns M e = true ∧ M' = M.begin e) ∨ (e.f2 = true ∧ mayEnd g M e = true ∧ M' = M.finish e)) := by
 unfold stepM at h
 split at h
 ·
  cases h
 ·
  rename_i h1
  refine ⟨by simpa using h1, ?_⟩
  split at h
  ·
   rename_i h2
   split at h
   ·
    cases h; exact Or.inl ⟨h2, by assumption, rfl⟩
   ·
    cases h
  ·
   rename_i h2
   split at h
   ·
    cases h; exact Or.inr ⟨by simpa using h2, by assumption, rfl⟩
   ·
    cases h
theorem evIn_num {g : List Tk} {e : Ev} (h : evIn g e = true) : inB e.f0 0 200 = true ∧ e.f1 = ((e.i : Nat) : Int) ∧ e.i < g.length := by
 unfold evIn at h
 rw [Bool.and_eq_true] at h
 have h2 := inB_true.1 h.2
 unfold Ev.i
 refine ⟨h.1, ?_, ?_⟩ <;> omega
theorem MInv.step {g : List Tk} {ns : List Nat} {M M' : Mach} {e : Ev} (hM : MInv M) (h : stepM g ns M e = some M') : MInv M' := by
 obtain ⟨h1, ⟨_, _, rfl⟩ | ⟨_, _, rfl⟩⟩ := stepM_some h
 ·
  intro i
  simp only [Mach.begin]
  split
  ·
   exact inB_true.1 (evIn_num h1).1
  ·
   exact hM i
 ·
  exact fun i => hM i
section
variable (C h : Nat) (g : List Tk) (ns : List Nat) (M : Mach) (e : Ev) (w : World) (hG : IsGraph w C g ns) (hgl : g.length ≤ 8) (hnl : ns.length = g.length) (hM : MAt h C M w)
 (hI : MInv M) (ht : ∀ i, 0 ≤ (rdTk g i).f0 ∧ (rdTk g i).f0 ≤ 20) (hx : ∀ i, ns.getD i 0 < 65536)
include hG hgl hnl hM hI ht hx
end
end Go.Proofs.YtdjdfbfcjajlkaaDoor

namespace Go.Proofs.YtdjdfbfcjajlkaaDoor
set_option linter.unusedVariables false
set_option linter.unusedSimpArgs false
open Go.RowKit Go.Shelf Bits
open Go.Proofs.YtdjdfbfcjajlkaaDoorW.PrintWords Go.Proofs.YtdjdfbfcjajlkaaDoorW.PrintLast Go.Proofs.YtdjdfbfcjajlkaaDoorW.PrintMore
def running (M : Mach) : Int := ((elems (diff M.b M.o)).length : Nat)
def inOrder (log : List Ev) (k : Nat) : Bool := !(decide (0 < k) && decide ((rdEv log (k - 1)).f0 > (rdEv log k).f0))
def lastOf (log : List Ev) (k : Nat) : Bool := decide (k + 1 = log.length) || decide ((rdEv log (k + 1)).f0 > (rdEv log k).f0)
def replayN (g : List Tk) (ns : List Nat) (log : List Ev) : Nat → Option (Mach × Int)
 | 0 => some (Mach.zero, 0)
 | k + 1 => (replayN g ns log k).bind fun p => if inOrder log k = false then none else (stepM g ns p.1 (rdEv log k)).map fun M => (M, if lastOf log k then max p.2 (running M) else p.2)
def ReplayPost (g : List Tk) (ns : List Nat) (log : List Ev) (w : World) (e : Ending) (w' : World) : Prop :=
 match replayN g ns log log.length with
 | some p => ∃ h C, e = .returned (.tuple #[.pointer (some ⟨h, 0, none⟩), .int .i64 p.2, .bool true]) ∧ MAt h C p.1 w' ∧ IsGraph w' C g ns ∧ MInv p.1 ∧ Below w.heap.size w w'
 | none => e = .returned (.tuple #[.pointer none, .int .i64 0, .bool false]) ∧ Below w.heap.size w w'
theorem replayN_none {g : List Tk} {ns : List Nat} {log : List Ev} {k : Nat} (h : replayN g ns log k = none) : ∀ m, k ≤ m → replayN g ns log m = none := by
 intro m hm
 induction m with
 | zero =>
  have : k = 0 := by omega
  subst this; exact h
 | succ m ih =>
  rcases Nat.lt_or_ge m k with h1 | h1
  ·
   have : k = m + 1 := by omega
   subst this; exact h
  ·
   simp only [replayN, ih h1, Option.bind_none]
theorem ReplayPost.none {g : List Tk} {ns : List Nat} {log : List Ev} {w w' : World} {e : Ending} {k : Nat} (h : replayN g ns log k = .none) (hk : k ≤ log.length)
  (he : e = .returned (.tuple #[.pointer .none, .int .i64 0, .bool false])) (hB : Below w.heap.size w w') : ReplayPost g ns log w e w' := by
 unfold ReplayPost
 rw [replayN_none h _ hk]
 exact ⟨he, hB⟩
theorem replayN_order {g : List Tk} {ns : List Nat} {log : List Ev} {k : Nat} {p : Mach × Int} (h : replayN g ns log k = some p) (ho : inOrder log k = false) : replayN g ns log (k + 1) = .none := by
 simp only [replayN, h, Option.bind_some, if_pos ho]
theorem replayN_none1 {g : List Tk} {ns : List Nat} {log : List Ev} {k : Nat} {M : Mach} {most : Int} (h : replayN g ns log k = some (M, most)) (ho : inOrder log k = true) (hs : stepM g ns M (rdEv log k) = .none) :
  replayN g ns log (k + 1) = .none := by
 have ho' : ¬ (inOrder log k = false) := by rw [ho]; simp
 simp only [replayN, h, Option.bind_some, if_neg ho', hs, Option.map_none]
theorem replayN_some1 {g : List Tk} {ns : List Nat} {log : List Ev} {k : Nat} {M M' : Mach} {most : Int} (h : replayN g ns log k = some (M, most)) (ho : inOrder log k = true) (hs : stepM g ns M (rdEv log k) = some M') :
  replayN g ns log (k + 1) = some (M', if lastOf log k then max most (running M') else most) := by
 have ho' : ¬ (inOrder log k = false) := by rw [ho]; simp
 simp only [replayN, h, Option.bind_some, if_neg ho', hs, Option.map_some]
theorem max_run (M : Mach) (most : Int) : max most (running M) = if most < (((els (diff M.b M.o)).length : Nat) : Int) then (((els (diff M.b M.o)).length : Nat) : Int) else most := by
 have e : running M = (((els (diff M.b M.o)).length : Nat) : Int) := by unfold running els; rw [List.length_map]
 rw [e]
 split <;> omega
theorem max_bound {most : Int} (h : 0 ≤ most ∧ most ≤ 16) (M : Mach) : 0 ≤ max most (running M) ∧ max most (running M) ≤ 16 := by
 have := els_length (diff M.b M.o)
 have e : running M = (((els (diff M.b M.o)).length : Nat) : Int) := by unfold running els; rw [List.length_map]
 rw [e]
 omega
end Go.Proofs.YtdjdfbfcjajlkaaDoor

namespace Go.Proofs.YtdjdfbfcjajlkaaDoor
set_option linter.unusedVariables false
set_option linter.unusedSimpArgs false
open Go.RowKit Go.Shelf Bits
open Go.Proofs.YtdjdfbfcjajlkaaDoorW.PrintWords Go.Proofs.YtdjdfbfcjajlkaaDoorW.PrintLast Go.Proofs.YtdjdfbfcjajlkaaDoorW.PrintMore
def replayB (g : List Tk) (log : List Ev) : Option (Mach × Int) :=
 (graphN g).bind fun ns => if log.length ≤ 16 then replayN g ns log log.length else none
def ReplayAll (g : List Tk) (log : List Ev) (w : World) (e : Ending) (w' : World) : Prop :=
 match replayB g log with
 | some p => ∃ h C ns, graphN g = some ns ∧ e = .returned (.tuple #[.pointer (some ⟨h, 0, none⟩), .int .i64 p.2, .bool true]) ∧ MAt h C p.1 w' ∧ IsGraph w' C g ns ∧ MInv p.1 ∧ Below w.heap.size w w'
 | none => e = .returned (.tuple #[.pointer none, .int .i64 0, .bool false]) ∧ Below w.heap.size w w'
end Go.Proofs.YtdjdfbfcjajlkaaDoor

namespace Go.Proofs.YtdjdfbfcjajlkaaDoor
set_option linter.unusedVariables false
set_option linter.unusedSimpArgs false
open Go.RowKit Go.Shelf Bits
theorem setOfL_bits (n : Int) : ∀ (l : List Int) (last : Int) (s r : Nat), -1 ≤ last → setOfL n l last s = some r → ∀ j, r.testBit j = (s.testBit j || decide ((j : Int) ∈ l))
 | [], last, s, r, _, h, j => by
  simp only [setOfL, Option.some.injEq] at h
  subst h
  simp
 | i :: l, last, s, r, hl, h, j => by
  rw [setOfL_cons] at h
  split at h
  ·
   rename_i hc
   rw [setOfL_bits n l i _ r (by omega) h j, or_bit]
   have e : decide (i.toNat = j) = decide ((j : Int) = i) := decide_eq_decide.2 (by omega)
   rw [e]
   simp only [List.mem_cons, Bool.or_assoc, Bool.decide_or]
  ·
   cases h
theorem setOfN_bits {l : List Int} {n s : Nat} (h : setOfN l n = some s) (j : Nat) : s.testBit j = decide ((j : Int) ∈ l) := by
 rw [setOfL_bits n l _ _ _ (by omega) h j]
 simp
theorem setOfL_mem (n : Int) : ∀ (l : List Int) (last : Int) (s r : Nat), -1 ≤ last → setOfL n l last s = some r → ∀ x ∈ l, 0 ≤ x ∧ x ≤ n - 1
 | [], _, _, _, _, _, x, hx => by cases hx
 | i :: l, last, s, r, hl, h, x, hx => by
  rw [setOfL_cons] at h
  split at h
  ·
   rename_i hc
   rcases List.mem_cons.1 hx with rfl | hx
   ·
    omega
   ·
    exact setOfL_mem n l i _ r (by omega) h x hx
  ·
   cases h
structure Link (g : List Tk) (pre : List Ev) (M : Mach) : Prop where
 b : ∀ i, M.b.testBit i = decide (0 ≤ begunL (i : Nat) pre (-1))
 q : ∀ i, M.b.testBit i = true → M.bg i = begunL (i : Nat) pre (-1)
 o : ∀ i, M.o.testBit i = decide (((i : Nat) : Int) ∈ overL pre)
theorem Link.zero (g : List Tk) : Link g [] Mach.zero := ⟨fun i => by simp [Mach.zero, begunL], fun i h => by simp [Mach.zero] at h, fun i => by simp [Mach.zero, overL]⟩
theorem mayBegin_fit {g : List Tk} {ns : List Nat} {pre : List Ev} {M : Mach} {e : Ev} (hg : graphN g = some ns) (hL : Link g pre M) (he : evIn g e = true) (h2 : e.f2 = false) : mayBegin ns M e = evFit g pre e := by
 obtain ⟨h0, h1, hi⟩ := evIn_num he
 have hs := ((graphN_all hg).2.2 e.i hi).2
 unfold mayBegin evFit
 rw [h2]
 simp only [Bool.false_eq_true, if_false]
 rw [h1, Int.toNat_natCast, hL.b]
 congr 1
 ·
  by_cases hx : 0 ≤ begunL ((e.i : Nat) : Int) pre (-1)
  ·
   rw [decide_eq_true hx, decide_eq_false (by omega)]; rfl
  ·
   rw [decide_eq_false hx, decide_eq_true (by omega)]; rfl
 ·
  unfold allDoneB
  rw [Bool.eq_iff_iff, decide_eq_true_iff, diff_zero, List.all_eq_true]
  constructor
  ·
   intro h x hx
   obtain ⟨hx0, hx1⟩ := setOfL_mem _ _ _ _ _ (by omega) hs x hx
   have hxe : x = ((x.toNat : Nat) : Int) := by omega
   have := h x.toNat (by rw [setOfN_bits hs]; exact decide_eq_true (by rw [← hxe]; exact hx))
   rw [hL.o, ← hxe] at this
   exact this
  ·
   intro h j hj
   rw [setOfN_bits hs] at hj
   rw [hL.o]
   exact h _ (of_decide_eq_true hj)
theorem mayEnd_fit {g : List Tk} {pre : List Ev} {M : Mach} {e : Ev} (hL : Link g pre M) (he : evIn g e = true) (h2 : e.f2 = true) : mayEnd g M e = evFit g pre e := by
 obtain ⟨h0, h1, hi⟩ := evIn_num he
 unfold mayEnd evFit
 rw [h2]
 simp only [if_true]
 rw [h1, Int.toNat_natCast]
 cases hb : M.b.testBit e.i
 ·
  have := hL.b e.i
  rw [hb] at this
  rw [← this]; rfl
 ·
  have h3 := hL.b e.i
  rw [hb] at h3
  rw [← h3, hL.o, hL.q e.i hb, Bool.true_and, Bool.true_and]
theorem step_fit {g : List Tk} {ns : List Nat} {pre : List Ev} {M : Mach} {e : Ev} (hg : graphN g = some ns) (hL : Link g pre M) : (stepM g ns M e).isSome = (evIn g e && evFit g pre e) := by
 unfold stepM
 cases he : evIn g e
 ·
  rfl
 ·
  rw [if_neg (by simp), Bool.true_and]
  cases h2 : e.f2
  ·
   rw [if_pos rfl, ← mayBegin_fit hg hL he h2]
   cases mayBegin ns M e <;> rfl
  ·
   rw [if_neg (by simp), ← mayEnd_fit hL he h2]
   cases mayEnd g M e <;> rfl
theorem Link.step {g : List Tk} {ns : List Nat} {pre : List Ev} {M M' : Mach} {e : Ev} (hL : Link g pre M) (h : stepM g ns M e = some M') : Link g (pre ++ [e]) M' := by
 obtain ⟨he, ⟨h2, hm, rfl⟩ | ⟨h2, hm, rfl⟩⟩ := stepM_some h
 ·
  obtain ⟨h0, h1, hi⟩ := evIn_num he
  have h00 := (inB_true.1 h0).1
  refine ⟨fun i => ?_, fun i hb => ?_, fun i => ?_⟩
  ·
   rw [begunL_snoc, h2]
   simp only [Mach.begin, or_bit, Bool.false_eq_true, if_false]
   by_cases hie : e.f1 = (i : Int)
   ·
    rw [if_pos hie, decide_eq_true (show e.i = i by omega), Bool.or_true, decide_eq_true h00]
   ·
    rw [if_neg hie, decide_eq_false (show ¬ e.i = i by omega), Bool.or_false, hL.b]
  ·
   rw [begunL_snoc, h2]
   simp only [Mach.begin, or_bit, Bool.false_eq_true, if_false] at hb ⊢
   by_cases hie : e.f1 = (i : Int)
   ·
    rw [if_pos hie, if_pos (show i = e.i by omega)]
   ·
    rw [if_neg hie, if_neg (show ¬ i = e.i by omega)]
    rw [decide_eq_false (show ¬ e.i = i by omega), Bool.or_false] at hb
    exact hL.q i hb
  ·
   rw [overL_snoc, h2]
   simp only [Mach.begin, Bool.false_eq_true, if_false]
   exact hL.o i
 ·
  obtain ⟨h0, h1, hi⟩ := evIn_num he
  refine ⟨fun i => ?_, fun i hb => ?_, fun i => ?_⟩
  ·
   rw [begunL_snoc, h2]
   simp only [Mach.finish, if_true]
   exact hL.b i
  ·
   rw [begunL_snoc, h2]
   simp only [Mach.finish, if_true] at hb ⊢
   exact hL.q i hb
  ·
   rw [overL_snoc, h2]
   simp only [Mach.finish, or_bit, if_true, List.mem_append, List.mem_singleton, Bool.decide_or]
   rw [hL.o]
   congr 1
   exact decide_eq_decide.2 (by omega)
end Go.Proofs.YtdjdfbfcjajlkaaDoor
namespace Go.Proofs.YtdjdfbfcjajlkaaDoor
set_option linter.unusedVariables false
set_option linter.unusedSimpArgs false
open Go.RowKit Go.Shelf Bits
theorem eventOk_eq (g : List Tk) (log : List Ev) (k : Nat) : eventOkB g log k = (evIn g (rdEv log k) && inOrder log k && evFit g (log.take k) (rdEv log k)) := by
 unfold eventOkB evIn inOrder eventFitsB
 show (_ && (!(_ && decide ((rdEv log (k - 1)).f0 > (rdEv log k).f0))) && _ && _) = _
 generalize inB (rdEv log k).f0 0 200 = a
 generalize (!(decide (0 < k) && decide ((rdEv log (k - 1)).f0 > (rdEv log k).f0))) = b
 generalize inB (rdEv log k).f1 0 (g.length - 1) = c
 generalize evFit g (log.take k) (rdEv log k) = d
 cases a <;> cases b <;> cases c <;> cases d <;> rfl
theorem replayN_law {g : List Tk} {ns : List Nat} {log : List Ev} (hg : graphN g = some ns) : ∀ k, k ≤ log.length →
  ((∀ j, j < k → eventOkB g log j = true) ∧ ∃ p, replayN g ns log k = some p ∧ Link g (log.take k) p.1) ∨ ((∃ j, j < k ∧ eventOkB g log j = false) ∧ replayN g ns log k = none)
 | 0, _ => Or.inl ⟨fun j h => absurd h (Nat.not_lt_zero _), (Mach.zero, 0), rfl, Link.zero g⟩
 | k + 1, hk => by
  rcases replayN_law (log := log) hg k (by omega) with ⟨hall, ⟨M, most⟩, hp, hL⟩ | ⟨⟨j, hj, hf⟩, hn⟩
  ·
   have hsf := step_fit (e := rdEv log k) hg hL
   cases hio : inOrder log k
   ·
    refine Or.inr ⟨⟨k, Nat.lt_succ_self _, ?_⟩, replayN_order hp hio⟩
    rw [eventOk_eq, hio]
    simp
   ·
    cases hs : stepM g ns M (rdEv log k) with
    | none =>
     refine Or.inr ⟨⟨k, Nat.lt_succ_self _, ?_⟩, replayN_none1 hp hio hs⟩
     rw [hs] at hsf
     rw [eventOk_eq, hio, Bool.and_true]
     exact hsf.symm
    | some M' =>
     refine Or.inl ⟨fun j hj => ?_, _, replayN_some1 hp hio hs, ?_⟩
     ·
      rcases Nat.lt_succ_iff_lt_or_eq.1 hj with h | rfl
      ·
       exact hall j h
      ·
       rw [hs] at hsf
       rw [eventOk_eq, hio, Bool.and_true]
       exact hsf.symm
     ·
      rw [take_snocE (by omega)]
      exact hL.step hs
  ·
   exact Or.inr ⟨⟨j, by omega, hf⟩, replayN_none hn (k + 1) (by omega)⟩
theorem validLog_law {g : List Tk} {log : List Ev} (hgs : specValid g = (graphN g).isSome) : validLogB g log = (replayB g log).isSome := by
 unfold validLogB replayB
 rw [hgs]
 cases hg : graphN g with
 | none => rfl
 | some ns =>
  rw [Option.bind_some]
  by_cases hlen : log.length ≤ 16
  ·
   rw [if_pos hlen, decide_eq_true hlen]
   simp only [Option.isSome_some, Bool.true_and]
   rcases replayN_law (log := log) hg log.length (Nat.le_refl _) with ⟨hall, p, hp, _⟩ | ⟨⟨j, hj, hf⟩, hn⟩
   ·
    rw [hp, Option.isSome_some, List.all_eq_true]
    exact fun j hj => hall j (List.mem_range.1 hj)
   ·
    rw [hn, Option.isSome_none, List.all_eq_false]
    exact ⟨j, List.mem_range.2 hj, by rw [hf]; simp⟩
  ·
   rw [if_neg hlen, decide_eq_false hlen]
   simp
end Go.Proofs.YtdjdfbfcjajlkaaDoor
namespace Go.Proofs.YtdjdfbfcjajlkaaDoor
set_option linter.unusedVariables false
set_option linter.unusedSimpArgs false
open Go.RowKit Go.Shelf Bits
theorem setOfL_isSome (n : Int) : ∀ (l : List Int) (last : Int) (s : Nat), (setOfL n l last s).isSome = true ↔ (∀ j, j < l.length → last < l.getD j 0 ∧ l.getD j 0 ≤ n - 1) ∧ (∀ j, j + 1 < l.length → l.getD j 0 < l.getD (j + 1) 0)
 | [], last, s => by simp [setOfL]
 | i :: l, last, s => by
  rw [setOfL_cons]
  split
  ·
   rename_i hc
   rw [setOfL_isSome n l i]
   constructor
   ·
    rintro ⟨h1, h2⟩
    refine ⟨fun j hj => ?_, fun j hj => ?_⟩
    ·
     cases j with
     | zero => show last < i ∧ i ≤ n - 1; omega
     | succ j =>
      have := h1 j (by simpa using hj)
      show last < l.getD j 0 ∧ l.getD j 0 ≤ n - 1
      omega
    ·
     cases j with
     | zero => exact (h1 0 (by simpa using hj)).1
     | succ j => exact h2 j (by simpa using hj)
   ·
    rintro ⟨h1, h2⟩
    have chain : ∀ j, j < l.length → i < l.getD j 0 := by
     intro j
     induction j with
     | zero => exact fun hj => h2 0 (by simpa using hj)
     | succ j ih => exact fun hj => Int.lt_trans (ih (by omega)) (h2 (j + 1) (by simpa using hj))
    exact ⟨fun j hj => ⟨chain j hj, (h1 (j + 1) (by simpa using hj)).2⟩, fun j hj => h2 (j + 1) (by simpa using hj)⟩
  ·
   rename_i hc
   simp only [Option.isSome_none, Bool.false_eq_true, false_iff, not_and]
   intro h1
   exfalso
   have := h1 0 (by simp)
   apply hc
   have e : (i :: l).getD 0 0 = i := rfl
   rw [e] at this
   omega
theorem all_getD {p : Int → Bool} {l : List Int} : l.all p = true ↔ ∀ j, j < l.length → p (l.getD j 0) = true := by
 rw [List.all_eq_true]
 constructor
 ·
  intro h j hj
  rw [List.getD_eq_getElem?_getD, List.getElem?_eq_getElem hj]
  exact h _ (List.getElem_mem hj)
 ·
  intro h x hx
  obtain ⟨j, hj, rfl⟩ := List.getElem_of_mem hx
  have := h j hj
  rwa [List.getD_eq_getElem?_getD, List.getElem?_eq_getElem hj] at this
theorem setOfN_isSome (l : List Int) (n : Nat) : (setOfN l n).isSome = (allInB l 0 (n - 1) && ascB l) := by
 rw [Bool.eq_iff_iff, Bool.and_eq_true]
 unfold setOfN allInB ascB
 rw [setOfL_isSome, all_getD, List.all_eq_true]
 simp only [List.mem_range, decide_eq_true_eq, inB_true]
 constructor
 ·
  rintro ⟨h1, h2⟩
  exact ⟨fun j hj => by have := h1 j hj; omega, fun j hj => h2 j (by omega)⟩
 ·
  rintro ⟨h1, h2⟩
  exact ⟨fun j hj => by have := h1 j hj; omega, fun j hj => h2 j (by omega)⟩
theorem taskFine_eq (n : Nat) (t : Tk) : taskFineB n t = (taskOk t && (setOfN t.f1 n).isSome) := by
 unfold taskFineB taskOk
 rw [setOfN_isSome, Bool.and_assoc]
theorem needsL_isSome (n : Nat) : ∀ l : List Tk, (needsL n l).isSome = l.all (taskFineB n)
 | [] => rfl
 | t :: r => by
  rw [List.all_cons, taskFine_eq, ← needsL_isSome n r]
  cases h1 : setOfN t.f1 n with
  | none => rw [needsL_bad (Or.inl h1)]; simp
  | some s =>
   cases h2 : taskOk t with
   | false => rw [needsL_bad (Or.inr h2)]; rfl
   | true => rw [needsL_good h1 h2]; simp
theorem tasksFine_eq (g : List Tk) : tasksFineB g = (needsN g).isSome := by
 unfold tasksFineB needsN
 rw [← needsL_isSome]
 by_cases h : 8 < g.length
 ·
  rw [if_pos h, decide_eq_false (by omega), Bool.and_false]; rfl
 ·
  rw [if_neg h, decide_eq_true (by omega), Bool.and_true]
theorem find_congr {α : Type} {p q : α → Bool} : ∀ {l : List α}, (∀ x ∈ l, p x = q x) → l.find? p = l.find? q
 | [], _ => rfl
 | x :: l, h => by
  rw [List.find?_cons, List.find?_cons, h x (List.mem_cons_self ..), find_congr fun y hy => h y (List.mem_cons_of_mem _ hy)]
theorem mem_intsN {i : Nat} {l : List Nat} : ((i : Nat) : Int) ∈ ints l ↔ i ∈ l := by
 unfold ints
 rw [List.mem_map]
 constructor
 ·
  rintro ⟨j, hj, e⟩
  have : j = i := Int.ofNat.inj e
  rwa [← this]
 ·
  exact fun h => ⟨i, h, rfl⟩
theorem ord_top {g : List Tk} {ns : List Nat} (hn : ns.length = g.length) (hg : ∀ i, i < g.length → setOfN (rdTk g i).f1 g.length = some (ns.getD i 0)) :
  ∀ k, topN g k = (ordN ns k).1 ∧ ∀ i, (ordN ns k).2.testBit i = decide (i ∈ (ordN ns k).1)
 | 0 => ⟨rfl, fun i => by simp [ordN]⟩
 | k + 1 => by
  obtain ⟨h1, h2⟩ := ord_top hn hg k
  have hr : ∀ i, i < g.length → specReady g (topN g k) i = isReady ns (ordN ns k).2 i := by
   intro i hi
   unfold specReady isReady
   rw [h2, h1]
   congr 1
   ·
    rw [decide_eq_decide.2 mem_intsN]
   ·
    unfold allDoneB
    rw [Bool.eq_iff_iff, decide_eq_true_iff, diff_zero, List.all_eq_true]
    constructor
    ·
     intro h j hj
     rw [setOfN_bits (hg i hi)] at hj
     rw [h2]
     have := of_decide_eq_true (h _ (of_decide_eq_true hj))
     exact decide_eq_true (mem_intsN.1 this)
    ·
     intro h x hx
     obtain ⟨hx0, hx1⟩ := setOfL_mem _ _ _ _ _ (by omega) (hg i hi) x hx
     have hxe : x = ((x.toNat : Nat) : Int) := by omega
     have := h x.toNat (by rw [setOfN_bits (hg i hi)]; exact decide_eq_true (by rw [← hxe]; exact hx))
     rw [h2] at this
     rw [hxe]
     exact decide_eq_true (mem_intsN.2 (of_decide_eq_true this))
  have hf : topFirst g (topN g k) = firstReady ns (ordN ns k).2 := by
   unfold topFirst firstReady
   rw [hn]
   exact find_congr fun i hi => hr i (List.mem_range.1 hi)
  show topStep g (topN g k) = (ordStep ns (ordN ns k)).1 ∧ ∀ i, (ordStep ns (ordN ns k)).2.testBit i = decide (i ∈ (ordStep ns (ordN ns k)).1)
  unfold topStep ordStep
  rw [hf]
  cases firstReady ns (ordN ns k).2 with
  | none => exact ⟨h1, h2⟩
  | some i =>
   refine ⟨by rw [h1], fun j => ?_⟩
   simp only [or_bit, h2, List.mem_append, List.mem_singleton, Bool.decide_or]
   congr 1
   exact decide_eq_decide.2 eq_comm
def cntW : Nat → Nat → Nat
 | 0, _ => 0
 | n + 1, s => cntW n s + if s.testBit n then 1 else 0
theorem cntW_high {i s : Nat} : ∀ n, n ≤ i → cntW n (s ||| 2 ^ i) = cntW n s
 | 0, _ => rfl
 | n + 1, h => by
  unfold cntW
  rw [cntW_high n (by omega), or_bit, decide_eq_false (show ¬ i = n by omega), Bool.or_false]
theorem cntW_step {i s : Nat} (hs : s.testBit i = false) : ∀ n, i < n → cntW n (s ||| 2 ^ i) = cntW n s + 1
 | n + 1, h => by
  unfold cntW
  rw [or_bit]
  by_cases hi : i = n
  ·
   subst hi
   rw [cntW_high i (Nat.le_refl _), hs]
   simp
  ·
   rw [cntW_step hs n (by omega), decide_eq_false hi, Bool.or_false]
   omega
theorem cntW_le (s : Nat) : ∀ n, cntW n s ≤ n
 | 0 => Nat.le_refl _
 | n + 1 => by
  unfold cntW
  have := cntW_le s n
  split <;> omega
theorem cntW_full (s : Nat) : ∀ n, cntW n s = n ↔ ∀ j, j < n → s.testBit j = true
 | 0 => by simp [cntW]
 | n + 1 => by
  unfold cntW
  have h1 := cntW_le s n
  have h2 := cntW_full s n
  constructor
  ·
   intro h j hj
   split at h
   ·
    rename_i hb
    rcases Nat.lt_succ_iff_lt_or_eq.1 hj with h3 | rfl
    ·
     exact h2.1 (by omega) j h3
    ·
     exact hb
   ·
    omega
  ·
   intro h
   rw [if_pos (h n (Nat.lt_succ_self _)), h2.2 fun j hj => h j (by omega)]
theorem cnt_zero : ∀ n, cntW n 0 = 0
 | 0 => rfl
 | n + 1 => by unfold cntW; rw [cnt_zero n]; simp
theorem ord_cnt (ns : List Nat) : ∀ k, (ordN ns k).1.length = cntW ns.length (ordN ns k).2
 | 0 => (cnt_zero _).symm
 | k + 1 => by
  show (ordStep ns (ordN ns k)).1.length = cntW ns.length (ordStep ns (ordN ns k)).2
  have h0 := ord_cnt ns k
  unfold ordStep
  cases hf : firstReady ns (ordN ns k).2 with
  | none => exact h0
  | some i =>
   obtain ⟨hi, hr⟩ := firstReady_spec hf
   unfold isReady at hr
   rw [Bool.and_eq_true, Bool.not_eq_true'] at hr
   rw [cntW_step hr.1 _ hi, ← h0]
   simp
theorem full_iff {s n : Nat} (h : s < 2 ^ n) : (∀ j, j < n → s.testBit j = true) ↔ s = 2 ^ n - 1 := by
 constructor
 ·
  intro hb
  apply Nat.eq_of_testBit_eq
  intro j
  rw [Nat.testBit_two_pow_sub_one]
  by_cases hj : j < n
  ·
   rw [hb j hj, decide_eq_true hj]
  ·
   rw [decide_eq_false hj]
   exact Nat.testBit_lt_two_pow (Nat.lt_of_lt_of_le h (Nat.pow_le_pow_right (by omega) (by omega)))
 ·
  rintro rfl j hj
  rw [Nat.testBit_two_pow_sub_one, decide_eq_true hj]
theorem specValid_eq (g : List Tk) : specValid g = (graphN g).isSome := by
 unfold specValid graphN
 rw [tasksFine_eq]
 cases hn : needsN g with
 | none => rfl
 | some ns =>
  have hl := needsN_length hn
  have hall := (needsL_all _ _ _ (needsN_some hn).2).2
  have ht := (ord_top hl (fun i hi => (hall i hi).2) g.length).1
  rw [Option.bind_some, Option.isSome_some, Bool.true_and]
  show decide ((topN g g.length).length = g.length) = _
  rw [ht, ord_cnt, hl]
  have hlt := (ordN_lt ns g.length).1
  rw [hl] at hlt
  rw [decide_eq_decide.2 ((cntW_full _ _).trans (full_iff hlt))]
  by_cases h : (ordN ns g.length).2 = 2 ^ g.length - 1
  ·
   rw [if_pos h, decide_eq_true h]; rfl
  ·
   rw [if_neg h, decide_eq_false h]; rfl
theorem validLog_eq (g : List Tk) (log : List Ev) : validLogB g log = (replayB g log).isSome := validLog_law (specValid_eq g)
end Go.Proofs.YtdjdfbfcjajlkaaDoor

namespace Go.Proofs.YtdjdfbfcjajlkaaDoor
set_option linter.unusedVariables false
set_option linter.unusedSimpArgs false
open Go.RowKit Go.Shelf Bits
theorem graphN_spec {g : List Tk} {ns : List Nat} (h : graphN g = some ns) : specValid g = true := by rw [specValid_eq, h]; rfl
theorem topL_eq {g : List Tk} {ns : List Nat} (h : graphN g = some ns) : topL g = (ordN ns ns.length).1 := by
 obtain ⟨h8, hn, hs⟩ := graphN_all h
 have := (ord_top hn (fun i hi => (hs i hi).2) g.length).1
 unfold topL
 rw [this, hn]
theorem need_bit {g : List Tk} {ns : List Nat} (h : graphN g = some ns) {i : Nat} (hi : i < g.length) (k : Nat) : (ns.getD i 0).testBit k = decide ((k : Int) ∈ (rdTk g i).f1) :=
 setOfN_bits ((graphN_all h).2.2 i hi).2 k
def Topo (g : List Tk) (l : List Nat) : Prop := ∀ p, p < l.length → ∀ k : Nat, (k : Int) ∈ (rdTk g (l.getD p 0)).f1 → k ∈ l.take p
theorem topo_topN (g : List Tk) : ∀ n, Topo g (topN g n)
 | 0 => fun p hp => absurd hp (Nat.not_lt_zero _)
 | n + 1 => by
  have ih := topo_topN g n
  show Topo g (topStep g (topN g n))
  unfold topStep
  cases hf : topFirst g (topN g n) with
  | none => exact ih
  | some i =>
   obtain ⟨hi, _, hr⟩ := topFirst_spec hf
   generalize topN g n = l at ih hr
   have key : Topo g (l ++ [i]) := by
    intro p hp k hk
    have hp' := hp
    simp at hp'
    by_cases hpl : p < l.length
    ·
     have e : (l ++ [i]).getD p 0 = l.getD p 0 := by
      rw [List.getD_eq_getElem?_getD, List.getD_eq_getElem?_getD, List.getElem?_append_left hpl]
     rw [e] at hk
     rw [List.take_append_of_le_length (by omega)]
     exact ih p hpl k hk
    ·
     obtain rfl : p = l.length := by omega
     have e : (l ++ [i]).getD l.length 0 = i := by rw [List.getD_eq_getElem?_getD]; simp
     rw [e] at hk
     unfold specReady at hr
     rw [Bool.and_eq_true] at hr
     unfold allDoneB at hr
     have := List.all_eq_true.1 hr.2 _ hk
     rw [List.take_left]
     exact mem_intsN.1 (of_decide_eq_true this)
   exact key
theorem top_all {g : List Tk} (hv : specValid g = true) {j : Nat} (hj : j < g.length) : j ∈ topL g := by
 obtain ⟨h1, h2, h3⟩ := topN_facts g g.length
 have hl : (topL g).length = g.length := by
  unfold specValid at hv
  rw [Bool.and_eq_true] at hv
  exact of_decide_eq_true hv.2
 by_cases hm : j ∈ topL g
 ·
  exact hm
 ·
  have := nodup_below (n := g.length) (l := j :: topL g) (List.nodup_cons.2 ⟨hm, h1⟩) (fun i hi => by
   rcases List.mem_cons.1 hi with rfl | hi
   ·
    exact hj
   ·
    exact h2 i hi)
  rw [List.length_cons] at this
  omega
theorem getD_setI (o : List Int) (a j : Nat) (v : Int) (ha : a < o.length) : (o.set a v).getD j 0 = if j = a then v else o.getD j 0 := by
 rw [List.getD_eq_getElem?_getD, List.getD_eq_getElem?_getD, List.getElem?_set]
 by_cases h : a = j
 ·
  subst h
  simp [ha]
 ·
  rw [if_neg h, if_neg (fun e => h e.symm)]
theorem mostS_nonneg (g : List Tk) (o : List Int) (i : Nat) : ∀ k, 0 ≤ mostS g o i k
 | 0 => Int.le_refl _
 | k + 1 => by
  have ih := mostS_nonneg g o i k
  unfold mostS
  split <;> omega
theorem mostS_set {g : List Tk} {o : List Int} {a : Nat} {v : Int} (ha : a < o.length) (h0 : o.getD a 0 = 0) (hv : 0 ≤ v) (j : Nat) :
  ∀ k, mostS g (o.set a v) j k = if a < k ∧ ((j : Int) ∈ (rdTk g a).f1) then max (mostS g o j k) v else mostS g o j k
 | 0 => by simp [mostS]
 | k + 1 => by
  have ih := mostS_set (g := g) ha h0 hv j k
  have hn := mostS_nonneg g o j k
  have e : mostS g (o.set a v) j (k + 1) = if decide ((j : Int) ∈ (rdTk g k).f1) then max (mostS g (o.set a v) j k) ((o.set a v).getD k 0) else mostS g (o.set a v) j k := rfl
  have e2 : mostS g o j (k + 1) = if decide ((j : Int) ∈ (rdTk g k).f1) then max (mostS g o j k) (o.getD k 0) else mostS g o j k := rfl
  rw [e, e2, ih, getD_setI _ _ _ _ ha]
  generalize mostS g o j k = M at hn ⊢
  by_cases hm : (j : Int) ∈ (rdTk g k).f1
  ·
   rw [if_pos (show decide ((j : Int) ∈ (rdTk g k).f1) = true from decide_eq_true hm), if_pos (show decide ((j : Int) ∈ (rdTk g k).f1) = true from decide_eq_true hm)]
   by_cases hk : k = a
   ·
    subst hk
    rw [if_neg (show ¬ (k < k ∧ ((j : Int) ∈ (rdTk g k).f1)) from fun h => by omega), if_pos (rfl : k = k), h0, if_pos (show k < k + 1 ∧ ((j : Int) ∈ (rdTk g k).f1) from ⟨by omega, hm⟩)]
    omega
   ·
    rw [if_neg hk]
    by_cases hc : a < k ∧ ((j : Int) ∈ (rdTk g a).f1)
    ·
     rw [if_pos hc, if_pos (show a < k + 1 ∧ ((j : Int) ∈ (rdTk g a).f1) from ⟨by omega, hc.2⟩)]
     omega
    ·
     rw [if_neg hc, if_neg (show ¬ (a < k + 1 ∧ ((j : Int) ∈ (rdTk g a).f1)) from fun h => hc ⟨by omega, h.2⟩)]
  ·
   rw [if_neg (show ¬ (decide ((j : Int) ∈ (rdTk g k).f1) = true) by simp [hm]), if_neg (show ¬ (decide ((j : Int) ∈ (rdTk g k).f1) = true) by simp [hm])]
   by_cases hk : k = a
   ·
    subst hk
    rw [if_neg (show ¬ (k < k ∧ ((j : Int) ∈ (rdTk g k).f1)) from fun h => by omega), if_neg (show ¬ (k < k + 1 ∧ ((j : Int) ∈ (rdTk g k).f1)) from fun h => hm h.2)]
   ·
    by_cases hc : a < k ∧ ((j : Int) ∈ (rdTk g a).f1)
    ·
     rw [if_pos hc, if_pos (show a < k + 1 ∧ ((j : Int) ∈ (rdTk g a).f1) from ⟨by omega, hc.2⟩)]
    ·
     rw [if_neg hc, if_neg (show ¬ (a < k + 1 ∧ ((j : Int) ∈ (rdTk g a).f1)) from fun h => hc ⟨by omega, h.2⟩)]
theorem pushes_get {i : Nat} : ∀ (l : List Nat) (o : List Int), i < o.length → (∀ k ∈ l, k < o.length ∧ k ≠ i) → ∀ j, (l.foldl (tailPush i) o).getD j 0 = if j ∈ l then max (o.getD j 0) (o.getD i 0) else o.getD j 0
 | [], o, _, _, j => by simp
 | k :: l, o, hi, h, j => by
  have hk := h k (List.mem_cons_self ..)
  rw [List.foldl_cons, pushes_get l (tailPush i o k) (by unfold tailPush; rw [List.length_set]; exact hi) (fun q hq => by unfold tailPush; rw [List.length_set]; exact h q (List.mem_cons_of_mem _ hq)) j]
  unfold tailPush
  rw [getD_setI _ _ _ _ hk.1, getD_setI _ _ _ _ hk.1]
  rw [if_neg (show ¬ (i = k) from fun e => hk.2 e.symm)]
  by_cases hjk : j = k
  ·
   subst hjk
   rw [if_pos (rfl : j = j), if_pos (show j ∈ j :: l from List.mem_cons_self ..)]
   split <;> omega
  ·
   rw [if_neg hjk]
   by_cases hjl : j ∈ l
   ·
    rw [if_pos hjl, if_pos (show j ∈ k :: l from List.mem_cons_of_mem _ hjl)]
   ·
    rw [if_neg hjl, if_neg (show ¬ (j ∈ k :: l) from fun h => by
     rcases List.mem_cons.1 h with e | e
     ·
      exact hjk e
     ·
      exact hjl e)]
theorem pushes_len {i : Nat} : ∀ (l : List Nat) (o : List Int), (l.foldl (tailPush i) o).length = o.length
 | [], _ => rfl
 | k :: l, o => by
  rw [List.foldl_cons, pushes_len l]
  unfold tailPush
  rw [List.length_set]
theorem tails_law {g : List Tk} {ns : List Nat} (hg : graphN g = some ns) : ∀ m, m ≤ (topL g).length →
  (∀ j ∈ (topL g).drop ((topL g).length - m), (tailsL g ns (topL g) (backL (topL g).length m)).getD j 0 = (tailsSL g (backL (topL g).length m)).getD j 0) ∧
  (∀ j, j < g.length → ¬ j ∈ (topL g).drop ((topL g).length - m) → (tailsSL g (backL (topL g).length m)).getD j 0 = 0 ∧ (tailsL g ns (topL g) (backL (topL g).length m)).getD j 0 = mostS g (tailsSL g (backL (topL g).length m)) j g.length)
 | 0, _ => by
  have h0 : ∀ j, (List.replicate g.length (0 : Int)).getD j 0 = 0 := fun j => by
   rw [List.getD_eq_getElem?_getD, List.getElem?_replicate]
   split <;> simp
  have hm : ∀ j k, mostS g (List.replicate g.length 0) j k = 0 := fun j k => by
   induction k with
   | zero => rfl
   | succ k ih =>
    unfold mostS
    rw [ih, h0]
    split <;> rfl
  refine ⟨fun j hj => by simp at hj, fun j hj _ => ?_⟩
  show (List.replicate g.length (0 : Int)).getD j 0 = 0 ∧ (List.replicate g.length (0 : Int)).getD j 0 = mostS g (List.replicate g.length 0) j g.length
  exact ⟨h0 j, by rw [h0, hm]⟩
 | m + 1, hm => by
  obtain ⟨ih1, ih2⟩ := tails_law hg m (by omega)
  have hv := graphN_spec hg
  obtain ⟨hnd, hlt, _⟩ := topN_facts g g.length
  have htm := graphN_time hg
  have hTS := (tailsSL_span (g := g) htm (backL (topL g).length m))
  have hTI := (tails_span (g := g) (ns := ns) (ord := topL g) htm (backL (topL g).length m))
  rw [backL_succ, tailsL_snoc, tailsSL_snoc]
  obtain ⟨p, hp⟩ : ∃ p, p = (topL g).length - 1 - m := ⟨_, rfl⟩
  rw [← hp]
  have hpl : p < (topL g).length := by omega
  have hdr : (topL g).drop ((topL g).length - (m + 1)) = (topL g).getD p 0 :: (topL g).drop ((topL g).length - m) := by
   rw [show (topL g).length - (m + 1) = p by omega, show (topL g).length - m = p + 1 by omega, List.drop_eq_getElem_cons hpl, List.getD_eq_getElem?_getD, List.getElem?_eq_getElem hpl]
   rfl
  have hat : (topL g).getD p 0 < g.length := hlt _ (by
   show _ ∈ topL g
   rw [List.getD_eq_getElem?_getD, List.getElem?_eq_getElem hpl]
   exact List.getElem_mem _)
  have htopo := topo_topN g g.length p hpl
  have hsplit : topL g = (topL g).take p ++ (topL g).getD p 0 :: (topL g).drop ((topL g).length - m) := by
   rw [← hdr, show (topL g).length - (m + 1) = p by omega, List.take_append_drop]
  have hnd2 : ((topL g).take p ++ (topL g).getD p 0 :: (topL g).drop ((topL g).length - m)).Nodup := by rw [← hsplit]; exact hnd
  obtain ⟨_, hn2, hn3⟩ := List.nodup_append.1 hnd2
  obtain ⟨hna, _⟩ := List.nodup_cons.1 hn2
  rw [hdr]
  change ∀ k : Nat, (k : Int) ∈ (rdTk g ((topL g).getD p 0)).f1 → k ∈ (topL g).take p at htopo
  generalize (topL g).getD p 0 = a at hat htopo hn3 hna
  generalize (topL g).drop ((topL g).length - m) = D at ih1 ih2 hn3 hna
  generalize tailsSL g (backL (topL g).length m) = oS at ih1 ih2 hTS
  generalize tailsL g ns (topL g) (backL (topL g).length m) = oI at ih1 ih2 hTI
  have hlS := hTS.1
  have hlI := hTI.1
  obtain ⟨ha0, haI⟩ := ih2 a hat hna
  have hmn := mostS_nonneg g oS a g.length
  have htma := htm a
  unfold sStep tailStep
  rw [haI]
  obtain ⟨v, hvv⟩ : ∃ v, v = mostS g oS a g.length + (rdTk g a).f0 := ⟨_, rfl⟩
  rw [← hvv]
  have hv0 : 0 ≤ v := by omega
  have hel : ∀ k ∈ elems (ns.getD a 0), k < g.length ∧ k ≠ a ∧ ¬ k ∈ D ∧ (k : Int) ∈ (rdTk g a).f1 := fun k hk => by
   have hb := elems_bit hk
   rw [need_bit hg hat] at hb
   have hkm := of_decide_eq_true hb
   have hkt := htopo k hkm
   refine ⟨hlt k (List.mem_of_mem_take hkt), fun e => hn3 k hkt a (List.mem_cons_self ..) e, fun hD => hn3 k hkt k (List.mem_cons_of_mem _ hD) rfl, hkm⟩
  have hpg := pushes_get (i := a) (elems (ns.getD a 0)) (oI.set a v) (by rw [List.length_set]; omega) (fun k hk => by rw [List.length_set]; exact ⟨by have := (hel k hk).1; omega, (hel k hk).2.1⟩)
  have hms : ∀ j, mostS g (oS.set a v) j g.length = if a < g.length ∧ ((j : Int) ∈ (rdTk g a).f1) then max (mostS g oS j g.length) v else mostS g oS j g.length := fun j => mostS_set (by omega) ha0 hv0 j g.length
  refine ⟨fun j hj => ?_, fun j hj hjD => ?_⟩
  ·
   rw [hpg, getD_setI _ _ _ _ (by omega), getD_setI _ _ _ _ (by omega), getD_setI _ _ _ _ (by omega), if_pos rfl]
   have hje : ¬ j ∈ elems (ns.getD a 0) := fun he => by
    rcases List.mem_cons.1 hj with e | e
    ·
     exact (hel j he).2.1 e
    ·
     exact (hel j he).2.2.1 e
   rw [if_neg hje]
   by_cases hja : j = a
   ·
    rw [if_pos hja, if_pos hja]
   ·
    rw [if_neg hja, if_neg hja]
    rcases List.mem_cons.1 hj with e | e
    ·
     exact absurd e hja
    ·
     exact ih1 j e
  ·
   have hja : j ≠ a := fun e => hjD (by rw [e]; exact List.mem_cons_self ..)
   have hjD' : ¬ j ∈ D := fun e => hjD (List.mem_cons_of_mem _ e)
   obtain ⟨q0, qI⟩ := ih2 j hj hjD'
   rw [hpg, hms, getD_setI _ _ _ _ (by omega), getD_setI _ _ _ _ (by omega), getD_setI _ _ _ _ (by omega), if_pos rfl, if_neg hja, if_neg hja, qI]
   refine ⟨q0, ?_⟩
   by_cases hje : j ∈ elems (ns.getD a 0)
   ·
    rw [if_pos hje, if_pos ⟨hat, (hel j hje).2.2.2⟩]
   ·
    have hnm : ¬ (j : Int) ∈ (rdTk g a).f1 := fun hm' => hje (mem_elems.2 ⟨by have := (graphN_all hg).1; omega, by rw [need_bit hg hat]; exact decide_eq_true hm'⟩)
    rw [if_neg hje, if_neg (fun h => hnm h.2)]
theorem tailN_eq {g : List Tk} {ns : List Nat} (hg : graphN g = some ns) : tailN g ns = tailsS g := by
 have hv := graphN_spec hg
 have htm := graphN_time hg
 have h := (tails_law hg (topL g).length (Nat.le_refl _)).1
 rw [Nat.sub_self, List.drop_zero] at h
 unfold tailN tailsS
 rw [← topL_eq hg]
 apply List.ext_getElem
 ·
  rw [(tails_span (g := g) (ns := ns) (ord := topL g) htm _).1, (tailsSL_span (g := g) htm _).1]
 ·
  intro j h1 h2
  have hj : j < g.length := by rw [(tails_span (g := g) (ns := ns) (ord := topL g) htm _).1] at h1; exact h1
  have := h j (top_all hv hj)
  rw [List.getD_eq_getElem?_getD, List.getD_eq_getElem?_getD, List.getElem?_eq_getElem h1, List.getElem?_eq_getElem h2] at this
  exact this
end Go.Proofs.YtdjdfbfcjajlkaaDoor

namespace Go.Proofs.YtdjdfbfcjajlkaaDoor
set_option linter.unusedVariables false
set_option linter.unusedSimpArgs false
open Go.RowKit Go.Shelf Bits
open Go.Proofs.YtdjdfbfcjajlkaaDoorW.PrintWords Go.Proofs.YtdjdfbfcjajlkaaDoorW.PrintLast Go.Proofs.YtdjdfbfcjajlkaaDoorW.PrintMore
attribute [local go_sem] Oper.semAt_some
theorem R_nilI (w : World) (base : Nat) : Kd.R (Kd.int .i64) 3 w base (fun _ => True) (.slice none 0 0) [] := Kd.R_of_own ⟨by simp [encs], .inl ⟨rfl, by simp [encs]⟩⟩ (fun _ _ => trivial)
theorem readyN_lt (ns : List Nat) (d : Nat) : readyN ns d < 2 ^ ns.length := readyU_lt ns d _
theorem doneN_facts {g : List Tk} {l : List Int} {ns : List Nat} {s : Nat} (h : doneN g l = some (ns, s)) : graphN g = some ns ∧ setOfN l g.length = some s ∧ closedN ns s = true := by
 unfold doneN at h
 obtain ⟨ns', h1, h⟩ := Option.bind_eq_some_iff.1 h
 obtain ⟨s', h2, h⟩ := Option.bind_eq_some_iff.1 h
 split at h
 ·
  cases h
  exact ⟨h1, h2, by assumption⟩
 ·
  cases h
def rdOrdN (g : List Tk) (l : List Int) : List Int := match doneN g l with
 | some (ns, s) => ints (rankL (tailN g ns) (elems (readyN ns s)))
 | none => []
def rdTasksN (g : List Tk) (l : List Int) : List Int := match doneN g l with
 | some (ns, s) => els (readyN ns s)
 | none => []
def tailTimesN (g : List Tk) : List Int := match graphN g with
 | some ns => tailN g ns
 | none => []
end Go.Proofs.YtdjdfbfcjajlkaaDoor

namespace Go.Proofs.YtdjdfbfcjajlkaaDoor
set_option linter.unusedVariables false
set_option linter.unusedSimpArgs false
open Go.RowKit Go.Shelf Bits
open Go.Proofs.YtdjdfbfcjajlkaaDoorW.PrintWords Go.Proofs.YtdjdfbfcjajlkaaDoorW.PrintLast Go.Proofs.YtdjdfbfcjajlkaaDoorW.PrintMore
def vDoneB (g : List Tk) (d : List Int) : Bool := specValid g && (ascB d && (allInB d 0 (g.length - 1) && d.all fun x => allDoneB (rdTk g x.toNat).f1 d))
theorem allIn_mem {l : List Int} {lo hi : Int} (h : allInB l lo hi = true) : ∀ j, j < l.length → lo ≤ l.getD j 0 ∧ l.getD j 0 ≤ hi := fun j hj => by
 unfold allInB at h
 rw [List.all_eq_true] at h
 exact inB_true.1 (h _ (mem_getD hj))
theorem specValid_len {g : List Tk} (h : specValid g = true) : g.length ≤ 8 := by
 unfold specValid tasksFineB at h
 simp at h
 exact h.1.2
end Go.Proofs.YtdjdfbfcjajlkaaDoor

namespace Go.Proofs.YtdjdfbfcjajlkaaDoor
set_option linter.unusedVariables false
set_option linter.unusedSimpArgs false
open Go.RowKit Go.Shelf Bits
open Go.Proofs.YtdjdfbfcjajlkaaDoorW.PrintWords Go.Proofs.YtdjdfbfcjajlkaaDoorW.PrintLast Go.Proofs.YtdjdfbfcjajlkaaDoorW.PrintMore
def sRdTasks (g : List Tk) (d : List Int) : List Nat := if vDoneB g d then readyS g d else []
def sRdOrd (g : List Tk) (d : List Int) : List Nat := if vDoneB g d then insL (tailsS g) (readyS g d) else []
theorem vDone_valid {g : List Tk} {d : List Int} (h : vDoneB g d = true) : specValid g = true := by
 unfold vDoneB at h
 rw [Bool.and_eq_true] at h
 exact h.1
theorem readyS_len (g : List Tk) (d : List Int) : (readyS g d).length ≤ g.length := filter_range_le _ _
theorem readyS_lt {g : List Tk} {d : List Int} : ∀ x ∈ readyS g d, x < g.length := fun x hx => List.mem_range.1 (List.mem_filter.1 hx).1
theorem sRdTasks_len (g : List Tk) (d : List Int) : (sRdTasks g d).length ≤ 8 := by
 unfold sRdTasks
 split
 ·
  rename_i h
  exact Nat.le_trans (readyS_len g d) (specValid_len (vDone_valid h))
 ·
  simp
end Go.Proofs.YtdjdfbfcjajlkaaDoor

namespace Go.Proofs.YtdjdfbfcjajlkaaDoor
set_option linter.unusedVariables false
set_option linter.unusedSimpArgs false
open Go.RowKit Go.Shelf Bits
theorem filter_rangeR {P : Nat → Bool} {n : Nat} (h : ∀ i, P i = true → i < n) : ∀ d, (List.range (n + d)).filter P = (List.range n).filter P
 | 0 => rfl
 | d + 1 => by
  rw [← Nat.add_assoc, List.range_succ, List.filter_append, filter_rangeR h d]
  have : P (n + d) = false := by
   cases hp : P (n + d) with
   | false => rfl
   | true => have := h _ hp; omega
  simp [this]
theorem needs_in {g : List Tk} {ns : List Nat} (hg : graphN g = some ns) {l : List Int} {s : Nat} (hs : ∀ j : Nat, s.testBit j = decide ((j : Int) ∈ l)) {i : Nat} (hi : i < g.length) : decide (diff (ns.getD i 0) s = 0) = allDoneB (rdTk g i).f1 l := by
 rw [Bool.eq_iff_iff, decide_eq_true_iff, diff_zero]
 unfold allDoneB
 rw [List.all_eq_true]
 obtain ⟨_, _, hn⟩ := graphN_all hg
 constructor
 ·
  intro h x hx
  obtain ⟨hx0, hx1⟩ := setOfL_mem _ _ _ _ _ (by omega) (hn i hi).2 x hx
  have hxe : x = ((x.toNat : Nat) : Int) := by omega
  have := h x.toNat (by rw [need_bit hg hi]; exact decide_eq_true (by rw [← hxe]; exact hx))
  rw [hs] at this
  rw [hxe]
  exact this
 ·
  intro h j hj
  rw [need_bit hg hi] at hj
  rw [hs]
  exact h _ (of_decide_eq_true hj)
theorem doneN_eq (g : List Tk) (l : List Int) : vDoneB g l = (doneN g l).isSome := by
 unfold vDoneB
 rw [specValid_eq]
 cases hg : graphN g with
 | none =>
  rw [show doneN g l = none by unfold doneN; rw [hg]; rfl]
  rfl
 | some ns =>
  rw [show (some ns).isSome = true from rfl, Bool.true_and]
  have h1 := setOfN_isSome l g.length
  cases hs : setOfN l g.length with
  | none =>
   rw [hs] at h1
   rw [show doneN g l = none by unfold doneN; rw [hg]; show (setOfN l g.length).bind _ = none; rw [hs]; rfl]
   cases ha : ascB l
   ·
    rfl
   ·
    rw [ha, Bool.and_true] at h1
    rw [← h1]
    rfl
  | some s =>
   rw [hs] at h1
   have h2 : allInB l 0 (g.length - 1) = true ∧ ascB l = true := by rw [← Bool.and_eq_true]; exact h1.symm
   rw [h2.1, h2.2, Bool.true_and, Bool.true_and, graph_some_lt hg hs]
   have hb : ∀ j : Nat, s.testBit j = decide ((j : Int) ∈ l) := fun j => setOfN_bits hs j
   have hin := setOfL_mem _ _ _ _ _ (by omega) hs
   have h8 := (graphN_all hg).1
   have hc : closedN ns s = l.all fun x => allDoneB (rdTk g x.toNat).f1 l := by
    unfold closedN
    rw [Bool.eq_iff_iff, List.all_eq_true, List.all_eq_true]
    constructor
    ·
     intro h x hx
     obtain ⟨x0, x1⟩ := hin x hx
     have hxe : x = ((x.toNat : Nat) : Int) := by omega
     rw [← needs_in hg hb (by omega)]
     exact h x.toNat (mem_elems.2 ⟨by omega, by rw [hb, ← hxe]; exact decide_eq_true hx⟩)
    ·
     intro h i hi
     have hil := of_decide_eq_true ((hb i).symm.trans (elems_bit hi))
     obtain ⟨i0, i1⟩ := hin _ hil
     show needsIn ns s i = true
     unfold needsIn
     rw [needs_in hg hb (by omega)]
     exact h _ hil
   rw [← hc]
   cases closedN ns s <;> rfl
theorem readyN_eq {g : List Tk} {l : List Int} {ns : List Nat} {s : Nat} (hd : doneN g l = some (ns, s)) : elems (readyN ns s) = readyS g l := by
 obtain ⟨hg, hs, hc⟩ := doneN_facts hd
 obtain ⟨h8, hn, _⟩ := graphN_all hg
 have hb : ∀ j : Nat, s.testBit j = decide ((j : Int) ∈ l) := fun j => setOfN_bits hs j
 unfold elems readyS
 have e : ∀ i, (readyN ns s).testBit i = (decide (i < g.length) && rdB g l i) := fun i => by
  rw [readyN_bit, hn]
  by_cases hi : i < g.length
  ·
   rw [decide_eq_true hi, Bool.true_and, Bool.true_and]
   unfold isReady rdB
   rw [hb, needs_in hg hb hi]
  ·
   rw [decide_eq_false hi]
   rfl
 have h1 := filter_rangeR (P := (readyN ns s).testBit) (n := g.length) (fun i hi => by
  rw [e, Bool.and_eq_true] at hi
  exact of_decide_eq_true hi.1) (16 - g.length)
 rw [show g.length + (16 - g.length) = 16 by omega] at h1
 show (List.range 16).filter (readyN ns s).testBit = _
 rw [h1]
 apply List.filter_congr
 intro i hi
 rw [e, decide_eq_true (List.mem_range.1 hi), Bool.true_and]
theorem bubL_sorted (T : List Int) : ∀ (k : Nat) (A B : List Nat) (x : Nat), A.length = k → (A ++ B).Pairwise (leT T) → (∀ b ∈ B, leT T x b) → (bubL T k (A ++ x :: B)).Pairwise (leT T)
 | 0, A, B, x, hA, hs, hx => by
  obtain rfl : A = [] := List.eq_nil_of_length_eq_zero hA
  show (x :: B).Pairwise (leT T)
  exact List.pairwise_cons.2 ⟨hx, by simpa using hs⟩
 | k + 1, A, B, x, hA, hs, hx => by
  obtain ⟨A', y, rfl⟩ : ∃ A' y, A = A' ++ [y] := ⟨A.dropLast, A.getLast (by intro h; rw [h] at hA; simp at hA), (List.dropLast_concat_getLast _).symm⟩
  have hA' : A'.length = k := by simpa using hA
  have e1 : (A' ++ [y] ++ x :: B).getD (k + 1) 0 = x := by
   rw [List.getD_eq_getElem?_getD, ← hA', show A' ++ [y] ++ x :: B = (A' ++ [y]) ++ x :: B from rfl, List.getElem?_append_right (by simp)]
   simp
  have e2 : (A' ++ [y] ++ x :: B).getD k 0 = y := by
   rw [List.getD_eq_getElem?_getD, ← hA']
   simp
  unfold bubL
  rw [e1, e2]
  have hpw : (A' ++ (y :: B)).Pairwise (leT T) := by simpa using hs
  obtain ⟨p1, p2, p3⟩ := List.pairwise_append.1 hpw
  obtain ⟨p4, p5⟩ := List.pairwise_cons.1 p2
  by_cases hl : lessB T x y = true
  ·
   rw [if_pos hl]
   have e3 : swapL (A' ++ [y] ++ x :: B) k (k + 1) = A' ++ x :: (y :: B) := by
    unfold swapL
    rw [e1, e2, ← hA']
    simp [List.set_append]
   rw [e3]
   exact bubL_sorted T k A' (y :: B) x hA' hpw (fun b hb => by
    rcases List.mem_cons.1 hb with rfl | hb
    ·
     exact less_true hl
    ·
     exact (less_true hl).trans (p4 b hb))
  ·
   rw [if_neg hl]
   have hyx : leT T y x := less_false.1 (by simpa using hl)
   have : (A' ++ [y] ++ x :: B) = A' ++ (y :: x :: B) := by simp
   rw [this]
   refine List.pairwise_append.2 ⟨p1, List.pairwise_cons.2 ⟨fun b hb => ?_, List.pairwise_cons.2 ⟨hx, p5⟩⟩, fun a ha b hb => ?_⟩
   ·
    rcases List.mem_cons.1 hb with rfl | hb
    ·
     exact hyx
    ·
     exact p4 b hb
   ·
    rcases List.mem_cons.1 hb with rfl | hb
    ·
     exact p3 a ha _ (List.mem_cons_self ..)
    ·
     rcases List.mem_cons.1 hb with rfl | hb
     ·
      exact (p3 a ha y (List.mem_cons_self ..)).trans hyx
     ·
      exact p3 a ha b (List.mem_cons_of_mem _ hb)
theorem insL_sortedA (T : List Int) : ∀ (xs acc : List Nat), acc.Pairwise (leT T) → (xs.foldl (fun out x => bubL T out.length (out ++ [x])) acc).Pairwise (leT T)
 | [], acc, h => h
 | x :: xs, acc, h => insL_sortedA T xs _ (bubL_sorted T acc.length acc [] x rfl (by simpa using h) (fun b hb => by cases hb))
theorem insL_sorted (T : List Int) (xs : List Nat) : (insL T xs).Pairwise (leT T) := insL_sortedA T xs [] List.Pairwise.nil
theorem rank_ins (T : List Int) (xs : List Nat) : rankL T xs = insL T xs :=
 rank_unique (rank_sorted T xs).1 (insL_sorted T xs) ((rank_sorted T xs).2.trans (insL_perm T xs).symm)
theorem rdOrd_eq (g : List Tk) (l : List Int) : rdOrdN g l = ints (sRdOrd g l) := by
 unfold rdOrdN sRdOrd
 rw [doneN_eq]
 cases hd : doneN g l with
 | none => rfl
 | some p =>
  obtain ⟨ns, s⟩ := p
  rw [if_pos (show (some (ns, s)).isSome = true from rfl), ← tailN_eq (doneN_facts hd).1, ← readyN_eq hd, ← rank_ins]
theorem rdTasks_eq (g : List Tk) (l : List Int) : rdTasksN g l = ints (sRdTasks g l) := by
 unfold rdTasksN sRdTasks
 rw [doneN_eq]
 cases hd : doneN g l with
 | none => rfl
 | some p =>
  obtain ⟨ns, s⟩ := p
  rw [if_pos (show (some (ns, s)).isSome = true from rfl), ← readyN_eq hd]
  rfl
end Go.Proofs.YtdjdfbfcjajlkaaDoor
