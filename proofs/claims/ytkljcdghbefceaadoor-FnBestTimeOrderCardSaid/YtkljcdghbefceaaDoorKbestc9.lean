/- Parts of the proof, laid as one text by a program of mine. -/
import Derived.Test.YtkljcdghbefceaaDoorKbestc8
namespace Go.Proofs.YtkljcdghbefceaaDoor.PFnValidLog
open Go.RowKit Go.Proofs.YtkljcdghbefceaaDoorW.PrintWords Go.Proofs.YtkljcdghbefceaaDoorW.PrintLast Go.Proofs.YtkljcdghbefceaaDoorW.PrintMore
attribute [local go_sem] max2_int min2_int max_two min_two max_three min_three max_four min_four
set_option linter.unusedVariables false
set_option linter.unusedSimpArgs false
def IsS71 (w0 W : World) (g : Nat) (f0 : List Int) (f1 : Int) : Prop := ∃ A0 c0, W.heap[g]? = some (.cells #[.slice A0 f0.length c0, .int .i64 f1] 73 (0, 0)) ∧ w0.heap.size ≤ g ∧ Kd.C (Kd.int .u8) w0 A0 f0.length f0
theorem IsS71.grown {w0 W : World} {g : Nat} {f0 : List Int} {f1 : Int} {W1 : World} {row : Option Nat} (h : IsS71 w0 W g f0 f1) (hw : W.grownBy W1 row) (hne : some g ≠ row) : IsS71 w0 W1 g f0 f1 := by
 obtain ⟨A0, c0, hb, hg, hr0⟩ := h
 exact ⟨A0, c0, blk_grown hb hw hne, hg, hr0⟩
theorem IsS71.own_neN {w0 W : World} {g : Nat} {f0 : List Int} {f1 : Int} {α : Type} {d : Kd α} {e : Nat} {base : Nat} {ok : Nat → Prop} {v : Value} {xs : List α} (h : IsS71 w0 W g f0 f1) (ho : Kd.N d e W base ok v xs) (ht : e ≠ 73) : some g ≠ v.ownBlock := by
 obtain ⟨A0, c0, hb, hg, hr0⟩ := h
 exact Kd.N_ne ho hb ht
theorem IsS71.fresh {w0 W : World} {g : Nat} {f0 : List Int} {f1 : Int} (h : IsS71 w0 W g f0 f1) : ∀ k, W.heap.size ≤ k → k ≠ g := by
 obtain ⟨A0, c0, hb, hg, hr0⟩ := h
 exact Kd.freshB hb
theorem IsS71.kept {w0 W : World} {g : Nat} {f0 : List Int} {f1 : Int} {W1 : World} {S : Nat → Prop} (h : IsS71 w0 W g f0 f1) (hk : Kept W W1 S) (hne : ¬ S g) : IsS71 w0 W1 g f0 f1 := by
 obtain ⟨A0, c0, hb, hg, hr0⟩ := h
 exact ⟨A0, c0, blk_kept hb hk hne, hg, hr0⟩
theorem IsS71.below {w0 W : World} {g : Nat} {f0 : List Int} {f1 : Int} {W1 : World} (h : IsS71 w0 W g f0 f1) (hw : Below W.heap.size W W1) : IsS71 w0 W1 g f0 f1 := h.grown (grown_of_below hw none) (by simp)
theorem IsS71.alloc {w0 W : World} {g : Nat} {f0 : List Int} {f1 : Int} (h : IsS71 w0 W g f0 f1) (o : Obj) : IsS71 w0 (W.alloc o) g f0 f1 := h.below (below_alloc (Below.refl _ _) o)
theorem IsS71.drewN {w0 W : World} {g : Nat} {f0 : List Int} {f1 : Int} (h : IsS71 w0 W g f0 f1) (m : Nat) : IsS71 w0 (W.drewN m) g f0 f1 := h
theorem IsS71.drew {w0 W : World} {g : Nat} {f0 : List Int} {f1 : Int} (h : IsS71 w0 W g f0 f1) : IsS71 w0 W.drew g f0 f1 := h
theorem IsS71.at_ {w0 W : World} {g : Nat} {f0 : List Int} {f1 : Int} {w' : World} {m : Nat} (hq : W.drewN m = w') (h : IsS71 w0 W g f0 f1) : IsS71 w0 w' g f0 f1 := by subst hq; exact IsS71.drewN h m
theorem IsS71.apart {w0 W : World} {g : Nat} {f0 : List Int} {f1 : Int} {α : Type} {d : Kd α} {e : Nat} {base : Nat} {ok : Nat → Prop} {v : Value} {xs : List α} (h : IsS71 w0 W g f0 f1) (ho : d.R e W base ok v xs) (ht : ∀ q, q ∈ e :: d.E → q ≠ 73) : d.R e W base (fun k => ok k ∧ k ≠ g) v xs := by
 obtain ⟨A0, c0, hb, hg, hr0⟩ := h
 exact Kd.R_types ho hb ht
theorem IsS71.own_ne {w0 W : World} {g : Nat} {f0 : List Int} {f1 : Int} {α : Type} {d : Kd α} {e : Nat} {base : Nat} {ok : Nat → Prop} {v : Value} {xs : List α} (h : IsS71 w0 W g f0 f1) (ho : d.R e W base ok v xs) (ht : e ≠ 73) : some g ≠ v.ownBlock := by
 obtain ⟨A0, c0, hb, hg, hr0⟩ := h
 exact Kd.R_ne ho hb ht
theorem IsS71.apartQ {w0 W : World} {g : Nat} {f0 : List Int} {f1 : Int} {α : Type} {d : Kd α} {e : Nat} {base : Nat} {ok : Nat → Prop} {v : Value} {xs : List α} (h : IsS71 w0 W g f0 f1) (ho : d.Q e W base ok v xs) (ht : ∀ q, q ∈ e :: d.E → q ≠ 73) : d.Q e W base (fun k => ok k ∧ k ≠ g) v xs := by
 obtain ⟨A0, c0, hb, hg, hr0⟩ := h
 exact Kd.Q_types ho hb ht
theorem IsS71.own_neQ {w0 W : World} {g : Nat} {f0 : List Int} {f1 : Int} {α : Type} {d : Kd α} {e : Nat} {base : Nat} {ok : Nat → Prop} {v : Value} {xs : List α} (h : IsS71 w0 W g f0 f1) (ho : d.Q e W base ok v xs) (ht : e ≠ 73) : some g ≠ v.ownBlock := by
 obtain ⟨A0, c0, hb, hg, hr0⟩ := h
 exact Kd.Q_ne ho hb ht
theorem IsS71.apartS {w0 W : World} {g : Nat} {f0 : List Int} {f1 : Int} {α : Type} {d : Kd α} {e : Nat} {base : Nat} {ok : Nat → Prop} {v : Value} {xs : List α} (h : IsS71 w0 W g f0 f1) (ho : d.S e W base ok v xs) (ht : ∀ q, q ∈ e :: d.E → q ≠ 73) : d.S e W base (fun k => ok k ∧ k ≠ g) v xs := by
 obtain ⟨A0, c0, hb, hg, hr0⟩ := h
 exact Kd.S_types ho hb ht
theorem IsS71.own_neS {w0 W : World} {g : Nat} {f0 : List Int} {f1 : Int} {α : Type} {d : Kd α} {e : Nat} {base : Nat} {ok : Nat → Prop} {v : Value} {xs : List α} (h : IsS71 w0 W g f0 f1) (ho : d.S e W base ok v xs) (ht : e ≠ 73) : some g ≠ v.ownBlock := by
 obtain ⟨A0, c0, hb, hg, hr0⟩ := h
 exact Kd.S_ne ho hb ht
theorem IsS71.lt {w0 W : World} {g : Nat} {f0 : List Int} {f1 : Int} (h : IsS71 w0 W g f0 f1) : g < W.heap.size := by
 obtain ⟨A0, c0, hb, hg, hr0⟩ := h
 exact blk_lt hb
theorem IsS71.ge {w0 W : World} {g : Nat} {f0 : List Int} {f1 : Int} (h : IsS71 w0 W g f0 f1) : w0.heap.size ≤ g := by
 obtain ⟨A0, c0, hb, hg, hr0⟩ := h
 exact hg
theorem IsS71.ne_blk {w0 W : World} {g : Nat} {f0 : List Int} {f1 : Int} {a : Nat} {cs : Array Value} {t : TypeId} {fr : Nat × Nat} (h : IsS71 w0 W g f0 f1) (hb2 : W.heap[a]? = some (.cells cs t fr)) (ht : t ≠ 73) : g ≠ a := by
 obtain ⟨A0, c0, hb, hg, hr0⟩ := h
 rintro rfl
 rw [hb] at hb2
 injection hb2 with hb2
 injection hb2 with _ ht2
 exact ht ht2.symm
theorem IsS71.far {w0 W : World} {g : Nat} {f0 : List Int} {f1 : Int} {p : Addr} (h : IsS71 w0 W g f0 f1) (hne : g ≠ p.block) (u : Value) : IsS71 w0 (W.setCell p u) g f0 f1 := by
 obtain ⟨A0, c0, hb, hg, hr0⟩ := h
 exact ⟨A0, c0, blk_far hb hne u, hg, hr0⟩
theorem cellS71_0 {W : World} {g : Nat} {A0 : Option Addr} {c0 : Nat} {f0 : List Int} {f1 : Int} (h : W.heap[g]? = some (.cells #[.slice A0 f0.length c0, .int .i64 f1] 73 (0, 0))) : W.cell? ⟨g, 0, none⟩ = some (.slice A0 f0.length c0) := (blk_cell h 0).trans rfl
theorem cellS71_1 {W : World} {g : Nat} {A0 : Option Addr} {c0 : Nat} {f0 : List Int} {f1 : Int} (h : W.heap[g]? = some (.cells #[.slice A0 f0.length c0, .int .i64 f1] 73 (0, 0))) : W.cell? ⟨g, 1, none⟩ = some (.int .i64 f1) := (blk_cell h 1).trans rfl
theorem IsS71.set_1 {w0 W : World} {g : Nat} {f0 : List Int} {f1 : Int} (h : IsS71 w0 W g f0 f1) (x : Int) : IsS71 w0 (W.setCell ⟨g, 1, none⟩ (.int .i64 x)) g f0 x := by
 obtain ⟨A0, c0, hb, hg, hr0⟩ := h
 exact ⟨A0, c0, by simpa using blk_set hb 1 (.int .i64 x), hg, hr0⟩
theorem IsS71.new (w0 W : World) (A0 : Option Addr) (c0 : Nat) (f0 : List Int) (f1 : Int) (hB : Below w0.heap.size w0 W) (hr0 : Kd.C (Kd.int .u8) w0 A0 f0.length f0) : IsS71 w0 (W.alloc (.cells #[.slice A0 f0.length c0, .int .i64 f1] 73)) W.heap.size f0 f1 := ⟨A0, c0, by simpa using heap_alloc_new W _, hB.size, hr0⟩
theorem ia_ {w0 W : World} {g : Nat} {f0 : List Int} {f1 : Int} (h : IsS71 w0 W g f0 f1) (o : Obj) : IsS71 w0 (W.alloc o) g f0 f1 := h.alloc o
theorem in_ {w0 W : World} {g : Nat} {f0 : List Int} {f1 : Int} (h : IsS71 w0 W g f0 f1) (m : Nat) : IsS71 w0 (W.drewN m) g f0 f1 := h.drewN m
theorem id_ {w0 W : World} {g : Nat} {f0 : List Int} {f1 : Int} (h : IsS71 w0 W g f0 f1) : IsS71 w0 W.drew g f0 f1 := h.drew
theorem is_ {w0 W : World} {g : Nat} {f0 : List Int} {f1 : Int} (h : IsS71 w0 W g f0 f1) (x : Int) : IsS71 w0 (W.setCell ⟨g, 1, none⟩ (.int .i64 x)) g f0 x := h.set_1 x
/-! spec_newReader -/
def spec_newReader.f (l0 : List Int) : Option (List Int × Int) := if (l0.length : Int) > 2000 then (if 2000 ≤ (l0.length : Int) then (some (l0.take 2000, 0)) else (none)) else (some (l0, 0))
set_option maxHeartbeats 8000000 in
set_option maxRecDepth 100000 in
theorem spec_newReader.calls (A0 : Option Addr) (c0 : Nat) (l0 : List Int) (r1 : List Int) (r2 : Int) (w0 w : World) (hB : Below w0.heap.size w0 w) (hr0 : Kd.C (Kd.int .u8) w0 A0 l0.length l0) (hc0 : l0.length ≤ c0) (h : spec_newReader.f l0 = some (r1, r2)) :
  Calls Tryd.prog 21 #[.slice A0 l0.length c0] w fun e w' => ∃ g_ : Nat, e = .returned (.pointer (some ⟨g_, 0, none⟩)) ∧ IsS71 w0 w' g_ r1 r2 ∧ Below w0.heap.size w0 w' ∧ Below w.heap.size w w' := by
 have hu73 := Tryd.underlying73
 have HR0 := mk0 hr0
 have HC0 := mk0 hc0
 clear hr0 hc0
 have HBW := mk0 (Below.refl w.heap.size w)
 have HW0 := mk0 hB.size
 have HB := mk0 hB
 clear hB
 have H : (if (l0.length : Int) > 2000 then (if 2000 ≤ (l0.length : Int) then (some (l0.take 2000, 0)) else (none)) else (some (l0, 0))) = some (r1, r2) := h
 clear h
 by_cases c2 : (l0.length : Int) > 2000
 ·
  rw [if_pos c2] at H
  have c2b0 : decide (2000 < (l0.length : Int)) = true := decide_eq_true c2
  have c2b1 : decide (2000 < l0.length) = true := decide_eq_true (by omega)
  clear c2
  by_cases c3 : 2000 ≤ (l0.length : Int)
  ·
   rw [if_pos c3] at H
   have c3b0 := eq_true c3
   have c3b1 : decide (2000 ≤ (l0.length : Int)) = true := decide_eq_true c3
   clear c3
   simp only [Option.some.injEq, Prod.mk.injEq] at H
   obtain ⟨rfl, rfl⟩ := H
   obtain ⟨i04, hi04, _, hsz4, _⟩ := info_parts info5
   obtain ⟨hcut4, hA4, hC4⟩ := print_take_of (P := Tryd.prog) (Value.int .u8) 0 22 5 .i64 Tryd.underlying22 hi04 hsz4 A0 c0 l0 2000 (by omega) (od_ (by with_reducible assumption)) HC0.out
   have HR123 := mk0 (Kd.C_of_reads (h1 := fun _ => rfl) (hA4 _ (Kd.reads_of_C HR0.out)))
   have HC123 := mk0 hC4
   clear hA4 hC4 hi04 hsz4
   go_enter Tryd.func21, Tryd.ntmps21
   go_wp2_with (first | ((with_reducible refine gate_dst (N := 10) rfl ?_); refine box_event ?hg (N := 10) ?hd (cs := #[.slice A0 (l0.take 2000).length c0, .int .i64 0]) (t := 73) ?hr ?_; (case hd => rfl); (case hg => rfl); (case hr => first | (go_simp; done) | (go_simp; rfl)); intro gb124 hg w5 hbox hb; replace HB := mk0 (below_step (by with_reducible repeat (first | exact HB.out | apply ba_ | apply bn_ | apply bd_)) hb); have BK124 := mk0 (hbox); have GW124 := mk0 ((by rw [hg]; exact (below_size (by repeat (first | (with_reducible first | exact HBW.out | apply ba_ | apply bn_ | apply bd_) | exact HBW.out))) : w.heap.size ≤ gb124)); have GE124 := mk0 ((Nat.le_trans HW0.out (by rw [hg]; exact (below_size (by repeat (first | (with_reducible first | exact HBW.out | apply ba_ | apply bn_ | apply bd_) | exact HBW.out))) : w.heap.size ≤ gb124) : w0.heap.size ≤ gb124)); replace HBW := mk0 (below_step HBW.out hb); clear hb hbox hg))
   go_ret
   exact ⟨_, rfl, (show IsS71 w0 _ gb124 (l0.take 2000) 0 from ⟨_, _, by (with_reducible repeat (first | refine blk_drewN ?_ _ | refine blk_drew ?_ | refine blk_alloc ?_ _)); exact BK124.out, GE124.out, HR123.out⟩), by with_reducible repeat (first | exact HB.out | apply ba_ | apply bn_ | apply bd_ | refine below_set ?_ GE124.out), by repeat (first | (with_reducible first | exact HBW.out | apply ba_ | apply bn_ | apply bd_ | refine below_set ?_ GW124.out) | exact HBW.out)⟩
  ·
   rw [if_neg c3] at H
   exact nn_ H
 ·
  rw [if_neg c2] at H
  have c2b0 : decide (2000 < (l0.length : Int)) = false := decide_eq_false c2
  have c2b1 : decide (2000 < l0.length) = false := decide_eq_false (by omega)
  clear c2
  simp only [Option.some.injEq, Prod.mk.injEq] at H
  obtain ⟨rfl, rfl⟩ := H
  go_enter Tryd.func21, Tryd.ntmps21
  go_wp2_with (first | ((with_reducible refine gate_dst (N := 10) rfl ?_); refine box_event ?hg (N := 10) ?hd (cs := #[.slice A0 l0.length c0, .int .i64 0]) (t := 73) ?hr ?_; (case hd => rfl); (case hg => rfl); (case hr => first | (go_simp; done) | (go_simp; rfl)); intro gb125 hg w6 hbox hb; replace HB := mk0 (below_step (by with_reducible repeat (first | exact HB.out | apply ba_ | apply bn_ | apply bd_)) hb); have BK125 := mk0 (hbox); have GW125 := mk0 ((by rw [hg]; exact (below_size (by repeat (first | (with_reducible first | exact HBW.out | apply ba_ | apply bn_ | apply bd_) | exact HBW.out))) : w.heap.size ≤ gb125)); have GE125 := mk0 ((Nat.le_trans HW0.out (by rw [hg]; exact (below_size (by repeat (first | (with_reducible first | exact HBW.out | apply ba_ | apply bn_ | apply bd_) | exact HBW.out))) : w.heap.size ≤ gb125) : w0.heap.size ≤ gb125)); replace HBW := mk0 (below_step HBW.out hb); clear hb hbox hg))
  go_ret
  exact ⟨_, rfl, (show IsS71 w0 _ gb125 l0 0 from ⟨_, _, by (with_reducible repeat (first | refine blk_drewN ?_ _ | refine blk_drew ?_ | refine blk_alloc ?_ _)); exact BK125.out, GE125.out, HR0.out⟩), by with_reducible repeat (first | exact HB.out | apply ba_ | apply bn_ | apply bd_ | refine below_set ?_ GE125.out), by repeat (first | (with_reducible first | exact HBW.out | apply ba_ | apply bn_ | apply bd_ | refine below_set ?_ GW125.out) | exact HBW.out)⟩
/-! spec_reader_pick -/
def spec_reader_pick.j0 : Nat → Int → Bool → List Int → Int → Option (Int × Int)
 | 0, _, _, _, _ => none
 | k + 1, x1, x24, x1000, x1001 => if x24 = true then (some (0, x1001)) else (if (wrap64 (x1001 - 1)) < (x1000.length : Int) then (if 0 ≤ (wrap64 (x1001 - 1)) then (if x1 = 0 then (none) else (some (Int.tmod (wrap64 (rd x1000 (wrap64 (x1001 - 1)))) x1, x1001))) else (none)) else (if (x1000.length : Int) = 0 then (none) else (if 0 ≤ (Int.tmod (wrap64 (x1001 - 1)) (x1000.length : Int)) then (if (Int.tmod (wrap64 (x1001 - 1)) (x1000.length : Int)) < (x1000.length : Int) then (if 0 ≤ (Int.tmod (wrap64 ((wrap64 ((wrap64 (x1001 - 1)) * 7)) + 3)) (x1000.length : Int)) then (if (Int.tmod (wrap64 ((wrap64 ((wrap64 (x1001 - 1)) * 7)) + 3)) (x1000.length : Int)) < (x1000.length : Int) then (if x1 = 0 then (none) else (some (Int.tmod (Go.bits .xor .i64 (wrap64 ((wrap64 ((wrap64 ((wrap64 ((wrap64 (rd x1000 (Int.tmod (wrap64 (x1001 - 1)) (x1000.length : Int)))) * 131)) + (wrap64 ((wrap64 (rd x1000 (Int.tmod (wrap64 ((wrap64 ((wrap64 (x1001 - 1)) * 7)) + 3)) (x1000.length : Int)))) * 1117)))) + (wrap64 ((wrap64 (x1001 - 1)) * 29)))) + (wrap64 ((wrap64 (Int.tdiv (wrap64 (x1001 - 1)) (x1000.length : Int))) * 53)))) (wrap64 (Int.tdiv (wrap64 ((wrap64 ((wrap64 ((wrap64 ((wrap64 (rd x1000 (Int.tmod (wrap64 (x1001 - 1)) (x1000.length : Int)))) * 131)) + (wrap64 ((wrap64 (rd x1000 (Int.tmod (wrap64 ((wrap64 ((wrap64 (x1001 - 1)) * 7)) + 3)) (x1000.length : Int)))) * 1117)))) + (wrap64 ((wrap64 (x1001 - 1)) * 29)))) + (wrap64 ((wrap64 (Int.tdiv (wrap64 (x1001 - 1)) (x1000.length : Int))) * 53)))) 64))) x1, x1001))) else (none)) else (none)) else (none)) else (none))))
def spec_reader_pick.f (k : Nat) (s0_0 : List Int) (s0_1 : Int) (a1 : Int) : Option (Int × Int) := if a1 < 1 then (spec_reader_pick.j0 k a1 true s0_0 (wrap64 (s0_1 + 1))) else (spec_reader_pick.j0 k a1 ((s0_0.length : Int) == 0) s0_0 (wrap64 (s0_1 + 1)))
set_option maxHeartbeats 8000000 in
set_option maxRecDepth 100000 in
theorem spec_reader_pick.calls (k : Nat) (g : Nat) (s0_0 : List Int) (s0_1 : Int) (a1 : Int) (r1 : Int) (r2 : Int) (w0 w : World) (hI : IsS71 w0 w g s0_0 s0_1) (hB : Below w0.heap.size w0 w) (h : spec_reader_pick.f k s0_0 s0_1 a1 = some (r1, r2)) :
  Calls Tryd.prog 27 #[.pointer (some ⟨g, 0, none⟩), .int .i64 a1] w fun e w' => e = .returned (.int .i64 r1) ∧ IsS71 w0 w' g s0_0 r2 ∧ Below w0.heap.size w0 w' ∧ KeepBut w w' g none := by
 have HI0 := mk0 hI
 have HK := mk0 (KeepBut.refl w g none)
 have HL := mk0 hB.size
 clear hI
 have HW0 := mk0 hB.size
 have HB := mk0 hB
 clear hB
 have H : (if a1 < 1 then (spec_reader_pick.j0 k a1 true s0_0 (wrap64 (s0_1 + 1))) else (spec_reader_pick.j0 k a1 ((s0_0.length : Int) == 0) s0_0 (wrap64 (s0_1 + 1)))) = some (r1, r2) := h
 clear h
 have HC3 := mk0 H
 clear H
 obtain ⟨ASz4_0, cSz4_0, HGz4, hgz4, HSz4_0⟩ := HI0.out
 have hcz4_0 := cellS71_0 HGz4
 have hcz4_1 := cellS71_1 HGz4
 have hfz4_1 := blk_frozen HGz4 1
 clear HGz4 hgz4
 go_enter Tryd.func27, Tryd.ntmps27
 go_upto_region 2 with (fail)
 repeat (go_quiet (fail); go_upto_region 2 with (fail))
 go_cut [24] (fun v24 wc => ∃ (kq : Nat) (x24_2 : Bool), v24 = .bool x24_2 ∧ Aside0 (spec_reader_pick.j0 kq a1 x24_2 s0_0 (wrap64 (s0_1 + 1)) = some (r1, r2)) ∧ Aside0 (kq ≤ k) ∧ Aside0 (IsS71 w0 wc g s0_0 (wrap64 (s0_1 + 1))) ∧ Aside0 (KeepBut w wc g none) ∧ Aside0 (Below w0.heap.size w0 wc))
 case first =>
  have H := HC3.out
  clear HC3
  by_cases c5 : a1 < 1
  ·
   rw [if_pos c5] at H
   have c5b0 : decide (a1 < 1) = true := decide_eq_true c5
   clear c5
   (first | rw [c5b0] | (simp only [i64_w, i32_w]; rw [c5b0]) | skip)
   have H' := mk0 H
   clear H
   go_wp2
   repeat (go_quiet (fail); try go_wp2)
   go_meet
   case rel => exact ⟨_, (true), (by first | rfl | (simp; done) | (simp [*]; done)), H', ⟨by first | omega | exact Nat.le_refl _⟩, ⟨by with_reducible repeat (first | exact HI0.out | apply ia_ | apply in_ | apply id_ | apply is_)⟩, ⟨by with_reducible repeat (first | exact HK.out | apply ks_ | apply kn_ | apply kd_ | apply ka_)⟩, ⟨by with_reducible repeat (first | exact HB.out | apply ba_ | apply bn_ | apply bd_ | refine below_set ?_ (IsS71.ge HI0.out))⟩⟩
  ·
   rw [if_neg c5] at H
   have c5b0 : decide (a1 < 1) = false := decide_eq_false c5
   clear c5
   (first | rw [c5b0] | (simp only [i64_w, i32_w]; rw [c5b0]) | skip)
   have H' := mk0 H
   clear H
   obtain ⟨ASz6_0, cSz6_0, HGz6, hgz6, HSz6_0⟩ := HI0.out
   have hcz6_0 := cellS71_0 HGz6
   have hcz6_1 := cellS71_1 HGz6
   have hfz6_1 := blk_frozen HGz6 1
   clear HGz6 hgz6
   go_wp2
   repeat (go_quiet (fail); try go_wp2)
   go_meet
   case rel => exact ⟨_, (((s0_0.length : Int) == 0)), (by first | rfl | (simp; done) | (simp [*]; done)), H', ⟨by first | omega | exact Nat.le_refl _⟩, ⟨by with_reducible repeat (first | exact HI0.out | apply ia_ | apply in_ | apply id_ | apply is_)⟩, ⟨by with_reducible repeat (first | exact HK.out | apply ks_ | apply kn_ | apply kd_ | apply ka_)⟩, ⟨by with_reducible repeat (first | exact HB.out | apply ba_ | apply bn_ | apply bd_ | refine below_set ?_ (IsS71.ge HI0.out))⟩⟩
 case rest =>
  clear HC3
  try clear c2
  try clear p2
  try clear c5
  try clear c5b0
  try clear p6
  try clear hcz4_0
  try clear hcz4_1
  try clear hcz6_0
  try clear hcz6_1
  try clear hfz4_1
  try clear hfz6_1
  obtain ⟨kq, x24_2, rfl, HA, HJ2, HI0, HK, HB⟩ := hcut
  cases kq with
  | zero => exact absurd HA.out (by simp [spec_reader_pick.j0])
  | succ kj2 =>
   have H := HA.out
   clear HA
   simp only [spec_reader_pick.j0] at H
   by_cases c7 : x24_2 = true
   ·
    subst c7
    rw [if_pos rfl] at H
    simp only [Option.some.injEq, Prod.mk.injEq] at H
    obtain ⟨rfl, rfl⟩ := H
    go_wp2
    repeat (go_quiet (fail); try go_wp2)
    go_ret
    exact ⟨by first | rfl | (simp [errW_none, errW_some] <;> rfl) | (simp [*, errW_none, errW_some] <;> rfl), by with_reducible repeat (first | exact HI0.out | apply ia_ | apply in_ | apply id_ | apply is_), by with_reducible repeat (first | exact HB.out | apply ba_ | apply bn_ | apply bd_ | refine below_set ?_ (IsS71.ge HI0.out)), by with_reducible repeat (first | exact HK.out | apply ks_ | apply kn_ | apply kd_ | apply ka_)⟩
   ·
    replace c7 := Bool.eq_false_iff.mpr c7
    subst c7
    rw [if_neg (show ¬ (false = true) by decide)] at H
    by_cases c8 : (wrap64 ((wrap64 (s0_1 + 1)) - 1)) < (s0_0.length : Int)
    ·
     rw [if_pos c8] at H
     have c8b0 : decide ((wrap64 ((wrap64 (s0_1 + 1)) - 1)) < (s0_0.length : Int)) = true := decide_eq_true c8
     clear c8
     obtain ⟨ji9, hji9⟩ : ∃ j_ : Int, (wrap64 ((wrap64 (s0_1 + 1)) - 1)) = j_ := ⟨_, rfl⟩
     replace H : (if 0 ≤ (ji9) then (if a1 = 0 then (none) else (some (Int.tmod (wrap64 (rd s0_0 (ji9))) a1, (wrap64 (s0_1 + 1))))) else (none)) = some (r1, r2) := by first | (rw [hji9] at H; exact H) | (simp only [hji9] at H ⊢; exact H)
     (try rw [hji9] at c8b0)
     have hji9w : (IntKind.i64.wrap ((wrap64 (s0_1 + 1)) - 1)) = ji9 := (i64_w _).trans hji9
     by_cases c10 : 0 ≤ (ji9)
     ·
      rw [if_pos c10] at H
      have c10b0 : decide (0 ≤ (ji9)) = true := decide_eq_true c10
      clear c10
      by_cases c11 : a1 = 0
      ·
       rw [if_pos c11] at H
       exact nn_ H
      ·
       rw [if_neg c11] at H
       have c11b0 : (a1 == 0) = false := beq_eq_false_iff_ne.mpr c11
       have c11b1 : (a1 != 0) = true := bne_iff_ne.mpr c11
       simp only [Option.some.injEq, Prod.mk.injEq] at H
       obtain ⟨rfl, rfl⟩ := H
       obtain ⟨ASz12_0, cSz12_0, HGz12, hgz12, HSz12_0⟩ := HI0.out
       have hcz12_0 := cellS71_0 HGz12
       have hcz12_1 := cellS71_1 HGz12
       have hfz12_1 := blk_frozen HGz12 1
       clear HGz12 hgz12
       have p126 : 0 ≤ ((ji9) : Int) := od_ (by with_reducible assumption)
       have q126 : (ji9) < (s0_0.length : Int) := od_ (by with_reducible assumption)
       obtain ⟨ad126, e126, hx126_0⟩ := Kd.at_int HSz12_0 (ji9) p126 q126
       cases e126
       replace hx126_0 := pw_cell_below HB.out hx126_0
       replace p126 := eq_true p126
       replace q126 := eq_true q126
       go_wp2
       repeat (go_quiet (fail); try go_wp2)
       go_ret
       exact ⟨by first | rfl | (simp [errW_none, errW_some] <;> rfl) | (simp only [← hji9]; first | rfl | (simp [errW_none, errW_some] <;> rfl)) | (simp [*, errW_none, errW_some] <;> rfl), by with_reducible repeat (first | exact HI0.out | apply ia_ | apply in_ | apply id_ | apply is_), by with_reducible repeat (first | exact HB.out | apply ba_ | apply bn_ | apply bd_ | refine below_set ?_ (IsS71.ge HI0.out)), by with_reducible repeat (first | exact HK.out | apply ks_ | apply kn_ | apply kd_ | apply ka_)⟩
     ·
      rw [if_neg c10] at H
      exact nn_ H
    ·
     rw [if_neg c8] at H
     have c8b0 : decide ((wrap64 ((wrap64 (s0_1 + 1)) - 1)) < (s0_0.length : Int)) = false := decide_eq_false c8
     clear c8
     by_cases c13 : (s0_0.length : Int) = 0
     ·
      rw [if_pos c13] at H
      exact nn_ H
     ·
      rw [if_neg c13] at H
      have c13b0 : ((s0_0.length : Int) == 0) = false := beq_eq_false_iff_ne.mpr c13
      have c13b1 : ((s0_0.length : Int) != 0) = true := bne_iff_ne.mpr c13
      have c13b2 : ¬ (s0_0 = []) := fun h_ => c13 (by rw [h_]; rfl)
      obtain ⟨ji14, hji14⟩ : ∃ j_ : Int, (Int.tmod (wrap64 ((wrap64 (s0_1 + 1)) - 1)) (s0_0.length : Int)) = j_ := ⟨_, rfl⟩
      replace H : (if 0 ≤ (ji14) then (if (ji14) < (s0_0.length : Int) then (if 0 ≤ (Int.tmod (wrap64 ((wrap64 ((wrap64 ((wrap64 (s0_1 + 1)) - 1)) * 7)) + 3)) (s0_0.length : Int)) then (if (Int.tmod (wrap64 ((wrap64 ((wrap64 ((wrap64 (s0_1 + 1)) - 1)) * 7)) + 3)) (s0_0.length : Int)) < (s0_0.length : Int) then (if a1 = 0 then (none) else (some (Int.tmod (Go.bits .xor .i64 (wrap64 ((wrap64 ((wrap64 ((wrap64 ((wrap64 (rd s0_0 (ji14))) * 131)) + (wrap64 ((wrap64 (rd s0_0 (Int.tmod (wrap64 ((wrap64 ((wrap64 ((wrap64 (s0_1 + 1)) - 1)) * 7)) + 3)) (s0_0.length : Int)))) * 1117)))) + (wrap64 ((wrap64 ((wrap64 (s0_1 + 1)) - 1)) * 29)))) + (wrap64 ((wrap64 (Int.tdiv (wrap64 ((wrap64 (s0_1 + 1)) - 1)) (s0_0.length : Int))) * 53)))) (wrap64 (Int.tdiv (wrap64 ((wrap64 ((wrap64 ((wrap64 ((wrap64 (rd s0_0 (ji14))) * 131)) + (wrap64 ((wrap64 (rd s0_0 (Int.tmod (wrap64 ((wrap64 ((wrap64 ((wrap64 (s0_1 + 1)) - 1)) * 7)) + 3)) (s0_0.length : Int)))) * 1117)))) + (wrap64 ((wrap64 ((wrap64 (s0_1 + 1)) - 1)) * 29)))) + (wrap64 ((wrap64 (Int.tdiv (wrap64 ((wrap64 (s0_1 + 1)) - 1)) (s0_0.length : Int))) * 53)))) 64))) a1, (wrap64 (s0_1 + 1))))) else (none)) else (none)) else (none)) else (none)) = some (r1, r2) := by first | (rw [hji14] at H; exact H) | (simp only [hji14] at H ⊢; exact H)
      by_cases c15 : 0 ≤ (ji14)
      ·
       rw [if_pos c15] at H
       have c15b0 : decide (0 ≤ (ji14)) = true := decide_eq_true c15
       clear c15
       by_cases c16 : (ji14) < (s0_0.length : Int)
       ·
        rw [if_pos c16] at H
        have c16b0 : decide ((ji14) < (s0_0.length : Int)) = true := decide_eq_true c16
        clear c16
        obtain ⟨ji17, hji17⟩ : ∃ j_ : Int, (Int.tmod (wrap64 ((wrap64 ((wrap64 ((wrap64 (s0_1 + 1)) - 1)) * 7)) + 3)) (s0_0.length : Int)) = j_ := ⟨_, rfl⟩
        replace H : (if 0 ≤ (ji17) then (if (ji17) < (s0_0.length : Int) then (if a1 = 0 then (none) else (some (Int.tmod (Go.bits .xor .i64 (wrap64 ((wrap64 ((wrap64 ((wrap64 ((wrap64 (rd s0_0 (ji14))) * 131)) + (wrap64 ((wrap64 (rd s0_0 (ji17))) * 1117)))) + (wrap64 ((wrap64 ((wrap64 (s0_1 + 1)) - 1)) * 29)))) + (wrap64 ((wrap64 (Int.tdiv (wrap64 ((wrap64 (s0_1 + 1)) - 1)) (s0_0.length : Int))) * 53)))) (wrap64 (Int.tdiv (wrap64 ((wrap64 ((wrap64 ((wrap64 ((wrap64 (rd s0_0 (ji14))) * 131)) + (wrap64 ((wrap64 (rd s0_0 (ji17))) * 1117)))) + (wrap64 ((wrap64 ((wrap64 (s0_1 + 1)) - 1)) * 29)))) + (wrap64 ((wrap64 (Int.tdiv (wrap64 ((wrap64 (s0_1 + 1)) - 1)) (s0_0.length : Int))) * 53)))) 64))) a1, (wrap64 (s0_1 + 1))))) else (none)) else (none)) = some (r1, r2) := by first | (rw [hji17] at H; exact H) | (simp only [hji17] at H ⊢; exact H)
        by_cases c18 : 0 ≤ (ji17)
        ·
         rw [if_pos c18] at H
         have c18b0 : decide (0 ≤ (ji17)) = true := decide_eq_true c18
         clear c18
         by_cases c19 : (ji17) < (s0_0.length : Int)
         ·
          rw [if_pos c19] at H
          have c19b0 : decide ((ji17) < (s0_0.length : Int)) = true := decide_eq_true c19
          clear c19
          by_cases c20 : a1 = 0
          ·
           rw [if_pos c20] at H
           exact nn_ H
          ·
           rw [if_neg c20] at H
           have c20b0 : (a1 == 0) = false := beq_eq_false_iff_ne.mpr c20
           have c20b1 : (a1 != 0) = true := bne_iff_ne.mpr c20
           simp only [Option.some.injEq, Prod.mk.injEq] at H
           obtain ⟨rfl, rfl⟩ := H
           obtain ⟨ASz21_0, cSz21_0, HGz21, hgz21, HSz21_0⟩ := HI0.out
           have hcz21_0 := cellS71_0 HGz21
           have hcz21_1 := cellS71_1 HGz21
           have hfz21_1 := blk_frozen HGz21 1
           clear HGz21 hgz21
           have p127 : 0 ≤ ((ji14) : Int) := od_ (by with_reducible assumption)
           have q127 : (ji14) < (s0_0.length : Int) := od_ (by with_reducible assumption)
           obtain ⟨ad127, e127, hx127_0⟩ := Kd.at_int HSz21_0 (ji14) p127 q127
           cases e127
           replace hx127_0 := pw_cell_below HB.out hx127_0
           replace p127 := eq_true p127
           replace q127 := eq_true q127
           have p128 : 0 ≤ ((ji17) : Int) := od_ (by with_reducible assumption)
           have q128 : (ji17) < (s0_0.length : Int) := od_ (by with_reducible assumption)
           obtain ⟨ad128, e128, hx128_0⟩ := Kd.at_int HSz21_0 (ji17) p128 q128
           obtain rfl : ad127 = ad128 := (by injection e128)
           replace hx128_0 := pw_cell_below HB.out hx128_0
           replace p128 := eq_true p128
           replace q128 := eq_true q128
           go_wp2
           repeat (go_quiet (fail); try go_wp2)
           go_ret
           exact ⟨by first | rfl | (simp [errW_none, errW_some] <;> rfl) | (simp only [← hji14, ← hji17]; first | rfl | (simp [errW_none, errW_some] <;> rfl)) | (simp [*, errW_none, errW_some] <;> rfl), by with_reducible repeat (first | exact HI0.out | apply ia_ | apply in_ | apply id_ | apply is_), by with_reducible repeat (first | exact HB.out | apply ba_ | apply bn_ | apply bd_ | refine below_set ?_ (IsS71.ge HI0.out)), by with_reducible repeat (first | exact HK.out | apply ks_ | apply kn_ | apply kd_ | apply ka_)⟩
         ·
          rw [if_neg c19] at H
          exact nn_ H
        ·
         rw [if_neg c18] at H
         exact nn_ H
       ·
        rw [if_neg c16] at H
        exact nn_ H
      ·
       rw [if_neg c15] at H
       exact nn_ H
/-! spec_reader_one -/
def spec_reader_one.f (k : Nat) (s0_0 : List Int) (s0_1 : Int) (l1 : List Int) : Option (Int × Int) := (spec_reader_pick.f k s0_0 s0_1 (l1.length : Int)).bind fun bt135 => (if 0 ≤ bt135.1 then (if bt135.1 < (l1.length : Int) then (some (rd l1 bt135.1, bt135.2)) else (none)) else (none))
set_option maxHeartbeats 8000000 in
set_option maxRecDepth 100000 in
theorem spec_reader_one.calls (k : Nat) (g : Nat) (s0_0 : List Int) (s0_1 : Int) (A1 : Option Addr) (c1 : Nat) (l1 : List Int) (r1 : Int) (r2 : Int) (w0 w : World) (hI : IsS71 w0 w g s0_0 s0_1) (hB : Below w0.heap.size w0 w) (hr1 : Kd.C (Kd.int .i64) w A1 l1.length l1) (hc1 : l1.length ≤ c1) (hf1 : ∀ ad, A1 = some ad → 0 < l1.length → ad.block ≠ g) (h : spec_reader_one.f k s0_0 s0_1 l1 = some (r1, r2)) :
  Calls Tryd.prog 49 #[.pointer (some ⟨g, 0, none⟩), .slice A1 l1.length c1] w fun e w' => e = .returned (.int .i64 r1) ∧ IsS71 w0 w' g s0_0 r2 ∧ Below w0.heap.size w0 w' ∧ KeepBut w w' g none := by
 have HR1 := mk0 hr1
 have HC1 := mk0 hc1
 clear hr1 hc1
 have HI0 := mk0 hI
 have HK := mk0 (KeepBut.refl w g none)
 have HL := mk0 hB.size
 clear hI
 have HW0 := mk0 hB.size
 have HB := mk0 hB
 clear hB
 have H : ((spec_reader_pick.f k s0_0 s0_1 (l1.length : Int)).bind fun bt135 => (if 0 ≤ bt135.1 then (if bt135.1 < (l1.length : Int) then (some (rd l1 bt135.1, bt135.2)) else (none)) else (none))) = some (r1, r2) := h
 clear h
 replace H := bE_ H
 obtain ⟨⟨t135, t136⟩, A30, H⟩ := H
 have A3 := mk0 A30
 clear A30
 by_cases c4 : 0 ≤ t135
 ·
  rw [if_pos c4] at H
  have c4b0 : decide (0 ≤ t135) = true := decide_eq_true c4
  clear c4
  by_cases c5 : t135 < (l1.length : Int)
  ·
   rw [if_pos c5] at H
   have c5b0 : decide (t135 < (l1.length : Int)) = true := decide_eq_true c5
   clear c5
   simp only [Option.some.injEq, Prod.mk.injEq] at H
   obtain ⟨rfl, rfl⟩ := H
   go_enter Tryd.func49, Tryd.ntmps49
   go_wp2_with (first | ((with_reducible refine gate_callee (f := 27) rfl ?_); refine goesL_ (some 9) rfl rfl Tryd.func27 (by kernel_rfl) rfl #[.pointer (some ⟨g, 0, none⟩), .int .i64 (l1.length : Int)] rfl (by (try simp only [List.map_toArray, List.map_cons, List.map_nil]); first | done | rfl | (simp only [List.length_drop, List.length_take]; rfl)) ?_; (with_reducible refine (spec_reader_pick.calls k g s0_0 s0_1 (l1.length : Int) t135 t136 w0 _ ?side1 ?side2 A3.out).mono ?_); (case side1 => with_reducible repeat (first | exact HI0.out | apply ia_ | apply in_ | apply id_ | apply is_)); (case side2 => with_reducible repeat (first | exact HB.out | apply ba_ | apply bn_ | apply bd_ | refine below_set ?_ (IsS71.ge HI0.out))); rintro e w6 ⟨rfl, hi, hb, hk⟩; refine ⟨_, rfl, ?_⟩; replace HK := mk0 (KeepBut.trans (by with_reducible repeat (first | exact HK.out | apply ks_ | apply kn_ | apply kd_ | apply ka_)) hk (.inl rfl)); replace HB := mk0 (hb); replace HI0 := mk0 (hi); clear hb hk hi; have p137 : 0 ≤ (t135 : Int) := od_ (by with_reducible assumption); have q137 : t135 < (l1.length : Int) := od_ (by with_reducible assumption); obtain ⟨ad137, e137, hx137_0⟩ := Kd.at_int HR1.out t135 p137 q137; cases e137; replace hx137_0 := keep_cell HK.out hx137_0 (by first | (rw [add_block]; exact hf1 _ rfl (by omega)) | exact hf1 _ rfl (by omega) | exact hf1 ad137 rfl (by omega)); replace p137 := eq_true p137; replace q137 := eq_true q137))
   go_ret
   exact ⟨by first | rfl | (simp [errW_none, errW_some] <;> rfl) | (simp [*, errW_none, errW_some] <;> rfl), by with_reducible repeat (first | exact HI0.out | apply ia_ | apply in_ | apply id_ | apply is_), by with_reducible repeat (first | exact HB.out | apply ba_ | apply bn_ | apply bd_ | refine below_set ?_ (IsS71.ge HI0.out)), by with_reducible repeat (first | exact HK.out | apply ks_ | apply kn_ | apply kd_ | apply ka_)⟩
  ·
   rw [if_neg c5] at H
   exact nn_ H
 ·
  rw [if_neg c4] at H
  exact nn_ H
/-! spec_turned -/
mutual
def spec_turned.l0 : Nat → List (S41) → List (S41) → Int → Int → Option ((List (S41)))
 | 0, _, _, _, _ => none
 | k + 1, x0, x3, x4, x5 => if x5 ≥ 0 then (if 0 ≤ x5 then (if x5 < (x0.length : Int) then (spec_turned.l1 k x0 x3 x4 x5 (([] : List Int)) (wrap64 ((((rd_T41 x0 x5).f1).length : Int) - 1)) ((rd_T41 x0 x5).f0) ((rd_T41 x0 x5).f1) ((rd_T41 x0 x5).f2) ((rd_T41 x0 x5).f3)) else (none)) else (none)) else (some x3)
def spec_turned.l1 : Nat → List (S41) → List (S41) → Int → Int → List Int → Int → Int → List Int → Int → Int → Option ((List (S41)))
 | 0, _, _, _, _, _, _, _, _, _, _ => none
 | k + 1, x0, x3, x4, x5, x7, x8, x162000, x162001, x162002, x162003 => if x8 ≥ 0 then (if 0 ≤ x8 then (if x8 < (x162001.length : Int) then (if x7.length < 17592186044416 then (spec_turned.l1 k x0 x3 x4 x5 (x7 ++ [wrap64 (x4 - (rd x162001 x8))]) (wrap64 (x8 - 1)) x162000 x162001 x162002 x162003) else (none)) else (none)) else (none)) else (if x3.length < 2932031007402 then (spec_turned.l0 k x0 (x3 ++ [(⟨x162000, x7, x162002, x162003⟩ : S41)]) x4 (wrap64 (x5 - 1))) else (none))
end
def spec_turned.f (k : Nat) (l0 : List (S41)) : Option ((List (S41))) := spec_turned.l0 k l0 (([] : List (S41))) (wrap64 ((l0.length : Int) - 1)) (wrap64 ((l0.length : Int) - 1))
set_option maxHeartbeats 8000000 in
set_option maxRecDepth 100000 in
theorem spec_turned.calls (k : Nat) (A0 : Option Addr) (c0 : Nat) (l0 : List (S41)) (r : List (S41)) (w : World) (hr0 : Kd.C k41 w A0 l0.length l0) (hc0 : l0.length ≤ c0) (h : spec_turned.f k l0 = some r) :
  Calls Tryd.prog 68 #[.slice A0 l0.length c0] w fun e w' => ∃ v0_ : Value, e = .returned (v0_) ∧ Kd.S k41 45 w' w.heap.size (fun _ => True) v0_ r ∧ Below w.heap.size w w' := by
 have hu45 := Tryd.underlying45
 have HR0 := mk0 hr0
 have HC0 := mk0 hc0
 clear hr0 hc0
 have HB := mk0 (Below.refl w.heap.size w)
 have H : (spec_turned.l0 k l0 (([] : List (S41))) (wrap64 ((l0.length : Int) - 1)) (wrap64 ((l0.length : Int) - 1))) = some r := h
 clear h
 obtain ⟨y157, hy157⟩ : ∃ y_ : List (S41), y_ = (([] : List (S41))) := ⟨_, rfl⟩
 replace H : (spec_turned.l0 k l0 y157 (wrap64 ((l0.length : Int) - 1)) (wrap64 ((l0.length : Int) - 1))) = some r := by first | (rw [hy157]; with_reducible exact H) | (rw [hy157]; exact (Option.bind_some _ _).symm.trans H) | (rw [hy157]; exact H) | exact H
 have Ny157 := mk0 hy157
 clear hy157
 have H' := mk0 H
 clear H
 go_enter Tryd.func68, Tryd.ntmps68
 go_wp2_with (first | ((with_reducible refine gate_dst (N := 9) rfl ?_); refine Kd.S_lit k41 _ 45 ?hg (N := 9) ?hd (xs := ([] : List (S41))) (inner := []) (ok := fun _ => True) (okp := fun _ => True) ?hr ?hp (fun _ hk => hk) trivial (Below.refl _ _) (Nat.le_refl _) (by simp) ?_; (case hd => rfl); (case hg => rfl); (case hr => first | (go_simp; done) | (go_simp; rfl)); (case hp => exact (Reps.none _ _)); intro v158 w2 ho3 hb hg_ hnew_; clear hg_ hnew_; (first | rw [← Ny157.out] at ho3 | (simp only [Int.reduceToNat] at ho3; rw [← Ny157.out] at ho3)); have HO159 := mk0 (Kd.S_lower ho3 (below_size (by with_reducible repeat (first | exact HB.out | apply ba_ | apply bn_ | apply bd_)))); replace HB := mk0 (below_step (by with_reducible repeat (first | exact HB.out | apply ba_ | apply bn_ | apply bd_)) hb); clear hb ho3))
 go_loopg [3, 5] k (fun kq v3 v5 w' => ∃ (x3_1 : List (S41)) (x5_1 : Int), v5 = .int .i64 x5_1 ∧ Aside0 (spec_turned.l0 kq l0 x3_1 (wrap64 ((l0.length : Int) - 1)) x5_1 = some r) ∧ Aside0 (kq ≤ k) ∧ Aside0 (Kd.S k41 45 w' w.heap.size (fun _ => True) v3 x3_1) ∧ Aside0 (Below w.heap.size w w'))
 case atStart => exact ⟨(y157), (wrap64 ((l0.length : Int) - 1)), (by first | rfl | (simp; done) | (simp [*]; done)), H', ⟨Nat.le_refl _⟩, ⟨by (with_reducible repeat (first | apply Sa_ | apply Sn_ | apply Sd_)); exact HO159.out⟩, ⟨by with_reducible repeat (first | exact HB.out | apply ba_ | apply bn_ | apply bd_)⟩⟩
 case round =>
  clear H'
  try clear p2
  obtain ⟨x3_1, x5_1, rfl, HA, HK1, HO_3, HB⟩ := hrel
  cases gk with
  | zero => exact absurd HA.out (by simp [spec_turned.l0])
  | succ k1 =>
   have H := HA.out
   clear HA
   simp only [spec_turned.l0] at H
   by_cases c4 : x5_1 ≥ 0
   ·
    rw [if_pos c4] at H
    have c4b0 : decide (0 ≤ x5_1) = true := decide_eq_true c4
    clear c4
    by_cases c5 : 0 ≤ x5_1
    ·
     rw [if_pos c5] at H
     have c5b0 : decide (0 ≤ x5_1) = true := decide_eq_true c5
     clear c5
     by_cases c6 : x5_1 < (l0.length : Int)
     ·
      rw [if_pos c6] at H
      have c6b0 : decide (x5_1 < (l0.length : Int)) = true := decide_eq_true c6
      clear c6
      obtain ⟨y162, hy162⟩ : ∃ y_ : List Int, y_ = (([] : List Int)) := ⟨_, rfl⟩
      replace H : (spec_turned.l1 k1 l0 x3_1 (wrap64 ((l0.length : Int) - 1)) x5_1 y162 (wrap64 ((((rd_T41 l0 x5_1).f1).length : Int) - 1)) ((rd_T41 l0 x5_1).f0) ((rd_T41 l0 x5_1).f1) ((rd_T41 l0 x5_1).f2) ((rd_T41 l0 x5_1).f3)) = some r := by first | (rw [hy162]; with_reducible exact H) | (rw [hy162]; exact (Option.bind_some _ _).symm.trans H) | (rw [hy162]; exact H) | exact H
      have Ny162 := mk0 hy162
      clear hy162
      have H' := mk0 H
      clear H
      have p160 : 0 ≤ (x5_1 : Int) := od_ (by with_reducible assumption)
      have q160 : x5_1 < (l0.length : Int) := od_ (by with_reducible assumption)
      obtain ⟨ad160, A160_1, c160_1, e160, hx160_0, hx160_1, hx160_2, hx160_3, hl160_1, hi160_1⟩ := at_T41 HR0.out x5_1 p160 q160
      cases e160
      replace hx160_0 := (HB.out.cell (World.block_lt_of_cell? w _ hx160_0)).trans hx160_0
      replace hx160_1 := (HB.out.cell (World.block_lt_of_cell? w _ hx160_1)).trans hx160_1
      replace hx160_2 := (HB.out.cell (World.block_lt_of_cell? w _ hx160_2)).trans hx160_2
      replace hx160_3 := (HB.out.cell (World.block_lt_of_cell? w _ hx160_3)).trans hx160_3
      have HR160_1 := mk0 hi160_1
      have HC160_1 := mk0 hl160_1
      clear hi160_1 hl160_1
      replace p160 := eq_true p160
      replace q160 := eq_true q160
      go_wp2_with (first | ((with_reducible refine gate_dst (N := 6) rfl ?_); refine box_event ?hg (N := 6) ?hd (cs := #[.int .i64 0, .slice none 0 0, .int .i64 0, .int .i64 0]) (t := 45) ?hr ?_; (case hd => rfl); (case hg => rfl); (case hr => first | (go_simp; done) | (go_simp; rfl)); intro gb161 hg w7 hbox hb; replace HO_3 := mk0 (Kd.S_below (Kd.S_elderB (by (with_reducible repeat (first | apply Sa_ | apply Sn_ | apply Sd_)); exact HO_3.out) gb161 (Nat.le_of_eq hg.symm)) hb); have BK161 := mk0 (hbox); have GW161 := mk0 ((by rw [hg]; exact (below_size (by with_reducible repeat (first | exact HB.out | apply ba_ | apply bn_ | apply bd_))) : w.heap.size ≤ gb161)); have GE161 := mk0 ((by rw [hg]; exact (below_size (by with_reducible repeat (first | exact HB.out | apply ba_ | apply bn_ | apply bd_))) : w.heap.size ≤ gb161)); replace HB := mk0 (below_step (by with_reducible repeat (first | exact HB.out | apply ba_ | apply bn_ | apply bd_)) hb); clear hb hbox hg; have hcz8_0 : w7.cell? ⟨gb161, 0, none⟩ = some (.int .i64 0) := (blk_cell BK161.out 0).trans rfl; have hcz8_1 : w7.cell? ⟨gb161, 1, none⟩ = some (.slice none 0 0) := (blk_cell BK161.out 1).trans rfl; have hcz8_2 : w7.cell? ⟨gb161, 2, none⟩ = some (.int .i64 0) := (blk_cell BK161.out 2).trans rfl; have hcz8_3 : w7.cell? ⟨gb161, 3, none⟩ = some (.int .i64 0) := (blk_cell BK161.out 3).trans rfl; have hfz8_0 := blk_frozen BK161.out 0; have hfz8_1 := blk_frozen BK161.out 1; have hfz8_2 := blk_frozen BK161.out 2; have hfz8_3 := blk_frozen BK161.out 3) | ((with_reducible refine gate_dst (N := 22) rfl ?_); refine Kd.R_lit (Kd.int .i64) _ 3 ?hg (N := 22) ?hd (xs := ([] : List Int)) (inner := []) (ok := fun _ => True) (okp := fun _ => True) ?hr ?hp (fun _ hk => hk) trivial (Below.refl _ _) (Nat.le_refl _) (by simp) ?_; (case hd => rfl); (case hg => rfl); (case hr => first | (go_simp; done) | (go_simp; rfl)); (case hp => exact (Reps.none _ _)); intro v163 w9 ho10 hb hg_ hnew_; clear hg_ hnew_; (first | rw [← Ny162.out] at ho10 | (simp only [Int.reduceToNat] at ho10; rw [← Ny162.out] at ho10)); replace HO_3 := mk0 (Kd.S_elder' (by (with_reducible repeat (first | apply Sa_ | apply Sn_ | apply Sd_)); exact (Kd.S_mono (Kd.S_far (p := ⟨gb161, 3, none⟩) (Kd.S_far (p := ⟨gb161, 2, none⟩) (Kd.S_far (p := ⟨gb161, 1, none⟩) (Kd.S_far (p := ⟨gb161, 0, none⟩) (Kd.S_mono HO_3.out (fun k_ hk => (⟨hk, hk.2⟩ : _ ∧ k_ ≠ gb161))) (fun _ hk => hk.2) (.int .i64 ((rd_T41 l0 x5_1).f0))) (fun _ hk => hk.2) (.slice A160_1 ((rd_T41 l0 x5_1).f1).length c160_1)) (fun _ hk => hk.2) (.int .i64 ((rd_T41 l0 x5_1).f2))) (fun _ hk => hk.2) (.int .i64 ((rd_T41 l0 x5_1).f3))) (fun _ h_ => h_.1))) (Kd.R_base ho10) hb); have HO164 := mk0 (Kd.R_lower ho10 (below_size (by with_reducible repeat (first | exact HB.out | apply ba_ | apply bn_ | apply bd_ | refine below_set ?_ GE161.out)))); replace BK161 := mk0 (blk_below (g := gb161) (o := .cells #[.int .i64 ((rd_T41 l0 x5_1).f0), .slice A160_1 ((rd_T41 l0 x5_1).f1).length c160_1, .int .i64 ((rd_T41 l0 x5_1).f2), .int .i64 ((rd_T41 l0 x5_1).f3)] 45 (0, 0)) (by (with_reducible repeat (first | refine blk_drewN ?_ _ | refine blk_drew ?_ | refine blk_alloc ?_ _)); refine blk_put (cs := #[.int .i64 ((rd_T41 l0 x5_1).f0), .slice A160_1 ((rd_T41 l0 x5_1).f1).length c160_1, .int .i64 ((rd_T41 l0 x5_1).f2), .int .i64 0]) ?_ 3 _ rfl; (with_reducible repeat (first | refine blk_drewN ?_ _ | refine blk_drew ?_ | refine blk_alloc ?_ _)); refine blk_put (cs := #[.int .i64 ((rd_T41 l0 x5_1).f0), .slice A160_1 ((rd_T41 l0 x5_1).f1).length c160_1, .int .i64 0, .int .i64 0]) ?_ 2 _ rfl; (with_reducible repeat (first | refine blk_drewN ?_ _ | refine blk_drew ?_ | refine blk_alloc ?_ _)); refine blk_put (cs := #[.int .i64 ((rd_T41 l0 x5_1).f0), .slice none 0 0, .int .i64 0, .int .i64 0]) ?_ 1 _ rfl; (with_reducible repeat (first | refine blk_drewN ?_ _ | refine blk_drew ?_ | refine blk_alloc ?_ _)); refine blk_put (cs := #[.int .i64 0, .slice none 0 0, .int .i64 0, .int .i64 0]) ?_ 0 _ rfl; (with_reducible repeat (first | refine blk_drewN ?_ _ | refine blk_drew ?_ | refine blk_alloc ?_ _)); exact BK161.out) hb); replace HB := mk0 (below_step (by with_reducible repeat (first | exact HB.out | apply ba_ | apply bn_ | apply bd_ | refine below_set ?_ GE161.out)) hb); clear hb ho10; have hcz11_0 : w9.cell? ⟨gb161, 0, none⟩ = some (.int .i64 ((rd_T41 l0 x5_1).f0)) := (blk_cell BK161.out 0).trans rfl; have hcz11_1 : w9.cell? ⟨gb161, 1, none⟩ = some (.slice A160_1 ((rd_T41 l0 x5_1).f1).length c160_1) := (blk_cell BK161.out 1).trans rfl; have hcz11_2 : w9.cell? ⟨gb161, 2, none⟩ = some (.int .i64 ((rd_T41 l0 x5_1).f2)) := (blk_cell BK161.out 2).trans rfl; have hcz11_3 : w9.cell? ⟨gb161, 3, none⟩ = some (.int .i64 ((rd_T41 l0 x5_1).f3)) := (blk_cell BK161.out 3).trans rfl; have hfz11_0 := blk_frozen BK161.out 0; have hfz11_1 := blk_frozen BK161.out 1; have hfz11_2 := blk_frozen BK161.out 2; have hfz11_3 := blk_frozen BK161.out 3))
      go_loopg [7, 8] k1 (fun kq v7 v8 w' => ∃ (x7_2 : List Int) (x8_2 : Int), v8 = .int .i64 x8_2 ∧ Aside0 (spec_turned.l1 kq l0 x3_1 (wrap64 ((l0.length : Int) - 1)) x5_1 x7_2 x8_2 ((rd_T41 l0 x5_1).f0) ((rd_T41 l0 x5_1).f1) ((rd_T41 l0 x5_1).f2) ((rd_T41 l0 x5_1).f3) = some r) ∧ Aside0 (kq ≤ k1) ∧ Aside0 (Kd.S k41 45 w' w.heap.size (fun k_ => some k_ ≠ (v7 : Value).ownBlock ∧ k_ ≠ gb161) u3 x3_1) ∧ Aside0 (Kd.R (Kd.int .i64) 3 w' w.heap.size (fun _ => True) v7 x7_2) ∧ Aside0 (w'.heap[gb161]? = some (.cells #[.int .i64 ((rd_T41 l0 x5_1).f0), (.slice A160_1 ((rd_T41 l0 x5_1).f1).length c160_1), .int .i64 ((rd_T41 l0 x5_1).f2), .int .i64 ((rd_T41 l0 x5_1).f3)] 45 (0, 0))) ∧ Aside0 (Below w.heap.size w w'))
      case atStart => exact ⟨(y162), (wrap64 ((((rd_T41 l0 x5_1).f1).length : Int) - 1)), (by first | rfl | (simp; done) | (simp [*]; done)), H', ⟨Nat.le_refl _⟩, ⟨by (with_reducible repeat (first | apply Sa_ | apply Sn_ | apply Sd_)); exact Kd.S_mono HO_3.out (fun _ hk => ⟨hk.2, hk.1.2⟩)⟩, ⟨by (with_reducible repeat (first | apply Ra_ | apply Rn_ | apply Rd_)); exact HO164.out⟩, ⟨by (with_reducible repeat (first | refine blk_drewN ?_ _ | refine blk_drew ?_ | refine blk_alloc ?_ _)); exact BK161.out⟩, ⟨by with_reducible repeat (first | exact HB.out | apply ba_ | apply bn_ | apply bd_ | refine below_set ?_ GE161.out)⟩⟩
      case round =>
       clear H'
       try clear c1
       try clear p1
       try clear q1
       try clear hx1
       try clear p2
       try clear c4
       try clear c4b0
       try clear c5
       try clear c5b0
       try clear c6
       try clear c6b0
       try clear p6
       try clear hcz11_0
       try clear hcz11_1
       try clear hcz11_2
       try clear hcz11_3
       try clear hcz8_0
       try clear hcz8_1
       try clear hcz8_2
       try clear hcz8_3
       try clear hfz11_0
       try clear hfz11_1
       try clear hfz11_2
       try clear hfz11_3
       try clear hfz8_0
       try clear hfz8_1
       try clear hfz8_2
       try clear hfz8_3
       try clear hx160_0
       try clear hx160_1
       try clear hx160_2
       try clear hx160_3
       try clear p160
       try clear p2
       try clear q160
       obtain ⟨x7_2, x8_2, rfl, HA, HK2, HO_3, HO_7, BK161, HB⟩ := hrel
       cases gk with
       | zero => exact absurd HA.out (by simp [spec_turned.l1])
       | succ k2 =>
        have H := HA.out
        clear HA
        simp only [spec_turned.l1] at H
        by_cases c12 : x8_2 ≥ 0
        ·
         rw [if_pos c12] at H
         have c12b0 : decide (0 ≤ x8_2) = true := decide_eq_true c12
         clear c12
         by_cases c13 : 0 ≤ x8_2
         ·
          rw [if_pos c13] at H
          have c13b0 : decide (0 ≤ x8_2) = true := decide_eq_true c13
          clear c13
          by_cases c14 : x8_2 < (((rd_T41 l0 x5_1).f1).length : Int)
          ·
           rw [if_pos c14] at H
           have c14b0 : decide (x8_2 < (((rd_T41 l0 x5_1).f1).length : Int)) = true := decide_eq_true c14
           clear c14
           by_cases c15 : x7_2.length < 17592186044416
           ·
            rw [if_pos c15] at H
            have LMc15 := mk0 c15
            clear c15
            obtain ⟨y166, hy166⟩ : ∃ y_ : List Int, y_ = (x7_2 ++ [wrap64 ((wrap64 ((l0.length : Int) - 1)) - (rd ((rd_T41 l0 x5_1).f1) x8_2))]) := ⟨_, rfl⟩
            replace H : (spec_turned.l1 k2 l0 x3_1 (wrap64 ((l0.length : Int) - 1)) x5_1 y166 (wrap64 (x8_2 - 1)) ((rd_T41 l0 x5_1).f0) ((rd_T41 l0 x5_1).f1) ((rd_T41 l0 x5_1).f2) ((rd_T41 l0 x5_1).f3)) = some r := by first | (rw [hy166]; with_reducible exact H) | (rw [hy166]; exact (Option.bind_some _ _).symm.trans H) | (rw [hy166]; exact H) | exact H
            have Ny166 := mk0 hy166
            clear hy166
            have H' := mk0 H
            clear H
            have hcz16_0 : wr.cell? ⟨gb161, 0, none⟩ = some (.int .i64 ((rd_T41 l0 x5_1).f0)) := (blk_cell BK161.out 0).trans rfl
            have hcz16_1 : wr.cell? ⟨gb161, 1, none⟩ = some (.slice A160_1 ((rd_T41 l0 x5_1).f1).length c160_1) := (blk_cell BK161.out 1).trans rfl
            have hcz16_2 : wr.cell? ⟨gb161, 2, none⟩ = some (.int .i64 ((rd_T41 l0 x5_1).f2)) := (blk_cell BK161.out 2).trans rfl
            have hcz16_3 : wr.cell? ⟨gb161, 3, none⟩ = some (.int .i64 ((rd_T41 l0 x5_1).f3)) := (blk_cell BK161.out 3).trans rfl
            have hfz16_0 := blk_frozen BK161.out 0
            have hfz16_1 := blk_frozen BK161.out 1
            have hfz16_2 := blk_frozen BK161.out 2
            have hfz16_3 := blk_frozen BK161.out 3
            have p165 : 0 ≤ (x8_2 : Int) := od_ (by with_reducible assumption)
            have q165 : x8_2 < (((rd_T41 l0 x5_1).f1).length : Int) := od_ (by with_reducible assumption)
            obtain ⟨ad165, e165, hx165_0⟩ := Kd.at_int HR160_1.out x8_2 p165 q165
            cases e165
            replace hx165_0 := (HB.out.cell (World.block_lt_of_cell? w _ hx165_0)).trans hx165_0
            replace p165 := eq_true p165
            replace q165 := eq_true q165
            go_wp2_with (first | ((with_reducible refine gate_builtin (b := .append) (xs := #[.tmp 31, .tmp 39]) rfl ?_); at_builtin; refine Kd.R_append (Kd.int .i64) (w0 := w) w.heap.size rfl (.tmp 31) (.tmp 39) 24 3 (.int .i64 0) 8 rfl Tryd.underlying24 info3 rfl (by decide) (by omega) u7 x7_2 (wrap64 ((wrap64 ((l0.length : Int) - 1)) - (rd ((rd_T41 l0 x5_1).f1) x8_2))) [.int .i64 (wrap64 ((wrap64 ((l0.length : Int) - 1)) - (rd ((rd_T41 l0 x5_1).f1) x8_2)))] (fun _ => True) (fun _ => False) rfl rfl ?aP (fun _ hk => hk.elim) ?aF ?aO ?aB ?aS ?aL ?_; (case aP => exact rfl); (case aB => exact (by with_reducible repeat (first | exact HB.out | apply ba_ | apply bn_ | apply bd_ | refine below_set ?_ GE161.out))); (case aF => exact (fun _ _ => trivial)); (case aO => exact (by (with_reducible repeat (first | apply Ra_ | apply Rn_ | apply Rd_)); exact HO_7.out)); (case aS => exact (below_size (by with_reducible repeat (first | exact HB.out | apply ba_ | apply bn_ | apply bd_ | refine below_set ?_ GE161.out)))); (case aL => have := LMc15.out; omega); intro v167 w17 ho hb hg hat; rw [← Ny166.out] at ho; replace HO_3 := mk0 (Kd.S_after (ok := (fun k_ => k_ ≠ gb161)) (by (with_reducible repeat (first | apply Sa_ | apply Sn_ | apply Sd_)); exact Kd.S_mono HO_3.out (fun _ hk => ⟨hk.2, hk.1⟩)) hg hat); replace BK161 := mk0 (blk_grown (g := gb161) (o := .cells #[.int .i64 ((rd_T41 l0 x5_1).f0), .slice (some ad165) ((rd_T41 l0 x5_1).f1).length c160_1, .int .i64 ((rd_T41 l0 x5_1).f2), .int .i64 ((rd_T41 l0 x5_1).f3)] 45 (0, 0)) (by (with_reducible repeat (first | refine blk_drewN ?_ _ | refine blk_drew ?_ | refine blk_alloc ?_ _)); exact BK161.out) hg (Kd.R_ne HO_7.out BK161.out (by decide))); replace HB := mk0 (hb); have HO168 := mk0 (ho); clear HO_7; clear ho hb hg hat))
            go_roundg k2
            case measure => have := HK1.out; have := HK2.out; omega
            case rel => exact ⟨(y166), (wrap64 (x8_2 - 1)), (by first | rfl | (simp; done) | (simp [*]; done)), H', ⟨by have := HK1.out; have := HK2.out; omega⟩, ⟨by (with_reducible repeat (first | apply Sa_ | apply Sn_ | apply Sd_)); exact Kd.S_mono HO_3.out (fun _ hk => ⟨hk.2, hk.1⟩)⟩, ⟨by (with_reducible repeat (first | apply Ra_ | apply Rn_ | apply Rd_)); exact HO168.out⟩, ⟨by (with_reducible repeat (first | refine blk_drewN ?_ _ | refine blk_drew ?_ | refine blk_alloc ?_ _)); exact BK161.out⟩, ⟨by with_reducible repeat (first | exact HB.out | apply ba_ | apply bn_ | apply bd_ | refine below_set ?_ GE161.out)⟩⟩
           ·
            rw [if_neg c15] at H
            exact nn_ H
          ·
           rw [if_neg c14] at H
           exact nn_ H
         ·
          rw [if_neg c13] at H
          exact nn_ H
        ·
         rw [if_neg c12] at H
         have c12b0 : decide (0 ≤ x8_2) = false := decide_eq_false c12
         clear c12
         by_cases c18 : x3_1.length < 2932031007402
         ·
          rw [if_pos c18] at H
          have LMc18 := mk0 c18
          clear c18
          obtain ⟨y169, hy169⟩ : ∃ y_ : List (S41), y_ = (x3_1 ++ [(⟨((rd_T41 l0 x5_1).f0), x7_2, ((rd_T41 l0 x5_1).f2), ((rd_T41 l0 x5_1).f3)⟩ : S41)]) := ⟨_, rfl⟩
          replace H : (spec_turned.l0 k2 l0 y169 (wrap64 ((l0.length : Int) - 1)) (wrap64 (x5_1 - 1))) = some r := by first | (rw [hy169]; with_reducible exact H) | (rw [hy169]; exact (Option.bind_some _ _).symm.trans H) | (rw [hy169]; exact H) | exact H
          have Ny169 := mk0 hy169
          clear hy169
          have H' := mk0 H
          clear H
          obtain ⟨Ao19, co19, eo19⟩ := Kd.R_slice HO_7.out
          subst eo19
          have hcz20_0 : wr.cell? ⟨gb161, 0, none⟩ = some (.int .i64 ((rd_T41 l0 x5_1).f0)) := (blk_cell BK161.out 0).trans rfl
          have hcz20_1 : wr.cell? ⟨gb161, 1, none⟩ = some (.slice A160_1 ((rd_T41 l0 x5_1).f1).length c160_1) := (blk_cell BK161.out 1).trans rfl
          have hcz20_2 : wr.cell? ⟨gb161, 2, none⟩ = some (.int .i64 ((rd_T41 l0 x5_1).f2)) := (blk_cell BK161.out 2).trans rfl
          have hcz20_3 : wr.cell? ⟨gb161, 3, none⟩ = some (.int .i64 ((rd_T41 l0 x5_1).f3)) := (blk_cell BK161.out 3).trans rfl
          have hfz20_0 := blk_frozen BK161.out 0
          have hfz20_1 := blk_frozen BK161.out 1
          have hfz20_2 := blk_frozen BK161.out 2
          have hfz20_3 := blk_frozen BK161.out 3
          go_wp2_with (first | ((with_reducible refine gate_store (t := 24) (p := 42) rfl ?_); refine store_event (t := 24) (p := 42) (v := ?vo_w21) (w1 := (wr.setCell ⟨gb161, 1, none⟩ (.slice Ao19 x7_2.length co19))) ?hg ?ho ?hn ?hr ?_; (case ho => rfl); (case hg => rfl); (case hn => rfl); (case hr => first | (go_simp; done) | (go_simp; rfl)); intro w21 hw; have n0_ : Aside0 (Kd.S k41 45 w21 w.heap.size (fun k_ => some k_ ≠ (.slice Ao19 x7_2.length co19 : Value).ownBlock ∧ k_ ≠ gb161) u3 x3_1) := ⟨(by rw [hw]; exact (by (with_reducible repeat (first | apply Sa_ | apply Sn_ | apply Sd_)); exact Kd.S_mono (Kd.S_far (p := ⟨gb161, 1, none⟩) (Kd.S_mono HO_3.out (fun k_ hk => (⟨hk, hk.2⟩ : _ ∧ k_ ≠ gb161))) (fun _ hk => hk.2) (.slice Ao19 x7_2.length co19)) (fun _ hk => ⟨hk.1.1, hk.1.2⟩)))⟩; have n1_ : Aside0 (Kd.R (Kd.int .i64) 3 w21 w.heap.size (fun _ => True) (.slice Ao19 x7_2.length co19) x7_2) := ⟨(by rw [hw]; exact (by (with_reducible repeat (first | apply Ra_ | apply Rn_ | apply Rd_)); exact Kd.R_mono (Kd.R_far (p := ⟨gb161, 1, none⟩) (Kd.R_types HO_7.out BK161.out (by decide)) (fun _ hk => hk.2) (.slice Ao19 x7_2.length co19)) (fun _ hk => trivial)))⟩; have n2_ : Aside0 (w21.heap[gb161]? = some (.cells #[.int .i64 ((rd_T41 l0 x5_1).f0), .slice Ao19 x7_2.length co19, .int .i64 ((rd_T41 l0 x5_1).f2), .int .i64 ((rd_T41 l0 x5_1).f3)] 45 (0, 0))) := ⟨(by rw [hw]; exact (by (with_reducible repeat (first | refine blk_drewN ?_ _ | refine blk_drew ?_ | refine blk_alloc ?_ _)); refine blk_put (cs := #[.int .i64 ((rd_T41 l0 x5_1).f0), .slice A160_1 ((rd_T41 l0 x5_1).f1).length c160_1, .int .i64 ((rd_T41 l0 x5_1).f2), .int .i64 ((rd_T41 l0 x5_1).f3)]) ?_ 1 _ rfl; (with_reducible repeat (first | refine blk_drewN ?_ _ | refine blk_drew ?_ | refine blk_alloc ?_ _)); exact BK161.out))⟩; have n3_ : Aside0 (Below w.heap.size w w21) := ⟨(by rw [hw]; exact (by with_reducible repeat (first | exact HB.out | apply ba_ | apply bn_ | apply bd_ | refine below_set ?_ GE161.out)))⟩; clear hw; clear HO_3; clear HO_7; clear BK161; clear HB; have HO_3 := n0_; have HO_7 := n1_; have BK161 := n2_; have HB := n3_; clear n0_ n1_ n2_ n3_; have hcz22_0 : w21.cell? ⟨gb161, 0, none⟩ = some (.int .i64 ((rd_T41 l0 x5_1).f0)) := (blk_cell BK161.out 0).trans rfl; have hcz22_1 : w21.cell? ⟨gb161, 1, none⟩ = some (.slice Ao19 x7_2.length co19) := (blk_cell BK161.out 1).trans rfl; have hcz22_2 : w21.cell? ⟨gb161, 2, none⟩ = some (.int .i64 ((rd_T41 l0 x5_1).f2)) := (blk_cell BK161.out 2).trans rfl; have hcz22_3 : w21.cell? ⟨gb161, 3, none⟩ = some (.int .i64 ((rd_T41 l0 x5_1).f3)) := (blk_cell BK161.out 3).trans rfl; have hfz22_0 := blk_frozen BK161.out 0; have hfz22_1 := blk_frozen BK161.out 1; have hfz22_2 := blk_frozen BK161.out 2; have hfz22_3 := blk_frozen BK161.out 3) | ((with_reducible refine gate_builtin (b := .append) (xs := #[.tmp 43, .tmp 45]) rfl ?_); at_builtin; refine Kd.S_append k41 (w0 := w) w.heap.size rfl (.tmp 43) (.tmp 45) 23 45 (.agg #[(.int .i64 0), (.slice none 0 0), (.int .i64 0), (.int .i64 0)]) 48 rfl Tryd.underlying23 info45 rfl (by decide) (by omega) u3 x3_1 (⟨((rd_T41 l0 x5_1).f0), x7_2, ((rd_T41 l0 x5_1).f2), ((rd_T41 l0 x5_1).f3)⟩ : S41) [.int .i64 ((rd_T41 l0 x5_1).f0), .slice Ao19 x7_2.length co19, .int .i64 ((rd_T41 l0 x5_1).f2), .int .i64 ((rd_T41 l0 x5_1).f3)] (fun k_ => k_ ≠ gb161) (fun k_ => some k_ = (.slice Ao19 x7_2.length co19 : Value).ownBlock) rfl rfl ?aP (fun k_ hk_ => ((Kd.R_mono (ok' := fun k_ => ((fun k_ => k_ ≠ gb161)) k_ ∧ some k_ ≠ (u3 : Value).ownBlock) (Kd.R_types (Kd.R_apart' (HO_7.out) (Kd.S_typed HO_3.out) (by decide)) BK161.out (by decide)) (fun k_ hk => ⟨hk.2, hk.1.2⟩))).1 k_ hk_.symm) ?aF ?aO ?aB ?aS ?aL ?_; (case aP => exact k41_mkM _ _ _ (⟨((rd_T41 l0 x5_1).f0), x7_2, ((rd_T41 l0 x5_1).f2), ((rd_T41 l0 x5_1).f3)⟩ : S41) (Kd.R_mono (Kd.R_tight rfl (Kd.R_mono (ok' := fun k_ => ((fun k_ => k_ ≠ gb161)) k_ ∧ some k_ ≠ (u3 : Value).ownBlock) (Kd.R_types (Kd.R_apart' (HO_7.out) (Kd.S_typed HO_3.out) (by decide)) BK161.out (by decide)) (fun k_ hk => ⟨hk.2, hk.1.2⟩))) (fun _ h_ => h_))); (case aB => exact (by with_reducible repeat (first | exact HB.out | apply ba_ | apply bn_ | apply bd_ | refine below_set ?_ GE161.out))); (case aF => exact (fun k_ hk => Kd.freshB (g := gb161) (o := .cells #[.int .i64 ((rd_T41 l0 x5_1).f0), .slice Ao19 x7_2.length co19, .int .i64 ((rd_T41 l0 x5_1).f2), .int .i64 ((rd_T41 l0 x5_1).f3)] 45 (0, 0)) (by (with_reducible repeat (first | refine blk_drewN ?_ _ | refine blk_drew ?_ | refine blk_alloc ?_ _)); exact BK161.out) k_ hk)); (case aO => exact (by (with_reducible repeat (first | apply Sa_ | apply Sn_ | apply Sd_)); exact Kd.S_mono HO_3.out (fun k_ hk => ⟨hk.2, fun e_ => hk.1 e_⟩))); (case aS => exact (below_size (by with_reducible repeat (first | exact HB.out | apply ba_ | apply bn_ | apply bd_ | refine below_set ?_ GE161.out)))); (case aL => have := LMc18.out; omega); intro v170 w23 ho hb hg hat; rw [← Ny169.out] at ho; replace BK161 := mk0 (blk_grown (g := gb161) (o := .cells #[.int .i64 ((rd_T41 l0 x5_1).f0), .slice Ao19 x7_2.length co19, .int .i64 ((rd_T41 l0 x5_1).f2), .int .i64 ((rd_T41 l0 x5_1).f3)] 45 (0, 0)) (by (with_reducible repeat (first | refine blk_drewN ?_ _ | refine blk_drew ?_ | refine blk_alloc ?_ _)); exact BK161.out) hg (Kd.S_away HO_3.out (fun _ hk => hk.2))); replace HB := mk0 (hb); have HO171 := mk0 (ho); clear HO_3 HO_7; clear ho hb hg hat))
          go_roundg k2
          case measure => have := HK1.out; have := HK2.out; omega
          case rel => exact ⟨(y169), (wrap64 (x5_1 - 1)), (by first | rfl | (simp; done) | (simp [*]; done)), H', ⟨by have := HK1.out; have := HK2.out; omega⟩, ⟨by (with_reducible repeat (first | apply Sa_ | apply Sn_ | apply Sd_)); exact Kd.S_mono HO171.out (fun _ hk => trivial)⟩, ⟨by with_reducible repeat (first | exact HB.out | apply ba_ | apply bn_ | apply bd_ | refine below_set ?_ GE161.out)⟩⟩
         ·
          rw [if_neg c18] at H
          exact nn_ H
     ·
      rw [if_neg c6] at H
      exact nn_ H
    ·
     rw [if_neg c5] at H
     exact nn_ H
   ·
    rw [if_neg c4] at H
    have c4b0 : decide (0 ≤ x5_1) = false := decide_eq_false c4
    clear c4
    obtain rfl := Option.some.inj H
    go_wp2
    go_ret
    exact ⟨_, by first | rfl | (simp [errW_none, errW_some] <;> rfl) | (simp [*, errW_none, errW_some] <;> rfl), by (with_reducible repeat (first | apply Sa_ | apply Sn_ | apply Sd_)); exact HO_3.out, by with_reducible repeat (first | exact HB.out | apply ba_ | apply bn_ | apply bd_)⟩
/-! spec_someGraph -/
mutual
def spec_someGraph.l0 : Nat → List (S41) → Int → List Int → Int → Option ((List (S41)) × Int)
 | 0, _, _, _, _ => none
 | k + 1, x5, x6, x1000, x1001 => if x6 > 0 then ((spec_reader_one.f k x1000 x1001 (([1, 3, 5, 2, 7, 20] : List Int))).bind fun bt183 => ((spec_reader_pick.f k x1000 bt183.2 3).bind fun bt185 => ((spec_reader_pick.f k x1000 bt185.2 4).bind fun bt187 => (spec_someGraph.l1 k x5 x6 0 x1000 bt187.2 bt183.1 (([] : List Int)) bt185.1 (wrap64 (1 + bt187.1)))))) else (if (x5.length : Int) > 1 then ((spec_reader_pick.f k x1000 x1001 4).bind fun bt201 => (if bt201.1 = 0 then ((spec_turned.f k x5).bind fun t203 => (some (t203, bt201.2))) else (some (x5, bt201.2)))) else (some (x5, x1001)))
def spec_someGraph.l1 : Nat → List (S41) → Int → Int → List Int → Int → Int → List Int → Int → Int → Option ((List (S41)) × Int)
 | 0, _, _, _, _, _, _, _, _, _ => none
 | k + 1, x5, x6, x8, x1000, x1001, x193000, x193001, x193002, x193003 => if x8 < (x5.length : Int) then ((spec_reader_pick.f k x1000 x1001 3).bind fun bt193 => (if bt193.1 = 0 then (if x193001.length < 17592186044416 then (spec_someGraph.l1 k x5 x6 (wrap64 (x8 + 1)) x1000 bt193.2 x193000 (x193001 ++ [x8]) x193002 x193003) else (none)) else (spec_someGraph.l1 k x5 x6 (wrap64 (x8 + 1)) x1000 bt193.2 x193000 x193001 x193002 x193003))) else (if x5.length < 2932031007402 then (spec_someGraph.l0 k (x5 ++ [(⟨x193000, x193001, x193002, x193003⟩ : S41)]) (wrap64 (x6 - 1)) x1000 x1001) else (none))
end
def spec_someGraph.f (k : Nat) (s0_0 : List Int) (s0_1 : Int) (a1 : Int) : Option ((List (S41)) × Int) := (spec_reader_one.f k s0_0 s0_1 (([4, 5, 3, 6, 2, 1, 0, 8] : List Int))).bind fun bt178 => (spec_someGraph.l0 k (([] : List (S41))) (mn a1 bt178.1) s0_0 bt178.2)
set_option maxHeartbeats 8000000 in
set_option maxRecDepth 100000 in
theorem spec_someGraph.calls (k : Nat) (g : Nat) (s0_0 : List Int) (s0_1 : Int) (a1 : Int) (r1 : List (S41)) (r2 : Int) (w0 w : World) (hI : IsS71 w0 w g s0_0 s0_1) (hB : Below w0.heap.size w0 w) (h : spec_someGraph.f k s0_0 s0_1 a1 = some (r1, r2)) :
  Calls Tryd.prog 48 #[.pointer (some ⟨g, 0, none⟩), .int .i64 a1] w fun e w' => ∃ v0_ : Value, e = .returned (v0_) ∧ Kd.S k41 45 w' w.heap.size (fun _ => True) v0_ r1 ∧ IsS71 w0 w' g s0_0 r2 ∧ Below w0.heap.size w0 w' ∧ KeepBut w w' g none := by
 have hu45 := Tryd.underlying45
 have HI0 := mk0 hI
 have HK := mk0 (KeepBut.refl w g none)
 have HL := mk0 hB.size
 clear hI
 have HW0 := mk0 hB.size
 have HB := mk0 hB
 clear hB
 have H : ((spec_reader_one.f k s0_0 s0_1 (([4, 5, 3, 6, 2, 1, 0, 8] : List Int))).bind fun bt178 => (spec_someGraph.l0 k (([] : List (S41))) (mn a1 bt178.1) s0_0 bt178.2)) = some (r1, r2) := h
 clear h
 obtain ⟨y172, hy172⟩ : ∃ y_ : List (S41), y_ = (([] : List (S41))) := ⟨_, rfl⟩
 replace H : ((spec_reader_one.f k s0_0 s0_1 (([4, 5, 3, 6, 2, 1, 0, 8] : List Int))).bind fun bt178 => (spec_someGraph.l0 k y172 (mn a1 bt178.1) s0_0 bt178.2)) = some (r1, r2) := by first | (rw [hy172]; with_reducible exact H) | (rw [hy172]; exact (Option.bind_some _ _).symm.trans H) | (rw [hy172]; exact H) | exact H
 have Ny172 := mk0 hy172
 clear hy172
 obtain ⟨y175, hy175⟩ : ∃ y_ : List Int, y_ = (([4, 5, 3, 6, 2, 1, 0, 8] : List Int)) := ⟨_, rfl⟩
 replace H : ((spec_reader_one.f k s0_0 s0_1 y175).bind fun bt178 => (spec_someGraph.l0 k y172 (mn a1 bt178.1) s0_0 bt178.2)) = some (r1, r2) := by first | (rw [hy175]; with_reducible exact H) | (rw [hy175]; exact (Option.bind_some _ _).symm.trans H) | (rw [hy175]; exact H) | exact H
 have Ny175 := mk0 hy175
 clear hy175
 replace H := bE_ H
 obtain ⟨⟨t178, t179⟩, A30, H⟩ := H
 have A3 := mk0 A30
 clear A30
 obtain ⟨ji4, hji4⟩ : ∃ j_ : Int, (mn a1 t178) = j_ := ⟨_, rfl⟩
 replace H : (spec_someGraph.l0 k y172 ji4 s0_0 t179) = some (r1, r2) := by first | (rw [hji4] at H; exact H) | (simp only [hji4] at H ⊢; exact H)
 (try rw [hji4] at A3)
 have hji4_ : (if t178 < a1 then t178 else a1) = ji4 := hji4
 have H' := mk0 H
 clear H
 go_enter Tryd.func48, Tryd.ntmps48
 go_wp2_with (first | ((with_reducible refine gate_dst (N := 9) rfl ?_); refine Kd.S_lit k41 _ 45 ?hg (N := 9) ?hd (xs := ([] : List (S41))) (inner := []) (ok := fun _ => True) (okp := fun _ => True) ?hr ?hp (fun _ hk => hk) trivial (Below.refl _ _) (Nat.le_refl _) (by simp) ?_; (case hd => rfl); (case hg => rfl); (case hr => first | (go_simp; done) | (go_simp; rfl)); (case hp => exact (Reps.none _ _)); intro v173 w5 ho6 hb hg_ hnew_; clear hg_ hnew_; (first | rw [← Ny172.out] at ho6 | (simp only [Int.reduceToNat] at ho6; rw [← Ny172.out] at ho6)); have HO174 := mk0 (Kd.S_lower ho6 (keep_size (w := w) (g := g) (row := none) (by with_reducible repeat (first | exact HK.out | apply ks_ | apply kn_ | apply kd_ | apply ka_)))); replace HK := mk0 (KeepBut.trans (by with_reducible repeat (first | exact HK.out | apply ks_ | apply kn_ | apply kd_ | apply ka_)) (KeepBut.of_below hb g none) (.inl rfl)); replace HB := mk0 (below_step (by with_reducible repeat (first | exact HB.out | apply ba_ | apply bn_ | apply bd_ | refine below_set ?_ (IsS71.ge HI0.out))) hb); replace HI0 := mk0 (IsS71.below (by with_reducible repeat (first | exact HI0.out | apply ia_ | apply in_ | apply id_ | apply is_)) hb); clear hb ho6) | ((with_reducible refine gate_dst (N := 12) rfl ?_); refine Kd.R_lit (Kd.int .i64) _ 3 ?hg (N := 12) ?hd (xs := ([4, 5, 3, 6, 2, 1, 0, 8] : List Int)) (inner := [.int .i64 4, .int .i64 5, .int .i64 3, .int .i64 6, .int .i64 2, .int .i64 1, .int .i64 0, .int .i64 8]) (ok := fun _ => True) (okp := fun _ => True) ?hr ?hp (fun _ hk => hk) trivial (Below.refl _ _) (Nat.le_refl _) (by simp) ?_; (case hd => rfl); (case hg => rfl); (case hr => first | (go_simp; done) | (go_simp; rfl)); (case hp => exact (Reps.one (show Kd.M (Kd.int .i64) _ _ _ 4 [.int .i64 4] from rfl) (Reps.one (show Kd.M (Kd.int .i64) _ _ _ 5 [.int .i64 5] from rfl) (Reps.one (show Kd.M (Kd.int .i64) _ _ _ 3 [.int .i64 3] from rfl) (Reps.one (show Kd.M (Kd.int .i64) _ _ _ 6 [.int .i64 6] from rfl) (Reps.one (show Kd.M (Kd.int .i64) _ _ _ 2 [.int .i64 2] from rfl) (Reps.one (show Kd.M (Kd.int .i64) _ _ _ 1 [.int .i64 1] from rfl) (Reps.one (show Kd.M (Kd.int .i64) _ _ _ 0 [.int .i64 0] from rfl) (Reps.one (show Kd.M (Kd.int .i64) _ _ _ 8 [.int .i64 8] from rfl) (Reps.none _ _)))))))))); intro v176 w7 ho8 hb hg_ hnew_; clear hg_ hnew_; (first | rw [← Ny175.out] at ho8 | (simp only [Int.reduceToNat] at ho8; rw [← Ny175.out] at ho8)); replace HO174 := mk0 (Kd.S_elder' (by (with_reducible repeat (first | apply Sa_ | apply Sn_ | apply Sd_)); exact HO174.out) (Kd.R_base ho8) hb); have HO177 := mk0 (Kd.R_lower ho8 (keep_size (w := w) (g := g) (row := none) (by with_reducible repeat (first | exact HK.out | apply ks_ | apply kn_ | apply kd_ | apply ka_)))); replace HK := mk0 (KeepBut.trans (by with_reducible repeat (first | exact HK.out | apply ks_ | apply kn_ | apply kd_ | apply ka_)) (KeepBut.of_below hb g none) (.inl rfl)); replace HB := mk0 (below_step (by with_reducible repeat (first | exact HB.out | apply ba_ | apply bn_ | apply bd_ | refine below_set ?_ (IsS71.ge HI0.out))) hb); replace HI0 := mk0 (IsS71.below (by with_reducible repeat (first | exact HI0.out | apply ia_ | apply in_ | apply id_ | apply is_)) hb); clear hb ho8; obtain ⟨Ao9, co9, eo9⟩ := Kd.R_slice HO177.out; subst eo9) | ((with_reducible refine gate_callee (f := 49) rfl ?_); refine goesL_ (some 13) rfl rfl Tryd.func49 (by kernel_rfl) rfl #[.pointer (some ⟨g, 0, none⟩), .slice Ao9 y175.length co9] rfl (by (try simp only [List.map_toArray, List.map_cons, List.map_nil]); first | done | rfl | (simp only [List.length_drop, List.length_take]; rfl)) ?_; (with_reducible refine (spec_reader_one.calls k g s0_0 s0_1 _ _ y175 t178 t179 w0 _ ?side1 ?side2 ?side3 ?side4 ?side5 A3.out).mono ?_); (case side1 => with_reducible repeat (first | exact HI0.out | apply ia_ | apply in_ | apply id_ | apply is_)); (case side2 => with_reducible repeat (first | exact HB.out | apply ba_ | apply bn_ | apply bd_ | refine below_set ?_ (IsS71.ge HI0.out))); (case side3 => repeat (first | exact (Kd.R_reads' HO177.out).2.2 | (with_reducible first | refine Ca_ ?_ _ | refine Cn_ ?_ _ | refine Cd_ ?_))); (case side4 => exact (Kd.R_reads' HO177.out).2.1); (case side5 => exact far_slice (IsS71.own_ne HI0.out HO177.out (by decide))); rintro e w10 ⟨rfl, hi, hb, hk⟩; refine ⟨_, rfl, ?_⟩; replace HO174 := mk0 (Kd.S_mono (Kd.S_keep (IsS71.apartS (show IsS71 w0 _ g s0_0 s0_1 from by with_reducible repeat (first | exact HI0.out | apply ia_ | apply in_ | apply id_ | apply is_)) (by (with_reducible repeat (first | apply Sa_ | apply Sn_ | apply Sd_)); exact HO174.out) (by decide)) hk (fun _ h => h.2)) (fun _ h => h.1)); replace HO177 := mk0 (Kd.R_mono (Kd.R_keep (IsS71.apart (show IsS71 w0 _ g s0_0 s0_1 from by with_reducible repeat (first | exact HI0.out | apply ia_ | apply in_ | apply id_ | apply is_)) (by (with_reducible repeat (first | apply Ra_ | apply Rn_ | apply Rd_)); exact HO177.out) (by decide)) hk (fun _ h => h.2)) (fun _ h => h.1)); replace HK := mk0 (KeepBut.trans (by with_reducible repeat (first | exact HK.out | apply ks_ | apply kn_ | apply kd_ | apply ka_)) hk (.inl rfl)); replace HB := mk0 (hb); replace HI0 := mk0 (hi); clear hb hk hi))
 go_loopg [5, 6] k (fun kq v5 v6 w' => ∃ (x5_1 : List (S41)) (x6_1 : Int) (x1001_1 : Int), v6 = .int .i64 x6_1 ∧ Aside0 (spec_someGraph.l0 kq x5_1 x6_1 s0_0 x1001_1 = some (r1, r2)) ∧ Aside0 (kq ≤ k) ∧ Aside0 (Kd.S k41 45 w' w.heap.size (fun _ => True) v5 x5_1) ∧ Aside0 (IsS71 w0 w' g s0_0 x1001_1) ∧ Aside0 (KeepBut w w' g none) ∧ Aside0 (Below w0.heap.size w0 w'))
 case atStart => exact ⟨(y172), (ji4), (t179), (by first | rfl | (simp; done) | (simp only [← hji4] <;> (first | rfl | simp)) | (simp [*]; done)), H', ⟨Nat.le_refl _⟩, ⟨by (with_reducible repeat (first | apply Sa_ | apply Sn_ | apply Sd_)); exact Kd.S_mono HO174.out (fun _ hk => trivial)⟩, ⟨by with_reducible repeat (first | exact HI0.out | apply ia_ | apply in_ | apply id_ | apply is_)⟩, ⟨by with_reducible repeat (first | exact HK.out | apply ks_ | apply kn_ | apply kd_ | apply ka_)⟩, ⟨by with_reducible repeat (first | exact HB.out | apply ba_ | apply bn_ | apply bd_ | refine below_set ?_ (IsS71.ge HI0.out))⟩⟩
 case round =>
  clear H'
  try clear p2
  try clear c4
  obtain ⟨x5_1, x6_1, x1001_1, rfl, HA, HK1, HO_5, HI0, HK, HB⟩ := hrel
  cases gk with
  | zero => exact absurd HA.out (by simp [spec_someGraph.l0])
  | succ k1 =>
   have H := HA.out
   clear HA
   simp only [spec_someGraph.l0] at H
   by_cases c11 : x6_1 > 0
   ·
    rw [if_pos c11] at H
    have c11b0 : decide (0 < x6_1) = true := decide_eq_true c11
    clear c11
    obtain ⟨y180, hy180⟩ : ∃ y_ : List Int, y_ = (([1, 3, 5, 2, 7, 20] : List Int)) := ⟨_, rfl⟩
    replace H : ((spec_reader_one.f k1 s0_0 x1001_1 y180).bind fun bt183 => ((spec_reader_pick.f k1 s0_0 bt183.2 3).bind fun bt185 => ((spec_reader_pick.f k1 s0_0 bt185.2 4).bind fun bt187 => (spec_someGraph.l1 k1 x5_1 x6_1 0 s0_0 bt187.2 bt183.1 (([] : List Int)) bt185.1 (wrap64 (1 + bt187.1)))))) = some (r1, r2) := by first | (rw [hy180]; with_reducible exact H) | (rw [hy180]; exact (Option.bind_some _ _).symm.trans H) | (rw [hy180]; exact H) | exact H
    have Ny180 := mk0 hy180
    clear hy180
    replace H := bE_ H
    obtain ⟨⟨t183, t184⟩, A120, H⟩ := H
    have A12 := mk0 A120
    clear A120
    replace H := bE_ H
    obtain ⟨⟨t185, t186⟩, A130, H⟩ := H
    have A13 := mk0 A130
    clear A130
    replace H := bE_ H
    obtain ⟨⟨t187, t188⟩, A140, H⟩ := H
    have A14 := mk0 A140
    clear A140
    obtain ⟨y189, hy189⟩ : ∃ y_ : List Int, y_ = (([] : List Int)) := ⟨_, rfl⟩
    replace H : (spec_someGraph.l1 k1 x5_1 x6_1 0 s0_0 t188 t183 y189 t185 (wrap64 (1 + t187))) = some (r1, r2) := by first | (rw [hy189]; with_reducible exact H) | (rw [hy189]; exact (Option.bind_some _ _).symm.trans H) | (rw [hy189]; exact H) | exact H
    have Ny189 := mk0 hy189
    clear hy189
    have H' := mk0 H
    clear H
    go_wp2_with (first | ((with_reducible refine gate_dst (N := 20) rfl ?_); refine Kd.R_lit (Kd.int .i64) _ 3 ?hg (N := 20) ?hd (xs := ([1, 3, 5, 2, 7, 20] : List Int)) (inner := [.int .i64 1, .int .i64 3, .int .i64 5, .int .i64 2, .int .i64 7, .int .i64 20]) (ok := fun _ => True) (okp := fun _ => True) ?hr ?hp (fun _ hk => hk) trivial (Below.refl _ _) (Nat.le_refl _) (by simp) ?_; (case hd => rfl); (case hg => rfl); (case hr => first | (go_simp; done) | (go_simp; rfl)); (case hp => exact (Reps.one (show Kd.M (Kd.int .i64) _ _ _ 1 [.int .i64 1] from rfl) (Reps.one (show Kd.M (Kd.int .i64) _ _ _ 3 [.int .i64 3] from rfl) (Reps.one (show Kd.M (Kd.int .i64) _ _ _ 5 [.int .i64 5] from rfl) (Reps.one (show Kd.M (Kd.int .i64) _ _ _ 2 [.int .i64 2] from rfl) (Reps.one (show Kd.M (Kd.int .i64) _ _ _ 7 [.int .i64 7] from rfl) (Reps.one (show Kd.M (Kd.int .i64) _ _ _ 20 [.int .i64 20] from rfl) (Reps.none _ _)))))))); intro v181 w15 ho16 hb hg_ hnew_; clear hg_ hnew_; (first | rw [← Ny180.out] at ho16 | (simp only [Int.reduceToNat] at ho16; rw [← Ny180.out] at ho16)); replace HO_5 := mk0 (Kd.S_elder' (by (with_reducible repeat (first | apply Sa_ | apply Sn_ | apply Sd_)); exact HO_5.out) (Kd.R_base ho16) hb); have HO182 := mk0 (Kd.R_lower ho16 (keep_size (w := w) (g := g) (row := none) (by with_reducible repeat (first | exact HK.out | apply ks_ | apply kn_ | apply kd_ | apply ka_)))); replace HK := mk0 (KeepBut.trans (by with_reducible repeat (first | exact HK.out | apply ks_ | apply kn_ | apply kd_ | apply ka_)) (KeepBut.of_below hb g none) (.inl rfl)); replace HB := mk0 (below_step (by with_reducible repeat (first | exact HB.out | apply ba_ | apply bn_ | apply bd_ | refine below_set ?_ (IsS71.ge HI0.out))) hb); replace HI0 := mk0 (IsS71.below (by with_reducible repeat (first | exact HI0.out | apply ia_ | apply in_ | apply id_ | apply is_)) hb); clear hb ho16; obtain ⟨Ao17, co17, eo17⟩ := Kd.R_slice HO182.out; subst eo17) | ((with_reducible refine gate_callee (f := 49) rfl ?_); refine goesL_ (some 21) rfl rfl Tryd.func49 (by kernel_rfl) rfl #[.pointer (some ⟨g, 0, none⟩), .slice Ao17 y180.length co17] rfl (by (try simp only [List.map_toArray, List.map_cons, List.map_nil]); first | done | rfl | (simp only [List.length_drop, List.length_take]; rfl)) ?_; (with_reducible refine (spec_reader_one.calls k1 g s0_0 x1001_1 _ _ y180 t183 t184 w0 _ ?side1 ?side2 ?side3 ?side4 ?side5 A12.out).mono ?_); (case side1 => with_reducible repeat (first | exact HI0.out | apply ia_ | apply in_ | apply id_ | apply is_)); (case side2 => with_reducible repeat (first | exact HB.out | apply ba_ | apply bn_ | apply bd_ | refine below_set ?_ (IsS71.ge HI0.out))); (case side3 => repeat (first | exact (Kd.R_reads' HO182.out).2.2 | (with_reducible first | refine Ca_ ?_ _ | refine Cn_ ?_ _ | refine Cd_ ?_))); (case side4 => exact (Kd.R_reads' HO182.out).2.1); (case side5 => exact far_slice (IsS71.own_ne HI0.out HO182.out (by decide))); rintro e w18 ⟨rfl, hi, hb, hk⟩; refine ⟨_, rfl, ?_⟩; replace HO_5 := mk0 (Kd.S_mono (Kd.S_keep (IsS71.apartS (show IsS71 w0 _ g s0_0 x1001_1 from by with_reducible repeat (first | exact HI0.out | apply ia_ | apply in_ | apply id_ | apply is_)) (by (with_reducible repeat (first | apply Sa_ | apply Sn_ | apply Sd_)); exact HO_5.out) (by decide)) hk (fun _ h => h.2)) (fun _ h => h.1)); replace HO182 := mk0 (Kd.R_mono (Kd.R_keep (IsS71.apart (show IsS71 w0 _ g s0_0 x1001_1 from by with_reducible repeat (first | exact HI0.out | apply ia_ | apply in_ | apply id_ | apply is_)) (by (with_reducible repeat (first | apply Ra_ | apply Rn_ | apply Rd_)); exact HO182.out) (by decide)) hk (fun _ h => h.2)) (fun _ h => h.1)); replace HK := mk0 (KeepBut.trans (by with_reducible repeat (first | exact HK.out | apply ks_ | apply kn_ | apply kd_ | apply ka_)) hk (.inl rfl)); replace HB := mk0 (hb); replace HI0 := mk0 (hi); clear hb hk hi) | ((with_reducible refine gate_callee (f := 27) rfl ?_); refine goesL_ (some 23) rfl rfl Tryd.func27 (by kernel_rfl) rfl #[.pointer (some ⟨g, 0, none⟩), .int .i64 3] rfl (by (try simp only [List.map_toArray, List.map_cons, List.map_nil]); first | done | rfl | (simp only [List.length_drop, List.length_take]; rfl)) ?_; (with_reducible refine (spec_reader_pick.calls k1 g s0_0 t184 3 t185 t186 w0 _ ?side1 ?side2 A13.out).mono ?_); (case side1 => with_reducible repeat (first | exact HI0.out | apply ia_ | apply in_ | apply id_ | apply is_)); (case side2 => with_reducible repeat (first | exact HB.out | apply ba_ | apply bn_ | apply bd_ | refine below_set ?_ (IsS71.ge HI0.out))); rintro e w19 ⟨rfl, hi, hb, hk⟩; refine ⟨_, rfl, ?_⟩; replace HO_5 := mk0 (Kd.S_mono (Kd.S_keep (IsS71.apartS (show IsS71 w0 _ g s0_0 t184 from by with_reducible repeat (first | exact HI0.out | apply ia_ | apply in_ | apply id_ | apply is_)) (by (with_reducible repeat (first | apply Sa_ | apply Sn_ | apply Sd_)); exact HO_5.out) (by decide)) hk (fun _ h => h.2)) (fun _ h => h.1)); replace HO182 := mk0 (Kd.R_mono (Kd.R_keep (IsS71.apart (show IsS71 w0 _ g s0_0 t184 from by with_reducible repeat (first | exact HI0.out | apply ia_ | apply in_ | apply id_ | apply is_)) (by (with_reducible repeat (first | apply Ra_ | apply Rn_ | apply Rd_)); exact HO182.out) (by decide)) hk (fun _ h => h.2)) (fun _ h => h.1)); replace HK := mk0 (KeepBut.trans (by with_reducible repeat (first | exact HK.out | apply ks_ | apply kn_ | apply kd_ | apply ka_)) hk (.inl rfl)); replace HB := mk0 (hb); replace HI0 := mk0 (hi); clear hb hk hi) | ((with_reducible refine gate_callee (f := 27) rfl ?_); refine goesL_ (some 25) rfl rfl Tryd.func27 (by kernel_rfl) rfl #[.pointer (some ⟨g, 0, none⟩), .int .i64 4] rfl (by (try simp only [List.map_toArray, List.map_cons, List.map_nil]); first | done | rfl | (simp only [List.length_drop, List.length_take]; rfl)) ?_; (with_reducible refine (spec_reader_pick.calls k1 g s0_0 t186 4 t187 t188 w0 _ ?side1 ?side2 A14.out).mono ?_); (case side1 => with_reducible repeat (first | exact HI0.out | apply ia_ | apply in_ | apply id_ | apply is_)); (case side2 => with_reducible repeat (first | exact HB.out | apply ba_ | apply bn_ | apply bd_ | refine below_set ?_ (IsS71.ge HI0.out))); rintro e w20 ⟨rfl, hi, hb, hk⟩; refine ⟨_, rfl, ?_⟩; replace HO_5 := mk0 (Kd.S_mono (Kd.S_keep (IsS71.apartS (show IsS71 w0 _ g s0_0 t186 from by with_reducible repeat (first | exact HI0.out | apply ia_ | apply in_ | apply id_ | apply is_)) (by (with_reducible repeat (first | apply Sa_ | apply Sn_ | apply Sd_)); exact HO_5.out) (by decide)) hk (fun _ h => h.2)) (fun _ h => h.1)); replace HO182 := mk0 (Kd.R_mono (Kd.R_keep (IsS71.apart (show IsS71 w0 _ g s0_0 t186 from by with_reducible repeat (first | exact HI0.out | apply ia_ | apply in_ | apply id_ | apply is_)) (by (with_reducible repeat (first | apply Ra_ | apply Rn_ | apply Rd_)); exact HO182.out) (by decide)) hk (fun _ h => h.2)) (fun _ h => h.1)); replace HK := mk0 (KeepBut.trans (by with_reducible repeat (first | exact HK.out | apply ks_ | apply kn_ | apply kd_ | apply ka_)) hk (.inl rfl)); replace HB := mk0 (hb); replace HI0 := mk0 (hi); clear hb hk hi) | ((with_reducible refine gate_dst (N := 27) rfl ?_); refine Kd.R_lit (Kd.int .i64) _ 3 ?hg (N := 27) ?hd (xs := ([] : List Int)) (inner := []) (ok := fun _ => True) (okp := fun _ => True) ?hr ?hp (fun _ hk => hk) trivial (Below.refl _ _) (Nat.le_refl _) (by simp) ?_; (case hd => rfl); (case hg => rfl); (case hr => first | (go_simp; done) | (go_simp; rfl)); (case hp => exact (Reps.none _ _)); intro v190 w21 ho22 hb hg_ hnew_; clear hg_ hnew_; (first | rw [← Ny189.out] at ho22 | (simp only [Int.reduceToNat] at ho22; rw [← Ny189.out] at ho22)); replace HO_5 := mk0 (Kd.S_elder' (by (with_reducible repeat (first | apply Sa_ | apply Sn_ | apply Sd_)); exact HO_5.out) (Kd.R_base ho22) hb); have HO191 := mk0 (Kd.R_lower (Kd.R_new' ho22 (Kd.R_lt (by (with_reducible repeat (first | apply Ra_ | apply Rn_ | apply Rd_)); exact HO182.out))) (keep_size (w := w) (g := g) (row := none) (by with_reducible repeat (first | exact HK.out | apply ks_ | apply kn_ | apply kd_ | apply ka_)))); replace HO182 := mk0 (Kd.R_elder' (by (with_reducible repeat (first | apply Ra_ | apply Rn_ | apply Rd_)); exact HO182.out) (Kd.R_base ho22) hb); replace HK := mk0 (KeepBut.trans (by with_reducible repeat (first | exact HK.out | apply ks_ | apply kn_ | apply kd_ | apply ka_)) (KeepBut.of_below hb g none) (.inl rfl)); replace HB := mk0 (below_step (by with_reducible repeat (first | exact HB.out | apply ba_ | apply bn_ | apply bd_ | refine below_set ?_ (IsS71.ge HI0.out))) hb); replace HI0 := mk0 (IsS71.below (by with_reducible repeat (first | exact HI0.out | apply ia_ | apply in_ | apply id_ | apply is_)) hb); clear hb ho22; obtain ⟨Ao23, co23, eo23⟩ := Kd.R_slice HO191.out; subst eo23) | ((with_reducible refine gate_dst (N := 7) rfl ?_); refine box_event ?hg (N := 7) ?hd (cs := #[.int .i64 0, .slice none 0 0, .int .i64 0, .int .i64 0]) (t := 45) ?hr ?_; (case hd => rfl); (case hg => rfl); (case hr => first | (go_simp; done) | (go_simp; rfl)); intro gb192 hg w24 hbox hb; replace HO_5 := mk0 (Kd.S_below (Kd.S_elderB (by (with_reducible repeat (first | apply Sa_ | apply Sn_ | apply Sd_)); exact HO_5.out) gb192 (Nat.le_of_eq hg.symm)) hb); replace HO182 := mk0 (Kd.R_below (by (with_reducible repeat (first | apply Ra_ | apply Rn_ | apply Rd_)); exact HO182.out) hb); replace HO191 := mk0 (Kd.R_below (by (with_reducible repeat (first | apply Ra_ | apply Rn_ | apply Rd_)); exact HO191.out) hb); replace HB := mk0 (below_step (by with_reducible repeat (first | exact HB.out | apply ba_ | apply bn_ | apply bd_ | refine below_set ?_ (IsS71.ge HI0.out))) hb); have BK192 := mk0 (hbox); have GW192 := mk0 ((by rw [hg]; exact (keep_size (w := w) (g := g) (row := none) (by with_reducible repeat (first | exact HK.out | apply ks_ | apply kn_ | apply kd_ | apply ka_))) : w.heap.size ≤ gb192)); have GE192 := mk0 ((Nat.le_trans HW0.out (by rw [hg]; exact (keep_size (w := w) (g := g) (row := none) (by with_reducible repeat (first | exact HK.out | apply ks_ | apply kn_ | apply kd_ | apply ka_))) : w.heap.size ≤ gb192) : w0.heap.size ≤ gb192)); replace HK := mk0 (KeepBut.trans (by with_reducible repeat (first | exact HK.out | apply ks_ | apply kn_ | apply kd_ | apply ka_)) (KeepBut.of_below hb g none) (.inl rfl)); have NB0_192 := mk0 ((by rw [hg]; exact Nat.ne_of_lt (IsS71.lt (show IsS71 w0 _ g s0_0 t188 from by with_reducible repeat (first | exact HI0.out | apply ia_ | apply in_ | apply id_ | apply is_))) : g ≠ gb192)); have NB192_0 := mk0 ((by rw [hg]; exact Nat.ne_of_gt (IsS71.lt (show IsS71 w0 _ g s0_0 t188 from by with_reducible repeat (first | exact HI0.out | apply ia_ | apply in_ | apply id_ | apply is_))) : gb192 ≠ g)); replace HI0 := mk0 (IsS71.below (by with_reducible repeat (first | exact HI0.out | apply ia_ | apply in_ | apply id_ | apply is_)) hb); clear hb hbox hg; have hnb25 := NB192_0.out; have hnc25 := NB0_192.out; have hcz26_0 : w24.cell? ⟨gb192, 0, none⟩ = some (.int .i64 0) := (blk_cell BK192.out 0).trans rfl; have hcz26_1 : w24.cell? ⟨gb192, 1, none⟩ = some (.slice none 0 0) := (blk_cell BK192.out 1).trans rfl; have hcz26_2 : w24.cell? ⟨gb192, 2, none⟩ = some (.int .i64 0) := (blk_cell BK192.out 2).trans rfl; have hcz26_3 : w24.cell? ⟨gb192, 3, none⟩ = some (.int .i64 0) := (blk_cell BK192.out 3).trans rfl; have hfz26_0 := blk_frozen BK192.out 0; have hfz26_1 := blk_frozen BK192.out 1; have hfz26_2 := blk_frozen BK192.out 2; have hfz26_3 := blk_frozen BK192.out 3))
    go_loopg [8] k1 (fun kq v8 w' => ∃ (x8_2 : Int) (x1001_2 : Int) (x193001_2 : List Int) (u193001 : Value), v8 = .int .i64 x8_2 ∧ Aside0 (spec_someGraph.l1 kq x5_1 x6_1 x8_2 s0_0 x1001_2 t183 x193001_2 t185 (wrap64 (1 + t187)) = some (r1, r2)) ∧ Aside0 (kq ≤ k1) ∧ Aside0 (Kd.S k41 45 w' w.heap.size (fun k_ => some k_ ≠ (u193001 : Value).ownBlock ∧ k_ ≠ gb192) u5 x5_1) ∧ Aside0 (Kd.R (Kd.int .i64) 3 w' w.heap.size (fun _ => True) u193001 x193001_2) ∧ Aside0 (w'.heap[gb192]? = some (.cells #[.int .i64 t183, u193001, .int .i64 t185, .int .i64 (wrap64 (1 + t187))] 45 (0, 0))) ∧ Aside0 (IsS71 w0 w' g s0_0 x1001_2) ∧ Aside0 (KeepBut w w' g none) ∧ Aside0 (Below w0.heap.size w0 w'))
    case atStart => exact ⟨(0), (t188), (y189), (.slice Ao23 y189.length co23), (by first | rfl | (simp; done) | (simp [*]; done)), H', ⟨Nat.le_refl _⟩, ⟨by (with_reducible repeat (first | apply Sa_ | apply Sn_ | apply Sd_)); exact Kd.S_mono (Kd.S_far (p := ⟨gb192, 3, none⟩) (Kd.S_far (p := ⟨gb192, 2, none⟩) (Kd.S_far (p := ⟨gb192, 1, none⟩) (Kd.S_far (p := ⟨gb192, 0, none⟩) (Kd.S_mono HO_5.out (fun k_ hk => (⟨hk, hk.2⟩ : _ ∧ k_ ≠ gb192))) (fun _ hk => hk.2) (.int .i64 t183)) (fun _ hk => hk.2) (.slice Ao23 y189.length co23)) (fun _ hk => hk.2) (.int .i64 t185)) (fun _ hk => hk.2) (.int .i64 (wrap64 (1 + t187)))) (fun _ hk => ⟨hk.1.1.2, hk.1.2⟩)⟩, ⟨by (with_reducible repeat (first | apply Ra_ | apply Rn_ | apply Rd_)); exact Kd.R_mono (Kd.R_far (p := ⟨gb192, 3, none⟩) (Kd.R_far (p := ⟨gb192, 2, none⟩) (Kd.R_far (p := ⟨gb192, 1, none⟩) (Kd.R_far (p := ⟨gb192, 0, none⟩) (Kd.R_types HO191.out BK192.out (by decide)) (fun _ hk => hk.2) (.int .i64 t183)) (fun _ hk => hk.2) (.slice Ao23 y189.length co23)) (fun _ hk => hk.2) (.int .i64 t185)) (fun _ hk => hk.2) (.int .i64 (wrap64 (1 + t187)))) (fun _ hk => trivial)⟩, ⟨by (with_reducible repeat (first | refine blk_drewN ?_ _ | refine blk_drew ?_ | refine blk_alloc ?_ _)); refine blk_put (cs := #[.int .i64 t183, .slice Ao23 y189.length co23, .int .i64 t185, .int .i64 0]) ?_ 3 _ rfl; (with_reducible repeat (first | refine blk_drewN ?_ _ | refine blk_drew ?_ | refine blk_alloc ?_ _)); refine blk_put (cs := #[.int .i64 t183, .slice Ao23 y189.length co23, .int .i64 0, .int .i64 0]) ?_ 2 _ rfl; (with_reducible repeat (first | refine blk_drewN ?_ _ | refine blk_drew ?_ | refine blk_alloc ?_ _)); refine blk_put (cs := #[.int .i64 t183, .slice none 0 0, .int .i64 0, .int .i64 0]) ?_ 1 _ rfl; (with_reducible repeat (first | refine blk_drewN ?_ _ | refine blk_drew ?_ | refine blk_alloc ?_ _)); refine blk_put (cs := #[.int .i64 0, .slice none 0 0, .int .i64 0, .int .i64 0]) ?_ 0 _ rfl; (with_reducible repeat (first | refine blk_drewN ?_ _ | refine blk_drew ?_ | refine blk_alloc ?_ _)); exact BK192.out⟩, ⟨by repeat (first | (with_reducible first | exact HI0.out | apply ia_ | apply in_ | apply id_ | apply is_ | refine IsS71.far ?_ NB0_192.out _) | exact HI0.out)⟩, ⟨by repeat (first | (with_reducible first | exact HK.out | apply ks_ | apply kn_ | apply kd_ | apply ka_ | refine keep_far ?_ GW192.out _) | exact HK.out)⟩, ⟨by with_reducible repeat (first | exact HB.out | apply ba_ | apply bn_ | apply bd_ | refine below_set ?_ (IsS71.ge HI0.out) | refine below_set ?_ GE192.out)⟩⟩
    case round =>
     clear H'
     try clear c1
     try clear c2
     try clear p2
     try clear c4
     try clear p6
     try clear c11
     try clear c11b0
     try clear c25
     try clear hcz26_0
     try clear hcz26_1
     try clear hcz26_2
     try clear hcz26_3
     try clear hfz26_0
     try clear hfz26_1
     try clear hfz26_2
     try clear hfz26_3
     try clear p2
     obtain ⟨x8_2, x1001_2, x193001_2, u193001, rfl, HA, HK2, HO_5, HO_193001, BK192, HI0, HK, HB⟩ := hrel
     cases gk with
     | zero => exact absurd HA.out (by simp [spec_someGraph.l1])
     | succ k2 =>
      have H := HA.out
      clear HA
      simp only [spec_someGraph.l1] at H
      by_cases c27 : x8_2 < (x5_1.length : Int)
      ·
       rw [if_pos c27] at H
       have c27b0 : decide (x8_2 < (x5_1.length : Int)) = true := decide_eq_true c27
       clear c27
       replace H := bE_ H
       obtain ⟨⟨t193, t194⟩, A280, H⟩ := H
       have A28 := mk0 A280
       clear A280
       by_cases c29 : t193 = 0
       ·
        rw [if_pos c29] at H
        have c29b0 : (t193 == 0) = true := beq_iff_eq.mpr c29
        have c29b1 : (t193 != 0) = false := bne_eq_false_iff_eq.mpr c29
        clear c29
        by_cases c30 : x193001_2.length < 17592186044416
        ·
         rw [if_pos c30] at H
         have LMc30 := mk0 c30
         clear c30
         obtain ⟨y195, hy195⟩ : ∃ y_ : List Int, y_ = (x193001_2 ++ [x8_2]) := ⟨_, rfl⟩
         replace H : (spec_someGraph.l1 k2 x5_1 x6_1 (wrap64 (x8_2 + 1)) s0_0 t194 t183 y195 t185 (wrap64 (1 + t187))) = some (r1, r2) := by first | (rw [hy195]; with_reducible exact H) | (rw [hy195]; exact (Option.bind_some _ _).symm.trans H) | (rw [hy195]; exact H) | exact H
         have Ny195 := mk0 hy195
         clear hy195
         have H' := mk0 H
         clear H
         obtain ⟨Ao31, co31, eo31⟩ := Kd.S_slice HO_5.out
         subst eo31
         go_wp2_with (first | ((with_reducible refine gate_callee (f := 27) rfl ?_); refine goesL_ (some 36) rfl rfl Tryd.func27 (by kernel_rfl) rfl #[.pointer (some ⟨g, 0, none⟩), .int .i64 3] rfl (by (try simp only [List.map_toArray, List.map_cons, List.map_nil]); first | done | rfl | (simp only [List.length_drop, List.length_take]; rfl)) ?_; (with_reducible refine (spec_reader_pick.calls k2 g s0_0 x1001_2 3 t193 t194 w0 _ ?side1 ?side2 A28.out).mono ?_); (case side1 => repeat (first | (with_reducible first | exact HI0.out | apply ia_ | apply in_ | apply id_ | apply is_ | refine IsS71.far ?_ NB0_192.out _) | exact HI0.out)); (case side2 => with_reducible repeat (first | exact HB.out | apply ba_ | apply bn_ | apply bd_ | refine below_set ?_ (IsS71.ge HI0.out) | refine below_set ?_ GE192.out)); rintro e w32 ⟨rfl, hi, hb, hk⟩; refine ⟨_, rfl, ?_⟩; replace HO_5 := mk0 (Kd.S_mono (Kd.S_keep (IsS71.apartS (show IsS71 w0 _ g s0_0 x1001_2 from by repeat (first | (with_reducible first | exact HI0.out | apply ia_ | apply in_ | apply id_ | apply is_ | refine IsS71.far ?_ NB0_192.out _) | exact HI0.out)) (by (with_reducible repeat (first | apply Sa_ | apply Sn_ | apply Sd_)); exact HO_5.out) (by decide)) hk (fun _ h => h.2)) (fun _ h => h.1)); replace HO_193001 := mk0 (Kd.R_mono (Kd.R_keep (IsS71.apart (show IsS71 w0 _ g s0_0 x1001_2 from by repeat (first | (with_reducible first | exact HI0.out | apply ia_ | apply in_ | apply id_ | apply is_ | refine IsS71.far ?_ NB0_192.out _) | exact HI0.out)) (by (with_reducible repeat (first | apply Ra_ | apply Rn_ | apply Rd_)); exact HO_193001.out) (by decide)) hk (fun _ h => h.2)) (fun _ h => h.1)); replace BK192 := mk0 (KeepBut.blk hk (g' := gb192) (o := .cells #[.int .i64 t183, u193001, .int .i64 t185, .int .i64 (wrap64 (1 + t187))] 45 (0, 0)) (by (with_reducible repeat (first | refine blk_drewN ?_ _ | refine blk_drew ?_ | refine blk_alloc ?_ _)); exact BK192.out) NB192_0.out (by simp)); replace HK := mk0 (KeepBut.trans (by repeat (first | (with_reducible first | exact HK.out | apply ks_ | apply kn_ | apply kd_ | apply ka_ | refine keep_far ?_ GW192.out _) | exact HK.out)) hk (.inl rfl)); replace HB := mk0 (hb); replace HI0 := mk0 (hi); clear hb hk hi; have hnb33 := NB192_0.out; have hnc33 := NB0_192.out; have hcz34_0 : w32.cell? ⟨gb192, 0, none⟩ = some (.int .i64 t183) := (blk_cell BK192.out 0).trans rfl; have hcz34_1 : w32.cell? ⟨gb192, 1, none⟩ = some (u193001) := (blk_cell BK192.out 1).trans rfl; have hcz34_2 : w32.cell? ⟨gb192, 2, none⟩ = some (.int .i64 t185) := (blk_cell BK192.out 2).trans rfl; have hcz34_3 : w32.cell? ⟨gb192, 3, none⟩ = some (.int .i64 (wrap64 (1 + t187))) := (blk_cell BK192.out 3).trans rfl; have hfz34_0 := blk_frozen BK192.out 0; have hfz34_1 := blk_frozen BK192.out 1; have hfz34_2 := blk_frozen BK192.out 2; have hfz34_3 := blk_frozen BK192.out 3) | ((with_reducible refine gate_builtin (b := .append) (xs := #[.tmp 39, .tmp 41]) rfl ?_); at_builtin; refine Kd.R_append (Kd.int .i64) w.heap.size rfl (.tmp 39) (.tmp 41) 24 3 (.int .i64 0) 8 rfl Tryd.underlying24 info3 rfl (by decide) (by omega) u193001 x193001_2 x8_2 [.int .i64 x8_2] (fun _ => True) (fun _ => False) rfl rfl ?aP (fun _ hk => hk.elim) ?aF ?aO (Below.refl _ _) ?aS ?aL ?_; (case aP => exact rfl); (case aF => exact (fun _ _ => trivial)); (case aO => exact (by (with_reducible repeat (first | apply Ra_ | apply Rn_ | apply Rd_)); exact HO_193001.out)); (case aS => exact (keep_size (w := w) (g := g) (row := none) (by repeat (first | (with_reducible first | exact HK.out | apply ks_ | apply kn_ | apply kd_ | apply ka_ | refine keep_far ?_ GW192.out _) | exact HK.out)))); (case aL => have := LMc30.out; omega); intro v196 w35 ho hb hg hat; rw [← Ny195.out] at ho; replace HO_5 := mk0 (Kd.S_after (ok := (fun k_ => k_ ≠ gb192)) (by (with_reducible repeat (first | apply Sa_ | apply Sn_ | apply Sd_)); exact Kd.S_mono HO_5.out (fun _ hk => ⟨hk.2, hk.1⟩)) hg hat); replace BK192 := mk0 (blk_grown (g := gb192) (o := .cells #[.int .i64 t183, u193001, .int .i64 t185, .int .i64 (wrap64 (1 + t187))] 45 (0, 0)) (by (with_reducible repeat (first | refine blk_drewN ?_ _ | refine blk_drew ?_ | refine blk_alloc ?_ _)); exact BK192.out) hg (Kd.R_ne HO_193001.out BK192.out (by decide))); replace HB := mk0 (below_weaken (by with_reducible repeat (first | exact HB.out | apply ba_ | apply bn_ | apply bd_ | refine below_set ?_ (IsS71.ge HI0.out) | refine below_set ?_ GE192.out)) HL.out hb); replace HI0 := mk0 (IsS71.grown (by repeat (first | (with_reducible first | exact HI0.out | apply ia_ | apply in_ | apply id_ | apply is_ | refine IsS71.far ?_ NB0_192.out _) | exact HI0.out)) hg (IsS71.own_ne HI0.out HO_193001.out (by decide))); replace HK := mk0 (KeepBut.trans (by repeat (first | (with_reducible first | exact HK.out | apply ks_ | apply kn_ | apply kd_ | apply ka_ | refine keep_far ?_ GW192.out _) | exact HK.out)) (KeepBut.of_grown hg g) (Kd.R_base2 HO_193001.out)); have HO197 := mk0 (ho); clear HO_193001; clear ho hb hg hat; obtain ⟨Ao36, co36, eo36⟩ := Kd.R_slice HO197.out; subst eo36; have hcz37_0 : w35.cell? ⟨gb192, 0, none⟩ = some (.int .i64 t183) := (blk_cell BK192.out 0).trans rfl; have hcz37_1 : w35.cell? ⟨gb192, 1, none⟩ = some (u193001) := (blk_cell BK192.out 1).trans rfl; have hcz37_2 : w35.cell? ⟨gb192, 2, none⟩ = some (.int .i64 t185) := (blk_cell BK192.out 2).trans rfl; have hcz37_3 : w35.cell? ⟨gb192, 3, none⟩ = some (.int .i64 (wrap64 (1 + t187))) := (blk_cell BK192.out 3).trans rfl; have hfz37_0 := blk_frozen BK192.out 0; have hfz37_1 := blk_frozen BK192.out 1; have hfz37_2 := blk_frozen BK192.out 2; have hfz37_3 := blk_frozen BK192.out 3))
         go_roundg k2
         case measure => have := HK1.out; have := HK2.out; omega
         case rel => exact ⟨(wrap64 (x8_2 + 1)), (t194), (y195), (.slice Ao36 y195.length co36), (by first | rfl | (simp; done) | (simp [*]; done)), H', ⟨by have := HK1.out; have := HK2.out; omega⟩, ⟨by (with_reducible repeat (first | apply Sa_ | apply Sn_ | apply Sd_)); exact Kd.S_mono (Kd.S_far (p := ⟨gb192, 1, none⟩) (Kd.S_mono HO_5.out (fun k_ hk => (⟨hk, hk.1⟩ : _ ∧ k_ ≠ gb192))) (fun _ hk => hk.2) (.slice Ao36 y195.length co36)) (fun _ hk => ⟨hk.1.2, hk.1.1⟩)⟩, ⟨by (with_reducible repeat (first | apply Ra_ | apply Rn_ | apply Rd_)); exact Kd.R_mono (Kd.R_far (p := ⟨gb192, 1, none⟩) (Kd.R_types HO197.out BK192.out (by decide)) (fun _ hk => hk.2) (.slice Ao36 y195.length co36)) (fun _ hk => trivial)⟩, ⟨by (with_reducible repeat (first | refine blk_drewN ?_ _ | refine blk_drew ?_ | refine blk_alloc ?_ _)); refine blk_put (cs := #[.int .i64 t183, u193001, .int .i64 t185, .int .i64 (wrap64 (1 + t187))]) ?_ 1 _ rfl; (with_reducible repeat (first | refine blk_drewN ?_ _ | refine blk_drew ?_ | refine blk_alloc ?_ _)); exact BK192.out⟩, ⟨by repeat (first | (with_reducible first | exact HI0.out | apply ia_ | apply in_ | apply id_ | apply is_ | refine IsS71.far ?_ NB0_192.out _) | exact HI0.out)⟩, ⟨by repeat (first | (with_reducible first | exact HK.out | apply ks_ | apply kn_ | apply kd_ | apply ka_ | refine keep_far ?_ GW192.out _) | exact HK.out)⟩, ⟨by with_reducible repeat (first | exact HB.out | apply ba_ | apply bn_ | apply bd_ | refine below_set ?_ (IsS71.ge HI0.out) | refine below_set ?_ GE192.out)⟩⟩
        ·
         rw [if_neg c30] at H
         exact nn_ H
       ·
        rw [if_neg c29] at H
        have c29b0 : (t193 == 0) = false := beq_eq_false_iff_ne.mpr c29
        have c29b1 : (t193 != 0) = true := bne_iff_ne.mpr c29
        have H' := mk0 H
        clear H
        obtain ⟨Ao38, co38, eo38⟩ := Kd.S_slice HO_5.out
        subst eo38
        go_wp2_with (first | ((with_reducible refine gate_callee (f := 27) rfl ?_); refine goesL_ (some 36) rfl rfl Tryd.func27 (by kernel_rfl) rfl #[.pointer (some ⟨g, 0, none⟩), .int .i64 3] rfl (by (try simp only [List.map_toArray, List.map_cons, List.map_nil]); first | done | rfl | (simp only [List.length_drop, List.length_take]; rfl)) ?_; (with_reducible refine (spec_reader_pick.calls k2 g s0_0 x1001_2 3 t193 t194 w0 _ ?side1 ?side2 A28.out).mono ?_); (case side1 => repeat (first | (with_reducible first | exact HI0.out | apply ia_ | apply in_ | apply id_ | apply is_ | refine IsS71.far ?_ NB0_192.out _) | exact HI0.out)); (case side2 => with_reducible repeat (first | exact HB.out | apply ba_ | apply bn_ | apply bd_ | refine below_set ?_ (IsS71.ge HI0.out) | refine below_set ?_ GE192.out)); rintro e w39 ⟨rfl, hi, hb, hk⟩; refine ⟨_, rfl, ?_⟩; replace HO_5 := mk0 (Kd.S_mono (Kd.S_keep (IsS71.apartS (show IsS71 w0 _ g s0_0 x1001_2 from by repeat (first | (with_reducible first | exact HI0.out | apply ia_ | apply in_ | apply id_ | apply is_ | refine IsS71.far ?_ NB0_192.out _) | exact HI0.out)) (by (with_reducible repeat (first | apply Sa_ | apply Sn_ | apply Sd_)); exact HO_5.out) (by decide)) hk (fun _ h => h.2)) (fun _ h => h.1)); replace HO_193001 := mk0 (Kd.R_mono (Kd.R_keep (IsS71.apart (show IsS71 w0 _ g s0_0 x1001_2 from by repeat (first | (with_reducible first | exact HI0.out | apply ia_ | apply in_ | apply id_ | apply is_ | refine IsS71.far ?_ NB0_192.out _) | exact HI0.out)) (by (with_reducible repeat (first | apply Ra_ | apply Rn_ | apply Rd_)); exact HO_193001.out) (by decide)) hk (fun _ h => h.2)) (fun _ h => h.1)); replace BK192 := mk0 (KeepBut.blk hk (g' := gb192) (o := .cells #[.int .i64 t183, u193001, .int .i64 t185, .int .i64 (wrap64 (1 + t187))] 45 (0, 0)) (by (with_reducible repeat (first | refine blk_drewN ?_ _ | refine blk_drew ?_ | refine blk_alloc ?_ _)); exact BK192.out) NB192_0.out (by simp)); replace HK := mk0 (KeepBut.trans (by repeat (first | (with_reducible first | exact HK.out | apply ks_ | apply kn_ | apply kd_ | apply ka_ | refine keep_far ?_ GW192.out _) | exact HK.out)) hk (.inl rfl)); replace HB := mk0 (hb); replace HI0 := mk0 (hi); clear hb hk hi))
        go_roundg k2
        case measure => have := HK1.out; have := HK2.out; omega
        case rel => exact ⟨(wrap64 (x8_2 + 1)), (t194), (x193001_2), (u193001), (by first | rfl | (simp; done) | (simp [*]; done)), H', ⟨by have := HK1.out; have := HK2.out; omega⟩, ⟨by (with_reducible repeat (first | apply Sa_ | apply Sn_ | apply Sd_)); exact HO_5.out⟩, ⟨by (with_reducible repeat (first | apply Ra_ | apply Rn_ | apply Rd_)); exact HO_193001.out⟩, ⟨by (with_reducible repeat (first | refine blk_drewN ?_ _ | refine blk_drew ?_ | refine blk_alloc ?_ _)); exact BK192.out⟩, ⟨by repeat (first | (with_reducible first | exact HI0.out | apply ia_ | apply in_ | apply id_ | apply is_ | refine IsS71.far ?_ NB0_192.out _) | exact HI0.out)⟩, ⟨by repeat (first | (with_reducible first | exact HK.out | apply ks_ | apply kn_ | apply kd_ | apply ka_ | refine keep_far ?_ GW192.out _) | exact HK.out)⟩, ⟨by with_reducible repeat (first | exact HB.out | apply ba_ | apply bn_ | apply bd_ | refine below_set ?_ (IsS71.ge HI0.out) | refine below_set ?_ GE192.out)⟩⟩
      ·
       rw [if_neg c27] at H
       have c27b0 : decide (x8_2 < (x5_1.length : Int)) = false := decide_eq_false c27
       clear c27
       by_cases c40 : x5_1.length < 2932031007402
       ·
        rw [if_pos c40] at H
        have LMc40 := mk0 c40
        clear c40
        obtain ⟨y198, hy198⟩ : ∃ y_ : List (S41), y_ = (x5_1 ++ [(⟨t183, x193001_2, t185, (wrap64 (1 + t187))⟩ : S41)]) := ⟨_, rfl⟩
        replace H : (spec_someGraph.l0 k2 y198 (wrap64 (x6_1 - 1)) s0_0 x1001_2) = some (r1, r2) := by first | (rw [hy198]; with_reducible exact H) | (rw [hy198]; exact (Option.bind_some _ _).symm.trans H) | (rw [hy198]; exact H) | exact H
        have Ny198 := mk0 hy198
        clear hy198
        have H' := mk0 H
        clear H
        obtain ⟨Ao41, co41, eo41⟩ := Kd.S_slice HO_5.out
        subst eo41
        have hnb42 := NB192_0.out
        have hnc42 := NB0_192.out
        have hcz43_0 : wr.cell? ⟨gb192, 0, none⟩ = some (.int .i64 t183) := (blk_cell BK192.out 0).trans rfl
        have hcz43_1 : wr.cell? ⟨gb192, 1, none⟩ = some (u193001) := (blk_cell BK192.out 1).trans rfl
        have hcz43_2 : wr.cell? ⟨gb192, 2, none⟩ = some (.int .i64 t185) := (blk_cell BK192.out 2).trans rfl
        have hcz43_3 : wr.cell? ⟨gb192, 3, none⟩ = some (.int .i64 (wrap64 (1 + t187))) := (blk_cell BK192.out 3).trans rfl
        have hfz43_0 := blk_frozen BK192.out 0
        have hfz43_1 := blk_frozen BK192.out 1
        have hfz43_2 := blk_frozen BK192.out 2
        have hfz43_3 := blk_frozen BK192.out 3
        obtain ⟨Ao45, co45, eo45⟩ := Kd.R_slice HO_193001.out
        subst eo45
        go_wp2_with (first | ((with_reducible refine gate_builtin (b := .append) (xs := #[.tmp 44, .tmp 46]) rfl ?_); at_builtin; refine Kd.S_append k41 w.heap.size rfl (.tmp 44) (.tmp 46) 23 45 (.agg #[(.int .i64 0), (.slice none 0 0), (.int .i64 0), (.int .i64 0)]) 48 rfl Tryd.underlying23 info45 rfl (by decide) (by omega) (.slice Ao41 x5_1.length co41) x5_1 (⟨t183, x193001_2, t185, (wrap64 (1 + t187))⟩ : S41) [.int .i64 t183, .slice Ao45 x193001_2.length co45, .int .i64 t185, .int .i64 (wrap64 (1 + t187))] (fun k_ => k_ ≠ gb192) (fun k_ => some k_ = (.slice Ao45 x193001_2.length co45 : Value).ownBlock) rfl rfl ?aP (fun k_ hk_ => ((Kd.R_mono (ok' := fun k_ => ((fun k_ => k_ ≠ gb192)) k_ ∧ some k_ ≠ (.slice Ao41 x5_1.length co41 : Value).ownBlock) (Kd.R_types (Kd.R_apart' (HO_193001.out) (Kd.S_typed HO_5.out) (by decide)) BK192.out (by decide)) (fun k_ hk => ⟨hk.2, hk.1.2⟩))).1 k_ hk_.symm) ?aF ?aO (Below.refl _ _) ?aS ?aL ?_; (case aP => exact k41_mkM _ _ _ (⟨t183, x193001_2, t185, (wrap64 (1 + t187))⟩ : S41) (Kd.R_mono (Kd.R_tight rfl (Kd.R_mono (ok' := fun k_ => ((fun k_ => k_ ≠ gb192)) k_ ∧ some k_ ≠ (.slice Ao41 x5_1.length co41 : Value).ownBlock) (Kd.R_types (Kd.R_apart' (HO_193001.out) (Kd.S_typed HO_5.out) (by decide)) BK192.out (by decide)) (fun k_ hk => ⟨hk.2, hk.1.2⟩))) (fun _ h_ => h_))); (case aF => exact (fun k_ hk => Kd.freshB (g := gb192) (o := .cells #[.int .i64 t183, .slice Ao45 x193001_2.length co45, .int .i64 t185, .int .i64 (wrap64 (1 + t187))] 45 (0, 0)) (by (with_reducible repeat (first | refine blk_drewN ?_ _ | refine blk_drew ?_ | refine blk_alloc ?_ _)); exact BK192.out) k_ hk)); (case aO => exact (by (with_reducible repeat (first | apply Sa_ | apply Sn_ | apply Sd_)); exact Kd.S_mono HO_5.out (fun k_ hk => ⟨hk.2, fun e_ => hk.1 e_⟩))); (case aS => exact (keep_size (w := w) (g := g) (row := none) (by repeat (first | (with_reducible first | exact HK.out | apply ks_ | apply kn_ | apply kd_ | apply ka_ | refine keep_far ?_ GW192.out _) | exact HK.out)))); (case aL => have := LMc40.out; omega); intro v199 w44 ho hb hg hat; rw [← Ny198.out] at ho; replace BK192 := mk0 (blk_grown (g := gb192) (o := .cells #[.int .i64 t183, .slice Ao45 x193001_2.length co45, .int .i64 t185, .int .i64 (wrap64 (1 + t187))] 45 (0, 0)) (by (with_reducible repeat (first | refine blk_drewN ?_ _ | refine blk_drew ?_ | refine blk_alloc ?_ _)); exact BK192.out) hg (Kd.S_away HO_5.out (fun _ hk => hk.2))); replace HB := mk0 (below_weaken (by with_reducible repeat (first | exact HB.out | apply ba_ | apply bn_ | apply bd_ | refine below_set ?_ (IsS71.ge HI0.out) | refine below_set ?_ GE192.out)) HL.out hb); replace HI0 := mk0 (IsS71.grown (by repeat (first | (with_reducible first | exact HI0.out | apply ia_ | apply in_ | apply id_ | apply is_ | refine IsS71.far ?_ NB0_192.out _) | exact HI0.out)) hg (IsS71.own_neS HI0.out HO_5.out (by decide))); replace HK := mk0 (KeepBut.trans (by repeat (first | (with_reducible first | exact HK.out | apply ks_ | apply kn_ | apply kd_ | apply ka_ | refine keep_far ?_ GW192.out _) | exact HK.out)) (KeepBut.of_grown hg g) (Kd.S_base2 HO_5.out)); have HO200 := mk0 (ho); clear HO_5 HO_193001; clear ho hb hg hat))
        go_roundg k2
        case measure => have := HK1.out; have := HK2.out; omega
        case rel => exact ⟨(y198), (wrap64 (x6_1 - 1)), (x1001_2), (by first | rfl | (simp; done) | (simp [*]; done)), H', ⟨by have := HK1.out; have := HK2.out; omega⟩, ⟨by (with_reducible repeat (first | apply Sa_ | apply Sn_ | apply Sd_)); exact Kd.S_mono HO200.out (fun _ hk => trivial)⟩, ⟨by repeat (first | (with_reducible first | exact HI0.out | apply ia_ | apply in_ | apply id_ | apply is_ | refine IsS71.far ?_ NB0_192.out _) | exact HI0.out)⟩, ⟨by repeat (first | (with_reducible first | exact HK.out | apply ks_ | apply kn_ | apply kd_ | apply ka_ | refine keep_far ?_ GW192.out _) | exact HK.out)⟩, ⟨by with_reducible repeat (first | exact HB.out | apply ba_ | apply bn_ | apply bd_ | refine below_set ?_ (IsS71.ge HI0.out) | refine below_set ?_ GE192.out)⟩⟩
       ·
        rw [if_neg c40] at H
        exact nn_ H
   ·
    rw [if_neg c11] at H
    have c11b0 : decide (0 < x6_1) = false := decide_eq_false c11
    clear c11
    by_cases c46 : (x5_1.length : Int) > 1
    ·
     rw [if_pos c46] at H
     have c46b0 : decide (1 < (x5_1.length : Int)) = true := decide_eq_true c46
     have c46b1 : decide (1 < x5_1.length) = true := decide_eq_true (by omega)
     clear c46
     replace H := bE_ H
     obtain ⟨⟨t201, t202⟩, A470, H⟩ := H
     have A47 := mk0 A470
     clear A470
     by_cases c48 : t201 = 0
     ·
      rw [if_pos c48] at H
      have c48b0 : (t201 == 0) = true := beq_iff_eq.mpr c48
      have c48b1 : (t201 != 0) = false := bne_eq_false_iff_eq.mpr c48
      clear c48
      replace H := bE_ H
      obtain ⟨t203, A490, H⟩ := H
      have A49 := mk0 A490
      clear A490
      simp only [Option.some.injEq, Prod.mk.injEq] at H
      obtain ⟨rfl, rfl⟩ := H
      obtain ⟨Ao50, co50, eo50⟩ := Kd.S_slice HO_5.out
      subst eo50
      go_wp2_with (first | (go_at_call 27; (with_reducible refine (spec_reader_pick.calls k1 g s0_0 x1001_1 4 t201 t202 w0 _ ?side1 ?side2 A47.out).mono ?_); (case side1 => with_reducible repeat (first | exact HI0.out | apply ia_ | apply in_ | apply id_ | apply is_)); (case side2 => with_reducible repeat (first | exact HB.out | apply ba_ | apply bn_ | apply bd_ | refine below_set ?_ (IsS71.ge HI0.out))); rintro e w51 ⟨rfl, hi, hb, hk⟩; replace HO_5 := mk0 (Kd.S_mono (Kd.S_keep (IsS71.apartS (show IsS71 w0 _ g s0_0 x1001_1 from by with_reducible repeat (first | exact HI0.out | apply ia_ | apply in_ | apply id_ | apply is_)) (by (with_reducible repeat (first | apply Sa_ | apply Sn_ | apply Sd_)); exact HO_5.out) (by decide)) hk (fun _ h => h.2)) (fun _ h => h.1)); replace HK := mk0 (KeepBut.trans (by with_reducible repeat (first | exact HK.out | apply ks_ | apply kn_ | apply kd_ | apply ka_)) hk (.inl rfl)); replace HB := mk0 (hb); replace HI0 := mk0 (hi); clear hb hk hi) | ((with_reducible refine gate_callee (f := 68) rfl ?_); refine goesL_ (some 57) rfl rfl Tryd.func68 (by kernel_rfl) rfl #[.slice Ao50 x5_1.length co50] rfl (by (try simp only [List.map_toArray, List.map_cons, List.map_nil]); first | done | rfl | (simp only [List.length_drop, List.length_take]; rfl)) ?_; (with_reducible refine (spec_turned.calls k1 _ _ x5_1 t203 _ ?side1 ?side2 A49.out).mono ?_); (case side1 => repeat (first | exact (Kd.S_reads' HO_5.out).2.2 | (with_reducible first | refine Ca_ ?_ _ | refine Cn_ ?_ _ | refine Cd_ ?_))); (case side2 => exact (Kd.S_reads' HO_5.out).2.1); rintro e w52 ⟨v204, rfl, ho0, hb⟩; refine ⟨_, rfl, ?_⟩; have HO205 := mk0 (Kd.S_lower (Kd.S_new' ho0 (Kd.S_lt (by (with_reducible repeat (first | apply Sa_ | apply Sn_ | apply Sd_)); exact HO_5.out))) (keep_size (w := w) (g := g) (row := none) (by with_reducible repeat (first | exact HK.out | apply ks_ | apply kn_ | apply kd_ | apply ka_)))); replace HO_5 := mk0 (Kd.S_elder' (by (with_reducible repeat (first | apply Sa_ | apply Sn_ | apply Sd_)); exact HO_5.out) (Kd.S_base ho0) hb); replace HK := mk0 (KeepBut.trans (by with_reducible repeat (first | exact HK.out | apply ks_ | apply kn_ | apply kd_ | apply ka_)) (KeepBut.of_below hb g none) (.inl rfl)); replace HB := mk0 (below_step (by with_reducible repeat (first | exact HB.out | apply ba_ | apply bn_ | apply bd_ | refine below_set ?_ (IsS71.ge HI0.out))) hb); replace HI0 := mk0 (IsS71.below (by with_reducible repeat (first | exact HI0.out | apply ia_ | apply in_ | apply id_ | apply is_)) hb); clear hb ho0))
      go_ret
      exact ⟨_, by first | rfl | (simp [errW_none, errW_some] <;> rfl) | (simp only [← hji4]; first | rfl | (simp [errW_none, errW_some] <;> rfl)) | (simp [*, errW_none, errW_some] <;> rfl), by (with_reducible repeat (first | apply Sa_ | apply Sn_ | apply Sd_)); exact Kd.S_mono HO205.out (fun _ hk => trivial), by with_reducible repeat (first | exact HI0.out | apply ia_ | apply in_ | apply id_ | apply is_), by with_reducible repeat (first | exact HB.out | apply ba_ | apply bn_ | apply bd_ | refine below_set ?_ (IsS71.ge HI0.out)), by with_reducible repeat (first | exact HK.out | apply ks_ | apply kn_ | apply kd_ | apply ka_)⟩
     ·
      rw [if_neg c48] at H
      have c48b0 : (t201 == 0) = false := beq_eq_false_iff_ne.mpr c48
      have c48b1 : (t201 != 0) = true := bne_iff_ne.mpr c48
      simp only [Option.some.injEq, Prod.mk.injEq] at H
      obtain ⟨rfl, rfl⟩ := H
      obtain ⟨Ao53, co53, eo53⟩ := Kd.S_slice HO_5.out
      subst eo53
      go_wp2_with (first | (go_at_call 27; (with_reducible refine (spec_reader_pick.calls k1 g s0_0 x1001_1 4 t201 t202 w0 _ ?side1 ?side2 A47.out).mono ?_); (case side1 => with_reducible repeat (first | exact HI0.out | apply ia_ | apply in_ | apply id_ | apply is_)); (case side2 => with_reducible repeat (first | exact HB.out | apply ba_ | apply bn_ | apply bd_ | refine below_set ?_ (IsS71.ge HI0.out))); rintro e w54 ⟨rfl, hi, hb, hk⟩; replace HO_5 := mk0 (Kd.S_mono (Kd.S_keep (IsS71.apartS (show IsS71 w0 _ g s0_0 x1001_1 from by with_reducible repeat (first | exact HI0.out | apply ia_ | apply in_ | apply id_ | apply is_)) (by (with_reducible repeat (first | apply Sa_ | apply Sn_ | apply Sd_)); exact HO_5.out) (by decide)) hk (fun _ h => h.2)) (fun _ h => h.1)); replace HK := mk0 (KeepBut.trans (by with_reducible repeat (first | exact HK.out | apply ks_ | apply kn_ | apply kd_ | apply ka_)) hk (.inl rfl)); replace HB := mk0 (hb); replace HI0 := mk0 (hi); clear hb hk hi))
      go_ret
      exact ⟨_, by first | rfl | (simp [errW_none, errW_some] <;> rfl) | (simp only [← hji4]; first | rfl | (simp [errW_none, errW_some] <;> rfl)) | (simp [*, errW_none, errW_some] <;> rfl), by (with_reducible repeat (first | apply Sa_ | apply Sn_ | apply Sd_)); exact HO_5.out, by with_reducible repeat (first | exact HI0.out | apply ia_ | apply in_ | apply id_ | apply is_), by with_reducible repeat (first | exact HB.out | apply ba_ | apply bn_ | apply bd_ | refine below_set ?_ (IsS71.ge HI0.out)), by with_reducible repeat (first | exact HK.out | apply ks_ | apply kn_ | apply kd_ | apply ka_)⟩
    ·
     rw [if_neg c46] at H
     have c46b0 : decide (1 < (x5_1.length : Int)) = false := decide_eq_false c46
     have c46b1 : decide (1 < x5_1.length) = false := decide_eq_false (by omega)
     clear c46
     simp only [Option.some.injEq, Prod.mk.injEq] at H
     obtain ⟨rfl, rfl⟩ := H
     obtain ⟨Ao55, co55, eo55⟩ := Kd.S_slice HO_5.out
     subst eo55
     go_wp2
     go_ret
     exact ⟨_, by first | rfl | (simp [errW_none, errW_some] <;> rfl) | (simp only [← hji4]; first | rfl | (simp [errW_none, errW_some] <;> rfl)) | (simp [*, errW_none, errW_some] <;> rfl), by (with_reducible repeat (first | apply Sa_ | apply Sn_ | apply Sd_)); exact HO_5.out, by with_reducible repeat (first | exact HI0.out | apply ia_ | apply in_ | apply id_ | apply is_), by with_reducible repeat (first | exact HB.out | apply ba_ | apply bn_ | apply bd_ | refine below_set ?_ (IsS71.ge HI0.out)), by with_reducible repeat (first | exact HK.out | apply ks_ | apply kn_ | apply kd_ | apply ka_)⟩
-- NOT PRINTED: function 47 (spec_anyGraph)
-- NOT PRINTED: function 22 (spec_smallGraph)
end Go.Proofs.YtkljcdghbefceaaDoor.PFnValidLog
