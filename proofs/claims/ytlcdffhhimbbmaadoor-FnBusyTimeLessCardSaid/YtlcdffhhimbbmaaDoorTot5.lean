/- The draws' plain functions come to an end: anyGraph, DrawValidLog. -/
import Derived.Test.YtlcdffhhimbbmaaDoorTot4
import Derived.Test.YtlcdffhhimbbmaaDoorQ8
namespace Go.Proofs.YtlcdffhhimbbmaaDoor.PFnValidLog
set_option linter.unusedVariables false
set_option linter.unusedSimpArgs false
open Go Go.RowKit
open Go.Proofs.YtlcdffhhimbbmaaDoorW.PrintWords Go.Proofs.YtlcdffhhimbbmaaDoorW.PrintLast Go.Proofs.YtlcdffhhimbbmaaDoorW.PrintMore

theorem GOk_set {m n : Nat} {g : List S41} {t : S41} (h : GOk m n g) (i : Nat) (ht : t.f1.length ≤ n) : GOk m n (g.set i t) := by
  refine ⟨by rw [List.length_set]; exact h.1, fun x hx => ?_⟩
  rcases List.mem_or_eq_of_mem_set hx with hx | rfl
  · exact h.2 x hx
  · exact ht
theorem GOk_wide {m n m' n' : Nat} {g : List S41} (h : GOk m n g) (hm : m ≤ m') (hn : n ≤ n') : GOk m' n' g := ⟨Nat.le_trans h.1 hm, fun t ht => Nat.le_trans (h.2 t ht) hn⟩
section
variable {b : List Int} (hb : ∀ x ∈ b, 0 ≤ x ∧ x < 256) (hl : b.length ≤ 2000)
include hb hl
theorem anyGraph_gets (p : Int) (h0 : 0 ≤ p) (h1 : p ≤ 500000) : Gets (fun k => spec_anyGraph.f k b p) (fun r => GOk 16 10 r.1 ∧ 0 ≤ r.2 ∧ r.2 ≤ p + 300) := by
  unfold spec_anyGraph.f
  refine Gets.bind (someGraph_gets hb hl p h0 (by omega) 8 (by omega)) fun x hx => ?_
  obtain ⟨hg, x0, x1⟩ := hx
  have hgw := GOk_wide (m' := 16) (n' := 10) hg (by omega) (by omega)
  have hlen := hg.1
  refine Gets.ite (fun _ => Gets.ret ⟨hgw, x0, by omega⟩) (fun hne => ?_)
  refine Gets.bind (pick_gets hb hl x0 (by omega)) fun i hi => ?_
  obtain ⟨i1, i2, i3, i4⟩ := hi
  have i5 := i2 (by omega)
  have hmem := hg.2 _ (rdT_mem i1 i5)
  rw [i4]
  refine Gets.bind (pick_gets hb hl (by omega) (by omega)) fun q hq => ?_
  obtain ⟨q1, q2, q3, q4⟩ := hq
  rw [q4]
  refine Gets.ite (fun _ => ?_) (fun _ => Gets.ite (fun _ => ?_) (fun _ => Gets.ite (fun _ => ?_) (fun _ => Gets.ite (fun _ => ?_) (fun _ => Gets.ite (fun _ => ?_) (fun _ => Gets.ret ⟨hgw, by show 0 ≤ x.2 + 1 + 1; omega, by show x.2 + 1 + 1 ≤ p + 300; omega⟩)))))
  · refine Gets.bind (one_gets hb hl (by omega) (by omega) (by simp)) fun t ht => ?_
    exact Gets.pos i1 (Gets.pos i5 (Gets.ret ⟨GOk_set hgw _ (by show (rd_T41 x.1 i.1).f1.length ≤ 10; omega), by show 0 ≤ t.2; omega, by show t.2 ≤ p + 300; omega⟩))
  · refine Gets.bind (pick_gets hb hl (by omega) (by omega)) fun t ht => ?_
    obtain ⟨t1, t2, t3, t4⟩ := ht
    refine Gets.pos i1 (Gets.pos i5 (Gets.pos (by omega) ?_))
    rw [t4]
    refine Gets.bind (spoil_gets hb hl _ (by omega) (by omega) _ (by simp; omega) _) fun s hs => ?_
    obtain ⟨s1, s2, s3⟩ := hs
    exact Gets.ret ⟨GOk_set hgw _ (by show s.1.length ≤ 10; simp at s1; omega), by show 0 ≤ s.2; omega, by show s.2 ≤ p + 300; omega⟩
  · refine Gets.bind (one_gets hb hl (by omega) (by omega) (by simp)) fun t ht => ?_
    exact Gets.pos i1 (Gets.pos i5 (Gets.ret ⟨GOk_set hgw _ (by show (rd_T41 x.1 i.1).f1.length ≤ 10; omega), by show 0 ≤ t.2; omega, by show t.2 ≤ p + 300; omega⟩))
  · refine Gets.bind (one_gets hb hl (by omega) (by omega) (by simp)) fun t ht => ?_
    exact Gets.pos i1 (Gets.pos i5 (Gets.ret ⟨GOk_set hgw _ (by show (rd_T41 x.1 i.1).f1.length ≤ 10; omega), by show 0 ≤ t.2; omega, by show t.2 ≤ p + 300; omega⟩))
  · refine Gets.bind (someGraph_gets hb hl _ (by omega) (by omega) 8 (by omega)) fun t ht => ?_
    obtain ⟨tg, t0, t1⟩ := ht
    have tl := tg.1
    refine Gets.pos (by omega) (Gets.ret ⟨⟨?_, fun y hy => ?_⟩, t0, by show t.2 ≤ p + 300; omega⟩)
    · show (x.1 ++ t.1).length ≤ 16
      simp; omega
    · rcases List.mem_append.1 hy with hy | hy
      · exact hgw.2 y hy
      · exact Nat.le_trans (tg.2 y hy) (by omega)
end
theorem newReader_some (l : List Int) : ∃ r, spec_newReader.f l = some (r, 0) ∧ r.length ≤ 2000 ∧ ∀ x ∈ r, x ∈ l := by
  unfold spec_newReader.f
  by_cases h : (l.length : Int) > 2000
  · rw [if_pos h, if_pos (by omega)]
    exact ⟨_, rfl, by rw [List.length_take]; omega, fun x hx => List.mem_of_mem_take hx⟩
  · rw [if_neg h]
    exact ⟨l, rfl, by omega, fun x hx => hx⟩
/-- The draw of a graph and a log comes to an end. -/
theorem DrawValidLog_gets (l : List Int) (hb : ∀ x ∈ l, 0 ≤ x ∧ x < 256) : Gets (fun k => spec_DrawValidLog.f k l) (fun q => GOk 16 10 q.1 ∧ q.2.length ≤ 4000) := by
  obtain ⟨r, hr, hrl, hrm⟩ := newReader_some l
  have hb' : ∀ x ∈ r, 0 ≤ x ∧ x < 256 := fun x hx => hb x (hrm x hx)
  unfold spec_DrawValidLog.f
  rw [hr]
  simp only [Option.bind_some]
  refine Gets.bind (anyGraph_gets hb' hrl 0 (by omega) (by omega)) fun g hg => ?_
  obtain ⟨g1, g2, g3⟩ := hg
  refine Gets.bind (anyLog_gets hb' hrl _ g2 (by omega) g.1 10 (by omega) (GOk_wide g1 (by omega) (Nat.le_refl _))) fun lg hlg => ?_
  exact Gets.ret ⟨g1, hlg.1⟩
end Go.Proofs.YtlcdffhhimbbmaaDoor.PFnValidLog
