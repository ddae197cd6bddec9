/- Parts of the proof, laid as one text by a program of mine. -/
import Derived.Test.YtlapphhcficbjaaDoorKfc0
import Derived.Test.YtlapphhcficbjaaDoorKfmLawFnExactChartLinesa
import Derived.Deep.Slices
import Derived.Lib.SmallJoins
namespace Go.Proofs.YtlapphhcficbjaaDoor
set_option linter.unusedVariables false
set_option linter.unusedSimpArgs false
open Go.ChangeShapes Go.WideShapes Go.ChangeAt Go.RowKit Go.Deep Go.Shelf Go.Joins
open Go.Proofs.YtlapphhcficbjaaDoorW.PrintWords Go.Proofs.YtlapphhcficbjaaDoorW.PrintLast Go.Proofs.YtlapphhcficbjaaDoorW.PrintMore
theorem C_cells {W : World} {a : Addr} {l : List Int} (hm : l.length ≤ 9223372036854775807) (hc : ∀ i, i < l.length → W.cell? (a.add i) = some (.int .i64 (l.getD i 0))) : (Kd.int .i64).C W (some a) l.length l := by
 refine ⟨rfl, by omega, fun _ => ⟨_, rfl, fun j p hj => ⟨[.int .i64 p], rfl, rfl, fun i u hu => ?_⟩⟩⟩
 have hjl : j < l.length := (List.getElem?_eq_some_iff.1 hj).1
 have hi : i = 0 := by
  have := (List.getElem?_eq_some_iff.1 hu).1
  simp at this
  exact this
 subst hi
 have hq : j * (Kd.int .i64).sz + 0 = j := by
  show j * 1 + 0 = j
  omega
 rw [hq, hc j hjl, List.getD_eq_getElem?_getD, hj]
 simpa using hu
section
variable {H : Type} {enc : TypeId × Value → H} {W : World} {sp : Nat → Bool} {fuel : Nat} {x : DataW H × List MemPlace}
theorem open_intsC {cs : List Value} (h : DataW.trod enc Tryd.prog W 0 sp true fuel 24 cs = some x) : ∃ A c l, cs = [.slice A l.length c] ∧ l.length ≤ c ∧ (Kd.int .i64).C W A l.length l := by
 rcases open_ints Tryd.underlying24 Tryd.underlying3 (by kernel_rfl) h with ⟨rfl, _⟩ | ⟨a, len, cap, zs, rfl, _, hl, hm, hz, _, hcell, hwz⟩
 ·
  exact ⟨none, 0, [], rfl, Nat.le_refl _, Kd.C_nil _ _⟩
 ·
  have hzl : len ≤ zs.length := by rw [hz]; split <;> omega
  have ht : (zs.take len).length = len := by simp; omega
  refine ⟨some a, cap, zs.take len, by rw [ht], by rw [ht]; exact hl, C_cells (by rw [ht]; simp only [maxLen] at hm; omega) (fun i hi => ?_)⟩
  rw [ht] at hi
  rw [hcell i (by omega), List.getD_eq_getElem?_getD, List.getD_eq_getElem?_getD, List.getElem?_take, if_pos hi]
set_option maxRecDepth 100000 in
theorem open_tasksC {cs : List Value} (h : DataW.trod enc Tryd.prog W 0 sp true fuel 45 cs = some x) : ∃ A c g, cs = [.slice A g.length c] ∧ g.length ≤ c ∧ kTk.C W A g.length g := by
 rcases open_slice Tryd.underlying45 h with ⟨rfl, _⟩ | ⟨a, len, cap, m, n, D, Pl, rfl, hb, hl, hm, hmm, rfl, hx⟩
 ·
  exact ⟨none, 0, [], rfl, Nat.le_refl _, Kd.C_nil _ _⟩
 have hlm : len ≤ m := by rw [hmm]; split <;> omega
 have c4 : Tryd.prog.cellsOf 93 = 4 := by kernel_rfl
 have cI : Tryd.prog.cellsOf 3 = 1 := by kernel_rfl
 have cS : Tryd.prog.cellsOf 24 = 1 := by kernel_rfl
 have each : ∀ i, i < len → ∃ q : Tk × Value, W.cell? (a.add (i * 4)) = some (.int .i64 q.1.f0) ∧ W.cell? (a.add (i * 4 + 1)) = some q.2 ∧ W.cell? (a.add (i * 4 + 2)) = some (.int .i64 q.1.f2) ∧ W.cell? (a.add (i * 4 + 3)) = some (.int .i64 q.1.f3) ∧ ∃ A1 c1, q.2 = .slice A1 q.1.f1.length c1 ∧ q.1.f1.length ≤ c1 ∧ (Kd.int .i64).C W A1 q.1.f1.length q.1.f1 := by
  intro i hi
  obtain ⟨cs', h1, h2⟩ := hx i (by omega)
  rw [c4] at h1
  obtain ⟨_, hlen, hcell⟩ := World.cells?_some h1
  obtain ⟨y0, y1, y2, y3, k, hxy, _, u0, u1, u2, u3⟩ := trod_struct4 Tryd.underlying93 h2
  match cs', hlen with
  | [v0, v1, v2, v3], _ =>
   simp only [cI, cS, List.drop, List.take] at u0 u1 u2 u3
   obtain ⟨z0, e0, _, _⟩ := DataW.trod_int Tryd.underlying3 u0
   obtain ⟨A1, c1, l1, e1, hl1, hC1⟩ := open_intsC u1
   obtain ⟨z2, e2, _, _⟩ := DataW.trod_int Tryd.underlying3 u2
   obtain ⟨z3, e3, _, _⟩ := DataW.trod_int Tryd.underlying3 u3
   simp only [List.cons.injEq, and_true] at e0 e1 e2 e3
   subst e0; subst e1; subst e2; subst e3
   have k0 := hcell 0 (by omega)
   have k1 := hcell 1 (by omega)
   have k2 := hcell 2 (by omega)
   have k3 := hcell 3 (by omega)
   rw [Go.Deep.add_add] at k0 k1 k2 k3
   exact ⟨(⟨z0, l1, z2, z3⟩, .slice A1 l1.length c1), by simpa using k0, by simpa using k1, by simpa using k2, by simpa using k3, A1, c1, rfl, hl1, hC1⟩
 haveI : Inhabited (Tk × Value) := ⟨(⟨0, [], 0, 0⟩, .slice none 0 0)⟩
 obtain ⟨q, hq⟩ := choose_lt each
 have hgl : ((List.range len).map fun i => (q i).1).length = len := by simp
 refine ⟨some a, cap, (List.range len).map fun i => (q i).1, by rw [hgl], by rw [hgl]; exact hl, rfl, by rw [hgl]; simp only [maxLen] at hm; omega, fun _ => ⟨_, rfl, fun j p hj => ?_⟩⟩
 have hjl : j < len := by
  have := (List.getElem?_eq_some_iff.1 hj).1
  simpa using this
 have hp : (q j).1 = p := by
  rw [List.getElem?_map, List.getElem?_range hjl] at hj
  simpa using hj
 obtain ⟨k0, k1, k2, k3, A1, c1, e1, hl1, hC1⟩ := hq j hjl
 rw [hp] at k0 k2 k3 e1 hl1 hC1
 rw [e1] at k1
 refine ⟨[.int .i64 p.f0, .slice A1 p.f1.length c1, .int .i64 p.f2, .int .i64 p.f3], rfl, ⟨[.int .i64 p.f0], [.slice A1 p.f1.length c1, .int .i64 p.f2, .int .i64 p.f3], rfl, rfl, ⟨[.slice A1 p.f1.length c1], [.int .i64 p.f2, .int .i64 p.f3], rfl, ⟨A1, c1, rfl, hl1, hC1⟩, ⟨[.int .i64 p.f2], [.int .i64 p.f3], rfl, rfl, rfl⟩⟩⟩, fun i u hu => ?_⟩
 have hi : i < 4 := by
  have := (List.getElem?_eq_some_iff.1 hu).1
  simpa using this
 show W.cell? (a.add (j * 4 + i)) = some u
 rcases i with _ | _ | _ | _ | i
 ·
  rw [Nat.add_zero, k0]
  simpa using hu
 ·
  rw [k1]
  simpa using hu
 ·
  rw [k2]
  simpa using hu
 ·
  rw [k3]
  simpa using hu
 ·
  omega
end
end Go.Proofs.YtlapphhcficbjaaDoor
