/- The machine that replays a log: its plain steps, how it lies in memory, machine.take. -/
import Derived.StillTailTactics
import Derived.Test.YtpmfghbjkampkaaDoorGraph
namespace Go.Proofs.YtpmfghbjkampkaaDoor
set_option linter.unusedVariables false
set_option linter.unusedSimpArgs false
open Go.RowKit Go.Shelf Bits
open Go.Proofs.YtpmfghbjkampkaaDoorW.PrintWords Go.Proofs.YtpmfghbjkampkaaDoorW.PrintLast Go.Proofs.YtpmfghbjkampkaaDoorW.PrintMore
structure Mach where
 b : Nat
 o : Nat
 bg : Nat → Int
 cl : Nat → Int
def Mach.zero : Mach := ⟨0, 0, fun _ => 0, fun _ => 0⟩
def Ev.i (e : Ev) : Nat := e.f1.toNat
def evIn (g : List Tk) (e : Ev) : Bool := inB e.f0 0 200 && inB e.f1 0 (g.length - 1)
def mayBegin (ns : List Nat) (M : Mach) (e : Ev) : Bool := !M.b.testBit e.i && decide (diff (ns.getD e.i 0) M.o = 0)
def mayEnd (g : List Tk) (M : Mach) (e : Ev) : Bool := M.b.testBit e.i && !M.o.testBit e.i && decide (e.f0 = M.bg e.i + (rdTk g e.i).f0)
def Mach.begin (M : Mach) (e : Ev) : Mach := { M with b := M.b ||| 2 ^ e.i, bg := fun j => if j = e.i then e.f0 else M.bg j }
def Mach.finish (M : Mach) (e : Ev) : Mach := { M with o := M.o ||| 2 ^ e.i, cl := fun j => if j = e.i then e.f0 else M.cl j }
def stepM (g : List Tk) (ns : List Nat) (M : Mach) (e : Ev) : Option Mach :=
 if evIn g e = false then none
 else if e.f2 = false then (if mayBegin ns M e then some (M.begin e) else none)
 else (if mayEnd g M e then some (M.finish e) else none)
def MAt (h C : Nat) (M : Mach) (W : World) : Prop :=
 W.cell? ⟨h, 0, none⟩ = some (.pointer (some ⟨C, 0, none⟩)) ∧ W.cell? ⟨h, 1, none⟩ = some (.int .u16 M.b) ∧ W.cell? ⟨h, 2, none⟩ = some (.int .u16 M.o) ∧
 (∀ i, i < 8 → W.cell? ⟨h, 3 + i, none⟩ = some (.int .i64 (M.bg i))) ∧ (∀ i, i < 8 → W.cell? ⟨h, 11 + i, none⟩ = some (.int .i64 (M.cl i))) ∧
 (∀ j, j < 19 → W.frozen? ⟨h, j, none⟩ = false) ∧ M.b < 65536 ∧ M.o < 65536 ∧ h < W.heap.size
section
variable {h C : Nat} {M : Mach} {W : World}
theorem oth (W : World) (h j k : Nat) (v : Value) (hne : j ≠ k) : (W.setCell ⟨h, j, none⟩ v).cell? ⟨h, k, none⟩ = W.cell? ⟨h, k, none⟩ := World.cell?_setCell_other _ _ _ _ (by simp [hne])
theorem MAt.setB (hM : MAt h C M W) (b : Nat) (hb : b < 65536) : MAt h C { M with b := b } (W.setCell ⟨h, 1, none⟩ (.int .u16 b)) := by
 obtain ⟨h0, h1, h2, h3, h4, h5, h6, h7, h8⟩ := hM
 exact ⟨by rw [oth _ _ _ _ _ (by omega)]; exact h0, World.cell?_setCell_same _ _ _ h1, by rw [oth _ _ _ _ _ (by omega)]; exact h2, fun i hi => by rw [oth _ _ _ _ _ (by omega)]; exact h3 i hi,
  fun i hi => by rw [oth _ _ _ _ _ (by omega)]; exact h4 i hi, fun j hj => by rw [World.frozen?_setCell]; exact h5 j hj, hb, h7, by simpa [World.setCell] using h8⟩
theorem MAt.setO (hM : MAt h C M W) (b : Nat) (hb : b < 65536) : MAt h C { M with o := b } (W.setCell ⟨h, 2, none⟩ (.int .u16 b)) := by
 obtain ⟨h0, h1, h2, h3, h4, h5, h6, h7, h8⟩ := hM
 exact ⟨by rw [oth _ _ _ _ _ (by omega)]; exact h0, by rw [oth _ _ _ _ _ (by omega)]; exact h1, World.cell?_setCell_same _ _ _ h2, fun i hi => by rw [oth _ _ _ _ _ (by omega)]; exact h3 i hi,
  fun i hi => by rw [oth _ _ _ _ _ (by omega)]; exact h4 i hi, fun j hj => by rw [World.frozen?_setCell]; exact h5 j hj, h6, hb, by simpa [World.setCell] using h8⟩
theorem MAt.setBg (hM : MAt h C M W) (i : Nat) (hi : i < 8) (v : Int) : MAt h C { M with bg := fun j => if j = i then v else M.bg j } (W.setCell ⟨h, 3 + i, none⟩ (.int .i64 v)) := by
 obtain ⟨h0, h1, h2, h3, h4, h5, h6, h7, h8⟩ := hM
 refine ⟨by rw [oth _ _ _ _ _ (by omega)]; exact h0, by rw [oth _ _ _ _ _ (by omega)]; exact h1, by rw [oth _ _ _ _ _ (by omega)]; exact h2, fun j hj => ?_,
  fun j hj => by rw [oth _ _ _ _ _ (by omega)]; exact h4 j hj, fun j hj => by rw [World.frozen?_setCell]; exact h5 j hj, h6, h7, by simpa [World.setCell] using h8⟩
 by_cases hij : j = i
 ·
  subst hij
  simp only [if_pos]
  exact World.cell?_setCell_same _ _ _ (h3 j hj)
 ·
  simp only [if_neg hij]
  rw [oth _ _ _ _ _ (by omega)]
  exact h3 j hj
theorem MAt.setCl (hM : MAt h C M W) (i : Nat) (hi : i < 8) (v : Int) : MAt h C { M with cl := fun j => if j = i then v else M.cl j } (W.setCell ⟨h, 11 + i, none⟩ (.int .i64 v)) := by
 obtain ⟨h0, h1, h2, h3, h4, h5, h6, h7, h8⟩ := hM
 refine ⟨by rw [oth _ _ _ _ _ (by omega)]; exact h0, by rw [oth _ _ _ _ _ (by omega)]; exact h1, by rw [oth _ _ _ _ _ (by omega)]; exact h2, fun j hj => by rw [oth _ _ _ _ _ (by omega)]; exact h3 j hj,
  fun j hj => ?_, fun j hj => by rw [World.frozen?_setCell]; exact h5 j hj, h6, h7, by simpa [World.setCell] using h8⟩
 by_cases hij : j = i
 ·
  subst hij
  simp only [if_pos]
  exact World.cell?_setCell_same _ _ _ (h4 j hj)
 ·
  simp only [if_neg hij]
  rw [oth _ _ _ _ _ (by omega)]
  exact h4 j hj
theorem MAt.below {W' : World} (hM : MAt h C M W) (hb : Below W.heap.size W W') : MAt h C M W' := by
 obtain ⟨h0, h1, h2, h3, h4, h5, h6, h7, h8⟩ := hM
 have e : ∀ j, W'.cell? ⟨h, j, none⟩ = W.cell? ⟨h, j, none⟩ := fun j => by simp only [World.cell?, hb.block h h8]
 have f : ∀ j, W'.frozen? ⟨h, j, none⟩ = W.frozen? ⟨h, j, none⟩ := fun j => by simp only [World.frozen?, hb.block h h8]
 exact ⟨by rw [e]; exact h0, by rw [e]; exact h1, by rw [e]; exact h2, fun i hi => by rw [e]; exact h3 i hi, fun i hi => by rw [e]; exact h4 i hi, fun j hj => by rw [f]; exact h5 j hj, h6, h7, by have := hb.size; omega⟩
theorem MAt.drew (hM : MAt h C M W) : MAt h C M W.drew := hM.below ((Below.refl _ W).drew)
end
def Others (h : Nat) (w w' : World) : Prop := ∀ k, k < w.heap.size → k ≠ h → w'.heap[k]? = w.heap[k]?
theorem Others.of_below {h : Nat} {w w' : World} (hb : Below w.heap.size w w') : Others h w w' := fun k hk _ => hb.block k hk
theorem Others.setCell {h : Nat} {w w' : World} (hb : Others h w w') (j : Nat) (v : Value) : Others h w (w'.setCell ⟨h, j, none⟩ v) := fun k hk hne => by
 rw [← hb k hk hne]
 exact Below.heap_setCell _ _ _ _ hne
theorem Others.drew {h : Nat} {w w' : World} (hb : Others h w w') : Others h w w'.drew := hb
theorem Others.cell {h : Nat} {w w' : World} (hb : Others h w w') (a : Addr) (ha : a.block < w.heap.size) (hne : a.block ≠ h) : w'.cell? a = w.cell? a := by
 simp only [World.cell?, hb a.block ha hne]
theorem size_calls (W : World) (C : Nat) (g : List Tk) (ns : List Nat) (h : IsGraph W C g ns) :
  Calls Tryd.prog 72 #[.pointer (some ⟨C, 0, none⟩)] W fun e w' => e = .returned (.int .i64 g.length) ∧ w' = W := by
 obtain ⟨Ag, cg, An, cn, Ao, co, vb, va, h1, h2, h3, h4⟩ := h
 have hc0 : W.cell? ⟨C, 0, none⟩ = some (.slice Ag g.length cg) := by simp [World.cell?, h1]
 clear h1 h2 h3 h4
 go_enter Tryd.func72, Tryd.ntmps72
 go_wp2
 go_ret
 trivial
end Go.Proofs.YtpmfghbjkampkaaDoor
