/- Parts of the proof, laid as one text by a program of mine. -/
import Derived.Test.YtlapphhcficbjaaGreatDoorKic0
import Derived.Test.YtlapphhcficbjaaGreatDoorKic1
import Derived.BigGuard
import Derived.Test.YtlapphhcficbjaaGreatDoorProg
import Derived.Below
import Derived.Deep.Draws
import Derived.Deep.AppendLies
import Derived.Maps.AppendAt
import Derived.OwnWalk
import Derived.Laws.BytesArg
import Derived.Laws.MakeOwn
import Derived.Laws.OwnMore
import Derived.Deep.OwnRows
import Derived.Tactics
import Derived.Lib.ConvBytes
import Derived.Laws.Slices
import Derived.WalkKit
import Derived.KernelRfl
import Derived.RowKit3
import Derived.Deep.LoopGhost
import Derived.Deep.QuietTactic
import Derived.BigQuiet
import Derived.WideLaws
import Derived.Deep.DeepCutAuto
import Derived.Deep.CutBlock
import Derived.Deep.RegionHeld3
import Derived.Laws.Rows
import Derived.Lib.AppendStr
import Derived.ArgAppend
import Derived.Laws.IdiomCopy
import Derived.OrdersHeld
import Derived.Laws.BitsLemmas
import Derived.RowKit
namespace Go.Proofs.YtlapphhcficbjaaGreatDoor
set_option linter.unusedVariables false
set_option linter.unusedSimpArgs false
open Go.RowKit Go.Shelf Bits
open Go.Proofs.YtlapphhcficbjaaGreatDoorW.PrintWords Go.Proofs.YtlapphhcficbjaaGreatDoorW.PrintLast Go.Proofs.YtlapphhcficbjaaGreatDoorW.PrintMore
def mk (Ds : List Nat) : List Deferred := Ds.map fun D => { target := .collected D, args := #[] }
def Marks (Ds : List Nat) (w : World) : Prop := Ds.Nodup ∧ ∀ D ∈ Ds, w.heap[D]? = some (.deferred (some []))
theorem Marks.nil (w : World) : Marks [] w := ⟨List.nodup_nil, fun d h => by cases h⟩
theorem Marks.lt {Ds : List Nat} {w : World} (h : Marks Ds w) : ∀ D ∈ Ds, D < w.heap.size := fun D hD => (Array.getElem?_eq_some_iff.1 (h.2 D hD)).1
theorem Marks.cons {Ds : List Nat} {w : World} {D : Nat} (h : Marks Ds w) (hD : w.heap[D]? = some (.deferred (some []))) (hlt : ∀ E ∈ Ds, E < D) : Marks (D :: Ds) w := by
 refine ⟨List.nodup_cons.2 ⟨fun hm => by have := hlt D hm; omega, h.1⟩, fun E hE => ?_⟩
 rcases List.mem_cons.1 hE with rfl | hE
 ·
  exact hD
 ·
  exact h.2 E hE
theorem Marks.move {Ds : List Nat} {w w' : World} (h : Marks Ds w) (hm : ∀ k, k < w.heap.size → ∀ o : Obj, w.heap[k]? = some o → o.isCells = false → w'.heap[k]? = some o) : Marks Ds w' :=
 ⟨h.1, fun D hD => hm D (h.lt D hD) _ (h.2 D hD) rfl⟩
theorem Marks.alloc {Ds : List Nat} {w : World} (h : Marks Ds w) (o : Obj) : Marks Ds (w.alloc o) := ⟨h.1, fun D hD => (Below.heap_alloc w o D (h.lt D hD)).trans (h.2 D hD)⟩
theorem Marks.below {Ds : List Nat} {w w' : World} (h : Marks Ds w) (hb : Below w.heap.size w w') : Marks Ds w' := ⟨h.1, fun D hD => (hb.block D (h.lt D hD)).trans (h.2 D hD)⟩
structure Shut (B : Nat) (w w' : World) : Prop where
 os : w'.os = w.os
 tape : w'.tape = w.tape
 output : w'.output = w.output
 size : w'.heap.size = w.heap.size
 block : ∀ k, k < B → w'.heap[k]? = w.heap[k]?
 cells : ∀ (k : Nat) (o : Obj), w.heap[k]? = some o → o.isCells = true → w'.heap[k]? = some o
theorem Shut.refl (B : Nat) (w : World) : Shut B w w := ⟨rfl, rfl, rfl, rfl, fun _ _ => rfl, fun _ _ h _ => h⟩
theorem Shut.trans {B : Nat} {a b c : World} (h : Shut B a b) (k : Shut B b c) : Shut B a c :=
 ⟨k.os.trans h.os, k.tape.trans h.tape, k.output.trans h.output, k.size.trans h.size, fun i hi => (k.block i hi).trans (h.block i hi), fun i o ho hc => k.cells i o (h.cells i o ho hc) hc⟩
theorem Shut.put {B : Nat} {w : World} {D : Nat} (hD : w.heap[D]? = some (.deferred (some []))) (hB : B ≤ D) : Shut B w (w.putObj D (.deferred none)) := by
 have hg := grownBy_putObj' w D (.deferred none)
 refine ⟨rfl, rfl, rfl, by simp [World.putObj], fun k hk => hg.block k (by have := (Array.getElem?_eq_some_iff.1 hD).1; omega) (fun e => by cases e; omega), fun k o ho hc => ?_⟩
 by_cases e : k = D
 ·
  subst e
  rw [ho] at hD
  cases hD
  cases hc
 ·
  exact (hg.block k (Array.getElem?_eq_some_iff.1 ho).1 (fun e' => e (Option.some.inj e'))).trans ho
theorem Shut.below {B : Nat} {w w' : World} (h : Shut B w w') : Below B w w' := ⟨h.os, h.tape, h.output, Nat.le_of_eq h.size.symm, h.block⟩
theorem Shut.R {α : Type} {d : Kd α} {e : Nat} {w w1 : World} {B base : Nat} {ok : Nat → Prop} {v : Value} {xs : List α} (hs : Shut B w w1) (h : d.R e w base ok v xs) : d.R e w1 base ok v xs := by
 refine Kd.R_mono (Kd.R_move (Kd.R_bound h) fun k hk => ?_) (fun k hk => hk.1)
 obtain ⟨_, _, _, q, _, cells, hc⟩ := hk
 rw [hs.cells k _ hc rfl, hc]
theorem leave_marks {P : Program} {fn : Func} {tmps : Array Value} {R : Ending → World → Prop} {B : Nat} {v : Value} : ∀ (Ds : List Nat) (w : World), Marks Ds w → (∀ D ∈ Ds, B ≤ D) →
  (∀ w', Shut B w w' → (results fn tmps).run P w' = .ok v w' ∧ R (.returned v) w') → LeavesInM Fence.wide 9 P fn tmps R (mk Ds) .returning w
 | [], w, _, _, h => by
  obtain ⟨h1, h2⟩ := h w (Shut.refl _ _)
  exact ⟨_, h1, h2⟩
 | D :: Ds, w, hm, hB, h => by
  have hD := hm.2 D (List.mem_cons_self ..)
  have hsh := Shut.put hD (hB D (List.mem_cons_self ..))
  refine ⟨by simp, .inl ⟨_, _, rfl, run_takeDeferred hD, ?_⟩⟩
  refine leave_marks Ds _ ⟨(List.nodup_cons.1 hm.1).2, fun E hE => ?_⟩ (fun E hE => hB E (List.mem_cons_of_mem _ hE)) (fun w' hs => h w' (hsh.trans hs))
  have hEh := hm.2 E (List.mem_cons_of_mem _ hE)
  refine ((grownBy_putObj' w D (.deferred none)).block E (Array.getElem?_eq_some_iff.1 hEh).1 (fun e => ?_)).trans hEh
  cases e
  exact (List.nodup_cons.1 hm.1).1 hE
def endPost (P : Program) (fn : Func) (R : Ending → World → Prop) : Exit → Act → World → Prop
 | .normal, a, w | .ret, a, w => LeavesInM Fence.wide 9 P fn a.tmps R a.defers .returning w
 | _, _, _ => False
theorem calls_of_wp_marks {P : Program} {f : FuncId} {fn : Func} {c : Code} {args : Array Value} {w : World} {R : Ending → World → Prop}
  (hf : P.funcs[f]? = some fn) (hb : fn.body = some c)
  (h : c.wp P (endPost P fn R) { tmps := args ++ Array.replicate (fn.ntmps - args.size) undef, defers := [] } w) : Calls P f args w R :=
 callsIn_wide.1 (callsIn_of_wp_marks hf hb trivial (wpIn_wide.2 (wp_mono h fun e a w hq => by
  cases e with
  | normal => exact hq
  | ret => exact hq
  | _ => exact hq.elim)))
theorem leave_one {P : Program} {fn : Func} {tmps : Array Value} {R : Ending → World → Prop} {D : Nat} {w : World} {v : Value}
  (hD : w.heap[D]? = some (.deferred (some []))) (hv : (results fn tmps).run P (w.putObj D (.deferred none)) = .ok v (w.putObj D (.deferred none))) (hR : R (.returned v) (w.putObj D (.deferred none))) :
  LeavesInM Fence.wide 9 P fn tmps R [{ target := .collected D, args := #[] }] .returning w := by
 refine ⟨by simp, .inl ⟨_, _, rfl, run_takeDeferred hD, ?_⟩⟩
 exact ⟨_, hv, hR⟩
theorem wp_rangeSet {g : Operand} {p : Tmp} {assign body : Code} {Q : Exit → Act → World → Prop} {a : Act} {w : World} (s Bn n₀ : Nat) (hs : s < 65536)
  (hg : a.eval g = .func (.func 108) #[] #[.pointer (some ⟨Bn, 0, none⟩)]) (hB : Bn < w.heap.size)
  (hc : w.cell? ⟨Bn, 0, none⟩ = some (.int .u16 s)) (hT : Tab w) (hn : n₀ ≤ w.heap.size) (htab : 0 < n₀)
  (I : List (El s) → World → Prop) (Ix : Code → List (El s) → World → Prop) (hI : OwnFrom w.heap.size I) (hIx : ∀ c, OwnFrom w.heap.size (Ix c)) (h0 : I [] w)
  (Ax : El s → Act → World → Prop) (hAx : ∀ x a', OwnFrom w.heap.size (fun (_ : Unit) W => Ax x a' W))
  (hassign : ∀ (l : Nat) (pre : List (El s)) (x : El s) (W : World) (K : Act → World → Prop), I pre W → (∀ a' W', KeepsFrom w.heap.size W W' → Below n₀ W W' → I pre W' → Ax x a' W' → K a' W') →
   assign.wpIn (Fence.wide.inRound l) 7 Tryz.prog (Exit.then K (fun _ _ _ => False)) { tmps := a.tmps.setIfInBounds p (.int .i64 (x.1 : Nat)), defers := [] } W)
  (hbody : ∀ (l : Nat) (pre : List (El s)) (x : El s) (a' : Act) (W : World), w.heap.size ≤ l → (∃ r, W.heap[l]? = some (.loop r)) → I pre W → Ax x a' W → pre.length < (elems s).length → body.wpIn (Fence.wide.inRound l) 7 Tryz.prog (ownPostG w.heap.size (Below n₀) I Ix (pre ++ [x]) W) a' W)
  (hdone : ∀ (D : Nat) (xs : List (El s)) (W : World), w.heap.size ≤ D → xs.map (·.1) = elems s → I xs W → W.heap[D]? = some (.deferred (some [])) → Q .normal { a with defers := { target := .collected D, args := #[] } :: a.defers } W)
  (hstop : ∀ (D : Nat) (c : Code) (pre : List (El s)) (W : World), w.heap.size ≤ D → pre.map (·.1) <+: elems s → Ix c pre W → W.heap[D]? = some (.deferred (some [])) → c.wp Tryz.prog Q { a with defers := { target := .collected D, args := #[] } :: a.defers } W) :
  (Code.rangeFunc g #[p] assign body).wp Tryz.prog Q a w := by
 refine (wpIn_wide (n := 9)).1 (wpIn_rangeFunc_ownH (F := Fence.wide) rfl (by omega) hg trivial (enters_of Tryz.func108 (by kernel_rfl) rfl)
  (all_stops 8 (by omega) Bn n₀ s hs w hB hc hT htab) belowK_t (belowK_b hn) (Below.refl _ _) (fun _ => rfl) I Ix hI hIx h0 Ax hAx ?_ hbody hdone ?_)
 ·
  intro l pre x W K hi hK
  simpa using hassign l pre x W K hi hK
 ·
  intro D c pre W h1 h2 h3 h4
  exact wpIn_wide.2 (hstop D c pre W h1 h2 h3 h4)
theorem wp_rangeSet1 {g : Operand} {p : Tmp} {assign body : Code} {Q : Exit → Act → World → Prop} {a : Act} {w : World} (s Bn n₀ : Nat) (hs : s < 65536)
  (hg : a.eval g = .func (.func 108) #[] #[.pointer (some ⟨Bn, 0, none⟩)]) (hB : Bn < w.heap.size)
  (hc : w.cell? ⟨Bn, 0, none⟩ = some (.int .u16 s)) (hT : Tab w) (hn : n₀ ≤ w.heap.size) (htab : 0 < n₀)
  (I : List (El s) → World → Prop) (Ix : Code → List (El s) → World → Prop) (hI : OwnFrom w.heap.size I) (hIx : ∀ c, OwnFrom w.heap.size (Ix c)) (h0 : I [] w)
  (a₁ : El s → Act)
  (hassign : ∀ (l : Nat) (x : El s) (W : World) (K : Act → World → Prop), K (a₁ x) W →
   assign.wpIn (Fence.wide.inRound l) 7 Tryz.prog (Exit.then K (fun _ _ _ => False)) { tmps := a.tmps.setIfInBounds p (.int .i64 (x.1 : Nat)), defers := [] } W)
  (hbody : ∀ (l : Nat) (pre : List (El s)) (x : El s) (W : World), I pre W → pre.length < (elems s).length → body.wpIn (Fence.wide.inRound l) 7 Tryz.prog (ownPostG w.heap.size (Below n₀) I Ix (pre ++ [x]) W) (a₁ x) W)
  (hdone : ∀ (D : Nat) (xs : List (El s)) (W : World), w.heap.size ≤ D → xs.map (·.1) = elems s → I xs W → W.heap[D]? = some (.deferred (some [])) → Q .normal { a with defers := { target := .collected D, args := #[] } :: a.defers } W)
  (hstop : ∀ (D : Nat) (c : Code) (pre : List (El s)) (W : World), w.heap.size ≤ D → pre.map (·.1) <+: elems s → Ix c pre W → W.heap[D]? = some (.deferred (some [])) → c.wp Tryz.prog Q { a with defers := { target := .collected D, args := #[] } :: a.defers } W) :
  (Code.rangeFunc g #[p] assign body).wp Tryz.prog Q a w :=
 wp_rangeSet s Bn n₀ hs hg hB hc hT hn htab I Ix hI hIx h0 (fun x a' _ => a' = a₁ x) (fun _ _ => ownFrom_pure _ _)
  (fun l pre x W K hi hK => hassign l x W K (hK _ _ (KeepsFrom.refl _ _) (Below.refl _ _) hi rfl))
  (fun l pre x a' W _ _ hi ha hlt => by subst ha; exact hbody l pre x W hi hlt) hdone hstop
theorem R_grownNC {α : Type} {d : Kd α} {e : Nat} {w w1 : World} {base : Nat} {ok : Nat → Prop} {v : Value} {xs : List α} (h : d.R e w base ok v xs) {row : Option Nat} (hg : w.grownBy w1 row)
  (hr : ∀ r, row = some r → ∃ o : Obj, w.heap[r]? = some o ∧ o.isCells = false) : d.R e w1 base ok v xs := by
 refine Kd.R_mono (Kd.R_grown (Kd.R_bound h) hg fun k hk he => ?_) (fun k hk => hk.1)
 obtain ⟨_, _, _, q, _, cells, hc⟩ := hk
 obtain ⟨o, ho, hn⟩ := hr k he.symm
 rw [hc] at ho
 cases ho
 cases hn
theorem R_own_from {α β : Type} (d : Kd α) (e : Nat) (base : Nat) (ok : Nat → Prop) (v : β → Value) (xs : β → List α) (B : Nat) : OwnFrom B (fun s W => d.R e W base ok (v s) (xs s)) :=
 fun _ _ _ _ hs hg hr => R_grownNC hs hg (fun r e => (hr r e).2)
theorem OwnFrom.ex {β γ : Type} {B : Nat} {I : γ → β → World → Prop} (h : ∀ g, OwnFrom B (I g)) : OwnFrom B (fun s W => ∃ g, I g s W) :=
 fun s W W' row ⟨g, hs⟩ hg hr => ⟨g, h g s W W' row hs hg hr⟩
theorem ownFrom_marks {β : Type} (B : Nat) (Ds : List Nat) (hlt : ∀ D ∈ Ds, D < B) : OwnFrom B (fun (_ : β) W => Marks Ds W) :=
 fun s W W' row hs hg hr => ⟨hs.1, fun D hD => (hg.block D (hs.lt D hD) (fun e => by
  have := (hr D e.symm).1
  have := hlt D hD
  omega)).trans (hs.2 D hD)⟩
theorem ownFrom_cells {β : Type} (B b : Nat) (cs : β → Array Value) (t : TypeId) : OwnFrom B (fun s W => W.heap[b]? = some (.cells (cs s) t (0, 0))) :=
 fun s W W' row hs hg hr => (hg.block b (Array.getElem?_eq_some_iff.1 hs).1 (fun e => by
  obtain ⟨_, o, ho, hn⟩ := hr b e.symm
  rw [hs] at ho
  cases ho
  cases hn)).trans hs
theorem arr_of_size (t : Array Value) (n : Nat) (h : t.size = n) : t = ((List.range n).map fun i => t.getD i undef).toArray := by
 apply Array.ext
 ·
  simp [h]
 ·
  intro i h1 h2
  simp [h1]
end Go.Proofs.YtlapphhcficbjaaGreatDoor

namespace Go.Proofs.YtlapphhcficbjaaGreatDoor
set_option linter.unusedVariables false
set_option linter.unusedSimpArgs false
open Go.RowKit Go.Shelf Bits
open Go.Proofs.YtlapphhcficbjaaGreatDoorW.PrintWords Go.Proofs.YtlapphhcficbjaaGreatDoorW.PrintLast Go.Proofs.YtlapphhcficbjaaGreatDoorW.PrintMore
theorem infoInt : (Tryz.prog.info? 3).map (fun i => (i.zero, i.size, i.bytes)) = some (some (.int .i64 0), 1, 8) := by kernel_rfl
theorem infoSet : (Tryz.prog.info? 56).map (fun i => (i.zero, i.size, i.bytes)) = some (some (.int .u16 0), 1, 2) := by kernel_rfl
theorem infoTask : (Tryz.prog.info? 49).map (fun i => (i.zero, i.size, i.bytes)) = some (some (.agg #[(.int .i64 0), (.slice none 0 0), (.int .i64 0), (.int .i64 0)]), 4, 48) := by kernel_rfl
theorem infoEvent : (Tryz.prog.info? 75).map (fun i => (i.zero, i.size, i.bytes)) = some (some (.agg #[(.int .i64 0), (.int .i64 0), (.bool false)]), 3, 24) := by kernel_rfl
structure Tk where
 f0 : Int
 f1 : List Int
 f2 : Int
 f3 : Int
def zTk : Tk := ⟨0, [], 0, 0⟩
def kTk : Kd Tk := Kd.iso (Kd.pair (Kd.int .i64) (Kd.pair (Kd.slice 3 (Kd.int .i64)) (Kd.pair (Kd.int .i64) (Kd.int .i64)))) (fun x : Tk => (x.f0, x.f1, x.f2, x.f3))
theorem kTk_open {w : World} {x : Tk} {cs : List Value} (h : kTk.K w x cs) : ∃ A1 c1, cs = [.int .i64 x.f0, .slice A1 x.f1.length c1, .int .i64 x.f2, .int .i64 x.f3] ∧ x.f1.length ≤ c1 ∧ (Kd.int .i64).C w A1 x.f1.length x.f1 := by
 obtain ⟨_, _, rfl, rfl, ⟨_, _, rfl, ⟨A1, c1, rfl, l1, g1⟩, ⟨_, _, rfl, rfl, rfl⟩⟩⟩ := h
 exact ⟨A1, c1, rfl, l1, g1⟩
theorem kTk_mkM (w : World) (base : Nat) (ok : Nat → Prop) (x : Tk) {v1 : Value} (g1 : (Kd.int .i64).R 3 w base ok v1 x.f1) : kTk.M w base ok x [.int .i64 x.f0, v1, .int .i64 x.f2, .int .i64 x.f3] := ⟨[.int .i64 x.f0], [v1, .int .i64 x.f2, .int .i64 x.f3], rfl, rfl, ⟨[v1], [.int .i64 x.f2, .int .i64 x.f3], rfl, ⟨v1, rfl, g1⟩, ⟨[.int .i64 x.f2], [.int .i64 x.f3], rfl, rfl, rfl⟩⟩⟩
def rdTk (xs : List Tk) (i : Nat) : Tk := xs.getD i zTk
theorem at_Tk {w : World} {A : Option Addr} {n : Nat} {xs : List Tk} (h : Kd.C kTk w A n xs) (i : Nat) (h1 : i < n) : ∃ ad A1 c1, A = some ad ∧ w.cell? (ad.add (i * 4)) = some (.int .i64 (rdTk xs i).f0) ∧ w.cell? ⟨(ad.add (i * 4)).block, (ad.add (i * 4)).off + 1, none⟩ = some (.slice A1 (rdTk xs i).f1.length c1) ∧ w.cell? ⟨(ad.add (i * 4)).block, (ad.add (i * 4)).off + 2, none⟩ = some (.int .i64 (rdTk xs i).f2) ∧ w.cell? ⟨(ad.add (i * 4)).block, (ad.add (i * 4)).off + 3, none⟩ = some (.int .i64 (rdTk xs i).f3) ∧ (rdTk xs i).f1.length ≤ c1 ∧ (Kd.int .i64).C w A1 (rdTk xs i).f1.length (rdTk xs i).f1 := by
 obtain ⟨ad, c, e, _, hK, hc0⟩ := Kd.C_get h zTk (i : Int) (by omega) (by omega)
 have hc : ∀ j u, c[j]? = some u → w.cell? (ad.add (i * 4 + j)) = some u := hc0
 obtain ⟨A1, c1, rfl, l1, g1⟩ := kTk_open hK
 exact ⟨ad, A1, c1, e, hc 0 _ rfl, by rw [← add_field _ _ 1 (by omega)]; exact hc 1 _ rfl, by rw [← add_field _ _ 2 (by omega)]; exact hc 2 _ rfl, by rw [← add_field _ _ 3 (by omega)]; exact hc 3 _ rfl, l1, g1⟩
structure Ev where
 f0 : Int
 f1 : Int
 f2 : Bool
def zEv : Ev := ⟨0, 0, false⟩
def kEv : Kd Ev := Kd.iso (Kd.pair (Kd.int .i64) (Kd.pair (Kd.int .i64) Kd.bool)) (fun x : Ev => (x.f0, x.f1, x.f2))
theorem kEv_open {w : World} {x : Ev} {cs : List Value} (h : kEv.K w x cs) : cs = [.int .i64 x.f0, .int .i64 x.f1, .bool x.f2] := by
 obtain ⟨_, _, rfl, rfl, ⟨_, _, rfl, rfl, rfl⟩⟩ := h
 exact rfl
theorem kEv_mkM (w : World) (base : Nat) (ok : Nat → Prop) (x : Ev) : kEv.M w base ok x [.int .i64 x.f0, .int .i64 x.f1, .bool x.f2] := ⟨[.int .i64 x.f0], [.int .i64 x.f1, .bool x.f2], rfl, rfl, ⟨[.int .i64 x.f1], [.bool x.f2], rfl, rfl, rfl⟩⟩
def rdEv (xs : List Ev) (i : Nat) : Ev := xs.getD i zEv
theorem at_Ev {w : World} {A : Option Addr} {n : Nat} {xs : List Ev} (h : Kd.C kEv w A n xs) (i : Nat) (h1 : i < n) : ∃ ad , A = some ad ∧ w.cell? (ad.add (i * 3)) = some (.int .i64 (rdEv xs i).f0) ∧ w.cell? ⟨(ad.add (i * 3)).block, (ad.add (i * 3)).off + 1, none⟩ = some (.int .i64 (rdEv xs i).f1) ∧ w.cell? ⟨(ad.add (i * 3)).block, (ad.add (i * 3)).off + 2, none⟩ = some (.bool (rdEv xs i).f2) := by
 obtain ⟨ad, c, e, _, hK, hc0⟩ := Kd.C_get h zEv (i : Int) (by omega) (by omega)
 have hc : ∀ j u, c[j]? = some u → w.cell? (ad.add (i * 3 + j)) = some u := hc0
 obtain rfl := kEv_open hK
 exact ⟨ad, e, hc 0 _ rfl, by rw [← add_field _ _ 1 (by omega)]; exact hc 1 _ rfl, by rw [← add_field _ _ 2 (by omega)]; exact hc 2 _ rfl⟩
theorem at_num {w : World} {k : IntKind} {A : Option Addr} {n : Nat} {xs : List Int} (h : (Kd.int k).C w A n xs) (i : Nat) (h1 : i < n) : ∃ ad, A = some ad ∧ w.cell? (ad.add i) = some (.int k (xs.getD i 0)) := by
 obtain ⟨ad, e, hc⟩ := Kd.at_int h (i : Int) (by omega) (by omega)
 exact ⟨ad, e, hc⟩
def ints (xs : List Nat) : List Int := xs.map Int.ofNat
theorem ints_length (xs : List Nat) : (ints xs).length = xs.length := by simp [ints]
theorem ints_getD (xs : List Nat) (i : Nat) : (ints xs).getD i 0 = ((xs.getD i 0 : Nat) : Int) := by
 simp only [ints, List.getD_eq_getElem?_getD, List.getElem?_map]
 cases xs[i]? <;> rfl
theorem at_set {w : World} {k : IntKind} {A : Option Addr} {n : Nat} {xs : List Nat} (h : (Kd.int k).C w A n (ints xs)) (i : Nat) (h1 : i < n) : ∃ ad, A = some ad ∧ w.cell? (ad.add i) = some (.int k ((xs.getD i 0 : Nat) : Int)) := by
 obtain ⟨ad, e, hc⟩ := at_num h i h1
 exact ⟨ad, e, by rw [ints_getD] at hc; exact hc⟩
theorem C_len {α : Type} {d : Kd α} {w : World} {A : Option Addr} {n : Nat} {xs : List α} (h : d.C w A n xs) : xs.length = n ∧ n ≤ 9223372036854775807 := ⟨h.1, h.2.1⟩
section
variable {ops : Array Oper} {o : Oper} {rest : List Oper} {a : Act} {Q : Exit → Act → World → Prop} {w0 W : World}
theorem ap_int (base : Nat) (hgd : o.guard = none) (s x : Operand) (ho : o.op = .call { callee := .builtin .append, args := #[s, x], argTypes := #[24, 24] })
  (v : Value) (xs : List Int) (y : Int) (hs : a.eval s = v) {N : Nat} (hx : a.eval x = .slice (some ⟨N, 0, none⟩) 1 1) (hN : N = W.heap.size)
  (HO : Kd.R (Kd.int .i64) 3 W base (fun _ => True) v xs) (HB : Below base w0 W) (hbase : base ≤ W.heap.size) (hl : xs.length < 1000000)
  (h : ∀ v1 w1, Kd.R (Kd.int .i64) 3 w1 base (fun _ => True) v1 (xs ++ [y]) → Below base w0 w1 → W.grownBy w1 v.ownBlock → (v1.ownBlock = v.ownBlock ∨ ∃ b, v1.ownBlock = some b ∧ W.heap.size ≤ b) → wpList Tryz.prog ops Q rest (a.put o.dst v1) w1) :
  wpList Tryz.prog ops Q (o :: rest) a (W.alloc (.cells #[.int .i64 y] 3)) :=
 print_append_num base hgd s x 24 3 .i64 8 ho Tryz.underlying24 infoInt (by decide) v xs y hs (hN ▸ hx) (Kd.own_of_R HO) HB hbase (by omega)
  fun v1 w1 hown hB hg hat => h v1 w1 (Kd.R_of_own hown (fun _ _ => trivial)) hB hg hat
theorem ap_set (base : Nat) (hgd : o.guard = none) (s x : Operand) (ho : o.op = .call { callee := .builtin .append, args := #[s, x], argTypes := #[50, 50] })
  (v : Value) (xs : List Nat) (y : Nat) (hs : a.eval s = v) {N : Nat} (hx : a.eval x = .slice (some ⟨N, 0, none⟩) 1 1) (hN : N = W.heap.size)
  (HO : Kd.R (Kd.int .u16) 56 W base (fun _ => True) v (ints xs)) (HB : Below base w0 W) (hbase : base ≤ W.heap.size) (hl : xs.length < 1000000)
  (h : ∀ v1 w1, Kd.R (Kd.int .u16) 56 w1 base (fun _ => True) v1 (ints (xs ++ [y])) → Below base w0 w1 → W.grownBy w1 v.ownBlock → (v1.ownBlock = v.ownBlock ∨ ∃ b, v1.ownBlock = some b ∧ W.heap.size ≤ b) → wpList Tryz.prog ops Q rest (a.put o.dst v1) w1) :
  wpList Tryz.prog ops Q (o :: rest) a (W.alloc (.cells #[.int .u16 y] 56)) :=
 print_append_num base hgd s x 50 56 .u16 2 ho Tryz.underlying50 infoSet (by decide) v (ints xs) y hs (hN ▸ hx) (Kd.own_of_R HO) HB hbase (by rw [ints_length]; omega)
  fun v1 w1 hown hB hg hat => h v1 w1 (Kd.R_of_own (by simpa [ints, nums, encs] using hown) (fun _ _ => trivial)) hB hg hat
end
theorem ret_bool {a b : Bool} (h : a = b) : Ending.returned (.bool a) = .returned (.bool b) := by rw [h]
theorem ret_int {k : IntKind} {a b : Int} (h : a = b) : Ending.returned (.int k a) = .returned (.int k b) := by rw [h]
end Go.Proofs.YtlapphhcficbjaaGreatDoor

namespace Go.Proofs.YtlapphhcficbjaaGreatDoor.PFnValidLog
open Go.RowKit Go.Proofs.YtlapphhcficbjaaGreatDoorW.PrintWords Go.Proofs.YtlapphhcficbjaaGreatDoorW.PrintLast Go.Proofs.YtlapphhcficbjaaGreatDoorW.PrintMore
attribute [local go_sem] max2_int min2_int max_two min_two max_three min_three max_four min_four
set_option linter.unusedVariables false
set_option linter.unusedSimpArgs false
def errW : Option Int → Value
  | none => .nilIface
  | some c => .iface 0 (.int .i64 c)
theorem errW_none : errW none = .nilIface := rfl
theorem errW_some (c : Int) : errW (some c) = .iface 0 (.int .i64 c) := rfl

theorem info3 : (Tryz.prog.info? 3).map (fun i => (i.zero, i.size, i.bytes)) = some (some (.int .i64 0), 1, 8) := by kernel_rfl
theorem info5 : (Tryz.prog.info? 5).map (fun i => (i.zero, i.size, i.bytes)) = some (some (.int .u8 0), 1, 1) := by kernel_rfl
theorem info9 : (Tryz.prog.info? 9).map (fun i => (i.zero, i.size, i.bytes)) = some (some (.string ⟨#[]⟩), 1, 16) := by kernel_rfl
theorem info49 : (Tryz.prog.info? 49).map (fun i => (i.zero, i.size, i.bytes)) = some (some (.agg #[(.int .i64 0), (.slice none 0 0), (.int .i64 0), (.int .i64 0)]), 4, 48) := by kernel_rfl
-- the values' own types
def rd_L2 (xs : List (List Int)) (i : Int) : (List Int) := xs.getD i.toNat ([] : List Int)
theorem at_L2 {w : World} {A : Option Addr} {n : Nat} {xs : List (List Int)} (h : Kd.C (Kd.slice 3 (Kd.int .i64)) w A n xs) (i : Int) (h0 : 0 ≤ i) (h1 : i < n) : ∃ ad A0 c0, A = some ad ∧ w.cell? (ad.add i.toNat) = some (.slice A0 (rd_L2 xs i).length c0) ∧ (rd_L2 xs i).length ≤ c0 ∧ (Kd.int .i64).C w A0 (rd_L2 xs i).length (rd_L2 xs i) := by
  obtain ⟨ad, c, e, _, hK, hc0⟩ := Kd.C_get h ([] : List Int) i h0 h1
  have hc : ∀ j u, c[j]? = some u → w.cell? (ad.add (i.toNat * 1 + j)) = some u := hc0
  obtain ⟨A0, c0, rfl, l0, g0⟩ := hK
  exact ⟨ad, A0, c0, e, by have hq := hc 0 _ rfl; rwa [Nat.mul_one, Nat.add_zero] at hq, l0, g0⟩

/-! #### struct type 41 -/
abbrev S41 := Tk
def z41 : S41 := ⟨(0 : Int), ([] : List Int), (0 : Int), (0 : Int)⟩
def k41 : Kd S41 := Kd.iso (Kd.pair (Kd.int .i64) (Kd.pair (Kd.slice 3 (Kd.int .i64)) (Kd.pair (Kd.int .i64) (Kd.int .i64)))) (fun x : S41 => (x.f0, x.f1, x.f2, x.f3))
theorem k41_open {w : World} {x : S41} {cs : List Value} (h : k41.K w x cs) : ∃ A1 c1, cs = [.int .i64 x.f0, .slice A1 x.f1.length c1, .int .i64 x.f2, .int .i64 x.f3] ∧ x.f1.length ≤ c1 ∧ (Kd.int .i64).C w A1 x.f1.length x.f1 := by
  obtain ⟨_, _, rfl, rfl, ⟨_, _, rfl, ⟨A1, c1, rfl, l1, g1⟩, ⟨_, _, rfl, rfl, rfl⟩⟩⟩ := h
  exact ⟨A1, c1, rfl, l1, g1⟩
theorem k41_openM {w : World} {base : Nat} {ok : Nat → Prop} {x : S41} {cs : List Value} (h : k41.M w base ok x cs) : ∃ v1, cs = [.int .i64 x.f0, v1, .int .i64 x.f2, .int .i64 x.f3] ∧ (Kd.int .i64).R 3 w base ok v1 x.f1 := by
  obtain ⟨_, _, rfl, rfl, ⟨_, _, rfl, ⟨v1, rfl, g1⟩, ⟨_, _, rfl, rfl, rfl⟩⟩⟩ := h
  exact ⟨v1, rfl, g1⟩
theorem k41_mk (w : World) (x : S41) {A1 : Option Addr} {c1 : Nat} (l1 : x.f1.length ≤ c1) (g1 : (Kd.int .i64).C w A1 x.f1.length x.f1) : k41.K w x [.int .i64 x.f0, .slice A1 x.f1.length c1, .int .i64 x.f2, .int .i64 x.f3] := ⟨[.int .i64 x.f0], [.slice A1 x.f1.length c1, .int .i64 x.f2, .int .i64 x.f3], rfl, rfl, ⟨[.slice A1 x.f1.length c1], [.int .i64 x.f2, .int .i64 x.f3], rfl, ⟨A1, c1, rfl, l1, g1⟩, ⟨[.int .i64 x.f2], [.int .i64 x.f3], rfl, rfl, rfl⟩⟩⟩
theorem k41_mkM (w : World) (base : Nat) (ok : Nat → Prop) (x : S41) {v1 : Value} (g1 : (Kd.int .i64).R 3 w base ok v1 x.f1) : k41.M w base ok x [.int .i64 x.f0, v1, .int .i64 x.f2, .int .i64 x.f3] := ⟨[.int .i64 x.f0], [v1, .int .i64 x.f2, .int .i64 x.f3], rfl, rfl, ⟨[v1], [.int .i64 x.f2, .int .i64 x.f3], rfl, ⟨v1, rfl, g1⟩, ⟨[.int .i64 x.f2], [.int .i64 x.f3], rfl, rfl, rfl⟩⟩⟩
theorem k41_openF {W : World} {ok : Nat → Prop} {x : S41} {cs : List Value} (h : Kd.FK k41 W ok x cs) : ∃ A1 c1, cs = [.int .i64 x.f0, .slice A1 x.f1.length c1, .int .i64 x.f2, .int .i64 x.f3] ∧ x.f1.length ≤ c1 ∧ Kd.F (Kd.int .i64) W ok A1 x.f1.length x.f1 := by
  obtain ⟨A1, c1, rfl, l1, _⟩ := k41_open (Kd.FK_now h)
  exact ⟨A1, c1, rfl, l1, (fun W' hW => by obtain ⟨A1_, c1_, he, l1_, g1_⟩ := k41_open (h W' hW); injection (Option.some.inj (show some (Value.slice A1 x.f1.length c1) = some (Value.slice A1_ x.f1.length c1_) from congrArg (fun l => l[1]?) he)) with ha_ _ _; rw [ha_]; exact g1_)⟩
theorem k41_mkF (W : World) (ok : Nat → Prop) (x : S41) {A1 : Option Addr} {c1 : Nat} (l1 : x.f1.length ≤ c1) (g1 : Kd.F (Kd.int .i64) W ok A1 x.f1.length x.f1) : Kd.FK k41 W ok x [.int .i64 x.f0, .slice A1 x.f1.length c1, .int .i64 x.f2, .int .i64 x.f3] := fun W2 hW => k41_mk W2 x l1 (g1 W2 hW)
def rd_T41 (xs : List S41) (i : Int) : S41 := xs.getD i.toNat z41
theorem at_T41 {w : World} {A : Option Addr} {n : Nat} {xs : List S41} (h : Kd.C k41 w A n xs) (i : Int) (h0 : 0 ≤ i) (h1 : i < n) : ∃ ad A1 c1, A = some ad ∧ w.cell? (ad.add (i.toNat * 4)) = some (.int .i64 (rd_T41 xs i).f0) ∧ w.cell? ⟨(ad.add (i.toNat * 4)).block, (ad.add (i.toNat * 4)).off + 1, none⟩ = some (.slice A1 (rd_T41 xs i).f1.length c1) ∧ w.cell? ⟨(ad.add (i.toNat * 4)).block, (ad.add (i.toNat * 4)).off + 2, none⟩ = some (.int .i64 (rd_T41 xs i).f2) ∧ w.cell? ⟨(ad.add (i.toNat * 4)).block, (ad.add (i.toNat * 4)).off + 3, none⟩ = some (.int .i64 (rd_T41 xs i).f3) ∧ (rd_T41 xs i).f1.length ≤ c1 ∧ (Kd.int .i64).C w A1 (rd_T41 xs i).f1.length (rd_T41 xs i).f1 := by
  obtain ⟨ad, c, e, _, hK, hc0⟩ := Kd.C_get h z41 i h0 h1
  have hc : ∀ j u, c[j]? = some u → w.cell? (ad.add (i.toNat * 4 + j)) = some u := hc0
  obtain ⟨A1, c1, rfl, l1, g1⟩ := k41_open hK
  exact ⟨ad, A1, c1, e, hc 0 _ rfl, by rw [← add_field _ _ 1 (by omega)]; exact hc 1 _ rfl, by rw [← add_field _ _ 2 (by omega)]; exact hc 2 _ rfl, by rw [← add_field _ _ 3 (by omega)]; exact hc 3 _ rfl, l1, g1⟩

theorem od_ {p : Prop} [Decidable p] (h : decide p = true) : p := of_decide_eq_true h
theorem mk0 {p : Prop} (h : p) : Aside0 p := ⟨h⟩
theorem Ra_ {α : Type} {d : Kd α} {e base : Nat} {w : World} {ok : Nat → Prop} {v : Value} {xs : List α} (h : Kd.R d e w base ok v xs) (o : Obj) : Kd.R d e (w.alloc o) base ok v xs := Kd.R_alloc h o
theorem Rn_ {α : Type} {d : Kd α} {e base : Nat} {w : World} {ok : Nat → Prop} {v : Value} {xs : List α} (h : Kd.R d e w base ok v xs) (m : Nat) : Kd.R d e (w.drewN m) base ok v xs := Kd.R_drewN h m
theorem Rd_ {α : Type} {d : Kd α} {e base : Nat} {w : World} {ok : Nat → Prop} {v : Value} {xs : List α} (h : Kd.R d e w base ok v xs) : Kd.R d e w.drew base ok v xs := Kd.R_drew h
theorem Sa_ {α : Type} {d : Kd α} {e base : Nat} {w : World} {ok : Nat → Prop} {v : Value} {xs : List α} (h : Kd.S d e w base ok v xs) (o : Obj) : Kd.S d e (w.alloc o) base ok v xs := Kd.S_alloc h o
theorem Sn_ {α : Type} {d : Kd α} {e base : Nat} {w : World} {ok : Nat → Prop} {v : Value} {xs : List α} (h : Kd.S d e w base ok v xs) (m : Nat) : Kd.S d e (w.drewN m) base ok v xs := Kd.S_drewN h m
theorem Sd_ {α : Type} {d : Kd α} {e base : Nat} {w : World} {ok : Nat → Prop} {v : Value} {xs : List α} (h : Kd.S d e w base ok v xs) : Kd.S d e w.drew base ok v xs := Kd.S_drew h
theorem Na_ {α : Type} {d : Kd α} {e base : Nat} {w : World} {ok : Nat → Prop} {v : Value} {xs : List α} (h : Kd.N d e w base ok v xs) (o : Obj) : Kd.N d e (w.alloc o) base ok v xs := Kd.N_alloc h o
theorem Nn_ {α : Type} {d : Kd α} {e base : Nat} {w : World} {ok : Nat → Prop} {v : Value} {xs : List α} (h : Kd.N d e w base ok v xs) (m : Nat) : Kd.N d e (w.drewN m) base ok v xs := Kd.N_drewN h m
theorem Nd_ {α : Type} {d : Kd α} {e base : Nat} {w : World} {ok : Nat → Prop} {v : Value} {xs : List α} (h : Kd.N d e w base ok v xs) : Kd.N d e w.drew base ok v xs := Kd.N_drew h
theorem Qa_ {α : Type} {d : Kd α} {e base : Nat} {w : World} {ok : Nat → Prop} {v : Value} {xs : List α} (h : Kd.Q d e w base ok v xs) (o : Obj) : Kd.Q d e (w.alloc o) base ok v xs := Kd.Q_alloc h o
theorem Qn_ {α : Type} {d : Kd α} {e base : Nat} {w : World} {ok : Nat → Prop} {v : Value} {xs : List α} (h : Kd.Q d e w base ok v xs) (m : Nat) : Kd.Q d e (w.drewN m) base ok v xs := Kd.Q_drewN h m
theorem Qd_ {α : Type} {d : Kd α} {e base : Nat} {w : World} {ok : Nat → Prop} {v : Value} {xs : List α} (h : Kd.Q d e w base ok v xs) : Kd.Q d e w.drew base ok v xs := Kd.Q_drew h
theorem Va_ {α : Type} {d : Kd α} {e base : Nat} {w : World} {ok : Nat → Prop} {v : Value} {xs : List α} (h : Kd.V d e w base ok v xs) (o : Obj) : Kd.V d e (w.alloc o) base ok v xs := Kd.V_alloc h o
theorem Vn_ {α : Type} {d : Kd α} {e base : Nat} {w : World} {ok : Nat → Prop} {v : Value} {xs : List α} (h : Kd.V d e w base ok v xs) (m : Nat) : Kd.V d e (w.drewN m) base ok v xs := Kd.V_drewN h m
theorem Vd_ {α : Type} {d : Kd α} {e base : Nat} {w : World} {ok : Nat → Prop} {v : Value} {xs : List α} (h : Kd.V d e w base ok v xs) : Kd.V d e w.drew base ok v xs := Kd.V_drew h
theorem ba_ {w W : World} (h : Below w.heap.size w W) (o : Obj) : Below w.heap.size w (W.alloc o) := below_alloc h o
theorem bn_ {B : Nat} {w W : World} (h : Below B w W) (n : Nat) : Below B w (W.drewN n) := pw_below_drewN h n
theorem bd_ {base : Nat} {w W : World} (h : Below base w W) : Below base w W.drew := below_drew1 h
theorem kn_ {w W : World} {g : Nat} {row : Option Nat} (h : KeepBut w W g row) (m : Nat) : KeepBut w (W.drewN m) g row := keep_drewN h m
theorem kd_ {w W : World} {g : Nat} {row : Option Nat} (h : KeepBut w W g row) : KeepBut w W.drew g row := keep_drew h
theorem ka_ {w W : World} {g : Nat} (h : KeepBut w W g none) (o : Obj) : KeepBut w (W.alloc o) g none := keep_alloc h o
theorem ks_ {w W : World} {g : Nat} {row : Option Nat} (h : KeepBut w W g row) (j : Nat) (u : Value) : KeepBut w (W.setCell ⟨g, j, none⟩ u) g row := KeepBut.set_ h j u
theorem Ca_ {α : Type} {d : Kd α} {w : World} {A : Option Addr} {n : Nat} {xs : List α} (h : Kd.C d w A n xs) (o : Obj) : Kd.C d (w.alloc o) A n xs := Kd.C_alloc h o
theorem Cn_ {α : Type} {d : Kd α} {w : World} {A : Option Addr} {n : Nat} {xs : List α} (h : Kd.C d w A n xs) (m : Nat) : Kd.C d (w.drewN m) A n xs := Kd.C_drewN h m
theorem Cd_ {α : Type} {d : Kd α} {w : World} {A : Option Addr} {n : Nat} {xs : List α} (h : Kd.C d w A n xs) : Kd.C d w.drew A n xs := Kd.C_drew h
theorem bE_ {α β : Type} {o : Option α} {f : α → Option β} {r : β} (h : o.bind f = some r) : ∃ a, o = some a ∧ f a = some r := Option.bind_eq_some_iff.mp h
theorem nn_ {α : Type} {r : α} {P : Prop} (h : none = some r) : P := by cases h
end Go.Proofs.YtlapphhcficbjaaGreatDoor.PFnValidLog
