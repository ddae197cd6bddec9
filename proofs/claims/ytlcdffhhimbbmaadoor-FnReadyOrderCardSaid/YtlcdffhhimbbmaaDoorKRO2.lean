/- Parts of the proof, laid as one text by a program of mine. -/
import Derived.Test.YtlcdffhhimbbmaaDoorKRO0
import Derived.Test.YtlcdffhhimbbmaaDoorKRO1
import Derived.BigGuard
import Derived.Deep.QuietTactic
import Derived.BigQuiet
namespace Go.Proofs.YtlcdffhhimbbmaaDoor
set_option linter.unusedVariables false
set_option linter.unusedSimpArgs false
open Go.RowKit Go.Shelf Bits
open Go.Proofs.YtlcdffhhimbbmaaDoorW.PrintWords Go.Proofs.YtlcdffhhimbbmaaDoorW.PrintLast Go.Proofs.YtlcdffhhimbbmaaDoorW.PrintMore
def mk (Ds : List Nat) : List Deferred := Ds.map fun D => { target := .collected D, args := #[] }
def Marks (Ds : List Nat) (w : World) : Prop := Ds.Nodup ∧ ∀ D ∈ Ds, w.heap[D]? = some (.deferred (some []))
theorem Marks.nil (w : World) : Marks [] w := ⟨List.nodup_nil, fun d h => by cases h⟩
theorem Marks.lt {Ds : List Nat} {w : World} (h : Marks Ds w) : ∀ D ∈ Ds, D < w.heap.size := fun D hD => (Array.getElem?_eq_some_iff.1 (h.2 D hD)).1
theorem Marks.cons {Ds : List Nat} {w : World} {D : Nat} (h : Marks Ds w) (hD : w.heap[D]? = some (.deferred (some []))) (hlt : ∀ E ∈ Ds, E < D) : Marks (D :: Ds) w := by
 refine ⟨List.nodup_cons.2 ⟨fun hm => by have := hlt D hm; omega, h.1⟩, fun E hE => ?_⟩
 rcases List.mem_cons.1 hE with rfl | hE
 ·
  exact hD
 ·
  exact h.2 E hE
theorem Marks.move {Ds : List Nat} {w w' : World} (h : Marks Ds w) (hm : ∀ k, k < w.heap.size → ∀ o : Obj, w.heap[k]? = some o → o.isCells = false → w'.heap[k]? = some o) : Marks Ds w' :=
 ⟨h.1, fun D hD => hm D (h.lt D hD) _ (h.2 D hD) rfl⟩
theorem Marks.alloc {Ds : List Nat} {w : World} (h : Marks Ds w) (o : Obj) : Marks Ds (w.alloc o) := ⟨h.1, fun D hD => (Below.heap_alloc w o D (h.lt D hD)).trans (h.2 D hD)⟩
theorem Marks.below {Ds : List Nat} {w w' : World} (h : Marks Ds w) (hb : Below w.heap.size w w') : Marks Ds w' := ⟨h.1, fun D hD => (hb.block D (h.lt D hD)).trans (h.2 D hD)⟩
structure Shut (B : Nat) (w w' : World) : Prop where
 os : w'.os = w.os
 tape : w'.tape = w.tape
 output : w'.output = w.output
 size : w'.heap.size = w.heap.size
 block : ∀ k, k < B → w'.heap[k]? = w.heap[k]?
 cells : ∀ (k : Nat) (o : Obj), w.heap[k]? = some o → o.isCells = true → w'.heap[k]? = some o
theorem Shut.refl (B : Nat) (w : World) : Shut B w w := ⟨rfl, rfl, rfl, rfl, fun _ _ => rfl, fun _ _ h _ => h⟩
theorem Shut.trans {B : Nat} {a b c : World} (h : Shut B a b) (k : Shut B b c) : Shut B a c :=
 ⟨k.os.trans h.os, k.tape.trans h.tape, k.output.trans h.output, k.size.trans h.size, fun i hi => (k.block i hi).trans (h.block i hi), fun i o ho hc => k.cells i o (h.cells i o ho hc) hc⟩
theorem Shut.put {B : Nat} {w : World} {D : Nat} (hD : w.heap[D]? = some (.deferred (some []))) (hB : B ≤ D) : Shut B w (w.putObj D (.deferred none)) := by
 have hg := grownBy_putObj' w D (.deferred none)
 refine ⟨rfl, rfl, rfl, by simp [World.putObj], fun k hk => hg.block k (by have := (Array.getElem?_eq_some_iff.1 hD).1; omega) (fun e => by cases e; omega), fun k o ho hc => ?_⟩
 by_cases e : k = D
 ·
  subst e
  rw [ho] at hD
  cases hD
  cases hc
 ·
  exact (hg.block k (Array.getElem?_eq_some_iff.1 ho).1 (fun e' => e (Option.some.inj e'))).trans ho
theorem Shut.below {B : Nat} {w w' : World} (h : Shut B w w') : Below B w w' := ⟨h.os, h.tape, h.output, Nat.le_of_eq h.size.symm, h.block⟩
theorem Shut.R {α : Type} {d : Kd α} {e : Nat} {w w1 : World} {B base : Nat} {ok : Nat → Prop} {v : Value} {xs : List α} (hs : Shut B w w1) (h : d.R e w base ok v xs) : d.R e w1 base ok v xs := by
 refine Kd.R_mono (Kd.R_move (Kd.R_bound h) fun k hk => ?_) (fun k hk => hk.1)
 obtain ⟨_, _, _, q, _, cells, hc⟩ := hk
 rw [hs.cells k _ hc rfl, hc]
theorem leave_marks {P : Program} {fn : Func} {tmps : Array Value} {R : Ending → World → Prop} {B : Nat} {v : Value} : ∀ (Ds : List Nat) (w : World), Marks Ds w → (∀ D ∈ Ds, B ≤ D) →
  (∀ w', Shut B w w' → (results fn tmps).run P w' = .ok v w' ∧ R (.returned v) w') → LeavesInM Fence.wide 9 P fn tmps R (mk Ds) .returning w
 | [], w, _, _, h => by
  obtain ⟨h1, h2⟩ := h w (Shut.refl _ _)
  exact ⟨_, h1, h2⟩
 | D :: Ds, w, hm, hB, h => by
  have hD := hm.2 D (List.mem_cons_self ..)
  have hsh := Shut.put hD (hB D (List.mem_cons_self ..))
  refine ⟨by simp, .inl ⟨_, _, rfl, run_takeDeferred hD, ?_⟩⟩
  refine leave_marks Ds _ ⟨(List.nodup_cons.1 hm.1).2, fun E hE => ?_⟩ (fun E hE => hB E (List.mem_cons_of_mem _ hE)) (fun w' hs => h w' (hsh.trans hs))
  have hEh := hm.2 E (List.mem_cons_of_mem _ hE)
  refine ((grownBy_putObj' w D (.deferred none)).block E (Array.getElem?_eq_some_iff.1 hEh).1 (fun e => ?_)).trans hEh
  cases e
  exact (List.nodup_cons.1 hm.1).1 hE
def endPost (P : Program) (fn : Func) (R : Ending → World → Prop) : Exit → Act → World → Prop
 | .normal, a, w | .ret, a, w => LeavesInM Fence.wide 9 P fn a.tmps R a.defers .returning w
 | _, _, _ => False
theorem calls_of_wp_marks {P : Program} {f : FuncId} {fn : Func} {c : Code} {args : Array Value} {w : World} {R : Ending → World → Prop}
  (hf : P.funcs[f]? = some fn) (hb : fn.body = some c)
  (h : c.wp P (endPost P fn R) { tmps := args ++ Array.replicate (fn.ntmps - args.size) undef, defers := [] } w) : Calls P f args w R :=
 callsIn_wide.1 (callsIn_of_wp_marks hf hb trivial (wpIn_wide.2 (wp_mono h fun e a w hq => by
  cases e with
  | normal => exact hq
  | ret => exact hq
  | _ => exact hq.elim)))
theorem leave_one {P : Program} {fn : Func} {tmps : Array Value} {R : Ending → World → Prop} {D : Nat} {w : World} {v : Value}
  (hD : w.heap[D]? = some (.deferred (some []))) (hv : (results fn tmps).run P (w.putObj D (.deferred none)) = .ok v (w.putObj D (.deferred none))) (hR : R (.returned v) (w.putObj D (.deferred none))) :
  LeavesInM Fence.wide 9 P fn tmps R [{ target := .collected D, args := #[] }] .returning w := by
 refine ⟨by simp, .inl ⟨_, _, rfl, run_takeDeferred hD, ?_⟩⟩
 exact ⟨_, hv, hR⟩
theorem wp_rangeSet {g : Operand} {p : Tmp} {assign body : Code} {Q : Exit → Act → World → Prop} {a : Act} {w : World} (s Bn n₀ : Nat) (hs : s < 65536)
  (hg : a.eval g = .func (.func 73) #[] #[.pointer (some ⟨Bn, 0, none⟩)]) (hB : Bn < w.heap.size)
  (hc : w.cell? ⟨Bn, 0, none⟩ = some (.int .u16 s)) (hT : Tab w) (hn : n₀ ≤ w.heap.size) (htab : 0 < n₀)
  (I : List (El s) → World → Prop) (Ix : Code → List (El s) → World → Prop) (hI : OwnFrom w.heap.size I) (hIx : ∀ c, OwnFrom w.heap.size (Ix c)) (h0 : I [] w)
  (Ax : El s → Act → World → Prop) (hAx : ∀ x a', OwnFrom w.heap.size (fun (_ : Unit) W => Ax x a' W))
  (hassign : ∀ (l : Nat) (pre : List (El s)) (x : El s) (W : World) (K : Act → World → Prop), I pre W → (∀ a' W', KeepsFrom w.heap.size W W' → Below n₀ W W' → I pre W' → Ax x a' W' → K a' W') →
   assign.wpIn (Fence.wide.inRound l) 7 Tryd.prog (Exit.then K (fun _ _ _ => False)) { tmps := a.tmps.setIfInBounds p (.int .i64 (x.1 : Nat)), defers := [] } W)
  (hbody : ∀ (l : Nat) (pre : List (El s)) (x : El s) (a' : Act) (W : World), w.heap.size ≤ l → (∃ r, W.heap[l]? = some (.loop r)) → I pre W → Ax x a' W → pre.length < (elems s).length → body.wpIn (Fence.wide.inRound l) 7 Tryd.prog (ownPostG w.heap.size (Below n₀) I Ix (pre ++ [x]) W) a' W)
  (hdone : ∀ (D : Nat) (xs : List (El s)) (W : World), w.heap.size ≤ D → xs.map (·.1) = elems s → I xs W → W.heap[D]? = some (.deferred (some [])) → Q .normal { a with defers := { target := .collected D, args := #[] } :: a.defers } W)
  (hstop : ∀ (D : Nat) (c : Code) (pre : List (El s)) (W : World), w.heap.size ≤ D → pre.map (·.1) <+: elems s → Ix c pre W → W.heap[D]? = some (.deferred (some [])) → c.wp Tryd.prog Q { a with defers := { target := .collected D, args := #[] } :: a.defers } W) :
  (Code.rangeFunc g #[p] assign body).wp Tryd.prog Q a w := by
 refine (wpIn_wide (n := 9)).1 (wpIn_rangeFunc_ownH (F := Fence.wide) rfl (by omega) hg trivial (enters_of Tryd.func73 (by kernel_rfl) rfl)
  (all_stops 8 (by omega) Bn n₀ s hs w hB hc hT htab) belowK_t (belowK_b hn) (Below.refl _ _) (fun _ => rfl) I Ix hI hIx h0 Ax hAx ?_ hbody hdone ?_)
 ·
  intro l pre x W K hi hK
  simpa using hassign l pre x W K hi hK
 ·
  intro D c pre W h1 h2 h3 h4
  exact wpIn_wide.2 (hstop D c pre W h1 h2 h3 h4)
theorem wp_rangeSet1 {g : Operand} {p : Tmp} {assign body : Code} {Q : Exit → Act → World → Prop} {a : Act} {w : World} (s Bn n₀ : Nat) (hs : s < 65536)
  (hg : a.eval g = .func (.func 73) #[] #[.pointer (some ⟨Bn, 0, none⟩)]) (hB : Bn < w.heap.size)
  (hc : w.cell? ⟨Bn, 0, none⟩ = some (.int .u16 s)) (hT : Tab w) (hn : n₀ ≤ w.heap.size) (htab : 0 < n₀)
  (I : List (El s) → World → Prop) (Ix : Code → List (El s) → World → Prop) (hI : OwnFrom w.heap.size I) (hIx : ∀ c, OwnFrom w.heap.size (Ix c)) (h0 : I [] w)
  (a₁ : El s → Act)
  (hassign : ∀ (l : Nat) (x : El s) (W : World) (K : Act → World → Prop), K (a₁ x) W →
   assign.wpIn (Fence.wide.inRound l) 7 Tryd.prog (Exit.then K (fun _ _ _ => False)) { tmps := a.tmps.setIfInBounds p (.int .i64 (x.1 : Nat)), defers := [] } W)
  (hbody : ∀ (l : Nat) (pre : List (El s)) (x : El s) (W : World), I pre W → pre.length < (elems s).length → body.wpIn (Fence.wide.inRound l) 7 Tryd.prog (ownPostG w.heap.size (Below n₀) I Ix (pre ++ [x]) W) (a₁ x) W)
  (hdone : ∀ (D : Nat) (xs : List (El s)) (W : World), w.heap.size ≤ D → xs.map (·.1) = elems s → I xs W → W.heap[D]? = some (.deferred (some [])) → Q .normal { a with defers := { target := .collected D, args := #[] } :: a.defers } W)
  (hstop : ∀ (D : Nat) (c : Code) (pre : List (El s)) (W : World), w.heap.size ≤ D → pre.map (·.1) <+: elems s → Ix c pre W → W.heap[D]? = some (.deferred (some [])) → c.wp Tryd.prog Q { a with defers := { target := .collected D, args := #[] } :: a.defers } W) :
  (Code.rangeFunc g #[p] assign body).wp Tryd.prog Q a w :=
 wp_rangeSet s Bn n₀ hs hg hB hc hT hn htab I Ix hI hIx h0 (fun x a' _ => a' = a₁ x) (fun _ _ => ownFrom_pure _ _)
  (fun l pre x W K hi hK => hassign l x W K (hK _ _ (KeepsFrom.refl _ _) (Below.refl _ _) hi rfl))
  (fun l pre x a' W _ _ hi ha hlt => by subst ha; exact hbody l pre x W hi hlt) hdone hstop
theorem R_grownNC {α : Type} {d : Kd α} {e : Nat} {w w1 : World} {base : Nat} {ok : Nat → Prop} {v : Value} {xs : List α} (h : d.R e w base ok v xs) {row : Option Nat} (hg : w.grownBy w1 row)
  (hr : ∀ r, row = some r → ∃ o : Obj, w.heap[r]? = some o ∧ o.isCells = false) : d.R e w1 base ok v xs := by
 refine Kd.R_mono (Kd.R_grown (Kd.R_bound h) hg fun k hk he => ?_) (fun k hk => hk.1)
 obtain ⟨_, _, _, q, _, cells, hc⟩ := hk
 obtain ⟨o, ho, hn⟩ := hr k he.symm
 rw [hc] at ho
 cases ho
 cases hn
theorem R_own_from {α β : Type} (d : Kd α) (e : Nat) (base : Nat) (ok : Nat → Prop) (v : β → Value) (xs : β → List α) (B : Nat) : OwnFrom B (fun s W => d.R e W base ok (v s) (xs s)) :=
 fun _ _ _ _ hs hg hr => R_grownNC hs hg (fun r e => (hr r e).2)
theorem OwnFrom.ex {β γ : Type} {B : Nat} {I : γ → β → World → Prop} (h : ∀ g, OwnFrom B (I g)) : OwnFrom B (fun s W => ∃ g, I g s W) :=
 fun s W W' row ⟨g, hs⟩ hg hr => ⟨g, h g s W W' row hs hg hr⟩
theorem ownFrom_marks {β : Type} (B : Nat) (Ds : List Nat) (hlt : ∀ D ∈ Ds, D < B) : OwnFrom B (fun (_ : β) W => Marks Ds W) :=
 fun s W W' row hs hg hr => ⟨hs.1, fun D hD => (hg.block D (hs.lt D hD) (fun e => by
  have := (hr D e.symm).1
  have := hlt D hD
  omega)).trans (hs.2 D hD)⟩
theorem ownFrom_cells {β : Type} (B b : Nat) (cs : β → Array Value) (t : TypeId) : OwnFrom B (fun s W => W.heap[b]? = some (.cells (cs s) t (0, 0))) :=
 fun s W W' row hs hg hr => (hg.block b (Array.getElem?_eq_some_iff.1 hs).1 (fun e => by
  obtain ⟨_, o, ho, hn⟩ := hr b e.symm
  rw [hs] at ho
  cases ho
  cases hn)).trans hs
theorem arr_of_size (t : Array Value) (n : Nat) (h : t.size = n) : t = ((List.range n).map fun i => t.getD i undef).toArray := by
 apply Array.ext
 ·
  simp [h]
 ·
  intro i h1 h2
  simp [h1]
end Go.Proofs.YtlcdffhhimbbmaaDoor

namespace Go.Proofs.YtlcdffhhimbbmaaDoor
set_option linter.unusedVariables false
set_option linter.unusedSimpArgs false
open Go.RowKit Go.Shelf Bits
open Go.Proofs.YtlcdffhhimbbmaaDoorW.PrintWords Go.Proofs.YtlcdffhhimbbmaaDoorW.PrintLast Go.Proofs.YtlcdffhhimbbmaaDoorW.PrintMore
theorem infoInt : (Tryd.prog.info? 3).map (fun i => (i.zero, i.size, i.bytes)) = some (some (.int .i64 0), 1, 8) := by kernel_rfl
theorem infoSet : (Tryd.prog.info? 52).map (fun i => (i.zero, i.size, i.bytes)) = some (some (.int .u16 0), 1, 2) := by kernel_rfl
theorem infoTask : (Tryd.prog.info? 41).map (fun i => (i.zero, i.size, i.bytes)) = some (some (.agg #[(.int .i64 0), (.slice none 0 0), (.int .i64 0), (.int .i64 0)]), 4, 48) := by kernel_rfl
theorem infoEvent : (Tryd.prog.info? 30).map (fun i => (i.zero, i.size, i.bytes)) = some (some (.agg #[(.int .i64 0), (.int .i64 0), (.bool false)]), 3, 24) := by kernel_rfl
structure Tk where
 f0 : Int
 f1 : List Int
 f2 : Int
 f3 : Int
def zTk : Tk := ⟨0, [], 0, 0⟩
def kTk : Kd Tk := Kd.iso (Kd.pair (Kd.int .i64) (Kd.pair (Kd.slice 3 (Kd.int .i64)) (Kd.pair (Kd.int .i64) (Kd.int .i64)))) (fun x : Tk => (x.f0, x.f1, x.f2, x.f3))
theorem kTk_open {w : World} {x : Tk} {cs : List Value} (h : kTk.K w x cs) : ∃ A1 c1, cs = [.int .i64 x.f0, .slice A1 x.f1.length c1, .int .i64 x.f2, .int .i64 x.f3] ∧ x.f1.length ≤ c1 ∧ (Kd.int .i64).C w A1 x.f1.length x.f1 := by
 obtain ⟨_, _, rfl, rfl, ⟨_, _, rfl, ⟨A1, c1, rfl, l1, g1⟩, ⟨_, _, rfl, rfl, rfl⟩⟩⟩ := h
 exact ⟨A1, c1, rfl, l1, g1⟩
theorem kTk_mkM (w : World) (base : Nat) (ok : Nat → Prop) (x : Tk) {v1 : Value} (g1 : (Kd.int .i64).R 3 w base ok v1 x.f1) : kTk.M w base ok x [.int .i64 x.f0, v1, .int .i64 x.f2, .int .i64 x.f3] := ⟨[.int .i64 x.f0], [v1, .int .i64 x.f2, .int .i64 x.f3], rfl, rfl, ⟨[v1], [.int .i64 x.f2, .int .i64 x.f3], rfl, ⟨v1, rfl, g1⟩, ⟨[.int .i64 x.f2], [.int .i64 x.f3], rfl, rfl, rfl⟩⟩⟩
def rdTk (xs : List Tk) (i : Nat) : Tk := xs.getD i zTk
theorem at_Tk {w : World} {A : Option Addr} {n : Nat} {xs : List Tk} (h : Kd.C kTk w A n xs) (i : Nat) (h1 : i < n) : ∃ ad A1 c1, A = some ad ∧ w.cell? (ad.add (i * 4)) = some (.int .i64 (rdTk xs i).f0) ∧ w.cell? ⟨(ad.add (i * 4)).block, (ad.add (i * 4)).off + 1, none⟩ = some (.slice A1 (rdTk xs i).f1.length c1) ∧ w.cell? ⟨(ad.add (i * 4)).block, (ad.add (i * 4)).off + 2, none⟩ = some (.int .i64 (rdTk xs i).f2) ∧ w.cell? ⟨(ad.add (i * 4)).block, (ad.add (i * 4)).off + 3, none⟩ = some (.int .i64 (rdTk xs i).f3) ∧ (rdTk xs i).f1.length ≤ c1 ∧ (Kd.int .i64).C w A1 (rdTk xs i).f1.length (rdTk xs i).f1 := by
 obtain ⟨ad, c, e, _, hK, hc0⟩ := Kd.C_get h zTk (i : Int) (by omega) (by omega)
 have hc : ∀ j u, c[j]? = some u → w.cell? (ad.add (i * 4 + j)) = some u := hc0
 obtain ⟨A1, c1, rfl, l1, g1⟩ := kTk_open hK
 exact ⟨ad, A1, c1, e, hc 0 _ rfl, by rw [← add_field _ _ 1 (by omega)]; exact hc 1 _ rfl, by rw [← add_field _ _ 2 (by omega)]; exact hc 2 _ rfl, by rw [← add_field _ _ 3 (by omega)]; exact hc 3 _ rfl, l1, g1⟩
structure Ev where
 f0 : Int
 f1 : Int
 f2 : Bool
def zEv : Ev := ⟨0, 0, false⟩
def kEv : Kd Ev := Kd.iso (Kd.pair (Kd.int .i64) (Kd.pair (Kd.int .i64) Kd.bool)) (fun x : Ev => (x.f0, x.f1, x.f2))
theorem kEv_open {w : World} {x : Ev} {cs : List Value} (h : kEv.K w x cs) : cs = [.int .i64 x.f0, .int .i64 x.f1, .bool x.f2] := by
 obtain ⟨_, _, rfl, rfl, ⟨_, _, rfl, rfl, rfl⟩⟩ := h
 exact rfl
theorem kEv_mkM (w : World) (base : Nat) (ok : Nat → Prop) (x : Ev) : kEv.M w base ok x [.int .i64 x.f0, .int .i64 x.f1, .bool x.f2] := ⟨[.int .i64 x.f0], [.int .i64 x.f1, .bool x.f2], rfl, rfl, ⟨[.int .i64 x.f1], [.bool x.f2], rfl, rfl, rfl⟩⟩
def rdEv (xs : List Ev) (i : Nat) : Ev := xs.getD i zEv
theorem at_Ev {w : World} {A : Option Addr} {n : Nat} {xs : List Ev} (h : Kd.C kEv w A n xs) (i : Nat) (h1 : i < n) : ∃ ad , A = some ad ∧ w.cell? (ad.add (i * 3)) = some (.int .i64 (rdEv xs i).f0) ∧ w.cell? ⟨(ad.add (i * 3)).block, (ad.add (i * 3)).off + 1, none⟩ = some (.int .i64 (rdEv xs i).f1) ∧ w.cell? ⟨(ad.add (i * 3)).block, (ad.add (i * 3)).off + 2, none⟩ = some (.bool (rdEv xs i).f2) := by
 obtain ⟨ad, c, e, _, hK, hc0⟩ := Kd.C_get h zEv (i : Int) (by omega) (by omega)
 have hc : ∀ j u, c[j]? = some u → w.cell? (ad.add (i * 3 + j)) = some u := hc0
 obtain rfl := kEv_open hK
 exact ⟨ad, e, hc 0 _ rfl, by rw [← add_field _ _ 1 (by omega)]; exact hc 1 _ rfl, by rw [← add_field _ _ 2 (by omega)]; exact hc 2 _ rfl⟩
theorem at_num {w : World} {k : IntKind} {A : Option Addr} {n : Nat} {xs : List Int} (h : (Kd.int k).C w A n xs) (i : Nat) (h1 : i < n) : ∃ ad, A = some ad ∧ w.cell? (ad.add i) = some (.int k (xs.getD i 0)) := by
 obtain ⟨ad, e, hc⟩ := Kd.at_int h (i : Int) (by omega) (by omega)
 exact ⟨ad, e, hc⟩
def ints (xs : List Nat) : List Int := xs.map Int.ofNat
theorem ints_length (xs : List Nat) : (ints xs).length = xs.length := by simp [ints]
theorem ints_getD (xs : List Nat) (i : Nat) : (ints xs).getD i 0 = ((xs.getD i 0 : Nat) : Int) := by
 simp only [ints, List.getD_eq_getElem?_getD, List.getElem?_map]
 cases xs[i]? <;> rfl
theorem at_set {w : World} {k : IntKind} {A : Option Addr} {n : Nat} {xs : List Nat} (h : (Kd.int k).C w A n (ints xs)) (i : Nat) (h1 : i < n) : ∃ ad, A = some ad ∧ w.cell? (ad.add i) = some (.int k ((xs.getD i 0 : Nat) : Int)) := by
 obtain ⟨ad, e, hc⟩ := at_num h i h1
 exact ⟨ad, e, by rw [ints_getD] at hc; exact hc⟩
theorem C_len {α : Type} {d : Kd α} {w : World} {A : Option Addr} {n : Nat} {xs : List α} (h : d.C w A n xs) : xs.length = n ∧ n ≤ 9223372036854775807 := ⟨h.1, h.2.1⟩
section
variable {ops : Array Oper} {o : Oper} {rest : List Oper} {a : Act} {Q : Exit → Act → World → Prop} {w0 W : World}
theorem ap_int (base : Nat) (hgd : o.guard = none) (s x : Operand) (ho : o.op = .call { callee := .builtin .append, args := #[s, x], argTypes := #[31, 31] })
  (v : Value) (xs : List Int) (y : Int) (hs : a.eval s = v) {N : Nat} (hx : a.eval x = .slice (some ⟨N, 0, none⟩) 1 1) (hN : N = W.heap.size)
  (HO : Kd.R (Kd.int .i64) 3 W base (fun _ => True) v xs) (HB : Below base w0 W) (hbase : base ≤ W.heap.size) (hl : xs.length < 1000000)
  (h : ∀ v1 w1, Kd.R (Kd.int .i64) 3 w1 base (fun _ => True) v1 (xs ++ [y]) → Below base w0 w1 → W.grownBy w1 v.ownBlock → (v1.ownBlock = v.ownBlock ∨ ∃ b, v1.ownBlock = some b ∧ W.heap.size ≤ b) → wpList Tryd.prog ops Q rest (a.put o.dst v1) w1) :
  wpList Tryd.prog ops Q (o :: rest) a (W.alloc (.cells #[.int .i64 y] 3)) :=
 print_append_num base hgd s x 31 3 .i64 8 ho Tryd.underlying31 infoInt (by decide) v xs y hs (hN ▸ hx) (Kd.own_of_R HO) HB hbase (by omega)
  fun v1 w1 hown hB hg hat => h v1 w1 (Kd.R_of_own hown (fun _ _ => trivial)) hB hg hat
theorem ap_set (base : Nat) (hgd : o.guard = none) (s x : Operand) (ho : o.op = .call { callee := .builtin .append, args := #[s, x], argTypes := #[87, 87] })
  (v : Value) (xs : List Nat) (y : Nat) (hs : a.eval s = v) {N : Nat} (hx : a.eval x = .slice (some ⟨N, 0, none⟩) 1 1) (hN : N = W.heap.size)
  (HO : Kd.R (Kd.int .u16) 52 W base (fun _ => True) v (ints xs)) (HB : Below base w0 W) (hbase : base ≤ W.heap.size) (hl : xs.length < 1000000)
  (h : ∀ v1 w1, Kd.R (Kd.int .u16) 52 w1 base (fun _ => True) v1 (ints (xs ++ [y])) → Below base w0 w1 → W.grownBy w1 v.ownBlock → (v1.ownBlock = v.ownBlock ∨ ∃ b, v1.ownBlock = some b ∧ W.heap.size ≤ b) → wpList Tryd.prog ops Q rest (a.put o.dst v1) w1) :
  wpList Tryd.prog ops Q (o :: rest) a (W.alloc (.cells #[.int .u16 y] 52)) :=
 print_append_num base hgd s x 87 52 .u16 2 ho Tryd.underlying87 infoSet (by decide) v (ints xs) y hs (hN ▸ hx) (Kd.own_of_R HO) HB hbase (by rw [ints_length]; omega)
  fun v1 w1 hown hB hg hat => h v1 w1 (Kd.R_of_own (by simpa [ints, nums, encs] using hown) (fun _ _ => trivial)) hB hg hat
end
theorem ret_bool {a b : Bool} (h : a = b) : Ending.returned (.bool a) = .returned (.bool b) := by rw [h]
theorem ret_int {k : IntKind} {a b : Int} (h : a = b) : Ending.returned (.int k a) = .returned (.int k b) := by rw [h]
end Go.Proofs.YtlcdffhhimbbmaaDoor

namespace Go.Proofs.YtlcdffhhimbbmaaDoor
set_option linter.unusedVariables false
set_option linter.unusedSimpArgs false
open Go.RowKit Go.Shelf Bits
open Go.Proofs.YtlcdffhhimbbmaaDoorW.PrintWords Go.Proofs.YtlcdffhhimbbmaaDoorW.PrintLast Go.Proofs.YtlcdffhhimbbmaaDoorW.PrintMore
def inB (n lo hi : Int) : Bool := decide (lo ≤ n) && decide (n ≤ hi)
theorem inB_true {n lo hi : Int} : inB n lo hi = true ↔ lo ≤ n ∧ n ≤ hi := by simp [inB]
theorem inB_false {n lo hi : Int} : inB n lo hi = false ↔ n < lo ∨ hi < n := by simp [inB]; omega
theorem within_calls (n lo hi : Int) (w : World) : Calls Tryd.prog 81 #[.int .i64 n, .int .i64 lo, .int .i64 hi] w fun e w' => e = .returned (.bool (inB n lo hi)) ∧ w' = w := by
 by_cases h1 : lo ≤ n
 ·
  have d1 : decide (n ≥ lo) = true := by simpa using h1
  go_enter Tryd.func81, Tryd.ntmps81
  go_wp2
  go_ret
  exact ⟨ret_bool (by rw [inB, decide_eq_true h1, Bool.true_and]), rfl⟩
 ·
  have d1 : decide (n ≥ lo) = false := by simpa using h1
  go_enter Tryd.func81, Tryd.ntmps81
  go_wp2
  go_ret
  exact ⟨ret_bool (by rw [inB, decide_eq_false (by omega : ¬ lo ≤ n), Bool.false_and]), rfl⟩
theorem within_is (b : Bool) (n lo hi : Int) (h : Hid (inB n lo hi = b)) (w : World) : Calls Tryd.prog 81 #[.int .i64 n, .int .i64 lo, .int .i64 hi] w fun e w' => e = .returned (.bool b) ∧ w' = w :=
 (within_calls n lo hi w).mono fun e w' ⟨he, hw⟩ => ⟨by rw [he, h.out], hw⟩
theorem pow_u16 (i : Nat) (hi : i < 16) : IntKind.u16.wrap (2 ^ i) = ((2 ^ i : Nat) : Int) ∧ 2 ^ i < 65536 := by
 have h : (2 : Nat) ^ i < 65536 := Nat.pow_lt_pow_right (by omega) hi
 refine ⟨?_, h⟩
 have e : (2 : Int) ^ i = ((2 ^ i : Nat) : Int) := by simp
 rw [e, wrap_u16']
 generalize (2 : Nat) ^ i = q at h
 omega
theorem bits_or_u16 (a b : Nat) (ha : a < 65536) (hb : b < 65536) : bits .or .u16 (a : Int) (b : Int) = ((a ||| b : Nat) : Int) :=
 (bits_nat .u16 16 (by decide) (fun n h0 h1 => by rw [wrap_u16']; omega) a b ha hb).2
theorem or_lt (a b : Nat) (ha : a < 65536) (hb : b < 65536) : a ||| b < 65536 := Nat.or_lt_two_pow (n := 16) ha hb
theorem with_calls (s i : Nat) (hs : s < 65536) (hi : i < 16) (w : World) : Calls Tryd.prog 45 #[.int .u16 s, .int .i64 i] w fun e w' => e = .returned (.int .u16 ((s ||| 2 ^ i : Nat) : Int)) ∧ w' = w := by
 go_enter Tryd.func45, Tryd.ntmps45
 go_wp2
 go_ret
 exact ⟨ret_int (by obtain ⟨e, h⟩ := pow_u16 i hi; rw [e, bits_or_u16 s _ hs h]), rfl⟩
theorem has_calls (s i : Nat) (hs : s < 65536) (hi : i < 16) (w : World) : Calls Tryd.prog 62 #[.int .u16 s, .int .i64 i] w fun e w' => e = .returned (.bool (s.testBit i)) ∧ w' = w := by
 go_enter Tryd.func62, Tryd.ntmps62
 go_wp2
 go_ret
 exact ⟨ret_bool (by
  have e : (s : Int) / 2 ^ i = ((s / 2 ^ i : Nat) : Int) := by simp
  have h2 : s / 2 ^ i < 65536 := Nat.lt_of_le_of_lt (Nat.div_le_self _ _) hs
  have h3 := bits_and_u16_nat (s / 2 ^ i) 1 h2 (by omega)
  rw [e, show (1 : Int) = ((1 : Nat) : Int) from rfl, h3, Nat.and_one_is_mod, Nat.testBit_eq_decide_div_mod_eq, Bool.eq_iff_iff]
  simp
  omega), rfl⟩
theorem has_is (b : Bool) (s i : Nat) (h : Hid (s.testBit i = b)) (hs : s < 65536) (hi : i < 16) (w : World) : Calls Tryd.prog 62 #[.int .u16 s, .int .i64 i] w fun e w' => e = .returned (.bool b) ∧ w' = w :=
 (has_calls s i hs hi w).mono fun e w' ⟨he, hw⟩ => ⟨by rw [he, h.out], hw⟩
theorem everything_calls (n : Nat) (hn : n ≤ 15) (w : World) : Calls Tryd.prog 71 #[.int .i64 n] w fun e w' => e = .returned (.int .u16 ((2 ^ n - 1 : Nat) : Int)) ∧ w' = w := by
 go_enter Tryd.func71, Tryd.ntmps71
 go_wp2
 go_ret
 exact ⟨ret_int (by obtain ⟨e, h⟩ := pow_u16 n (by omega); rw [e, wrap_u16']; have h0 := Nat.two_pow_pos n; generalize (2 : Nat) ^ n = q at h h0; omega), rfl⟩
end Go.Proofs.YtlcdffhhimbbmaaDoor

namespace Go.Proofs.YtlcdffhhimbbmaaDoor
set_option linter.unusedVariables false
set_option linter.unusedSimpArgs false
open Bits
def setOfL (n : Int) : List Int → Int → Nat → Option Nat
 | [], _, s => some s
 | i :: r, last, s => if last + 1 ≤ i ∧ i ≤ n - 1 then setOfL n r i (s ||| 2 ^ i.toNat) else none
theorem setOfL_cons (n i : Int) (r : List Int) (last : Int) (s : Nat) : setOfL n (i :: r) last s = if last + 1 ≤ i ∧ i ≤ n - 1 then setOfL n r i (s ||| 2 ^ i.toNat) else none := rfl
def setOfN (l : List Int) (n : Nat) : Option Nat := setOfL n l (-1) 0
theorem or_lt_pow {a b n : Nat} (ha : a < 2 ^ n) (hb : b < 2 ^ n) : a ||| b < 2 ^ n := Nat.or_lt_two_pow ha hb
theorem setOfL_lt (n : Nat) : ∀ (l : List Int) (last : Int) (s r : Nat), -1 ≤ last → s < 2 ^ n → setOfL n l last s = some r → r < 2 ^ n
 | [], _, s, r, _, hs, h => by simp [setOfL] at h; omega
 | i :: l, last, s, r, hl, hs, h => by
  rw [setOfL_cons] at h
  split at h
  ·
   rename_i hi
   refine setOfL_lt n l i _ r (by omega) (or_lt_pow hs ?_) h
   exact Nat.pow_lt_pow_right (by omega) (by omega)
  ·
   cases h
theorem setOfN_lt {l : List Int} {n s : Nat} (h : setOfN l n = some s) : s < 2 ^ n := setOfL_lt n l _ _ _ (by omega) (Nat.two_pow_pos n) h
theorem pow_le_u16 {n : Nat} (h : n ≤ 16) : 2 ^ n ≤ 65536 := show 2 ^ n ≤ 2 ^ 16 from Nat.pow_le_pow_right (by omega) h
def taskOk (t : Tk) : Bool := inB t.f0 1 20 && inB t.f2 0 2 && inB t.f3 1 4
def needsL (n : Nat) : List Tk → Option (List Nat)
 | [] => some []
 | t :: r => match setOfN t.f1 n with
  | none => none
  | some s => if taskOk t then (needsL n r).map (s :: ·) else none
def needsN (g : List Tk) : Option (List Nat) := if 8 < g.length then none else needsL g.length g
theorem needsL_cons (n : Nat) (t : Tk) (r : List Tk) : needsL n (t :: r) = match setOfN t.f1 n with
  | none => none
  | some s => if taskOk t then (needsL n r).map (s :: ·) else none := rfl
theorem needsL_bad {n : Nat} {t : Tk} {r : List Tk} (h : setOfN t.f1 n = none ∨ taskOk t = false) : needsL n (t :: r) = none := by
 rw [needsL_cons]
 rcases h with h | h
 ·
  rw [h]
 ·
  cases setOfN t.f1 n <;> simp [h]
theorem needsL_good {n s : Nat} {t : Tk} {r : List Tk} (h : setOfN t.f1 n = some s) (h' : taskOk t = true) : needsL n (t :: r) = (needsL n r).map (s :: ·) := by
 rw [needsL_cons, h]; simp [h']
theorem taskOk_false {t : Tk} (h : inB t.f0 1 20 = false ∨ inB t.f2 0 2 = false ∨ inB t.f3 1 4 = false) : taskOk t = false := by
 unfold taskOk
 rcases h with h | h | h <;> rw [h] <;> simp
theorem taskOk_true {t : Tk} (h0 : inB t.f0 1 20 = true) (h1 : inB t.f2 0 2 = true) (h2 : inB t.f3 1 4 = true) : taskOk t = true := by
 unfold taskOk; rw [h0, h1, h2]; rfl
theorem needsL_step {n : Nat} {acc : List Nat} {o : Option (List Nat)} {t : Tk} {r : List Tk} {s : Nat} (h : o = (needsL n (t :: r)).map (acc ++ ·)) (h1 : setOfN t.f1 n = some s) (h2 : taskOk t = true) : o = (needsL n r).map ((acc ++ [s]) ++ ·) := by
 rw [h, needsL_good h1 h2]
 cases needsL n r <;> simp
def diff (a b : Nat) : Nat := a ^^^ (a &&& b)
theorem diff_bit (a b i : Nat) : (diff a b).testBit i = (a.testBit i && !b.testBit i) := by
 unfold diff; rw [Nat.testBit_xor, Nat.testBit_and]; cases a.testBit i <;> cases b.testBit i <;> rfl
theorem diff_lt {a b n : Nat} (h : a < 2 ^ n) : diff a b < 2 ^ n := Nat.xor_lt_two_pow h (Nat.lt_of_le_of_lt Nat.and_le_left h)
theorem diff_zero {a b : Nat} : diff a b = 0 ↔ ∀ i, a.testBit i = true → b.testBit i = true := by
 constructor
 ·
  intro h i ha
  have := diff_bit a b i
  rw [h] at this
  simp [ha] at this
  exact this
 ·
  intro h
  apply Nat.eq_of_testBit_eq
  intro i
  rw [diff_bit, Nat.zero_testBit]
  cases ha : a.testBit i
  ·
   rfl
  ·
   rw [h i ha]; rfl
theorem or_bit (a i j : Nat) : (a ||| 2 ^ i).testBit j = (a.testBit j || decide (i = j)) := by rw [Nat.testBit_or, Nat.testBit_two_pow]
def isReady (ns : List Nat) (done i : Nat) : Bool := !done.testBit i && decide (diff (ns.getD i 0) done = 0)
def firstReady (ns : List Nat) (done : Nat) : Option Nat := (List.range ns.length).find? (isReady ns done)
def ordStep (ns : List Nat) (p : List Nat × Nat) : List Nat × Nat := match firstReady ns p.2 with
 | some i => (p.1 ++ [i], p.2 ||| 2 ^ i)
 | none => p
def ordN (ns : List Nat) : Nat → List Nat × Nat
 | 0 => ([], 0)
 | k + 1 => ordStep ns (ordN ns k)
theorem find_range {n k : Nat} {p : Nat → Bool} (h : k < n) (hp : p k = true) (hlow : ∀ j, j < k → p j = false) : (List.range n).find? p = some k := by
 rw [List.find?_range_eq_some]
 refine ⟨hp, List.mem_range.2 h, fun j hj => by simp [hlow j hj]⟩
theorem firstReady_some {ns : List Nat} {done k : Nat} (h : k < ns.length) (hp : isReady ns done k = true) (hlow : ∀ j, j < k → isReady ns done j = false) : firstReady ns done = some k := find_range h hp hlow
theorem firstReady_none {ns : List Nat} {done : Nat} (hlow : ∀ j, j < ns.length → isReady ns done j = false) : firstReady ns done = none := by
 unfold firstReady
 rw [List.find?_eq_none]
 intro j hj
 rw [hlow j (List.mem_range.1 hj)]; simp
theorem firstReady_spec {ns : List Nat} {done k : Nat} (h : firstReady ns done = some k) : k < ns.length ∧ isReady ns done k = true := by
 unfold firstReady at h
 exact ⟨List.mem_range.1 (List.mem_of_find?_eq_some h), List.find?_some h⟩
theorem ordN_lt (ns : List Nat) : ∀ k, (ordN ns k).2 < 2 ^ ns.length ∧ (∀ i ∈ (ordN ns k).1, i < ns.length) ∧ (ordN ns k).1.length ≤ k
 | 0 => ⟨Nat.two_pow_pos _, by intro i h; simp [ordN] at h, Nat.le_refl _⟩
 | k + 1 => by
  obtain ⟨h1, h2, h3⟩ := ordN_lt ns k
  show (ordStep ns (ordN ns k)).2 < _ ∧ (∀ i ∈ (ordStep ns (ordN ns k)).1, _) ∧ (ordStep ns (ordN ns k)).1.length ≤ _
  unfold ordStep
  cases hf : firstReady ns (ordN ns k).2 with
  | none => exact ⟨h1, h2, Nat.le_succ_of_le h3⟩
  | some i =>
   obtain ⟨hi, _⟩ := firstReady_spec hf
   refine ⟨or_lt_pow h1 (Nat.pow_lt_pow_right (by omega) hi), fun j hj => ?_, by simp; omega⟩
   rcases List.mem_append.1 hj with hj | hj
   ·
    exact h2 j hj
   ·
    rw [List.mem_singleton.1 hj]; exact hi
theorem needsL_length {n : Nat} : ∀ {g : List Tk} {ns : List Nat}, needsL n g = some ns → ns.length = g.length ∧ ∀ s ∈ ns, s < 2 ^ n
 | [], ns, h => by simp [needsL] at h; subst h; simp
 | t :: r, ns, h => by
  rw [needsL_cons] at h
  cases hs : setOfN t.f1 n with
  | none => rw [hs] at h; cases h
  | some s =>
   rw [hs] at h
   simp only at h
   split at h
   ·
    obtain ⟨ms, hm, rfl⟩ := Option.map_eq_some_iff.1 h
    obtain ⟨h1, h2⟩ := needsL_length hm
    refine ⟨by simp [h1], fun q hq => ?_⟩
    rcases List.mem_cons.1 hq with rfl | hq
    ·
     exact setOfN_lt hs
    ·
     exact h2 q hq
   ·
    cases h
theorem needsN_some {g : List Tk} {ns : List Nat} (h : needsN g = some ns) : g.length ≤ 8 ∧ needsL g.length g = some ns := by
 unfold needsN at h
 split at h
 ·
  cases h
 ·
  exact ⟨by omega, h⟩
theorem needsN_length {g : List Tk} {ns : List Nat} (h : needsN g = some ns) : ns.length = g.length := (needsL_length (needsN_some h).2).1
theorem needsN_pow {g : List Tk} {ns : List Nat} (h : needsN g = some ns) (i : Nat) : ns.getD i 0 < 2 ^ g.length := by
 rw [List.getD_eq_getElem?_getD]
 cases hi : ns[i]? with
 | none => exact Nat.two_pow_pos _
 | some s => exact (needsL_length (needsN_some h).2).2 s (List.mem_of_getElem? hi)
theorem needsN_lt {g : List Tk} {ns : List Nat} (h : needsN g = some ns) (i : Nat) : ns.getD i 0 < 65536 :=
 Nat.lt_of_lt_of_le (needsN_pow h i) (pow_le_u16 (by have := (needsN_some h).1; omega))
theorem drop_cons {g : List Tk} {k : Nat} (h : k < g.length) : g.drop k = rdTk g k :: g.drop (k + 1) := by
 rw [List.drop_eq_getElem_cons h]; simp [rdTk, List.getD_eq_getElem?_getD, h]
end Go.Proofs.YtlcdffhhimbbmaaDoor

namespace Go.Proofs.YtlcdffhhimbbmaaDoor
set_option linter.unusedVariables false
set_option linter.unusedSimpArgs false
open Go.RowKit Go.Shelf Bits
open Go.Proofs.YtlcdffhhimbbmaaDoorW.PrintWords Go.Proofs.YtlcdffhhimbbmaaDoorW.PrintLast Go.Proofs.YtlcdffhhimbbmaaDoorW.PrintMore
theorem inRange_calls (n lo hi : Int) (w : World) : Calls Tryd.prog 54 #[.int .i64 n, .int .i64 lo, .int .i64 hi] w fun e w' => e = .returned (.bool (inB n lo hi)) ∧ w' = w := by
 by_cases h1 : lo ≤ n
 ·
  have d1 : decide (lo ≤ n) = true := by simpa using h1
  go_enter Tryd.func54, Tryd.ntmps54
  go_wp2
  go_ret
  exact ⟨ret_bool (by rw [inB, decide_eq_true h1, Bool.true_and]), rfl⟩
 ·
  have d1 : decide (lo ≤ n) = false := by simpa using h1
  go_enter Tryd.func54, Tryd.ntmps54
  go_wp2
  go_ret
  exact ⟨ret_bool (by rw [inB, decide_eq_false (by omega : ¬ lo ≤ n), Bool.false_and]), rfl⟩
theorem inRange_is (b : Bool) (n lo hi : Int) (h : Hid (inB n lo hi = b)) (w : World) : Calls Tryd.prog 54 #[.int .i64 n, .int .i64 lo, .int .i64 hi] w fun e w' => e = .returned (.bool b) ∧ w' = w :=
 (inRange_calls n lo hi w).mono fun e w' ⟨he, hw⟩ => ⟨by rw [he, h.out], hw⟩
def ascB (l : List Int) : Bool := (List.range (l.length - 1)).all fun j => decide (l.getD j 0 < l.getD (j + 1) 0)
def allInB (l : List Int) (lo hi : Int) : Bool := l.all fun x => inB x lo hi
def allDoneB (needs done : List Int) : Bool := needs.all fun x => decide (x ∈ done)
theorem all_take {α : Type} {p : α → Bool} {l : List α} (z : α) (h : ∀ j, j < l.length → p (l.getD j z) = true) : l.all p = true := by
 rw [List.all_eq_true]
 intro x hx
 obtain ⟨j, hj, rfl⟩ := List.getElem_of_mem hx
 have := h j hj
 rwa [List.getD_eq_getElem?_getD, List.getElem?_eq_getElem hj] at this
theorem all_not {α : Type} {p : α → Bool} {l : List α} (z : α) {j : Nat} (hj : j < l.length) (h : p (l.getD j z) = false) : l.all p = false := by
 rw [List.all_eq_false]
 refine ⟨l.getD j z, ?_, by rw [h]; simp⟩
 rw [List.getD_eq_getElem?_getD, List.getElem?_eq_getElem hj]
 exact List.getElem_mem _
theorem not_mem_of {l : List Int} {n : Int} (h : ∀ j, j < l.length → l.getD j 0 ≠ n) : ¬ n ∈ l := by
 intro hx
 obtain ⟨j, hj, rfl⟩ := List.getElem_of_mem hx
 exact h j hj (by rw [List.getD_eq_getElem?_getD, List.getElem?_eq_getElem hj]; rfl)
theorem mem_getD {l : List Int} {j : Nat} (hj : j < l.length) : l.getD j 0 ∈ l := by
 rw [List.getD_eq_getElem?_getD, List.getElem?_eq_getElem hj]
 exact List.getElem_mem _
theorem step_lt {k : Nat} {P : Nat → Prop} (h : Hid (∀ j, j < k → P j)) (hk : P k) : Hid (∀ j, j < k + 1 → P j) := Lib.hid fun j hj => by
 rcases Nat.lt_succ_iff_lt_or_eq.1 hj with h1 | h1
 ·
  exact h.out j h1
 ·
  rw [h1]; exact hk
set_option maxHeartbeats 1000000 in
theorem allIn_calls (A : Option Addr) (c : Nat) (l : List Int) (lo hi : Int) (w : World) (hr : (Kd.int .i64).C w A l.length l) :
  Calls Tryd.prog 64 #[.slice A l.length c, .int .i64 lo, .int .i64 hi] w fun e w' => e = .returned (.bool (allInB l lo hi)) ∧ w' = w := by
 have hl := (C_len hr).2
 have HR := Lib.hid hr
 clear hr
 go_enter Tryd.func64, Tryd.ntmps64
 go_wp2
 go_loop [7] (fun i => ∃ (k : Nat), k ≤ l.length ∧ i = .int .i64 k ∧ Hid (∀ j, j < k → inB (l.getD j 0) lo hi = true)) (fun i => l.length - (intOf i).toNat)
 case atStart => exact ⟨0, Nat.zero_le _, rfl, Lib.hid fun j h => absurd h (Nat.not_lt_zero _)⟩
 case round =>
  obtain ⟨k, hk, rfl, HS⟩ := hrel
  by_cases hlt : k < l.length
  ·
   obtain ⟨ad, rfl, hc⟩ := at_num HR.out k hlt
   cases hb : inB (l.getD k 0) lo hi
   ·
    have HB := Lib.hid hb
    have HF := Lib.hid (all_not (p := fun x => inB x lo hi) 0 hlt hb)
    clear hb
    generalize l.getD k 0 = x at hc HB
    go_wp2_with (go_at_call 54; refine (inRange_is _ _ _ _ HB _).mono ?_; rintro e w' ⟨rfl, rfl⟩)
    go_ret
    exact ⟨ret_bool HF.out.symm, rfl⟩
   ·
    have HB := Lib.hid hb
    have HN := step_lt HS hb
    clear hb
    generalize l.getD k 0 = x at hc HB
    go_wp2_with (go_at_call 54; refine (inRange_is _ _ _ _ HB _).mono ?_; rintro e w' ⟨rfl, rfl⟩)
    go_round
    case rel => exact ⟨k + 1, by omega, by go_num, HN⟩
    case measure => simp [intOf]; omega
  ·
   have HF := Lib.hid (all_take (p := fun x => inB x lo hi) (l := l) 0 fun j hj => HS.out j (by omega))
   go_wp2
   go_ret
   exact ⟨ret_bool HF.out.symm, rfl⟩
set_option maxHeartbeats 1000000 in
theorem isIn_calls (A : Option Addr) (c : Nat) (l : List Int) (n : Int) (w : World) (hr : (Kd.int .i64).C w A l.length l) :
  Calls Tryd.prog 68 #[.slice A l.length c, .int .i64 n] w fun e w' => e = .returned (.bool (decide (n ∈ l))) ∧ w' = w := by
 have hl := (C_len hr).2
 have HR := Lib.hid hr
 clear hr
 go_enter Tryd.func68, Tryd.ntmps68
 go_wp2
 go_loop [5] (fun i => ∃ (k : Nat), k ≤ l.length ∧ i = .int .i64 k ∧ Hid (∀ j, j < k → l.getD j 0 ≠ n)) (fun i => l.length - (intOf i).toNat)
 case atStart => exact ⟨0, Nat.zero_le _, rfl, Lib.hid fun j h => absurd h (Nat.not_lt_zero _)⟩
 case round =>
  obtain ⟨k, hk, rfl, HS⟩ := hrel
  by_cases hlt : k < l.length
  ·
   obtain ⟨ad, rfl, hc⟩ := at_num HR.out k hlt
   by_cases hb : l.getD k 0 = n
   ·
    have HF : Hid (decide (n ∈ l) = true) := Lib.hid (decide_eq_true (by rw [← hb]; exact mem_getD hlt))
    have d1 : (l.getD k 0 == n) = true := beq_iff_eq.2 hb
    clear hb
    generalize l.getD k 0 = x at hc d1
    go_wp2
    go_ret
    exact ⟨ret_bool HF.out.symm, rfl⟩
   ·
    have HN := step_lt HS hb
    have d1 : (l.getD k 0 == n) = false := beq_eq_false_iff_ne.2 hb
    clear hb
    generalize l.getD k 0 = x at hc d1
    go_wp2
    go_round
    case rel => exact ⟨k + 1, by omega, by go_num, HN⟩
    case measure => simp [intOf]; omega
  ·
   have HF : Hid (decide (n ∈ l) = false) := Lib.hid (decide_eq_false (not_mem_of fun j hj => HS.out j (by omega)))
   go_wp2
   go_ret
   exact ⟨ret_bool HF.out.symm, rfl⟩
theorem isIn_is (b : Bool) (A : Option Addr) (c : Nat) (l : List Int) (n : Int) (h : Hid (decide (n ∈ l) = b)) (w : World) (hr : (Kd.int .i64).C w A l.length l) : Calls Tryd.prog 68 #[.slice A l.length c, .int .i64 n] w fun e w' => e = .returned (.bool b) ∧ w' = w :=
 (isIn_calls A c l n w hr).mono fun e w' ⟨he, hw⟩ => ⟨by rw [he, h.out], hw⟩
set_option maxHeartbeats 1000000 in
theorem allDone_calls (A : Option Addr) (c : Nat) (l : List Int) (A' : Option Addr) (c' : Nat) (d : List Int) (w : World) (hr : (Kd.int .i64).C w A l.length l) (hr' : (Kd.int .i64).C w A' d.length d) :
  Calls Tryd.prog 65 #[.slice A l.length c, .slice A' d.length c'] w fun e w' => e = .returned (.bool (allDoneB l d)) ∧ w' = w := by
 have hl := (C_len hr).2
 have HR := Lib.hid hr
 have HR' := Lib.hid hr'
 clear hr hr'
 go_enter Tryd.func65, Tryd.ntmps65
 go_wp2
 go_loop [5] (fun i => ∃ (k : Nat), k ≤ l.length ∧ i = .int .i64 k ∧ Hid (∀ j, j < k → decide (l.getD j 0 ∈ d) = true)) (fun i => l.length - (intOf i).toNat)
 case atStart => exact ⟨0, Nat.zero_le _, rfl, Lib.hid fun j h => absurd h (Nat.not_lt_zero _)⟩
 case round =>
  obtain ⟨k, hk, rfl, HS⟩ := hrel
  by_cases hlt : k < l.length
  ·
   obtain ⟨ad, rfl, hc⟩ := at_num HR.out k hlt
   cases hb : decide (l.getD k 0 ∈ d)
   ·
    have HB := Lib.hid hb
    have HF := Lib.hid (all_not (p := fun x => decide (x ∈ d)) 0 hlt hb)
    clear hb
    generalize l.getD k 0 = x at hc HB
    go_wp2_with (go_at_call 68; refine (isIn_is _ _ _ _ _ HB _ HR'.out).mono ?_; rintro e w' ⟨rfl, rfl⟩)
    go_ret
    exact ⟨ret_bool HF.out.symm, rfl⟩
   ·
    have HB := Lib.hid hb
    have HN := step_lt HS hb
    clear hb
    generalize l.getD k 0 = x at hc HB
    go_wp2_with (go_at_call 68; refine (isIn_is _ _ _ _ _ HB _ HR'.out).mono ?_; rintro e w' ⟨rfl, rfl⟩)
    go_round
    case rel => exact ⟨k + 1, by omega, by go_num, HN⟩
    case measure => simp [intOf]; omega
  ·
   have HF := Lib.hid (all_take (p := fun x => decide (x ∈ d)) (l := l) 0 fun j hj => HS.out j (by omega))
   go_wp2
   go_ret
   exact ⟨ret_bool HF.out.symm, rfl⟩
theorem allDone_is (b : Bool) (A : Option Addr) (c : Nat) (l : List Int) (A' : Option Addr) (c' : Nat) (d : List Int) (h : Hid (allDoneB l d = b)) (w : World) (hr : (Kd.int .i64).C w A l.length l) (hr' : (Kd.int .i64).C w A' d.length d) :
  Calls Tryd.prog 65 #[.slice A l.length c, .slice A' d.length c'] w fun e w' => e = .returned (.bool b) ∧ w' = w :=
 (allDone_calls A c l A' c' d w hr hr').mono fun e w' ⟨he, hw⟩ => ⟨by rw [he, h.out], hw⟩
set_option maxHeartbeats 1000000 in
theorem ascends_calls (A : Option Addr) (c : Nat) (l : List Int) (w : World) (hr : (Kd.int .i64).C w A l.length l) :
  Calls Tryd.prog 63 #[.slice A l.length c] w fun e w' => e = .returned (.bool (ascB l)) ∧ Below w.heap.size w w' := by
 have hl := (C_len hr).2
 have HR := Lib.hid hr
 clear hr
 go_enter Tryd.func63, Tryd.ntmps63
 go_wp2
 go_loopw [3] (fun i wr => ∃ (k : Nat), 1 ≤ k ∧ k ≤ max 1 l.length ∧ i = .int .i64 k ∧ Hid (∀ j, j < k - 1 → decide (l.getD j 0 < l.getD (j + 1) 0) = true) ∧ Below w.heap.size w wr) (fun i _ => l.length - (intOf i).toNat)
 case atStart => exact ⟨1, Nat.le_refl _, by omega, rfl, Lib.hid fun j h => absurd h (Nat.not_lt_zero _), Below.refl _ _⟩
 case round =>
  obtain ⟨k, hk0, hk, rfl, HS, HB⟩ := hrel
  by_cases hlt : k < l.length
  ·
   obtain ⟨ad, rfl, hc⟩ := at_num (Kd.C_below HR.out HB) k hlt
   obtain ⟨ad', e, hc'⟩ := at_num (Kd.C_below HR.out HB) (k - 1) (by omega)
   cases e
   have hkk : k - 1 + 1 = k := by omega
   have hkl : k - 1 < l.length := by omega
   have HKK := Lib.hid hkk
   clear hkk
   cases hb : decide (l.getD (k - 1) 0 < l.getD k 0)
   ·
    have HF : Hid (ascB l = false) := Lib.hid (by
     unfold ascB
     rw [List.all_eq_false]
     exact ⟨k - 1, List.mem_range.2 (by omega), by rw [HKK.out, hb]; simp⟩)
    have hle : l.getD k 0 ≤ l.getD (k - 1) 0 := by have := of_decide_eq_false hb; omega
    clear hb
    generalize l.getD k 0 = x at hc hle
    generalize l.getD (k - 1) 0 = y at hc' hle
    go_wp2
    go_quiet (fail)
    go_wp2
    go_ret
    exact ⟨ret_bool HF.out.symm, pw_below_drewN HB _⟩
   ·
    have HN : Hid (∀ j, j < k + 1 - 1 → decide (l.getD j 0 < l.getD (j + 1) 0) = true) := Lib.hid fun j hj => by
     by_cases e : j = k - 1
     ·
      rw [e, HKK.out]; exact hb
     ·
      exact HS.out j (by omega)
    have hle : l.getD (k - 1) 0 < l.getD k 0 := of_decide_eq_true hb
    clear hb
    generalize l.getD k 0 = x at hc hle
    generalize l.getD (k - 1) 0 = y at hc' hle
    go_wp2
    go_quiet (fail)
    go_wp2
    go_roundw
    case rel => exact ⟨k + 1, by omega, by omega, by go_num, HN, pw_below_drewN HB _⟩
    case measure => simp [intOf]; omega
  ·
   have HF : Hid (ascB l = true) := Lib.hid (by
    unfold ascB
    rw [List.all_eq_true]
    exact fun j hj => HS.out j (by have := List.mem_range.1 hj; omega))
   go_wp2
   go_ret
   exact ⟨ret_bool HF.out.symm, HB⟩
end Go.Proofs.YtlcdffhhimbbmaaDoor

namespace Go.Proofs.YtlcdffhhimbbmaaDoor
set_option linter.unusedVariables false
set_option linter.unusedSimpArgs false
open Go.RowKit Go.Shelf Bits
open Go.Proofs.YtlcdffhhimbbmaaDoorW.PrintWords Go.Proofs.YtlcdffhhimbbmaaDoorW.PrintLast Go.Proofs.YtlcdffhhimbbmaaDoorW.PrintMore
theorem allIn_is (b : Bool) (A : Option Addr) (c : Nat) (l : List Int) (lo hi : Int) (h : Hid (allInB l lo hi = b)) (w : World) (hr : (Kd.int .i64).C w A l.length l) :
  Calls Tryd.prog 64 #[.slice A l.length c, .int .i64 lo, .int .i64 hi] w fun e w' => e = .returned (.bool b) ∧ w' = w :=
 (allIn_calls A c l lo hi w hr).mono fun e w' ⟨he, hw⟩ => ⟨by rw [he, h.out], hw⟩
theorem ascends_is (b : Bool) (A : Option Addr) (c : Nat) (l : List Int) (h : Hid (ascB l = b)) (w : World) (hr : (Kd.int .i64).C w A l.length l) :
  Calls Tryd.prog 63 #[.slice A l.length c] w fun e w' => e = .returned (.bool b) ∧ Below w.heap.size w w' :=
 (ascends_calls A c l w hr).mono fun e w' ⟨he, hw⟩ => ⟨by rw [he, h.out], hw⟩
def taskFineB (n : Int) (t : Tk) : Bool := inB t.f0 1 20 && inB t.f2 0 2 && inB t.f3 1 4 && allInB t.f1 0 (n - 1) && ascB t.f1
def tkVal (t : Tk) (v : Value) : Value := .agg #[.int .i64 t.f0, v, .int .i64 t.f2, .int .i64 t.f3]
set_option maxRecDepth 100000 in
set_option maxHeartbeats 2000000 in
theorem validTask_calls (t : Tk) (A : Option Addr) (c : Nat) (n : Int) (hn0 : 0 ≤ n) (hn : n ≤ 9223372036854775807) (w : World) (hC : (Kd.int .i64).C w A t.f1.length t.f1) :
  Calls Tryd.prog 93 #[.agg #[.int .i64 t.f0, .slice A t.f1.length c, .int .i64 t.f2, .int .i64 t.f3], .int .i64 n] w fun e w' => e = .returned (.bool (taskFineB n t)) ∧ Below w.heap.size w w' := by
 cases b0 : inB t.f0 1 20
 ·
  have H0 := Lib.hid b0
  clear b0
  go_enter Tryd.func93, Tryd.ntmps93
  go_wp2_with (first | (go_at_call 54; with_reducible refine (inRange_is _ _ _ _ H0 _).mono ?_; rintro e w' ⟨rfl, rfl⟩))
  go_ret
  exact ⟨ret_bool (by simp only [taskFineB, H0.out]; rfl), below_alloc (Below.refl _ _) _⟩
 ·
  have H0 := Lib.hid b0
  clear b0
  cases b1 : inB t.f2 0 2
  ·
   have H1 := Lib.hid b1
   clear b1
   go_enter Tryd.func93, Tryd.ntmps93
   go_wp2_with (first | (go_at_call 54; with_reducible refine (inRange_is _ _ _ _ H0 _).mono ?_; rintro e w' ⟨rfl, rfl⟩) | (go_at_call 54; with_reducible refine (inRange_is _ _ _ _ H1 _).mono ?_; rintro e w' ⟨rfl, rfl⟩))
   go_ret
   exact ⟨ret_bool (by simp only [taskFineB, H0.out, H1.out]; rfl), below_alloc (Below.refl _ _) _⟩
  ·
   have H1 := Lib.hid b1
   clear b1
   cases b2 : inB t.f3 1 4
   ·
    have H2 := Lib.hid b2
    clear b2
    go_enter Tryd.func93, Tryd.ntmps93
    go_wp2_with (first | (go_at_call 54; with_reducible refine (inRange_is _ _ _ _ H0 _).mono ?_; rintro e w' ⟨rfl, rfl⟩) | (go_at_call 54; with_reducible refine (inRange_is _ _ _ _ H1 _).mono ?_; rintro e w' ⟨rfl, rfl⟩) | (go_at_call 54; with_reducible refine (inRange_is _ _ _ _ H2 _).mono ?_; rintro e w' ⟨rfl, rfl⟩))
    go_ret
    exact ⟨ret_bool (by simp only [taskFineB, H0.out, H1.out, H2.out]; rfl), below_alloc (Below.refl _ _) _⟩
   ·
    have H2 := Lib.hid b2
    clear b2
    cases b3 : allInB t.f1 0 (n - 1)
    ·
     have H3 := Lib.hid b3
     clear b3
     go_enter Tryd.func93, Tryd.ntmps93
     go_wp2_with (first | (go_at_call 54; with_reducible refine (inRange_is _ _ _ _ H0 _).mono ?_; rintro e w' ⟨rfl, rfl⟩) | (go_at_call 54; with_reducible refine (inRange_is _ _ _ _ H1 _).mono ?_; rintro e w' ⟨rfl, rfl⟩) | (go_at_call 54; with_reducible refine (inRange_is _ _ _ _ H2 _).mono ?_; rintro e w' ⟨rfl, rfl⟩) | (go_at_call 64; refine (allIn_is _ _ _ _ _ _ H3 _ (Kd.C_below hC (below_alloc (Below.refl _ _) _))).mono ?_; rintro e w' ⟨rfl, rfl⟩))
     go_ret
     exact ⟨ret_bool (by simp only [taskFineB, H0.out, H1.out, H2.out, H3.out]; rfl), below_alloc (Below.refl _ _) _⟩
    ·
     have H3 := Lib.hid b3
     clear b3
     cases b4 : ascB t.f1
     ·
      have H4 := Lib.hid b4
      clear b4
      go_enter Tryd.func93, Tryd.ntmps93
      go_wp2_with (first | (go_at_call 54; with_reducible refine (inRange_is _ _ _ _ H0 _).mono ?_; rintro e w' ⟨rfl, rfl⟩) | (go_at_call 54; with_reducible refine (inRange_is _ _ _ _ H1 _).mono ?_; rintro e w' ⟨rfl, rfl⟩) | (go_at_call 54; with_reducible refine (inRange_is _ _ _ _ H2 _).mono ?_; rintro e w' ⟨rfl, rfl⟩) | (go_at_call 64; refine (allIn_is _ _ _ _ _ _ H3 _ (Kd.C_below hC (below_alloc (Below.refl _ _) _))).mono ?_; rintro e w' ⟨rfl, rfl⟩) | (go_at_call 63; refine (ascends_is _ _ _ _ H4 _ (Kd.C_below hC (below_alloc (Below.refl _ _) _))).mono ?_; rintro e w1 ⟨rfl, hB1⟩))
      go_ret
      exact ⟨ret_bool (by simp only [taskFineB, H0.out, H1.out, H2.out, H3.out, H4.out]; rfl), below_step (below_alloc (Below.refl _ _) _) hB1⟩
     ·
      have H4 := Lib.hid b4
      clear b4
      go_enter Tryd.func93, Tryd.ntmps93
      go_wp2_with (first | (go_at_call 54; with_reducible refine (inRange_is _ _ _ _ H0 _).mono ?_; rintro e w' ⟨rfl, rfl⟩) | (go_at_call 54; with_reducible refine (inRange_is _ _ _ _ H1 _).mono ?_; rintro e w' ⟨rfl, rfl⟩) | (go_at_call 54; with_reducible refine (inRange_is _ _ _ _ H2 _).mono ?_; rintro e w' ⟨rfl, rfl⟩) | (go_at_call 64; refine (allIn_is _ _ _ _ _ _ H3 _ (Kd.C_below hC (below_alloc (Below.refl _ _) _))).mono ?_; rintro e w' ⟨rfl, rfl⟩) | (go_at_call 63; refine (ascends_is _ _ _ _ H4 _ (Kd.C_below hC (below_alloc (Below.refl _ _) _))).mono ?_; rintro e w1 ⟨rfl, hB1⟩))
      go_ret
      exact ⟨ret_bool (by simp only [taskFineB, H0.out, H1.out, H2.out, H3.out, H4.out]; rfl), below_step (below_alloc (Below.refl _ _) _) hB1⟩
theorem validTask_is (b : Bool) (t : Tk) (A : Option Addr) (c : Nat) (n : Int) (h : Hid (taskFineB n t = b)) (hn0 : 0 ≤ n) (hn : n ≤ 9223372036854775807) (w : World) (hC : (Kd.int .i64).C w A t.f1.length t.f1) :
  Calls Tryd.prog 93 #[.agg #[.int .i64 t.f0, .slice A t.f1.length c, .int .i64 t.f2, .int .i64 t.f3], .int .i64 n] w fun e w' => e = .returned (.bool b) ∧ Below w.heap.size w w' :=
 (validTask_calls t A c n hn0 hn w hC).mono fun e w' ⟨he, hw⟩ => ⟨by rw [he, h.out], hw⟩
def tasksFineB (g : List Tk) : Bool := g.all (taskFineB g.length) && decide (g.length ≤ 8)
set_option maxRecDepth 100000 in
set_option maxHeartbeats 2000000 in
theorem tasksFine_calls (A : Option Addr) (c : Nat) (g : List Tk) (w : World) (hr : kTk.C w A g.length g) :
  Calls Tryd.prog 82 #[.slice A g.length c] w fun e w' => e = .returned (.bool (tasksFineB g)) ∧ Below w.heap.size w w' := by
 have hl := (C_len hr).2
 have HR := Lib.hid hr
 clear hr
 go_enter Tryd.func82, Tryd.ntmps82
 go_wp2
 go_loopw [3] (fun i wr => ∃ (k : Nat), k ≤ g.length ∧ i = .int .i64 k ∧ Hid (∀ j, j < k → taskFineB g.length (g.getD j zTk) = true) ∧ Below w.heap.size w wr) (fun i _ => g.length - (intOf i).toNat)
 case atStart => exact ⟨0, Nat.zero_le _, rfl, Lib.hid fun j h => absurd h (Nat.not_lt_zero _), Below.refl _ _⟩
 case round =>
  obtain ⟨k, hk, rfl, HS, HB⟩ := hrel
  by_cases hlt : k < g.length
  ·
   obtain ⟨ad, A1, c1, rfl, hc0, hc1, hc2, hc3, hl1, hC1⟩ := at_Tk (Kd.C_below HR.out HB) k hlt
   cases hb : taskFineB g.length (rdTk g k)
   ·
    have HX := Lib.hid hb
    have HF : Hid (tasksFineB g = false) := Lib.hid (by unfold tasksFineB; rw [all_not (p := taskFineB g.length) zTk hlt hb]; rfl)
    clear hb
    generalize rdTk g k = t at *
    go_wp2_with (go_at_call 93; refine (validTask_is _ t _ _ _ HX (by omega) (by omega) _ hC1).mono ?_; rintro e w1 ⟨rfl, hB1⟩)
    go_ret
    exact ⟨ret_bool HF.out.symm, below_step HB hB1⟩
   ·
    have HX := Lib.hid hb
    have HN := step_lt HS hb
    clear hb
    generalize rdTk g k = t at *
    go_wp2_with (go_at_call 93; refine (validTask_is _ t _ _ _ HX (by omega) (by omega) _ hC1).mono ?_; rintro e w1 ⟨rfl, hB1⟩)
    go_roundw
    case rel => exact ⟨k + 1, by omega, by go_num, HN, below_step HB hB1⟩
    case measure => simp [intOf]; omega
  ·
   have HF : Hid (tasksFineB g = decide (g.length ≤ 8)) := Lib.hid (by unfold tasksFineB; rw [all_take (p := taskFineB g.length) (l := g) zTk fun j hj => HS.out j (by omega)]; rfl)
   go_wp2
   go_ret
   exact ⟨ret_bool (by rw [HF.out, decide_eq_decide]; omega), HB⟩
theorem tasksFine_is (b : Bool) (A : Option Addr) (c : Nat) (g : List Tk) (h : Hid (tasksFineB g = b)) (w : World) (hr : kTk.C w A g.length g) :
  Calls Tryd.prog 82 #[.slice A g.length c] w fun e w' => e = .returned (.bool b) ∧ Below w.heap.size w w' :=
 (tasksFine_calls A c g w hr).mono fun e w' ⟨he, hw⟩ => ⟨by rw [he, h.out], hw⟩
end Go.Proofs.YtlcdffhhimbbmaaDoor
