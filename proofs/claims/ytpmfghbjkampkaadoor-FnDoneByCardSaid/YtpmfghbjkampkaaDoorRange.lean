/- One law for 'for i := range s.all() { .. }' in a plain walk, and what the loops' invariants abide. -/
import Derived.Test.YtpmfghbjkampkaaDoorIter
import Derived.Test.YtpmfghbjkampkaaDoorQW
namespace Go.Proofs.YtpmfghbjkampkaaDoor
set_option linter.unusedVariables false
set_option linter.unusedSimpArgs false
open Go.RowKit Go.Shelf Bits
open Go.Proofs.YtpmfghbjkampkaaDoorW.PrintWords Go.Proofs.YtpmfghbjkampkaaDoorW.PrintLast Go.Proofs.YtpmfghbjkampkaaDoorW.PrintMore
def mk (Ds : List Nat) : List Deferred := Ds.map fun D => { target := .collected D, args := #[] }
def Marks (Ds : List Nat) (w : World) : Prop := Ds.Nodup ∧ ∀ D ∈ Ds, w.heap[D]? = some (.deferred (some []))
theorem Marks.nil (w : World) : Marks [] w := ⟨List.nodup_nil, fun d h => by cases h⟩
theorem Marks.lt {Ds : List Nat} {w : World} (h : Marks Ds w) : ∀ D ∈ Ds, D < w.heap.size := fun D hD => (Array.getElem?_eq_some_iff.1 (h.2 D hD)).1
theorem Marks.cons {Ds : List Nat} {w : World} {D : Nat} (h : Marks Ds w) (hD : w.heap[D]? = some (.deferred (some []))) (hlt : ∀ E ∈ Ds, E < D) : Marks (D :: Ds) w := by
 refine ⟨List.nodup_cons.2 ⟨fun hm => by have := hlt D hm; omega, h.1⟩, fun E hE => ?_⟩
 rcases List.mem_cons.1 hE with rfl | hE
 ·
  exact hD
 ·
  exact h.2 E hE
theorem Marks.move {Ds : List Nat} {w w' : World} (h : Marks Ds w) (hm : ∀ k, k < w.heap.size → ∀ o : Obj, w.heap[k]? = some o → o.isCells = false → w'.heap[k]? = some o) : Marks Ds w' :=
 ⟨h.1, fun D hD => hm D (h.lt D hD) _ (h.2 D hD) rfl⟩
theorem Marks.alloc {Ds : List Nat} {w : World} (h : Marks Ds w) (o : Obj) : Marks Ds (w.alloc o) := ⟨h.1, fun D hD => (Below.heap_alloc w o D (h.lt D hD)).trans (h.2 D hD)⟩
theorem Marks.below {Ds : List Nat} {w w' : World} (h : Marks Ds w) (hb : Below w.heap.size w w') : Marks Ds w' := ⟨h.1, fun D hD => (hb.block D (h.lt D hD)).trans (h.2 D hD)⟩
structure Shut (B : Nat) (w w' : World) : Prop where
 os : w'.os = w.os
 tape : w'.tape = w.tape
 output : w'.output = w.output
 size : w'.heap.size = w.heap.size
 block : ∀ k, k < B → w'.heap[k]? = w.heap[k]?
 cells : ∀ (k : Nat) (o : Obj), w.heap[k]? = some o → o.isCells = true → w'.heap[k]? = some o
theorem Shut.refl (B : Nat) (w : World) : Shut B w w := ⟨rfl, rfl, rfl, rfl, fun _ _ => rfl, fun _ _ h _ => h⟩
theorem Shut.trans {B : Nat} {a b c : World} (h : Shut B a b) (k : Shut B b c) : Shut B a c :=
 ⟨k.os.trans h.os, k.tape.trans h.tape, k.output.trans h.output, k.size.trans h.size, fun i hi => (k.block i hi).trans (h.block i hi), fun i o ho hc => k.cells i o (h.cells i o ho hc) hc⟩
theorem Shut.put {B : Nat} {w : World} {D : Nat} (hD : w.heap[D]? = some (.deferred (some []))) (hB : B ≤ D) : Shut B w (w.putObj D (.deferred none)) := by
 have hg := grownBy_putObj' w D (.deferred none)
 refine ⟨rfl, rfl, rfl, by simp [World.putObj], fun k hk => hg.block k (by have := (Array.getElem?_eq_some_iff.1 hD).1; omega) (fun e => by cases e; omega), fun k o ho hc => ?_⟩
 by_cases e : k = D
 ·
  subst e
  rw [ho] at hD
  cases hD
  cases hc
 ·
  exact (hg.block k (Array.getElem?_eq_some_iff.1 ho).1 (fun e' => e (Option.some.inj e'))).trans ho
theorem Shut.below {B : Nat} {w w' : World} (h : Shut B w w') : Below B w w' := ⟨h.os, h.tape, h.output, Nat.le_of_eq h.size.symm, h.block⟩
theorem Shut.R {α : Type} {d : Kd α} {e : Nat} {w w1 : World} {B base : Nat} {ok : Nat → Prop} {v : Value} {xs : List α} (hs : Shut B w w1) (h : d.R e w base ok v xs) : d.R e w1 base ok v xs := by
 refine Kd.R_mono (Kd.R_move (Kd.R_bound h) fun k hk => ?_) (fun k hk => hk.1)
 obtain ⟨_, _, _, q, _, cells, hc⟩ := hk
 rw [hs.cells k _ hc rfl, hc]
theorem leave_marks {P : Program} {fn : Func} {tmps : Array Value} {R : Ending → World → Prop} {B : Nat} {v : Value} : ∀ (Ds : List Nat) (w : World), Marks Ds w → (∀ D ∈ Ds, B ≤ D) →
  (∀ w', Shut B w w' → (results fn tmps).run P w' = .ok v w' ∧ R (.returned v) w') → LeavesInM Fence.wide 9 P fn tmps R (mk Ds) .returning w
 | [], w, _, _, h => by
  obtain ⟨h1, h2⟩ := h w (Shut.refl _ _)
  exact ⟨_, h1, h2⟩
 | D :: Ds, w, hm, hB, h => by
  have hD := hm.2 D (List.mem_cons_self ..)
  have hsh := Shut.put hD (hB D (List.mem_cons_self ..))
  refine ⟨by simp, .inl ⟨_, _, rfl, run_takeDeferred hD, ?_⟩⟩
  refine leave_marks Ds _ ⟨(List.nodup_cons.1 hm.1).2, fun E hE => ?_⟩ (fun E hE => hB E (List.mem_cons_of_mem _ hE)) (fun w' hs => h w' (hsh.trans hs))
  have hEh := hm.2 E (List.mem_cons_of_mem _ hE)
  refine ((grownBy_putObj' w D (.deferred none)).block E (Array.getElem?_eq_some_iff.1 hEh).1 (fun e => ?_)).trans hEh
  cases e
  exact (List.nodup_cons.1 hm.1).1 hE
def endPost (P : Program) (fn : Func) (R : Ending → World → Prop) : Exit → Act → World → Prop
 | .normal, a, w | .ret, a, w => LeavesInM Fence.wide 9 P fn a.tmps R a.defers .returning w
 | _, _, _ => False
theorem calls_of_wp_marks {P : Program} {f : FuncId} {fn : Func} {c : Code} {args : Array Value} {w : World} {R : Ending → World → Prop}
  (hf : P.funcs[f]? = some fn) (hb : fn.body = some c)
  (h : c.wp P (endPost P fn R) { tmps := args ++ Array.replicate (fn.ntmps - args.size) undef, defers := [] } w) : Calls P f args w R :=
 callsIn_wide.1 (callsIn_of_wp_marks hf hb trivial (wpIn_wide.2 (wp_mono h fun e a w hq => by
  cases e with
  | normal => exact hq
  | ret => exact hq
  | _ => exact hq.elim)))
theorem leave_one {P : Program} {fn : Func} {tmps : Array Value} {R : Ending → World → Prop} {D : Nat} {w : World} {v : Value}
  (hD : w.heap[D]? = some (.deferred (some []))) (hv : (results fn tmps).run P (w.putObj D (.deferred none)) = .ok v (w.putObj D (.deferred none))) (hR : R (.returned v) (w.putObj D (.deferred none))) :
  LeavesInM Fence.wide 9 P fn tmps R [{ target := .collected D, args := #[] }] .returning w := by
 refine ⟨by simp, .inl ⟨_, _, rfl, run_takeDeferred hD, ?_⟩⟩
 exact ⟨_, hv, hR⟩
theorem wp_rangeSet {g : Operand} {p : Tmp} {assign body : Code} {Q : Exit → Act → World → Prop} {a : Act} {w : World} (s Bn n₀ : Nat) (hs : s < 65536)
  (hg : a.eval g = .func (.func 98) #[] #[.pointer (some ⟨Bn, 0, none⟩)]) (hB : Bn < w.heap.size)
  (hc : w.cell? ⟨Bn, 0, none⟩ = some (.int .u16 s)) (hT : Tab w) (hn : n₀ ≤ w.heap.size) (htab : 0 < n₀)
  (I : List (El s) → World → Prop) (Ix : Code → List (El s) → World → Prop) (hI : OwnFrom w.heap.size I) (hIx : ∀ c, OwnFrom w.heap.size (Ix c)) (h0 : I [] w)
  (Ax : El s → Act → World → Prop) (hAx : ∀ x a', OwnFrom w.heap.size (fun (_ : Unit) W => Ax x a' W))
  (hassign : ∀ (l : Nat) (pre : List (El s)) (x : El s) (W : World) (K : Act → World → Prop), I pre W → (∀ a' W', KeepsFrom w.heap.size W W' → Below n₀ W W' → I pre W' → Ax x a' W' → K a' W') →
   assign.wpIn (Fence.wide.inRound l) 7 Tryd.prog (Exit.then K (fun _ _ _ => False)) { tmps := a.tmps.setIfInBounds p (.int .i64 (x.1 : Nat)), defers := [] } W)
  (hbody : ∀ (l : Nat) (pre : List (El s)) (x : El s) (a' : Act) (W : World), w.heap.size ≤ l → (∃ r, W.heap[l]? = some (.loop r)) → I pre W → Ax x a' W → pre.length < (elems s).length → body.wpIn (Fence.wide.inRound l) 7 Tryd.prog (ownPostG w.heap.size (Below n₀) I Ix (pre ++ [x]) W) a' W)
  (hdone : ∀ (D : Nat) (xs : List (El s)) (W : World), w.heap.size ≤ D → xs.map (·.1) = elems s → I xs W → W.heap[D]? = some (.deferred (some [])) → Q .normal { a with defers := { target := .collected D, args := #[] } :: a.defers } W)
  (hstop : ∀ (D : Nat) (c : Code) (pre : List (El s)) (W : World), w.heap.size ≤ D → pre.map (·.1) <+: elems s → Ix c pre W → W.heap[D]? = some (.deferred (some [])) → c.wp Tryd.prog Q { a with defers := { target := .collected D, args := #[] } :: a.defers } W) :
  (Code.rangeFunc g #[p] assign body).wp Tryd.prog Q a w := by
 refine (wpIn_wide (n := 9)).1 (wpIn_rangeFunc_ownH (F := Fence.wide) rfl (by omega) hg trivial (enters_of Tryd.func98 (by kernel_rfl) rfl)
  (all_stops 8 (by omega) Bn n₀ s hs w hB hc hT htab) belowK_t (belowK_b hn) (Below.refl _ _) (fun _ => rfl) I Ix hI hIx h0 Ax hAx ?_ hbody hdone ?_)
 ·
  intro l pre x W K hi hK
  simpa using hassign l pre x W K hi hK
 ·
  intro D c pre W h1 h2 h3 h4
  exact wpIn_wide.2 (hstop D c pre W h1 h2 h3 h4)
theorem wp_rangeSet1 {g : Operand} {p : Tmp} {assign body : Code} {Q : Exit → Act → World → Prop} {a : Act} {w : World} (s Bn n₀ : Nat) (hs : s < 65536)
  (hg : a.eval g = .func (.func 98) #[] #[.pointer (some ⟨Bn, 0, none⟩)]) (hB : Bn < w.heap.size)
  (hc : w.cell? ⟨Bn, 0, none⟩ = some (.int .u16 s)) (hT : Tab w) (hn : n₀ ≤ w.heap.size) (htab : 0 < n₀)
  (I : List (El s) → World → Prop) (Ix : Code → List (El s) → World → Prop) (hI : OwnFrom w.heap.size I) (hIx : ∀ c, OwnFrom w.heap.size (Ix c)) (h0 : I [] w)
  (a₁ : El s → Act)
  (hassign : ∀ (l : Nat) (x : El s) (W : World) (K : Act → World → Prop), K (a₁ x) W →
   assign.wpIn (Fence.wide.inRound l) 7 Tryd.prog (Exit.then K (fun _ _ _ => False)) { tmps := a.tmps.setIfInBounds p (.int .i64 (x.1 : Nat)), defers := [] } W)
  (hbody : ∀ (l : Nat) (pre : List (El s)) (x : El s) (W : World), I pre W → pre.length < (elems s).length → body.wpIn (Fence.wide.inRound l) 7 Tryd.prog (ownPostG w.heap.size (Below n₀) I Ix (pre ++ [x]) W) (a₁ x) W)
  (hdone : ∀ (D : Nat) (xs : List (El s)) (W : World), w.heap.size ≤ D → xs.map (·.1) = elems s → I xs W → W.heap[D]? = some (.deferred (some [])) → Q .normal { a with defers := { target := .collected D, args := #[] } :: a.defers } W)
  (hstop : ∀ (D : Nat) (c : Code) (pre : List (El s)) (W : World), w.heap.size ≤ D → pre.map (·.1) <+: elems s → Ix c pre W → W.heap[D]? = some (.deferred (some [])) → c.wp Tryd.prog Q { a with defers := { target := .collected D, args := #[] } :: a.defers } W) :
  (Code.rangeFunc g #[p] assign body).wp Tryd.prog Q a w :=
 wp_rangeSet s Bn n₀ hs hg hB hc hT hn htab I Ix hI hIx h0 (fun x a' _ => a' = a₁ x) (fun _ _ => ownFrom_pure _ _)
  (fun l pre x W K hi hK => hassign l x W K (hK _ _ (KeepsFrom.refl _ _) (Below.refl _ _) hi rfl))
  (fun l pre x a' W _ _ hi ha hlt => by subst ha; exact hbody l pre x W hi hlt) hdone hstop
theorem R_grownNC {α : Type} {d : Kd α} {e : Nat} {w w1 : World} {base : Nat} {ok : Nat → Prop} {v : Value} {xs : List α} (h : d.R e w base ok v xs) {row : Option Nat} (hg : w.grownBy w1 row)
  (hr : ∀ r, row = some r → ∃ o : Obj, w.heap[r]? = some o ∧ o.isCells = false) : d.R e w1 base ok v xs := by
 refine Kd.R_mono (Kd.R_grown (Kd.R_bound h) hg fun k hk he => ?_) (fun k hk => hk.1)
 obtain ⟨_, _, _, q, _, cells, hc⟩ := hk
 obtain ⟨o, ho, hn⟩ := hr k he.symm
 rw [hc] at ho
 cases ho
 cases hn
theorem R_own_from {α β : Type} (d : Kd α) (e : Nat) (base : Nat) (ok : Nat → Prop) (v : β → Value) (xs : β → List α) (B : Nat) : OwnFrom B (fun s W => d.R e W base ok (v s) (xs s)) :=
 fun _ _ _ _ hs hg hr => R_grownNC hs hg (fun r e => (hr r e).2)
theorem OwnFrom.ex {β γ : Type} {B : Nat} {I : γ → β → World → Prop} (h : ∀ g, OwnFrom B (I g)) : OwnFrom B (fun s W => ∃ g, I g s W) :=
 fun s W W' row ⟨g, hs⟩ hg hr => ⟨g, h g s W W' row hs hg hr⟩
theorem ownFrom_marks {β : Type} (B : Nat) (Ds : List Nat) (hlt : ∀ D ∈ Ds, D < B) : OwnFrom B (fun (_ : β) W => Marks Ds W) :=
 fun s W W' row hs hg hr => ⟨hs.1, fun D hD => (hg.block D (hs.lt D hD) (fun e => by
  have := (hr D e.symm).1
  have := hlt D hD
  omega)).trans (hs.2 D hD)⟩
theorem ownFrom_cells {β : Type} (B b : Nat) (cs : β → Array Value) (t : TypeId) : OwnFrom B (fun s W => W.heap[b]? = some (.cells (cs s) t (0, 0))) :=
 fun s W W' row hs hg hr => (hg.block b (Array.getElem?_eq_some_iff.1 hs).1 (fun e => by
  obtain ⟨_, o, ho, hn⟩ := hr b e.symm
  rw [hs] at ho
  cases ho
  cases hn)).trans hs
theorem arr_of_size (t : Array Value) (n : Nat) (h : t.size = n) : t = ((List.range n).map fun i => t.getD i undef).toArray := by
 apply Array.ext
 ·
  simp [h]
 ·
  intro i h1 h2
  simp [h1]
end Go.Proofs.YtpmfghbjkampkaaDoor
