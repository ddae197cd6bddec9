/- Parts of the proof, laid as one text by a program of mine. -/
import Derived.Test.YtkljcdghbefceaaGreatDoorKbtc0
import Derived.Test.YtkljcdghbefceaaGreatDoorKbtc1
import Derived.BigGuard
import Derived.StillTailTactics
import Derived.OrdersIn
namespace Go.Proofs.YtkljcdghbefceaaGreatDoor
set_option linter.unusedVariables false
set_option linter.unusedSimpArgs false
open Go.RowKit Go.Shelf Bits
open Go.Proofs.YtkljcdghbefceaaGreatDoorW.PrintWords Go.Proofs.YtkljcdghbefceaaGreatDoorW.PrintLast Go.Proofs.YtkljcdghbefceaaGreatDoorW.PrintMore
def mk (Ds : List Nat) : List Deferred := Ds.map fun D => { target := .collected D, args := #[] }
def Marks (Ds : List Nat) (w : World) : Prop := Ds.Nodup ∧ ∀ D ∈ Ds, w.heap[D]? = some (.deferred (some []))
theorem Marks.nil (w : World) : Marks [] w := ⟨List.nodup_nil, fun d h => by cases h⟩
theorem Marks.lt {Ds : List Nat} {w : World} (h : Marks Ds w) : ∀ D ∈ Ds, D < w.heap.size := fun D hD => (Array.getElem?_eq_some_iff.1 (h.2 D hD)).1
theorem Marks.cons {Ds : List Nat} {w : World} {D : Nat} (h : Marks Ds w) (hD : w.heap[D]? = some (.deferred (some []))) (hlt : ∀ E ∈ Ds, E < D) : Marks (D :: Ds) w := by
 refine ⟨List.nodup_cons.2 ⟨fun hm => by have := hlt D hm; omega, h.1⟩, fun E hE => ?_⟩
 rcases List.mem_cons.1 hE with rfl | hE
 ·
  exact hD
 ·
  exact h.2 E hE
theorem Marks.move {Ds : List Nat} {w w' : World} (h : Marks Ds w) (hm : ∀ k, k < w.heap.size → ∀ o : Obj, w.heap[k]? = some o → o.isCells = false → w'.heap[k]? = some o) : Marks Ds w' :=
 ⟨h.1, fun D hD => hm D (h.lt D hD) _ (h.2 D hD) rfl⟩
theorem Marks.alloc {Ds : List Nat} {w : World} (h : Marks Ds w) (o : Obj) : Marks Ds (w.alloc o) := ⟨h.1, fun D hD => (Below.heap_alloc w o D (h.lt D hD)).trans (h.2 D hD)⟩
theorem Marks.below {Ds : List Nat} {w w' : World} (h : Marks Ds w) (hb : Below w.heap.size w w') : Marks Ds w' := ⟨h.1, fun D hD => (hb.block D (h.lt D hD)).trans (h.2 D hD)⟩
structure Shut (B : Nat) (w w' : World) : Prop where
 os : w'.os = w.os
 tape : w'.tape = w.tape
 output : w'.output = w.output
 size : w'.heap.size = w.heap.size
 block : ∀ k, k < B → w'.heap[k]? = w.heap[k]?
 cells : ∀ (k : Nat) (o : Obj), w.heap[k]? = some o → o.isCells = true → w'.heap[k]? = some o
theorem Shut.refl (B : Nat) (w : World) : Shut B w w := ⟨rfl, rfl, rfl, rfl, fun _ _ => rfl, fun _ _ h _ => h⟩
theorem Shut.trans {B : Nat} {a b c : World} (h : Shut B a b) (k : Shut B b c) : Shut B a c :=
 ⟨k.os.trans h.os, k.tape.trans h.tape, k.output.trans h.output, k.size.trans h.size, fun i hi => (k.block i hi).trans (h.block i hi), fun i o ho hc => k.cells i o (h.cells i o ho hc) hc⟩
theorem Shut.put {B : Nat} {w : World} {D : Nat} (hD : w.heap[D]? = some (.deferred (some []))) (hB : B ≤ D) : Shut B w (w.putObj D (.deferred none)) := by
 have hg := grownBy_putObj' w D (.deferred none)
 refine ⟨rfl, rfl, rfl, by simp [World.putObj], fun k hk => hg.block k (by have := (Array.getElem?_eq_some_iff.1 hD).1; omega) (fun e => by cases e; omega), fun k o ho hc => ?_⟩
 by_cases e : k = D
 ·
  subst e
  rw [ho] at hD
  cases hD
  cases hc
 ·
  exact (hg.block k (Array.getElem?_eq_some_iff.1 ho).1 (fun e' => e (Option.some.inj e'))).trans ho
theorem Shut.below {B : Nat} {w w' : World} (h : Shut B w w') : Below B w w' := ⟨h.os, h.tape, h.output, Nat.le_of_eq h.size.symm, h.block⟩
theorem Shut.R {α : Type} {d : Kd α} {e : Nat} {w w1 : World} {B base : Nat} {ok : Nat → Prop} {v : Value} {xs : List α} (hs : Shut B w w1) (h : d.R e w base ok v xs) : d.R e w1 base ok v xs := by
 refine Kd.R_mono (Kd.R_move (Kd.R_bound h) fun k hk => ?_) (fun k hk => hk.1)
 obtain ⟨_, _, _, q, _, cells, hc⟩ := hk
 rw [hs.cells k _ hc rfl, hc]
theorem leave_marks {P : Program} {fn : Func} {tmps : Array Value} {R : Ending → World → Prop} {B : Nat} {v : Value} : ∀ (Ds : List Nat) (w : World), Marks Ds w → (∀ D ∈ Ds, B ≤ D) →
  (∀ w', Shut B w w' → (results fn tmps).run P w' = .ok v w' ∧ R (.returned v) w') → LeavesInM Fence.wide 9 P fn tmps R (mk Ds) .returning w
 | [], w, _, _, h => by
  obtain ⟨h1, h2⟩ := h w (Shut.refl _ _)
  exact ⟨_, h1, h2⟩
 | D :: Ds, w, hm, hB, h => by
  have hD := hm.2 D (List.mem_cons_self ..)
  have hsh := Shut.put hD (hB D (List.mem_cons_self ..))
  refine ⟨by simp, .inl ⟨_, _, rfl, run_takeDeferred hD, ?_⟩⟩
  refine leave_marks Ds _ ⟨(List.nodup_cons.1 hm.1).2, fun E hE => ?_⟩ (fun E hE => hB E (List.mem_cons_of_mem _ hE)) (fun w' hs => h w' (hsh.trans hs))
  have hEh := hm.2 E (List.mem_cons_of_mem _ hE)
  refine ((grownBy_putObj' w D (.deferred none)).block E (Array.getElem?_eq_some_iff.1 hEh).1 (fun e => ?_)).trans hEh
  cases e
  exact (List.nodup_cons.1 hm.1).1 hE
def endPost (P : Program) (fn : Func) (R : Ending → World → Prop) : Exit → Act → World → Prop
 | .normal, a, w | .ret, a, w => LeavesInM Fence.wide 9 P fn a.tmps R a.defers .returning w
 | _, _, _ => False
theorem calls_of_wp_marks {P : Program} {f : FuncId} {fn : Func} {c : Code} {args : Array Value} {w : World} {R : Ending → World → Prop}
  (hf : P.funcs[f]? = some fn) (hb : fn.body = some c)
  (h : c.wp P (endPost P fn R) { tmps := args ++ Array.replicate (fn.ntmps - args.size) undef, defers := [] } w) : Calls P f args w R :=
 callsIn_wide.1 (callsIn_of_wp_marks hf hb trivial (wpIn_wide.2 (wp_mono h fun e a w hq => by
  cases e with
  | normal => exact hq
  | ret => exact hq
  | _ => exact hq.elim)))
theorem leave_one {P : Program} {fn : Func} {tmps : Array Value} {R : Ending → World → Prop} {D : Nat} {w : World} {v : Value}
  (hD : w.heap[D]? = some (.deferred (some []))) (hv : (results fn tmps).run P (w.putObj D (.deferred none)) = .ok v (w.putObj D (.deferred none))) (hR : R (.returned v) (w.putObj D (.deferred none))) :
  LeavesInM Fence.wide 9 P fn tmps R [{ target := .collected D, args := #[] }] .returning w := by
 refine ⟨by simp, .inl ⟨_, _, rfl, run_takeDeferred hD, ?_⟩⟩
 exact ⟨_, hv, hR⟩
theorem wp_rangeSet {g : Operand} {p : Tmp} {assign body : Code} {Q : Exit → Act → World → Prop} {a : Act} {w : World} (s Bn n₀ : Nat) (hs : s < 65536)
  (hg : a.eval g = .func (.func 74) #[] #[.pointer (some ⟨Bn, 0, none⟩)]) (hB : Bn < w.heap.size)
  (hc : w.cell? ⟨Bn, 0, none⟩ = some (.int .u16 s)) (hT : Tab w) (hn : n₀ ≤ w.heap.size) (htab : 0 < n₀)
  (I : List (El s) → World → Prop) (Ix : Code → List (El s) → World → Prop) (hI : OwnFrom w.heap.size I) (hIx : ∀ c, OwnFrom w.heap.size (Ix c)) (h0 : I [] w)
  (Ax : El s → Act → World → Prop) (hAx : ∀ x a', OwnFrom w.heap.size (fun (_ : Unit) W => Ax x a' W))
  (hassign : ∀ (l : Nat) (pre : List (El s)) (x : El s) (W : World) (K : Act → World → Prop), I pre W → (∀ a' W', KeepsFrom w.heap.size W W' → Below n₀ W W' → I pre W' → Ax x a' W' → K a' W') →
   assign.wpIn (Fence.wide.inRound l) 7 Tryz.prog (Exit.then K (fun _ _ _ => False)) { tmps := a.tmps.setIfInBounds p (.int .i64 (x.1 : Nat)), defers := [] } W)
  (hbody : ∀ (l : Nat) (pre : List (El s)) (x : El s) (a' : Act) (W : World), w.heap.size ≤ l → (∃ r, W.heap[l]? = some (.loop r)) → I pre W → Ax x a' W → pre.length < (elems s).length → body.wpIn (Fence.wide.inRound l) 7 Tryz.prog (ownPostG w.heap.size (Below n₀) I Ix (pre ++ [x]) W) a' W)
  (hdone : ∀ (D : Nat) (xs : List (El s)) (W : World), w.heap.size ≤ D → xs.map (·.1) = elems s → I xs W → W.heap[D]? = some (.deferred (some [])) → Q .normal { a with defers := { target := .collected D, args := #[] } :: a.defers } W)
  (hstop : ∀ (D : Nat) (c : Code) (pre : List (El s)) (W : World), w.heap.size ≤ D → pre.map (·.1) <+: elems s → Ix c pre W → W.heap[D]? = some (.deferred (some [])) → c.wp Tryz.prog Q { a with defers := { target := .collected D, args := #[] } :: a.defers } W) :
  (Code.rangeFunc g #[p] assign body).wp Tryz.prog Q a w := by
 refine (wpIn_wide (n := 9)).1 (wpIn_rangeFunc_ownH (F := Fence.wide) rfl (by omega) hg trivial (enters_of Tryz.func74 (by kernel_rfl) rfl)
  (all_stops 8 (by omega) Bn n₀ s hs w hB hc hT htab) belowK_t (belowK_b hn) (Below.refl _ _) (fun _ => rfl) I Ix hI hIx h0 Ax hAx ?_ hbody hdone ?_)
 ·
  intro l pre x W K hi hK
  simpa using hassign l pre x W K hi hK
 ·
  intro D c pre W h1 h2 h3 h4
  exact wpIn_wide.2 (hstop D c pre W h1 h2 h3 h4)
theorem wp_rangeSet1 {g : Operand} {p : Tmp} {assign body : Code} {Q : Exit → Act → World → Prop} {a : Act} {w : World} (s Bn n₀ : Nat) (hs : s < 65536)
  (hg : a.eval g = .func (.func 74) #[] #[.pointer (some ⟨Bn, 0, none⟩)]) (hB : Bn < w.heap.size)
  (hc : w.cell? ⟨Bn, 0, none⟩ = some (.int .u16 s)) (hT : Tab w) (hn : n₀ ≤ w.heap.size) (htab : 0 < n₀)
  (I : List (El s) → World → Prop) (Ix : Code → List (El s) → World → Prop) (hI : OwnFrom w.heap.size I) (hIx : ∀ c, OwnFrom w.heap.size (Ix c)) (h0 : I [] w)
  (a₁ : El s → Act)
  (hassign : ∀ (l : Nat) (x : El s) (W : World) (K : Act → World → Prop), K (a₁ x) W →
   assign.wpIn (Fence.wide.inRound l) 7 Tryz.prog (Exit.then K (fun _ _ _ => False)) { tmps := a.tmps.setIfInBounds p (.int .i64 (x.1 : Nat)), defers := [] } W)
  (hbody : ∀ (l : Nat) (pre : List (El s)) (x : El s) (W : World), I pre W → pre.length < (elems s).length → body.wpIn (Fence.wide.inRound l) 7 Tryz.prog (ownPostG w.heap.size (Below n₀) I Ix (pre ++ [x]) W) (a₁ x) W)
  (hdone : ∀ (D : Nat) (xs : List (El s)) (W : World), w.heap.size ≤ D → xs.map (·.1) = elems s → I xs W → W.heap[D]? = some (.deferred (some [])) → Q .normal { a with defers := { target := .collected D, args := #[] } :: a.defers } W)
  (hstop : ∀ (D : Nat) (c : Code) (pre : List (El s)) (W : World), w.heap.size ≤ D → pre.map (·.1) <+: elems s → Ix c pre W → W.heap[D]? = some (.deferred (some [])) → c.wp Tryz.prog Q { a with defers := { target := .collected D, args := #[] } :: a.defers } W) :
  (Code.rangeFunc g #[p] assign body).wp Tryz.prog Q a w :=
 wp_rangeSet s Bn n₀ hs hg hB hc hT hn htab I Ix hI hIx h0 (fun x a' _ => a' = a₁ x) (fun _ _ => ownFrom_pure _ _)
  (fun l pre x W K hi hK => hassign l x W K (hK _ _ (KeepsFrom.refl _ _) (Below.refl _ _) hi rfl))
  (fun l pre x a' W _ _ hi ha hlt => by subst ha; exact hbody l pre x W hi hlt) hdone hstop
theorem R_grownNC {α : Type} {d : Kd α} {e : Nat} {w w1 : World} {base : Nat} {ok : Nat → Prop} {v : Value} {xs : List α} (h : d.R e w base ok v xs) {row : Option Nat} (hg : w.grownBy w1 row)
  (hr : ∀ r, row = some r → ∃ o : Obj, w.heap[r]? = some o ∧ o.isCells = false) : d.R e w1 base ok v xs := by
 refine Kd.R_mono (Kd.R_grown (Kd.R_bound h) hg fun k hk he => ?_) (fun k hk => hk.1)
 obtain ⟨_, _, _, q, _, cells, hc⟩ := hk
 obtain ⟨o, ho, hn⟩ := hr k he.symm
 rw [hc] at ho
 cases ho
 cases hn
theorem R_own_from {α β : Type} (d : Kd α) (e : Nat) (base : Nat) (ok : Nat → Prop) (v : β → Value) (xs : β → List α) (B : Nat) : OwnFrom B (fun s W => d.R e W base ok (v s) (xs s)) :=
 fun _ _ _ _ hs hg hr => R_grownNC hs hg (fun r e => (hr r e).2)
theorem OwnFrom.ex {β γ : Type} {B : Nat} {I : γ → β → World → Prop} (h : ∀ g, OwnFrom B (I g)) : OwnFrom B (fun s W => ∃ g, I g s W) :=
 fun s W W' row ⟨g, hs⟩ hg hr => ⟨g, h g s W W' row hs hg hr⟩
theorem ownFrom_marks {β : Type} (B : Nat) (Ds : List Nat) (hlt : ∀ D ∈ Ds, D < B) : OwnFrom B (fun (_ : β) W => Marks Ds W) :=
 fun s W W' row hs hg hr => ⟨hs.1, fun D hD => (hg.block D (hs.lt D hD) (fun e => by
  have := (hr D e.symm).1
  have := hlt D hD
  omega)).trans (hs.2 D hD)⟩
theorem ownFrom_cells {β : Type} (B b : Nat) (cs : β → Array Value) (t : TypeId) : OwnFrom B (fun s W => W.heap[b]? = some (.cells (cs s) t (0, 0))) :=
 fun s W W' row hs hg hr => (hg.block b (Array.getElem?_eq_some_iff.1 hs).1 (fun e => by
  obtain ⟨_, o, ho, hn⟩ := hr b e.symm
  rw [hs] at ho
  cases ho
  cases hn)).trans hs
theorem arr_of_size (t : Array Value) (n : Nat) (h : t.size = n) : t = ((List.range n).map fun i => t.getD i undef).toArray := by
 apply Array.ext
 ·
  simp [h]
 ·
  intro i h1 h2
  simp [h1]
end Go.Proofs.YtkljcdghbefceaaGreatDoor

namespace Go.Proofs.YtkljcdghbefceaaGreatDoor
set_option linter.unusedVariables false
set_option linter.unusedSimpArgs false
open Go.RowKit Go.Shelf Bits
open Go.Proofs.YtkljcdghbefceaaGreatDoorW.PrintWords Go.Proofs.YtkljcdghbefceaaGreatDoorW.PrintLast Go.Proofs.YtkljcdghbefceaaGreatDoorW.PrintMore
theorem infoInt : (Tryz.prog.info? 3).map (fun i => (i.zero, i.size, i.bytes)) = some (some (.int .i64 0), 1, 8) := by kernel_rfl
theorem infoSet : (Tryz.prog.info? 46).map (fun i => (i.zero, i.size, i.bytes)) = some (some (.int .u16 0), 1, 2) := by kernel_rfl
theorem infoTask : (Tryz.prog.info? 63).map (fun i => (i.zero, i.size, i.bytes)) = some (some (.agg #[(.int .i64 0), (.slice none 0 0), (.int .i64 0), (.int .i64 0)]), 4, 48) := by kernel_rfl
structure Tk where
 f0 : Int
 f1 : List Int
 f2 : Int
 f3 : Int
def zTk : Tk := ⟨0, [], 0, 0⟩
def kTk : Kd Tk := Kd.iso (Kd.pair (Kd.int .i64) (Kd.pair (Kd.slice 3 (Kd.int .i64)) (Kd.pair (Kd.int .i64) (Kd.int .i64)))) (fun x : Tk => (x.f0, x.f1, x.f2, x.f3))
theorem kTk_open {w : World} {x : Tk} {cs : List Value} (h : kTk.K w x cs) : ∃ A1 c1, cs = [.int .i64 x.f0, .slice A1 x.f1.length c1, .int .i64 x.f2, .int .i64 x.f3] ∧ x.f1.length ≤ c1 ∧ (Kd.int .i64).C w A1 x.f1.length x.f1 := by
 obtain ⟨_, _, rfl, rfl, ⟨_, _, rfl, ⟨A1, c1, rfl, l1, g1⟩, ⟨_, _, rfl, rfl, rfl⟩⟩⟩ := h
 exact ⟨A1, c1, rfl, l1, g1⟩
theorem kTk_mkM (w : World) (base : Nat) (ok : Nat → Prop) (x : Tk) {v1 : Value} (g1 : (Kd.int .i64).R 3 w base ok v1 x.f1) : kTk.M w base ok x [.int .i64 x.f0, v1, .int .i64 x.f2, .int .i64 x.f3] := ⟨[.int .i64 x.f0], [v1, .int .i64 x.f2, .int .i64 x.f3], rfl, rfl, ⟨[v1], [.int .i64 x.f2, .int .i64 x.f3], rfl, ⟨v1, rfl, g1⟩, ⟨[.int .i64 x.f2], [.int .i64 x.f3], rfl, rfl, rfl⟩⟩⟩
def rdTk (xs : List Tk) (i : Nat) : Tk := xs.getD i zTk
theorem at_Tk {w : World} {A : Option Addr} {n : Nat} {xs : List Tk} (h : Kd.C kTk w A n xs) (i : Nat) (h1 : i < n) : ∃ ad A1 c1, A = some ad ∧ w.cell? (ad.add (i * 4)) = some (.int .i64 (rdTk xs i).f0) ∧ w.cell? ⟨(ad.add (i * 4)).block, (ad.add (i * 4)).off + 1, none⟩ = some (.slice A1 (rdTk xs i).f1.length c1) ∧ w.cell? ⟨(ad.add (i * 4)).block, (ad.add (i * 4)).off + 2, none⟩ = some (.int .i64 (rdTk xs i).f2) ∧ w.cell? ⟨(ad.add (i * 4)).block, (ad.add (i * 4)).off + 3, none⟩ = some (.int .i64 (rdTk xs i).f3) ∧ (rdTk xs i).f1.length ≤ c1 ∧ (Kd.int .i64).C w A1 (rdTk xs i).f1.length (rdTk xs i).f1 := by
 obtain ⟨ad, c, e, _, hK, hc0⟩ := Kd.C_get h zTk (i : Int) (by omega) (by omega)
 have hc : ∀ j u, c[j]? = some u → w.cell? (ad.add (i * 4 + j)) = some u := hc0
 obtain ⟨A1, c1, rfl, l1, g1⟩ := kTk_open hK
 exact ⟨ad, A1, c1, e, hc 0 _ rfl, by rw [← add_field _ _ 1 (by omega)]; exact hc 1 _ rfl, by rw [← add_field _ _ 2 (by omega)]; exact hc 2 _ rfl, by rw [← add_field _ _ 3 (by omega)]; exact hc 3 _ rfl, l1, g1⟩
structure Ev where
 f0 : Int
 f1 : Int
 f2 : Bool
def zEv : Ev := ⟨0, 0, false⟩
def kEv : Kd Ev := Kd.iso (Kd.pair (Kd.int .i64) (Kd.pair (Kd.int .i64) Kd.bool)) (fun x : Ev => (x.f0, x.f1, x.f2))
theorem kEv_open {w : World} {x : Ev} {cs : List Value} (h : kEv.K w x cs) : cs = [.int .i64 x.f0, .int .i64 x.f1, .bool x.f2] := by
 obtain ⟨_, _, rfl, rfl, ⟨_, _, rfl, rfl, rfl⟩⟩ := h
 exact rfl
theorem kEv_mkM (w : World) (base : Nat) (ok : Nat → Prop) (x : Ev) : kEv.M w base ok x [.int .i64 x.f0, .int .i64 x.f1, .bool x.f2] := ⟨[.int .i64 x.f0], [.int .i64 x.f1, .bool x.f2], rfl, rfl, ⟨[.int .i64 x.f1], [.bool x.f2], rfl, rfl, rfl⟩⟩
def rdEv (xs : List Ev) (i : Nat) : Ev := xs.getD i zEv
theorem at_Ev {w : World} {A : Option Addr} {n : Nat} {xs : List Ev} (h : Kd.C kEv w A n xs) (i : Nat) (h1 : i < n) : ∃ ad , A = some ad ∧ w.cell? (ad.add (i * 3)) = some (.int .i64 (rdEv xs i).f0) ∧ w.cell? ⟨(ad.add (i * 3)).block, (ad.add (i * 3)).off + 1, none⟩ = some (.int .i64 (rdEv xs i).f1) ∧ w.cell? ⟨(ad.add (i * 3)).block, (ad.add (i * 3)).off + 2, none⟩ = some (.bool (rdEv xs i).f2) := by
 obtain ⟨ad, c, e, _, hK, hc0⟩ := Kd.C_get h zEv (i : Int) (by omega) (by omega)
 have hc : ∀ j u, c[j]? = some u → w.cell? (ad.add (i * 3 + j)) = some u := hc0
 obtain rfl := kEv_open hK
 exact ⟨ad, e, hc 0 _ rfl, by rw [← add_field _ _ 1 (by omega)]; exact hc 1 _ rfl, by rw [← add_field _ _ 2 (by omega)]; exact hc 2 _ rfl⟩
theorem at_num {w : World} {k : IntKind} {A : Option Addr} {n : Nat} {xs : List Int} (h : (Kd.int k).C w A n xs) (i : Nat) (h1 : i < n) : ∃ ad, A = some ad ∧ w.cell? (ad.add i) = some (.int k (xs.getD i 0)) := by
 obtain ⟨ad, e, hc⟩ := Kd.at_int h (i : Int) (by omega) (by omega)
 exact ⟨ad, e, hc⟩
def ints (xs : List Nat) : List Int := xs.map Int.ofNat
theorem ints_length (xs : List Nat) : (ints xs).length = xs.length := by simp [ints]
theorem ints_getD (xs : List Nat) (i : Nat) : (ints xs).getD i 0 = ((xs.getD i 0 : Nat) : Int) := by
 simp only [ints, List.getD_eq_getElem?_getD, List.getElem?_map]
 cases xs[i]? <;> rfl
theorem at_set {w : World} {k : IntKind} {A : Option Addr} {n : Nat} {xs : List Nat} (h : (Kd.int k).C w A n (ints xs)) (i : Nat) (h1 : i < n) : ∃ ad, A = some ad ∧ w.cell? (ad.add i) = some (.int k ((xs.getD i 0 : Nat) : Int)) := by
 obtain ⟨ad, e, hc⟩ := at_num h i h1
 exact ⟨ad, e, by rw [ints_getD] at hc; exact hc⟩
theorem C_len {α : Type} {d : Kd α} {w : World} {A : Option Addr} {n : Nat} {xs : List α} (h : d.C w A n xs) : xs.length = n ∧ n ≤ 9223372036854775807 := ⟨h.1, h.2.1⟩
section
variable {ops : Array Oper} {o : Oper} {rest : List Oper} {a : Act} {Q : Exit → Act → World → Prop} {w0 W : World}
theorem ap_int (base : Nat) (hgd : o.guard = none) (s x : Operand) (ho : o.op = .call { callee := .builtin .append, args := #[s, x], argTypes := #[24, 24] })
  (v : Value) (xs : List Int) (y : Int) (hs : a.eval s = v) {N : Nat} (hx : a.eval x = .slice (some ⟨N, 0, none⟩) 1 1) (hN : N = W.heap.size)
  (HO : Kd.R (Kd.int .i64) 3 W base (fun _ => True) v xs) (HB : Below base w0 W) (hbase : base ≤ W.heap.size) (hl : xs.length < 1000000)
  (h : ∀ v1 w1, Kd.R (Kd.int .i64) 3 w1 base (fun _ => True) v1 (xs ++ [y]) → Below base w0 w1 → W.grownBy w1 v.ownBlock → (v1.ownBlock = v.ownBlock ∨ ∃ b, v1.ownBlock = some b ∧ W.heap.size ≤ b) → wpList Tryz.prog ops Q rest (a.put o.dst v1) w1) :
  wpList Tryz.prog ops Q (o :: rest) a (W.alloc (.cells #[.int .i64 y] 3)) :=
 print_append_num base hgd s x 24 3 .i64 8 ho Tryz.underlying24 infoInt (by decide) v xs y hs (hN ▸ hx) (Kd.own_of_R HO) HB hbase (by omega)
  fun v1 w1 hown hB hg hat => h v1 w1 (Kd.R_of_own hown (fun _ _ => trivial)) hB hg hat
theorem ap_set (base : Nat) (hgd : o.guard = none) (s x : Operand) (ho : o.op = .call { callee := .builtin .append, args := #[s, x], argTypes := #[75, 75] })
  (v : Value) (xs : List Nat) (y : Nat) (hs : a.eval s = v) {N : Nat} (hx : a.eval x = .slice (some ⟨N, 0, none⟩) 1 1) (hN : N = W.heap.size)
  (HO : Kd.R (Kd.int .u16) 46 W base (fun _ => True) v (ints xs)) (HB : Below base w0 W) (hbase : base ≤ W.heap.size) (hl : xs.length < 1000000)
  (h : ∀ v1 w1, Kd.R (Kd.int .u16) 46 w1 base (fun _ => True) v1 (ints (xs ++ [y])) → Below base w0 w1 → W.grownBy w1 v.ownBlock → (v1.ownBlock = v.ownBlock ∨ ∃ b, v1.ownBlock = some b ∧ W.heap.size ≤ b) → wpList Tryz.prog ops Q rest (a.put o.dst v1) w1) :
  wpList Tryz.prog ops Q (o :: rest) a (W.alloc (.cells #[.int .u16 y] 46)) :=
 print_append_num base hgd s x 75 46 .u16 2 ho Tryz.underlying75 infoSet (by decide) v (ints xs) y hs (hN ▸ hx) (Kd.own_of_R HO) HB hbase (by rw [ints_length]; omega)
  fun v1 w1 hown hB hg hat => h v1 w1 (Kd.R_of_own (by simpa [ints, nums, encs] using hown) (fun _ _ => trivial)) hB hg hat
end
theorem ret_bool {a b : Bool} (h : a = b) : Ending.returned (.bool a) = .returned (.bool b) := by rw [h]
theorem ret_int {k : IntKind} {a b : Int} (h : a = b) : Ending.returned (.int k a) = .returned (.int k b) := by rw [h]
end Go.Proofs.YtkljcdghbefceaaGreatDoor

namespace Go.Proofs.YtkljcdghbefceaaGreatDoor
set_option linter.unusedVariables false
set_option linter.unusedSimpArgs false
open Go.RowKit Go.Shelf Bits
open Go.Proofs.YtkljcdghbefceaaGreatDoorW.PrintWords Go.Proofs.YtkljcdghbefceaaGreatDoorW.PrintLast Go.Proofs.YtkljcdghbefceaaGreatDoorW.PrintMore
def inB (n lo hi : Int) : Bool := decide (lo ≤ n) && decide (n ≤ hi)
theorem inB_true {n lo hi : Int} : inB n lo hi = true ↔ lo ≤ n ∧ n ≤ hi := by simp [inB]
theorem inB_false {n lo hi : Int} : inB n lo hi = false ↔ n < lo ∨ hi < n := by simp [inB]; omega
theorem within_calls (n lo hi : Int) (w : World) : Calls Tryz.prog 39 #[.int .i64 n, .int .i64 lo, .int .i64 hi] w fun e w' => e = .returned (.bool (inB n lo hi)) ∧ w' = w := by
 by_cases h1 : lo ≤ n
 ·
  have d1 : decide (n ≥ lo) = true := by simpa using h1
  go_enter Tryz.func39, Tryz.ntmps39
  go_wp2
  go_ret
  exact ⟨ret_bool (by rw [inB, decide_eq_true h1, Bool.true_and]), rfl⟩
 ·
  have d1 : decide (n ≥ lo) = false := by simpa using h1
  go_enter Tryz.func39, Tryz.ntmps39
  go_wp2
  go_ret
  exact ⟨ret_bool (by rw [inB, decide_eq_false (by omega : ¬ lo ≤ n), Bool.false_and]), rfl⟩
theorem within_is (b : Bool) (n lo hi : Int) (h : Hid (inB n lo hi = b)) (w : World) : Calls Tryz.prog 39 #[.int .i64 n, .int .i64 lo, .int .i64 hi] w fun e w' => e = .returned (.bool b) ∧ w' = w :=
 (within_calls n lo hi w).mono fun e w' ⟨he, hw⟩ => ⟨by rw [he, h.out], hw⟩
theorem pow_u16 (i : Nat) (hi : i < 16) : IntKind.u16.wrap (2 ^ i) = ((2 ^ i : Nat) : Int) ∧ 2 ^ i < 65536 := by
 have h : (2 : Nat) ^ i < 65536 := Nat.pow_lt_pow_right (by omega) hi
 refine ⟨?_, h⟩
 have e : (2 : Int) ^ i = ((2 ^ i : Nat) : Int) := by simp
 rw [e, wrap_u16']
 generalize (2 : Nat) ^ i = q at h
 omega
theorem bits_or_u16 (a b : Nat) (ha : a < 65536) (hb : b < 65536) : bits .or .u16 (a : Int) (b : Int) = ((a ||| b : Nat) : Int) :=
 (bits_nat .u16 16 (by decide) (fun n h0 h1 => by rw [wrap_u16']; omega) a b ha hb).2
theorem or_lt (a b : Nat) (ha : a < 65536) (hb : b < 65536) : a ||| b < 65536 := Nat.or_lt_two_pow (n := 16) ha hb
theorem with_calls (s i : Nat) (hs : s < 65536) (hi : i < 16) (w : World) : Calls Tryz.prog 42 #[.int .u16 s, .int .i64 i] w fun e w' => e = .returned (.int .u16 ((s ||| 2 ^ i : Nat) : Int)) ∧ w' = w := by
 go_enter Tryz.func42, Tryz.ntmps42
 go_wp2
 go_ret
 exact ⟨ret_int (by obtain ⟨e, h⟩ := pow_u16 i hi; rw [e, bits_or_u16 s _ hs h]), rfl⟩
theorem has_calls (s i : Nat) (hs : s < 65536) (hi : i < 16) (w : World) : Calls Tryz.prog 79 #[.int .u16 s, .int .i64 i] w fun e w' => e = .returned (.bool (s.testBit i)) ∧ w' = w := by
 go_enter Tryz.func79, Tryz.ntmps79
 go_wp2
 go_ret
 exact ⟨ret_bool (by
  have e : (s : Int) / 2 ^ i = ((s / 2 ^ i : Nat) : Int) := by simp
  have h2 : s / 2 ^ i < 65536 := Nat.lt_of_le_of_lt (Nat.div_le_self _ _) hs
  have h3 := bits_and_u16_nat (s / 2 ^ i) 1 h2 (by omega)
  rw [e, show (1 : Int) = ((1 : Nat) : Int) from rfl, h3, Nat.and_one_is_mod, Nat.testBit_eq_decide_div_mod_eq, Bool.eq_iff_iff]
  simp
  omega), rfl⟩
theorem has_is (b : Bool) (s i : Nat) (h : Hid (s.testBit i = b)) (hs : s < 65536) (hi : i < 16) (w : World) : Calls Tryz.prog 79 #[.int .u16 s, .int .i64 i] w fun e w' => e = .returned (.bool b) ∧ w' = w :=
 (has_calls s i hs hi w).mono fun e w' ⟨he, hw⟩ => ⟨by rw [he, h.out], hw⟩
theorem everything_calls (n : Nat) (hn : n ≤ 15) (w : World) : Calls Tryz.prog 24 #[.int .i64 n] w fun e w' => e = .returned (.int .u16 ((2 ^ n - 1 : Nat) : Int)) ∧ w' = w := by
 go_enter Tryz.func24, Tryz.ntmps24
 go_wp2
 go_ret
 exact ⟨ret_int (by obtain ⟨e, h⟩ := pow_u16 n (by omega); rw [e, wrap_u16']; have h0 := Nat.two_pow_pos n; generalize (2 : Nat) ^ n = q at h h0; omega), rfl⟩
end Go.Proofs.YtkljcdghbefceaaGreatDoor

namespace Go.Proofs.YtkljcdghbefceaaGreatDoor
set_option linter.unusedVariables false
set_option linter.unusedSimpArgs false
open Bits
def setOfL (n : Int) : List Int → Int → Nat → Option Nat
 | [], _, s => some s
 | i :: r, last, s => if last + 1 ≤ i ∧ i ≤ n - 1 then setOfL n r i (s ||| 2 ^ i.toNat) else none
theorem setOfL_cons (n i : Int) (r : List Int) (last : Int) (s : Nat) : setOfL n (i :: r) last s = if last + 1 ≤ i ∧ i ≤ n - 1 then setOfL n r i (s ||| 2 ^ i.toNat) else none := rfl
def setOfN (l : List Int) (n : Nat) : Option Nat := setOfL n l (-1) 0
theorem or_lt_pow {a b n : Nat} (ha : a < 2 ^ n) (hb : b < 2 ^ n) : a ||| b < 2 ^ n := Nat.or_lt_two_pow ha hb
theorem setOfL_lt (n : Nat) : ∀ (l : List Int) (last : Int) (s r : Nat), -1 ≤ last → s < 2 ^ n → setOfL n l last s = some r → r < 2 ^ n
 | [], _, s, r, _, hs, h => by simp [setOfL] at h; omega
 | i :: l, last, s, r, hl, hs, h => by
  rw [setOfL_cons] at h
  split at h
  ·
   rename_i hi
   refine setOfL_lt n l i _ r (by omega) (or_lt_pow hs ?_) h
   exact Nat.pow_lt_pow_right (by omega) (by omega)
  ·
   cases h
theorem setOfN_lt {l : List Int} {n s : Nat} (h : setOfN l n = some s) : s < 2 ^ n := setOfL_lt n l _ _ _ (by omega) (Nat.two_pow_pos n) h
theorem pow_le_u16 {n : Nat} (h : n ≤ 16) : 2 ^ n ≤ 65536 := show 2 ^ n ≤ 2 ^ 16 from Nat.pow_le_pow_right (by omega) h
def taskOk (t : Tk) : Bool := inB t.f0 1 20 && inB t.f2 0 2 && inB t.f3 1 4
def needsL (n : Nat) : List Tk → Option (List Nat)
 | [] => some []
 | t :: r => match setOfN t.f1 n with
  | none => none
  | some s => if taskOk t then (needsL n r).map (s :: ·) else none
def needsN (g : List Tk) : Option (List Nat) := if 8 < g.length then none else needsL g.length g
theorem needsL_cons (n : Nat) (t : Tk) (r : List Tk) : needsL n (t :: r) = match setOfN t.f1 n with
  | none => none
  | some s => if taskOk t then (needsL n r).map (s :: ·) else none := rfl
theorem needsL_bad {n : Nat} {t : Tk} {r : List Tk} (h : setOfN t.f1 n = none ∨ taskOk t = false) : needsL n (t :: r) = none := by
 rw [needsL_cons]
 rcases h with h | h
 ·
  rw [h]
 ·
  cases setOfN t.f1 n <;> simp [h]
theorem needsL_good {n s : Nat} {t : Tk} {r : List Tk} (h : setOfN t.f1 n = some s) (h' : taskOk t = true) : needsL n (t :: r) = (needsL n r).map (s :: ·) := by
 rw [needsL_cons, h]; simp [h']
theorem taskOk_false {t : Tk} (h : inB t.f0 1 20 = false ∨ inB t.f2 0 2 = false ∨ inB t.f3 1 4 = false) : taskOk t = false := by
 unfold taskOk
 rcases h with h | h | h <;> rw [h] <;> simp
theorem taskOk_true {t : Tk} (h0 : inB t.f0 1 20 = true) (h1 : inB t.f2 0 2 = true) (h2 : inB t.f3 1 4 = true) : taskOk t = true := by
 unfold taskOk; rw [h0, h1, h2]; rfl
theorem needsL_step {n : Nat} {acc : List Nat} {o : Option (List Nat)} {t : Tk} {r : List Tk} {s : Nat} (h : o = (needsL n (t :: r)).map (acc ++ ·)) (h1 : setOfN t.f1 n = some s) (h2 : taskOk t = true) : o = (needsL n r).map ((acc ++ [s]) ++ ·) := by
 rw [h, needsL_good h1 h2]
 cases needsL n r <;> simp
def diff (a b : Nat) : Nat := a ^^^ (a &&& b)
theorem diff_bit (a b i : Nat) : (diff a b).testBit i = (a.testBit i && !b.testBit i) := by
 unfold diff; rw [Nat.testBit_xor, Nat.testBit_and]; cases a.testBit i <;> cases b.testBit i <;> rfl
theorem diff_lt {a b n : Nat} (h : a < 2 ^ n) : diff a b < 2 ^ n := Nat.xor_lt_two_pow h (Nat.lt_of_le_of_lt Nat.and_le_left h)
theorem diff_zero {a b : Nat} : diff a b = 0 ↔ ∀ i, a.testBit i = true → b.testBit i = true := by
 constructor
 ·
  intro h i ha
  have := diff_bit a b i
  rw [h] at this
  simp [ha] at this
  exact this
 ·
  intro h
  apply Nat.eq_of_testBit_eq
  intro i
  rw [diff_bit, Nat.zero_testBit]
  cases ha : a.testBit i
  ·
   rfl
  ·
   rw [h i ha]; rfl
theorem or_bit (a i j : Nat) : (a ||| 2 ^ i).testBit j = (a.testBit j || decide (i = j)) := by rw [Nat.testBit_or, Nat.testBit_two_pow]
def isReady (ns : List Nat) (done i : Nat) : Bool := !done.testBit i && decide (diff (ns.getD i 0) done = 0)
def firstReady (ns : List Nat) (done : Nat) : Option Nat := (List.range ns.length).find? (isReady ns done)
def ordStep (ns : List Nat) (p : List Nat × Nat) : List Nat × Nat := match firstReady ns p.2 with
 | some i => (p.1 ++ [i], p.2 ||| 2 ^ i)
 | none => p
def ordN (ns : List Nat) : Nat → List Nat × Nat
 | 0 => ([], 0)
 | k + 1 => ordStep ns (ordN ns k)
theorem find_range {n k : Nat} {p : Nat → Bool} (h : k < n) (hp : p k = true) (hlow : ∀ j, j < k → p j = false) : (List.range n).find? p = some k := by
 rw [List.find?_range_eq_some]
 refine ⟨hp, List.mem_range.2 h, fun j hj => by simp [hlow j hj]⟩
theorem firstReady_some {ns : List Nat} {done k : Nat} (h : k < ns.length) (hp : isReady ns done k = true) (hlow : ∀ j, j < k → isReady ns done j = false) : firstReady ns done = some k := find_range h hp hlow
theorem firstReady_none {ns : List Nat} {done : Nat} (hlow : ∀ j, j < ns.length → isReady ns done j = false) : firstReady ns done = none := by
 unfold firstReady
 rw [List.find?_eq_none]
 intro j hj
 rw [hlow j (List.mem_range.1 hj)]; simp
theorem firstReady_spec {ns : List Nat} {done k : Nat} (h : firstReady ns done = some k) : k < ns.length ∧ isReady ns done k = true := by
 unfold firstReady at h
 exact ⟨List.mem_range.1 (List.mem_of_find?_eq_some h), List.find?_some h⟩
theorem ordN_lt (ns : List Nat) : ∀ k, (ordN ns k).2 < 2 ^ ns.length ∧ (∀ i ∈ (ordN ns k).1, i < ns.length) ∧ (ordN ns k).1.length ≤ k
 | 0 => ⟨Nat.two_pow_pos _, by intro i h; simp [ordN] at h, Nat.le_refl _⟩
 | k + 1 => by
  obtain ⟨h1, h2, h3⟩ := ordN_lt ns k
  show (ordStep ns (ordN ns k)).2 < _ ∧ (∀ i ∈ (ordStep ns (ordN ns k)).1, _) ∧ (ordStep ns (ordN ns k)).1.length ≤ _
  unfold ordStep
  cases hf : firstReady ns (ordN ns k).2 with
  | none => exact ⟨h1, h2, Nat.le_succ_of_le h3⟩
  | some i =>
   obtain ⟨hi, _⟩ := firstReady_spec hf
   refine ⟨or_lt_pow h1 (Nat.pow_lt_pow_right (by omega) hi), fun j hj => ?_, by simp; omega⟩
   rcases List.mem_append.1 hj with hj | hj
   ·
    exact h2 j hj
   ·
    rw [List.mem_singleton.1 hj]; exact hi
theorem needsL_length {n : Nat} : ∀ {g : List Tk} {ns : List Nat}, needsL n g = some ns → ns.length = g.length ∧ ∀ s ∈ ns, s < 2 ^ n
 | [], ns, h => by simp [needsL] at h; subst h; simp
 | t :: r, ns, h => by
  rw [needsL_cons] at h
  cases hs : setOfN t.f1 n with
  | none => rw [hs] at h; cases h
  | some s =>
   rw [hs] at h
   simp only at h
   split at h
   ·
    obtain ⟨ms, hm, rfl⟩ := Option.map_eq_some_iff.1 h
    obtain ⟨h1, h2⟩ := needsL_length hm
    refine ⟨by simp [h1], fun q hq => ?_⟩
    rcases List.mem_cons.1 hq with rfl | hq
    ·
     exact setOfN_lt hs
    ·
     exact h2 q hq
   ·
    cases h
theorem needsN_some {g : List Tk} {ns : List Nat} (h : needsN g = some ns) : g.length ≤ 8 ∧ needsL g.length g = some ns := by
 unfold needsN at h
 split at h
 ·
  cases h
 ·
  exact ⟨by omega, h⟩
theorem needsN_length {g : List Tk} {ns : List Nat} (h : needsN g = some ns) : ns.length = g.length := (needsL_length (needsN_some h).2).1
theorem needsN_pow {g : List Tk} {ns : List Nat} (h : needsN g = some ns) (i : Nat) : ns.getD i 0 < 2 ^ g.length := by
 rw [List.getD_eq_getElem?_getD]
 cases hi : ns[i]? with
 | none => exact Nat.two_pow_pos _
 | some s => exact (needsL_length (needsN_some h).2).2 s (List.mem_of_getElem? hi)
theorem needsN_lt {g : List Tk} {ns : List Nat} (h : needsN g = some ns) (i : Nat) : ns.getD i 0 < 65536 :=
 Nat.lt_of_lt_of_le (needsN_pow h i) (pow_le_u16 (by have := (needsN_some h).1; omega))
theorem drop_cons {g : List Tk} {k : Nat} (h : k < g.length) : g.drop k = rdTk g k :: g.drop (k + 1) := by
 rw [List.drop_eq_getElem_cons h]; simp [rdTk, List.getD_eq_getElem?_getD, h]
end Go.Proofs.YtkljcdghbefceaaGreatDoor

namespace Go.Proofs.YtkljcdghbefceaaGreatDoor
set_option linter.unusedVariables false
set_option linter.unusedSimpArgs false
open Go.RowKit Go.Shelf Bits
open Go.Proofs.YtkljcdghbefceaaGreatDoorW.PrintWords Go.Proofs.YtkljcdghbefceaaGreatDoorW.PrintLast Go.Proofs.YtkljcdghbefceaaGreatDoorW.PrintMore
def setRet (o : Option Nat) : Ending := .returned (.tuple #[.int .u16 ((o.getD 0 : Nat) : Int), .bool o.isSome])
set_option maxHeartbeats 1000000 in
theorem setOf_calls (A : Option Addr) (c : Nat) (l : List Int) (n : Nat) (hn : n ≤ 15) (w : World) (hr : (Kd.int .i64).C w A l.length l) :
  Calls Tryz.prog 86 #[.slice A l.length c, .int .i64 n] w fun e w' => e = setRet (setOfN l n) ∧ w' = w := by
 have hl := (C_len hr).2
 have HR := Lib.hid hr
 clear hr
 go_enter Tryz.func86, Tryz.ntmps86
 go_wp2
 go_loop [6, 7, 12] (fun s last i => ∃ (k : Nat) (a : Nat) (b : Int), k ≤ l.length ∧ i = .int .i64 k ∧ last = .int .i64 b ∧ s = .int .u16 a ∧ a < 65536 ∧ -1 ≤ b ∧ b ≤ 15 ∧ Hid (setOfN l n = setOfL n (l.drop k) b a)) (fun _ _ i => l.length - (intOf i).toNat)
 case atStart => exact ⟨0, 0, -1, Nat.zero_le _, rfl, rfl, rfl, by omega, by omega, by omega, rfl⟩
 case round =>
  obtain ⟨k, a, b, hk, rfl, rfl, rfl, ha, hb0, hb1, HS⟩ := hrel
  by_cases hlt : k < l.length
  ·
   obtain ⟨ad, rfl, hc⟩ := at_num HR.out k hlt
   have hd : l.drop k = l.getD k 0 :: l.drop (k + 1) := by
    rw [List.drop_eq_getElem_cons hlt]; simp [List.getD_eq_getElem?_getD, hlt]
   rw [hd, setOfL_cons] at HS
   clear hd
   generalize l.getD k 0 = x at *
   by_cases hin : b + 1 ≤ x ∧ x ≤ n - 1
   ·
    rw [if_pos hin] at HS
    obtain ⟨m, rfl⟩ := Int.eq_ofNat_of_zero_le (by omega : 0 ≤ x)
    rw [Int.toNat_natCast] at HS
    have hm : m < 16 := by omega
    have hor := or_lt a (2 ^ m) ha (pow_u16 m hm).2
    have HI := Lib.hid (inB_true.2 hin)
    obtain ⟨hin1, hin2⟩ := hin
    go_wp2_with (first | (go_at_call 39; refine (within_calls _ _ _ _).mono ?_; rintro e w' ⟨rfl, rfl⟩; rw [HI.out]) | (go_at_call 42; refine (with_calls a m ha hm _).mono ?_; rintro e w' ⟨rfl, rfl⟩))
    go_round
    case rel => exact ⟨k + 1, _, m, by omega, by go_num, rfl, rfl, hor, by omega, by omega, HS⟩
    case measure => simp [intOf]; omega
   ·
    rw [if_neg hin] at HS
    have HI := Lib.hid (inB_false.2 (show x < b + 1 ∨ (n : Int) - 1 < x by omega))
    clear hin
    go_wp2_with (go_at_call 39; refine (within_calls _ _ _ _).mono ?_; rintro e w' ⟨rfl, rfl⟩; rw [HI.out])
    go_ret2
    exact ⟨by rw [HS.out]; rfl, rfl⟩
  ·
   have hke : l.drop k = [] := List.drop_eq_nil_of_le (by omega)
   rw [hke] at HS
   clear hke
   go_wp2
   go_ret2
   exact ⟨by rw [HS.out]; rfl, rfl⟩
theorem setOf_some (A : Option Addr) (c : Nat) (l : List Int) (n s : Nat) (h : Hid (setOfN l n = some s)) (hn : n ≤ 15) (w : World) (hr : (Kd.int .i64).C w A l.length l) :
  Calls Tryz.prog 86 #[.slice A l.length c, .int .i64 n] w fun e w' => e = .returned (.tuple #[.int .u16 s, .bool true]) ∧ w' = w :=
 (setOf_calls A c l n hn w hr).mono fun e w' ⟨he, hw⟩ => ⟨by rw [he, h.out]; rfl, hw⟩
theorem setOf_none (A : Option Addr) (c : Nat) (l : List Int) (n : Nat) (h : Hid (setOfN l n = none)) (hn : n ≤ 15) (w : World) (hr : (Kd.int .i64).C w A l.length l) :
  Calls Tryz.prog 86 #[.slice A l.length c, .int .i64 n] w fun e w' => e = .returned (.tuple #[.int .u16 0, .bool false]) ∧ w' = w :=
 (setOf_calls A c l n hn w hr).mono fun e w' ⟨he, hw⟩ => ⟨by rw [he, h.out]; rfl, hw⟩
end Go.Proofs.YtkljcdghbefceaaGreatDoor

namespace Go.Proofs.YtkljcdghbefceaaGreatDoor
set_option linter.unusedVariables false
set_option linter.unusedSimpArgs false
open Go.RowKit Go.Shelf Bits
open Go.Proofs.YtkljcdghbefceaaGreatDoorW.PrintWords Go.Proofs.YtkljcdghbefceaaGreatDoorW.PrintLast Go.Proofs.YtkljcdghbefceaaGreatDoorW.PrintMore
def NeedsPost (g : List Tk) (w : World) (e : Ending) (w' : World) : Prop :=
 ∃ v, e = .returned (.tuple #[v, .bool (needsN g).isSome]) ∧ (∀ ns, needsN g = some ns → Kd.R (Kd.int .u16) 46 w' w.heap.size (fun _ => True) v (ints ns)) ∧ Below w.heap.size w w'
set_option maxRecDepth 100000 in
set_option maxHeartbeats 2000000 in
theorem needsOf_calls (A : Option Addr) (c : Nat) (g : List Tk) (w : World) (hr : kTk.C w A g.length g) :
  Calls Tryz.prog 72 #[.slice A g.length c] w (NeedsPost g w) := by
 have HR := Lib.hid hr
 obtain ⟨i0, hi, hz0, hz1, hz2⟩ := info_parts infoSet
 clear hr
 by_cases hlen : g.length ≤ 8
 ·
  have HN : Hid (needsN g = needsL g.length g) := Lib.hid (by rw [needsN, if_neg (by omega)])
  go_enter Tryz.func72, Tryz.ntmps72
  go_wp2_with (at_make; refine wpList_make_own _ rfl _ _ 75 rfl w.heap.size 46 i0 (.int .u16 0) 1 Tryz.underlying75 hi hz0 hz1 .i64 .i64 _ g.length rfl rfl rfl (by rw [hz2]; omega) (by simp only [maxLen]; omega) (Nat.le_refl _) ?_; intro w1 hown hg1)
  have HB1 : Below w.heap.size w w1 := (Below.refl _ _).grown hg1 (Nat.le_refl _) (fun k e => by cases e)
  have HO : Kd.R (Kd.int .u16) 46 w1 w.heap.size (fun _ => True) (.slice (some ⟨w.heap.size, 0, none⟩) 0 g.length) (ints []) := Kd.R_of_own hown (fun _ _ => trivial)
  clear hown hg1
  go_loopw [4, 17] (fun out i wr => ∃ (k : Nat) (acc : List Nat), k ≤ g.length ∧ i = .int .i64 k ∧ acc.length = k ∧ Hid (needsN g = (needsL g.length (g.drop k)).map (acc ++ ·)) ∧ Kd.R (Kd.int .u16) 46 wr w.heap.size (fun _ => True) out (ints acc) ∧ Below w.heap.size w wr) (fun _ i _ => g.length - (intOf i).toNat)
  case atStart => exact ⟨0, [], Nat.zero_le _, rfl, rfl, Lib.hid (by rw [HN.out]; simp), HO, HB1⟩
  case round =>
   clear HO HB1 HN
   obtain ⟨k, acc, hk, rfl, hacc, HS, HO, HB⟩ := hrel
   have HA := Lib.hid hacc
   clear hacc
   by_cases hlt : k < g.length
   ·
    obtain ⟨ad, A1, c1, rfl, hc0, hc1, hc2, hc3, hl1, hC1⟩ := at_Tk (Kd.C_below HR.out HB) k hlt
    rw [drop_cons hlt] at HS
    generalize rdTk g k = t at *
    have hlt2 : k < 9 := by omega
    rcases hso : setOfN t.f1 g.length with _ | s
    ·
     have HF := Lib.hid hso
     clear hso
     go_wp2_with (go_at_call 86; refine (setOf_none _ _ _ _ HF (by omega) _ (Kd.C_below hC1 ((Below.refl _ _).alloc (Nat.le_refl _) _))).mono ?_; rintro e w' ⟨rfl, rfl⟩)
     go_ret2
     have hnone : needsN g = none := by rw [HS.out, needsL_bad (.inl HF.out)]; rfl
     refine ⟨_, by rw [hnone]; rfl, fun ns h => ?_, HB.alloc HB.size _⟩
     rw [hnone] at h; cases h
    ·
     have HF := Lib.hid hso
     clear hso
     cases b0 : inB t.f0 1 20
     ·
      have H0 := Lib.hid b0
      clear b0
      go_wp2_with (first | (go_at_call 86; refine (setOf_some _ _ _ _ _ HF (by omega) _ (Kd.C_below hC1 ((Below.refl _ _).alloc (Nat.le_refl _) _))).mono ?_; rintro e w' ⟨rfl, rfl⟩) | (go_at_call 39; with_reducible refine (within_is _ _ _ _ H0 _).mono ?_; rintro e w' ⟨rfl, rfl⟩))
      go_ret2
      have hnone : needsN g = none := by rw [HS.out, needsL_bad (.inr (taskOk_false (.inl H0.out)))]; rfl
      refine ⟨_, by rw [hnone]; rfl, fun ns h => ?_, HB.alloc HB.size _⟩
      rw [hnone] at h; cases h
     ·
      have H0 := Lib.hid b0
      clear b0
      cases b1 : inB t.f2 0 2
      ·
       have H1 := Lib.hid b1
       clear b1
       go_wp2_with (first | (go_at_call 86; refine (setOf_some _ _ _ _ _ HF (by omega) _ (Kd.C_below hC1 ((Below.refl _ _).alloc (Nat.le_refl _) _))).mono ?_; rintro e w' ⟨rfl, rfl⟩) | (go_at_call 39; with_reducible refine (within_is _ _ _ _ H0 _).mono ?_; rintro e w' ⟨rfl, rfl⟩) | (go_at_call 39; with_reducible refine (within_is _ _ _ _ H1 _).mono ?_; rintro e w' ⟨rfl, rfl⟩))
       go_ret2
       have hnone : needsN g = none := by rw [HS.out, needsL_bad (.inr (taskOk_false (.inr (.inl H1.out))))]; rfl
       refine ⟨_, by rw [hnone]; rfl, fun ns h => ?_, HB.alloc HB.size _⟩
       rw [hnone] at h; cases h
      ·
       have H1 := Lib.hid b1
       clear b1
       cases b2 : inB t.f3 1 4
       ·
        have H2 := Lib.hid b2
        clear b2
        go_wp2_with (first | (go_at_call 86; refine (setOf_some _ _ _ _ _ HF (by omega) _ (Kd.C_below hC1 ((Below.refl _ _).alloc (Nat.le_refl _) _))).mono ?_; rintro e w' ⟨rfl, rfl⟩) | (go_at_call 39; with_reducible refine (within_is _ _ _ _ H0 _).mono ?_; rintro e w' ⟨rfl, rfl⟩) | (go_at_call 39; with_reducible refine (within_is _ _ _ _ H1 _).mono ?_; rintro e w' ⟨rfl, rfl⟩) | (go_at_call 39; with_reducible refine (within_is _ _ _ _ H2 _).mono ?_; rintro e w' ⟨rfl, rfl⟩))
        go_ret2
        have hnone : needsN g = none := by rw [HS.out, needsL_bad (.inr (taskOk_false (.inr (.inr H2.out))))]; rfl
        refine ⟨_, by rw [hnone]; rfl, fun ns h => ?_, HB.alloc HB.size _⟩
        rw [hnone] at h; cases h
       ·
        have H2 := Lib.hid b2
        clear b2
        have hal : acc.length < 1000000 := by rw [HA.out]; omega
        go_wp2_with (first | (go_at_call 86; refine (setOf_some _ _ _ _ _ HF (by omega) _ (Kd.C_below hC1 ((Below.refl _ _).alloc (Nat.le_refl _) _))).mono ?_; rintro e w' ⟨rfl, rfl⟩) | (go_at_call 39; with_reducible refine (within_is _ _ _ _ H0 _).mono ?_; rintro e w' ⟨rfl, rfl⟩) | (go_at_call 39; with_reducible refine (within_is _ _ _ _ H1 _).mono ?_; rintro e w' ⟨rfl, rfl⟩) | (go_at_call 39; with_reducible refine (within_is _ _ _ _ H2 _).mono ?_; rintro e w' ⟨rfl, rfl⟩) | (at_builtin; refine ap_set (w0 := w) w.heap.size rfl _ _ rfl _ acc s rfl rfl (by simp) (Kd.R_alloc HO _) (HB.alloc HB.size _) (by have := HB.size; simp; omega) hal ?_; intro v1 w2 hO2 hB2 _ _))
        go_roundw
        case rel => exact ⟨k + 1, acc ++ [s], by omega, by go_num, by rw [List.length_append, HA.out]; rfl, Lib.hid (needsL_step HS.out HF.out (taskOk_true H0.out H1.out H2.out)), hO2, hB2⟩
        case measure => simp [intOf]; omega
   ·
    have hke : g.drop k = [] := List.drop_eq_nil_of_le (by omega)
    rw [hke] at HS
    clear hke
    have hS : needsN g = some acc := by rw [HS.out]; simp [needsL]
    have HS2 := Lib.hid hS
    clear hS HS
    go_wp2
    go_ret2
    refine ⟨_, by rw [HS2.out]; rfl, fun ns h => ?_, HB⟩
    rw [HS2.out] at h; cases h; exact HO
 ·
  have hn : needsN g = none := by rw [needsN, if_pos (by omega)]
  have HN := Lib.hid hn
  clear hn
  go_enter Tryz.func72, Tryz.ntmps72
  go_wp2
  go_ret2
  refine ⟨_, by rw [HN.out]; rfl, fun ns h => ?_, Below.refl _ _⟩
  rw [HN.out] at h; cases h
end Go.Proofs.YtkljcdghbefceaaGreatDoor

namespace Go.Proofs.YtkljcdghbefceaaGreatDoor
set_option linter.unusedVariables false
set_option linter.unusedSimpArgs false
open Go.RowKit Go.Shelf Bits
open Go.Proofs.YtkljcdghbefceaaGreatDoorW.PrintWords Go.Proofs.YtkljcdghbefceaaGreatDoorW.PrintLast Go.Proofs.YtkljcdghbefceaaGreatDoorW.PrintMore
theorem bits_andNot_u16 (a b : Nat) (ha : a < 65536) : bits .andNot .u16 (a : Int) (b : Int) = ((diff a b : Nat) : Int) := by
 have h1 : (BitVec.ofInt 16 (a : Int)) = BitVec.ofNat 16 a := by simp
 have h2 : (BitVec.ofInt 16 (b : Int)) = BitVec.ofNat 16 b := by simp
 show IntKind.u16.wrap ((BitVec.ofInt 16 (a : Int) &&& ~~~ BitVec.ofInt 16 (b : Int)).toNat : Int) = _
 rw [h1, h2]
 have e : (BitVec.ofNat 16 a &&& ~~~ BitVec.ofNat 16 b).toNat = diff a b := by
  apply Nat.eq_of_testBit_eq
  intro i
  rw [diff_bit, ← BitVec.getLsbD, BitVec.getLsbD_and, BitVec.getLsbD_not, BitVec.getLsbD_ofNat, BitVec.getLsbD_ofNat]
  by_cases hi : i < 16
  ·
   simp [hi]
  ·
   have : a.testBit i = false := Nat.testBit_lt_two_pow (Nat.lt_of_lt_of_le (show a < 2 ^ 16 from ha) (Nat.pow_le_pow_right (by omega) (by omega)))
   simp [hi, this]
 rw [e, wrap_u16']
 have := diff_lt (b := b) (n := 16) ha
 omega
def OrderPost (ns : List Nat) (w : World) (e : Ending) (w' : World) : Prop :=
 ∃ v, e = .returned (.tuple #[v, .int .u16 ((ordN ns ns.length).2 : Nat)]) ∧ Kd.R (Kd.int .i64) 3 w' w.heap.size (fun _ => True) v (ints (ordN ns ns.length).1) ∧ Below w.heap.size w w'
theorem not_ready_of_has {ns : List Nat} {done i : Nat} (h : done.testBit i = true) : isReady ns done i = false := by unfold isReady; rw [h]; rfl
theorem ready_of_not {ns : List Nat} {done i : Nat} (h : done.testBit i = false) : isReady ns done i = decide (diff (ns.getD i 0) done = 0) := by unfold isReady; rw [h]; rfl
set_option maxRecDepth 100000 in
set_option maxHeartbeats 2000000 in
theorem order_calls (A : Option Addr) (c : Nat) (ns : List Nat) (hlen : ns.length ≤ 15) (hns : ∀ i, ns.getD i 0 < 65536) (w : World) (hr : (Kd.int .u16).C w A ns.length (ints ns)) :
  Calls Tryz.prog 73 #[.slice A ns.length c] w (OrderPost ns w) := by
 have HR := Lib.hid hr
 clear hr
 have HNS := Lib.hid hns
 clear hns
 go_enter Tryz.func73, Tryz.ntmps73
 go_wp2
 have HB1 : Below w.heap.size w (w.alloc (.cells #[] 3)) := (Below.refl _ _).alloc (Nat.le_refl _) _
 have HO : Kd.R (Kd.int .i64) 3 (w.alloc (.cells #[] 3)) w.heap.size (fun _ => True) (.slice (some ⟨w.heap.size, 0, none⟩) 0 0) (ints []) := Kd.R_of_own (World.ownsRow_lit (base := w.heap.size) (size := 1) w #[] 0 (Nat.le_refl _) (by simp [maxLen]) rfl) (fun _ _ => trivial)
 go_loopw [4, 5, 11] (fun out s i wr => ∃ (k : Nat) (l : List Nat) (d : Nat), k ≤ ns.length ∧ i = .int .i64 k ∧ s = .int .u16 d ∧ Hid (ordN ns k = (l, d)) ∧ Kd.R (Kd.int .i64) 3 wr w.heap.size (fun _ => True) out (ints l) ∧ Below w.heap.size w wr) (fun _ _ i _ => ns.length - (intOf i).toNat)
 case atStart => exact ⟨0, [], 0, Nat.zero_le _, rfl, rfl, Lib.hid rfl, HO, HB1⟩
 case round =>
  clear HO HB1
  obtain ⟨k, l, d, hk, rfl, rfl, HS, HO, HB⟩ := hrel
  by_cases hlt : k < ns.length
  ·
   have hd : d < 65536 := by
    have := (ordN_lt ns k).1
    rw [HS.out] at this
    exact Nat.lt_of_lt_of_le this (pow_le_u16 (by omega))
   have hll : l.length < 1000000 := by
    have := (ordN_lt ns k).2.2
    rw [HS.out] at this
    simp at this
    omega
   go_wp2
   obtain ⟨wo, rfl⟩ : ∃ wo : World, wo = wr := ⟨_, rfl⟩
   go_loopw [4, 5, 15] (fun out s i wi => ∃ (j : Nat), j ≤ ns.length ∧ i = .int .i64 j ∧ s = .int .u16 d ∧ Hid (∀ q, q < j → isReady ns d q = false) ∧ Kd.R (Kd.int .i64) 3 wi w.heap.size (fun _ => True) out (ints l) ∧ Below w.heap.size w wi) (fun _ _ i _ => ns.length - (intOf i).toNat)
   case atStart => exact ⟨0, Nat.zero_le _, rfl, rfl, Lib.hid fun q h => absurd h (Nat.not_lt_zero _), HO, HB⟩
   case round =>
    clear HO HB
    obtain ⟨j, hj, rfl, rfl, hlow, HO, HB⟩ := hrel
    by_cases hjl : j < ns.length
    ·
     obtain ⟨ad, rfl, hc⟩ := at_set (Kd.C_below HR.out HB) j hjl
     have hx : ns.getD j 0 < 65536 := HNS.out j
     cases ht : d.testBit j
     ·
      have HT := Lib.hid ht
      clear ht
      cases hrd : isReady ns d j
      ·
       have HD := Lib.hid hrd
       have hb : (bits BinOp.andNot IntKind.u16 ((ns.getD j 0 : Nat) : Int) (d : Int) == 0) = false := by
        rw [bits_andNot_u16 _ d hx]
        have := hrd
        rw [ready_of_not HT.out, decide_eq_false_iff_not] at this
        simp only [beq_eq_false_iff_ne, ne_eq]
        omega
       clear hrd
       generalize ns.getD j 0 = x at hc hb hx
       go_wp2_with (go_at_call 79; refine (has_is _ d j HT hd (by omega) _).mono ?_; rintro e w' ⟨rfl, rfl⟩)
       go_roundw
       case rel => exact ⟨j + 1, by omega, by go_num, rfl, Lib.hid (fun q hq => by rcases Nat.lt_succ_iff_lt_or_eq.1 hq with h | h; exact hlow.out q h; rw [h]; exact HD.out), HO, HB⟩
       case measure => simp [intOf]; omega
      ·
       have HD := Lib.hid hrd
       have hb : (bits BinOp.andNot IntKind.u16 ((ns.getD j 0 : Nat) : Int) (d : Int) == 0) = true := by
        rw [bits_andNot_u16 _ d hx]
        have := hrd
        rw [ready_of_not HT.out, decide_eq_true_iff] at this
        rw [this]; rfl
       clear hrd
       have hstep : ordN ns (k + 1) = (l ++ [j], d ||| 2 ^ j) := by
        show ordStep ns (ordN ns k) = _
        rw [HS.out]
        unfold ordStep
        rw [firstReady_some hjl HD.out hlow.out]
       have HS2 := Lib.hid hstep
       clear hstep
       generalize ns.getD j 0 = x at hc hb hx
       go_wp2_with (first | (go_at_call 79; refine (has_is _ d j HT hd (by omega) _).mono ?_; rintro e w' ⟨rfl, rfl⟩) | (go_at_call 42; refine (with_calls d j hd (by omega) _).mono ?_; rintro e w' ⟨rfl, rfl⟩) | (at_builtin; refine ap_int (w0 := w) w.heap.size rfl _ _ rfl u4 (ints l) (j : Int) rfl rfl rfl HO HB HB.size (by rw [ints_length]; exact hll) ?_; intro v1 w2 hO2 hB2 _ _))
       go_roundw
       case rel => exact ⟨k + 1, l ++ [j], d ||| 2 ^ j, by omega, by go_num, rfl, HS2, by simpa [ints] using hO2, hB2⟩
       case measure => simp [intOf]; omega
     ·
      have HT := Lib.hid ht
      clear ht
      generalize ns.getD j 0 = x at hc hx
      go_wp2_with (go_at_call 79; refine (has_is _ d j HT hd (by omega) _).mono ?_; rintro e w' ⟨rfl, rfl⟩)
      go_roundw
      case rel => exact ⟨j + 1, by omega, by go_num, rfl, Lib.hid (fun q hq => by rcases Nat.lt_succ_iff_lt_or_eq.1 hq with h | h; exact hlow.out q h; rw [h]; exact not_ready_of_has HT.out), HO, HB⟩
      case measure => simp [intOf]; omega
    ·
     have hstep : ordN ns (k + 1) = (l, d) := by
      show ordStep ns (ordN ns k) = _
      rw [HS.out]
      unfold ordStep
      rw [firstReady_none (fun q hq => hlow.out q (by omega))]
     have HS2 := Lib.hid hstep
     clear hstep
     go_wp2
     go_roundw
     case rel => exact ⟨k + 1, l, d, by omega, by go_num, rfl, HS2, HO, HB⟩
     case measure => simp [intOf]; omega
  ·
   have hke : k = ns.length := by omega
   have HK := Lib.hid hke
   clear hke
   go_wp2
   go_ret2
   have e : ordN ns ns.length = (l, d) := by rw [← HK.out]; exact HS.out
   refine ⟨_, by rw [e]; rfl, by rw [e]; exact HO, HB⟩
end Go.Proofs.YtkljcdghbefceaaGreatDoor

namespace Go.Proofs.YtkljcdghbefceaaGreatDoor
set_option linter.unusedVariables false
set_option linter.unusedSimpArgs false
open Go.RowKit
variable {P : Program} {ops : Array Oper} {Q : Exit → Act → World → Prop}
theorem rowsIn_of_rows {n l : Nat} {row : String} {args : Array Value} {w : World} {R : Value → World → Prop} (h : Rows P row args w R) : RowsIn (Fence.wide.inRound l) n P row args w R :=
 fun c cs _ => by
  obtain ⟨v, w', hr, hs⟩ := h c cs
  exact ⟨v, w', hr, stepsIn_wide.2 hs⟩
theorem wpIn_of_wp_oper {l n : Nat} {o : Oper} {a : Act} {w : World} {K : Act → World → Prop} (hnd : ∀ c, o.op ≠ .defer c) (h : o.wp P a w K Q) : o.wpIn (Fence.wide.inRound l) n P a w K Q := by
 refine ⟨fun _ _ => trivial, ?_⟩
 rw [Fence.inRound_round, Oper.semAt_some l a.eval o hnd]
 unfold Oper.wp at h
 revert h
 cases (execOp a.eval o).run P w with
 | ok x w' =>
  cases x
  case enter f args => exact fun h => ⟨fun hd => by simp [Fence.wide] at hd, CallsIn.inRound l (callsIn_wide.2 h)⟩
  case row r args => exact fun h => ⟨fun hd => by simp [Fence.wide] at hd, rowsIn_of_rows h⟩
  all_goals first | exact fun h => h | exact fun h => h.elim
 | halt x w' =>
  cases x <;> first | exact fun h => h | exact fun h => h.elim
theorem wpOpIn_of_wpOp {l n i : Nat} {a : Act} {w : World} {K : Act → World → Prop} (hQ : ¬ LetsOut Q) (hnd : ∀ (i : Nat) (o : Oper) c, ops[i]? = some o → o.op ≠ .defer c) (h : wpOp P ops Q i K a w) : wpOpIn (Fence.wide.inRound l) n P ops Q i K a w := by
 unfold wpOp at h
 unfold wpOpIn
 cases ho : ops[i]? with
 | none => rw [ho] at h; exact h
 | some o =>
  rw [ho] at h
  simp only at h ⊢
  split
  ·
   rename_i hw
   rw [if_pos hw] at h
   rcases h with h | h
   ·
    exact wpIn_of_wp_oper (fun c => hnd i o c ho) h
   ·
    exact absurd h.2 hQ
  ·
   rename_i hw
   rw [if_neg hw] at h
   exact ⟨fun _ _ => trivial, h⟩
theorem wpAnyIn_of_wpAny {l n : Nat} (hQ : ¬ LetsOut Q) (hnd : ∀ (i : Nat) (o : Oper) c, ops[i]? = some o → o.op ≠ .defer c) : ∀ (fuel : Nat) (listed : Array Bool) (a : Act) (w : World),
  wpAny P .any ops Q fuel listed a w → wpAnyIn (Fence.wide.inRound l) n P .any ops Q fuel listed a w
 | 0, _, _, _, h => h
 | fuel + 1, listed, a, w, h => ⟨h.1, fun i hi => wpOpIn_of_wpOp hQ hnd (wpOp_mono (fun a' w' h' => wpAnyIn_of_wpAny hQ hnd fuel _ a' w' h') (h.2 i hi))⟩
def noDeferB (ops : Array Oper) : Bool := ops.toList.all fun o => match o.op with | .defer _ => false | _ => true
theorem noDefer_spec (h : noDeferB ops = true) (i : Nat) (o : Oper) (c : Call) (ho : ops[i]? = some o) : o.op ≠ .defer c := by
 intro e
 have := List.all_eq_true.1 h o (Array.mem_toList_iff.2 (Array.mem_of_getElem? ho))
 rw [e] at this
 cases this
theorem wpIn_region_still_tail {id l n : Nat} {a : Act} {w : World} {L : List Oper} (k : Nat) (hm : P.follows .mixedOrders = true) (hB : Region.lexTailB .any L.toArray k = true) (hd : noDeferB L.toArray = true) (hQ : ¬ LetsOut Q)
  (h : wpStill P L.toArray w.drew (fun a' => wpList P L.toArray Q (L.drop k) a' w.drew) (L.take k) a) : (Code.region id L.toArray true).wpIn (Fence.wide.inRound l) n P Q a w := by
 refine wpIn_region_any hm (wpAnyIn_of_wpAny hQ (noDefer_spec hd) _ _ _ _ ?_)
 simp only [Region.lexTailB, Bool.and_eq_true, decide_eq_true_eq] at hB
 obtain ⟨⟨⟨⟨hsel, hn⟩, hs⟩, hc⟩, hlex⟩ := hB
 have hk : k < L.length := by simpa using hn
 have e1 : (L.take k).length = k := by rw [List.length_take]; omega
 have e2 : (L.drop k).length = L.toArray.size - k := by rw [List.length_drop]; rfl
 have head := wpAnyL_lex (md := .any) (g := L.toArray.size - k) hsel hs hc hn (L.take k) 0 (Array.replicate L.toArray.size false) a
  (fun j hj => by rw [e1] at hj; rw [List.getElem?_take, if_pos hj, Nat.zero_add]; simp) (by rw [Nat.zero_add]; exact e1)
  ⟨by simp, fun j oj _ hl => (by rw [getD_replicate_false] at hl; cases hl), fun t _ ht => getD_in (by simpa using ht) (getD_replicate_false _ _)⟩ (by rw [e1]; exact hlex) h
 have all := wpAny_of_head (Q' := Q) (g := L.toArray.size - k) (fun listed a' hL => by
  have := wpAny_of_seq (md := .any) (Q' := Q) (L.drop k) k listed a' w.drew (fun j => by rw [List.getElem?_drop]; simp) (by rw [e2]; exact hL.1) hL.2
  rwa [e2] at this) _ _ _ head
 rwa [e1, show k + (L.toArray.size - k) = L.toArray.size from by omega] at all
end Go.Proofs.YtkljcdghbefceaaGreatDoor
