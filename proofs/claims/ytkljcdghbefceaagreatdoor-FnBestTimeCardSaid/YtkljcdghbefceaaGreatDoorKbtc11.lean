/- Parts of the proof, laid as one text by a program of mine. -/
import Derived.Test.YtkljcdghbefceaaGreatDoorKbtc6
import Derived.Test.YtkljcdghbefceaaGreatDoorKbtc10
import Derived.Test.YtkljcdghbefceaaGreatDoorKbtc4
import Derived.Test.YtkljcdghbefceaaGreatDoorKbtc2
import Derived.BigRegion
import Derived.Deep.QuietTactic
import Derived.BigQuiet
import Derived.Test.YtkljcdghbefceaaGreatDoorKbtc5
import Derived.Test.YtkljcdghbefceaaGreatDoorKbtc3
namespace Go.Proofs.YtkljcdghbefceaaGreatDoor
set_option linter.unusedVariables false
set_option linter.unusedSimpArgs false
open Go.RowKit Go.Shelf Bits
open Go.Proofs.YtkljcdghbefceaaGreatDoorW.PrintWords Go.Proofs.YtkljcdghbefceaaGreatDoorW.PrintLast Go.Proofs.YtkljcdghbefceaaGreatDoorW.PrintMore
open PFnValidLog
theorem admN_cnt {g : List Tk} (hg : TOk g) (rm : List Int) (wk : Int) (r : List Nat) (l : List Nat) : ∀ j, j ≤ l.length → (admN g rm wk (cnt g r) (l.take j)).1 = cnt g (r ++ (admN g rm wk (cnt g r) (l.take j)).2)
 | 0, _ => by simp [admN]
 | j + 1, hj => by
  have h1 := admN_cnt hg rm wk r l j (by omega)
  rw [List.take_succ_eq_append_getElem (by omega), admN_snoc]
  generalize admN g rm wk (cnt g r) (l.take j) = st at h1
  unfold admStep
  split
  ·
   show st.1.add _ _ 1 = cnt g (r ++ (st.2 ++ [l[j]]))
   rw [← List.append_assoc, cnt_snoc (p := (rdTk g l[j]).f2.toNat) _ (by have := hg.2.2.1 l[j]; omega), h1]
  ·
   exact h1
theorem admFold_full {g : List Tk} (rm : List Int) {wk : Int} {st : Ct × List Nat} (h : wk ≤ st.1.t) : ∀ l : List Nat, l.foldl (admStep g rm wk) st = st
 | [] => rfl
 | i :: l => by
  have e : admStep g rm wk st i = st := by
   unfold admStep Ct.can
   rw [decide_eq_false (by omega), Bool.false_and]
   rfl
  rw [List.foldl_cons, e]
  exact admFold_full rm h l
theorem admN_full {g : List Tk} (rm : List Int) {wk : Int} (c : Ct) (l : List Nat) (j : Nat) (h : wk ≤ (admN g rm wk c (l.take j)).1.t) : admN g rm wk c l = admN g rm wk c (l.take j) := by
 conv => lhs; rw [← List.take_append_drop j l]
 unfold admN at h ⊢
 rw [List.foldl_append]
 exact admFold_full rm h _
theorem admN_sub (g : List Tk) (rm : List Int) (wk : Int) (c : Ct) (l : List Nat) : ∀ j, j ≤ l.length → ∀ i ∈ (admN g rm wk c (l.take j)).2, i ∈ l
 | 0, _ => by simp [admN]
 | j + 1, hj => by
  have h1 := admN_sub g rm wk c l j (by omega)
  rw [List.take_succ_eq_append_getElem (by omega), admN_snoc]
  unfold admStep
  split
  ·
   intro i hi
   rcases List.mem_append.1 hi with h | h
   ·
    exact h1 i h
   ·
    rw [List.mem_singleton] at h
    rw [h]
    exact List.getElem_mem _
  ·
   exact h1
theorem cnt_small100 {g : List Tk} (hg : TOk g) {l : List Nat} (hl : l.length ≤ 50) : (cnt g l).small 100 := by
 refine ⟨⟨?_, ?_⟩, fun j => ?_⟩
 ·
  show -100 ≤ (l.length : Int)
  omega
 ·
  show (l.length : Int) ≤ 100
  omega
 ·
  have := usedS_bound hg j l
  show -(1000 * 100) ≤ usedS g l j ∧ usedS g l j ≤ 1000 * 100
  omega
structure Two (W : World) (base : Nat) (u v : Value) (xs ys : List Int) : Prop where
 a : Kd.R (Kd.int .i64) 3 W base (fun _ => True) u xs
 b : Kd.R (Kd.int .i64) 3 W base (fun _ => True) v ys
 ne : ∀ k, u.ownBlock = some k → v.ownBlock ≠ some k
theorem Two.below {W W' : World} {base : Nat} {u v : Value} {xs ys : List Int} (h : Two W base u v xs ys) (hb : Below W.heap.size W W') : Two W' base u v xs ys := ⟨Kd.R_below h.a hb, Kd.R_below h.b hb, h.ne⟩
theorem Two.swap {W : World} {base : Nat} {u v : Value} {xs ys : List Int} (h : Two W base u v xs ys) : Two W base v u ys xs := ⟨h.b, h.a, fun k h1 h2 => h.ne k h2 h1⟩
theorem R_lt {W : World} {base : Nat} {u : Value} {xs : List Int} (h : Kd.R (Kd.int .i64) 3 W base (fun _ => True) u xs) {k : Nat} (hk : u.ownBlock = some k) : k < W.heap.size := ((Kd.R_bound h).1 k hk).2.2.1
theorem Two.grow {W W1 : World} {base : Nat} {u v u1 : Value} {xs ys xs1 : List Int} (h : Two W base u v xs ys) (h1 : Kd.R (Kd.int .i64) 3 W1 base (fun _ => True) u1 xs1) (hg : W.grownBy W1 u.ownBlock) (hat : u1.ownBlock = u.ownBlock ∨ ∃ b, u1.ownBlock = some b ∧ W.heap.size ≤ b) : Two W1 base u1 v xs1 ys := by
 refine ⟨h1, Kd.R_mono (Kd.R_grown (Kd.R_of_own (ok := fun k => v.ownBlock = some k) (Kd.own_of_R h.b) (fun k hk => hk)) hg (fun k hk e => h.ne k e.symm hk)) (fun _ _ => trivial), fun k hk hv => ?_⟩
 rcases hat with e | ⟨b, e, hb⟩
 ·
  exact h.ne k (e ▸ hk) hv
 ·
  rw [e] at hk
  cases hk
  have := R_lt h.b hv
  omega
end Go.Proofs.YtkljcdghbefceaaGreatDoor

namespace Go.Proofs.YtkljcdghbefceaaGreatDoor
set_option linter.unusedVariables false
set_option linter.unusedSimpArgs false
open Go.RowKit Go.Shelf Bits
open Go.Proofs.YtkljcdghbefceaaGreatDoorW.PrintWords Go.Proofs.YtkljcdghbefceaaGreatDoorW.PrintLast Go.Proofs.YtkljcdghbefceaaGreatDoorW.PrintMore
attribute [local go_sem] Oper.semAt_some
def needsIn (ns : List Nat) (s i : Nat) : Bool := decide (diff (ns.getD i 0) s = 0)
def closedN (ns : List Nat) (s : Nat) : Bool := (elems s).all (needsIn ns s)
def doneN (g : List Tk) (l : List Int) : Option (List Nat × Nat) := (graphN g).bind fun ns => (setOfN l g.length).bind fun s => if closedN ns s then some (ns, s) else none
def doneRet (C s : Nat) : Bool → Value
 | true => .tuple #[.pointer (some ⟨C, 0, none⟩), .int .u16 (s : Nat), .bool true]
 | false => .tuple #[.pointer none, .int .u16 0, .bool false]
theorem below3 (w : World) (o1 o2 o3 : Obj) : Below w.heap.size w (((w.alloc o1).alloc o2).alloc o3) := (((Below.refl _ w).alloc (Nat.le_refl _) _).alloc (by simp) _).alloc (by simp; omega) _
theorem three_sets {W : World} {B : Nat} {t4 t5 t6 : TypeId} {v4 v5 v6 : Value} (b4 : Boxed W B t4 v4) (b5 : Boxed W (B + 1) t5 v5) (b6 : Boxed W (B + 1 + 1) t6 v6) (x y z : Value) :
  ∃ W', ((W.setCell ⟨B, 0, none⟩ x).setCell ⟨B + 1, 0, none⟩ y).setCell ⟨B + 1 + 1, 0, none⟩ z = W' ∧ Boxed W' B t4 x ∧ Boxed W' (B + 1) t5 y ∧ Boxed W' (B + 1 + 1) t6 z ∧ KeepsOthers W W' ∧ Below B W W' ∧ ∀ k, B + 1 + 1 < k → W'.heap[k]? = W.heap[k]? :=
 ⟨_, rfl, blk_far (blk_far (b4.set x) (by simp) _) (by simp; omega) _, blk_far ((show Boxed (W.setCell ⟨B, 0, none⟩ x) _ _ _ from blk_far b5 (by simp) _).set y) (by simp) _,
  (show Boxed ((W.setCell ⟨B, 0, none⟩ x).setCell ⟨B + 1, 0, none⟩ y) _ _ _ from blk_far (blk_far b6 (by simp; omega) _) (by simp) _).set z,
  ((KeepsOthers.setCell _ _ _).trans (KeepsOthers.setCell _ _ _)).trans (KeepsOthers.setCell _ _ _),
  (((Below.refl _ W).setCell (p := ⟨B, 0, none⟩) (by simp) _).setCell (p := ⟨B + 1, 0, none⟩) (by simp) _).setCell (p := ⟨B + 1 + 1, 0, none⟩) (by simp; omega) _,
  fun k hk => (Below.heap_setCell _ _ _ _ (by simp; omega)).trans ((Below.heap_setCell _ _ _ _ (by simp; omega)).trans (Below.heap_setCell _ _ _ _ (by simp; omega)))⟩
def Three (W : World) (B : Nat) : Prop := (∃ x, W.cell? ⟨B, 0, none⟩ = some x) ∧ (∃ x, W.cell? ⟨B + 1, 0, none⟩ = some x) ∧ (∃ x, W.cell? ⟨B + 1 + 1, 0, none⟩ = some x) ∧ W.frozen? ⟨B, 0, none⟩ = false ∧ W.frozen? ⟨B + 1, 0, none⟩ = false ∧ W.frozen? ⟨B + 1 + 1, 0, none⟩ = false
theorem three_facts {W : World} {B : Nat} {t4 t5 t6 : TypeId} {v4 v5 v6 : Value} (b4 : Boxed W B t4 v4) (b5 : Boxed W (B + 1) t5 v5) (b6 : Boxed W (B + 1 + 1) t6 v6) : Three W B := ⟨⟨_, b4.cell⟩, ⟨_, b5.cell⟩, ⟨_, b6.cell⟩, b4.frozen, b5.frozen, b6.frozen⟩
structure P3 (W0 : World) (B : Nat) (t4 t5 t6 : TypeId) (x y z : Value) (W : World) : Prop where
 b4 : Boxed W B t4 x
 b5 : Boxed W (B + 1) t5 y
 b6 : Boxed W (B + 1 + 1) t6 z
 below : Below B W0 W
 up : ∀ k, B + 1 + 1 < k → W.heap[k]? = W0.heap[k]?
section
variable {W0 W : World} {B : Nat} {t4 t5 t6 : TypeId} {x y z v : Value}
theorem P3.set4 (h : P3 W0 B t4 t5 t6 v y z W) : P3 W0 B t4 t5 t6 x y z (W.setCell ⟨B, 0, none⟩ x) :=
 ⟨h.b4.set x, blk_far h.b5 (by simp) _, blk_far h.b6 (by simp; omega) _, h.below.setCell (p := ⟨B, 0, none⟩) (by simp) _, fun k hk => (Below.heap_setCell _ _ _ _ (by simp; omega)).trans (h.up k hk)⟩
theorem P3.set5 (h : P3 W0 B t4 t5 t6 x v z W) : P3 W0 B t4 t5 t6 x y z (W.setCell ⟨B + 1, 0, none⟩ y) :=
 ⟨blk_far h.b4 (by simp) _, h.b5.set y, blk_far h.b6 (by simp) _, h.below.setCell (p := ⟨B + 1, 0, none⟩) (by simp) _, fun k hk => (Below.heap_setCell _ _ _ _ (by simp; omega)).trans (h.up k hk)⟩
theorem P3.set6 (h : P3 W0 B t4 t5 t6 x y v W) : P3 W0 B t4 t5 t6 x y z (W.setCell ⟨B + 1 + 1, 0, none⟩ z) :=
 ⟨blk_far h.b4 (by simp; omega) _, blk_far h.b5 (by simp) _, h.b6.set z, h.below.setCell (p := ⟨B + 1 + 1, 0, none⟩) (by simp; omega) _, fun k hk => (Below.heap_setCell _ _ _ _ (by simp; omega)).trans (h.up k hk)⟩
theorem P3.drew (h : P3 W0 B t4 t5 t6 x y z W) : P3 W0 B t4 t5 t6 x y z W.drew := ⟨h.b4, h.b5, h.b6, h.below.drew, h.up⟩
end
theorem three_allocs (w : World) (t4 t5 t6 : TypeId) (x y z : Value) : Boxed (((w.alloc (.cells #[x] t4)).alloc (.cells #[y] t5)).alloc (.cells #[z] t6)) w.heap.size t4 x ∧ Boxed (((w.alloc (.cells #[x] t4)).alloc (.cells #[y] t5)).alloc (.cells #[z] t6)) (w.heap.size + 1) t5 y ∧
  Boxed (((w.alloc (.cells #[x] t4)).alloc (.cells #[y] t5)).alloc (.cells #[z] t6)) (w.heap.size + 1 + 1) t6 z ∧ Below w.heap.size w (((w.alloc (.cells #[x] t4)).alloc (.cells #[y] t5)).alloc (.cells #[z] t6)) ∧ (((w.alloc (.cells #[x] t4)).alloc (.cells #[y] t5)).alloc (.cells #[z] t6)).heap.size = w.heap.size + 1 + 1 + 1 := by
 have h5 := (Boxed.new (w.alloc (.cells #[x] t4)) t5 y).alloc (.cells #[z] t6)
 have h6 := Boxed.new ((w.alloc (.cells #[x] t4)).alloc (.cells #[y] t5)) t6 z
 rw [World.size_alloc] at h5
 rw [World.size_alloc, World.size_alloc] at h6
 exact ⟨((Boxed.new w _ _).alloc _).alloc _, h5, h6, below3 _ _ _ _, by simp⟩
theorem graph_some_lt {g : List Tk} {l : List Int} {ns : List Nat} {s : Nat} (hg : graphN g = some ns) (hs : setOfN l g.length = some s) : doneN g l = if closedN ns s then some (ns, s) else none := by
 unfold doneN
 rw [hg]
 show ((setOfN l g.length).bind _) = _
 rw [hs]
 rfl
end Go.Proofs.YtkljcdghbefceaaGreatDoor

namespace Go.Proofs.YtkljcdghbefceaaGreatDoor
set_option linter.unusedVariables false
set_option linter.unusedSimpArgs false
def lessB (T : List Int) (a b : Nat) : Bool := if T.getD a 0 ≠ T.getD b 0 then decide (T.getD a 0 > T.getD b 0) else decide (a < b)
def leT (T : List Int) (a b : Nat) : Prop := T.getD b 0 < T.getD a 0 ∨ (T.getD a 0 = T.getD b 0 ∧ a ≤ b)
theorem less_false {T : List Int} {a b : Nat} : lessB T a b = false ↔ leT T b a := by
 unfold lessB leT
 split
 ·
  rw [decide_eq_false_iff_not]
  omega
 ·
  rw [decide_eq_false_iff_not]
  omega
theorem less_true {T : List Int} {a b : Nat} (h : lessB T a b = true) : leT T a b := by
 unfold lessB at h
 unfold leT
 split at h
 ·
  rw [decide_eq_true_eq] at h
  omega
 ·
  rw [decide_eq_true_eq] at h
  omega
theorem leT.trans {T : List Int} {a b c : Nat} (h : leT T a b) (k : leT T b c) : leT T a c := by
 unfold leT at *
 omega
theorem leT.refl (T : List Int) (a : Nat) : leT T a a := .inr ⟨rfl, Nat.le_refl _⟩
theorem leT.antisymm {T : List Int} {a b : Nat} (h : leT T a b) (k : leT T b a) : a = b := by
 unfold leT at *
 omega
def swapL (L : List Nat) (i k : Nat) : List Nat := (L.set i (L.getD k 0)).set k (L.getD i 0)
theorem length_swapL (L : List Nat) (i k : Nat) : (swapL L i k).length = L.length := by simp [swapL]
theorem getD_swap {L : List Nat} {i k : Nat} (hi : i < L.length) (hk : k < L.length) (j : Nat) : (swapL L i k).getD j 0 = if j = k then L.getD i 0 else if j = i then L.getD k 0 else L.getD j 0 := by
 unfold swapL
 simp only [List.getD_eq_getElem?_getD, List.getElem?_set, List.length_set]
 by_cases h1 : k = j
 ·
  subst h1
  simp [hk]
 ·
  have h1' : ¬ j = k := fun e => h1 e.symm
  rw [if_neg h1, if_neg h1']
  by_cases h2 : i = j
  ·
   subst h2
   simp [hi]
  ·
   have h2' : ¬ j = i := fun e => h2 e.symm
   rw [if_neg h2, if_neg h2']
theorem swapL_perm {L : List Nat} {i k : Nat} (hi : i < L.length) (hk : k < L.length) : (swapL L i k).Perm L := by
 unfold swapL
 rw [List.getD_eq_getElem?_getD, List.getD_eq_getElem?_getD, List.getElem?_eq_getElem hi, List.getElem?_eq_getElem hk]
 exact List.set_set_perm hi hk
theorem mem_swapL {L : List Nat} {i k : Nat} (hi : i < L.length) (hk : k < L.length) {x : Nat} (hx : x ∈ swapL L i k) : x ∈ L := (swapL_perm hi hk).mem_iff.1 hx
def upL (T : List Int) : Nat → List Nat → Nat → List Nat
 | 0, L, _ => L
 | c + 1, L, j => if (j - 1) / 2 = j ∨ lessB T (L.getD j 0) (L.getD ((j - 1) / 2) 0) = false then L else upL T c (swapL L ((j - 1) / 2) j) ((j - 1) / 2)
def childL (T : List Int) (L : List Nat) (i n : Nat) : Nat := if 2 * i + 2 < n ∧ lessB T (L.getD (2 * i + 2) 0) (L.getD (2 * i + 1) 0) = true then 2 * i + 2 else 2 * i + 1
def downL (T : List Int) : Nat → List Nat → Nat → Nat → List Nat
 | 0, L, _, _ => L
 | c + 1, L, i, n => if n ≤ 2 * i + 1 then L else if lessB T (L.getD (childL T L i n) 0) (L.getD i 0) = false then L else downL T c (swapL L i (childL T L i n)) (childL T L i n) n
def pushL (T : List Int) (L : List Nat) (x : Nat) : List Nat := upL T (L.length + 1) (L ++ [x]) L.length
def popL (T : List Int) (L : List Nat) : List Nat := downL T L.length (swapL L 0 (L.length - 1)) 0 (L.length - 1)
def buildL (T : List Int) (xs : List Nat) : List Nat := xs.foldl (pushL T) []
def drainL (T : List Int) : Nat → List Nat → List Nat
 | 0, _ => []
 | c + 1, L => if L.length = 0 then [] else (popL T L).getD (L.length - 1) 0 :: drainL T c ((popL T L).take (L.length - 1))
def HP (T : List Int) (L : List Nat) (n : Nat) : Prop := ∀ i, 0 < i → i < n → leT T (L.getD ((i - 1) / 2) 0) (L.getD i 0)
def UpI (T : List Int) (L : List Nat) (j : Nat) : Prop := (∀ i, 0 < i → i < L.length → i ≠ j → leT T (L.getD ((i - 1) / 2) 0) (L.getD i 0)) ∧ (0 < j → ∀ i, 0 < i → i < L.length → (i - 1) / 2 = j → leT T (L.getD ((j - 1) / 2) 0) (L.getD i 0))
def DownI (T : List Int) (L : List Nat) (i n : Nat) : Prop := (∀ k, 0 < k → k < n → (k - 1) / 2 ≠ i → leT T (L.getD ((k - 1) / 2) 0) (L.getD k 0)) ∧ (0 < i → ∀ k, 0 < k → k < n → (k - 1) / 2 = i → leT T (L.getD ((i - 1) / 2) 0) (L.getD k 0))
theorem up_heap (T : List Int) : ∀ (c : Nat) (L : List Nat) (j : Nat), j < c → j < L.length → UpI T L j → HP T (upL T c L j) L.length ∧ (upL T c L j).Perm L
 | 0, L, j, hc, _, _ => absurd hc (Nat.not_lt_zero _)
 | c + 1, L, j, hc, hj, hU => by
  unfold upL
  split
  ·
   rename_i h
   refine ⟨fun i h0 h1 => ?_, List.Perm.refl _⟩
   by_cases he : i = j
   ·
    subst he
    rcases h with h | h
    ·
     omega
    ·
     exact less_false.1 h
   ·
    exact hU.1 i h0 h1 he
  ·
   rename_i h
   have h1 : ¬ (j - 1) / 2 = j := fun e => h (.inl e)
   have h2 : lessB T (L.getD j 0) (L.getD ((j - 1) / 2) 0) = true := by
    cases hb : lessB T (L.getD j 0) (L.getD ((j - 1) / 2) 0) with
    | true => rfl
    | false => exact absurd (.inr hb) h
   have hx := less_true h2
   generalize hp : (j - 1) / 2 = p at *
   have hpj : p < j := by omega
   have hpl : p < L.length := by omega
   have hg := getD_swap hpl hj
   have ih := up_heap T c (swapL L p j) p (by omega) (by rw [length_swapL]; exact hpl) ⟨fun i i0 i1 i2 => ?_, fun p0 i i0 i1 i2 => ?_⟩
   ·
    rw [length_swapL] at ih
    exact ⟨ih.1, ih.2.trans (swapL_perm hpl hj)⟩
   ·
    rw [length_swapL] at i1
    rw [hg, hg]
    by_cases e1 : i = j
    ·
     subst e1
     rw [if_pos rfl, hp, if_neg (by omega), if_pos rfl]
     exact hx
    ·
     rw [if_neg e1, if_neg i2]
     by_cases e2 : (i - 1) / 2 = j
     ·
      rw [if_pos e2]
      have := hU.2 (by omega) i i0 i1 e2
      rwa [hp] at this
     ·
      rw [if_neg e2]
      by_cases e3 : (i - 1) / 2 = p
      ·
       rw [if_pos e3]
       have := hU.1 i i0 i1 e1
       rw [e3] at this
       exact hx.trans this
      ·
       rw [if_neg e3]
       exact hU.1 i i0 i1 e1
   ·
    rw [length_swapL] at i1
    have h3 := hU.1 p p0 hpl (by omega)
    rw [hg, hg, if_neg (by omega), if_neg (by omega)]
    by_cases e1 : i = j
    ·
     rw [if_pos e1]
     exact h3
    ·
     rw [if_neg e1, if_neg (by omega)]
     have := hU.1 i i0 i1 e1
     rw [i2] at this
     exact h3.trans this
theorem down_heap (T : List Int) : ∀ (c : Nat) (L : List Nat) (i n : Nat), n ≤ i + c → n ≤ L.length → i < L.length → DownI T L i n → HP T (downL T c L i n) n ∧ (downL T c L i n).Perm L ∧ (∀ k, n ≤ k → i < k → (downL T c L i n).getD k 0 = L.getD k 0) ∧ (downL T c L i n).length = L.length
 | 0, L, i, n, hc, hn, hi, hD => ⟨fun k h0 h1 => hD.1 k h0 h1 (by omega), List.Perm.refl _, fun _ _ _ => rfl, rfl⟩
 | c + 1, L, i, n, hc, hn, hi, hD => by
  unfold downL
  split
  ·
   exact ⟨fun k h0 h1 => hD.1 k h0 h1 (by omega), List.Perm.refl _, fun _ _ _ => rfl, rfl⟩
  ·
   rename_i hn1
   have hch : (childL T L i n = 2 * i + 1 ∨ childL T L i n = 2 * i + 2) ∧ childL T L i n < n ∧ ∀ k, 0 < k → k < n → (k - 1) / 2 = i → leT T (L.getD (childL T L i n) 0) (L.getD k 0) := by
    unfold childL
    split
    ·
     rename_i h
     refine ⟨.inr rfl, h.1, fun k k0 k1 k2 => ?_⟩
     have : k = 2 * i + 1 ∨ k = 2 * i + 2 := by omega
     rcases this with rfl | rfl
     ·
      exact less_true h.2
     ·
      exact leT.refl _ _
    ·
     rename_i h
     refine ⟨.inl rfl, by omega, fun k k0 k1 k2 => ?_⟩
     have : k = 2 * i + 1 ∨ k = 2 * i + 2 := by omega
     rcases this with rfl | rfl
     ·
      exact leT.refl _ _
     ·
      refine less_false.1 ?_
      cases hb : lessB T (L.getD (2 * i + 2) 0) (L.getD (2 * i + 1) 0) with
      | false => rfl
      | true => exact absurd ⟨k1, hb⟩ h
   generalize childL T L i n = j at hch ⊢
   obtain ⟨hj, hjn, hmin⟩ := hch
   split
   ·
    rename_i h
    have hle := less_false.1 h
    refine ⟨fun k k0 k1 => ?_, List.Perm.refl _, fun _ _ _ => rfl, rfl⟩
    by_cases e : (k - 1) / 2 = i
    ·
     rw [e]
     exact hle.trans (hmin k k0 k1 e)
    ·
     exact hD.1 k k0 k1 e
   ·
    rename_i h
    have hx : leT T (L.getD j 0) (L.getD i 0) := less_true (by
     cases hb : lessB T (L.getD j 0) (L.getD i 0) with
     | true => rfl
     | false => exact absurd hb h)
    have hjl : j < L.length := by omega
    have hg := getD_swap hi hjl
    have ih := down_heap T c (swapL L i j) j n (by omega) (by rw [length_swapL]; exact hn) (by rw [length_swapL]; exact hjl) ⟨fun k k0 k1 k2 => ?_, fun _ k k0 k1 k2 => ?_⟩
    ·
     refine ⟨ih.1, ih.2.1.trans (swapL_perm hi hjl), fun k k1 k2 => ?_, by rw [ih.2.2.2, length_swapL]⟩
     rw [ih.2.2.1 k k1 (by omega), hg, if_neg (by omega), if_neg (by omega)]
    ·
     rw [hg, hg]
     rw [if_neg k2]
     by_cases e1 : k = j
     ·
      have e2 : (k - 1) / 2 = i := by omega
      rw [if_pos e1, if_pos e2]
      exact hx
     ·
      rw [if_neg e1]
      by_cases e2 : (k - 1) / 2 = i
      ·
       rw [if_pos e2, if_neg (by omega)]
       exact hmin k k0 k1 e2
      ·
       rw [if_neg e2]
       by_cases e3 : k = i
       ·
        subst e3
        rw [if_pos rfl]
        exact hD.2 (by omega) j (by omega) hjn (by omega)
       ·
        rw [if_neg e3]
        exact hD.1 k k0 k1 e2
    ·
     have e : (j - 1) / 2 = i := by omega
     rw [hg, hg, e, if_neg (by omega), if_pos rfl, if_neg (by omega), if_neg (by omega)]
     have := hD.1 k k0 k1 (by omega)
     rwa [k2] at this
theorem push_heap {T : List Int} {L : List Nat} (h : HP T L L.length) (x : Nat) : HP T (pushL T L x) (L.length + 1) ∧ (pushL T L x).Perm (L ++ [x]) ∧ (pushL T L x).length = L.length + 1 := by
 unfold pushL
 have hlen : (L ++ [x]).length = L.length + 1 := by simp
 have hu := up_heap T (L.length + 1) (L ++ [x]) L.length (by omega) (by omega) ⟨fun i i0 i1 i2 => ?_, fun _ i i0 i1 i2 => by omega⟩
 ·
  rw [hlen] at hu
  exact ⟨hu.1, hu.2, hu.2.length_eq.trans hlen⟩
 ·
  have hi : i < L.length := by omega
  have := h i i0 hi
  simp only [List.getD_eq_getElem?_getD] at this ⊢
  rwa [List.getElem?_append_left (by omega), List.getElem?_append_left hi]
theorem build_heap {T : List Int} : ∀ (xs L : List Nat), HP T L L.length → HP T (xs.foldl (pushL T) L) (xs.foldl (pushL T) L).length ∧ (xs.foldl (pushL T) L).Perm (L ++ xs)
 | [], L, h => ⟨h, by simp⟩
 | x :: xs, L, h => by
  obtain ⟨p1, p2, p3⟩ := push_heap h x
  obtain ⟨q1, q2⟩ := build_heap xs (pushL T L x) (by rw [p3]; exact p1)
  refine ⟨q1, q2.trans ?_⟩
  have := p2.append_right xs
  simpa using this
theorem heap_min {T : List Int} {L : List Nat} {n : Nat} (h : HP T L n) : ∀ (m i : Nat), i ≤ m → i < n → leT T (L.getD 0 0) (L.getD i 0)
 | 0, i, h0, _ => by
  obtain rfl : i = 0 := by omega
  exact leT.refl _ _
 | m + 1, i, h0, h1 => by
  by_cases e : i = 0
  ·
   subst e
   exact leT.refl _ _
  ·
   exact (heap_min h m ((i - 1) / 2) (by omega) (by omega)).trans (h i (by omega) h1)
theorem pop_heap {T : List Int} {L : List Nat} (hL : 0 < L.length) (h : HP T L L.length) :
  (popL T L).length = L.length ∧ (popL T L).getD (L.length - 1) 0 = L.getD 0 0 ∧ HP T ((popL T L).take (L.length - 1)) (L.length - 1) ∧ L.Perm (L.getD 0 0 :: (popL T L).take (L.length - 1)) := by
 unfold popL
 have hn : L.length - 1 < L.length := by omega
 have hg := getD_swap hL hn
 have hd := down_heap T L.length (swapL L 0 (L.length - 1)) 0 (L.length - 1) (by omega) (by rw [length_swapL]; omega) (by rw [length_swapL]; exact hL) ⟨fun k k0 k1 k2 => ?_, fun h0 => absurd h0 (Nat.lt_irrefl _)⟩
 ·
  obtain ⟨d1, d2, d3, d4⟩ := hd
  rw [length_swapL] at d4
  generalize downL T L.length (swapL L 0 (L.length - 1)) 0 (L.length - 1) = M at *
  have hlast : M.getD (L.length - 1) 0 = L.getD 0 0 := by
   by_cases e : 0 < L.length - 1
   ·
    rw [d3 _ (Nat.le_refl _) e, hg, if_pos rfl]
   ·
    have e1 : L.length = 1 := by omega
    have p := d2.trans (swapL_perm hL hn)
    match L, M, e1, d4, p with
    | [a], [b], _, _, p =>
     have := List.singleton_perm_singleton.1 p
     simp [this]
  refine ⟨d4, hlast, fun i i0 i1 => ?_, ?_⟩
  ·
   have := d1 i i0 i1
   simp only [List.getD_eq_getElem?_getD] at this ⊢
   rwa [List.getElem?_take_of_lt (by omega), List.getElem?_take_of_lt i1]
  ·
   have hm : M = M.take (L.length - 1) ++ [M.getD (L.length - 1) 0] := by
    conv => lhs; rw [← List.take_append_drop (L.length - 1) M]
    congr 1
    rw [List.drop_eq_getElem_cons (by omega), List.drop_eq_nil_of_le (by omega), List.getD_eq_getElem?_getD, List.getElem?_eq_getElem (by omega)]
    rfl
   have p := (d2.trans (swapL_perm hL hn)).symm
   rw [hm, hlast] at p
   exact p.trans List.perm_append_comm
 ·
  rw [hg, hg, if_neg (by omega), if_neg k2, if_neg (by omega), if_neg (by omega)]
  exact h k k0 (by omega)
theorem drain_sorted {T : List Int} : ∀ (c : Nat) (L : List Nat), L.length ≤ c → HP T L L.length → (drainL T c L).Pairwise (leT T) ∧ (drainL T c L).Perm L
 | 0, L, hc, _ => by
  obtain rfl : L = [] := List.eq_nil_of_length_eq_zero (by omega)
  exact ⟨List.Pairwise.nil, List.Perm.refl _⟩
 | c + 1, L, hc, h => by
  unfold drainL
  split
  ·
   rename_i h0
   obtain rfl := List.eq_nil_of_length_eq_zero h0
   exact ⟨List.Pairwise.nil, List.Perm.refl _⟩
  ·
   rename_i h0
   obtain ⟨p1, p2, p3, p4⟩ := pop_heap (by omega) h
   have hl : ((popL T L).take (L.length - 1)).length = L.length - 1 := by rw [List.length_take]; omega
   obtain ⟨q1, q2⟩ := drain_sorted c ((popL T L).take (L.length - 1)) (by omega) (by rw [hl]; exact p3)
   rw [p2]
   refine ⟨List.pairwise_cons.2 ⟨fun x hx => ?_, q1⟩, (q2.cons _).trans p4.symm⟩
   have hx2 : x ∈ L := p4.mem_iff.2 (List.mem_cons_of_mem _ (q2.mem_iff.1 hx))
   obtain ⟨i, hi, rfl⟩ := List.getElem_of_mem hx2
   have := heap_min h i i (Nat.le_refl _) hi
   rwa [List.getD_eq_getElem?_getD (i := i), List.getElem?_eq_getElem hi] at this
def rankL (T : List Int) (xs : List Nat) : List Nat := drainL T (buildL T xs).length (buildL T xs)
theorem rank_sorted (T : List Int) (xs : List Nat) : (rankL T xs).Pairwise (leT T) ∧ (rankL T xs).Perm xs := by
 obtain ⟨b1, b2⟩ := build_heap (T := T) xs [] (fun i _ h => absurd h (Nat.not_lt_zero _))
 obtain ⟨d1, d2⟩ := drain_sorted _ (buildL T xs) (Nat.le_refl _) b1
 exact ⟨d1, d2.trans (show (buildL T xs).Perm xs from b2)⟩
theorem rank_unique {T : List Int} {l m : List Nat} (hl : l.Pairwise (leT T)) (hm : m.Pairwise (leT T)) (h : l.Perm m) : l = m := h.eq_of_pairwise (fun _ _ _ _ => leT.antisymm) hl hm
end Go.Proofs.YtkljcdghbefceaaGreatDoor

namespace Go.Proofs.YtkljcdghbefceaaGreatDoor
set_option linter.unusedVariables false
set_option linter.unusedSimpArgs false
open Go.RowKit Go.Shelf Bits
open Go.Proofs.YtkljcdghbefceaaGreatDoorW.PrintWords Go.Proofs.YtkljcdghbefceaaGreatDoorW.PrintLast Go.Proofs.YtkljcdghbefceaaGreatDoorW.PrintMore
def RankAt (W : World) (h : Nat) (B : Option Nat) (T : List Int) (L : List Nat) : Prop :=
 ∃ At ct v, W.heap[h]? = some (.cells #[.slice At T.length ct, v] 112 (0, 0)) ∧ (Kd.int .i64).C W At T.length T ∧ (∀ ad, At = some ad → 0 < T.length → ad.block < h) ∧
  Kd.R (Kd.int .i64) 3 W (h + 1) (fun _ => True) v (ints L) ∧ v.ownBlock = B
theorem RankAt.move {w w' : World} {h : Nat} {B : Option Nat} {T : List Int} {L : List Nat} (hR : RankAt w h B T L) (hm : ∀ k, k < w.heap.size → k ≤ h ∨ some k = B → w'.heap[k]? = w.heap[k]?) : RankAt w' h B T L := by
 obtain ⟨At, ct, v, h1, h3, h4, h5, h6⟩ := hR
 refine ⟨At, ct, v, (hm h (blk_lt h1) (.inl (Nat.le_refl _))).trans h1, C_block h3 fun ad e hn => hm _ ?_ (.inl (Nat.le_of_lt (h4 ad e hn))), h4, Kd.R_mono (Kd.R_step (Kd.R_tight rfl h5) fun k hk hlt => hm k hlt (.inr (hk.trans h6))) (fun _ _ => trivial), h6⟩
 exact Nat.lt_trans (h4 ad e hn) (blk_lt h1)
theorem RankAt.drewN {W : World} {h : Nat} {B : Option Nat} {T : List Int} {L : List Nat} (hR : RankAt W h B T L) (q : Nat) : RankAt (W.drewN q) h B T L := hR.move fun _ _ _ => rfl
theorem RankAt.below {w w' : World} {h : Nat} {B : Option Nat} {T : List Int} {L : List Nat} (hR : RankAt w h B T L) (hb : Below w.heap.size w w') : RankAt w' h B T L := hR.move fun k hk _ => hb.block k hk
theorem RankAt.lt {w : World} {h : Nat} {B : Option Nat} {T : List Int} {L : List Nat} (hR : RankAt w h B T L) : h < w.heap.size := by
 obtain ⟨At, ct, v, h1, _⟩ := hR
 exact blk_lt h1
theorem rd_ints (L : List Nat) (i : Nat) : rdOf (0 : Int) (ints L) (i : Int) = ((L.getD i 0 : Nat) : Int) := by
 unfold rdOf
 rw [Int.toNat_natCast, ints_getD]
theorem drew3 (w : World) (a b c : Nat) : ∃ q, ((w.drewN a).drewN b).drewN c = w.drewN q := ⟨a + b + c, by rw [World.drewN_drewN, World.drewN_drewN, Nat.add_assoc]⟩
set_option maxRecDepth 1000000 in
set_option maxHeartbeats 2000000 in
theorem Less_calls (h : Nat) (B : Option Nat) (T : List Int) (L : List Nat) (i k : Nat) (hi : i < L.length) (hk : k < L.length) (hT : ∀ x ∈ L, x < T.length) (w : World) (hR : RankAt w h B T L) :
  Calls Tryz.prog 124 #[.pointer (some ⟨h, 0, none⟩), .int .i64 i, .int .i64 k] w fun e w' => e = .returned (.bool (lessB T (L.getD i 0) (L.getD k 0))) ∧ ∃ q, w' = w.drewN q := by
 obtain ⟨At, ct, v, hB, hCT, hAT, hRL, hvB⟩ := hR
 obtain ⟨b, cap, rfl, _, _, _⟩ := Kd.R_form hRL (by rw [ints_length]; omega)
 have ci := (Kd.R_cell (0 : Int) hRL i (by omega) (by rw [ints_length]; omega)).1
 have ck := (Kd.R_cell (0 : Int) hRL k (by omega) (by rw [ints_length]; omega)).1
 rw [rd_ints, Int.toNat_natCast] at ci ck
 have hl := ints_length L
 have h0 := blk_cell hB 0
 have h1 := blk_cell hB 1
 simp at h0 h1
 have ha : L.getD i 0 < T.length := hT _ (by rw [List.getD_eq_getElem?_getD, List.getElem?_eq_getElem hi]; exact List.getElem_mem _)
 have hb : L.getD k 0 < T.length := hT _ (by rw [List.getD_eq_getElem?_getD, List.getElem?_eq_getElem hk]; exact List.getElem_mem _)
 have HE : Hid (∀ a b, lessB T a b = if T.getD a 0 ≠ T.getD b 0 then decide (T.getD a 0 > T.getD b 0) else decide (a < b)) := Lib.hid fun _ _ => rfl
 generalize L.getD i 0 = x at ci ha ⊢
 generalize L.getD k 0 = y at ck hb ⊢
 obtain ⟨ad, rfl, cx⟩ := at_num hCT x ha
 obtain ⟨ad', e', cy⟩ := at_num hCT y hb
 obtain rfl : ad = ad' := Option.some.inj e'
 have HE2 := Lib.hid (HE.out x y)
 generalize T.getD x 0 = p at cx HE2
 generalize T.getD y 0 = q at cy HE2
 rw [hl] at h1
 generalize L.length = n at hi hk h1
 generalize T.length = m at ha hb h0
 have hi' : (i : Int) < n := by omega
 have hk' : (k : Int) < n := by omega
 have hx' : (x : Int) < m := by omega
 have hy' : (y : Int) < m := by omega
 generalize lessB T x y = r at HE2 ⊢
 clear hB hCT hAT hRL hvB hT hl HE e' hi hk ha hb
 by_cases hpq : p = q
 ·
  have hd : (p != q) = false := by rw [hpq]; simp
  have HR2 : Hid (decide (x < y) = r) := Lib.hid (by rw [HE2.out, if_neg (by simp [hpq])])
  clear HE2 hpq
  go_enter Tryz.func124, Tryz.ntmps124
  go_wp2
  go_quiet (fail)
  go_wp2
  go_quiet (fail)
  go_wp2
  go_ret
  exact ⟨ret_bool HR2.out, _, rfl⟩
 ·
  have hd : (p != q) = true := by simp [hpq]
  have HR2 : Hid (decide (p > q) = r) := Lib.hid (by rw [HE2.out, if_pos hpq])
  clear HE2 hpq
  go_enter Tryz.func124, Tryz.ntmps124
  go_wp2
  go_quiet (fail)
  go_wp2
  go_quiet (fail)
  go_wp2
  go_quiet (fail)
  go_wp2
  go_ret
  exact ⟨ret_bool HR2.out, drew3 _ _ _ _⟩
theorem ints_set (L : List Nat) (i x : Nat) : ints (L.set i x) = (ints L).set i (x : Int) := by simp [ints, List.map_set]
set_option maxRecDepth 1000000 in
set_option maxHeartbeats 4000000 in
theorem Swap_cells (h b cap n : Nat) (vt : Value) (x y : Int) (i k : Nat) (hi : i < n) (hk : k < n) (w : World) (hB : w.heap[h]? = some (.cells #[vt, .slice (some ⟨b, 0, none⟩) n cap] 112 (0, 0)))
  (ci : w.cell? ⟨b, i, none⟩ = some (.int .i64 x)) (ck : w.cell? ⟨b, k, none⟩ = some (.int .i64 y)) (fi : w.frozen? ⟨b, i, none⟩ = false) (fk : w.frozen? ⟨b, k, none⟩ = false) (hhb : h ≠ b) :
  Calls Tryz.prog 127 #[.pointer (some ⟨h, 0, none⟩), .int .i64 i, .int .i64 k] w fun e w' => e = .returned (.tuple #[]) ∧ ∃ q, w' = ((w.setCell ⟨b, i, none⟩ (.int .i64 y)).setCell ⟨b, k, none⟩ (.int .i64 x)).drewN q := by
 obtain ⟨v', hy'⟩ := cell?_setCell_some (w := w) (p := ⟨b, i, none⟩) (x := .int .i64 y) (q := ⟨b, k, none⟩) ck
 have h1 := blk_cell hB 1
 simp at h1
 have hi' : (i : Int) < n := by omega
 have hk' : (k : Int) < n := by omega
 clear hB hi hk
 go_enter Tryz.func127, Tryz.ntmps127
 go_wp2
 go_region
 all_goals (try go_wp2)
 all_goals go_end0
 all_goals exact ⟨rfl, 1, rfl⟩
theorem Swap_calls (h : Nat) (B : Option Nat) (T : List Int) (L : List Nat) (i k : Nat) (hi : i < L.length) (hk : k < L.length) (w : World) (hR : RankAt w h B T L) :
  Calls Tryz.prog 127 #[.pointer (some ⟨h, 0, none⟩), .int .i64 i, .int .i64 k] w fun e w' => e = .returned (.tuple #[]) ∧ RankAt w' h B T (swapL L i k) ∧ KeepBut w w' h B ∧ Below h w w' := by
 obtain ⟨At, ct, v, hB, hCT, hAT, hRL, hvB⟩ := hR
 have hl := ints_length L
 obtain ⟨b, cap, rfl, hb1, hb2, _⟩ := Kd.R_form hRL (by omega)
 obtain ⟨ci, fi⟩ := Kd.R_cell (0 : Int) hRL i (by omega) (by omega)
 obtain ⟨ck, fk⟩ := Kd.R_cell (0 : Int) hRL k (by omega) (by omega)
 rw [rd_ints, Int.toNat_natCast] at ci ck
 rw [Int.toNat_natCast] at fi fk
 have hbB : B = some b := by rw [← hvB]; simp [Value.ownBlock]
 have hhb : h ≠ b := by omega
 refine (Swap_cells h b cap (ints L).length _ _ _ i k (by omega) (by omega) w hB ci ck fi fk hhb).mono ?_
 rintro e w' ⟨rfl, q, rfl⟩
 obtain ⟨p1, g1⟩ := Kd.R_put hRL (i : Int) ((L.getD k 0 : Nat) : Int)
 rw [Int.toNat_natCast] at p1 g1
 have e1 : (ints L).length = ((ints L).set i ((L.getD k 0 : Nat) : Int)).length := by simp
 rw [e1] at p1
 obtain ⟨p2, g2⟩ := Kd.R_put p1 (k : Int) ((L.getD i 0 : Nat) : Int)
 rw [Int.toNat_natCast] at p2 g2
 refine ⟨rfl, ⟨At, ct, _, blk_far (blk_far hB hhb _) hhb _, C_block hCT fun ad e hn => ?_, hAT, ?_, hvB⟩, ?_, ?_⟩
 ·
  have := hAT ad e hn
  exact (Below.heap_setCell _ _ _ _ (by simp; omega)).trans (Below.heap_setCell _ _ _ _ (by simp; omega))
 ·
  unfold swapL
  rw [ints_set, ints_set]
  rw [← e1] at p2
  exact Kd.R_drewN p2 q
 ·
  rw [hbB]
  exact (KeepBut.of_grown g1 h).trans (KeepBut.of_grown g2 h) (.inl rfl)
 ·
  exact pw_below_drewN (((Below.refl h w).setCell (p := ⟨b, i, none⟩) (by simp; omega) _).setCell (p := ⟨b, k, none⟩) (by simp; omega) _) q
theorem mLess (h : Nat) : ∀ w, Sem.run Tryz.prog (method 267 110 (.pointer (some ⟨h, 0, none⟩)) "Less") w = .ok (124, .pointer (some ⟨h, 0, none⟩)) w := fun _ => by kernel_rfl
theorem mSwap (h : Nat) : ∀ w, Sem.run Tryz.prog (method 267 110 (.pointer (some ⟨h, 0, none⟩)) "Swap") w = .ok (127, .pointer (some ⟨h, 0, none⟩)) w := fun _ => by kernel_rfl
set_option maxRecDepth 1000000 in
set_option maxHeartbeats 4000000 in
theorem up_calls (h : Nat) (B : Option Nat) (T : List Int) (L : List Nat) (j : Nat) (hj : j < L.length) (h16 : L.length ≤ 1000) (hT : ∀ x ∈ L, x < T.length) (w : World) (hR : RankAt w h B T L) :
  Calls Tryz.prog 87 #[.iface 110 (.pointer (some ⟨h, 0, none⟩)), .int .i64 j] w fun e w' => e = .returned (.tuple #[]) ∧ RankAt w' h B T (upL T (j + 1) L j) ∧ KeepBut w w' h B ∧ Below h w w' := by
 have mL := mLess h
 have mS := mSwap h
 have HT := Lib.hid hT
 have HJ := Lib.hid hj
 have HRR := Lib.hid hR
 clear hR hT hj
 go_enter Tryz.func87, Tryz.ntmps87
 go_wp2
 go_loopw [1] (fun v wr => ∃ (i c : Nat) (M : List Nat), v = .int .i64 i ∧ i < c ∧ i < M.length ∧ Hid (M.length = L.length ∧ (∀ x ∈ M, x < T.length) ∧ upL T c M i = upL T (j + 1) L j ∧ RankAt wr h B T M ∧ KeepBut w wr h B ∧ Below h w wr)) (fun v _ => (intOf v).toNat)
 case atStart => exact ⟨j, j + 1, L, rfl, by omega, HJ.out, Lib.hid ⟨rfl, HT.out, rfl, HRR.out, KeepBut.refl _ _ _, Below.refl _ _⟩⟩
 case round =>
  obtain ⟨i, c, M, rfl, hic, hiM, HX⟩ := hrel
  obtain ⟨c, rfl⟩ : ∃ c', c = c' + 1 := ⟨c - 1, by omega⟩
  have hM := HX.out.1
  have hq : ((i : Int) - 1).tdiv 2 = (((i - 1) / 2 : Nat) : Int) := by
   cases i with
   | zero => rfl
   | succ n =>
    rw [show ((n + 1 : Nat) : Int) - 1 = ((n : Nat) : Int) by omega]
    rfl
  by_cases h0 : (i - 1) / 2 = i
  ·
   obtain rfl : i = 0 := by omega
   go_wp2
   go_end0
   have hE : upL T (c + 1) M 0 = M := by unfold upL; rw [if_pos (.inl rfl)]
   obtain ⟨_, _, e, hR, hK, hB⟩ := HX.out
   rw [← e, hE]
   exact ⟨rfl, hR, hK, hB⟩
  ·
   have hi0 : 0 < i := by omega
   have hpi : (i - 1) / 2 < i := by omega
   have hne : ((((i - 1) / 2 : Nat) : Int) == (i : Int)) = false := by rw [beq_eq_false_iff_ne]; omega
   generalize hp : (i - 1) / 2 = p at *
   have HLess := Lib.hid (fun (W : World) (hW : RankAt W h B T M) => Less_calls h B T M i p hiM (by omega) HX.out.2.1 W hW)
   cases hl : lessB T (M.getD i 0) (M.getD p 0) with
   | false =>
    rw [hl] at HLess
    go_wp2_with (go_at_call 124; refine (HLess.out _ HX.out.2.2.2.1).mono ?_; rintro e w' ⟨rfl, q, rfl⟩)
    go_end0
    have hE : upL T (c + 1) M i = M := by unfold upL; rw [hp, if_pos (.inr hl)]
    obtain ⟨_, _, e, hR, hK, hB⟩ := HX.out
    rw [← e, hE]
    exact ⟨rfl, hR.drewN _, keep_drewN hK _, pw_below_drewN hB _⟩
   | true =>
    rw [hl] at HLess
    have HSwap := Lib.hid (fun (W : World) (hW : RankAt W h B T M) => Swap_calls h B T M p i (by omega) hiM W hW)
    have hE : upL T (c + 1) M i = upL T c (swapL M p i) p := by
     conv => lhs; unfold upL
     rw [hp, hl, if_neg (fun h => h.elim (fun h => absurd h (by omega)) (fun h => by cases h))]
    have HE := Lib.hid hE
    clear hE hl
    go_wp2_with (first | (go_at_call 124; refine (HLess.out _ HX.out.2.2.2.1).mono ?_; rintro e w' ⟨rfl, q, rfl⟩) | (go_at_call 127; refine (HSwap.out _ (HX.out.2.2.2.1.drewN q)).mono ?_; rintro e w2 ⟨rfl, hR2, hK2, hB2⟩))
    go_roundw
    case rel =>
     obtain ⟨x1, x2, x3, x4, x5, x6⟩ := HX.out
     exact ⟨p, c, swapL M p i, rfl, by omega, by rw [length_swapL]; omega, Lib.hid ⟨by rw [length_swapL]; exact x1, fun x hx => x2 x (mem_swapL (by omega) hiM hx), by rw [← x3, HE.out], hR2, (keep_drewN x5 q).trans hK2 (.inl rfl), (pw_below_drewN x6 q).trans hB2⟩⟩
    case measure => simp [intOf]; omega
end Go.Proofs.YtkljcdghbefceaaGreatDoor

namespace Go.Proofs.YtkljcdghbefceaaGreatDoor
set_option linter.unusedVariables false
set_option linter.unusedSimpArgs false
open Go.RowKit Go.Shelf Bits
open Go.Proofs.YtkljcdghbefceaaGreatDoorW.PrintWords Go.Proofs.YtkljcdghbefceaaGreatDoorW.PrintLast Go.Proofs.YtkljcdghbefceaaGreatDoorW.PrintMore
theorem R_get {W : World} {base g n cap : Nat} {L : List Nat} (h : Kd.R (Kd.int .i64) 3 W base (fun _ => True) (.slice (some ⟨g, 0, none⟩) n cap) (ints L)) (i : Nat) (hi : i < n) : W.cell? ⟨g, i, none⟩ = some (.int .i64 ((L.getD i 0 : Nat) : Int)) ∧ W.frozen? ⟨g, i, none⟩ = false := by
 have := Kd.R_celln (0 : Int) h (i : Int) (by omega) (by omega)
 rw [rd_ints, Int.toNat_natCast] at this
 exact this
theorem R_set {W : World} {base g n cap : Nat} {L : List Nat} (h : Kd.R (Kd.int .i64) 3 W base (fun _ => True) (.slice (some ⟨g, 0, none⟩) n cap) (ints L)) (i x : Nat) : Kd.R (Kd.int .i64) 3 (W.setCell ⟨g, i, none⟩ (.int .i64 (x : Int))) base (fun _ => True) (.slice (some ⟨g, 0, none⟩) n cap) (ints (L.set i x)) := by
 have := Kd.R_putn h (i : Int) (x : Int)
 rw [Int.toNat_natCast] at this
 rw [show ints (L.set i x) = (ints L).set i (x : Int) by simp [ints, List.map_set]]
 exact this
theorem length_ints_R {W : World} {base : Nat} {A : Option Addr} {n cap : Nat} {L : List Nat} (h : Kd.R (Kd.int .i64) 3 W base (fun _ => True) (.slice A n cap) (ints L)) : n = L.length := by
 have := (Kd.R_reads' h).1
 rwa [ints_length] at this
def bubL (T : List Int) : Nat → List Nat → List Nat
 | 0, L => L
 | k + 1, L => if lessB T (L.getD (k + 1) 0) (L.getD k 0) then bubL T k (swapL L k (k + 1)) else L
def insL (T : List Int) (xs : List Nat) : List Nat := xs.foldl (fun out x => bubL T out.length (out ++ [x])) []
theorem insL_snoc (T : List Int) (l : List Nat) (x : Nat) : insL T (l ++ [x]) = bubL T (insL T l).length (insL T l ++ [x]) := by
 unfold insL
 rw [List.foldl_append]
 rfl
theorem bubL_perm (T : List Int) : ∀ (k : Nat) (L : List Nat), k < L.length → (bubL T k L).Perm L
 | 0, L, _ => List.Perm.refl _
 | k + 1, L, h => by
  unfold bubL
  split
  ·
   exact (bubL_perm T k _ (by rw [length_swapL]; omega)).trans (swapL_perm (by omega) h)
  ·
   exact List.Perm.refl _
theorem insL_permA (T : List Int) : ∀ (xs acc : List Nat), (xs.foldl (fun out x => bubL T out.length (out ++ [x])) acc).Perm (acc ++ xs)
 | [], acc => by simp
 | x :: xs, acc => by
  refine (insL_permA T xs _).trans ?_
  rw [show acc ++ x :: xs = (acc ++ [x]) ++ xs by simp]
  exact (bubL_perm T _ _ (by simp)).append_right xs
theorem insL_perm (T : List Int) (xs : List Nat) : (insL T xs).Perm xs := by simpa [insL] using insL_permA T xs []
structure BHeap (w : World) (A2 : Option Addr) (T : List Int) (v : Value) (L : List Nat) (W : World) : Prop where
 hO : Kd.R (Kd.int .i64) 3 W w.heap.size (fun _ => True) v (ints L)
 hB : Below w.heap.size w W
 hC : (Kd.int .i64).C W A2 T.length T
 hA : ∀ ad, A2 = some ad → 0 < T.length → ad.block < W.heap.size ∧ some ad.block ≠ v.ownBlock
 hT : ∀ x ∈ L, x < T.length
theorem BHeap.drewN {w : World} {A2 : Option Addr} {T : List Int} {v : Value} {L : List Nat} {W : World} (h : BHeap w A2 T v L W) (q : Nat) : BHeap w A2 T v L (W.drewN q) := ⟨Kd.R_drewN h.hO q, pw_below_drewN h.hB q, Kd.C_drewN h.hC q, h.hA, h.hT⟩
theorem BHeap.put {w : World} {A2 : Option Addr} {T : List Int} {g n cap : Nat} {L : List Nat} {W : World} (h : BHeap w A2 T (.slice (some ⟨g, 0, none⟩) n cap) L W) (i x : Nat) (hx : x < T.length) (hp : 0 < L.length) : BHeap w A2 T (.slice (some ⟨g, 0, none⟩) n cap) (L.set i x) (W.setCell ⟨g, i, none⟩ (.int .i64 (x : Int))) := by
 have hg : w.heap.size ≤ g := Kd.R_base h.hO g (by simp [Value.ownBlock])
 refine ⟨R_set h.hO i x, h.hB.setCell (p := ⟨g, i, none⟩) hg _, C_block h.hC fun ad e hn => heap_far _ _ _ _ (fun e2 => (h.hA ad e hn).2 (by rw [e2]; simp [Value.ownBlock])), fun ad e hn => ⟨by have := (h.hA ad e hn).1; simpa [World.setCell] using this, (h.hA ad e hn).2⟩, fun y hy => ?_⟩
 rcases List.mem_or_eq_of_mem_set hy with hy | rfl
 ·
  exact h.hT y hy
 ·
  exact hx
theorem BHeap.push {w : World} {A2 : Option Addr} {T : List Int} {v v1 : Value} {L : List Nat} {W W' : World} (h : BHeap w A2 T v L W) (x : Nat) (hx : x < T.length) (hO : Kd.R (Kd.int .i64) 3 W' w.heap.size (fun _ => True) v1 (ints L ++ [(x : Int)])) (hB : Below w.heap.size w W') (hg : W.grownBy W' v.ownBlock) (hat : v1.ownBlock = v.ownBlock ∨ ∃ b, v1.ownBlock = some b ∧ W.heap.size ≤ b) : BHeap w A2 T v1 (L ++ [x]) W' := by
 refine ⟨by rw [show ints (L ++ [x]) = ints L ++ [(x : Int)] by simp [ints]]; exact hO, hB, C_block h.hC fun ad e hn => hg.block _ (h.hA ad e hn).1 (h.hA ad e hn).2, fun ad e hn => ⟨Nat.lt_of_lt_of_le (h.hA ad e hn).1 hg.size, fun e2 => ?_⟩, fun y hy => ?_⟩
 ·
  have h1 := h.hA ad e hn
  rcases hat with hat | ⟨b, hb, hb2⟩
  ·
   rw [hat] at e2
   exact h1.2 e2
  ·
   rw [hb] at e2
   cases e2
   omega
 ·
  rcases List.mem_append.1 hy with hy | hy
  ·
   exact h.hT y hy
  ·
   rw [List.mem_singleton.1 hy]
   exact hx
end Go.Proofs.YtkljcdghbefceaaGreatDoor

namespace Go.Proofs.YtkljcdghbefceaaGreatDoor
set_option linter.unusedVariables false
set_option linter.unusedSimpArgs false
open Go.RowKit Go.Shelf Bits
open Go.Proofs.YtkljcdghbefceaaGreatDoorW.PrintWords Go.Proofs.YtkljcdghbefceaaGreatDoorW.PrintLast Go.Proofs.YtkljcdghbefceaaGreatDoorW.PrintMore
def overB (g : List Tk) (st : List Int) (now : Int) (i : Nat) : Bool := decide (st.getD i 0 + (rdTk g i).f0 ≤ now)
def overS (g : List Tk) (st : List Int) (now : Int) : List Nat := (List.range g.length).filter (overB g st now)
def idleB (st : List Int) (i : Nat) : Bool := st.getD i 0 == 200
def nextS (g : List Tk) (rm : List Int) (wk : Int) (st : List Int) (now : Int) : List Nat :=
 (admN g rm wk (cnt g (runS g st now)) (insL (tailsS g) ((readyS g (ints (overS g st now))).filter (idleB st)))).2
def putS (now : Int) (st : List Int) (l : List Nat) : List Int := l.foldl (fun s i => s.set i now) st
def stepS (g : List Tk) (rm : List Int) (wk : Int) (st : List Int) (now : Nat) : List Int := putS now st (nextS g rm wk st now)
def planL (g : List Tk) (rm : List Int) (wk : Int) : Nat → List Int
 | 0 => List.replicate g.length 200
 | k + 1 => stepS g rm wk (planL g rm wk k) k
def planS (g : List Tk) (rm : List Int) (wk : Int) : List Int := planL g rm wk 200
def StOk (n : Nat) (st : List Int) : Prop := st.length = n ∧ ∀ i, 0 ≤ st.getD i 0 ∧ st.getD i 0 ≤ 200
theorem StOk.set {n : Nat} {st : List Int} (h : StOk n st) (i : Nat) {x : Int} (hx : 0 ≤ x ∧ x ≤ 200) : StOk n (st.set i x) := by
 refine ⟨by rw [List.length_set]; exact h.1, fun j => ?_⟩
 have := h.2 j
 rw [List.getD_eq_getElem?_getD, List.getElem?_set]
 rw [List.getD_eq_getElem?_getD] at this
 split
 ·
  split
  ·
   exact hx
  ·
   simp
 ·
  exact this
theorem putS_ok {n : Nat} {now : Int} (hn : 0 ≤ now ∧ now ≤ 200) : ∀ (l : List Nat) {st : List Int}, StOk n st → StOk n (putS now st l)
 | [], _, h => h
 | i :: l, st, h => putS_ok hn l (st := st.set i now) (h.set i hn)
theorem putS_snoc (now : Int) (st : List Int) (l : List Nat) (i : Nat) : putS now st (l ++ [i]) = (putS now st l).set i now := by
 unfold putS
 rw [List.foldl_append]
 rfl
theorem planL_ok (g : List Tk) (rm : List Int) (wk : Int) : ∀ k, k ≤ 200 → StOk g.length (planL g rm wk k)
 | 0, _ => by
  refine ⟨by unfold planL; simp, fun i => ?_⟩
  unfold planL
  rw [List.getD_eq_getElem?_getD, List.getElem?_replicate]
  split <;> simp
 | k + 1, hk => putS_ok (by omega) _ (planL_ok g rm wk k (by omega))
theorem insL_len (T : List Int) (xs : List Nat) : (insL T xs).length = xs.length := (insL_perm T xs).length_eq
theorem insL_mem (T : List Int) (xs : List Nat) : ∀ x ∈ insL T xs, x ∈ xs := fun x hx => (insL_perm T xs).mem_iff.1 hx
theorem nextS_lt (g : List Tk) (rm : List Int) (wk : Int) (st : List Int) (now : Int) : ∀ x ∈ nextS g rm wk st now, x < g.length := by
 intro x hx
 have h1 := admN_sub g rm wk (cnt g (runS g st now)) (insL (tailsS g) ((readyS g (ints (overS g st now))).filter (idleB st))) _ (Nat.le_refl _) x (by rw [List.take_length]; exact hx)
 exact List.mem_range.1 (List.mem_filter.1 (List.mem_filter.1 (insL_mem _ _ x h1)).1).1
theorem waitS_len (g : List Tk) (st : List Int) (d : List Int) : ((readyS g d).filter (idleB st)).length ≤ g.length := Nat.le_trans (List.length_filter_le _ _) (filter_range_le _ _)
theorem nextS_len {g : List Tk} (hg : TOk g) (rm : List Int) (wk : Int) (st : List Int) (now : Int) : (nextS g rm wk st now).length ≤ 8 := by
 have h2 := (admN_facts hg rm wk (c := cnt g (runS g st now)) (cnt_small100 hg (Nat.le_trans (filter_range_le _ _) (by have := hg.1; omega))) (insL (tailsS g) ((readyS g (ints (overS g st now))).filter (idleB st))) _ (Nat.le_refl _)).2
 rw [List.take_length, insL_len] at h2
 have := waitS_len g st (ints (overS g st now))
 have := hg.1
 unfold nextS
 omega
def rep200 (n j : Nat) : List Int := List.replicate j 200 ++ List.replicate (n - j) 0
theorem IRow.below {W W' : World} {b : Nat} {xs : List Int} (h : IRow W b xs) (hb : Below W.heap.size W W') : IRow W' b xs := (hb.block b (blk_lt h)).trans h
theorem rep200_len {n j : Nat} (h : j ≤ n) : (rep200 n j).length = n := by
 unfold rep200
 simp
 omega
theorem rep200_set {n j : Nat} (h : j < n) : (rep200 n j).set j 200 = rep200 n (j + 1) := by
 unfold rep200
 rw [List.set_append_right _ _ (by simp), show n - j = (n - (j + 1)) + 1 by omega, List.replicate_succ, List.replicate_succ']
 simp
end Go.Proofs.YtkljcdghbefceaaGreatDoor

namespace Go.Proofs.YtkljcdghbefceaaGreatDoor
set_option linter.unusedVariables false
set_option linter.unusedSimpArgs false
open Go.RowKit Go.Shelf Bits
open Go.Proofs.YtkljcdghbefceaaGreatDoorW.PrintWords Go.Proofs.YtkljcdghbefceaaGreatDoorW.PrintLast Go.Proofs.YtkljcdghbefceaaGreatDoorW.PrintMore
theorem workersValid_calls (n : Int) (w : World) : Calls Tryz.prog 46 #[.int .i64 n] w fun e w' => e = .returned (.bool (inB n 1 4)) ∧ w' = w := by
 go_enter Tryz.func46, Tryz.ntmps46
 go_wp2_with (go_at_call 39; refine (within_calls _ _ _ _).mono ?_; rintro e w2 ⟨rfl, rfl⟩)
 go_ret
 exact ⟨rfl, rfl⟩
theorem workersValid_is (b : Bool) (n : Int) (h : Hid (inB n 1 4 = b)) (w : World) : Calls Tryz.prog 46 #[.int .i64 n] w fun e w' => e = .returned (.bool b) ∧ w' = w :=
 (workersValid_calls n w).mono fun e w' ⟨he, hw⟩ => ⟨by rw [he, h.out], hw⟩
set_option maxRecDepth 100000 in
theorem ValidRoom_calls (A : Option Addr) (c : Nat) (rm : List Int) (w : World) (hr : (Kd.int .i64).C w A rm.length rm) :
  Calls Tryz.prog 45 #[.slice A rm.length c] w fun e w' => e = .returned (.bool (roomB rm)) ∧ w' = w := by
 have HR := Lib.hid hr
 have hl := (C_len hr).2
 clear hr
 by_cases h3 : rm.length = 3
 ·
  have d3 : ((rm.length : Int) != 3) = false := by rw [h3]; rfl
  have HRB : Hid (roomB rm = allInB rm 4 8) := Lib.hid (by unfold roomB; rw [decide_eq_true h3, Bool.true_and])
  have H3 := Lib.hid h3
  clear h3
  go_enter Tryz.func45, Tryz.ntmps45
  go_wp2
  go_loop [10] (fun i => ∃ (k : Nat), k ≤ rm.length ∧ i = .int .i64 k ∧ Hid (∀ j, j < k → inB (rm.getD j 0) 4 8 = true)) (fun i => rm.length - (intOf i).toNat)
  case atStart => exact ⟨0, Nat.zero_le _, rfl, Lib.hid fun j h => absurd h (Nat.not_lt_zero _)⟩
  case round =>
   obtain ⟨k, hk, rfl, HS⟩ := hrel
   by_cases hlt : k < rm.length
   ·
    have hjj : decide ((k : Int) < (rm.length : Int)) = true := decide_eq_true (by omega)
    have hji : (k : Int) < (rm.length : Int) := by omega
    obtain ⟨ad, rfl, hc⟩ := at_num HR.out k hlt
    cases hb : inB (rm.getD k 0) 4 8
    ·
     have HF : Hid (roomB rm = false) := Lib.hid (by
      rw [HRB.out]
      unfold allInB
      rw [List.all_eq_false]
      exact ⟨rm.getD k 0, mem_getD hlt, by rw [hb]; simp⟩)
     have HW := Lib.hid hb
     clear hb
     generalize rm.getD k 0 = x at hc HW
     go_wp2_with (go_at_call 39; refine (within_is _ _ _ _ HW _).mono ?_; rintro e w2 ⟨rfl, rfl⟩)
     go_ret
     exact ⟨ret_bool HF.out.symm, rfl⟩
    ·
     have HN : Hid (∀ j, j < k + 1 → inB (rm.getD j 0) 4 8 = true) := Lib.hid (fun j hj => by
      by_cases e : j = k
      ·
       rw [e]; exact hb
      ·
       exact HS.out j (by omega))
     have HW := Lib.hid hb
     clear hb
     generalize rm.getD k 0 = x at hc HW
     go_wp2_with (go_at_call 39; refine (within_is _ _ _ _ HW _).mono ?_; rintro e w2 ⟨rfl, rfl⟩)
     go_round
     case rel => exact ⟨k + 1, by omega, by go_num, HN⟩
     case measure => simp [intOf]; omega
   ·
    have HF : Hid (roomB rm = true) := Lib.hid (by rw [HRB.out]; exact all_take 0 (fun j hj => HS.out j (by omega)))
    have hjj : decide ((k : Int) < (rm.length : Int)) = false := decide_eq_false (by omega)
    go_wp2
    go_ret
    exact ⟨ret_bool HF.out.symm, rfl⟩
 ·
  have d3 : ((rm.length : Int) != 3) = true := by rw [bne_iff_ne]; omega
  have HF : Hid (roomB rm = false) := Lib.hid (by unfold roomB; rw [decide_eq_false h3]; rfl)
  clear h3
  go_enter Tryz.func45, Tryz.ntmps45
  go_wp2
  go_ret
  exact ⟨ret_bool HF.out.symm, rfl⟩
theorem ValidRoom_is (b : Bool) (A : Option Addr) (c : Nat) (rm : List Int) (h : Hid (roomB rm = b)) (w : World) (hr : (Kd.int .i64).C w A rm.length rm) :
  Calls Tryz.prog 45 #[.slice A rm.length c] w fun e w' => e = .returned (.bool b) ∧ w' = w :=
 (ValidRoom_calls A c rm w hr).mono fun e w' ⟨he, hw⟩ => ⟨by rw [he, h.out], hw⟩
def placeB (rm : List Int) (wk : Int) : Bool := roomB rm && inB wk 1 4
set_option maxRecDepth 100000 in
theorem placeIn_yes (A : Option Addr) (c : Nat) (g : List Tk) (ns : List Nat) (A1 : Option Addr) (c1 : Nat) (rm : List Int) (wk : Int) (hp : placeB rm wk = true) (w : World) (hr : kTk.C w A g.length g) (hT : Tab w) (hg : graphN g = some ns) (hr1 : (Kd.int .i64).C w A1 rm.length rm) :
  Calls Tryz.prog 18 #[.slice A g.length c, .slice A1 rm.length c1, .int .i64 wk] w fun e w' => ∃ C, e = .returned (.tuple #[.pointer (some ⟨C, 0, none⟩), .bool true]) ∧ IsGraph w' C g ns ∧ Below w.heap.size w w' := by
 unfold placeB at hp
 rw [Bool.and_eq_true] at hp
 have HG := Lib.hid (graphOf_yes A c g ns w hr hT hg)
 have HR1 := Lib.hid hr1
 have H1 := Lib.hid hp.1
 have H2 := Lib.hid hp.2
 clear hr hr1 hp hg
 go_enter Tryz.func18, Tryz.ntmps18
 go_wp2_with (first
  | (go_at_call 44; refine HG.out.mono ?_; rintro e w2 ⟨C, rfl, hI, hB⟩; have HC := Lib.hid hI; have HB := Lib.hid hB; clear hI hB)
  | (go_at_call 45; refine (ValidRoom_is _ _ _ _ H1 _ (Kd.C_below HR1.out HB.out)).mono ?_; rintro e w' ⟨rfl, rfl⟩)
  | (go_at_call 46; refine (workersValid_is _ _ H2 _).mono ?_; rintro e w' ⟨rfl, rfl⟩))
 go_ret2
 exact ⟨C, rfl, HC.out, HB.out⟩
set_option maxRecDepth 100000 in
theorem placeIn_no (A : Option Addr) (c : Nat) (g : List Tk) (A1 : Option Addr) (c1 : Nat) (rm : List Int) (wk : Int) (hn : ∀ ns, graphN g = some ns → placeB rm wk = false) (w : World) (hr : kTk.C w A g.length g) (hT : Tab w) (hr1 : (Kd.int .i64).C w A1 rm.length rm) :
  Calls Tryz.prog 18 #[.slice A g.length c, .slice A1 rm.length c1, .int .i64 wk] w fun e w' => e = .returned (.tuple #[.pointer none, .bool false]) ∧ Below w.heap.size w w' := by
 have HR1 := Lib.hid hr1
 clear hr1
 cases hg : graphN g with
 | none =>
  have HG := Lib.hid (graphOf_no A c g w hr hg)
  clear hr hn hg
  go_enter Tryz.func18, Tryz.ntmps18
  go_wp2_with (go_at_call 44; refine HG.out.mono ?_; rintro e w2 ⟨rfl, hB⟩; have HB := Lib.hid hB; clear hB)
  go_ret2
  exact ⟨rfl, HB.out⟩
 | some ns =>
  have hp := hn ns hg
  unfold placeB at hp
  have HG := Lib.hid (graphOf_yes A c g ns w hr hT hg)
  clear hr hn hg
  cases h1 : roomB rm with
  | false =>
   have H1 := Lib.hid h1
   clear h1 hp
   go_enter Tryz.func18, Tryz.ntmps18
   go_wp2_with (first
    | (go_at_call 44; refine HG.out.mono ?_; rintro e w2 ⟨C, rfl, hI, hB⟩; have HB := Lib.hid hB; clear hI hB)
    | (go_at_call 45; refine (ValidRoom_is _ _ _ _ H1 _ (Kd.C_below HR1.out HB.out)).mono ?_; rintro e w' ⟨rfl, rfl⟩))
   go_ret2
   exact ⟨rfl, HB.out⟩
  | true =>
   rw [h1, Bool.true_and] at hp
   have H1 := Lib.hid h1
   have H2 := Lib.hid hp
   clear h1 hp
   go_enter Tryz.func18, Tryz.ntmps18
   go_wp2_with (first
    | (go_at_call 44; refine HG.out.mono ?_; rintro e w2 ⟨C, rfl, hI, hB⟩; have HB := Lib.hid hB; clear hI hB)
    | (go_at_call 45; refine (ValidRoom_is _ _ _ _ H1 _ (Kd.C_below HR1.out HB.out)).mono ?_; rintro e w' ⟨rfl, rfl⟩)
    | (go_at_call 46; refine (workersValid_is _ _ H2 _).mono ?_; rintro e w' ⟨rfl, rfl⟩))
   go_ret2
   exact ⟨rfl, HB.out⟩
end Go.Proofs.YtkljcdghbefceaaGreatDoor

namespace Go.Proofs.YtkljcdghbefceaaGreatDoor
set_option linter.unusedVariables false
set_option linter.unusedSimpArgs false
open Go.RowKit Go.Shelf Bits
open Go.Proofs.YtkljcdghbefceaaGreatDoorW.PrintWords Go.Proofs.YtkljcdghbefceaaGreatDoorW.PrintLast Go.Proofs.YtkljcdghbefceaaGreatDoorW.PrintMore
theorem list_ext0 {a b : List Int} (hl : a.length = b.length) (h : ∀ j, j < a.length → a.getD j 0 = b.getD j 0) : a = b := by
 apply List.ext_getElem hl
 intro j h1 h2
 have := h j h1
 rw [List.getD_eq_getElem?_getD, List.getD_eq_getElem?_getD, List.getElem?_eq_getElem h1, List.getElem?_eq_getElem h2] at this
 exact this
end Go.Proofs.YtkljcdghbefceaaGreatDoor
