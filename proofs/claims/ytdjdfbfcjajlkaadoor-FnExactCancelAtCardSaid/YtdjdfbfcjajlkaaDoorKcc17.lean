/- Parts of the proof, laid as one text by a program of mine. -/
import Derived.Test.YtdjdfbfcjajlkaaDoorKcc0
import Derived.Test.YtdjdfbfcjajlkaaDoorKcc4
import Derived.Deep.Slices
import Derived.Lib.SmallJoins
import Derived.Test.YtdjdfbfcjajlkaaDoorKcc15
import Derived.Test.YtdjdfbfcjajlkaaDoorKcc7
import Derived.StillTailTactics
import Derived.Sort.Grow
namespace Go.Proofs.YtdjdfbfcjajlkaaDoor
set_option linter.unusedVariables false
set_option linter.unusedSimpArgs false
open Go.ChangeShapes Go.WideShapes Go.ChangeAt Go.RowKit Go.Deep Go.Shelf Go.Joins
open Go.Proofs.YtdjdfbfcjajlkaaDoorW.PrintWords Go.Proofs.YtdjdfbfcjajlkaaDoorW.PrintLast Go.Proofs.YtdjdfbfcjajlkaaDoorW.PrintMore
theorem C_cells {W : World} {a : Addr} {l : List Int} (hm : l.length ≤ 9223372036854775807) (hc : ∀ i, i < l.length → W.cell? (a.add i) = some (.int .i64 (l.getD i 0))) : (Kd.int .i64).C W (some a) l.length l := by
 refine ⟨rfl, by omega, fun _ => ⟨_, rfl, fun j p hj => ⟨[.int .i64 p], rfl, rfl, fun i u hu => ?_⟩⟩⟩
 have hjl : j < l.length := (List.getElem?_eq_some_iff.1 hj).1
 have hi : i = 0 := by
  have := (List.getElem?_eq_some_iff.1 hu).1
  simp at this
  exact this
 subst hi
 have hq : j * (Kd.int .i64).sz + 0 = j := by
  show j * 1 + 0 = j
  omega
 rw [hq, hc j hjl, List.getD_eq_getElem?_getD, hj]
 simpa using hu
section
variable {H : Type} {enc : TypeId × Value → H} {W : World} {sp : Nat → Bool} {fuel : Nat} {x : DataW H × List MemPlace}
theorem open_intsC {cs : List Value} (h : DataW.trod enc Tryd.prog W 0 sp true fuel 23 cs = some x) : ∃ A c l, cs = [.slice A l.length c] ∧ l.length ≤ c ∧ (Kd.int .i64).C W A l.length l := by
 rcases open_ints Tryd.underlying23 Tryd.underlying3 (by kernel_rfl) h with ⟨rfl, _⟩ | ⟨a, len, cap, zs, rfl, _, hl, hm, hz, _, hcell, hwz⟩
 ·
  exact ⟨none, 0, [], rfl, Nat.le_refl _, Kd.C_nil _ _⟩
 ·
  have hzl : len ≤ zs.length := by rw [hz]; split <;> omega
  have ht : (zs.take len).length = len := by simp; omega
  refine ⟨some a, cap, zs.take len, by rw [ht], by rw [ht]; exact hl, C_cells (by rw [ht]; simp only [maxLen] at hm; omega) (fun i hi => ?_)⟩
  rw [ht] at hi
  rw [hcell i (by omega), List.getD_eq_getElem?_getD, List.getD_eq_getElem?_getD, List.getElem?_take, if_pos hi]
set_option maxRecDepth 100000 in
theorem open_tasksC {cs : List Value} (h : DataW.trod enc Tryd.prog W 0 sp true fuel 22 cs = some x) : ∃ A c g, cs = [.slice A g.length c] ∧ g.length ≤ c ∧ kTk.C W A g.length g := by
 rcases open_slice Tryd.underlying22 h with ⟨rfl, _⟩ | ⟨a, len, cap, m, n, D, Pl, rfl, hb, hl, hm, hmm, rfl, hx⟩
 ·
  exact ⟨none, 0, [], rfl, Nat.le_refl _, Kd.C_nil _ _⟩
 have hlm : len ≤ m := by rw [hmm]; split <;> omega
 have c4 : Tryd.prog.cellsOf 53 = 4 := by kernel_rfl
 have cI : Tryd.prog.cellsOf 3 = 1 := by kernel_rfl
 have cS : Tryd.prog.cellsOf 23 = 1 := by kernel_rfl
 have each : ∀ i, i < len → ∃ q : Tk × Value, W.cell? (a.add (i * 4)) = some (.int .i64 q.1.f0) ∧ W.cell? (a.add (i * 4 + 1)) = some q.2 ∧ W.cell? (a.add (i * 4 + 2)) = some (.int .i64 q.1.f2) ∧ W.cell? (a.add (i * 4 + 3)) = some (.int .i64 q.1.f3) ∧ ∃ A1 c1, q.2 = .slice A1 q.1.f1.length c1 ∧ q.1.f1.length ≤ c1 ∧ (Kd.int .i64).C W A1 q.1.f1.length q.1.f1 := by
  intro i hi
  obtain ⟨cs', h1, h2⟩ := hx i (by omega)
  rw [c4] at h1
  obtain ⟨_, hlen, hcell⟩ := World.cells?_some h1
  obtain ⟨y0, y1, y2, y3, k, hxy, _, u0, u1, u2, u3⟩ := trod_struct4 Tryd.underlying53 h2
  match cs', hlen with
  | [v0, v1, v2, v3], _ =>
   simp only [cI, cS, List.drop, List.take] at u0 u1 u2 u3
   obtain ⟨z0, e0, _, _⟩ := DataW.trod_int Tryd.underlying3 u0
   obtain ⟨A1, c1, l1, e1, hl1, hC1⟩ := open_intsC u1
   obtain ⟨z2, e2, _, _⟩ := DataW.trod_int Tryd.underlying3 u2
   obtain ⟨z3, e3, _, _⟩ := DataW.trod_int Tryd.underlying3 u3
   simp only [List.cons.injEq, and_true] at e0 e1 e2 e3
   subst e0; subst e1; subst e2; subst e3
   have k0 := hcell 0 (by omega)
   have k1 := hcell 1 (by omega)
   have k2 := hcell 2 (by omega)
   have k3 := hcell 3 (by omega)
   rw [Go.Deep.add_add] at k0 k1 k2 k3
   exact ⟨(⟨z0, l1, z2, z3⟩, .slice A1 l1.length c1), by simpa using k0, by simpa using k1, by simpa using k2, by simpa using k3, A1, c1, rfl, hl1, hC1⟩
 haveI : Inhabited (Tk × Value) := ⟨(⟨0, [], 0, 0⟩, .slice none 0 0)⟩
 obtain ⟨q, hq⟩ := choose_lt each
 have hgl : ((List.range len).map fun i => (q i).1).length = len := by simp
 refine ⟨some a, cap, (List.range len).map fun i => (q i).1, by rw [hgl], by rw [hgl]; exact hl, rfl, by rw [hgl]; simp only [maxLen] at hm; omega, fun _ => ⟨_, rfl, fun j p hj => ?_⟩⟩
 have hjl : j < len := by
  have := (List.getElem?_eq_some_iff.1 hj).1
  simpa using this
 have hp : (q j).1 = p := by
  rw [List.getElem?_map, List.getElem?_range hjl] at hj
  simpa using hj
 obtain ⟨k0, k1, k2, k3, A1, c1, e1, hl1, hC1⟩ := hq j hjl
 rw [hp] at k0 k2 k3 e1 hl1 hC1
 rw [e1] at k1
 refine ⟨[.int .i64 p.f0, .slice A1 p.f1.length c1, .int .i64 p.f2, .int .i64 p.f3], rfl, ⟨[.int .i64 p.f0], [.slice A1 p.f1.length c1, .int .i64 p.f2, .int .i64 p.f3], rfl, rfl, ⟨[.slice A1 p.f1.length c1], [.int .i64 p.f2, .int .i64 p.f3], rfl, ⟨A1, c1, rfl, hl1, hC1⟩, ⟨[.int .i64 p.f2], [.int .i64 p.f3], rfl, rfl, rfl⟩⟩⟩, fun i u hu => ?_⟩
 have hi : i < 4 := by
  have := (List.getElem?_eq_some_iff.1 hu).1
  simpa using this
 show W.cell? (a.add (j * 4 + i)) = some u
 rcases i with _ | _ | _ | _ | i
 ·
  rw [Nat.add_zero, k0]
  simpa using hu
 ·
  rw [k1]
  simpa using hu
 ·
  rw [k2]
  simpa using hu
 ·
  rw [k3]
  simpa using hu
 ·
  omega
end
end Go.Proofs.YtdjdfbfcjajlkaaDoor

namespace Go.Proofs.YtdjdfbfcjajlkaaDoor
set_option linter.unusedVariables false
set_option linter.unusedSimpArgs false
open Go.RowKit Go.Shelf Bits
theorem planL_step_keeps {g : List Tk} {rm : List Int} {wk : Int} {k j : Nat} (hk : k ≤ 200) (h : (planL g rm wk k).getD j 0 ≠ 200) : (planL g rm wk (k + 1)).getD j 0 = (planL g rm wk k).getD j 0 := by
 rw [show planL g rm wk (k + 1) = stepS g rm wk (planL g rm wk k) k from rfl, stepS_get (planL_ok g rm wk k hk).1, if_neg (fun hm => h (nextS_in hm).2.2)]
theorem planL_keeps {g : List Tk} {rm : List Int} {wk : Int} {k j : Nat} (h : (planL g rm wk k).getD j 0 ≠ 200) : ∀ d, k + d ≤ 200 → (planL g rm wk (k + d)).getD j 0 = (planL g rm wk k).getD j 0
 | 0, _ => rfl
 | d + 1, hd => by
  have ih := planL_keeps h d (by omega)
  rw [show k + (d + 1) = (k + d) + 1 from rfl, planL_step_keeps (by omega) (by rw [ih]; exact h), ih]
theorem planL_final {g : List Tk} {rm : List Int} {wk : Int} {k j : Nat} (hk : k ≤ 200) (h : (planL g rm wk k).getD j 0 ≠ 200) : (planS g rm wk).getD j 0 = (planL g rm wk k).getD j 0 := by
 have := planL_keeps h (200 - k) (by omega)
 rw [show k + (200 - k) = 200 by omega] at this
 exact this
theorem planL_needs {g : List Tk} (hok : TOk g) (hin : ∀ k, k < g.length → ∀ x ∈ (rdTk g k).f1, 0 ≤ x ∧ x < g.length) (rm : List Int) (wk : Int) : ∀ m, m ≤ 200 → ∀ k, k < g.length → (planL g rm wk m).getD k 0 ≠ 200 → ∀ i : Nat, (i : Int) ∈ (rdTk g k).f1 → (planL g rm wk m).getD i 0 ≠ 200 ∧ (planL g rm wk m).getD i 0 + (rdTk g i).f0 ≤ (planL g rm wk m).getD k 0
 | 0, _, k, hk, h, _, _ => by
  refine absurd ?_ h
  unfold planL
  rw [List.getD_eq_getElem?_getD, List.getElem?_replicate, if_pos hk]
  rfl
 | m + 1, hm, k, hk, h, i, hi => by
  have hL := (planL_ok g rm wk m (by omega)).1
  by_cases hc : (planL g rm wk m).getD k 0 = 200
  ·
   have hmem : k ∈ nextS g rm wk (planL g rm wk m) m := by
    by_cases hm' : k ∈ nextS g rm wk (planL g rm wk m) m
    ·
     exact hm'
    ·
     refine absurd ?_ h
     rw [show planL g rm wk (m + 1) = stepS g rm wk (planL g rm wk m) m from rfl, stepS_get hL, if_neg hm']
     exact hc
   have h1 := (nextS_in hmem).2.1
   unfold rdB allDoneB at h1
   rw [Bool.and_eq_true, List.all_eq_true] at h1
   have h2 := of_decide_eq_true (h1.2 _ hi)
   rw [mem_intsN, mem_overS] at h2
   have ht := hok.2.2.2.2 i h2.1
   have hne : (planL g rm wk m).getD i 0 ≠ 200 := fun e => by
    have := h2.2
    rw [e] at this
    omega
   rw [planL_step_keeps (by omega) hne]
   refine ⟨hne, ?_⟩
   rw [show planL g rm wk (m + 1) = stepS g rm wk (planL g rm wk m) m from rfl, stepS_get hL, if_pos hmem]
   exact h2.2
  ·
   obtain ⟨h1, h2⟩ := planL_needs hok hin rm wk m (by omega) k hk hc i hi
   rw [planL_step_keeps (by omega) h1, planL_step_keeps (by omega) hc]
   exact ⟨h1, h2⟩
theorem spec_needs_in {g : List Tk} (hv : specValid g = true) : ∀ k, k < g.length → ∀ x ∈ (rdTk g k).f1, 0 ≤ x ∧ x < g.length := fun k hk x hx => by
 obtain ⟨ns, hg⟩ := graphN_yes hv
 have := setOfL_mem _ _ _ _ _ (by omega) ((graphN_all hg).2.2 k hk).2 x hx
 omega
theorem planS_lt {g : List Tk} (hv : specValid g = true) {rm : List Int} (hrm : roomB rm = true) {wk : Int} (hwk : 1 ≤ wk) {i : Nat} (hi : i < g.length) : (planS g rm wk).getD i 0 < 200 := by
 have hok := specValid_TOk hv
 have := planS_ends hv hrm hwk i hi
 have := timeS_bound hok
 have := hok.2.1 i
 omega
theorem planS_needs {g : List Tk} (hv : specValid g = true) {rm : List Int} (hrm : roomB rm = true) {wk : Int} (hwk : 1 ≤ wk) {k : Nat} (hk : k < g.length) (i : Nat) (hi : (i : Int) ∈ (rdTk g k).f1) : (planS g rm wk).getD i 0 + (rdTk g i).f0 ≤ (planS g rm wk).getD k 0 :=
 (planL_needs (specValid_TOk hv) (spec_needs_in hv) rm wk 200 (Nat.le_refl _) k hk (by have := planS_lt hv hrm hwk hk; show (planS g rm wk).getD k 0 ≠ 200; omega) i hi).2
theorem endS_mono (g : List Tk) (st : List Int) (i : Nat) : ∀ n, i < n → st.getD i 0 + (rdTk g i).f0 ≤ endS g st n
 | 0, h => absurd h (Nat.not_lt_zero _)
 | n + 1, h => by
  unfold endS
  by_cases hi : i < n
  ·
   have := endS_mono g st i n hi
   omega
  ·
   obtain rfl : i = n := by omega
   omega
theorem endS_le {g : List Tk} {st : List Int} {E : Int} (hE : 0 ≤ E) : ∀ n, (∀ i, i < n → st.getD i 0 + (rdTk g i).f0 ≤ E) → endS g st n ≤ E
 | 0, _ => hE
 | n + 1, h => by
  have h1 := endS_le hE n (fun i hi => h i (by omega))
  have h2 := h n (by omega)
  unfold endS
  omega
theorem mostS_le {g : List Tk} {o : List Int} {i : Nat} {b : Int} (hb : 0 ≤ b) : ∀ n, (∀ k, k < n → (i : Int) ∈ (rdTk g k).f1 → o.getD k 0 ≤ b) → mostS g o i n ≤ b
 | 0, _ => hb
 | n + 1, h => by
  have h1 := mostS_le hb n (fun k hk => h k (by omega))
  unfold mostS
  split
  ·
   have h2 := h n (by omega) (of_decide_eq_true (by assumption))
   omega
  ·
   exact h1
theorem getD_setL (o : List Int) (a j : Nat) (v : Int) : (o.set a v).getD j 0 = if j = a ∧ a < o.length then v else o.getD j 0 := by
 by_cases ha : a < o.length
 ·
  rw [getD_setI _ _ _ _ ha]
  by_cases h : j = a
  ·
   rw [if_pos h, if_pos ⟨h, ha⟩]
  ·
   rw [if_neg h, if_neg (fun e => h e.1)]
 ·
  rw [List.set_eq_of_length_le (by omega), if_neg (fun e => ha e.2)]
theorem tails_fit {g : List Tk} {st : List Int} {E : Int} (hE : ∀ i, i < g.length → st.getD i 0 + (rdTk g i).f0 ≤ E) (hN : ∀ k, k < g.length → ∀ i : Nat, (i : Int) ∈ (rdTk g k).f1 → st.getD i 0 + (rdTk g i).f0 ≤ st.getD k 0) :
  ∀ i, i < g.length → st.getD i 0 + (tailsS g).getD i 0 ≤ E ∨ (tailsS g).getD i 0 = 0 := by
 have key : ∀ (pre : List Nat) (o : List Int), o.length = g.length → (∀ i, i < g.length → st.getD i 0 + o.getD i 0 ≤ E ∨ o.getD i 0 = 0) →
   ∀ i, i < g.length → st.getD i 0 + (pre.foldl (fun o p => sStep g o ((topL g).getD p 0)) o).getD i 0 ≤ E ∨ (pre.foldl (fun o p => sStep g o ((topL g).getD p 0)) o).getD i 0 = 0 := by
  intro pre
  induction pre with
  | nil => exact fun o _ h => h
  | cons p pre ih =>
   intro o hl h
   refine ih _ (by unfold sStep; rw [List.length_set]; exact hl) (fun i hi => ?_)
   unfold sStep
   rw [getD_setL]
   split
   ·
    rename_i hc
    left
    rw [← hc.1]
    have := mostS_le (g := g) (o := o) (i := i) (b := E - st.getD i 0 - (rdTk g i).f0) (by have := hE i hi; omega) g.length (fun k hk hm => by
     have h1 := hN k hk i hm
     have h3 := hE k hk
     have h4 := hE i hi
     rcases h k hk with h2 | h2
     ·
      omega
     ·
      omega)
    omega
   ·
    exact h i hi
 exact key _ _ (by simp) (fun i hi => .inr (by
  rw [List.getD_eq_getElem?_getD, List.getElem?_replicate]
  split <;> rfl))
theorem longL_le {T : List Int} {b : Int} (hb : 0 ≤ b) : ∀ n, (∀ i, i < n → T.getD i 0 ≤ b) → longL T n ≤ b
 | 0, _ => hb
 | n + 1, h => by
  have h1 := longL_le hb n (fun i hi => h i (by omega))
  have h2 := h n (by omega)
  unfold longL
  omega
theorem longS_le {g : List Tk} {st : List Int} (h0 : ∀ i, i < g.length → 0 ≤ st.getD i 0) (hN : ∀ k, k < g.length → ∀ i : Nat, (i : Int) ∈ (rdTk g k).f1 → st.getD i 0 + (rdTk g i).f0 ≤ st.getD k 0) : longL (tailsS g) g.length ≤ endS g st g.length := by
 have hE : 0 ≤ endS g st g.length := by
  have : ∀ n, 0 ≤ endS g st n := by
   intro n
   induction n with
   | zero => exact Int.le_refl _
   | succ n ih => unfold endS; omega
  exact this _
 refine longL_le hE _ (fun i hi => ?_)
 have := h0 i hi
 rcases tails_fit (E := endS g st g.length) (fun i hi => endS_mono g st i _ hi) hN i hi with h | h
 ·
  omega
 ·
  omega
end Go.Proofs.YtdjdfbfcjajlkaaDoor

namespace Go.Proofs.YtdjdfbfcjajlkaaDoor
set_option linter.unusedVariables false
set_option linter.unusedSimpArgs false
open Go.RowKit Go.Shelf Bits
def chB (st : List Int) (i : Nat) : Ev := ⟨st.getD i 0, (i : Int), false⟩
def chO (g : List Tk) (st : List Int) (i : Nat) : Ev := ⟨st.getD i 0 + (rdTk g i).f0, (i : Int), true⟩
def chgN (g : List Tk) (st : List Int) : Nat → List Ev
 | 0 => []
 | k + 1 => chgN g st k ++ [chB st k, chO g st k]
def ltE (a b : Ev) : Prop := a.f0 < b.f0 ∨ (a.f0 = b.f0 ∧ ((a.f2 = true ∧ b.f2 = false) ∨ (a.f2 = b.f2 ∧ a.f1 < b.f1)))
instance (a b : Ev) : Decidable (ltE a b) := by unfold ltE; infer_instance
def ltEB (a b : Ev) : Bool := decide (ltE a b)
theorem ltE_irrefl (a : Ev) : ¬ ltE a a := by
 unfold ltE
 rintro (h | ⟨_, ⟨h1, h2⟩ | ⟨_, h⟩⟩)
 ·
  omega
 ·
  rw [h1] at h2; cases h2
 ·
  omega
theorem ltE_trans {a b c : Ev} (h : ltE a b) (k : ltE b c) : ltE a c := by
 unfold ltE at *
 rcases h with h | ⟨h1, h2⟩
 ·
  rcases k with k | ⟨k1, _⟩
  ·
   exact .inl (by omega)
  ·
   exact .inl (by omega)
 ·
  rcases k with k | ⟨k1, k2⟩
  ·
   exact .inl (by omega)
  ·
   refine .inr ⟨by omega, ?_⟩
   rcases h2 with ⟨p, q⟩ | ⟨p, q⟩ <;> rcases k2 with ⟨r, s⟩ | ⟨r, s⟩
   ·
    rw [q] at r; cases r
   ·
    exact .inl ⟨p, by rw [← r]; exact q⟩
   ·
    exact .inl ⟨by rw [p]; exact r, s⟩
   ·
    exact .inr ⟨p.trans r, by omega⟩
theorem ltE_total {a b : Ev} (h : ¬ ltE a b) (k : ¬ ltE b a) : a = b := by
 obtain ⟨a0, a1, a2⟩ := a
 obtain ⟨b0, b1, b2⟩ := b
 unfold ltE at h k
 simp only [not_or, not_and] at h k
 have e0 : a0 = b0 := by omega
 subst e0
 have h2 := h.2 rfl
 have k2 := k.2 rfl
 have e2 : a2 = b2 := by
  cases a2 <;> cases b2 <;> simp_all
 subst e2
 have h3 := h2.2 rfl
 have k3 := k2.2 rfl
 have e1 : a1 = b1 := by omega
 subst e1
 rfl
def chgS (g : List Tk) (st : List Int) : List Ev := (chgN g st g.length).mergeSort fun x y => !ltEB y x
theorem mem_chgN {g : List Tk} {st : List Int} {x : Ev} : ∀ n, x ∈ chgN g st n ↔ ∃ i, i < n ∧ (x = chB st i ∨ x = chO g st i)
 | 0 => by simp [chgN]
 | n + 1 => by
  unfold chgN
  rw [List.mem_append, mem_chgN n]
  simp only [List.mem_cons, List.not_mem_nil, or_false]
  constructor
  ·
   rintro (⟨i, hi, h⟩ | h)
   ·
    exact ⟨i, by omega, h⟩
   ·
    exact ⟨n, by omega, h⟩
  ·
   rintro ⟨i, hi, h⟩
   by_cases hin : i < n
   ·
    exact .inl ⟨i, hin, h⟩
   ·
    obtain rfl : i = n := by omega
    exact .inr h
theorem nodup_chgN (g : List Tk) (st : List Int) : ∀ n, (chgN g st n).Nodup
 | 0 => List.nodup_nil
 | n + 1 => by
  unfold chgN
  rw [List.nodup_append]
  refine ⟨nodup_chgN g st n, by simp [chB, chO], ?_⟩
  intro a ha b hb
  obtain ⟨i, hi, h⟩ := (mem_chgN n).1 ha
  simp only [List.mem_cons, List.not_mem_nil, or_false] at hb
  rintro rfl
  have h1 : a.f1 = i := by rcases h with rfl | rfl <;> rfl
  have h2 : a.f1 = n := by rcases hb with rfl | rfl <;> rfl
  omega
theorem chgS_perm (g : List Tk) (st : List Int) : (chgS g st).Perm (chgN g st g.length) := List.mergeSort_perm _ _
theorem chgS_nodup (g : List Tk) (st : List Int) : (chgS g st).Nodup := (chgS_perm g st).nodup_iff.2 (nodup_chgN g st _)
theorem chgN_len (g : List Tk) (st : List Int) : ∀ n, (chgN g st n).length = 2 * n
 | 0 => rfl
 | n + 1 => by
  unfold chgN
  rw [List.length_append, chgN_len g st n]
  simp
  omega
theorem chgS_len (g : List Tk) (st : List Int) : (chgS g st).length = 2 * g.length := by rw [(chgS_perm g st).length_eq, chgN_len]
theorem chgS_sorted (g : List Tk) (st : List Int) : (chgS g st).Pairwise fun a b => ¬ ltE b a := by
 have h := List.pairwise_mergeSort (le := fun x y => !ltEB y x) (fun a b c h1 h2 => by
  simp only [ltEB, Bool.not_eq_true', decide_eq_false_iff_not] at *
  intro h
  by_cases hab : ltE a b
  ·
   exact h2 (ltE_trans h hab)
  ·
   obtain rfl := ltE_total hab h1
   exact h2 h) (fun a b => by
  simp only [ltEB, Bool.or_eq_true, Bool.not_eq_true', decide_eq_false_iff_not]
  by_cases hab : ltE a b
  ·
   exact .inl (fun h => ltE_irrefl _ (ltE_trans hab h))
  ·
   exact .inr hab) (chgN g st g.length)
 refine List.Pairwise.imp (fun h => ?_) h
 simpa [ltEB] using h
theorem mem_chgS {g : List Tk} {st : List Int} {x : Ev} : x ∈ chgS g st ↔ ∃ i, i < g.length ∧ (x = chB st i ∨ x = chO g st i) := by
 rw [(chgS_perm g st).mem_iff, mem_chgN]
theorem ahead_of {C l1 l2 : List Ev} {e : Ev} (hC : C = l1 ++ e :: l2) (hs : C.Pairwise fun a b => ¬ ltE b a) (hn : C.Nodup) : C.filter (fun x => ltEB x e) = l1 := by
 subst hC
 rw [List.filter_append, List.filter_cons]
 obtain ⟨p1, p2, p3⟩ := List.pairwise_append.1 hs
 obtain ⟨p4, p5⟩ := List.pairwise_cons.1 p2
 rw [List.nodup_append] at hn
 have h1 : l1.filter (fun x => ltEB x e) = l1 := by
  rw [List.filter_eq_self]
  intro a ha
  unfold ltEB
  apply decide_eq_true
  have h2 := p3 a ha e List.mem_cons_self
  by_cases hae : ltE a e
  ·
   exact hae
  ·
   exact absurd (ltE_total hae h2) (hn.2.2 a ha e List.mem_cons_self)
 have h2 : l2.filter (fun x => ltEB x e) = [] := by
  rw [List.filter_eq_nil_iff]
  intro a ha
  have := p4 a ha
  simpa [ltEB] using this
 rw [h1, h2, if_neg (by simp [ltEB, ltE_irrefl])]
 simp
theorem perm_sum {l1 l2 : List Int} (h : l1.Perm l2) : l1.sum = l2.sum := by
 induction h with
 | nil => rfl
 | cons x _ ih => simp [ih]
 | swap x y l => simp; omega
 | trans _ _ a b => rw [a, b]
def sgn (e : Ev) : Int := if e.f2 then -1 else 1
def unU (g : List Tk) (p : Int) (e : Ev) : Int := if (rdTk g e.f1.toNat).f2 = p then sgn e * (rdTk g e.f1.toNat).f3 else 0
def cOf (g : List Tk) (l : List Ev) : Ct := ⟨(l.map sgn).sum, fun p => (l.map (unU g p)).sum⟩
def dStep (d : Nat) (e : Ev) : Nat := if e.f2 then d ||| 2 ^ e.f1.toNat else d
def dOf (l : List Ev) : Nat := l.foldl dStep 0
theorem dOf_snoc (l : List Ev) (e : Ev) : dOf (l ++ [e]) = dStep (dOf l) e := by
 unfold dOf
 rw [List.foldl_append]
 rfl
theorem dOf_bit (j : Nat) : ∀ (l : List Ev) (d : Nat), (l.foldl dStep d).testBit j = (d.testBit j || l.any fun e => e.f2 && decide (e.f1.toNat = j))
 | [], d => by simp
 | e :: l, d => by
  rw [List.foldl_cons, dOf_bit j l, List.any_cons]
  unfold dStep
  cases e.f2
  ·
   simp
  ·
   rw [if_pos rfl, or_bit]
   cases d.testBit j <;> simp
theorem cOf_snoc {g : List Tk} {p : Nat} {l : List Ev} {e : Ev} (hp : (rdTk g e.f1.toNat).f2 = (p : Int)) : cOf g (l ++ [e]) = (cOf g l).add p (rdTk g e.f1.toNat).f3 (sgn e) := by
 unfold cOf Ct.add
 simp only [List.map_append, List.map_cons, List.map_nil, List.sum_append, List.sum_cons, List.sum_nil, Int.add_zero]
 congr 1
 funext j
 unfold unU
 rw [hp]
 by_cases h : j = p
 ·
  subst h
  rw [if_pos rfl, if_pos rfl]
 ·
  rw [if_neg h, if_neg (fun e => h (by omega)), Int.add_zero]
def okE (g : List Tk) (ns : List Nat) (rm : List Int) (wk : Int) (l : List Ev) (e : Ev) : Bool :=
 e.f2 || (decide (diff (ns.getD e.f1.toNat 0) (dOf l) = 0) && (cOf g l).can (rdTk g e.f1.toNat).f2.toNat (rdTk g e.f1.toNat).f3 rm wk)
def zEvD : Ev := ⟨0, 0, false⟩
def okAllB (g : List Tk) (ns : List Nat) (rm : List Int) (wk : Int) (C : List Ev) : Bool := (List.range C.length).all fun q => okE g ns rm wk (C.take q) (rdEv C q)
def startsB (g : List Tk) (ns : List Nat) (rm : List Int) (wk : Int) (st : List Int) : Bool := okAllB g ns rm wk (chgS g st)
def sumF (F : Ev → Int) (P : Ev → Bool) (x : Ev) : Int := if P x then F x else 0
theorem filt_sum (F : Ev → Int) (P : Ev → Bool) (g : List Tk) (st : List Int) : ∀ n, (((chgN g st n).filter P).map F).sum = sumTo (fun i => sumF F P (chB st i) + sumF F P (chO g st i)) n
 | 0 => rfl
 | n + 1 => by
  unfold chgN sumTo
  rw [List.filter_append, List.map_append, List.sum_append, filt_sum F P g st n]
  congr 1
  simp only [List.filter_cons, List.filter_nil]
  unfold sumF
  by_cases h1 : P (chB st n) = true <;> by_cases h2 : P (chO g st n) = true <;> simp [h1, h2]
def actB (g : List Tk) (st : List Int) (i k : Nat) : Bool := (decide (st.getD k 0 < st.getD i 0) || (decide (st.getD k 0 = st.getD i 0) && decide (k < i))) && decide (st.getD i 0 < st.getD k 0 + (rdTk g k).f0)
theorem lt_BB {st : List Int} {i k : Nat} : ltE (chB st k) (chB st i) ↔ st.getD k 0 < st.getD i 0 ∨ (st.getD k 0 = st.getD i 0 ∧ k < i) := by
 unfold ltE chB
 simp
theorem lt_OB {g : List Tk} {st : List Int} {i k : Nat} : ltE (chO g st k) (chB st i) ↔ st.getD k 0 + (rdTk g k).f0 ≤ st.getD i 0 := by
 unfold ltE chO chB
 simp only [true_and]
 constructor
 ·
  rintro (h | ⟨h, _⟩) <;> omega
 ·
  intro h
  by_cases hc : st.getD k 0 + (rdTk g k).f0 < st.getD i 0
  ·
   exact .inl hc
  ·
   exact .inr ⟨by omega, .inl trivial⟩
theorem sgn_ahead {g : List Tk} (hok : TOk g) {st : List Int} {i k : Nat} (hk : k < g.length) : sumF sgn (fun x => ltEB x (chB st i)) (chB st k) + sumF sgn (fun x => ltEB x (chB st i)) (chO g st k) = if actB g st i k then 1 else 0 := by
 have ht := hok.2.2.2.2 k hk
 have e1 : ltEB (chB st k) (chB st i) = (decide (st.getD k 0 < st.getD i 0) || (decide (st.getD k 0 = st.getD i 0) && decide (k < i))) := by
  unfold ltEB
  rw [Bool.eq_iff_iff, decide_eq_true_iff, lt_BB]
  simp
 have e2 : ltEB (chO g st k) (chB st i) = decide (st.getD k 0 + (rdTk g k).f0 ≤ st.getD i 0) := by
  unfold ltEB
  rw [decide_eq_decide, lt_OB]
 unfold sumF actB
 simp only [e1, e2]
 have s1 : sgn (chB st k) = 1 := rfl
 have s2 : sgn (chO g st k) = -1 := rfl
 rw [s1, s2]
 by_cases h1 : st.getD k 0 + (rdTk g k).f0 ≤ st.getD i 0
 ·
  have h2 : st.getD k 0 < st.getD i 0 := by omega
  rw [decide_eq_true h1, decide_eq_true h2, decide_eq_false (show ¬ st.getD i 0 < st.getD k 0 + (rdTk g k).f0 by omega)]
  simp
 ·
  rw [decide_eq_false h1, decide_eq_true (show st.getD i 0 < st.getD k 0 + (rdTk g k).f0 by omega)]
  simp
theorem un_ahead {g : List Tk} (hok : TOk g) {st : List Int} {i k : Nat} (p : Int) (hk : k < g.length) : sumF (unU g p) (fun x => ltEB x (chB st i)) (chB st k) + sumF (unU g p) (fun x => ltEB x (chB st i)) (chO g st k) = if actB g st i k && decide ((rdTk g k).f2 = p) then (rdTk g k).f3 else 0 := by
 have h := sgn_ahead hok (st := st) (i := i) hk
 unfold sumF at h ⊢
 simp only [] at h ⊢
 have u1 : unU g p (chB st k) = if (rdTk g k).f2 = p then (rdTk g k).f3 else 0 := by
  unfold unU
  show (if (rdTk g ((k : Nat) : Int).toNat).f2 = p then 1 * (rdTk g ((k : Nat) : Int).toNat).f3 else 0) = _
  rw [Int.toNat_natCast, Int.one_mul]
 have u2 : unU g p (chO g st k) = if (rdTk g k).f2 = p then -(rdTk g k).f3 else 0 := by
  unfold unU
  show (if (rdTk g ((k : Nat) : Int).toNat).f2 = p then (-1) * (rdTk g ((k : Nat) : Int).toNat).f3 else 0) = _
  rw [Int.toNat_natCast]
  split <;> omega
 have s1 : sgn (chB st k) = 1 := rfl
 have s2 : sgn (chO g st k) = -1 := rfl
 rw [s1, s2] at h
 rw [u1, u2]
 by_cases h4 : (rdTk g k).f2 = p
 ·
  rw [if_pos h4, if_pos h4, decide_eq_true h4, Bool.and_true]
  by_cases h1 : ltEB (chB st k) (chB st i) = true <;> by_cases h2 : ltEB (chO g st k) (chB st i) = true <;> by_cases h3 : actB g st i k = true <;> simp [h1, h2, h3] at h ⊢ <;> omega
 ·
  simp [h4]
def actS (g : List Tk) (st : List Int) (i : Nat) : List Nat := (List.range g.length).filter (actB g st i)
theorem sumTo_count {P : Nat → Bool} : ∀ n, sumTo (fun k => if P k then 1 else 0) n = (((List.range n).filter P).length : Nat)
 | 0 => rfl
 | n + 1 => by
  unfold sumTo
  rw [sumTo_count n, List.range_succ, List.filter_append]
  cases h : P n <;> simp [h]
theorem sumTo_used {g : List Tk} {P : Nat → Bool} {p : Int} : ∀ n, sumTo (fun k => if P k && decide ((rdTk g k).f2 = p) then (rdTk g k).f3 else 0) n = usedS g ((List.range n).filter P) p
 | 0 => rfl
 | n + 1 => by
  unfold sumTo
  rw [sumTo_used n, List.range_succ, List.filter_append]
  cases h : P n
  ·
   simp [h]
  ·
   rw [show List.filter P [n] = [n] by simp [h], usedS_snoc]
   simp [h]
theorem sumTo_congr {f h : Nat → Int} : ∀ n, (∀ i, i < n → f i = h i) → sumTo f n = sumTo h n
 | 0, _ => rfl
 | n + 1, hh => by
  unfold sumTo
  rw [sumTo_congr n (fun i hi => hh i (by omega)), hh n (by omega)]
theorem ahead_sum {g : List Tk} {st : List Int} {l1 l2 : List Ev} {e : Ev} (hC : chgS g st = l1 ++ e :: l2) (F : Ev → Int) : (l1.map F).sum = sumTo (fun k => sumF F (fun x => ltEB x e) (chB st k) + sumF F (fun x => ltEB x e) (chO g st k)) g.length := by
 have h := ahead_of hC (chgS_sorted g st) (chgS_nodup g st)
 rw [← filt_sum, ← h]
 exact perm_sum (((chgS_perm g st).filter _).map F)
theorem cOf_ahead {g : List Tk} (hok : TOk g) {st : List Int} {l1 l2 : List Ev} {i : Nat} (hC : chgS g st = l1 ++ chB st i :: l2) : (cOf g l1).t = ((actS g st i).length : Nat) ∧ ∀ p : Nat, (cOf g l1).u p = usedS g (actS g st i) p := by
 constructor
 ·
  show (l1.map sgn).sum = _
  rw [ahead_sum hC sgn, sumTo_congr _ (fun k hk => sgn_ahead hok hk), sumTo_count]
  rfl
 ·
  intro p
  show (l1.map (unU g p)).sum = _
  rw [ahead_sum hC (unU g p), sumTo_congr _ (fun k hk => un_ahead hok (p : Int) hk), sumTo_used]
  rfl
theorem dOf_ahead {g : List Tk} {st : List Int} {l1 l2 : List Ev} {i : Nat} (hC : chgS g st = l1 ++ chB st i :: l2) (j : Nat) : (dOf l1).testBit j = decide (j < g.length ∧ st.getD j 0 + (rdTk g j).f0 ≤ st.getD i 0) := by
 unfold dOf
 rw [dOf_bit, Nat.zero_testBit, Bool.false_or, Bool.eq_iff_iff, List.any_eq_true, decide_eq_true_iff, ← ahead_of hC (chgS_sorted g st) (chgS_nodup g st)]
 constructor
 ·
  rintro ⟨x, hx, h⟩
  rw [List.mem_filter] at hx
  rw [Bool.and_eq_true, decide_eq_true_iff] at h
  obtain ⟨k, hk, hh⟩ := mem_chgS.1 hx.1
  rcases hh with rfl | rfl
  ·
   exact absurd h.1 (by simp [chB])
  ·
   have e : k = j := by have := h.2; simpa [chO] using this
   subst e
   exact ⟨hk, lt_OB.1 (of_decide_eq_true hx.2)⟩
 ·
  rintro ⟨hj, h⟩
  refine ⟨chO g st j, List.mem_filter.2 ⟨mem_chgS.2 ⟨j, hj, .inr rfl⟩, decide_eq_true (lt_OB.2 h)⟩, ?_⟩
  simp [chO]
def canAt (g : List Tk) (rm : List Int) (wk : Int) (st : List Int) (i : Nat) : Prop :=
 (∀ k : Nat, (k : Int) ∈ (rdTk g i).f1 → st.getD k 0 + (rdTk g k).f0 ≤ st.getD i 0) ∧ ((actS g st i).length : Int) < wk ∧ usedS g (actS g st i) (rdTk g i).f2 + (rdTk g i).f3 ≤ rm.getD (rdTk g i).f2.toNat 0
theorem rdEv_of {C : List Ev} {q : Nat} (hq : q < C.length) : C = C.take q ++ rdEv C q :: C.drop (q + 1) := by
 have : rdEv C q = C[q] := by
  unfold rdEv
  rw [List.getD_eq_getElem?_getD, List.getElem?_eq_getElem hq]
  rfl
 rw [this, ← List.drop_eq_getElem_cons hq, List.take_append_drop]
theorem okE_begin {g : List Tk} {ns : List Nat} (hg : graphN g = some ns) {rm : List Int} {wk : Int} {st : List Int} {l1 l2 : List Ev} {i : Nat} (hi : i < g.length) (hC : chgS g st = l1 ++ chB st i :: l2) : okE g ns rm wk l1 (chB st i) = true ↔ canAt g rm wk st i := by
 have hok := specValid_TOk (graphN_spec hg)
 obtain ⟨h1, h2⟩ := cOf_ahead hok hC
 have h3 := dOf_ahead hC
 have hp := hok.2.2.1 i
 unfold okE canAt
 show (false || (decide (diff (ns.getD ((i : Nat) : Int).toNat 0) (dOf l1) = 0) && (cOf g l1).can (rdTk g ((i : Nat) : Int).toNat).f2.toNat (rdTk g ((i : Nat) : Int).toNat).f3 rm wk)) = true ↔ _
 rw [Int.toNat_natCast, Bool.false_or, Bool.and_eq_true, decide_eq_true_iff, diff_zero]
 unfold Ct.can
 rw [Bool.and_eq_true, decide_eq_true_iff, decide_eq_true_iff, h1, h2, show (((rdTk g i).f2.toNat : Nat) : Int) = (rdTk g i).f2 by omega]
 have hn : (∀ k, (ns.getD i 0).testBit k = true → (dOf l1).testBit k = true) ↔ ∀ k : Nat, (k : Int) ∈ (rdTk g i).f1 → st.getD k 0 + (rdTk g k).f0 ≤ st.getD i 0 := by
  constructor
  ·
   intro h k hk
   have := h k (by rw [need_bit hg hi]; exact decide_eq_true hk)
   rw [h3] at this
   exact (of_decide_eq_true this).2
  ·
   intro h k hk
   rw [need_bit hg hi] at hk
   have hk := of_decide_eq_true hk
   have hl := spec_needs_in (graphN_spec hg) i hi _ hk
   rw [h3]
   exact decide_eq_true ⟨by omega, h k hk⟩
 rw [hn]
theorem startsB_iff {g : List Tk} {ns : List Nat} (hg : graphN g = some ns) {rm : List Int} {wk : Int} {st : List Int} : startsB g ns rm wk st = true ↔ ∀ i, i < g.length → canAt g rm wk st i := by
 unfold startsB okAllB
 rw [List.all_eq_true]
 constructor
 ·
  intro h i hi
  have hm : chB st i ∈ chgS g st := mem_chgS.2 ⟨i, hi, .inl rfl⟩
  obtain ⟨q, hq, e⟩ := List.getElem_of_mem hm
  have h1 := h q (List.mem_range.2 hq)
  have e2 : rdEv (chgS g st) q = chB st i := by
   unfold rdEv
   rw [List.getD_eq_getElem?_getD, List.getElem?_eq_getElem hq]
   exact e
  have hC := rdEv_of hq
  rw [e2] at h1 hC
  exact (okE_begin hg hi hC).1 h1
 ·
  intro h q hq
  have hq := List.mem_range.1 hq
  have hC := rdEv_of hq
  have hm : rdEv (chgS g st) q ∈ chgS g st := by
   unfold rdEv
   rw [List.getD_eq_getElem?_getD, List.getElem?_eq_getElem hq]
   exact List.getElem_mem _
  obtain ⟨i, hi, hh⟩ := mem_chgS.1 hm
  rcases hh with e | e
  ·
   rw [e] at hC ⊢
   exact (okE_begin hg hi hC).2 (h i hi)
  ·
   rw [e]
   rfl
def runOk (g : List Tk) (rm : List Int) (wk : Int) (st : List Int) (i : Nat) : Prop :=
 (∀ k : Nat, (k : Int) ∈ (rdTk g i).f1 → st.getD k 0 + (rdTk g k).f0 ≤ st.getD i 0) ∧ ((runS g st (st.getD i 0)).length : Int) ≤ wk ∧ ∀ p : Nat, p < 3 → usedS g (runS g st (st.getD i 0)) p ≤ rm.getD p 0
theorem usedS_filter (g : List Tk) (p : Int) {P Q : Nat → Bool} (hok : TOk g) : ∀ n, (∀ k, k < n → P k = true → (rdTk g k).f2 = p → Q k = true) → usedS g ((List.range n).filter P) p ≤ usedS g ((List.range n).filter Q) p := by
 intro n h
 rw [← sumTo_used, ← sumTo_used]
 refine sumTo_le n (fun k hk => ?_)
 have hb := hok.2.2.2.1 k
 by_cases h1 : P k = true
 ·
  by_cases h2 : (rdTk g k).f2 = p
  ·
   rw [h1, h k hk h1 h2]
   exact Int.le_refl _
  ·
   simp [h2]
 ·
  have : P k = false := by simpa using h1
  rw [this]
  simp only [Bool.false_and, Bool.false_eq_true, if_false]
  split <;> omega
theorem actB_iff {g : List Tk} {st : List Int} {i k : Nat} : actB g st i k = true ↔ (st.getD k 0 < st.getD i 0 ∨ (st.getD k 0 = st.getD i 0 ∧ k < i)) ∧ st.getD i 0 < st.getD k 0 + (rdTk g k).f0 := by
 unfold actB
 rw [Bool.and_eq_true, Bool.or_eq_true, Bool.and_eq_true, decide_eq_true_iff, decide_eq_true_iff, decide_eq_true_iff, decide_eq_true_iff]
theorem runB_iff {g : List Tk} {st : List Int} {now : Int} {k : Nat} : runB g st now k = true ↔ st.getD k 0 ≤ now ∧ now < st.getD k 0 + (rdTk g k).f0 := by
 unfold runB
 rw [Bool.and_eq_true, decide_eq_true_iff, decide_eq_true_iff]
theorem act_self {g : List Tk} {st : List Int} {i : Nat} (hi : i < g.length) : ((actS g st i).length : Int) + 1 = (((List.range g.length).filter fun k => actB g st i k || decide (k = i)).length : Nat) ∧ ∀ p, usedS g (actS g st i) p + (if (rdTk g i).f2 = p then (rdTk g i).f3 else 0) = usedS g ((List.range g.length).filter fun k => actB g st i k || decide (k = i)) p := by
 have hs : actB g st i i = false := by
  cases h : actB g st i i with
  | false => rfl
  | true => have := actB_iff.1 h; omega
 have key : ∀ (f : Nat → Int) n, i < n → sumTo (fun k => if actB g st i k then f k else 0) n + f i = sumTo (fun k => if actB g st i k || decide (k = i) then f k else 0) n := by
  intro f n
  induction n with
  | zero => intro h; omega
  | succ n ih =>
   intro h
   unfold sumTo
   by_cases hin : i < n
   ·
    have := ih hin
    rw [show decide (n = i) = false from decide_eq_false (by omega), Bool.or_false]
    omega
   ·
    obtain rfl : i = n := by omega
    rw [hs, decide_eq_true rfl, Bool.false_or]
    have : sumTo (fun k => if actB g st i k then f k else 0) i = sumTo (fun k => if actB g st i k || decide (k = i) then f k else 0) i := sumTo_congr i (fun k hk => by rw [decide_eq_false (show ¬ k = i by omega), Bool.or_false])
    rw [this]
    simp
 constructor
 ·
  unfold actS
  rw [← sumTo_count, ← sumTo_count]
  exact key (fun _ => 1) _ hi
 ·
  intro p
  unfold actS
  rw [← sumTo_used, ← sumTo_used]
  have h := key (fun k => if (rdTk g k).f2 = p then (rdTk g k).f3 else 0) _ hi
  have e : ∀ (P : Nat → Bool) n, sumTo (fun k => if P k && decide ((rdTk g k).f2 = p) then (rdTk g k).f3 else 0) n = sumTo (fun k => if P k then (if (rdTk g k).f2 = p then (rdTk g k).f3 else 0) else 0) n := fun P n => sumTo_congr n (fun k _ => by
   cases P k <;> simp)
  rw [e, e]
  exact h
theorem last_of {st : List Int} {P : Nat → Bool} : ∀ n, (∃ k, k < n ∧ P k = true) → ∃ j, j < n ∧ P j = true ∧ ∀ k, k < n → P k = true → st.getD k 0 < st.getD j 0 ∨ (st.getD k 0 = st.getD j 0 ∧ k ≤ j)
 | 0, ⟨_, h, _⟩ => absurd h (Nat.not_lt_zero _)
 | n + 1, h => by
  by_cases hc : ∃ k, k < n ∧ P k = true
  ·
   obtain ⟨j, h1, h2, h3⟩ := last_of n hc
   by_cases hn : P n = true
   ·
    by_cases hl : st.getD n 0 < st.getD j 0
    ·
     refine ⟨j, by omega, h2, fun k hk hp => ?_⟩
     by_cases hkn : k < n
     ·
      exact h3 k hkn hp
     ·
      obtain rfl : k = n := by omega
      exact .inl hl
    ·
     refine ⟨n, by omega, hn, fun k hk hp => ?_⟩
     by_cases hkn : k < n
     ·
      rcases h3 k hkn hp with h | ⟨h, _⟩
      ·
       by_cases he : st.getD k 0 = st.getD n 0
       ·
        exact .inr ⟨he, by omega⟩
       ·
        exact .inl (by omega)
      ·
       by_cases he : st.getD k 0 = st.getD n 0
       ·
        exact .inr ⟨he, by omega⟩
       ·
        exact .inl (by omega)
     ·
      obtain rfl : k = n := by omega
      exact .inr ⟨rfl, Nat.le_refl _⟩
   ·
    refine ⟨j, by omega, h2, fun k hk hp => ?_⟩
    by_cases hkn : k < n
    ·
     exact h3 k hkn hp
    ·
     obtain rfl : k = n := by omega
     exact absurd hp hn
  ·
   obtain ⟨k, hk, hp⟩ := h
   have hkn : k = n := by
    by_cases hk' : k < n
    ·
     exact absurd ⟨k, hk', hp⟩ hc
    ·
     omega
   subst hkn
   refine ⟨k, by omega, hp, fun q hq hpq => ?_⟩
   by_cases hqn : q < k
   ·
    exact absurd ⟨q, hqn, hpq⟩ hc
   ·
    obtain rfl : q = k := by omega
    exact .inr ⟨rfl, Nat.le_refl _⟩
theorem filter_len_le {P Q : Nat → Bool} (n : Nat) (h : ∀ k, k < n → P k = true → Q k = true) : ((List.range n).filter P).length ≤ ((List.range n).filter Q).length := by
 have h1 := sumTo_count (P := P) n
 have h2 := sumTo_count (P := Q) n
 have h3 := sumTo_le (f := fun k => if P k then 1 else 0) (h := fun k => if Q k then 1 else 0) n (fun k hk => by
  by_cases hp : P k = true
  ·
   rw [hp, h k hk hp]
   exact Int.le_refl _
  ·
   have : P k = false := by simpa using hp
   rw [this]
   simp only [Bool.false_eq_true, if_false]
   split <;> omega)
 omega
theorem can_run {g : List Tk} (hok : TOk g) {rm : List Int} (hrm : ∀ p, p < 3 → 4 ≤ rm.getD p 0) {wk : Int} {st : List Int} : (∀ i, i < g.length → canAt g rm wk st i) ↔ ∀ i, i < g.length → runOk g rm wk st i := by
 constructor
 ·
  intro h i hi
  have hti := hok.2.2.2.2 i hi
  obtain ⟨j, hj, hp, hl⟩ := last_of (st := st) (P := runB g st (st.getD i 0)) g.length ⟨i, hi, runB_iff.2 (by omega)⟩
  have hjr := runB_iff.1 hp
  refine ⟨(h i hi).1, ?_, fun p hp3 => ?_⟩
  ·
   have h1 := (act_self (st := st) hj).1
   have h2 := (h j hj).2.1
   have h3 := filter_len_le (P := runB g st (st.getD i 0)) (Q := fun k => actB g st j k || decide (k = j)) g.length (fun k hk hpk => by
    have hr := runB_iff.1 hpk
    by_cases hkj : k = j
    ·
     rw [decide_eq_true hkj, Bool.or_true]
    ·
     rw [actB_iff.2 ?_]
     ·
      rfl
     ·
      rcases hl k hk hpk with hh | hh
      ·
       exact ⟨.inl hh, by omega⟩
      ·
       exact ⟨.inr ⟨hh.1, by omega⟩, by omega⟩)
   unfold runS
   omega
  ·
   by_cases hex : ∃ k, k < g.length ∧ (runB g st (st.getD i 0) k && decide ((rdTk g k).f2 = p)) = true
   ·
    obtain ⟨q, hq, hqp, hql⟩ := last_of (st := st) (P := fun k => runB g st (st.getD i 0) k && decide ((rdTk g k).f2 = p)) g.length hex
    rw [Bool.and_eq_true, decide_eq_true_iff] at hqp
    have hqr := runB_iff.1 hqp.1
    have h1 := (act_self (st := st) hq).2 p
    rw [if_pos hqp.2] at h1
    have h2 := (h q hq).2.2
    rw [hqp.2, Int.toNat_natCast] at h2
    have h3 := usedS_filter g p (P := runB g st (st.getD i 0)) (Q := fun k => actB g st q k || decide (k = q)) hok g.length (fun k hk hpk hpp => by
     have hr := runB_iff.1 hpk
     by_cases hkq : k = q
     ·
      rw [decide_eq_true hkq, Bool.or_true]
     ·
      rw [actB_iff.2 ?_]
      ·
       rfl
      ·
       rcases hql k hk (by rw [hpk, decide_eq_true hpp]; rfl) with hh | hh
       ·
        exact ⟨.inl hh, by omega⟩
       ·
        exact ⟨.inr ⟨hh.1, by omega⟩, by omega⟩)
    unfold runS
    omega
   ·
    have h3 := usedS_filter g p (P := runB g st (st.getD i 0)) (Q := fun _ => false) hok g.length (fun k hk hpk hpp => absurd ⟨k, hk, by rw [hpk, decide_eq_true hpp]; rfl⟩ hex)
    have h4 := hrm p hp3
    have h5 : usedS g ((List.range g.length).filter fun _ => false) p = 0 := by
     rw [show (List.range g.length).filter (fun _ => false) = [] by simp]
     rfl
    unfold runS
    omega
 ·
  intro h i hi
  obtain ⟨h1, h2, h3⟩ := h i hi
  have hti := hok.2.2.2.2 i hi
  have hpi := hok.2.2.1 i
  have hsub : ∀ k, k < g.length → (actB g st i k || decide (k = i)) = true → runB g st (st.getD i 0) k = true := fun k hk hh => by
   rw [Bool.or_eq_true, decide_eq_true_iff] at hh
   rcases hh with hh | hh
   ·
    have := actB_iff.1 hh
    exact runB_iff.2 (by omega)
   ·
    subst hh
    exact runB_iff.2 (by omega)
  have ha := act_self (st := st) hi
  refine ⟨h1, ?_, ?_⟩
  ·
   have := filter_len_le g.length hsub
   have e := ha.1
   unfold runS at h2
   omega
  ·
   have e := ha.2 (rdTk g i).f2
   rw [if_pos rfl] at e
   have := usedS_filter g (rdTk g i).f2 (P := fun k => actB g st i k || decide (k = i)) (Q := runB g st (st.getD i 0)) hok g.length (fun k hk hp _ => hsub k hk hp)
   have h4 := h3 (rdTk g i).f2.toNat (by omega)
   rw [show (((rdTk g i).f2.toNat : Nat) : Int) = (rdTk g i).f2 by omega] at h4
   unfold runS at h4
   omega
end Go.Proofs.YtdjdfbfcjajlkaaDoor

namespace Go.Proofs.YtdjdfbfcjajlkaaDoor
set_option linter.unusedVariables false
set_option linter.unusedSimpArgs false
open Go.RowKit Go.Shelf Bits
open Go.Proofs.YtdjdfbfcjajlkaaDoorW.PrintWords Go.Proofs.YtdjdfbfcjajlkaaDoorW.PrintLast Go.Proofs.YtdjdfbfcjajlkaaDoorW.PrintMore
attribute [local go_sem] Oper.semAt_some
def cmpI (x y : Int) : Int := if x < y then -1 else if y < x then 1 else 0
def cmpE (a b : Ev) : Int := if a.f0 = b.f0 ∧ a.f2 ≠ b.f2 then (if a.f2 then -1 else 1) else if cmpI a.f0 b.f0 ≠ 0 then cmpI a.f0 b.f0 else cmpI a.f1 b.f1
theorem cmpI_neg {x y : Int} : cmpI x y < 0 ↔ x < y := by
 unfold cmpI
 split
 ·
  simp_all
 ·
  split <;> simp_all
theorem cmpI_zero {x y : Int} : cmpI x y = 0 ↔ x = y := by
 unfold cmpI
 split
 ·
  rename_i h
  constructor
  ·
   intro e; exact absurd e (by decide)
  ·
   intro e; omega
 ·
  rename_i h
  split
  ·
   rename_i h2
   constructor
   ·
    intro e; exact absurd e (by decide)
   ·
    intro e; omega
  ·
   rename_i h2
   exact ⟨fun _ => by omega, fun _ => rfl⟩
theorem cmpE_lt (a b : Ev) : cmpE a b < 0 ↔ ltE a b := by
 unfold cmpE ltE
 by_cases h0 : a.f0 = b.f0
 ·
  by_cases h2 : a.f2 = b.f2
  ·
   rw [if_neg (fun h => h.2 h2), if_neg (by rw [cmpI_zero.2 h0]; simp), cmpI_neg]
   constructor
   ·
    intro h
    exact .inr ⟨h0, .inr ⟨h2, h⟩⟩
   ·
    rintro (h | ⟨_, ⟨h, k⟩ | ⟨_, h⟩⟩)
    ·
     omega
    ·
     rw [h, k] at h2; cases h2
    ·
     exact h
  ·
   rw [if_pos ⟨h0, h2⟩]
   cases ha : a.f2
   ·
    simp only [Bool.false_eq_true, if_false]
    constructor
    ·
     intro h; exact absurd h (by decide)
    ·
     rintro (h | ⟨_, ⟨h, _⟩ | ⟨h, _⟩⟩)
     ·
      omega
     ·
      cases h
     ·
      rw [ha] at h2; exact absurd h h2
   ·
    have hb : b.f2 = false := by
     cases hb : b.f2
     ·
      rfl
     ·
      rw [ha, hb] at h2; exact absurd rfl h2
    simp only [if_true]
    exact ⟨fun _ => .inr ⟨h0, .inl ⟨by first | rfl | trivial | exact ha, hb⟩⟩, fun _ => by decide⟩
 ·
  rw [if_neg (fun h => h0 h.1), if_pos (fun h => h0 (cmpI_zero.1 h)), cmpI_neg]
  constructor
  ·
   exact .inl
  ·
   rintro (h | ⟨h, _⟩)
   ·
    exact h
   ·
    exact absurd h h0
theorem isNaN_calls (x : Int) (w : World) : Calls Tryd.prog 126 #[.int .i64 x] w fun e w' => e = .returned (.bool false) ∧ w' = w := by
 go_enter Tryd.func126, Tryd.ntmps126
 go_wp2
 go_ret
 exact ⟨ret_bool (by simp), rfl⟩
theorem compare_calls (x y : Int) (w : World) : Calls Tryd.prog 100 #[.int .i64 x, .int .i64 y] w fun e w' => e = .returned (.int .i64 (cmpI x y)) ∧ w' = w := by
 by_cases h1 : x < y
 ·
  have d1 : decide (x < y) = true := decide_eq_true h1
  have HF : Hid (cmpI x y = -1) := Lib.hid (by unfold cmpI; rw [if_pos h1])
  clear h1
  go_enter Tryd.func100, Tryd.ntmps100
  go_wp2_with (go_at_call 126; refine (isNaN_calls _ _).mono ?_; rintro e w' ⟨rfl, rfl⟩)
  go_ret
  exact ⟨ret_int HF.out.symm, rfl⟩
 ·
  have d1 : decide (x < y) = false := decide_eq_false h1
  by_cases h2 : y < x
  ·
   have d2 : decide (y < x) = true := decide_eq_true h2
   have HF : Hid (cmpI x y = 1) := Lib.hid (by unfold cmpI; rw [if_neg h1, if_pos h2])
   clear h1 h2
   go_enter Tryd.func100, Tryd.ntmps100
   go_wp2_with (go_at_call 126; refine (isNaN_calls _ _).mono ?_; rintro e w' ⟨rfl, rfl⟩)
   go_ret
   exact ⟨ret_int HF.out.symm, rfl⟩
  ·
   have d2 : decide (y < x) = false := decide_eq_false h2
   have HF : Hid (cmpI x y = 0) := Lib.hid (by unfold cmpI; rw [if_neg h1, if_neg h2])
   clear h1 h2
   go_enter Tryd.func100, Tryd.ntmps100
   go_wp2_with (go_at_call 126; refine (isNaN_calls _ _).mono ?_; rintro e w' ⟨rfl, rfl⟩)
   go_ret
   exact ⟨ret_int HF.out.symm, rfl⟩
theorem or_calls (A : Option Addr) (c : Nat) (a b r : Int) (HR : Hid ((if a ≠ 0 then a else b) = r)) (w : World) (hr : (Kd.int .i64).C w A 2 [a, b]) : Calls Tryd.prog 99 #[.slice A 2 c] w fun e w' => e = .returned (.int .i64 r) ∧ w' = w := by
 obtain ⟨ad, rfl, c0⟩ := at_num hr 0 (by omega)
 obtain ⟨ad', e', c1⟩ := at_num hr 1 (by omega)
 cases e'
 replace c0 : w.cell? (ad.add 0) = some (.int .i64 a) := c0
 rw [show ad.add 0 = ad from by cases ad; rfl] at c0
 replace c1 : w.cell? (ad.add 1) = some (.int .i64 b) := c1
 have c1 : w.cell? ⟨ad.block, ad.off + 1, none⟩ = some (.int .i64 b) := by simpa [Addr.add] using c1
 clear hr
 go_enter Tryd.func99, Tryd.ntmps99
 go_wp2
 go_loop [8] (fun i => ∃ (j : Nat), j ≤ 2 ∧ i = .int .i64 j ∧ Hid ((1 ≤ j → a = 0) ∧ (2 ≤ j → b = 0))) (fun i => 2 - (intOf i).toNat)
 case atStart => exact ⟨0, by omega, rfl, Lib.hid ⟨fun h => by omega, fun h => by omega⟩⟩
 case round =>
  obtain ⟨j, hj, rfl, HS⟩ := hrel
  by_cases h0 : j = 0
  ·
   subst h0
   by_cases ha : a = 0
   ·
    have da : (a != 0) = false := by rw [bne_eq_false_iff_eq]; exact ha
    have HA := Lib.hid ha
    clear ha
    go_wp2
    go_round
    case rel => exact ⟨1, by omega, rfl, Lib.hid ⟨fun _ => HA.out, fun h => by omega⟩⟩
    case measure => simp [intOf]
   ·
    have da : (a != 0) = true := by rw [bne_iff_ne]; exact ha
    have HF : Hid (r = a) := Lib.hid (by rw [← HR.out]; exact if_pos ha)
    clear ha
    go_wp2
    go_ret
    exact ⟨ret_int HF.out.symm, rfl⟩
  ·
   by_cases h1 : j = 1
   ·
    subst h1
    have HA := Lib.hid (HS.out.1 (Nat.le_refl _))
    by_cases hb : b = 0
    ·
     have da : (b != 0) = false := by rw [bne_eq_false_iff_eq]; exact hb
     have HB := Lib.hid hb
     clear hb h0
     go_wp2
     go_round
     case rel => exact ⟨2, by omega, rfl, Lib.hid ⟨fun _ => HA.out, fun _ => HB.out⟩⟩
     case measure => simp [intOf]
    ·
     have da : (b != 0) = true := by rw [bne_iff_ne]; exact hb
     have HF : Hid (r = b) := Lib.hid (by rw [← HR.out]; exact if_neg (fun h => h HA.out))
     clear hb h0
     go_wp2
     go_ret
     exact ⟨ret_int HF.out.symm, rfl⟩
   ·
    obtain rfl : j = 2 := by omega
    have HF : Hid (r = 0) := Lib.hid (by rw [← HR.out, HS.out.2 (Nat.le_refl _), HS.out.1 (by omega)]; rfl)
    clear h0 h1
    go_wp2
    go_ret
    exact ⟨ret_int HF.out.symm, rfl⟩
end Go.Proofs.YtdjdfbfcjajlkaaDoor
