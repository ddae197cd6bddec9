/- The draws' plain functions come to an end: what is ready, runs, is admitted; plans. -/
import Derived.Test.YtpmfghbjkampkaaDoorTot2
import Derived.Test.YtpmfghbjkampkaaDoorQ4
namespace Go.Proofs.YtpmfghbjkampkaaDoor.PFnValidLog
set_option linter.unusedVariables false
set_option linter.unusedSimpArgs false
open Go Go.RowKit
open Go.Proofs.YtpmfghbjkampkaaDoorW.PrintWords Go.Proofs.YtpmfghbjkampkaaDoorW.PrintLast Go.Proofs.YtpmfghbjkampkaaDoorW.PrintMore
def Ins (m : Nat) (l : List Int) : Prop := ∀ x ∈ l, 0 ≤ x ∧ x < m
theorem Ins_nil (m : Nat) : Ins m [] := fun x h => by cases h
theorem Ins_snoc {m : Nat} {l : List Int} {x : Int} (h : Ins m l) (h0 : 0 ≤ x) (h1 : x < m) : Ins m (l ++ [x]) := fun y hy => by
 rcases List.mem_append.1 hy with hy | hy
 ·
  exact h y hy
 ·
  rw [List.mem_singleton.1 hy]; exact ⟨h0, h1⟩
theorem rd_mem {l : List Int} {i : Int} (h0 : 0 ≤ i) (h1 : i < l.length) : rd l i ∈ l := by
 unfold rd
 rw [List.getD_eq_getElem?_getD, List.getElem?_eq_getElem (by omega : i.toNat < l.length)]
 exact List.getElem_mem _
theorem Ins_set {m : Nat} {l : List Int} {x : Int} (h : Ins m l) (i : Nat) (h0 : 0 ≤ x ∧ x < m) : Ins m (l.set i x) := fun y hy => by
 rcases List.mem_or_eq_of_mem_set hy with hy | rfl
 ·
  exact h y hy
 ·
  exact h0
theorem valid_task {g : List S41} (h : specValid g = true) : g.length ≤ 8 ∧ ∀ t ∈ g, (1 ≤ t.f0 ∧ t.f0 ≤ 20) ∧ (0 ≤ t.f2 ∧ t.f2 ≤ 2) ∧ Ins g.length t.f1 := by
 unfold specValid tasksFineB at h
 simp only [Bool.and_eq_true, decide_eq_true_eq, List.all_eq_true] at h
 refine ⟨h.1.2, fun t ht => ?_⟩
 have h2 := h.1.1 t ht
 unfold taskFineB allInB inB at h2
 simp only [Bool.and_eq_true, decide_eq_true_eq, List.all_eq_true] at h2
 refine ⟨h2.1.1.1.1, h2.1.1.1.2, fun x hx => ?_⟩
 have := h2.1.2 x hx
 omega
theorem topL_ins (g : List S41) : Ins g.length (ints (topL g)) ∧ (ints (topL g)).length ≤ g.length := by
 obtain ⟨_, h2, h3⟩ := topN_facts g g.length
 refine ⟨fun x hx => ?_, by rw [ints_length]; exact h3⟩
 unfold ints at hx
 obtain ⟨i, hi, rfl⟩ := List.mem_map.1 hx
 have := h2 i hi
 constructor
 ·
  exact Int.natCast_nonneg _
 ·
  show ((i : Nat) : Int) < _
  omega
theorem ready_l0 (g : List S41) (done : List Int) (hg : g.length ≤ 1000) : ∀ (n : Nat) (out : List Int) (i : Int), 0 ≤ i → i + n = g.length → out.length ≤ i.toNat → Ins g.length out →
  Gets (fun k => spec_ready.l0 k g done out i) (fun r => r.length ≤ g.length ∧ Ins g.length r)
 | 0, out, i, h0, h1, h2, h3 => by
  refine Gets.step (fun k => by rw [spec_ready.l0]) ?_
  exact Gets.neg (by omega) (Gets.ret ⟨by omega, h3⟩)
 | n + 1, out, i, h0, h1, h2, h3 => by
  refine Gets.step (fun k => by rw [spec_ready.l0]) ?_
  refine Gets.pos (by omega) ?_
  rw [w64 (x := i + 1) (by omega) (by omega)]
  refine Gets.bind (P := fun _ => True) (Gets.ret trivial) fun b _ => ?_
  refine Gets.ite (fun _ => ready_l0 g done hg n out (i + 1) (by omega) (by omega) (by omega) h3) (fun _ => Gets.pos h0 ?_)
  refine Gets.bind (P := fun _ => True) (Gets.ret trivial) fun b _ => ?_
  refine Gets.ite (fun _ => Gets.pos (by omega) ?_) (fun _ => ready_l0 g done hg n out (i + 1) (by omega) (by omega) (by omega) h3)
  exact ready_l0 g done hg n _ (i + 1) (by omega) (by omega) (by simp; omega) (Ins_snoc h3 h0 (by omega))
theorem ready_gets (g : List S41) (done : List Int) (hg : g.length ≤ 1000) : Gets (fun k => spec_ready.f k g done) (fun r => r.length ≤ g.length ∧ Ins g.length r) :=
 ready_l0 g done hg g.length [] 0 (by omega) (by omega) (by simp) (Ins_nil _)
theorem running_l0 (g : List S41) (st : List Int) (now : Int) (hg : g.length ≤ 1000) (hs : st.length = g.length) : ∀ (n : Nat) (out : List Int) (i : Int), 0 ≤ i → i + n = g.length → out.length ≤ i.toNat → Ins g.length out →
  Gets (fun k => spec_runningAt.l0 k g st now out i) (fun r => r.length ≤ g.length ∧ Ins g.length r)
 | 0, out, i, h0, h1, h2, h3 => by
  refine Gets.step (fun k => by rw [spec_runningAt.l0]) ?_
  exact Gets.neg (by omega) (Gets.ret ⟨by omega, h3⟩)
 | n + 1, out, i, h0, h1, h2, h3 => by
  refine Gets.step (fun k => by rw [spec_runningAt.l0]) ?_
  refine Gets.pos (by omega) (Gets.pos (by omega) (Gets.pos (by omega) ?_))
  rw [w64 (x := i + 1) (by omega) (by omega)]
  have hq := running_l0 g st now hg hs n out (i + 1) (by omega) (by omega) (by omega) h3
  refine Gets.ite (fun _ => Gets.ite (fun _ => Gets.pos (by omega) ?_) (fun _ => hq)) (fun _ => hq)
  exact running_l0 g st now hg hs n _ (i + 1) (by omega) (by omega) (by simp; omega) (Ins_snoc h3 h0 (by omega))
theorem running_gets (g : List S41) (st : List Int) (now : Int) (hg : g.length ≤ 1000) (hs : st.length = g.length) : Gets (fun k => spec_runningAt.f k g st now) (fun r => r.length ≤ g.length ∧ Ins g.length r) :=
 running_l0 g st now hg hs g.length [] 0 (by omega) (by omega) (by simp) (Ins_nil _)
theorem used_l0 (g : List S41) (l : List Int) (p : Int) (hl : l.length ≤ 100000) (hi : Ins g.length l) : ∀ (n : Nat) (u i : Int), 0 ≤ i → i + n = l.length → Gets (fun k => spec_used.l0 k g l p u i) (fun _ => True)
 | 0, u, i, h0, h1 => by
  refine Gets.step (fun k => by rw [spec_used.l0]) ?_
  exact Gets.neg (by omega) (Gets.ret trivial)
 | n + 1, u, i, h0, h1 => by
  refine Gets.step (fun k => by rw [spec_used.l0]) ?_
  have hm := hi _ (rd_mem h0 (show i < l.length by omega))
  refine Gets.pos (by omega) (Gets.pos h0 (Gets.pos hm.1 (Gets.pos hm.2 ?_)))
  rw [w64 (x := i + 1) (by omega) (by omega)]
  exact Gets.ite (fun _ => used_l0 g l p hl hi n _ (i + 1) (by omega) (by omega)) (fun _ => used_l0 g l p hl hi n _ (i + 1) (by omega) (by omega))
theorem used_gets (g : List S41) (l : List Int) (p : Int) (hl : l.length ≤ 100000) (hi : Ins g.length l) : Gets (fun k => spec_used.f k g l p) (fun _ => True) :=
 used_l0 g l p hl hi l.length 0 0 (by omega) (by omega)
theorem tails_l1 {P : List Int → Prop} (g : List S41) (hg : g.length ≤ 1000) (out ord : List Int) (ho : out.length = g.length) (a b : Int) (hb : 0 ≤ b ∧ b < g.length)
  (hk : ∀ o : List Int, o.length = g.length → Gets (fun k => spec_tails.l0 k g o ord (wrap64 (a - 1))) P) : ∀ (n : Nat) (m i : Int), 0 ≤ i → i + n = g.length → Gets (fun k => spec_tails.l1 k g out ord a b m i) P
 | 0, m, i, h0, h1 => by
  refine Gets.step (fun k => by rw [spec_tails.l1]) ?_
  exact Gets.neg (by omega) (Gets.pos hb.1 (Gets.pos hb.2 (Gets.pos (by omega) (hk _ (by rw [List.length_set]; exact ho)))))
 | n + 1, m, i, h0, h1 => by
  refine Gets.step (fun k => by rw [spec_tails.l1]) ?_
  refine Gets.pos (by omega) (Gets.pos h0 ?_)
  rw [w64 (x := i + 1) (by omega) (by omega)]
  refine Gets.bind (P := fun _ => True) (Gets.ret trivial) fun c _ => ?_
  exact Gets.ite (fun _ => Gets.pos (by omega) (tails_l1 g hg out ord ho a b hb hk n _ (i + 1) (by omega) (by omega))) (fun _ => tails_l1 g hg out ord ho a b hb hk n _ (i + 1) (by omega) (by omega))
theorem tails_l0 (g : List S41) (hg : g.length ≤ 1000) (ord : List Int) (hi : Ins g.length ord) (hol : ord.length ≤ 1000) : ∀ (n : Nat) (out : List Int) (a : Int), a + 1 = n → n ≤ ord.length → out.length = g.length →
  Gets (fun k => spec_tails.l0 k g out ord a) (fun r => r.length = g.length)
 | 0, out, a, h0, h1, h2 => by
  refine Gets.step (fun k => by rw [spec_tails.l0]) ?_
  exact Gets.neg (by omega) (Gets.ret h2)
 | n + 1, out, a, h0, h1, h2 => by
  refine Gets.step (fun k => by rw [spec_tails.l0]) ?_
  refine Gets.pos (by omega) (Gets.pos (by omega) (Gets.pos (by omega) ?_))
  refine tails_l1 g hg out ord h2 a _ (hi _ (rd_mem (by omega) (by omega))) (fun o ho => ?_) g.length 0 0 (by omega) (by omega)
  rw [w64 (x := a - 1) (by omega) (by omega)]
  exact tails_l0 g hg ord hi hol n o (a - 1) (by omega) (by omega) ho
theorem tails_gets (g : List S41) (hg : g.length ≤ 8) : Gets (fun k => spec_tails.f k g) (fun r => r.length = g.length) := by
 unfold spec_tails.f
 refine Gets.pos (by omega) (Gets.pos (by omega) ?_)
 obtain ⟨h1, h2⟩ := topL_ins g
 refine Gets.bind (P := fun r => r = ints (topL g)) ⟨0, _, rfl, fun k _ => if_pos hg⟩ fun o ho => ?_
 subst ho
 rw [w64 (by omega) (by omega)]
 exact tails_l0 g (by omega) _ h1 (by omega) _ _ _ (by omega) (Nat.le_refl _) (by rw [List.length_replicate]; omega)
theorem sooner_gets {t : List Int} {a b : Int} (ha : 0 ≤ a ∧ a < t.length) (hb : 0 ≤ b ∧ b < t.length) : Gets (fun _ => spec_sooner.f t a b) (fun _ => True) := by
 unfold spec_sooner.f
 refine Gets.pos ha.1 (Gets.pos ha.2 (Gets.pos hb.1 (Gets.pos hb.2 ?_)))
 exact Gets.ite (fun _ => Gets.ret trivial) (fun _ => Gets.ite (fun _ => Gets.ret trivial) (fun _ => Gets.ret trivial))
theorem byTail_l1 {P : List Int → Prop} {m : Nat} (l tl : List Int) (hm : tl.length = m) (i : Int) (N : Nat) (hN : N ≤ 1000)
  (hk : ∀ o : List Int, o.length = N → Ins m o → Gets (fun k => spec_byTail.l0 k l o tl (wrap64 (i + 1))) P) : ∀ (n : Nat) (out : List Int) (j : Int), j = n → n < N → out.length = N → Ins m out →
  Gets (fun k => spec_byTail.l1 k l out tl i j) P
 | 0, out, j, h0, h1, h2, h3 => by
  refine Gets.step (fun k => by rw [spec_byTail.l1]) ?_
  exact Gets.neg (by omega) (hk out h2 h3)
 | n + 1, out, j, h0, h1, h2, h3 => by
  refine Gets.step (fun k => by rw [spec_byTail.l1]) ?_
  rw [w64 (x := j - 1) (by omega) (by omega)]
  have ha := h3 _ (rd_mem (show 0 ≤ j by omega) (show j < out.length by omega))
  have hb := h3 _ (rd_mem (show 0 ≤ j - 1 by omega) (show j - 1 < out.length by omega))
  refine Gets.pos (by omega) (Gets.pos (by omega) (Gets.pos (by omega) (Gets.pos (by omega) (Gets.pos (by omega) ?_))))
  refine Gets.bind (sooner_gets (by rw [hm]; exact ha) (by rw [hm]; exact hb)) fun c _ => ?_
  refine Gets.ite (fun _ => ?_) (fun _ => hk out h2 h3)
  exact byTail_l1 l tl hm i N hN hk n _ (j - 1) (by omega) (by omega) (by rw [List.length_set, List.length_set]; exact h2) (Ins_set (Ins_set h3 _ hb) _ ha)
theorem byTail_l0 {m : Nat} (l tl : List Int) (hm : tl.length = m) (hl : l.length ≤ 900) (hi : Ins m l) : ∀ (n : Nat) (out : List Int) (i : Int), 0 ≤ i → i + n = l.length → out.length = i.toNat → Ins m out →
  Gets (fun k => spec_byTail.l0 k l out tl i) (fun r => r.length = l.length ∧ Ins m r)
 | 0, out, i, h0, h1, h2, h3 => by
  refine Gets.step (fun k => by rw [spec_byTail.l0]) ?_
  exact Gets.neg (by omega) (Gets.ret ⟨by omega, h3⟩)
 | n + 1, out, i, h0, h1, h2, h3 => by
  refine Gets.step (fun k => by rw [spec_byTail.l0]) ?_
  refine Gets.pos (by omega) (Gets.pos h0 (Gets.pos (by omega) ?_))
  simp only [Option.bind_some]
  have hx := hi _ (rd_mem h0 (show i < l.length by omega))
  have hL : (out ++ [rd l i]).length = i.toNat + 1 := by simp [h2]
  rw [w64 (x := ((out ++ [rd l i]).length : Int) - 1) (by omega) (by omega)]
  refine byTail_l1 l tl hm i (i.toNat + 1) (by omega) (fun o ho hio => ?_) i.toNat _ _ (by omega) (by omega) hL (Ins_snoc h3 hx.1 hx.2)
  rw [w64 (x := i + 1) (by omega) (by omega)]
  exact byTail_l0 l tl hm hl hi n o (i + 1) (by omega) (by omega) (by omega) hio
theorem byTail_gets (g : List S41) (hg : g.length ≤ 8) (l : List Int) (hl : l.length ≤ 900) (hi : Ins g.length l) : Gets (fun k => spec_byTail.f k g l) (fun r => r.length = l.length ∧ Ins g.length r) := by
 unfold spec_byTail.f
 refine Gets.bind (tails_gets g hg) fun t ht => ?_
 exact byTail_l0 l t ht hl hi l.length [] 0 (by omega) (by omega) (by simp) (Ins_nil _)
theorem admit_l0 (g : List S41) (hv : specValid g = true) (room : List Int) (hr : room.length = 3) (l : List Int) (w : Int) (hl : l.length ≤ 900) (hi : Ins g.length l) (N : Nat) (hN : N ≤ 1000) : ∀ (n : Nat) (out now : List Int) (i : Int), 0 ≤ i → i + n = l.length → out.length ≤ i.toNat → now.length ≤ N + i.toNat → Ins g.length out → Ins g.length now →
  Gets (fun k => spec_admit.l0 k g room l w out now i) (fun r => r.length ≤ l.length ∧ Ins g.length r) := by
 have hend : ∀ (out now : List Int) (i : Int), 0 ≤ i → i ≤ l.length → out.length ≤ i.toNat → Ins g.length out → Gets (fun k => spec_admit.j1 k g room l w out now i false) (fun r => r.length ≤ l.length ∧ Ins g.length r) := by
  intro out now i h0 h1 h2 h3
  refine Gets.step (fun k => by rw [spec_admit.j1]) ?_
  exact Gets.neg (by simp) (Gets.ret ⟨by omega, h3⟩)
 intro n
 induction n with
 | zero =>
  intro out now i h0 h1 h2 h4 h3 h5
  refine Gets.step (fun k => by rw [spec_admit.l0]) ?_
  exact Gets.neg (by omega) (hend out now i h0 (by omega) h2 h3)
 | succ n ih =>
  intro out now i h0 h1 h2 h4 h3 h5
  refine Gets.step (fun k => by rw [spec_admit.l0]) ?_
  refine Gets.pos (by omega) ?_
  generalize decide ((now.length : Int) < w) = b
  cases b with
  | false => exact hend out now i h0 (by omega) h2 h3
  | true =>
   refine Gets.step (fun k => by rw [spec_admit.j1]) ?_
   have hx := hi _ (rd_mem h0 (show i < l.length by omega))
   have ht := (valid_task hv).2 _ (rdT_mem hx.1 hx.2)
   rw [w64 (x := i + 1) (by omega) (by omega)]
   refine Gets.pos rfl (Gets.pos h0 (Gets.pos (by omega) (Gets.pos hx.1 (Gets.pos hx.2 ?_))))
   refine Gets.bind (used_gets g now _ (by omega) h5) fun u _ => ?_
   refine Gets.pos ht.2.1.1 (Gets.pos (by have := ht.2.1.2; omega) ?_)
   refine Gets.ite (fun _ => Gets.pos (by omega) (Gets.pos (by omega) ?_)) (fun _ => ih out now (i + 1) (by omega) (by omega) (by omega) (by omega) h3 h5)
   exact ih _ _ (i + 1) (by omega) (by omega) (by simp; omega) (by simp; omega) (Ins_snoc h3 hx.1 hx.2) (Ins_snoc h5 hx.1 hx.2)
theorem admit_gets (g : List S41) (hv : specValid g = true) (room : List Int) (hr : room.length = 3) (run l : List Int) (w : Int) (hl : l.length ≤ 900) (hi : Ins g.length l) (hrl : run.length ≤ 1000) (hri : Ins g.length run) :
  Gets (fun k => spec_admit.f k g room run l w) (fun r => r.length ≤ l.length ∧ Ins g.length r) := by
 unfold spec_admit.f
 rw [copyInts_some run (by omega)]
 simp only [Option.bind_some]
 exact admit_l0 g hv room hr l w hl hi run.length hrl l.length [] run 0 (by omega) (by omega) (by simp) (by omega) (Ins_nil _) hri
section
variable (g : List S41) (hv : specValid g = true) (room : List Int) (hr : room.length = 3) (wk : Int)
include hv hr
omit hv hr in
theorem plan_l4 {P : List Int → Prop} (hg : g.length ≤ 8) (now : Int) (nx : List Int) (hn : nx.length ≤ 1000) (hi : Ins g.length nx)
  (hk : ∀ s : List Int, s.length = g.length → Gets (fun k => spec_plan.l1 k g room wk s (wrap64 (now + 1))) P) : ∀ (n : Nat) (s : List Int) (i : Int), 0 ≤ i → i + n = nx.length → s.length = g.length → Gets (fun k => spec_plan.l4 k g room wk s now nx i) P
 | 0, s, i, h0, h1, h2 => by
  refine Gets.step (fun k => by rw [spec_plan.l4]) ?_
  exact Gets.neg (by omega) (hk s h2)
 | n + 1, s, i, h0, h1, h2 => by
  refine Gets.step (fun k => by rw [spec_plan.l4]) ?_
  have hx := hi _ (rd_mem h0 (show i < nx.length by omega))
  refine Gets.pos (by omega) (Gets.pos h0 (Gets.pos hx.1 (Gets.pos (by omega) ?_)))
  rw [w64 (x := i + 1) (by omega) (by omega)]
  exact plan_l4 hg now nx hn hi hk n _ (i + 1) (by omega) (by omega) (by rw [List.length_set]; exact h2)
omit hr in
theorem plan_l3 {P : List Int → Prop} (now : Int) (can : List Int) (hc : can.length ≤ g.length) (hi : Ins g.length can) (s : List Int) (hs : s.length = g.length)
  (hk : ∀ l : List Int, l.length ≤ g.length → Ins g.length l → Gets (fun k => (spec_runningAt.f k g s now).bind fun t362 => ((spec_byTail.f k g l).bind fun t365 => ((spec_admit.f k g room t362 t365 wk).bind fun t368 => (spec_plan.l4 k g room wk s now t368 0)))) P) :
  ∀ (n : Nat) (l : List Int) (i : Int), 0 ≤ i → i + n = can.length → l.length ≤ i.toNat → Ins g.length l → Gets (fun k => spec_plan.l3 k g room wk s now l can i) P
 | 0, l, i, h0, h1, h2, h3 => by
  refine Gets.step (fun k => by rw [spec_plan.l3]) ?_
  exact Gets.neg (by omega) (hk l (by omega) h3)
 | n + 1, l, i, h0, h1, h2, h3 => by
  have hg := (valid_task hv).1
  refine Gets.step (fun k => by rw [spec_plan.l3]) ?_
  have hx := hi _ (rd_mem h0 (show i < can.length by omega))
  refine Gets.pos (by omega) (Gets.pos h0 (Gets.pos hx.1 (Gets.pos (by omega) ?_)))
  rw [w64 (x := i + 1) (by omega) (by omega)]
  refine Gets.ite (fun _ => Gets.pos (by omega) ?_) (fun _ => plan_l3 now can hc hi s hs hk n l (i + 1) (by omega) (by omega) (by omega) h3)
  exact plan_l3 now can hc hi s hs hk n _ (i + 1) (by omega) (by omega) (by simp; omega) (Ins_snoc h3 hx.1 hx.2)
omit hr in
theorem plan_l2 {P : List Int → Prop} (now : Int) (s : List Int) (hs : s.length = g.length)
  (hk : ∀ d : List Int, Gets (fun k => (spec_ready.f k g d).bind fun t353 => (spec_plan.l3 k g room wk s now (([] : List Int)) t353 0)) P) :
  ∀ (n : Nat) (d : List Int) (i : Int), 0 ≤ i → i + n = g.length → d.length ≤ i.toNat → Gets (fun k => spec_plan.l2 k g room wk s now d i) P
 | 0, d, i, h0, h1, h2 => by
  refine Gets.step (fun k => by rw [spec_plan.l2]) ?_
  exact Gets.neg (by omega) (hk d)
 | n + 1, d, i, h0, h1, h2 => by
  have hg := (valid_task hv).1
  refine Gets.step (fun k => by rw [spec_plan.l2]) ?_
  refine Gets.pos (by omega) (Gets.pos h0 (Gets.pos (by omega) ?_))
  rw [w64 (x := i + 1) (by omega) (by omega)]
  refine Gets.ite (fun _ => Gets.pos (by omega) ?_) (fun _ => plan_l2 now s hs hk n d (i + 1) (by omega) (by omega) (by omega))
  exact plan_l2 now s hs hk n _ (i + 1) (by omega) (by omega) (by simp; omega)
theorem plan_l1 : ∀ (n : Nat) (s : List Int) (now : Int), 0 ≤ now → now + n = 200 → s.length = g.length → Gets (fun k => spec_plan.l1 k g room wk s now) (fun r => r.length = g.length)
 | 0, s, now, h0, h1, h2 => by
  refine Gets.step (fun k => by rw [spec_plan.l1]) ?_
  exact Gets.neg (by omega) (Gets.ret h2)
 | n + 1, s, now, h0, h1, h2 => by
  have hg := (valid_task hv).1
  refine Gets.step (fun k => by rw [spec_plan.l1]) ?_
  refine Gets.pos (by omega) ?_
  refine plan_l2 g hv room wk now s h2 (fun d => ?_) g.length [] 0 (by omega) (by omega) (by simp)
  refine Gets.bind (ready_gets g d (by omega)) fun c hc => ?_
  refine plan_l3 g hv room wk now c hc.1 hc.2 s h2 (fun l hl hi => ?_) c.length [] 0 (by omega) (by omega) (by simp) (Ins_nil _)
  refine Gets.bind (running_gets g s now (by omega) h2) fun ru hru => ?_
  refine Gets.bind (byTail_gets g hg l (by omega) hi) fun bt hbt => ?_
  refine Gets.bind (admit_gets g hv room hr ru bt wk (by omega) hbt.2 (by omega) hru.2) fun nx hnx => ?_
  refine plan_l4 g room wk hg now nx (by omega) hnx.2 (fun s' hs' => ?_) nx.length s 0 (by omega) (by omega) h2
  rw [w64 (x := now + 1) (by omega) (by omega)]
  exact plan_l1 n s' (now + 1) (by omega) (by omega) hs'
theorem plan_l0 : ∀ (n : Nat) (s : List Int) (i : Int), 0 ≤ i → i + n = s.length → s.length = g.length → Gets (fun k => spec_plan.l0 k g room wk s i) (fun r => r.length = g.length)
 | 0, s, i, h0, h1, h2 => by
  refine Gets.step (fun k => by rw [spec_plan.l0]) ?_
  exact Gets.neg (by omega) (plan_l1 g hv room hr wk 200 s 0 (by omega) (by omega) h2)
 | n + 1, s, i, h0, h1, h2 => by
  have hg := (valid_task hv).1
  refine Gets.step (fun k => by rw [spec_plan.l0]) ?_
  refine Gets.pos (by omega) (Gets.pos h0 ?_)
  rw [w64 (x := i + 1) (by omega) (by omega)]
  exact plan_l0 n _ (i + 1) (by omega) (by rw [List.length_set]; omega) (by rw [List.length_set]; exact h2)
theorem plan_gets : Gets (fun k => spec_plan.f k g room wk) (fun r => r.length = g.length) := by
 have hg := (valid_task hv).1
 unfold spec_plan.f
 refine Gets.pos (by omega) (Gets.pos (by omega) ?_)
 refine plan_l0 g hv room hr wk g.length _ 0 (by omega) ?_ ?_
 ·
  rw [List.length_replicate]; omega
 ·
  rw [List.length_replicate]; omega
end
end Go.Proofs.YtpmfghbjkampkaaDoor.PFnValidLog
