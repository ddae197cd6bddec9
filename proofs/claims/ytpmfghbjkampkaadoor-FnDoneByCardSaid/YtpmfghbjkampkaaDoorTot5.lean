/- The draws' plain functions come to an end: beginnings, logs; anyGraph, DrawValidLog. -/
import Derived.Test.YtpmfghbjkampkaaDoorTot3
import Derived.Test.YtpmfghbjkampkaaDoorQ6
import Derived.Test.YtpmfghbjkampkaaDoorQ8
namespace Go.Proofs.YtpmfghbjkampkaaDoor.PFnValidLog
set_option linter.unusedVariables false
set_option linter.unusedSimpArgs false
open Go Go.RowKit
open Go.Proofs.YtpmfghbjkampkaaDoorW.PrintWords Go.Proofs.YtpmfghbjkampkaaDoorW.PrintLast Go.Proofs.YtpmfghbjkampkaaDoorW.PrintMore
theorem allIn_ins {m : Nat} {l : List Int} (h : allInB l 0 ((m : Int) - 1) = true) : Ins m l := fun x hx => by
 unfold allInB inB at h
 simp only [List.all_eq_true, Bool.and_eq_true, decide_eq_true_eq] at h
 have := h x hx
 omega
theorem validRoom_gets (room : List Int) : Gets (fun k => spec_validRoom.f k room) (fun b => b = true → room.length = 3) := by
 unfold spec_validRoom.f
 refine Gets.ite (fun h => ?_) (fun h => Gets.ret fun h => by cases h)
 exact Gets.bind (P := fun _ => True) (Gets.ret trivial) fun b _ => Gets.ret fun _ => by omega
theorem PlanStarts_gets (g : List S41) (room : List Int) (wk : Int) : Gets (fun k => spec_PlanStarts.f k g room wk) (fun r => r.length ≤ 8) := by
 unfold spec_PlanStarts.f
 refine Gets.bind (P := fun b => b = specValid g) (Gets.ret rfl) fun b hb => ?_
 refine Gets.ite (fun h => ?_) (fun _ => Gets.ret (by simp))
 refine Gets.bind (validRoom_gets room) fun c hc => ?_
 refine Gets.ite (fun h2 => ?_) (fun _ => Gets.ret (by simp))
 refine Gets.bind (P := fun _ => True) (Gets.ret trivial) fun d _ => ?_
 refine Gets.ite (fun h3 => ?_) (fun _ => Gets.ret (by simp))
 have hv : specValid g = true := by rw [← hb]; exact h
 refine Gets.bind (plan_gets g hv room (hc h2) wk) fun r hr => Gets.ret ?_
 have := (valid_task hv).1
 omega
theorem ascends_l0 (l : List Int) (hl : l.length ≤ 100000) : ∀ (n : Nat) (i : Int), 1 ≤ i → l.length ≤ i + n → i ≤ 100001 → Gets (fun k => spec_ascends.l0 k l i) (fun _ => True)
 | 0, i, h0, h1, h2 => by
  refine Gets.step (fun k => by rw [spec_ascends.l0]) ?_
  exact Gets.neg (by omega) (Gets.ret trivial)
 | n + 1, i, h0, h1, h2 => by
  refine Gets.step (fun k => by rw [spec_ascends.l0]) ?_
  refine Gets.ite (fun h => ?_) (fun _ => Gets.ret trivial)
  rw [w64 (x := i - 1) (by omega) (by omega), w64 (x := i + 1) (by omega) (by omega)]
  refine Gets.pos (by omega) (Gets.pos (by omega) (Gets.pos (by omega) (Gets.ite (fun _ => Gets.ret trivial) (fun _ => ?_))))
  exact ascends_l0 l hl n (i + 1) (by omega) (by omega) (by omega)
theorem ascends_gets (l : List Int) (hl : l.length ≤ 100000) : Gets (fun k => spec_ascends.f k l) (fun _ => True) :=
 ascends_l0 l hl l.length 1 (by omega) (by omega) (by omega)
theorem validRunning_l0 (g : List S41) (room : List Int) (hr : room.length = 3) (l : List Int) (hl : l.length ≤ 100000) (hi : Ins g.length l) : ∀ (n : Nat) (p : Int), 0 ≤ p → p + n = 3 → Gets (fun k => spec_validRunning.l0 k g room l p) (fun _ => True)
 | 0, p, h0, h1 => by
  refine Gets.step (fun k => by rw [spec_validRunning.l0]) ?_
  exact Gets.neg (by omega) (Gets.ret trivial)
 | n + 1, p, h0, h1 => by
  refine Gets.step (fun k => by rw [spec_validRunning.l0]) ?_
  refine Gets.pos (by omega) (Gets.bind (used_gets g l p hl hi) fun u _ => ?_)
  refine Gets.pos h0 (Gets.pos (by omega) (Gets.ite (fun _ => Gets.ret trivial) (fun _ => ?_)))
  rw [w64 (x := p + 1) (by omega) (by omega)]
  exact validRunning_l0 g room hr l hl hi n (p + 1) (by omega) (by omega)
theorem validRunning_gets (g : List S41) (room : List Int) (l : List Int) (hl : l.length ≤ 100000) : Gets (fun k => spec_validRunning.f k g room l) (fun _ => True) := by
 have hbad : Gets (fun k => spec_validRunning.j0 k g room l true) (fun _ => True) := by
  refine Gets.step (fun k => by rw [spec_validRunning.j0]) ?_
  exact Gets.pos rfl (Gets.ret trivial)
 unfold spec_validRunning.f
 refine Gets.bind (P := fun b => b = specValid g) (Gets.ret rfl) fun b hb => ?_
 refine Gets.ite (fun h => ?_) (fun _ => hbad)
 have hg := (valid_task (by rw [← hb]; exact h)).1
 refine Gets.bind (validRoom_gets room) fun c hc => ?_
 refine Gets.ite (fun h2 => ?_) (fun _ => hbad)
 refine Gets.bind (ascends_gets l hl) fun c _ => ?_
 refine Gets.ite (fun h3 => ?_) (fun _ => hbad)
 rw [w64 (by omega) (by omega)]
 refine Gets.bind (P := fun b => b = allInB l 0 ((g.length : Int) - 1)) (Gets.ret rfl) fun d hd => ?_
 cases d with
 | false => exact hbad
 | true =>
  refine Gets.step (fun k => by rw [spec_validRunning.j0]) ?_
  exact Gets.neg (by simp) (validRunning_l0 g room (hc h2) l hl (allIn_ins hd.symm) 3 0 (by omega) (by omega))
section
variable (g : List S41) (hv : specValid g = true) (N : Nat) (hN : N ≤ 1000) (hg : GOk 1000 N g) (room : List Int) (wk : Int) (st : List Int) (hs : st.length = g.length)
include hv hN hg hs
theorem validStarts_l1 {P : Bool → Prop} (hf : P false) (i : Int) (h0 : 0 ≤ i) (h1 : i < g.length) (hk : Gets (fun k => spec_validStarts.l0 k g room wk st (wrap64 (i + 1))) P) :
  ∀ (n : Nat) (j : Int), 0 ≤ j → j + n = ((rd_T41 g i).f1.length : Int) → Gets (fun k => spec_validStarts.l1 k g room wk st i j) P
 | 0, j, h2, h3 => by
  have hlen := (valid_task hv).1
  refine Gets.step (fun k => by rw [spec_validStarts.l1]) ?_
  refine Gets.pos h0 (Gets.pos h1 (Gets.neg (by omega) (Gets.pos (by omega) ?_)))
  refine Gets.bind (running_gets g st _ (by omega) hs) fun r hr => ?_
  refine Gets.ite (fun _ => Gets.ret hf) (fun _ => ?_)
  refine Gets.bind (validRunning_gets g room r (by omega)) fun b _ => ?_
  exact Gets.ite (fun _ => hk) (fun _ => Gets.ret hf)
 | n + 1, j, h2, h3 => by
  have hm := (valid_task hv).2 _ (rdT_mem h0 h1)
  have hl := hg.2 _ (rdT_mem h0 h1)
  have hx := hm.2.2 _ (rd_mem h2 (show j < (rd_T41 g i).f1.length by omega))
  refine Gets.step (fun k => by rw [spec_validStarts.l1]) ?_
  refine Gets.pos h0 (Gets.pos h1 (Gets.pos (by omega) (Gets.pos h2 (Gets.pos hx.1 (Gets.pos (by omega) (Gets.pos hx.2 (Gets.pos (by omega) ?_)))))))
  refine Gets.ite (fun _ => Gets.ret hf) (fun _ => ?_)
  rw [w64 (x := j + 1) (by omega) (by omega)]
  exact validStarts_l1 hf i h0 h1 hk n (j + 1) (by omega) (by omega)
theorem validStarts_l0 {P : Bool → Prop} (hf : P false) (ht : P true) : ∀ (n : Nat) (i : Int), 0 ≤ i → i + n = g.length → Gets (fun k => spec_validStarts.l0 k g room wk st i) P
 | 0, i, h0, h1 => by
  refine Gets.step (fun k => by rw [spec_validStarts.l0]) ?_
  exact Gets.neg (by omega) (Gets.ret ht)
 | n + 1, i, h0, h1 => by
  have hlen := (valid_task hv).1
  refine Gets.step (fun k => by rw [spec_validStarts.l0]) ?_
  refine Gets.pos (by omega) ?_
  refine validStarts_l1 g hv N hN hg room wk st hs hf i h0 (by omega) ?_ _ 0 (by omega) (Int.zero_add _)
  rw [w64 (x := i + 1) (by omega) (by omega)]
  exact validStarts_l0 hf ht n (i + 1) (by omega) (by omega)
end
theorem validStarts_gets (g : List S41) (N : Nat) (hN : N ≤ 1000) (hg : GOk 1000 N g) (room : List Int) (wk : Int) (st : List Int) :
  Gets (fun k => spec_validStarts.f k g room wk st) (fun b => b = true → specValid g = true ∧ st.length = g.length) := by
 have hbad : Gets (fun k => spec_validStarts.j0 k g room wk st true) (fun b => b = true → specValid g = true ∧ st.length = g.length) := by
  refine Gets.step (fun k => by rw [spec_validStarts.j0]) ?_
  exact Gets.pos rfl (Gets.ret fun h => by cases h)
 unfold spec_validStarts.f
 refine Gets.bind (P := fun b => b = specValid g) (Gets.ret rfl) fun b hb => ?_
 refine Gets.ite (fun h => ?_) (fun _ => hbad)
 have hv : specValid g = true := by rw [← hb]; exact h
 refine Gets.bind (validRoom_gets room) fun c hc => ?_
 refine Gets.ite (fun h2 => ?_) (fun _ => hbad)
 refine Gets.bind (P := fun _ => True) (Gets.ret trivial) fun d _ => ?_
 refine Gets.ite (fun h3 => ?_) (fun _ => hbad)
 refine Gets.ite (fun h4 => ?_) (fun _ => hbad)
 refine Gets.bind (P := fun _ => True) (Gets.ret trivial) fun d _ => ?_
 cases d with
 | false => exact hbad
 | true =>
  refine Gets.step (fun k => by rw [spec_validStarts.j0]) ?_
  exact Gets.neg (by simp) (validStarts_l0 g hv N hN hg room wk st (by omega) (fun h => by cases h) (fun _ => ⟨hv, by omega⟩) g.length 0 (by omega) (by omega))
section
variable (g : List S41) (hg : g.length ≤ 8) (st : List Int) (hs : st.length = g.length)
include hg hs
theorem LogOf_l2 {P : List S30 → Prop} (now : Int) (B : Nat) (hB : B ≤ 100000) (hk : ∀ o : List S30, o.length ≤ B + 8 → Gets (fun k => spec_LogOf.l0 k g st o (wrap64 (now + 1))) P) :
  ∀ (n : Nat) (o : List S30) (i : Int), 0 ≤ i → i + n = g.length → o.length ≤ B + i.toNat → Gets (fun k => spec_LogOf.l2 k g st o now i) P
 | 0, o, i, h0, h1, h2 => by
  refine Gets.step (fun k => by rw [spec_LogOf.l2]) ?_
  exact Gets.neg (by omega) (hk o (by omega))
 | n + 1, o, i, h0, h1, h2 => by
  refine Gets.step (fun k => by rw [spec_LogOf.l2]) ?_
  rw [w64 (x := i + 1) (by omega) (by omega)]
  refine Gets.pos (by omega) (Gets.pos h0 (Gets.pos (by omega) (Gets.ite (fun _ => Gets.pos (by omega) ?_) (fun _ => LogOf_l2 now B hB hk n o (i + 1) (by omega) (by omega) (by omega)))))
  exact LogOf_l2 now B hB hk n _ (i + 1) (by omega) (by omega) (by simp; omega)
theorem LogOf_l1 {P : List S30 → Prop} (now : Int) (B : Nat) (hB : B ≤ 90000) (hk : ∀ o : List S30, o.length ≤ B + 16 → Gets (fun k => spec_LogOf.l0 k g st o (wrap64 (now + 1))) P) :
  ∀ (n : Nat) (o : List S30) (i : Int), 0 ≤ i → i + n = g.length → o.length ≤ B + i.toNat → Gets (fun k => spec_LogOf.l1 k g st o now i) P
 | 0, o, i, h0, h1, h2 => by
  refine Gets.step (fun k => by rw [spec_LogOf.l1]) ?_
  exact Gets.neg (by omega) (LogOf_l2 g hg st hs now (B + 8) (by omega) hk g.length o 0 (by omega) (by omega) (by omega))
 | n + 1, o, i, h0, h1, h2 => by
  refine Gets.step (fun k => by rw [spec_LogOf.l1]) ?_
  rw [w64 (x := i + 1) (by omega) (by omega)]
  refine Gets.pos (by omega) (Gets.pos h0 (Gets.pos (by omega) (Gets.ite (fun _ => Gets.pos (by omega) ?_) (fun _ => LogOf_l1 now B hB hk n o (i + 1) (by omega) (by omega) (by omega)))))
  exact LogOf_l1 now B hB hk n _ (i + 1) (by omega) (by omega) (by simp; omega)
theorem LogOf_l0 : ∀ (n : Nat) (o : List S30) (now : Int), 0 ≤ now → now + n = 221 → o.length ≤ 16 * now.toNat → Gets (fun k => spec_LogOf.l0 k g st o now) (fun r => r.length ≤ 4000)
 | 0, o, now, h0, h1, h2 => by
  refine Gets.step (fun k => by rw [spec_LogOf.l0]) ?_
  exact Gets.neg (by omega) (Gets.ret (by omega))
 | n + 1, o, now, h0, h1, h2 => by
  refine Gets.step (fun k => by rw [spec_LogOf.l0]) ?_
  refine Gets.pos (by omega) ?_
  refine LogOf_l1 g hg st hs now (16 * now.toNat) (by omega) (fun o' ho' => ?_) g.length o 0 (by omega) (by omega) (by omega)
  rw [w64 (x := now + 1) (by omega) (by omega)]
  exact LogOf_l0 n o' (now + 1) (by omega) (by omega) (by omega)
end
theorem LogOf_gets (g : List S41) (N : Nat) (hN : N ≤ 1000) (hg : GOk 1000 N g) (room : List Int) (wk : Int) (st : List Int) : Gets (fun k => spec_LogOf.f k g room wk st) (fun r => r.length ≤ 4000) := by
 unfold spec_LogOf.f
 refine Gets.bind (validStarts_gets g N hN hg room wk st) fun b hb => ?_
 refine Gets.ite (fun h => ?_) (fun _ => Gets.ret (by simp))
 obtain ⟨hv, hs⟩ := hb h
 exact LogOf_l0 g (valid_task hv).1 st hs 221 [] 0 (by omega) (by omega) (by simp)
section
variable {b : List Int} (hb : ∀ x ∈ b, 0 ≤ x ∧ x < 256) (hl : b.length ≤ 2000)
include hb hl
def Started (p : Int) (r : List Int × Int × List Int × Int) : Prop := 0 ≤ r.2.2.2 ∧ r.2.2.2 ≤ p
theorem someStarts_l0 (room : List Int) (wk B : Int) (hB : B ≤ 900000) : ∀ (n : Nat) (st : List Int) (p : Int), st.length ≤ 1000 → 0 ≤ p → p + 2 * n ≤ B → Gets (fun k => spec_someStarts.l0 k room wk st n b p) (Started B)
 | 0, st, p, hs, h0, h1 => by
  refine Gets.step (fun k => by rw [spec_someStarts.l0]) ?_
  refine Gets.neg (by omega) (Gets.step (fun k => by rw [spec_someStarts.j1]) ?_)
  exact Gets.neg (by simp) (Gets.ret ⟨h0, by show p ≤ B; omega⟩)
 | n + 1, st, p, hs, h0, h1 => by
  refine Gets.step (fun k => by rw [spec_someStarts.l0]) ?_
  refine Gets.pos (by omega) (Gets.step (fun k => by rw [spec_someStarts.j1]) ?_)
  refine Gets.ite (fun h => ?_) (fun _ => Gets.ret ⟨h0, by show p ≤ B; omega⟩)
  have hpos : 0 < st.length := by simpa using h
  refine Gets.bind (pick_gets hb hl h0 (by omega)) fun r hr => ?_
  obtain ⟨r1, r2, r3, r4⟩ := hr
  have := r2 (by omega)
  refine Gets.pos r1 (Gets.pos this ?_)
  rw [r4]
  refine Gets.bind (one_gets hb hl (by omega) (by omega) (by simp)) fun s hs' => ?_
  rw [hs'.2, w64 (x := ((n + 1 : Nat) : Int) - 1) (by omega) (by omega), show ((n + 1 : Nat) : Int) - 1 = n by omega]
  exact someStarts_l0 room wk B hB n _ (p + 1 + 1) (by rw [List.length_set]; exact hs) (by omega) (by omega)
theorem someStarts_gets (p : Int) (h0 : 0 ≤ p) (h1 : p ≤ 700000) (g : List S41) : Gets (fun k => spec_someStarts.f k b p g) (Started (p + 12)) := by
 unfold spec_someStarts.f
 refine Gets.bind (someRoom_gets hb hl p h0 (by omega)) fun r hr => ?_
 obtain ⟨_, r1, r2⟩ := hr
 refine Gets.bind (someWorkers_gets hb hl _ r1 (by omega)) fun s hs => ?_
 refine Gets.bind (PlanStarts_gets g _ _) fun t ht => ?_
 refine Gets.bind (pick_gets hb hl hs.1 (by omega)) fun u hu => ?_
 obtain ⟨u1, u2, u3, u4⟩ := hu
 have := u2 (by omega)
 obtain ⟨m, hm⟩ := Int.eq_ofNat_of_zero_le u1
 rw [u4, hm]
 exact someStarts_l0 hb hl _ _ (p + 12) (by omega) m t _ (by omega) (by omega) (by omega)
def Logged (p : Int) (r : List S30 × Int) : Prop := r.1.length ≤ 4000 ∧ 0 ≤ r.2 ∧ r.2 ≤ p
theorem anyLog_j2 (B : Int) (hB : B ≤ 900000) (lg : List S30) (hlg : lg.length ≤ 4000) (c : Bool) (hc : c = true → 0 < lg.length) (p : Int) (h0 : 0 ≤ p) (h1 : p + 4 ≤ B) : Gets (fun k => spec_anyLog.j2 k lg c b p) (Logged B) := by
 refine Gets.step (fun k => by rw [spec_anyLog.j2]) ?_
 refine Gets.ite (fun h => ?_) (fun _ => Gets.ret ⟨hlg, h0, by show p ≤ B; omega⟩)
 have := hc h
 refine Gets.bind (pick_gets hb hl h0 (by omega)) fun r hr => ?_
 obtain ⟨r1, r2, r3, r4⟩ := hr
 have := r2 (by omega)
 rw [r4]
 refine Gets.bind (one_gets hb hl (by omega) (by omega) (by simp)) fun s hs => ?_
 rw [hs.2]
 refine Gets.bind (pick_gets hb hl (by omega) (by omega)) fun t ht => ?_
 obtain ⟨t1, t2, t3, t4⟩ := ht
 rw [t4]
 refine Gets.bind (pick_gets hb hl (by omega) (by omega)) fun u hu => ?_
 obtain ⟨u1, u2, u3, u4⟩ := hu
 refine Gets.pos r1 (Gets.pos this (Gets.ret ⟨?_, by show 0 ≤ u.2; omega, by show u.2 ≤ B; omega⟩))
 rw [List.length_set]
 exact hlg
theorem anyLog_j1 (B : Int) (hB : B ≤ 900000) (lg : List S30) (hlg : lg.length ≤ 4000) (p : Int) (h0 : 0 ≤ p) (h1 : p + 5 ≤ B) : Gets (fun k => spec_anyLog.j1 k lg b p) (Logged B) := by
 refine Gets.step (fun k => by rw [spec_anyLog.j1]) ?_
 refine Gets.ite (fun h => ?_) (fun _ => anyLog_j2 hb hl B hB lg hlg false (fun h => by cases h) p h0 (by omega))
 refine Gets.bind (pick_gets hb hl h0 (by omega)) fun r hr => ?_
 obtain ⟨r1, r2, r3, r4⟩ := hr
 rw [r4]
 exact anyLog_j2 hb hl B hB lg hlg _ (fun _ => by omega) _ (by omega) (by omega)
theorem anyLog_j0 (B : Int) (hB : B ≤ 900000) (lg : List S30) (hlg : lg.length ≤ 4000) (c : Bool) (p : Int) (h0 : 0 ≤ p) (h1 : p + 6 ≤ B) : Gets (fun k => spec_anyLog.j0 k lg c b p) (Logged B) := by
 refine Gets.step (fun k => by rw [spec_anyLog.j0]) ?_
 refine Gets.ite (fun h => ?_) (fun _ => anyLog_j1 hb hl B hB lg hlg p h0 (by omega))
 rw [w64 (x := (lg.length : Int) + 1) (by omega) (by omega)]
 refine Gets.bind (pick_gets hb hl h0 (by omega)) fun r hr => ?_
 obtain ⟨r1, r2, r3, r4⟩ := hr
 have := r2 (by omega)
 refine Gets.pos r1 (Gets.pos (by omega) ?_)
 rw [r4]
 exact anyLog_j1 hb hl B hB _ (by rw [List.length_take]; omega) _ (by omega) (by omega)
theorem anyLog_gets (p : Int) (h0 : 0 ≤ p) (h1 : p ≤ 700000) (g : List S41) (N : Nat) (hN : N ≤ 1000) (hg : GOk 1000 N g) : Gets (fun k => spec_anyLog.f k b p g) (Logged (p + 20)) := by
 unfold spec_anyLog.f
 refine Gets.bind (someStarts_gets hb hl p h0 h1 g) fun r hr => ?_
 obtain ⟨r1, r2⟩ := hr
 refine Gets.bind (LogOf_gets g N hN hg _ _ _) fun lg hlg => ?_
 refine Gets.ite (fun _ => ?_) (fun _ => anyLog_j0 hb hl (p + 20) (by omega) lg hlg false _ r1 (by omega))
 refine Gets.bind (pick_gets hb hl r1 (by omega)) fun s hs => ?_
 obtain ⟨s1, s2, s3, s4⟩ := hs
 rw [s4]
 exact anyLog_j0 hb hl (p + 20) (by omega) lg hlg _ _ (by omega) (by omega)
end
end Go.Proofs.YtpmfghbjkampkaaDoor.PFnValidLog
namespace Go.Proofs.YtpmfghbjkampkaaDoor.PFnValidLog
set_option linter.unusedVariables false
set_option linter.unusedSimpArgs false
open Go Go.RowKit
open Go.Proofs.YtpmfghbjkampkaaDoorW.PrintWords Go.Proofs.YtpmfghbjkampkaaDoorW.PrintLast Go.Proofs.YtpmfghbjkampkaaDoorW.PrintMore
theorem GOk_set {m n : Nat} {g : List S41} {t : S41} (h : GOk m n g) (i : Nat) (ht : t.f1.length ≤ n) : GOk m n (g.set i t) := by
 refine ⟨by rw [List.length_set]; exact h.1, fun x hx => ?_⟩
 rcases List.mem_or_eq_of_mem_set hx with hx | rfl
 ·
  exact h.2 x hx
 ·
  exact ht
theorem GOk_wide {m n m' n' : Nat} {g : List S41} (h : GOk m n g) (hm : m ≤ m') (hn : n ≤ n') : GOk m' n' g := ⟨Nat.le_trans h.1 hm, fun t ht => Nat.le_trans (h.2 t ht) hn⟩
section
variable {b : List Int} (hb : ∀ x ∈ b, 0 ≤ x ∧ x < 256) (hl : b.length ≤ 2000)
include hb hl
theorem anyGraph_gets (p : Int) (h0 : 0 ≤ p) (h1 : p ≤ 500000) : Gets (fun k => spec_anyGraph.f k b p) (fun r => GOk 16 10 r.1 ∧ 0 ≤ r.2 ∧ r.2 ≤ p + 300) := by
 unfold spec_anyGraph.f
 refine Gets.bind (someGraph_gets hb hl p h0 (by omega) 8 (by omega)) fun x hx => ?_
 obtain ⟨hg, x0, x1⟩ := hx
 have hgw := GOk_wide (m' := 16) (n' := 10) hg (by omega) (by omega)
 have hlen := hg.1
 refine Gets.ite (fun _ => Gets.ret ⟨hgw, x0, by omega⟩) (fun hne => ?_)
 refine Gets.bind (pick_gets hb hl x0 (by omega)) fun i hi => ?_
 obtain ⟨i1, i2, i3, i4⟩ := hi
 have i5 := i2 (by omega)
 have hmem := hg.2 _ (rdT_mem i1 i5)
 rw [i4]
 refine Gets.bind (pick_gets hb hl (by omega) (by omega)) fun q hq => ?_
 obtain ⟨q1, q2, q3, q4⟩ := hq
 rw [q4]
 refine Gets.ite (fun _ => ?_) (fun _ => Gets.ite (fun _ => ?_) (fun _ => Gets.ite (fun _ => ?_) (fun _ => Gets.ite (fun _ => ?_) (fun _ => Gets.ite (fun _ => ?_) (fun _ => Gets.ret ⟨hgw, by show 0 ≤ x.2 + 1 + 1; omega, by show x.2 + 1 + 1 ≤ p + 300; omega⟩)))))
 ·
  refine Gets.bind (one_gets hb hl (by omega) (by omega) (by simp)) fun t ht => ?_
  exact Gets.pos i1 (Gets.pos i5 (Gets.ret ⟨GOk_set hgw _ (by show (rd_T41 x.1 i.1).f1.length ≤ 10; omega), by show 0 ≤ t.2; omega, by show t.2 ≤ p + 300; omega⟩))
 ·
  refine Gets.bind (pick_gets hb hl (by omega) (by omega)) fun t ht => ?_
  obtain ⟨t1, t2, t3, t4⟩ := ht
  refine Gets.pos i1 (Gets.pos i5 (Gets.pos (by omega) ?_))
  rw [t4]
  refine Gets.bind (spoil_gets hb hl _ (by omega) (by omega) _ (by simp; omega) _) fun s hs => ?_
  obtain ⟨s1, s2, s3⟩ := hs
  exact Gets.ret ⟨GOk_set hgw _ (by show s.1.length ≤ 10; simp at s1; omega), by show 0 ≤ s.2; omega, by show s.2 ≤ p + 300; omega⟩
 ·
  refine Gets.bind (one_gets hb hl (by omega) (by omega) (by simp)) fun t ht => ?_
  exact Gets.pos i1 (Gets.pos i5 (Gets.ret ⟨GOk_set hgw _ (by show (rd_T41 x.1 i.1).f1.length ≤ 10; omega), by show 0 ≤ t.2; omega, by show t.2 ≤ p + 300; omega⟩))
 ·
  refine Gets.bind (one_gets hb hl (by omega) (by omega) (by simp)) fun t ht => ?_
  exact Gets.pos i1 (Gets.pos i5 (Gets.ret ⟨GOk_set hgw _ (by show (rd_T41 x.1 i.1).f1.length ≤ 10; omega), by show 0 ≤ t.2; omega, by show t.2 ≤ p + 300; omega⟩))
 ·
  refine Gets.bind (someGraph_gets hb hl _ (by omega) (by omega) 8 (by omega)) fun t ht => ?_
  obtain ⟨tg, t0, t1⟩ := ht
  have tl := tg.1
  refine Gets.pos (by omega) (Gets.ret ⟨⟨?_, fun y hy => ?_⟩, t0, by show t.2 ≤ p + 300; omega⟩)
  ·
   show (x.1 ++ t.1).length ≤ 16
   simp; omega
  ·
   rcases List.mem_append.1 hy with hy | hy
   ·
    exact hgw.2 y hy
   ·
    exact Nat.le_trans (tg.2 y hy) (by omega)
end
theorem newReader_some (l : List Int) : ∃ r, spec_newReader.f l = some (r, 0) ∧ r.length ≤ 2000 ∧ ∀ x ∈ r, x ∈ l := by
 unfold spec_newReader.f
 by_cases h : (l.length : Int) > 2000
 ·
  rw [if_pos h, if_pos (by omega)]
  exact ⟨_, rfl, by rw [List.length_take]; omega, fun x hx => List.mem_of_mem_take hx⟩
 ·
  rw [if_neg h]
  exact ⟨l, rfl, by omega, fun x hx => hx⟩
end Go.Proofs.YtpmfghbjkampkaaDoor.PFnValidLog
