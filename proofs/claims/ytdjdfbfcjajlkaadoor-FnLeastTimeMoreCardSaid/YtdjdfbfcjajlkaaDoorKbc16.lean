/- Parts of the proof, laid as one text by a program of mine. -/
import Derived.Test.YtdjdfbfcjajlkaaDoorKbc11
import Derived.Test.YtdjdfbfcjajlkaaDoorKbc15
import Derived.Test.YtdjdfbfcjajlkaaDoorKbc10
import Derived.Test.YtdjdfbfcjajlkaaDoorKbc12
import Derived.StillTailTactics
import Derived.Sort.Grow
namespace Go.Proofs.YtdjdfbfcjajlkaaDoor
set_option linter.unusedVariables false
set_option linter.unusedSimpArgs false
open Go.RowKit Go.Shelf Bits
def sumN (log : List Ev) : Nat → Int
 | 0 => 0
 | k + 1 => sumN log k + 1 - 2 * (if (rdEv log k).f2 = true then 1 else 0)
def mostN (log : List Ev) : Nat → Int
 | 0 => 0
 | k + 1 => if lastOf log k then max (mostN log k) (sumN log (k + 1)) else mostN log k
theorem sumN_bound (log : List Ev) : ∀ k : Nat, -(k : Int) ≤ sumN log k ∧ sumN log k ≤ k
 | 0 => ⟨by show (0 : Int) ≥ _; omega, by show (0 : Int) ≤ _; omega⟩
 | k + 1 => by
  have := sumN_bound log k
  unfold sumN
  split <;> omega
theorem elems_cnt (s : Nat) : (elems s).length = cntW 16 s := by
 unfold elems
 have h : ∀ n, ((List.range n).filter s.testBit).length = cntW n s := by
  intro n
  induction n with
  | zero => rfl
  | succ n ih =>
   rw [List.range_succ, List.filter_append, List.length_append, ih]
   have h1 : ([n].filter s.testBit).length = if s.testBit n = true then 1 else 0 := by
    cases hb : s.testBit n with
    | true => rw [List.filter_cons_of_pos hb]; rfl
    | false => rw [List.filter_cons_of_neg (by rw [hb]; simp)]; rfl
   rw [h1]
   rfl
 exact h 16
theorem cnt_least {s m : Nat} (h : ∀ i, s.testBit i = true → i < m) : ∀ n, cntW n s ≤ m
 | 0 => Nat.zero_le _
 | n + 1 => by
  have ih := cnt_least h n
  have hn : cntW n s ≤ n := by
   clear ih
   induction n with
   | zero => exact Nat.le_refl _
   | succ n ih => unfold cntW; split <;> omega
  unfold cntW
  split
  ·
   rename_i hb
   have := h n hb
   omega
  ·
   omega
structure Kept (g : List Tk) (log : List Ev) (k : Nat) (M : Mach) (most : Int) : Prop where
 sub : ∀ i, M.o.testBit i = true → M.b.testBit i = true
 lt : ∀ i, M.b.testBit i = true → i < g.length
 run : running M = sumN log k
 mst : most = mostN log k
 le : most ≤ g.length
 ge : 0 ≤ most
theorem run_le {g : List Tk} {M : Mach} (h : ∀ i, M.b.testBit i = true → i < g.length) : running M ≤ g.length := by
 unfold running
 rw [elems_cnt]
 have := cnt_least (s := diff M.b M.o) (m := g.length) (fun i hi => h i (by rw [diff_bit, Bool.and_eq_true] at hi; exact hi.1)) 16
 omega
theorem Kept.step {g : List Tk} {ns : List Nat} {log : List Ev} {k : Nat} {M M' : Mach} {most : Int} (hg8 : g.length ≤ 8) (h : Kept g log k M most) (hs : stepM g ns M (rdEv log k) = some M') :
  Kept g log (k + 1) M' (if lastOf log k then max most (running M') else most) := by
 obtain ⟨hin, hst⟩ := stepM_some hs
 obtain ⟨_, hi, hlt⟩ := evIn_num hin
 generalize he : rdEv log k = e at *
 have key : (∀ i, M'.o.testBit i = true → M'.b.testBit i = true) ∧ (∀ i, M'.b.testBit i = true → i < g.length) ∧ running M' = sumN log (k + 1) := by
  rcases hst with ⟨h2, hm, rfl⟩ | ⟨h2, hm, rfl⟩
  ·
   unfold mayBegin at hm
   simp only [Bool.and_eq_true, Bool.not_eq_true'] at hm
   have ho : M.o.testBit e.i = false := by
    cases hx : M.o.testBit e.i with
    | false => rfl
    | true => rw [h.sub _ hx] at hm; exact absurd hm.1 (by simp)
   refine ⟨fun i hx => ?_, fun i hx => ?_, ?_⟩
   ·
    show (M.b ||| 2 ^ e.i).testBit i = true
    rw [or_bit, h.sub i hx]; rfl
   ·
    have hx : (M.b ||| 2 ^ e.i).testBit i = true := hx
    rw [or_bit, Bool.or_eq_true, decide_eq_true_eq] at hx
    rcases hx with hx | rfl
    ·
     exact h.lt i hx
    ·
     exact hlt
   ·
    have hd : diff (M.b ||| 2 ^ e.i) M.o = diff M.b M.o ||| 2 ^ e.i := by
     apply Nat.eq_of_testBit_eq
     intro j
     rw [diff_bit, or_bit, or_bit, diff_bit]
     by_cases hj : e.i = j
     ·
      subst hj; rw [ho]; simp
     ·
      simp [hj]
    have hr := h.run
    unfold running at hr ⊢
    show (((elems (diff (M.b ||| 2 ^ e.i) M.o)).length : Nat) : Int) = _
    rw [hd, elems_cnt, cntW_step (by rw [diff_bit, hm.1]; rfl) 16 (by omega)]
    rw [elems_cnt] at hr
    unfold sumN
    rw [he, h2, ← hr]
    simp only [Bool.false_eq_true, if_false]
    omega
  ·
   unfold mayEnd at hm
   simp only [Bool.and_eq_true, Bool.not_eq_true'] at hm
   refine ⟨fun i hx => ?_, fun i hx => h.lt i hx, ?_⟩
   ·
    have hx : (M.o ||| 2 ^ e.i).testBit i = true := hx
    rw [or_bit, Bool.or_eq_true, decide_eq_true_eq] at hx
    rcases hx with hx | rfl
    ·
     exact h.sub i hx
    ·
     exact hm.1.1
   ·
    have hd : diff M.b M.o = diff M.b (M.o ||| 2 ^ e.i) ||| 2 ^ e.i := by
     apply Nat.eq_of_testBit_eq
     intro j
     rw [diff_bit, or_bit, diff_bit, or_bit]
     by_cases hj : e.i = j
     ·
      subst hj; rw [hm.1.1, hm.1.2]; simp
     ·
      simp [hj]
    have hr := h.run
    unfold running at hr ⊢
    show (((elems (diff M.b (M.o ||| 2 ^ e.i))).length : Nat) : Int) = _
    rw [hd, elems_cnt, cntW_step (by rw [diff_bit, or_bit]; simp) 16 (by omega)] at hr
    rw [elems_cnt]
    unfold sumN
    rw [he, h2, ← hr]
    simp only [if_true]
    omega
 obtain ⟨k1, k2, k3⟩ := key
 have hle := run_le k2
 refine ⟨k1, k2, k3, ?_, ?_, ?_⟩
 ·
  unfold mostN
  rw [h.mst, k3]
 ·
  have := h.le
  split
  ·
   exact Int.max_le.2 ⟨this, hle⟩
  ·
   exact this
 ·
  have := h.ge
  split
  ·
   exact Int.le_trans this (Int.le_max_left _ _)
  ·
   exact this
theorem replay_kept {g : List Tk} {ns : List Nat} {log : List Ev} (hg8 : g.length ≤ 8) : ∀ (k : Nat) (p : Mach × Int), replayN g ns log k = some p → Kept g log k p.1 p.2
 | 0, p, h => by
  obtain rfl : (Mach.zero, (0 : Int)) = p := Option.some.inj h
  exact ⟨fun i hi => by simp [Mach.zero] at hi, fun i hi => by simp [Mach.zero] at hi, by unfold running; rw [elems_cnt]; simp [Mach.zero, diff, cnt_zero, sumN], rfl, by show (0 : Int) ≤ _; omega, Int.le_refl _⟩
 | k + 1, p, h => by
  unfold replayN at h
  obtain ⟨q, hq, h⟩ := Option.bind_eq_some_iff.1 h
  split at h
  ·
   cases h
  ·
   obtain ⟨M', hM, rfl⟩ := Option.map_eq_some_iff.1 h
   exact (replay_kept hg8 k q hq).step hg8 hM
structure Early (g : List Tk) (log : List Ev) (k : Nat) (M : Mach) : Prop where
 sum : sumN log k = k
 at_ : ∀ j, j < k → (rdEv log j).f0 = (rdEv log 0).f0
 bg : ∀ i, M.b.testBit i = true → 0 < k ∧ M.bg i = (rdEv log 0).f0
 last : ∀ j, j < k → lastOf log j = false
theorem most_mono {log : List Ev} {k : Nat} (h : 1 ≤ mostN log k) : 1 ≤ mostN log (k + 1) := by
 unfold mostN
 split
 ·
  exact Int.le_trans h (Int.le_max_left _ _)
 ·
  exact h
theorem replay_early {g : List Tk} {ns : List Nat} {log : List Ev} (hgt : ∀ i, i < g.length → 1 ≤ (rdTk g i).f0) : ∀ (k : Nat) (p : Mach × Int), k ≤ log.length → replayN g ns log k = some p → 1 ≤ mostN log k ∨ Early g log k p.1
 | 0, p, _, h => by
  obtain rfl : (Mach.zero, (0 : Int)) = p := Option.some.inj h
  exact Or.inr ⟨rfl, fun j hj => by omega, fun i hi => by simp [Mach.zero] at hi, fun j hj => by omega⟩
 | k + 1, p, hk, h => by
  unfold replayN at h
  obtain ⟨q, hq, h⟩ := Option.bind_eq_some_iff.1 h
  split at h
  ·
   cases h
  ·
   rename_i hord
   obtain ⟨M', hM, rfl⟩ := Option.map_eq_some_iff.1 h
   rcases replay_early hgt k q (by omega) hq with h1 | h1
   ·
    exact Or.inl (most_mono h1)
   ·
    obtain ⟨hin, hst⟩ := stepM_some hM
    obtain ⟨_, hi, hlt⟩ := evIn_num hin
    have hat : (rdEv log k).f0 = (rdEv log 0).f0 := by
     rcases Nat.eq_zero_or_pos k with rfl | hp
     ·
      rfl
     ·
      have hl := h1.last (k - 1) (by omega)
      have ha := h1.at_ (k - 1) (by omega)
      unfold lastOf at hl
      unfold inOrder at hord
      rw [show k - 1 + 1 = k by omega] at hl
      simp only [Bool.or_eq_false_iff, decide_eq_false_iff_not, Bool.not_eq_false, Bool.not_eq_true', Bool.and_eq_false_iff] at hl hord
      omega
    rcases hst with ⟨h2, hm, rfl⟩ | ⟨h2, hm, rfl⟩
    ·
     have hsum : sumN log (k + 1) = (k : Int) + 1 := by
      unfold sumN
      rw [h1.sum, h2]
      simp
     by_cases hlast : lastOf log k = true
     ·
      left
      unfold mostN
      rw [if_pos hlast, hsum]
      have := Int.le_max_right (mostN log k) ((k : Int) + 1)
      omega
     ·
      right
      refine ⟨by rw [hsum]; rfl, fun j hj => ?_, fun i hx => ⟨Nat.succ_pos _, ?_⟩, fun j hj => ?_⟩
      ·
       rcases Nat.lt_succ_iff_lt_or_eq.1 hj with hj | rfl
       ·
        exact h1.at_ j hj
       ·
        exact hat
      ·
       show (if i = (rdEv log k).i then (rdEv log k).f0 else q.1.bg i) = _
       split
       ·
        exact hat
       ·
        rename_i hne
        have hx : (q.1.b ||| 2 ^ (rdEv log k).i).testBit i = true := hx
        rw [or_bit, Bool.or_eq_true, decide_eq_true_eq] at hx
        rcases hx with hx | hx
        ·
         exact (h1.bg i hx).2
        ·
         exact absurd hx.symm hne
      ·
       rcases Nat.lt_succ_iff_lt_or_eq.1 hj with hj | rfl
       ·
        exact h1.last j hj
       ·
        simpa using hlast
    ·
     exfalso
     unfold mayEnd at hm
     simp only [Bool.and_eq_true, Bool.not_eq_true', decide_eq_true_eq] at hm
     have := (h1.bg _ hm.1.1).2
     have := hgt _ hlt
     omega
theorem most_pos {g : List Tk} {ns : List Nat} {log : List Ev} (hgt : ∀ i, i < g.length → 1 ≤ (rdTk g i).f0) (p : Mach × Int) (h : replayN g ns log log.length = some p) (hn : 0 < log.length) : 1 ≤ mostN log log.length := by
 rcases replay_early hgt log.length p (Nat.le_refl _) h with h1 | h1
 ·
  exact h1
 ·
  have := h1.last (log.length - 1) (by omega)
  unfold lastOf at this
  simp only [Bool.or_eq_false_iff, decide_eq_false_iff_not] at this
  omega
end Go.Proofs.YtdjdfbfcjajlkaaDoor

namespace Go.Proofs.YtdjdfbfcjajlkaaDoor
set_option linter.unusedVariables false
set_option linter.unusedSimpArgs false
open Go.RowKit Go.Shelf Bits
open Go.Proofs.YtdjdfbfcjajlkaaDoorW.PrintWords Go.Proofs.YtdjdfbfcjajlkaaDoorW.PrintLast Go.Proofs.YtdjdfbfcjajlkaaDoorW.PrintMore
attribute [local go_sem] Oper.semAt_some
def sumT (g : List Tk) (l : List Nat) : Int := (l.map fun i => (rdTk g i).f0).sum
theorem sumT_snoc (g : List Tk) (l : List Nat) (i : Nat) : sumT g (l ++ [i]) = sumT g l + (rdTk g i).f0 := by
 unfold sumT
 rw [List.map_append, List.sum_append]
 simp
theorem sumT_bound {g : List Tk} (htm : ∀ i, 0 ≤ (rdTk g i).f0 ∧ (rdTk g i).f0 ≤ 20) : ∀ l : List Nat, 0 ≤ sumT g l ∧ sumT g l ≤ 20 * l.length
 | [] => ⟨Int.le_refl _, by show (0 : Int) ≤ _; simp⟩
 | i :: l => by
  have ih := sumT_bound htm l
  have h := htm i
  have e : sumT g (i :: l) = (rdTk g i).f0 + sumT g l := by unfold sumT; simp
  rw [e, List.length_cons]
  omega
set_option maxRecDepth 100000 in
set_option maxHeartbeats 2000000 in
theorem total_calls (C : Nat) (g : List Tk) (ns : List Nat) (s : Nat) (h8 : g.length ≤ 8) (hs : s < 2 ^ g.length) (htm : ∀ i, 0 ≤ (rdTk g i).f0 ∧ (rdTk g i).f0 ≤ 20) (w : World) (hG : IsGraph w C g ns) (hT : Tab w) :
  Calls Tryd.prog 73 #[.pointer (some ⟨C, 0, none⟩), .int .u16 s] w fun e W' => e = .returned (.int .i64 (sumT g (elems s))) ∧ Below w.heap.size w W' := by
 have hs16 : s < 65536 := Nat.lt_of_lt_of_le hs (Nat.le_trans (Nat.pow_le_pow_right (by omega) h8) (by decide))
 have hCl : C < w.heap.size := by obtain ⟨Ag, cg, An, cn, Ao, co, vb, va, h1, _⟩ := hG; exact blk_lt h1
 have HG := Lib.hid hG
 have HTM := Lib.hid htm
 clear hG htm
 refine calls_of_wp_marks Tryd.func73 rfl ?_
 simp only [Tryd.ntmps73, List.size_toArray, List.length_cons, List.length_nil, Nat.reduceAdd, Nat.reduceSub, Array.replicate_succ, Array.replicate_zero, List.push_toArray, List.append_toArray, List.nil_append, List.cons_append]
 go_wp2_with (go_at_call 89; refine (all_calls s _).mono ?_; rintro e w' ⟨rfl, rfl⟩)
 obtain ⟨W0, hW0⟩ : ∃ W0, W0 = (w.alloc (.cells #[.pointer (some ⟨C, 0, none⟩)] 60)).alloc (.cells #[.int .i64 0] 3) := ⟨_, rfl⟩
 have hB0 : Below w.heap.size w W0 := by rw [hW0]; exact ((Below.refl _ w).alloc (Nat.le_refl _) _).alloc (by simp) _
 have hz0' : W0.heap.size = w.heap.size + 1 + 1 := by rw [hW0]; simp
 have hb0 : Boxed W0 (w.heap.size + 1) 3 (.int .i64 0) := by rw [hW0]; have := Boxed.new (w.alloc (.cells #[.pointer (some ⟨C, 0, none⟩)] 60)) 3 (.int .i64 0); rwa [World.size_alloc] at this
 have hb1 : Boxed W0 w.heap.size 60 (.pointer (some ⟨C, 0, none⟩)) := by rw [hW0]; exact (Boxed.new w 60 (.pointer (some ⟨C, 0, none⟩))).alloc _
 rw [← hW0]
 clear hW0
 have htl := hT.lt
 have hT0 := hT.keep htl hB0
 have hBox := Boxed.new W0 69 (.int .u16 s)
 rw [hz0'] at hBox
 refine wp_rangeSet1 s (w.heap.size + 1 + 1) w.heap.size hs16 rfl (by simp [hz0']) hBox.cell (hT0.keep hT0.lt ((Below.refl _ _).alloc (Nat.le_refl _) _)) (by simp [hz0']; omega) htl
  (fun pre W => Boxed W (w.heap.size + 1) 3 (.int .i64 (sumT g (pre.map (·.1)))) ∧ Boxed W w.heap.size 60 (.pointer (some ⟨C, 0, none⟩)) ∧ Below w.heap.size w W) (fun _ _ _ => False)
  ((Own.from (boxed_own (w.heap.size + 1) 3 (fun pre : List (El s) => Value.int .i64 (sumT g (pre.map (·.1))))) _).and ((Own.from (boxed_own w.heap.size 60 (fun _ => _)) _).and (ownFrom_below (Nat.le_refl _) (by simp [hz0']; omega))))
  (fun _ _ _ _ _ h _ _ => h)
  ⟨hb0.alloc _, hb1.alloc _, hB0.alloc hB0.size _⟩
  (fun x => { tmps := #[.pointer (some ⟨C, 0, none⟩), .int .u16 s, .pointer (some ⟨w.heap.size, 0, none⟩), undef, .int .i64 0, .pointer (some ⟨w.heap.size + 1, 0, none⟩), .int .i64 (x.1 : Nat), .int .u16 s, .func (.func 117) #[] #[.pointer (some ⟨w.heap.size + 1 + 1, 0, none⟩)], .int .i64 (x.1 : Nat), undef, undef, undef, undef, undef, undef, undef, undef, undef, undef, undef], defers := [] }) ?assign ?body ?done ?stop
 case assign =>
  intro l x W K hK
  gi_wp2
  exact hK
 case body =>
  rintro l pre x W ⟨hb, hb2, hB⟩ hlt
  have hel := elems_length s
  have hxn : x.1 < g.length := elems_below hs x.2
  obtain ⟨Ag, cg, An, cn, Ao, co, vb, va, h1, h2, _, _⟩ := HG.out.below hB
  have cC := blk_cell h1 0
  simp at cC
  obtain ⟨ad, A1, c1, rfl, hx0, _⟩ := at_Tk h2 x.1 hxn
  have hsn := sumT_snoc g (pre.map (·.1)) x.1
  have hsb := sumT_bound HTM.out (pre.map (·.1))
  have htx := HTM.out x.1
  rw [List.length_map] at hsb
  have hI : ∀ W', Boxed W' (w.heap.size + 1) 3 (.int .i64 (sumT g (pre.map (·.1)) + (rdTk g x.1).f0)) → Boxed W' (w.heap.size + 1) 3 (.int .i64 (sumT g ((pre ++ [x]).map (·.1)))) := by
   intro W' h
   rw [List.map_append, List.map_cons, List.map_nil, hsn]
   exact h
  have HI := Lib.hid hI
  clear hI hsn h1 h2
  generalize sumT g (pre.map (·.1)) = S at hb hsb HI
  generalize (rdTk g x.1).f0 = tm at hx0 htx HI
  have hwr : IntKind.i64.wrap (S + tm) = S + tm := IntWalk.i64_in _ (by omega)
  have hxi : ((x.1 : Nat) : Int) < (g.length : Int) := by clear hwr; omega
  have hc := hb.cell
  have hf := hb.frozen
  have hc2 := hb2.cell
  gi_wp2
  refine wpIn_region_still_tail 10 mixed (by kernel_rfl) (by kernel_rfl) (fun ⟨_, _, h⟩ => h) ?_
  simp only [List.take_succ_cons, List.take_zero, List.drop_succ_cons, List.drop_zero]
  repeat (with_reducible refine wpStill_step (fun K hK => ?_); go_simp; with_reducible refine hK _ ?_; clear hK K)
  with_reducible refine wpStill_nil ?_
  clear hwr
  go_wp2
  have hBs := hB.size
  exact ⟨((KeepsOthers.setCell _ _ _).trans (KeepsOthers.drew _)).from _, ((Below.refl _ _).setCell (p := ⟨w.heap.size + 1, 0, none⟩) (by simp) _).drew, HI.out _ (hb.set _), blk_far hb2 (by simp) _, (hB.setCell (p := ⟨w.heap.size + 1, 0, none⟩) (by simp) _).drew⟩
 case stop =>
  rintro D c pre W _ _ h _
  exact h.elim
 case done =>
  rintro D ys W hD hys ⟨hb, hb2, hB⟩ hK
  have hc := hb.cell
  rw [hys] at hc
  have HE := Lib.hid hc
  go_wp2
  refine leave_one hK (results_tmp rfl _ _ _) ⟨rfl, ?_⟩
  exact hB.trans (belowK_b (w := w) (Nat.le_refl _) W D _ _ (by simp [hz0'] at hD; omega) hK rfl rfl)
def busyB (g : List Tk) (log : List Ev) : Int := match replayB g log with
 | some p => sumT g (elems p.1.o)
 | none => -1
theorem lt_pow_of_bits {s n : Nat} (h : ∀ i, s.testBit i = true → i < n) : s < 2 ^ n := Nat.lt_pow_two_of_testBit s fun i hi => by
 cases hb : s.testBit i with
 | false => rfl
 | true => have := h i hb; omega
theorem replayB_facts {g : List Tk} {log : List Ev} {p : Mach × Int} (h : replayB g log = some p) : ∃ ns, graphN g = some ns ∧ replayN g ns log log.length = some p ∧ g.length ≤ 8 ∧ p.1.o < 2 ^ g.length ∧ ∀ i, 0 ≤ (rdTk g i).f0 ∧ (rdTk g i).f0 ≤ 20 := by
 unfold replayB at h
 obtain ⟨ns, hns, hp⟩ := Option.bind_eq_some_iff.1 h
 split at hp
 ·
  have h8 := (graphN_all hns).1
  have hk := replay_kept h8 _ p hp
  exact ⟨ns, hns, hp, h8, lt_pow_of_bits fun i hi => hk.lt i (hk.sub i hi), graphN_time hns⟩
 ·
  cases hp
end Go.Proofs.YtdjdfbfcjajlkaaDoor

namespace Go.Proofs.YtdjdfbfcjajlkaaDoor
set_option linter.unusedVariables false
set_option linter.unusedSimpArgs false
open Go.RowKit Go.Shelf Bits
open Go.Proofs.YtdjdfbfcjajlkaaDoorW.PrintWords Go.Proofs.YtdjdfbfcjajlkaaDoorW.PrintLast Go.Proofs.YtdjdfbfcjajlkaaDoorW.PrintMore
theorem C_nilI (w : World) : (Kd.int .i64).C w none 0 [] := ⟨rfl, by simp, fun hn => absurd hn (by simp)⟩
theorem ValidGraph_is (b : Bool) (A : Option Addr) (c : Nat) (g : List Tk) (h : Hid (specValid g = b)) (w : World) (hr : kTk.C w A g.length g) (hT : Tab w) :
  Calls Tryd.prog 106 #[.slice A g.length c] w fun e w' => e = .returned (.bool b) ∧ Below w.heap.size w w' := by
 have hv := h.out
 rw [specValid_eq] at hv
 cases hg : graphN g with
 | none =>
  rw [hg] at hv
  obtain rfl : b = false := hv.symm
  have HP := Lib.hid (graphOf_no A c g w hr hg)
  clear hr hT hg h hv
  go_enter Tryd.func106, Tryd.ntmps106
  go_wp2_with (go_at_call 86; refine HP.out.mono ?_; rintro e w1 ⟨rfl, hB1⟩)
  go_ret
  exact ⟨rfl, hB1⟩
 | some ns =>
  rw [hg] at hv
  obtain rfl : b = true := hv.symm
  have HP := Lib.hid (graphOf_yes A c g ns w hr hT hg)
  clear hr hT hg h hv
  go_enter Tryd.func106, Tryd.ntmps106
  go_wp2_with (go_at_call 86; refine HP.out.mono ?_; rintro e w1 ⟨C, rfl, hG, hB1⟩)
  go_ret
  exact ⟨rfl, hB1⟩
end Go.Proofs.YtdjdfbfcjajlkaaDoor

namespace Go.Proofs.YtdjdfbfcjajlkaaDoor
set_option linter.unusedVariables false
set_option linter.unusedSimpArgs false
open Go.RowKit Go.Shelf Bits
open Go.Proofs.YtdjdfbfcjajlkaaDoorW.PrintWords Go.Proofs.YtdjdfbfcjajlkaaDoorW.PrintLast Go.Proofs.YtdjdfbfcjajlkaaDoorW.PrintMore
attribute [local go_sem] Oper.semAt_some
theorem upI_wrap {n b : Int} (hn : 0 ≤ n ∧ n ≤ 100000) (hb : 1 ≤ b ∧ b ≤ 1000) : IntKind.i64.wrap (Int.tdiv (n + b - 1) b) = upI n b ∧ 0 ≤ upI n b ∧ upI n b ≤ 100000 := by
 have h1 := upI_nonneg hn.1 hb.1
 have h2 : upI n b ≤ n := upI_le hn.1 hb.1 (by
  have := Int.mul_le_mul_of_nonneg_left hb.1 hn.1
  omega)
 exact ⟨IntWalk.i64_in _ (by unfold upI at h1 h2; omega), h1, by omega⟩
theorem upI_calls (n b : Int) (hn : 0 ≤ n ∧ n ≤ 100000) (hb : 1 ≤ b ∧ b ≤ 1000) (w : World) : Calls Tryd.prog 72 #[.int .i64 n, .int .i64 b] w fun e w' => e = .returned (.int .i64 (upI n b)) ∧ w' = w := by
 have h1 : IntKind.i64.wrap (n + b) = n + b := IntWalk.i64_in _ (by omega)
 have h2 : IntKind.i64.wrap (n + b - 1) = n + b - 1 := IntWalk.i64_in _ (by clear h1; omega)
 have h3 := (upI_wrap hn hb).1
 have hb0 : ¬ b = 0 := by clear h1 h2 h3; omega
 have hb1 : (b == 0) = false := beq_eq_false_iff_ne.2 hb0
 clear hn hb
 go_enter Tryd.func72, Tryd.ntmps72
 go_wp2
 go_ret
 exact ⟨rfl, rfl⟩
set_option maxRecDepth 100000 in
set_option maxHeartbeats 2000000 in
theorem PoolTime_impl (A : Option Addr) (c : Nat) (g : List Tk) (p r : Int) (hv : specValid g = true) (hp : 0 ≤ p ∧ p ≤ 2) (hrm : 4 ≤ r ∧ r ≤ 8) (w : World) (hr : kTk.C w A g.length g) (hT : Tab w) :
  Calls Tryd.prog 75 #[.slice A g.length c, .int .i64 p, .int .i64 r] w fun e w' => e = .returned (.int .i64 (poolS g p r)) ∧ Below w.heap.size w w' := by
 have hok := specValid_TOk hv
 have h8 := hok.1
 have HV := Lib.hid (ValidGraph_is true A c g (Lib.hid hv) w hr hT)
 have HP := Lib.hid (inB_true.2 hp)
 have HRM := Lib.hid (inB_true.2 hrm)
 have HF := Lib.hid (poolS_is hv hp hrm)
 have HW := Lib.hid (poolW_bound hok p)
 have HPB := Lib.hid (poolSum_bound hok p)
 have HR := Lib.hid hr
 have HOK := Lib.hid hok
 clear hr hT hv hok
 go_enter Tryd.func75, Tryd.ntmps75
 go_wp2_with (first | (go_at_call 106; refine HV.out.mono ?_; rintro e w1 ⟨rfl, hB1⟩; have HB1 := Lib.hid hB1; clear hB1) | (go_at_call 64; with_reducible refine (within_is _ _ _ _ HP _).mono ?_; rintro e w' ⟨rfl, rfl⟩) | (go_at_call 64; with_reducible refine (within_is _ _ _ _ HRM _).mono ?_; rintro e w' ⟨rfl, rfl⟩))
 go_loopw [7, 25] (fun n i wr => ∃ (j : Nat), j ≤ g.length ∧ i = .int .i64 j ∧ n = .int .i64 (sumTo (poolF g p) j) ∧ Below w.heap.size w wr) (fun _ i _ => g.length - (intOf i).toNat)
 case atStart => exact ⟨0, Nat.zero_le _, rfl, rfl, HB1.out⟩
 case round =>
  clear HB1
  obtain ⟨j, hj, rfl, rfl, hB⟩ := hrel
  by_cases hjl : j < g.length
  ·
   obtain ⟨ad, A1, c1, rfl, hc0, hc1, hc2, hc3, _⟩ := at_Tk (Kd.C_below HR.out hB) j hjl
   have hjj : decide ((j : Int) < (g.length : Int)) = true := decide_eq_true (by omega)
   have hji : (j : Int) < (g.length : Int) := by omega
   have HE : Hid (sumTo (poolF g p) (j + 1) = sumTo (poolF g p) j + (if (rdTk g j).f2 = p then (rdTk g j).f0 * (rdTk g j).f3 else 0)) := Lib.hid rfl
   have hb := HPB.out j (by omega)
   have hb2 := HPB.out (j + 1) (by omega)
   rw [HE.out] at hb2
   have htj := HOK.out.2.1 j
   have huj := HOK.out.2.2.2.1 j
   generalize sumTo (poolF g p) j = s at HE hb hb2
   generalize (rdTk g j).f0 = tm at hc0 htj HE hb2
   generalize (rdTk g j).f3 = un at hc3 huj HE hb2
   generalize (rdTk g j).f2 = pl at hc2 HE hb2
   generalize (rdTk g j).f1.length = nl at hc1
   have HB := Lib.hid hB
   by_cases g1 : pl = p
   ·
    have d1 : (pl == p) = true := beq_iff_eq.2 g1
    rw [if_pos g1] at HE hb2
    have hwm : IntKind.i64.wrap (tm * un) = tm * un := IntWalk.i64_in _ (by omega)
    have hwr : IntKind.i64.wrap (s + tm * un) = s + tm * un := IntWalk.i64_in _ (by clear hwm; omega)
    clear g1 hb hb2 hB
    go_wp2
    clear hwr hwm
    go_roundw
    case rel => exact ⟨j + 1, by omega, by go_num, by rw [HE.out], by repeat (first | exact HB.out | exact HB.out.alloc HB.out.size _ | apply pw_below_drewN)⟩
    case measure => simp [intOf]; omega
   ·
    have d1 : (pl == p) = false := beq_eq_false_iff_ne.2 g1
    rw [if_neg g1] at HE
    clear g1 hb hb2 hB
    go_wp2
    go_roundw
    case rel => exact ⟨j + 1, by omega, by go_num, by rw [HE.out, Int.add_zero], by repeat (first | exact HB.out | exact HB.out.alloc HB.out.size _ | apply pw_below_drewN)⟩
    case measure => simp [intOf]; omega
  ·
   obtain rfl : j = g.length := by omega
   have hjj : decide ((g.length : Int) < (g.length : Int)) = false := decide_eq_false (by omega)
   have HUP := Lib.hid (fun W => upI_calls (poolW g p) r (by have := HW.out; omega) (by omega) W)
   have HPW : Hid (sumTo (poolF g p) g.length = poolW g p) := Lib.hid rfl
   rw [HPW.out]
   generalize poolW g p = pw at HUP HF
   go_wp2_with (go_at_call 72; refine (HUP.out _).mono ?_; rintro e w3 ⟨rfl, rfl⟩)
   go_ret
   exact ⟨ret_int HF.out.symm, hB⟩
theorem sum_range (f : Nat → Int) : ∀ n, ((List.range n).map f).sum = sumTo f n
 | 0 => rfl
 | n + 1 => by
  rw [List.range_succ, List.map_append, List.sum_append, sum_range f n]
  show sumTo f n + [f n].sum = sumTo f n + f n
  simp
theorem elems_full {n : Nat} (hn : n ≤ 15) : elems (2 ^ n - 1) = List.range n := by
 rw [elems_eq (n := n) (by omega) (by have := Nat.two_pow_pos n; omega) (fun _ => true) (fun j hj => by
  rw [Nat.testBit_two_pow_sub_one]
  exact decide_eq_true hj)]
 exact List.filter_eq_self.2 (fun _ _ => rfl)
theorem total_all {g : List Tk} (h8 : g.length ≤ 8) : sumT g (elems (2 ^ g.length - 1)) = timeS g := by
 rw [elems_full (by omega)]
 exact sum_range _ _
theorem leastN_bound {g : List Tk} (hv : specValid g = true) {rm : List Int} {wk : Int} (hp : placeB rm wk = true) : ∀ m, m ≤ 3 → 0 ≤ leastN g rm wk m ∧ leastN g rm wk m ≤ 100000 := by
 have hok := specValid_TOk hv
 have hT := timeS_bound hok
 obtain ⟨hrm, h1, h2⟩ := placeB_facts hp
 have hu := upI_wrap (n := timeS g) (b := wk) (by omega) (by omega)
 have hl : longestN g ≤ 10000 := by
  have := longest_le hv (st := planS g rm wk) (fun i hi => (plan_valid hv hp).b i hi |>.1) (fun k hk i hi => (plan_valid hv hp).needs k hk i hi)
  have := endS_le (E := timeS g) hT.1 g.length (planS_ends hv hrm h1)
  omega
 intro m
 induction m with
 | zero =>
  intro _
  unfold leastN
  omega
 | succ m ih =>
  intro hm
  have ih := ih (by omega)
  have hr := (roomB_facts hrm).2 m (by omega)
  have hpw := poolW_bound hok (m : Int)
  have := upI_wrap (n := poolW g m) (b := rm.getD m 0) (by omega) (by omega)
  unfold leastN
  rw [poolS_is hv (by omega) hr]
  omega
set_option maxRecDepth 100000 in
set_option maxHeartbeats 4000000 in
theorem LeastTime_impl (A : Option Addr) (c : Nat) (g : List Tk) (A1 : Option Addr) (c1 : Nat) (rm : List Int) (wk : Int) (w : World) (hr : kTk.C w A g.length g) (hr1 : (Kd.int .i64).C w A1 rm.length rm) (hT : Tab w) :
  Calls Tryd.prog 44 #[.slice A g.length c, .slice A1 rm.length c1, .int .i64 wk] w fun e W' => e = .returned (.int .i64 (leS g rm wk)) ∧ Below w.heap.size w W' := by
 by_cases hp : (specValid g && placeB rm wk) = true
 ·
  rw [Bool.and_eq_true] at hp
  obtain ⟨hv, hpl⟩ := hp
  have hok := specValid_TOk hv
  have HF : Hid (leS g rm wk = leastN g rm wk 3) := Lib.hid (leS_is hv hpl)
  obtain ⟨ns, hg⟩ := graphN_yes hv
  obtain ⟨h1, h2, h3⟩ := placeB_facts hpl
  have hrf := roomB_facts h1
  have HP := Lib.hid (placeIn_yes A c g ns A1 c1 rm wk hpl w hr hT hg hr1)
  have HK := Lib.hid (fun (W : World) C (h : IsGraph W C g ns) (hT : Tab W) => tails_calls C g ns hg W h hT)
  have hsp := (tailN_span hg).1
  have h8 := hok.1
  have hl : (tailN g ns).length ≤ 100 := by omega
  have HLN : Hid (longL (tailN g ns) (tailN g ns).length = longestN g) := Lib.hid (by unfold longestN; rw [hg, hsp])
  have HLC := Lib.hid (fun (B : Option Addr) (d : Nat) (W : World) hC => longest_calls B d (tailN g ns) hl W hC)
  rw [HLN.out] at HLC
  have HTO := Lib.hid (fun (W : World) C (h : IsGraph W C g ns) (hT : Tab W) => total_calls C g ns (2 ^ g.length - 1) h8 (by have := Nat.two_pow_pos g.length; omega) hok.2.1 W h hT)
  rw [total_all h8] at HTO
  have htm := timeS_bound hok
  have HUP := Lib.hid (fun W => upI_calls (timeS g) wk (by omega) (by omega) W)
  have hlb := leastN_bound hv hpl
  have HLB := Lib.hid hlb
  have HL0 : Hid (leastN g rm wk 0 = max (longestN g) (upI (timeS g) wk)) := Lib.hid rfl
  have HPT := Lib.hid (fun (p : Nat) (hp : p < 3) (W : World) (hW : Below w.heap.size w W) => PoolTime_impl A c g p (rm.getD p 0) hv (by omega) (hrf.2 p hp) W (Kd.C_below hr hW) (hT.keep hT.lt hW))
  have HRL := Lib.hid hrf.1
  have hrl9 : rm.length ≤ 9 := by rw [hrf.1]; decide
  have HR1 := Lib.hid hr1
  have HT := Lib.hid hT
  have h8e := everything_calls g.length (by omega)
  have HEV := Lib.hid h8e
  clear hr hT hg h1 h2 h3 hv hpl hr1 hok hsp hrf htm hlb h8e
  generalize tailN g ns = TN at HK HLC hl
  generalize longestN g = lg at HLC HL0
  generalize upI (timeS g) wk = uu at HUP HL0
  generalize timeS g = tm at HTO HUP
  generalize 2 ^ g.length - 1 = ev at HTO HEV
  go_enter Tryd.func44, Tryd.ntmps44
  go_wp2_with (first | (go_at_call 54; refine HP.out.mono ?_; rintro e w1 ⟨C, rfl, hG, hB1⟩; have HG := Lib.hid hG; have HB1 := Lib.hid hB1; clear hG hB1) | (go_at_call 69; refine (HK.out _ C HG.out (HT.out.keep HT.out.lt HB1.out)).mono ?_; rintro e w3 ⟨v3, rfl, hR3, hB3⟩; obtain ⟨A3, c3, rfl, hl3, hC3⟩ := Kd.R_reads hR3; have HC3 := Lib.hid hC3; have HG := Lib.hid (HG.out.below hB3); have HB1 := Lib.hid (HB1.out.trans (hB3.mono HB1.out.size)); clear hR3 hC3 hB3) | (go_at_call 71; refine (HLC.out A3 c3 _ HC3.out).mono ?_; rintro e w4 ⟨rfl, rfl⟩) | (go_at_call 65; refine (size_calls _ C g ns HG.out).mono ?_; rintro e w' ⟨rfl, rfl⟩) | (go_at_call 74; refine (HEV.out _).mono ?_; rintro e w' ⟨rfl, rfl⟩) | (go_at_call 73; refine (HTO.out _ C HG.out (HT.out.keep HT.out.lt HB1.out)).mono ?_; rintro e w5 ⟨rfl, hB5⟩; have HB1 := Lib.hid (HB1.out.trans (hB5.mono HB1.out.size)); clear hB5) | (go_at_call 72; refine (HUP.out _).mono ?_; rintro e w6 ⟨rfl, rfl⟩))
  all_goals
   go_loopw [9, 34] (fun n i wr => ∃ (k : Nat), k ≤ rm.length ∧ i = .int .i64 k ∧ n = .int .i64 (leastN g rm wk k) ∧ Below w.heap.size w wr) (fun _ i _ => rm.length - (intOf i).toNat)
   case atStart => exact ⟨0, Nat.zero_le _, rfl, by rw [HL0.out]; congr 1; first | omega | (split <;> omega), HB1.out⟩
   case round =>
    clear HB1
    obtain ⟨k, hk, rfl, rfl, hB⟩ := hrel
    by_cases hkl : k < rm.length
    ·
     have hk3 : k < 3 := by rw [← HRL.out]; exact hkl
     obtain ⟨ads, rfl, cs⟩ := at_num (Kd.C_below HR1.out hB) k hkl
     have hkk : decide ((k : Int) < (rm.length : Int)) = true := decide_eq_true (by omega)
     have hki : (k : Int) < (rm.length : Int) := by omega
     have hk9 : k < 9 := by omega
     have HE : Hid (leastN g rm wk (k + 1) = max (leastN g rm wk k) (poolS g k (rm.getD k 0))) := Lib.hid rfl
     have HPK := Lib.hid (HPT.out k hk3)
     generalize poolS g k (rm.getD k 0) = pw at HPK HE
     generalize rm.getD k 0 = rk at cs HPK
     generalize leastN g rm wk k = m at HE ⊢
     have HW := Lib.hid hB
     clear hB hk3
     go_wp2_with (go_at_call 75; refine (HPK.out _ HW.out).mono ?_; rintro e w5 ⟨rfl, hB5⟩; have HW := Lib.hid (HW.out.trans (hB5.mono HW.out.size)); clear hB5)
     all_goals
      go_roundw
      case rel => exact ⟨k + 1, by omega, by go_num, by rw [HE.out]; congr 1; first | omega | (split <;> omega), HW.out⟩
      case measure => simp [intOf]; omega
    ·
     obtain rfl : k = rm.length := by omega
     have hkk : decide ((rm.length : Int) < (rm.length : Int)) = false := decide_eq_false (by omega)
     have HFF : Hid (leastN g rm wk rm.length = leS g rm wk) := Lib.hid (by rw [HF.out, HRL.out])
     rw [HFF.out]
     go_wp2
     go_ret
     exact ⟨rfl, hB⟩
 ·
  have HF : Hid (leS g rm wk = -1) := Lib.hid (by unfold leS; rw [if_neg hp])
  have hn : ∀ ns, graphN g = some ns → placeB rm wk = false := fun ns hg => by
   rw [graphN_spec hg, Bool.true_and] at hp
   simpa using hp
  have HP := Lib.hid (placeIn_no A c g A1 c1 rm wk hn w hr hT hr1)
  clear hr hT hp hr1 hn
  go_enter Tryd.func44, Tryd.ntmps44
  go_wp2_with (go_at_call 54; refine HP.out.mono ?_; rintro e w1 ⟨rfl, hB1⟩)
  go_ret
  exact ⟨ret_int HF.out.symm, hB1⟩
end Go.Proofs.YtdjdfbfcjajlkaaDoor

namespace Go.Proofs.YtdjdfbfcjajlkaaDoor
set_option linter.unusedVariables false
set_option linter.unusedSimpArgs false
open Go.RowKit Go.Shelf Bits
open Go.Proofs.YtdjdfbfcjajlkaaDoorW.PrintWords Go.Proofs.YtdjdfbfcjajlkaaDoorW.PrintLast Go.Proofs.YtdjdfbfcjajlkaaDoorW.PrintMore
attribute [local go_sem] Oper.semAt_some
def cmpI (x y : Int) : Int := if x < y then -1 else if y < x then 1 else 0
def cmpE (a b : Ev) : Int := if a.f0 = b.f0 ∧ a.f2 ≠ b.f2 then (if a.f2 then -1 else 1) else if cmpI a.f0 b.f0 ≠ 0 then cmpI a.f0 b.f0 else cmpI a.f1 b.f1
theorem cmpI_neg {x y : Int} : cmpI x y < 0 ↔ x < y := by
 unfold cmpI
 split
 ·
  simp_all
 ·
  split <;> simp_all
theorem cmpI_zero {x y : Int} : cmpI x y = 0 ↔ x = y := by
 unfold cmpI
 split
 ·
  rename_i h
  constructor
  ·
   intro e; exact absurd e (by decide)
  ·
   intro e; omega
 ·
  rename_i h
  split
  ·
   rename_i h2
   constructor
   ·
    intro e; exact absurd e (by decide)
   ·
    intro e; omega
  ·
   rename_i h2
   exact ⟨fun _ => by omega, fun _ => rfl⟩
theorem cmpE_lt (a b : Ev) : cmpE a b < 0 ↔ ltE a b := by
 unfold cmpE ltE
 by_cases h0 : a.f0 = b.f0
 ·
  by_cases h2 : a.f2 = b.f2
  ·
   rw [if_neg (fun h => h.2 h2), if_neg (by rw [cmpI_zero.2 h0]; simp), cmpI_neg]
   constructor
   ·
    intro h
    exact .inr ⟨h0, .inr ⟨h2, h⟩⟩
   ·
    rintro (h | ⟨_, ⟨h, k⟩ | ⟨_, h⟩⟩)
    ·
     omega
    ·
     rw [h, k] at h2; cases h2
    ·
     exact h
  ·
   rw [if_pos ⟨h0, h2⟩]
   cases ha : a.f2
   ·
    simp only [Bool.false_eq_true, if_false]
    constructor
    ·
     intro h; exact absurd h (by decide)
    ·
     rintro (h | ⟨_, ⟨h, _⟩ | ⟨h, _⟩⟩)
     ·
      omega
     ·
      cases h
     ·
      rw [ha] at h2; exact absurd h h2
   ·
    have hb : b.f2 = false := by
     cases hb : b.f2
     ·
      rfl
     ·
      rw [ha, hb] at h2; exact absurd rfl h2
    simp only [if_true]
    exact ⟨fun _ => .inr ⟨h0, .inl ⟨by first | rfl | trivial | exact ha, hb⟩⟩, fun _ => by decide⟩
 ·
  rw [if_neg (fun h => h0 h.1), if_pos (fun h => h0 (cmpI_zero.1 h)), cmpI_neg]
  constructor
  ·
   exact .inl
  ·
   rintro (h | ⟨h, _⟩)
   ·
    exact h
   ·
    exact absurd h h0
theorem isNaN_calls (x : Int) (w : World) : Calls Tryd.prog 126 #[.int .i64 x] w fun e w' => e = .returned (.bool false) ∧ w' = w := by
 go_enter Tryd.func126, Tryd.ntmps126
 go_wp2
 go_ret
 exact ⟨ret_bool (by simp), rfl⟩
theorem compare_calls (x y : Int) (w : World) : Calls Tryd.prog 100 #[.int .i64 x, .int .i64 y] w fun e w' => e = .returned (.int .i64 (cmpI x y)) ∧ w' = w := by
 by_cases h1 : x < y
 ·
  have d1 : decide (x < y) = true := decide_eq_true h1
  have HF : Hid (cmpI x y = -1) := Lib.hid (by unfold cmpI; rw [if_pos h1])
  clear h1
  go_enter Tryd.func100, Tryd.ntmps100
  go_wp2_with (go_at_call 126; refine (isNaN_calls _ _).mono ?_; rintro e w' ⟨rfl, rfl⟩)
  go_ret
  exact ⟨ret_int HF.out.symm, rfl⟩
 ·
  have d1 : decide (x < y) = false := decide_eq_false h1
  by_cases h2 : y < x
  ·
   have d2 : decide (y < x) = true := decide_eq_true h2
   have HF : Hid (cmpI x y = 1) := Lib.hid (by unfold cmpI; rw [if_neg h1, if_pos h2])
   clear h1 h2
   go_enter Tryd.func100, Tryd.ntmps100
   go_wp2_with (go_at_call 126; refine (isNaN_calls _ _).mono ?_; rintro e w' ⟨rfl, rfl⟩)
   go_ret
   exact ⟨ret_int HF.out.symm, rfl⟩
  ·
   have d2 : decide (y < x) = false := decide_eq_false h2
   have HF : Hid (cmpI x y = 0) := Lib.hid (by unfold cmpI; rw [if_neg h1, if_neg h2])
   clear h1 h2
   go_enter Tryd.func100, Tryd.ntmps100
   go_wp2_with (go_at_call 126; refine (isNaN_calls _ _).mono ?_; rintro e w' ⟨rfl, rfl⟩)
   go_ret
   exact ⟨ret_int HF.out.symm, rfl⟩
theorem or_calls (A : Option Addr) (c : Nat) (a b r : Int) (HR : Hid ((if a ≠ 0 then a else b) = r)) (w : World) (hr : (Kd.int .i64).C w A 2 [a, b]) : Calls Tryd.prog 99 #[.slice A 2 c] w fun e w' => e = .returned (.int .i64 r) ∧ w' = w := by
 obtain ⟨ad, rfl, c0⟩ := at_num hr 0 (by omega)
 obtain ⟨ad', e', c1⟩ := at_num hr 1 (by omega)
 cases e'
 replace c0 : w.cell? (ad.add 0) = some (.int .i64 a) := c0
 rw [show ad.add 0 = ad from by cases ad; rfl] at c0
 replace c1 : w.cell? (ad.add 1) = some (.int .i64 b) := c1
 have c1 : w.cell? ⟨ad.block, ad.off + 1, none⟩ = some (.int .i64 b) := by simpa [Addr.add] using c1
 clear hr
 go_enter Tryd.func99, Tryd.ntmps99
 go_wp2
 go_loop [8] (fun i => ∃ (j : Nat), j ≤ 2 ∧ i = .int .i64 j ∧ Hid ((1 ≤ j → a = 0) ∧ (2 ≤ j → b = 0))) (fun i => 2 - (intOf i).toNat)
 case atStart => exact ⟨0, by omega, rfl, Lib.hid ⟨fun h => by omega, fun h => by omega⟩⟩
 case round =>
  obtain ⟨j, hj, rfl, HS⟩ := hrel
  by_cases h0 : j = 0
  ·
   subst h0
   by_cases ha : a = 0
   ·
    have da : (a != 0) = false := by rw [bne_eq_false_iff_eq]; exact ha
    have HA := Lib.hid ha
    clear ha
    go_wp2
    go_round
    case rel => exact ⟨1, by omega, rfl, Lib.hid ⟨fun _ => HA.out, fun h => by omega⟩⟩
    case measure => simp [intOf]
   ·
    have da : (a != 0) = true := by rw [bne_iff_ne]; exact ha
    have HF : Hid (r = a) := Lib.hid (by rw [← HR.out]; exact if_pos ha)
    clear ha
    go_wp2
    go_ret
    exact ⟨ret_int HF.out.symm, rfl⟩
  ·
   by_cases h1 : j = 1
   ·
    subst h1
    have HA := Lib.hid (HS.out.1 (Nat.le_refl _))
    by_cases hb : b = 0
    ·
     have da : (b != 0) = false := by rw [bne_eq_false_iff_eq]; exact hb
     have HB := Lib.hid hb
     clear hb h0
     go_wp2
     go_round
     case rel => exact ⟨2, by omega, rfl, Lib.hid ⟨fun _ => HA.out, fun _ => HB.out⟩⟩
     case measure => simp [intOf]
    ·
     have da : (b != 0) = true := by rw [bne_iff_ne]; exact hb
     have HF : Hid (r = b) := Lib.hid (by rw [← HR.out]; exact if_neg (fun h => h HA.out))
     clear hb h0
     go_wp2
     go_ret
     exact ⟨ret_int HF.out.symm, rfl⟩
   ·
    obtain rfl : j = 2 := by omega
    have HF : Hid (r = 0) := Lib.hid (by rw [← HR.out, HS.out.2 (Nat.le_refl _), HS.out.1 (by omega)]; rfl)
    clear h0 h1
    go_wp2
    go_ret
    exact ⟨ret_int HF.out.symm, rfl⟩
end Go.Proofs.YtdjdfbfcjajlkaaDoor
