/- The plain law of DoneBy: what the machine has over by a time is what the reference lists, and is valid as done. No program in sight. -/
import Derived.Test.YtpmfghbjkampkaaDoorLaw4
import Derived.Test.YtpmfghbjkampkaaDoorDoneBy
import Derived.Test.YtpmfghbjkampkaaDoorVDone
import Derived.Test.YtpmfghbjkampkaaDoorBFnDoneBy
import Derived.Test.YtpmfghbjkampkaaDoorRow
import Derived.Test.YtpmfghbjkampkaaDoorCards
import Derived.Test.YtpmfghbjkampkaaDoorTie
namespace Go.Proofs.YtpmfghbjkampkaaDoor
set_option linter.unusedVariables false
set_option linter.unusedSimpArgs false
open Go.RowKit Go.Shelf Bits
def hits (log : List Ev) (t : Nat) (now : Int) : Nat → List Int
 | 0 => []
 | k + 1 => if (rdEv log k).f1 = (t : Int) ∧ (rdEv log k).f2 = true ∧ (rdEv log k).f0 ≤ now then hits log t now k ++ [(t : Int)] else hits log t now k
def doneS (log : List Ev) (now : Int) : Nat → List Int
 | 0 => []
 | t + 1 => doneS log now t ++ hits log t now log.length
structure Hist (g : List Tk) (ns : List Nat) (log : List Ev) (k : Nat) (M : Mach) : Prop where
 hit : ∀ t now, hits log t now k = if M.o.testBit t = true ∧ M.cl t ≤ now then [(t : Int)] else []
 sub : ∀ i, M.o.testBit i = true → M.b.testBit i = true
 lt : ∀ i, M.b.testBit i = true → i < g.length
 tim : ∀ i, M.b.testBit i = true → 0 < k ∧ 0 ≤ M.bg i ∧ M.bg i ≤ (rdEv log (k - 1)).f0
 clt : ∀ i, M.o.testBit i = true → M.bg i ≤ M.cl i ∧ M.cl i ≤ (rdEv log (k - 1)).f0
 ned : ∀ i, M.b.testBit i = true → ∀ q, (ns.getD i 0).testBit q = true → M.o.testBit q = true ∧ M.cl q ≤ M.bg i
theorem Hist.step {g : List Tk} {ns : List Nat} {log : List Ev} {k : Nat} {M M' : Mach} (htm : ∀ i, 0 ≤ (rdTk g i).f0) (h : Hist g ns log k M) (ho : inOrder log k = true) (hs : stepM g ns M (rdEv log k) = some M') : Hist g ns log (k + 1) M' := by
 obtain ⟨hin, hst⟩ := stepM_some hs
 obtain ⟨e0, e1, e2⟩ := evIn_num hin
 have e0 := inB_true.1 e0
 have hle : 0 < k → (rdEv log (k - 1)).f0 ≤ (rdEv log k).f0 := fun hk => by
  unfold inOrder at ho
  rw [decide_eq_true hk] at ho
  simpa using ho
 have hbt : ∀ i, M.b.testBit i = true → 0 ≤ M.bg i ∧ M.bg i ≤ (rdEv log k).f0 := fun i hi => by
  obtain ⟨a, b, c⟩ := h.tim i hi
  have := hle a
  exact ⟨b, by omega⟩
 have hct : ∀ i, M.o.testBit i = true → M.bg i ≤ M.cl i ∧ M.cl i ≤ (rdEv log k).f0 := fun i hi => by
  obtain ⟨a, _, _⟩ := h.tim i (h.sub i hi)
  obtain ⟨b, c⟩ := h.clt i hi
  have := hle a
  exact ⟨b, by omega⟩
 rcases hst with ⟨f2, hm, rfl⟩ | ⟨f2, hm, rfl⟩
 ·
  unfold mayBegin at hm
  simp only [Bool.and_eq_true, Bool.not_eq_true', decide_eq_true_eq] at hm
  obtain ⟨m1, m2⟩ := hm
  have hnb : ∀ i, M.b.testBit i = true → i ≠ (rdEv log k).i := fun i hi e => by rw [e, m1] at hi; cases hi
  refine ⟨fun t now => ?_, fun i hi => ?_, fun i hi => ?_, fun i hi => ?_, fun i hi => ?_, fun i hi q hq => ?_⟩
  ·
   unfold hits
   rw [if_neg (by rw [f2]; simp)]
   exact h.hit t now
  ·
   show (M.b ||| 2 ^ (rdEv log k).i).testBit i = true
   rw [or_bit, h.sub i hi]
   rfl
  ·
   have hi : (M.b ||| 2 ^ (rdEv log k).i).testBit i = true := hi
   rw [or_bit, Bool.or_eq_true, decide_eq_true_eq] at hi
   rcases hi with hi | hi
   ·
    exact h.lt i hi
   ·
    omega
  ·
   have hi : (M.b ||| 2 ^ (rdEv log k).i).testBit i = true := hi
   rw [or_bit, Bool.or_eq_true, decide_eq_true_eq] at hi
   show 0 < k + 1 ∧ 0 ≤ (if i = (rdEv log k).i then (rdEv log k).f0 else M.bg i) ∧ (if i = (rdEv log k).i then (rdEv log k).f0 else M.bg i) ≤ (rdEv log k).f0
   by_cases he : i = (rdEv log k).i
   ·
    rw [if_pos he]
    omega
   ·
    rw [if_neg he]
    obtain ⟨a, b⟩ := hbt i (hi.resolve_right fun e => he e.symm)
    omega
  ·
   have hi : M.o.testBit i = true := hi
   show (if i = (rdEv log k).i then (rdEv log k).f0 else M.bg i) ≤ M.cl i ∧ M.cl i ≤ (rdEv log k).f0
   rw [if_neg (hnb i (h.sub i hi))]
   exact hct i hi
  ·
   have hi : (M.b ||| 2 ^ (rdEv log k).i).testBit i = true := hi
   rw [or_bit, Bool.or_eq_true, decide_eq_true_eq] at hi
   show M.o.testBit q = true ∧ M.cl q ≤ (if i = (rdEv log k).i then (rdEv log k).f0 else M.bg i)
   by_cases he : i = (rdEv log k).i
   ·
    rw [if_pos he]
    rw [he] at hq
    have hoq := diff_zero.1 m2 q hq
    exact ⟨hoq, (hct q hoq).2⟩
   ·
    rw [if_neg he]
    exact h.ned i (hi.resolve_right fun e => he e.symm) q hq
 ·
  unfold mayEnd at hm
  simp only [Bool.and_eq_true, Bool.not_eq_true', decide_eq_true_eq] at hm
  obtain ⟨⟨m1, m2⟩, m3⟩ := hm
  have hno : ∀ i, M.o.testBit i = true → i ≠ (rdEv log k).i := fun i hi e => by rw [e, m2] at hi; cases hi
  refine ⟨fun t now => ?_, fun i hi => ?_, h.lt, fun i hi => ?_, fun i hi => ?_, fun i hi q hq => ?_⟩
  ·
   show _ = if (M.o ||| 2 ^ (rdEv log k).i).testBit t = true ∧ (if t = (rdEv log k).i then (rdEv log k).f0 else M.cl t) ≤ now then _ else _
   unfold hits
   rw [h.hit t now, or_bit, e1, f2]
   by_cases he : t = (rdEv log k).i
   ·
    have h2 : M.o.testBit t = false := by rw [he]; exact m2
    rw [h2, if_neg (show ¬ (false = true ∧ M.cl t ≤ now) by simp), he]
    simp
   ·
    have h2 : ¬ (((rdEv log k).i : Nat) : Int) = (t : Int) := by omega
    have h3 : ¬ (rdEv log k).i = t := fun e => he e.symm
    simp [he, h2, h3]
  ·
   have hi : (M.o ||| 2 ^ (rdEv log k).i).testBit i = true := hi
   rw [or_bit, Bool.or_eq_true, decide_eq_true_eq] at hi
   rcases hi with hi | hi
   ·
    exact h.sub i hi
   ·
    rw [← hi]
    exact m1
  ·
   show 0 < k + 1 ∧ 0 ≤ M.bg i ∧ M.bg i ≤ (rdEv log k).f0
   obtain ⟨a, b⟩ := hbt i hi
   omega
  ·
   have hi : (M.o ||| 2 ^ (rdEv log k).i).testBit i = true := hi
   rw [or_bit, Bool.or_eq_true, decide_eq_true_eq] at hi
   show M.bg i ≤ (if i = (rdEv log k).i then (rdEv log k).f0 else M.cl i) ∧ (if i = (rdEv log k).i then (rdEv log k).f0 else M.cl i) ≤ (rdEv log k).f0
   by_cases he : i = (rdEv log k).i
   ·
    rw [if_pos he, he]
    have := htm (rdEv log k).i
    omega
   ·
    rw [if_neg he]
    exact hct i (hi.resolve_right fun e => he e.symm)
  ·
   show (M.o ||| 2 ^ (rdEv log k).i).testBit q = true ∧ (if q = (rdEv log k).i then (rdEv log k).f0 else M.cl q) ≤ M.bg i
   obtain ⟨a, b⟩ := h.ned i hi q hq
   rw [or_bit, a, if_neg (hno q a)]
   exact ⟨rfl, b⟩
theorem replay_hist {g : List Tk} {ns : List Nat} {log : List Ev} (htm : ∀ i, 0 ≤ (rdTk g i).f0) : ∀ (k : Nat) (p : Mach × Int), replayN g ns log k = some p → Hist g ns log k p.1
 | 0, p, h => by
  obtain rfl : (Mach.zero, (0 : Int)) = p := Option.some.inj h
  refine ⟨fun t now => ?_, fun i hi => ?_, fun i hi => ?_, fun i hi => ?_, fun i hi => ?_, fun i hi => ?_⟩
  ·
   simp [hits, Mach.zero]
  all_goals (exfalso; simp [Mach.zero] at hi)
 | k + 1, p, h => by
  unfold replayN at h
  obtain ⟨q, hq, h⟩ := Option.bind_eq_some_iff.1 h
  have ih := replay_hist htm k q hq
  split at h
  ·
   cases h
  ·
   rename_i ho
   obtain ⟨M', hM, rfl⟩ := Option.map_eq_some_iff.1 h
   exact ih.step htm (by simpa using ho) hM
theorem filter_range {P : Nat → Bool} {n : Nat} (h : ∀ i, P i = true → i < n) : ∀ d, (List.range (n + d)).filter P = (List.range n).filter P
 | 0 => rfl
 | d + 1 => by
  rw [← Nat.add_assoc, List.range_succ, List.filter_append, filter_range h d]
  have : P (n + d) = false := by
   cases hp : P (n + d) with
   | false => rfl
   | true => have := h _ hp; omega
  simp [this]
def doneP (M : Mach) (now : Int) (i : Nat) : Bool := M.o.testBit i && decide (M.cl i ≤ now)
theorem doneL_range {M : Mach} {n : Nat} (hn : n ≤ 16) (h : ∀ i, M.o.testBit i = true → i < n) (now : Int) : doneL M now = (List.range n).filter (doneP M now) := by
 unfold doneL elems
 rw [List.filter_filter, ← filter_range (P := doneP M now) (n := n) (fun i hi => h i (by unfold doneP at hi; rw [Bool.and_eq_true] at hi; exact hi.1)) (16 - n), show n + (16 - n) = 16 by omega]
 apply List.filter_congr
 intro i _
 unfold doneP
 rw [Bool.and_comm]
theorem doneS_eq {g : List Tk} {ns : List Nat} {log : List Ev} {M : Mach} (h : Hist g ns log log.length M) (now : Int) : ∀ t, doneS log now t = ints ((List.range t).filter (doneP M now))
 | 0 => rfl
 | t + 1 => by
  unfold doneS
  rw [doneS_eq h now t, h.hit t now, List.range_succ, List.filter_append]
  unfold ints
  rw [List.map_append]
  congr 1
  unfold doneP
  by_cases hc : M.o.testBit t = true ∧ M.cl t ≤ now
  ·
   rw [if_pos hc]
   simp [hc.1, hc.2]
  ·
   rw [if_neg hc]
   have : (M.o.testBit t && decide (M.cl t ≤ now)) = false := by
    cases hb : M.o.testBit t with
    | false => rfl
    | true => simp; exact Int.not_le.1 fun h2 => hc ⟨hb, h2⟩
   simp [this]
theorem ascB_ints {L : List Nat} (h : L.Pairwise (· < ·)) : ascB (ints L) = true := by
 unfold ascB
 rw [List.all_eq_true]
 intro j hj
 have hj := List.mem_range.1 hj
 rw [ints_length] at hj
 rw [decide_eq_true_eq, ints_getD, ints_getD, List.getD_eq_getElem?_getD, List.getD_eq_getElem?_getD, List.getElem?_eq_getElem (show j < L.length by omega), List.getElem?_eq_getElem (show j + 1 < L.length by omega)]
 have := List.pairwise_iff_getElem.1 h j (j + 1) (by omega) (by omega) (by omega)
 simp only [Option.getD_some]
 omega
theorem allInB_ints {L : List Nat} {n : Nat} (h : ∀ i ∈ L, i < n) : allInB (ints L) 0 ((n : Int) - 1) = true := by
 unfold allInB ints
 rw [List.all_map, List.all_eq_true]
 intro i hi
 have := h i hi
 exact inB_true.2 ⟨by simp, by simp; omega⟩
theorem doneN_ok {g : List Tk} {ns : List Nat} {log : List Ev} {M : Mach} (hg : graphN g = some ns) (h : Hist g ns log log.length M) (now : Int) : (doneN g (ints ((List.range g.length).filter (doneP M now)))).isSome = true := by
 generalize hL : (List.range g.length).filter (doneP M now) = L
 have hm : ∀ i, i ∈ L ↔ i < g.length ∧ doneP M now i = true := fun i => by rw [← hL, List.mem_filter, List.mem_range]
 have hp : L.Pairwise (· < ·) := by rw [← hL]; exact List.pairwise_lt_range.filter _
 have hs : (setOfN (ints L) g.length).isSome = true := by rw [setOfN_isSome, ascB_ints hp, allInB_ints fun i hi => ((hm i).1 hi).1]; rfl
 obtain ⟨s, hs⟩ := Option.isSome_iff_exists.1 hs
 have hb : ∀ j, s.testBit j = true ↔ j ∈ L := fun j => by rw [setOfN_bits hs, decide_eq_true_eq, mem_intsN]
 have hc : closedN ns s = true := by
  unfold closedN
  rw [List.all_eq_true]
  intro i hi
  unfold needsIn
  rw [decide_eq_true_eq, diff_zero]
  intro q hq
  obtain ⟨i1, i2⟩ := (hm i).1 ((hb i).1 (elems_bit hi))
  unfold doneP at i2
  rw [Bool.and_eq_true, decide_eq_true_eq] at i2
  obtain ⟨q1, q2⟩ := h.ned i (h.sub i i2.1) q hq
  have q3 := (h.clt i i2.1).1
  refine (hb q).2 ((hm q).2 ⟨h.lt q (h.sub q q1), ?_⟩)
  unfold doneP
  rw [q1, decide_eq_true (show M.cl q ≤ now by omega)]
  rfl
 rw [graph_some_lt hg hs, if_pos hc]
 rfl
end Go.Proofs.YtpmfghbjkampkaaDoor
namespace Go.Proofs.YtpmfghbjkampkaaDoor.PFnValidLog
set_option linter.unusedVariables false
set_option linter.unusedSimpArgs false
open Go Go.RowKit Bits
open Go.Proofs.YtpmfghbjkampkaaDoorW.PrintWords Go.Proofs.YtpmfghbjkampkaaDoorW.PrintLast Go.Proofs.YtpmfghbjkampkaaDoorW.PrintMore
def DoneNow (log : List S30) (now : Int) : Prop := (∃ i : Nat, i < log.length ∧ ∃ d : Int, (d = 0 ∨ d = -1 ∨ d = 1) ∧ now = wrap64 ((rdEv log i).f0 + d)) ∨ (now = 0 ∨ now = 10 ∨ now = 300 ∨ now = -1)
theorem DrawDoneBy_j0 {b : List Int} (hb : ∀ x ∈ b, 0 ≤ x ∧ x < 256) (hl : b.length ≤ 2000) (g : List S41) (log : List S30) (c : Bool) (hc : c = true → 0 < log.length) (p : Int) (h0 : 0 ≤ p) (h1 : p ≤ 900000) :
  Gets (fun k => spec_DrawDoneBy.j0 k g log c b p) (fun q => q.1 = g ∧ q.2.1 = log ∧ DoneNow log q.2.2) := by
 refine Gets.step (fun k => by rw [spec_DrawDoneBy.j0]) ?_
 refine Gets.ite (fun h => ?_) (fun _ => ?_)
 ·
  have := hc h
  refine Gets.bind (pick_gets hb hl h0 (by omega)) fun r hr => ?_
  obtain ⟨r1, r2, r3, r4⟩ := hr
  have := r2 (by omega)
  refine Gets.pos r1 (Gets.pos this ?_)
  rw [r4]
  refine Gets.bind (one_gets hb hl (by omega) (by omega) (by simp)) fun s hs => Gets.ret ⟨rfl, rfl, .inl ⟨r.1.toNat, by omega, s.1, ?_, rfl⟩⟩
  have := hs.1
  simp only [List.mem_cons, List.not_mem_nil, or_false] at this
  exact this
 ·
  refine Gets.bind (one_gets hb hl h0 (by omega) (by simp)) fun s hs => Gets.ret ⟨rfl, rfl, .inr ?_⟩
  have := hs.1
  simp only [List.mem_cons, List.not_mem_nil, or_false] at this
  exact this
theorem DrawDoneBy_gets (l : List Int) (hb : ∀ x ∈ l, 0 ≤ x ∧ x < 256) : Gets (fun k => spec_DrawDoneBy.f k l) (fun q => q.2.1.length ≤ 4000 ∧ DoneNow q.2.1 q.2.2) := by
 obtain ⟨r, hr, hrl, hrm⟩ := newReader_some l
 have hb' : ∀ x ∈ r, 0 ≤ x ∧ x < 256 := fun x hx => hb x (hrm x hx)
 unfold spec_DrawDoneBy.f
 rw [hr]
 simp only [Option.bind_some]
 refine Gets.bind (anyGraph_gets hb' hrl 0 (by omega) (by omega)) fun g hg => ?_
 obtain ⟨g1, g2, g3⟩ := hg
 refine Gets.bind (anyLog_gets hb' hrl _ g2 (by omega) g.1 10 (by omega) (GOk_wide g1 (by omega) (Nat.le_refl _))) fun lg hlg => ?_
 obtain ⟨l1, l2, l3⟩ := hlg
 have key : ∀ (c : Bool) (p : Int), (c = true → 0 < lg.1.length) → 0 ≤ p → p ≤ 900000 → Gets (fun k => spec_DrawDoneBy.j0 k g.1 lg.1 c r p) (fun q => q.2.1.length ≤ 4000 ∧ DoneNow q.2.1 q.2.2) := fun c p hc h0 h1 =>
  (DrawDoneBy_j0 hb' hrl g.1 lg.1 c hc p h0 h1).mono fun q hq => by rw [hq.2.1]; exact ⟨l1, hq.2.2⟩
 refine Gets.ite (fun hpos => ?_) (fun _ => key _ _ (fun h => by cases h) l2 (by omega))
 refine Gets.bind (pick_gets hb' hrl l2 (by omega)) fun s hs => ?_
 obtain ⟨s1, s2, s3, s4⟩ := hs
 rw [s4]
 exact key _ _ (fun _ => by omega) (by omega) (by omega)
theorem same_l0 (a : List Int) (hl : a.length ≤ 1000000) : ∀ (n i : Nat), i + n = a.length → Gets (fun k => laws_equalInts.l0 k a a i) (fun r => r = true)
 | 0, i, h => by
  refine Gets.step (fun k => by rw [laws_equalInts.l0]) ?_
  exact Gets.neg (by omega) (Gets.ret rfl)
 | n + 1, i, h => by
  refine Gets.step (fun k => by rw [laws_equalInts.l0]) ?_
  have ih := same_l0 a hl n (i + 1) (by omega)
  have ec : ((i + 1 : Nat) : Int) = (i : Int) + 1 := by omega
  rw [ec] at ih
  rw [w64 (x := (i : Int) + 1) (by omega) (by omega)]
  exact Gets.pos (by omega) (Gets.pos (by omega) (Gets.pos (by omega) (Gets.pos rfl ih)))
theorem same_gets (a : List Int) (hl : a.length ≤ 1000000) : Gets (fun k => laws_equalInts.f k a a) (fun r => r = true) := by
 unfold laws_equalInts.f
 exact Gets.pos rfl (same_l0 a hl a.length 0 (by omega))
theorem isIn_l0 (a : List Int) (v : Int) (hl : a.length ≤ 1000000) : ∀ (n i : Nat), i + n = a.length → v ∈ a.drop i → Gets (fun k => laws_isIn.l0 k a v i) (fun r => r = true)
 | 0, i, h, hv => by
  rw [List.drop_eq_nil_of_le (by omega)] at hv
  cases hv
 | n + 1, i, h, hv => by
  refine Gets.step (fun k => by rw [laws_isIn.l0]) ?_
  have hi : i < a.length := by omega
  rw [List.drop_eq_getElem_cons hi] at hv
  have er : rd a (i : Int) = a[i] := by
   show a.getD i 0 = _
   rw [List.getD_eq_getElem?_getD, List.getElem?_eq_getElem hi]
   rfl
  refine Gets.pos (by omega) (Gets.pos (by omega) (Gets.ite (fun _ => Gets.ret rfl) (fun hne => ?_)))
  rw [er] at hne
  have ih := isIn_l0 a v hl n (i + 1) (by omega) ((List.mem_cons.1 hv).resolve_left fun e => hne e.symm)
  have ec : ((i + 1 : Nat) : Int) = (i : Int) + 1 := by omega
  rw [ec] at ih
  rw [w64 (x := (i : Int) + 1) (by omega) (by omega)]
  exact ih
theorem isIn_gets (a : List Int) (v : Int) (hl : a.length ≤ 1000000) (hv : v ∈ a) : Gets (fun k => laws_isIn.f k a v) (fun r => r = true) := isIn_l0 a v hl a.length 0 (by omega) hv
theorem hits_length (log : List S30) (t : Nat) (now : Int) : ∀ k, (hits log t now k).length ≤ k
 | 0 => Nat.le_refl _
 | k + 1 => by
  have ih := hits_length log t now k
  unfold hits
  split
  ·
   rw [List.length_append]
   simp only [List.length_cons, List.length_nil]
   omega
  ·
   omega
theorem doneS_length (log : List S30) (now : Int) : ∀ t, (doneS log now t).length ≤ t * log.length
 | 0 => by simp [doneS]
 | t + 1 => by
  have ih := doneS_length log now t
  have := hits_length log t now log.length
  unfold doneS
  rw [List.length_append, Nat.succ_mul]
  omega
theorem done_l1 (g : List S41) (log : List S30) (now : Int) (hl : log.length ≤ 4000) (t : Nat) (pre : List Int) (hp : pre.length ≤ 100000) {P : List Int → Prop}
  (hk : Gets (fun k => spec_DoneBy.l0 k g log now (pre ++ hits log t now log.length) (wrap64 ((t : Int) + 1))) P) : ∀ (n i : Nat), i + n = log.length → Gets (fun k => spec_DoneBy.l1 k g log now (pre ++ hits log t now i) t i) P
 | 0, i, h => by
  refine Gets.step (fun k => by rw [spec_DoneBy.l1]) ?_
  obtain rfl : i = log.length := by omega
  exact Gets.neg (by omega) hk
 | n + 1, i, h => by
  refine Gets.step (fun k => by rw [spec_DoneBy.l1]) ?_
  have hlen := hits_length log t now i
  have ih := done_l1 g log now hl t pre hp hk n (i + 1) (by omega)
  have ec : ((i + 1 : Nat) : Int) = (i : Int) + 1 := by omega
  have eh : hits log t now (i + 1) = if (rdEv log i).f1 = (t : Int) ∧ (rdEv log i).f2 = true ∧ (rdEv log i).f0 ≤ now then hits log t now i ++ [(t : Int)] else hits log t now i := rfl
  rw [ec, eh] at ih
  rw [w64 (x := (i : Int) + 1) (by omega) (by omega)]
  have e0 : rd_T30 log (i : Int) = rdEv log i := rfl
  rw [e0]
  refine Gets.pos (by omega) (Gets.pos (by omega) (Gets.ite (fun h1 => Gets.ite (fun h2 => Gets.ite (fun h3 => Gets.pos (by rw [List.length_append]; omega) ?_) (fun h3 => ?_)) (fun h2 => ?_)) (fun h1 => ?_)))
  ·
   rw [if_pos ⟨h1, h2, h3⟩] at ih
   rw [List.append_assoc]
   exact ih
  ·
   rw [if_neg (fun q => h3 q.2.2)] at ih
   exact ih
  ·
   rw [if_neg (fun q => h2 q.2.1)] at ih
   exact ih
  ·
   rw [if_neg (fun q => h1 q.1)] at ih
   exact ih
theorem done_l0 (g : List S41) (hg : g.length ≤ 8) (log : List S30) (now : Int) (hl : log.length ≤ 4000) : ∀ (n t : Nat), t + n = g.length → Gets (fun k => spec_DoneBy.l0 k g log now (doneS log now t) t) (fun r => r = doneS log now g.length)
 | 0, t, h => by
  refine Gets.step (fun k => by rw [spec_DoneBy.l0]) ?_
  obtain rfl : t = g.length := by omega
  exact Gets.neg (by omega) (Gets.ret rfl)
 | n + 1, t, h => by
  refine Gets.step (fun k => by rw [spec_DoneBy.l0]) ?_
  have ih := done_l0 g hg log now hl n (t + 1) (by omega)
  have hlen := doneS_length log now t
  have hm : t * log.length ≤ 8 * 4000 := Nat.mul_le_mul (by omega) hl
  have ec : ((t + 1 : Nat) : Int) = (t : Int) + 1 := by omega
  have h2 := done_l1 (P := fun r => r = doneS log now g.length) g log now hl t (doneS log now t) (by omega) (by rw [w64 (x := (t : Int) + 1) (by omega) (by omega), ← ec]; exact ih) log.length 0 (by omega)
  have h3 : doneS log now t ++ hits log t now 0 = doneS log now t := List.append_nil _
  rw [h3] at h2
  exact Gets.pos (by omega) h2
theorem validLog_time {g : List S41} {log : List S30} (h : validLogB g log = true) {k : Nat} (hk : k < log.length) : 0 ≤ (rdEv log k).f0 ∧ (rdEv log k).f0 ≤ 200 := by
 unfold validLogB at h
 simp only [Bool.and_eq_true, decide_eq_true_eq, List.all_eq_true, List.mem_range] at h
 have h1 := h.2 k hk
 rw [eventOk_eq, Bool.and_eq_true, Bool.and_eq_true] at h1
 exact inB_true.1 (evIn_num h1.1.1).1
theorem doneB_some {g : List S41} {log : List S30} {p : Mach × Int} (h : replayB g log = some p) (now : Int) : ∃ ns, graphN g = some ns ∧ g.length ≤ 8 ∧ Hist g ns log log.length p.1 ∧ doneB g log now = ints ((List.range g.length).filter (doneP p.1 now)) := by
 obtain ⟨ns, hns, hp, h8, ho, htm⟩ := replayB_facts h
 have hh := replay_hist (fun i => (htm i).1) _ p hp
 refine ⟨ns, hns, h8, hh, ?_⟩
 unfold doneB
 rw [h, ← doneL_range (by omega) (fun i hi => hh.lt i (hh.sub i hi))]
theorem done_gets (g : List S41) (log : List S30) (now : Int) (hl : log.length ≤ 4000) : Gets (fun k => spec_DoneBy.f k g log now) (fun r => r = doneB g log now) := by
 unfold spec_DoneBy.f
 refine Gets.bind (P := fun b => b = validLogB g log) (Gets.ret rfl) fun b hb => ?_
 rw [validLog_eq] at hb
 cases hr : replayB g log with
 | none =>
  rw [hr] at hb
  refine Gets.neg (by rw [hb]; simp) (Gets.ret ?_)
  unfold doneB
  rw [hr]
 | some p =>
  rw [hr] at hb
  obtain ⟨ns, hns, h8, hh, e⟩ := doneB_some hr now
  rw [e, ← doneS_eq hh]
  exact Gets.pos hb (done_l0 g h8 log now hl g.length 0 (by omega))
theorem doneB_length (g : List S41) (log : List S30) (now : Int) : (doneB g log now).length ≤ 16 := by
 unfold doneB
 split
 ·
  rename_i p _
  rw [ints_length]
  unfold doneL
  exact Nat.le_trans (List.length_filter_le _ _) (elems_length _)
 ·
  simp
theorem more_l0 (g : List S41) (log : List S30) (a b : List Int) (hal : a.length ≤ 16) (hbl : b.length ≤ 16) (hab : ∀ x ∈ a, x ∈ b) (hv : (doneN g a).isSome = true) (hz : doneB g log (-1) = []) :
  ∀ (n i : Nat), i + n = a.length → Gets (fun k => laws_FnDoneBy.l0 k g log a b i) (fun r => r = true)
 | 0, i, h => by
  refine Gets.step (fun k => by rw [laws_FnDoneBy.l0]) ?_
  refine Gets.neg (by omega) (Gets.bind (P := fun r => r = true) (Gets.ret hv) fun d hd => Gets.pos hd ?_)
  refine Gets.bind (P := fun r => r = doneB g log (-1)) (Gets.ret rfl) fun r hr => Gets.ret ?_
  rw [hr, hz]
  rfl
 | n + 1, i, h => by
  refine Gets.step (fun k => by rw [laws_FnDoneBy.l0]) ?_
  have hi : i < a.length := by omega
  have er : rd a (i : Int) = a[i] := by
   show a.getD i 0 = _
   rw [List.getD_eq_getElem?_getD, List.getElem?_eq_getElem hi]
   rfl
  have ih := more_l0 g log a b hal hbl hab hv hz n (i + 1) (by omega)
  have ec : ((i + 1 : Nat) : Int) = (i : Int) + 1 := by omega
  rw [ec] at ih
  rw [er, w64 (x := (i : Int) + 1) (by omega) (by omega)]
  exact Gets.pos (by omega) (Gets.pos (by omega) (Gets.bind (isIn_gets b _ (by omega) (hab _ (List.getElem_mem hi))) fun r hr => Gets.pos hr ih))
theorem FnDoneBy_true (l : List Int) (hb : ∀ x ∈ l, 0 ≤ x ∧ x < 256) : ∃ k, laws_FnDoneBy.f k l = some true := by
 have h : Gets (fun k => laws_FnDoneBy.f k l) (fun r => r = true) := by
  unfold laws_FnDoneBy.f
  refine Gets.ite (fun _ => Gets.ret rfl) (fun _ => ?_)
  refine Gets.bind (DrawDoneBy_gets l hb) fun q hq => ?_
  obtain ⟨g, log, now⟩ := q
  obtain ⟨hl, hnow⟩ := hq
  have hl : log.length ≤ 4000 := hl
  have hnow : DoneNow log now := hnow
  have hlen := doneB_length g log now
  refine Gets.bind (P := fun r => r = doneB g log now) (Gets.ret rfl) fun out hout => ?_
  refine Gets.bind (done_gets g log now hl) fun want hwant => ?_
  rw [hout, hwant]
  refine Gets.bind (same_gets _ (by omega)) fun r hr => Gets.pos hr ?_
  refine Gets.bind (P := fun r => r = (replayB g log).isSome) (Gets.ret rfl) fun v hv => ?_
  refine Gets.step (fun k => by rw [laws_FnDoneBy.j0]) ?_
  cases hrp : replayB g log with
  | none =>
   rw [hrp] at hv
   refine Gets.pos (by rw [hv]; rfl) (Gets.bind (done_gets g log now hl) fun want hwant => ?_)
   rw [hwant]
   exact Gets.bind (same_gets _ (by omega)) fun r hr => Gets.ret hr
  | some p =>
   rw [hrp] at hv
   refine Gets.neg (by rw [hv]; simp) ?_
   have hval : validLogB g log = true := by rw [validLog_eq, hrp]; rfl
   have hn : -1 ≤ now ∧ now ≤ 300 := by
    rcases hnow with ⟨i, hi, d, hd, e⟩ | e
    ·
     have he := validLog_time hval hi
     rw [w64 (by omega) (by omega)] at e
     omega
    ·
     omega
   obtain ⟨ns, hns, h8, hh, e1⟩ := doneB_some hrp now
   obtain ⟨_, _, _, _, e2⟩ := doneB_some hrp (now + 1)
   obtain ⟨_, _, _, _, e3⟩ := doneB_some hrp (-1)
   rw [w64 (x := now + 1) (by omega) (by omega)]
   refine Gets.bind (P := fun r => r = doneB g log (now + 1)) (Gets.ret rfl) fun more hmore => ?_
   rw [hmore]
   refine more_l0 g log _ _ hlen (doneB_length g log _) (fun x hx => ?_) (by rw [e1]; exact doneN_ok hns hh now) ?_ (doneB g log now).length 0 (by omega)
   ·
    rw [e1] at hx
    rw [e2]
    unfold ints at hx ⊢
    obtain ⟨i, hi, rfl⟩ := List.mem_map.1 hx
    obtain ⟨i1, i2⟩ := List.mem_filter.1 hi
    refine List.mem_map.2 ⟨i, List.mem_filter.2 ⟨i1, ?_⟩, rfl⟩
    unfold doneP at i2 ⊢
    rw [Bool.and_eq_true, decide_eq_true_eq] at i2 ⊢
    exact ⟨i2.1, by omega⟩
   ·
    rw [e3, List.filter_eq_nil_iff.2]
    ·
     rfl
    ·
     intro i _ hi
     unfold doneP at hi
     rw [Bool.and_eq_true, decide_eq_true_eq] at hi
     have h1 := hh.clt i hi.1
     have h2 := hh.tim i (hh.sub i hi.1)
     omega
 obtain ⟨k, r, hr, e⟩ := h.at
 exact ⟨k, by rw [← hr]; exact e⟩
end Go.Proofs.YtpmfghbjkampkaaDoor.PFnValidLog
set_option linter.unusedVariables false
set_option linter.unusedSimpArgs false
namespace Go.Proofs.YtpmfghbjkampkaaDoor.fnDoneBy
open Go.ChangeShapes Go.WideShapes Go.ChangeAt Go.RowKit
open Go.Proofs.YtpmfghbjkampkaaDoorW.PrintWords
def IsRow (k : IntKind) (w : World) (a : Option Addr) (len cap : Nat) (zs : List Int) : Prop :=
 (a = none ∧ len = 0 ∧ cap = 0 ∧ zs = []) ∨
 ∃ x, a = some x ∧ len ≤ cap ∧ cap ≤ maxLen ∧ zs.length = cap ∧ (∀ i, i < zs.length → w.cell? (x.add i) = some (.int k (zs.getD i 0))) ∧ ∀ n ∈ zs, (Lit.int k n).wf = true
theorem walk (a0 : Option Addr) (len0 cap0 : Nat) (z0 : List Int) (w : World) (hT : Tab w) (w0 : IsRow .u8 w a0 len0 cap0 z0) :
  Calls Tryd.prog 6 #[.slice a0 len0 cap0] w fun e w' => e = .returned (.bool true) ∧ Below w.heap.size w w' := by
 obtain ⟨l0, rfl, hr0, hm0, hw0, hc0⟩ := ReadsInt.ofRowC w0
 obtain ⟨k, h⟩ := PFnValidLog.FnDoneBy_true l0 (fun x hx => by
  have := hw0 x hx
  simp [Lit.wf, IntKind.min, IntKind.max, IntKind.signed, IntKind.bits] at this
  omega)
 exact PFnValidLog.laws_FnDoneBy.calls k _ _ l0 true w hT (Kd.C_of_reads (d := (0 : Int)) (h1 := fun _ => rfl) hr0) hc0 h
set_option maxRecDepth 100000 in
theorem lifted (os : Os) (started : os.Started) (H : Type) (enc : TypeId × Value → H) :
  ReturnsInHanded {} Tryd.checked os 6 .any (fun w args => (Rows.fnDoneBySpec.pre enc Tryd.prog Tryd.f6 [] false w args ∧ laidMetH Tryd.prog Rows.fnDoneByRow.laid w) ∧ sizedMet enc Tryd.prog Tryd.f6 (OpenSpec.ofChange Rows.fnDoneBySpec) false w args)
   (Rows.fnDoneBySpec.post enc Tryd.prog Tryd.f6 false true false false) := by
 refine returnsInHanded_of_change_and (C := Tryd.checked) (X := fun w _ => laidMetH Tryd.prog Rows.fnDoneByRow.laid w) (fun _ _ _ hh h => h.of_heap hh) own started (by kernel_rfl) Tryd.func6
  (ChangeSpec.witness_at (enc := enc) (C := Tryd.checked) (os := os) (X := fun w _ => laidMetH Tryd.prog Rows.fnDoneByRow.laid w) false (laidWorld os) #[.slice none 0 0] 8 rfl (by kernel_rfl) (by kernel_rfl) (by kernel_rfl) (by kernel_rfl) (by kernel_rfl) (laid_met os _)) ?_
 intro W base args ds gs before hval0 hW hcnd _ hL _
 have hT : Tab W := tab_of_laid hL
 have hval : ∀ (j : Nat) t v, Tryd.f6.params[j]? = some t → args[j]? = some v → Value.okWide Tryd.prog W .any base t v := hval0
 have hW' := hW
 obtain ⟨p, q, hA0, hV, rfl, hfz, hnd⟩ := hW
 have hA : DataW.TrodAll enc Tryd.prog W 0 (fun _ => true) true Tryd.f6.params.toList args.toList ds p := hA0
 rw [Tryd.params6] at hA hval
 obtain ⟨v0, vs0, d0, ds0, p0, q0, hargs, rfl, rfl, h0, r0⟩ := trodAll_cons hA
 obtain ⟨rfl, rfl, rfl⟩ := trodAll_nil r0
 obtain rfl : args = #[v0] := by cases args; simp_all
 obtain ⟨rfl, rfl⟩ := trodVars_none hV
 obtain ⟨a0, len0, cap0, rfl⟩ := okWide_slice Tryd.underlying35 (hval 0 35 v0 rfl rfl)
 have k0 := h0
 have lt0 : ∀ x ∈ p0, x.block < W.heap.size := by obtain ⟨m, hm⟩ := k0; exact DataW.trod_lt m _ _ _ hm
 obtain ⟨z0, w0⟩ : ∃ zs, IsRow .u8 W a0 len0 cap0 zs := by
  obtain ⟨fuel, hf⟩ := h0
  rcases open_ints Tryd.underlying35 Tryd.underlying5 (by kernel_rfl) hf with ⟨hcs, _⟩ | ⟨x, l, c, zs, hcs, _, hl, hm, hz, _, hcell, hwz⟩
  ·
   simp [Value.cells] at hcs
   obtain ⟨rfl, rfl, rfl⟩ := hcs
   exact ⟨[], .inl ⟨rfl, rfl, rfl, rfl⟩⟩
  ·
   simp [Value.cells] at hcs
   obtain ⟨rfl, rfl, rfl⟩ := hcs
   exact ⟨zs, .inr ⟨_, rfl, hl, hm, by simpa using hz, hcell, hwz⟩⟩
 clear hA0 hval0
 refine (walk a0 len0 cap0 z0 W hT w0).mono fun e W' ⟨he, bel⟩ => ?_
 subst he
 exact ⟨_, rfl, _, _, _, [], _, [], hW', trodAll_mk1 (shut_bool Tryd.underlying4 _), (trodAll_cons_mk (Below.trod laidOut (by kernel_rfl) (of_decide_eq_true (by kernel_rfl)) k0 bel lt0) trodAll_mk0), rfl, bel.frame _, fun h => by cases h⟩
theorem row : Rows.FnDoneBySaid :=
 OpenClaim.holds_of_wide 6 Tryd.f6 rfl rfl rfl rfl rfl rfl rfl ⟨rfl, rfl, rfl, rfl, rfl⟩ rfl rfl rfl rfl rfl (by kernel_rfl) Tryd.func6 (by kernel_rfl)
  (of_decide_eq_true (by kernel_rfl)) (by unfold Func.isWrapper; first | (rw [if_pos (by decide +kernel)]; kernel_rfl) | (rw [if_neg (by decide +kernel)]; exact ⟨rfl, rfl⟩))
  (fun os started H enc _ => lifted os started H enc)
end Go.Proofs.YtpmfghbjkampkaaDoor.fnDoneBy
namespace Go.Proofs.YtpmfghbjkampkaaDoor
theorem fnDoneBy_card_holds : Rows.FnDoneByCardSaid :=
 Claim7.holds_tied_plain_at .later [] [.data] true (true, "9627d39cf004ce2ddc2025a53aa459164e0b7894b5fa9f4f19b15777cdfb39e0") true
  fnDoneBy.row (fun _ h => by cases h) (by kernel_rfl) (fun _ h => by cases h) fnDoneBy_row_tie rfl ⟨rfl, rfl⟩ (by kernel_rfl) rfl
  (fun f fn hf hfn => by
   obtain rfl : f = 6 := Option.some.inj ((show Tryd.prog.funcNamed "loop.example/buildscheduler/laws.FnDoneBy" = some 6 by kernel_rfl).symm.trans hf) |>.symm
   obtain rfl : fn = Tryd.f6 := (Option.some.inj (Tryd.func6.symm.trans hfn)).symm
   exact ⟨by kernel_rfl, fun j t ht => by
    rw [Tryd.params6] at ht
    have h3 : t = 35 := by
     rcases j with _ | j
     ·
      simpa using ht.symm
     ·
      simp at ht
    subst h3
    exact (show Tryd.prog.wantsStandIn 35 = false by kernel_rfl)⟩)
  (by kernel_rfl)
#print axioms fnDoneBy_card_holds
end Go.Proofs.YtpmfghbjkampkaaDoor
