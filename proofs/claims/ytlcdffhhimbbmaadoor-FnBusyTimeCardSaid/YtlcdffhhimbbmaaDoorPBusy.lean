/- The plain law of FnBusyTime: the printed body answers true. -/
import Derived.Test.YtlcdffhhimbbmaaDoorPBusy0
import Derived.Test.YtlcdffhhimbbmaaDoorBFnBusyTime
namespace Go.Proofs.YtlcdffhhimbbmaaDoor
set_option linter.unusedVariables false
set_option linter.unusedSimpArgs false
open Go.RowKit Go.Shelf Bits
theorem replay_cl {g : List Tk} {ns : List Nat} {log : List Ev} : ∀ (k : Nat) (p : Mach × Int), replayN g ns log k = some p → ∀ i, p.1.cl i ≤ 200
  | 0, p, h, i => by
    obtain rfl : (Mach.zero, (0 : Int)) = p := Option.some.inj h
    show (0 : Int) ≤ 200
    omega
  | k + 1, p, h, i => by
    unfold replayN at h
    obtain ⟨q, hq, h⟩ := Option.bind_eq_some_iff.1 h
    have ih := replay_cl k q hq i
    split at h
    · cases h
    · obtain ⟨M', hM, rfl⟩ := Option.map_eq_some_iff.1 h
      obtain ⟨hin, hst⟩ := stepM_some hM
      obtain ⟨h0, _, _⟩ := evIn_num hin
      rcases hst with ⟨h2, hm, rfl⟩ | ⟨h2, hm, rfl⟩
      · exact ih
      · show (if i = (rdEv log k).i then (rdEv log k).f0 else q.1.cl i) ≤ 200
        unfold inB at h0
        simp only [Bool.and_eq_true, decide_eq_true_eq] at h0
        split
        · exact h0.2
        · exact ih
theorem doneB_all {g : List Tk} {log : List Ev} {p : Mach × Int} (h : replayB g log = some p) : doneB g log 200 = ints (elems p.1.o) := by
  obtain ⟨ns, _, hp, _⟩ := replayB_facts h
  unfold doneB doneL
  rw [h]
  show ints (List.filter _ _) = _
  rw [List.filter_eq_self.2 (fun i _ => decide_eq_true (replay_cl _ p hp i))]
theorem sb_le (g : List Tk) {s m : Nat} (htm : ∀ i, 0 ≤ (rdTk g i).f0) (h : ∀ i, s.testBit i = true → i < m) : ∀ n, sb g n s ≤ sumT g (List.range (min n m))
  | 0 => by
    rw [Nat.zero_min]
    exact Int.le_refl _
  | n + 1 => by
    have ih := sb_le g htm h n
    unfold sb
    by_cases hn : n < m
    · rw [Nat.min_eq_left (by omega : n ≤ m)] at ih
      rw [Nat.min_eq_left (by omega : n + 1 ≤ m), List.range_succ, sumT_snoc]
      have := htm n
      split <;> omega
    · rw [Nat.min_eq_right (by omega : m ≤ n)] at ih
      rw [Nat.min_eq_right (by omega : m ≤ n + 1), if_neg (fun hb => hn (h n hb))]
      omega
end Go.Proofs.YtlcdffhhimbbmaaDoor
namespace Go.Proofs.YtlcdffhhimbbmaaDoor.PFnValidLog
open Go Go.RowKit Bits
open Go.Proofs.YtlcdffhhimbbmaaDoorW.PrintWords Go.Proofs.YtlcdffhhimbbmaaDoorW.PrintLast Go.Proofs.YtlcdffhhimbbmaaDoorW.PrintMore

theorem busy_l0 (g : List S41) (log : List S30) (hv : validLogB g log = true) (hl : log.length ≤ 4000) : ∀ (n i : Nat), i + n = log.length → Gets (fun k => spec_BusyTime.l0 k g log (busyS g log i) i) (fun r => r = busyS g log log.length)
  | 0, i, h => by
    refine Gets.step (fun k => by rw [spec_BusyTime.l0]) ?_
    refine Gets.neg (by omega) (Gets.ret ?_)
    rw [show i = log.length by omega]
  | n + 1, i, h => by
    refine Gets.step (fun k => by rw [spec_BusyTime.l0]) ?_
    have hb := busyS_bound hv i (by omega)
    have he := validLog_event hv (show i < log.length by omega)
    have ih := busy_l0 g log hv hl n (i + 1) (by omega)
    have ec : ((i + 1 : Nat) : Int) = (i : Int) + 1 := by omega
    rw [ec, busyS_succ] at ih
    rw [w64 (x := (i : Int) + 1) (by omega) (by omega)]
    have e0 : rd_T30 log (i : Int) = rdEv log i := rfl
    have e1 : rd_T41 g (rdEv log i).f1 = rdTk g (rdEv log i).f1.toNat := rfl
    rw [e0, e1, w64 (x := busyS g log i + (rdTk g (rdEv log i).f1.toNat).f0) (by omega) (by omega)]
    refine Gets.pos (by omega) (Gets.pos (by omega) (Gets.ite (fun hov => Gets.pos he.1 (Gets.pos he.2.1 ?_)) (fun hov => ?_)))
    · rw [if_pos hov] at ih
      exact ih
    · rw [if_neg hov] at ih
      exact ih
theorem busy_gets (g : List S41) (log : List S30) (hl : log.length ≤ 4000) : Gets (fun k => spec_BusyTime.f k g log) (fun r => r = busyB g log) := by
  unfold spec_BusyTime.f
  refine Gets.bind (P := fun b => b = validLogB g log) (Gets.ret rfl) fun b hb => ?_
  rw [busyB_eq, ← hb]
  refine Gets.ite (fun h => ?_) (fun h => Gets.ret (by rw [if_neg h]))
  rw [if_pos h]
  exact busy_l0 g log (by rw [← hb]; exact h) hl log.length 0 (by omega)
theorem allTime_l0 (g : List S41) (h8 : g.length ≤ 8) (htm : ∀ i, 0 ≤ (rdTk g i).f0 ∧ (rdTk g i).f0 ≤ 20) : ∀ (n i : Nat), i + n = g.length → Gets (fun k => laws_allTime.l0 k g (sumT g (List.range i)) i) (fun r => r = sumT g (List.range g.length))
  | 0, i, h => by
    refine Gets.step (fun k => by rw [laws_allTime.l0]) ?_
    refine Gets.neg (by omega) (Gets.ret ?_)
    rw [show i = g.length by omega]
  | n + 1, i, h => by
    refine Gets.step (fun k => by rw [laws_allTime.l0]) ?_
    have hb := sumT_bound htm (List.range i)
    rw [List.length_range] at hb
    have ht := htm i
    have ih := allTime_l0 g h8 htm n (i + 1) (by omega)
    have ec : ((i + 1 : Nat) : Int) = (i : Int) + 1 := by omega
    rw [ec, List.range_succ, sumT_snoc] at ih
    have e1 : rd_T41 g (i : Int) = rdTk g i := rfl
    rw [e1, w64 (x := (i : Int) + 1) (by omega) (by omega), w64 (by omega) (by omega)]
    exact Gets.pos (by omega) (Gets.pos (by omega) ih)
/-- The law's loop over the tasks that are done. -/
theorem done_l0 (g : List S41) (h8 : g.length ≤ 8) (htm : ∀ i, 0 ≤ (rdTk g i).f0 ∧ (rdTk g i).f0 ≤ 20) (D : List Nat) (hD : ∀ i ∈ D, i < g.length) (hDl : D.length ≤ 16) (hle : sumT g D ≤ sumT g (List.range g.length)) :
    ∀ (n i : Nat), i + n = D.length → Gets (fun k => laws_FnBusyTime.l0 k g (sumT g D) (ints D) (sumT g (D.take i)) i) (fun r => r = true)
  | 0, i, h => by
    refine Gets.step (fun k => by rw [laws_FnBusyTime.l0]) ?_
    refine Gets.neg (by rw [ints_length]; omega) (Gets.pos (by rw [List.take_of_length_le (by omega)]) ?_)
    refine Gets.bind (allTime_l0 g h8 htm g.length 0 (by omega)) fun t ht => Gets.ret ?_
    rw [ht]
    exact decide_eq_true hle
  | n + 1, i, h => by
    refine Gets.step (fun k => by rw [laws_FnBusyTime.l0]) ?_
    have hi : i < D.length := by omega
    have hx := hD _ (List.getElem_mem hi)
    have er : rd (ints D) (i : Int) = ((D[i] : Nat) : Int) := by
      show (ints D).getD i 0 = _
      rw [ints_getD, List.getD_eq_getElem?_getD, List.getElem?_eq_getElem hi]
      rfl
    have ih := done_l0 g h8 htm D hD hDl hle n (i + 1) (by omega)
    have hs : sumT g (D.take (i + 1)) = sumT g (D.take i) + (rdTk g D[i]).f0 := by rw [List.take_succ_eq_append_getElem hi, sumT_snoc]
    have hb := sumT_bound htm (D.take i)
    have hbl : (D.take i).length ≤ 16 := by rw [List.length_take]; omega
    have ht := htm D[i]
    have ec : ((i + 1 : Nat) : Int) = (i : Int) + 1 := by omega
    rw [ec, hs] at ih
    have e1 : rd_T41 g ((D[i] : Nat) : Int) = rdTk g D[i] := rfl
    rw [er, e1, w64 (x := (i : Int) + 1) (by omega) (by omega), w64 (x := sumT g (D.take i) + (rdTk g D[i]).f0) (by omega) (by omega)]
    exact Gets.pos (by rw [ints_length]; omega) (Gets.pos (by omega) (Gets.neg (by omega) (Gets.neg (by omega) (Gets.pos (by omega) (Gets.pos (by omega) ih)))))
theorem FnBusyTime_true (l : List Int) (hb : ∀ x ∈ l, 0 ≤ x ∧ x < 256) : ∃ k, laws_FnBusyTime.f k l = some true := by
  have h : Gets (fun k => laws_FnBusyTime.f k l) (fun r => r = true) := by
    unfold laws_FnBusyTime.f
    refine Gets.ite (fun _ => Gets.ret rfl) (fun _ => ?_)
    refine Gets.bind (P := fun q => q.2.length ≤ 4000) ?_ fun q hq => ?_
    · unfold spec_DrawBusyTime.f
      exact Gets.bind (DrawValidLog_gets l hb) fun q hq => Gets.ret hq.2
    refine Gets.bind (P := fun r => r = busyB q.1 q.2) (Gets.ret rfl) fun n hn => ?_
    refine Gets.bind (busy_gets q.1 q.2 hq) fun m hm => ?_
    refine Gets.pos (by rw [hn, hm]) ?_
    refine Gets.step (fun k => by rw [laws_FnBusyTime.j0]) (Gets.ite (fun _ => ?_) (fun hneg => ?_))
    · refine Gets.bind (busy_gets q.1 q.2 hq) fun m hm => Gets.ret ?_
      rw [hn, hm]
      simp
    · refine Gets.bind (P := fun r => r = doneB q.1 q.2 200) (Gets.ret rfl) fun d hd => ?_
      have hn0 : 0 ≤ n := by simpa using hneg
      cases hr : replayB q.1 q.2 with
      | none =>
        unfold busyB at hn
        rw [hr] at hn
        simp only at hn
        omega
      | some p =>
        obtain ⟨ns, hns, hp, h8, ho, htm⟩ := replayB_facts hr
        have hnn : n = sumT q.1 (elems p.1.o) := by rw [hn]; unfold busyB; rw [hr]
        rw [hd, doneB_all hr, hnn]
        have hlt : ∀ i ∈ elems p.1.o, i < q.1.length := fun i hi => elems_below ho hi
        refine done_l0 q.1 h8 htm (elems p.1.o) hlt (elems_length _) ?_ (elems p.1.o).length 0 (by omega)
        rw [sumT_sb]
        have := sb_le q.1 (s := p.1.o) (m := q.1.length) (fun i => (htm i).1) (fun i hi => (replay_kept h8 _ p hp).lt i ((replay_kept h8 _ p hp).sub i hi)) 16
        rwa [Nat.min_eq_right (by omega)] at this
  obtain ⟨k, r, hr, e⟩ := h.at
  exact ⟨k, by rw [← hr]; exact e⟩
end Go.Proofs.YtlcdffhhimbbmaaDoor.PFnValidLog
