/- Parts of the proof, laid as one text by a program of mine. -/
import Derived.Test.YtlapphhcficbjaaGreatDoorKic22
import Derived.Test.YtlapphhcficbjaaGreatDoorKic17
import Derived.Test.YtlapphhcficbjaaGreatDoorKic20
import Derived.Test.YtlapphhcficbjaaGreatDoorKic16
import Derived.Test.YtlapphhcficbjaaGreatDoorKic15
namespace Go.Proofs.YtlapphhcficbjaaGreatDoor
set_option linter.unusedVariables false
set_option linter.unusedSimpArgs false
open Go.RowKit Go.Shelf Bits
open Go.Proofs.YtlapphhcficbjaaGreatDoorW.PrintWords Go.Proofs.YtlapphhcficbjaaGreatDoorW.PrintLast Go.Proofs.YtlapphhcficbjaaGreatDoorW.PrintMore
attribute [local go_sem] Oper.semAt_some
theorem mostB_is {g : List Tk} {log : List Ev} (hv : validLogB g log = true) : mostB g log = mostN log log.length := by
 have hs := hv
 rw [validLog_eq] at hs
 obtain ⟨p, hp⟩ := Option.isSome_iff_exists.1 hs
 unfold mostB
 rw [hp]
 obtain ⟨ns, hg, hr, h8, _⟩ := replayB_facts hp
 exact (replay_kept h8 _ p hr).mst
theorem mostB_no {g : List Tk} {log : List Ev} (hv : validLogB g log = false) : mostB g log = -1 := by
 rw [validLog_eq] at hv
 unfold mostB
 cases h : replayB g log with
 | none => rfl
 | some p => rw [h] at hv; cases hv
theorem validLog_len {g : List Tk} {log : List Ev} (hv : validLogB g log = true) : log.length ≤ 16 := by
 unfold validLogB at hv
 simp only [Bool.and_eq_true, decide_eq_true_iff] at hv
 omega
set_option maxRecDepth 100000 in
set_option maxHeartbeats 4000000 in
theorem sMostTogether_calls (A : Option Addr) (c : Nat) (g : List Tk) (A' : Option Addr) (c' : Nat) (log : List Ev) (w : World) (hr : kTk.C w A g.length g) (hr' : kEv.C w A' log.length log) :
  Calls Tryz.prog 19 #[.slice A g.length c, .slice A' log.length c'] w fun e w' => e = .returned (.int .i64 (mostB g log)) ∧ Below w.heap.size w w' := by
 have HVL := Lib.hid (validLog_calls A c g A' c' log w hr hr')
 cases hv : validLogB g log with
 | false =>
  have HF : Hid (mostB g log = -1) := Lib.hid (mostB_no hv)
  rw [hv] at HVL
  clear hr hr' hv
  go_enter Tryz.func19, Tryz.ntmps19
  go_wp2_with (go_at_call 47; refine HVL.out.mono ?_; rintro e w1 ⟨rfl, hB1⟩)
  go_ret
  exact ⟨ret_int HF.out.symm, hB1⟩
 | true =>
  have HF : Hid (mostB g log = mostN log log.length) := Lib.hid (mostB_is hv)
  have h16 := validLog_len hv
  rw [hv] at HVL
  have HR := Lib.hid hr'
  clear hr hr' hv
  go_enter Tryz.func19, Tryz.ntmps19
  go_wp2_with (go_at_call 47; refine HVL.out.mono ?_; rintro e w1 ⟨rfl, hB1⟩; have HB1 := Lib.hid hB1; clear hB1)
  go_loopw [5, 6, 7] (fun m n i wr => ∃ j : Nat, j ≤ log.length ∧ i = .int .i64 (j : Nat) ∧ m = .int .i64 (mostN log j) ∧ n = .int .i64 (sumN log j) ∧ Below w.heap.size w wr) (fun _ _ i _ => log.length - (intOf i).toNat)
  case atStart => exact ⟨0, Nat.zero_le _, rfl, rfl, rfl, HB1.out⟩
  case round =>
   clear HB1
   obtain ⟨j, hj, rfl, rfl, rfl, hB⟩ := hrel
   by_cases hjl : j < log.length
   ·
    have hjj : decide ((j : Int) < (log.length : Int)) = true := decide_eq_true (by omega)
    have hji : (j : Int) < (log.length : Int) := by omega
    obtain ⟨ad, rfl, y0, y1, y2⟩ := at_Ev (Kd.C_below HR.out hB) j hjl
    have hsb := sumN_bound log j
    have hsb2 := sumN_bound log (j + 1)
    have HS : Hid (sumN log (j + 1) = sumN log j + 1 - 2 * (if (rdEv log j).f2 = true then 1 else 0)) := Lib.hid rfl
    have HM : Hid (mostN log (j + 1) = if lastOf log j then max (mostN log j) (sumN log (j + 1)) else mostN log j) := Lib.hid rfl
    have HLO : Hid (lastOf log j = (decide (j + 1 = log.length) || decide ((rdEv log (j + 1)).f0 > (rdEv log j).f0))) := Lib.hid rfl
    obtain ⟨s1, hs1⟩ : ∃ s1, s1 = sumN log (j + 1) := ⟨_, rfl⟩
    rw [← hs1] at HS HM hsb2
    have hs1v : s1 = sumN log j + 1 - 2 * (if (rdEv log j).f2 = true then 1 else 0) := HS.out
    have HS1 := Lib.hid hs1
    generalize mostN log j = m0 at HM ⊢
    generalize sumN log j = s0 at hsb hs1v ⊢
    have hw1 : IntKind.i64.wrap (s0 + 1) = s0 + 1 := IntWalk.i64_in _ (by omega)
    have hwj : IntKind.i64.wrap ((j : Int) + 1) = (j : Int) + 1 := IntWalk.i64_in _ (by clear hw1; omega)
    generalize hz : (rdEv log j).f2 = z at y2 hs1v
    have hwz : IntKind.i64.wrap (s0 + 1 - 2 * (if z = true then 1 else 0)) = s1 := by rw [← hs1v]; exact IntWalk.i64_in _ (by clear hw1 hwj; omega)
    have hwt : IntKind.i64.wrap (s0 + 1 - 2) = s0 + 1 - 2 := IntWalk.i64_in _ (by clear hw1 hwj hwz; omega)
    have HB := Lib.hid hB
    clear hs1 hz
    by_cases hl : j + 1 = log.length
    ·
     have dl : (((j : Int) + 1) == (log.length : Int)) = true := by rw [beq_iff_eq]; omega
     have HMM : Hid (mostN log (j + 1) = max m0 s1) := Lib.hid (by rw [HM.out, HLO.out, decide_eq_true hl]; rfl)
     clear hl hB hsb hsb2
     cases z
     all_goals
      simp only [Bool.false_eq_true, if_false, if_true] at hwz hs1v
      go_wp2
      go_quiet (fail)
      go_wp2
      clear hw1 hwj hwz hwt
      all_goals
       go_roundw
       case rel => exact ⟨j + 1, by omega, by go_num, by rw [HMM.out, hs1v] <;> (congr 1 <;> first | omega | (split <;> omega)), by rw [← HS1.out, hs1v] <;> (congr 1 <;> omega), by repeat (first | exact HB.out | apply pw_below_drewN)⟩
       case measure => simp [intOf]; omega
    ·
     have dl : (((j : Int) + 1) == (log.length : Int)) = false := by rw [beq_eq_false_iff_ne]; omega
     have hj1 : j + 1 < log.length := by omega
     have hj1i : (j : Int) + 1 < (log.length : Int) := by omega
     obtain ⟨ad2, e2, z0, _, _⟩ := at_Ev (Kd.C_below HR.out hB) (j + 1) hj1
     cases e2
     generalize (rdEv log (j + 1)).f0 = t1 at z0 HLO
     generalize (rdEv log j).f0 = t0 at y0 HLO
     have hfalse : decide (j + 1 = log.length) = false := decide_eq_false hl
     clear hl hB hsb hsb2
     by_cases hlt : t0 < t1
     ·
      have d1 : decide (t0 < t1) = true := decide_eq_true hlt
      have HMM : Hid (mostN log (j + 1) = max m0 s1) := Lib.hid (by rw [HM.out, HLO.out, hfalse, decide_eq_true (show t1 > t0 from hlt)]; rfl)
      clear hlt hfalse
      cases z
      all_goals
       simp only [Bool.false_eq_true, if_false, if_true] at hwz hs1v
       go_wp2
       go_quiet (fail)
       go_wp2
       clear hw1 hwj hwz hwt
       all_goals
        go_roundw
        case rel => exact ⟨j + 1, by omega, by go_num, by rw [HMM.out, hs1v] <;> (congr 1 <;> first | omega | (split <;> omega)), by rw [← HS1.out, hs1v] <;> (congr 1 <;> omega), by repeat (first | exact HB.out | apply pw_below_drewN)⟩
        case measure => simp [intOf]; omega
     ·
      have d1 : decide (t0 < t1) = false := decide_eq_false hlt
      have HMM : Hid (mostN log (j + 1) = m0) := Lib.hid (by rw [HM.out, HLO.out, hfalse, decide_eq_false (show ¬ t1 > t0 from hlt)]; rfl)
      clear hlt hfalse
      cases z
      all_goals
       simp only [Bool.false_eq_true, if_false, if_true] at hwz hs1v
       go_wp2
       go_quiet (fail)
       go_wp2
       clear hw1 hwj hwz hwt
       all_goals
        go_roundw
        case rel => exact ⟨j + 1, by omega, by go_num, by rw [HMM.out], by rw [← HS1.out, hs1v] <;> (congr 1 <;> omega), by repeat (first | exact HB.out | apply pw_below_drewN)⟩
        case measure => simp [intOf]; omega
   ·
    have hje : j = log.length := by omega
    have hjj : decide ((j : Int) < (log.length : Int)) = false := decide_eq_false (by omega)
    rw [hje] at *
    rw [← HF.out]
    go_wp2
    go_ret
    exact ⟨rfl, hB⟩
end Go.Proofs.YtlapphhcficbjaaGreatDoor

namespace Go.Proofs.YtlapphhcficbjaaGreatDoor
set_option linter.unusedVariables false
set_option linter.unusedSimpArgs false
open Go.RowKit Go.Shelf Bits
theorem begunL_is {t v : Int} : ∀ (l : List Ev) (b : Int), (∀ e ∈ l, e.f2 = false → e.f1 = t → e.f0 = v) → begunL t l b = if (∃ e ∈ l, e.f2 = false ∧ e.f1 = t) then v else b
 | [], b, _ => by simp [begunL]
 | e :: r, b, h => by
  have ih := begunL_is (t := t) (v := v) r (if e.f2 then b else if e.f1 = t then e.f0 else b) (fun x hx => h x (List.mem_cons_of_mem _ hx))
  unfold begunL
  rw [ih]
  by_cases h1 : ∃ x ∈ r, x.f2 = false ∧ x.f1 = t
  ·
   rw [if_pos h1, if_pos]
   obtain ⟨x, hx, h2⟩ := h1
   exact ⟨x, List.mem_cons_of_mem _ hx, h2⟩
  ·
   rw [if_neg h1]
   by_cases h2 : e.f2 = false ∧ e.f1 = t
   ·
    have hex : ∃ x ∈ e :: r, x.f2 = false ∧ x.f1 = t := ⟨e, List.mem_cons_self, h2⟩
    rw [if_neg (show ¬ e.f2 = true by rw [h2.1]; simp), if_pos h2.2, if_pos hex]
    exact h e List.mem_cons_self h2.1 h2.2
   ·
    have hno : ¬ ∃ x ∈ e :: r, x.f2 = false ∧ x.f1 = t := by
     rintro ⟨x, hx, h4⟩
     rcases List.mem_cons.1 hx with rfl | hx
     ·
      exact h2 h4
     ·
      exact h1 ⟨x, hx, h4⟩
    by_cases h3 : e.f2 = true
    ·
     rw [if_pos h3, if_neg hno]
    ·
     rw [if_neg h3, if_neg (fun h4 => h2 ⟨by simpa using h3, h4⟩), if_neg hno]
theorem mem_overL {l : List Ev} {t : Int} : t ∈ overL l ↔ ∃ e ∈ l, e.f2 = true ∧ e.f1 = t := by
 unfold overL
 rw [List.mem_map]
 constructor
 ·
  rintro ⟨e, h1, h2⟩
  obtain ⟨h3, h4⟩ := List.mem_filter.1 h1
  exact ⟨e, h3, h4, h2⟩
 ·
  rintro ⟨e, h1, h2, h3⟩
  exact ⟨e, List.mem_filter.2 ⟨h1, h2⟩, h3⟩
theorem chg_begin {g : List Tk} {st : List Int} {e : Ev} (h : e ∈ chgS g st) (h2 : e.f2 = false) {i : Nat} (hi : e.f1 = i) : e = chB st i := by
 obtain ⟨j, hj, rfl | rfl⟩ := mem_chgS.1 h
 ·
  have : (j : Int) = i := hi
  obtain rfl : j = i := by omega
  rfl
 ·
  cases h2
theorem chg_over {g : List Tk} {st : List Int} {e : Ev} (h : e ∈ chgS g st) (h2 : e.f2 = true) {i : Nat} (hi : e.f1 = i) : e = chO g st i := by
 obtain ⟨j, hj, rfl | rfl⟩ := mem_chgS.1 h
 ·
  cases h2
 ·
  have : (j : Int) = i := hi
  obtain rfl : j = i := by omega
  rfl
theorem mem_ahead {g : List Tk} {st : List Int} {k : Nat} (hk : k < (chgS g st).length) {x : Ev} : x ∈ (chgS g st).take k ↔ x ∈ chgS g st ∧ ltE x (rdEv (chgS g st) k) := by
 rw [← ahead_of (rdEv_of hk) (chgS_sorted g st) (chgS_nodup g st), List.mem_filter]
 unfold ltEB
 rw [decide_eq_true_iff]
theorem rdEv_get {l : List Ev} {q : Nat} (hq : q < l.length) : rdEv l q = l[q] := by
 unfold rdEv
 rw [List.getD_eq_getElem?_getD, List.getElem?_eq_getElem hq]
 rfl
theorem rdEv_mem {l : List Ev} {q : Nat} (hq : q < l.length) : rdEv l q ∈ l := by
 rw [rdEv_get hq]
 exact List.getElem_mem hq
theorem lt_OO {g : List Tk} {st : List Int} {i k : Nat} : ltE (chB st i) (chO g st i) ↔ 1 ≤ (rdTk g i).f0 := by
 unfold ltE chB chO
 constructor
 ·
  rintro (h | ⟨h, ⟨h1, h2⟩ | ⟨h1, h2⟩⟩)
  ·
   have h : st.getD i 0 < st.getD i 0 + (rdTk g i).f0 := h
   omega
  ·
   cases h1
  ·
   cases h1
 ·
  intro h
  refine .inl ?_
  show st.getD i 0 < st.getD i 0 + (rdTk g i).f0
  omega
theorem log_fits {g : List Tk} {rm : List Int} {wk : Int} {st : List Int} (h : Valid g rm wk st) {k : Nat} (hk : k < (chgS g st).length) : eventFitsB g (chgS g st) k = true := by
 unfold eventFitsB
 have hmem := rdEv_mem hk
 have hpre : ∀ x ∈ (chgS g st).take k, x ∈ chgS g st := fun x hx => List.mem_of_mem_take hx
 obtain ⟨i, hi, he⟩ := mem_chgS.1 hmem
 have hb : ∀ b, begunL (i : Int) ((chgS g st).take k) b = if (∃ e ∈ (chgS g st).take k, e.f2 = false ∧ e.f1 = (i : Int)) then st.getD i 0 else b := fun b => begunL_is _ b (fun e hm h2 h1 => by
  rw [chg_begin (hpre e hm) h2 h1]
  rfl)
 have hin : (chB st i ∈ (chgS g st).take k) ↔ (∃ e ∈ (chgS g st).take k, e.f2 = false ∧ e.f1 = (i : Int)) := by
  constructor
  ·
   intro hc
   exact ⟨_, hc, rfl, rfl⟩
  ·
   rintro ⟨e, hm, h2, h1⟩
   rw [← chg_begin (hpre e hm) h2 h1]
   exact hm
 rcases he with he | he
 ·
  have hno : ¬ chB st i ∈ (chgS g st).take k := fun hc => by
   have := (mem_ahead hk).1 hc
   rw [he] at this
   exact ltE_irrefl _ this.2
  rw [hin] at hno
  rw [he]
  unfold evFit
  have e0 : (chB st i).f2 = false := rfl
  have e1 : (chB st i).f1 = (i : Int) := rfl
  rw [e0, e1, hb, if_neg hno, Int.toNat_natCast, if_neg (by simp)]
  rw [Bool.and_eq_true]
  refine ⟨rfl, ?_⟩
  unfold allDoneB
  rw [List.all_eq_true]
  intro x hx
  apply decide_eq_true
  have hx0 := spec_needs_in h.v i hi x hx
  obtain ⟨q, hq⟩ : ∃ q : Nat, x = q := ⟨x.toNat, by omega⟩
  subst hq
  rw [mem_overL]
  refine ⟨chO g st q, (mem_ahead hk).2 ⟨mem_chgS.2 ⟨q, by omega, .inr rfl⟩, ?_⟩, rfl, rfl⟩
  rw [he]
  exact lt_OB.2 (h.needs i hi q hx)
 ·
  have hyes : chB st i ∈ (chgS g st).take k := (mem_ahead hk).2 ⟨mem_chgS.2 ⟨i, hi, .inl rfl⟩, by rw [he]; exact (lt_OO (k := i)).2 (h.ok.2.2.2.2 i hi).1⟩
  rw [hin] at hyes
  have hnov : ¬ (i : Int) ∈ overL ((chgS g st).take k) := fun hc => by
   obtain ⟨e, hm, h2, h1⟩ := mem_overL.1 hc
   have h3 := (mem_ahead hk).1 hm
   rw [chg_over h3.1 h2 h1, he] at h3
   exact ltE_irrefl _ h3.2
  rw [he]
  unfold evFit
  have e0 : (chO g st i).f2 = true := rfl
  have e1 : (chO g st i).f1 = (i : Int) := rfl
  have e2 : (chO g st i).f0 = st.getD i 0 + (rdTk g i).f0 := rfl
  rw [e0, e1, hb, if_pos hyes, Int.toNat_natCast, if_pos rfl, e2]
  rw [Bool.and_eq_true, Bool.and_eq_true]
  exact ⟨decide_eq_true (h.b i hi).1, by rw [decide_eq_false hnov]; rfl, decide_eq_true rfl⟩
theorem chg_order (g : List Tk) (st : List Int) {k : Nat} (hk : k < (chgS g st).length) (h0 : 0 < k) : (rdEv (chgS g st) (k - 1)).f0 ≤ (rdEv (chgS g st) k).f0 := by
 rw [rdEv_get hk, rdEv_get (show k - 1 < (chgS g st).length by omega)]
 have := List.pairwise_iff_getElem.1 (chgS_strict g st) (k - 1) k (by omega) hk (by omega)
 rcases this with h | ⟨h, _⟩ <;> omega
theorem log_valid {g : List Tk} {rm : List Int} {wk : Int} {st : List Int} (h : Valid g rm wk st) (he : ∀ i, i < g.length → st.getD i 0 + (rdTk g i).f0 ≤ 200) : validLogB g (chgS g st) = true := by
 unfold validLogB
 have h8 := h.ok.1
 rw [h.v, decide_eq_true (show (chgS g st).length ≤ 16 by rw [chgS_len]; omega), Bool.true_and, Bool.true_and, List.all_eq_true]
 intro k hk
 have hk := List.mem_range.1 hk
 unfold eventOkB
 rw [log_fits h hk, Bool.and_true]
 obtain ⟨i, hi, hx⟩ := mem_chgS.1 (rdEv_mem hk)
 have hb := h.b i hi
 have ht := (h.ok.2.2.2.2 i hi).1
 have hei := he i hi
 have hord : (!(decide (0 < k) && decide ((rdEv (chgS g st) k).f0 < (rdEv (chgS g st) (k - 1)).f0))) = true := by
  by_cases h0 : 0 < k
  ·
   have := chg_order g st hk h0
   rw [decide_eq_false (show ¬ (rdEv (chgS g st) k).f0 < (rdEv (chgS g st) (k - 1)).f0 by omega), Bool.and_false]
   rfl
  ·
   rw [decide_eq_false h0]
   rfl
 rw [hord, Bool.and_true, Bool.and_eq_true]
 have e1 : (rdEv (chgS g st) k).f1 = (i : Int) := by rcases hx with hx | hx <;> rw [hx] <;> rfl
 refine ⟨inB_true.2 ?_, inB_true.2 (by rw [e1]; omega)⟩
 rcases hx with hx | hx <;> rw [hx]
 ·
  show 0 ≤ st.getD i 0 ∧ st.getD i 0 ≤ 200
  omega
 ·
  show 0 ≤ st.getD i 0 + (rdTk g i).f0 ∧ st.getD i 0 + (rdTk g i).f0 ≤ 200
  omega
theorem log_clock {g : List Tk} {st : List Int} (h : validLogB g (chgS g st) = true) {i : Nat} (hi : i < g.length) : st.getD i 0 + (rdTk g i).f0 ≤ 200 := by
 unfold validLogB at h
 rw [Bool.and_eq_true, List.all_eq_true] at h
 have hm : chO g st i ∈ chgS g st := mem_chgS.2 ⟨i, hi, .inr rfl⟩
 obtain ⟨k, hk, e⟩ := List.getElem_of_mem hm
 have h2 := h.2 k (List.mem_range.2 hk)
 unfold eventOkB at h2
 simp only [Bool.and_eq_true] at h2
 have h3 := (inB_true.1 h2.1.1.1).2
 rw [rdEv_get hk, e] at h3
 exact h3
theorem sumN_sgn (l : List Ev) : ∀ k, k ≤ l.length → sumN l k = ((l.take k).map sgn).sum
 | 0, _ => by simp [sumN]
 | k + 1, hk => by
  have ih := sumN_sgn l k (by omega)
  unfold sumN
  rw [take_snocE (by omega), List.map_append, List.sum_append, ih]
  simp only [List.map_cons, List.map_nil, List.sum_cons, List.sum_nil]
  unfold sgn
  split <;> omega
theorem take_last {g : List Tk} {st : List Int} {k : Nat} (hk : k < (chgS g st).length) (hl : lastOf (chgS g st) k = true) : (chgS g st).take (k + 1) = (chgS g st).filter (fun x => decide (x.f0 ≤ (rdEv (chgS g st) k).f0)) := by
 have hC := List.take_append_drop (k + 1) (chgS g st)
 have e : (chgS g st).filter (fun x => decide (x.f0 ≤ (rdEv (chgS g st) k).f0)) = ((chgS g st).take (k + 1) ++ (chgS g st).drop (k + 1)).filter (fun x => decide (x.f0 ≤ (rdEv (chgS g st) k).f0)) := by rw [hC]
 have hs := chgS_strict g st
 have h1 : ((chgS g st).take (k + 1)).filter (fun x => decide (x.f0 ≤ (rdEv (chgS g st) k).f0)) = (chgS g st).take (k + 1) := by
  rw [List.filter_eq_self]
  intro x hx
  apply decide_eq_true
  obtain ⟨q, hq, e⟩ := List.getElem_of_mem hx
  rw [List.getElem_take] at e
  rw [List.length_take] at hq
  rw [← e, rdEv_get hk]
  by_cases hqk : q = k
  ·
   subst hqk
   exact Int.le_refl _
  ·
   have := List.pairwise_iff_getElem.1 hs q k (by omega) hk (by omega)
   rcases this with h | ⟨h, _⟩ <;> omega
 have h2 : ((chgS g st).drop (k + 1)).filter (fun x => decide (x.f0 ≤ (rdEv (chgS g st) k).f0)) = [] := by
  rw [List.filter_eq_nil_iff]
  intro x hx
  obtain ⟨q, hq, e⟩ := List.getElem_of_mem hx
  rw [List.getElem_drop] at e
  rw [List.length_drop] at hq
  have hk1 : k + 1 < (chgS g st).length := by omega
  unfold lastOf at hl
  have hgt : (rdEv (chgS g st) (k + 1)).f0 > (rdEv (chgS g st) k).f0 := by
   rw [Bool.or_eq_true] at hl
   rcases hl with hl | hl
   ·
    have := of_decide_eq_true hl
    omega
   ·
    exact of_decide_eq_true hl
  rw [rdEv_get hk1, rdEv_get hk] at hgt
  rw [rdEv_get hk, ← e]
  have : (chgS g st)[k + 1].f0 ≤ (chgS g st)[k + 1 + q].f0 := by
   by_cases hq0 : q = 0
   ·
    subst hq0
    exact Int.le_refl _
   ·
    have := List.pairwise_iff_getElem.1 hs (k + 1) (k + 1 + q) (by omega) (by omega) (by omega)
    rcases this with h | ⟨h, _⟩ <;> omega
  simp only [decide_eq_true_iff]
  omega
 rw [e, List.filter_append, h1, h2, List.append_nil]
theorem sum_time {g : List Tk} (hok : TOk g) {st : List Int} (t : Int) : (((chgS g st).filter (fun x => decide (x.f0 ≤ t))).map sgn).sum = ((runS g st t).length : Nat) := by
 have hp : ((chgS g st).filter (fun x => decide (x.f0 ≤ t))).Perm ((chgN g st g.length).filter (fun x => decide (x.f0 ≤ t))) := (chgS_perm g st).filter _
 rw [perm_sum (hp.map sgn), filt_sum]
 unfold runS
 rw [← sumTo_count]
 refine sumTo_congr _ (fun i hi => ?_)
 have ht := (hok.2.2.2.2 i hi).1
 unfold sumF
 have e1 : (chB st i).f0 = st.getD i 0 := rfl
 have e2 : (chO g st i).f0 = st.getD i 0 + (rdTk g i).f0 := rfl
 have s1 : sgn (chB st i) = 1 := rfl
 have s2 : sgn (chO g st i) = -1 := rfl
 show ((if decide ((chB st i).f0 ≤ t) = true then sgn (chB st i) else 0) + if decide ((chO g st i).f0 ≤ t) = true then sgn (chO g st i) else 0) = _
 rw [e1, e2, s1, s2]
 by_cases h1 : st.getD i 0 ≤ t
 ·
  by_cases h2 : st.getD i 0 + (rdTk g i).f0 ≤ t
  ·
   rw [if_pos (decide_eq_true h1), if_pos (decide_eq_true h2), if_neg (fun h => by have := runB_iff.1 h; omega)]
   rfl
  ·
   rw [if_pos (decide_eq_true h1), if_neg (by simp only [decide_eq_true_iff]; exact h2), if_pos (runB_iff.2 ⟨h1, by omega⟩)]
   rfl
 ·
  rw [if_neg (by simp only [decide_eq_true_iff]; exact h1), if_neg (by simp only [decide_eq_true_iff]; omega), if_neg (fun h => by have := runB_iff.1 h; omega)]
  rfl
theorem sum_last {g : List Tk} (hok : TOk g) {st : List Int} {k : Nat} (hk : k < (chgS g st).length) (hl : lastOf (chgS g st) k = true) : sumN (chgS g st) (k + 1) = ((runS g st (rdEv (chgS g st) k).f0).length : Nat) := by
 rw [sumN_sgn _ _ (by omega), take_last hk hl, sum_time hok]
end Go.Proofs.YtlapphhcficbjaaGreatDoor

namespace Go.Proofs.YtlapphhcficbjaaGreatDoor
set_option linter.unusedVariables false
set_option linter.unusedSimpArgs false
open Go.RowKit Go.Shelf Bits
def mxR (g : List Tk) (st : List Int) : Nat → Int
 | 0 => 0
 | j + 1 => max (mxR g st j) ((runS g st (st.getD j 0)).length : Nat)
theorem mxR_nonneg (g : List Tk) (st : List Int) : ∀ n, 0 ≤ mxR g st n
 | 0 => Int.le_refl _
 | n + 1 => by
  have := mxR_nonneg g st n
  unfold mxR
  omega
theorem mxR_ge (g : List Tk) (st : List Int) {i : Nat} : ∀ n, i < n → ((runS g st (st.getD i 0)).length : Int) ≤ mxR g st n
 | 0, h => absurd h (Nat.not_lt_zero _)
 | n + 1, h => by
  unfold mxR
  by_cases e : i = n
  ·
   subst e
   omega
  ·
   have := mxR_ge g st (i := i) n (by omega)
   omega
theorem mxR_le {g : List Tk} {st : List Int} {B : Int} (hB : 0 ≤ B) : ∀ n, (∀ i, i < n → ((runS g st (st.getD i 0)).length : Int) ≤ B) → mxR g st n ≤ B
 | 0, _ => hB
 | n + 1, h => by
  have h1 := mxR_le hB n (fun i hi => h i (by omega))
  have h2 := h n (by omega)
  unfold mxR
  omega
theorem mostN_le {log : List Ev} {B : Int} (hB : 0 ≤ B) (h : ∀ k, k < log.length → lastOf log k = true → sumN log (k + 1) ≤ B) : ∀ k, k ≤ log.length → mostN log k ≤ B
 | 0, _ => hB
 | k + 1, hk => by
  have ih := mostN_le hB h k (by omega)
  unfold mostN
  split
  ·
   rename_i hl
   have := h k (by omega) hl
   omega
  ·
   exact ih
theorem mostN_ge {log : List Ev} {k : Nat} (hl : lastOf log k = true) : ∀ m, k < m → sumN log (k + 1) ≤ mostN log m
 | 0, h => absurd h (Nat.not_lt_zero _)
 | m + 1, h => by
  unfold mostN
  by_cases e : k = m
  ·
   subst e
   rw [if_pos hl]
   omega
  ·
   have ih := mostN_ge hl m (by omega)
   split
   ·
    omega
   ·
    exact ih
theorem last_at {g : List Tk} {st : List Int} {t : Int} : ∀ d k, d + k + 1 = (chgS g st).length → (rdEv (chgS g st) k).f0 = t → ∃ m, m < (chgS g st).length ∧ lastOf (chgS g st) m = true ∧ (rdEv (chgS g st) m).f0 = t
 | 0, k, hd, ht => ⟨k, by omega, by unfold lastOf; rw [decide_eq_true (show k + 1 = (chgS g st).length by omega), Bool.true_or], ht⟩
 | d + 1, k, hd, ht => by
  by_cases hgt : (rdEv (chgS g st) (k + 1)).f0 > (rdEv (chgS g st) k).f0
  ·
   exact ⟨k, by omega, by unfold lastOf; rw [decide_eq_true hgt, Bool.or_true], ht⟩
  ·
   have := chg_order g st (k := k + 1) (by omega) (by omega)
   rw [Nat.add_sub_cancel] at this
   exact last_at d (k + 1) (by omega) (by omega)
theorem most_log {g : List Tk} (hok : TOk g) {st : List Int} : mostN (chgS g st) (chgS g st).length = mxR g st g.length := by
 apply Int.le_antisymm
 ·
  refine mostN_le (mxR_nonneg _ _ _) (fun k hk hl => ?_) _ (Nat.le_refl _)
  rw [sum_last hok hk hl]
  generalize (rdEv (chgS g st) k).f0 = t
  by_cases hex : ∃ i, i < g.length ∧ runB g st t i = true
  ·
   obtain ⟨j, hj, h1, h2⟩ := last_of (st := st) g.length hex
   have h3 := runB_iff.1 h1
   have h4 : (runS g st t).length ≤ (runS g st (st.getD j 0)).length := filter_len_le g.length (fun q hq hr => by
    have h5 := h2 q hq hr
    have h6 := runB_iff.1 hr
    exact runB_iff.2 ⟨by rcases h5 with h | ⟨h, _⟩ <;> omega, by omega⟩)
   have h7 := mxR_ge g st (i := j) g.length hj
   omega
  ·
   have : runS g st t = [] := by
    unfold runS
    rw [List.filter_eq_nil_iff]
    intro i hi hr
    exact hex ⟨i, List.mem_range.1 hi, hr⟩
   rw [this]
   exact mxR_nonneg _ _ _
 ·
  refine mxR_le ?_ _ (fun i hi => ?_)
  ·
   have h0 : ∀ m, 0 ≤ mostN (chgS g st) m := by
    intro m
    induction m with
    | zero => exact Int.le_refl _
    | succ m ih => unfold mostN; split <;> omega
   exact h0 _
  ·
   have hm : chB st i ∈ chgS g st := mem_chgS.2 ⟨i, hi, .inl rfl⟩
   obtain ⟨k, hk, e⟩ := List.getElem_of_mem hm
   obtain ⟨m, hm1, hm2, hm3⟩ := last_at (g := g) (st := st) (t := st.getD i 0) ((chgS g st).length - 1 - k) k (by omega) (by rw [rdEv_get hk, e]; rfl)
   have := mostN_ge hm2 (chgS g st).length hm1
   rw [sum_last hok hm1 hm2, hm3] at this
   exact this
theorem mxR_workers {g : List Tk} {rm : List Int} {wk : Int} {st : List Int} (h : Valid g rm wk st) : mxR g st g.length ≤ wk := by
 have := (placeB_facts h.p).2.1
 exact mxR_le (by omega) _ (fun i _ => (h.runs _).1)
theorem mostB_log {g : List Tk} {st : List Int} (hv : validLogB g (chgS g st) = true) : mostB g (chgS g st) = mxR g st g.length := by
 have hs := hv
 rw [validLog_eq] at hs
 obtain ⟨p, hp⟩ := Option.isSome_iff_exists.1 hs
 unfold mostB
 rw [hp]
 obtain ⟨ns, hg, hr, h8, _⟩ := replayB_facts hp
 show p.2 = _
 rw [(replay_kept h8 _ p hr).mst]
 refine most_log (specValid_TOk ?_)
 rw [specValid_eq, hg]
 rfl
theorem hits_ne {log : List Ev} {t : Nat} {now : Int} : ∀ m, hits log t now m ≠ [] ↔ ∃ k, k < m ∧ (rdEv log k).f1 = (t : Int) ∧ (rdEv log k).f2 = true ∧ (rdEv log k).f0 ≤ now
 | 0 => by simp [hits]
 | m + 1 => by
  have ih := hits_ne (log := log) (t := t) (now := now) m
  unfold hits
  split
  ·
   rename_i h
   constructor
   ·
    intro _
    exact ⟨m, by omega, h⟩
   ·
    intro _
    simp
  ·
   rename_i h
   rw [ih]
   constructor
   ·
    rintro ⟨k, hk, h1⟩
    exact ⟨k, by omega, h1⟩
   ·
    rintro ⟨k, hk, h1⟩
    by_cases e : k = m
    ·
     subst e
     exact absurd h1 h
    ·
     exact ⟨k, by omega, h1⟩
theorem hits_log {g : List Tk} {st : List Int} {t : Nat} {now : Int} : hits (chgS g st) t now (chgS g st).length ≠ [] ↔ t < g.length ∧ st.getD t 0 + (rdTk g t).f0 ≤ now := by
 rw [hits_ne]
 constructor
 ·
  rintro ⟨k, hk, h1, h2, h3⟩
  obtain ⟨i, hi, _⟩ := mem_chgS.1 (rdEv_mem hk)
  have he := chg_over (rdEv_mem hk) h2 h1
  rw [he] at h3
  refine ⟨?_, h3⟩
  obtain ⟨j, hj, e | e⟩ := mem_chgS.1 (rdEv_mem hk)
  ·
   rw [e] at h2
   cases h2
  ·
   have h4 : (rdEv (chgS g st) k).f1 = (j : Int) := by rw [e]; rfl
   rw [h1] at h4
   omega
 ·
  rintro ⟨ht, h1⟩
  have hm : chO g st t ∈ chgS g st := mem_chgS.2 ⟨t, ht, .inr rfl⟩
  obtain ⟨k, hk, e⟩ := List.getElem_of_mem hm
  refine ⟨k, hk, ?_⟩
  rw [rdEv_get hk, e]
  exact ⟨rfl, rfl, h1⟩
theorem doneB_log {g : List Tk} {st : List Int} (hv : validLogB g (chgS g st) = true) (now : Int) : doneB g (chgS g st) now = ints ((List.range g.length).filter fun i => decide (st.getD i 0 + (rdTk g i).f0 ≤ now)) := by
 have hs := hv
 rw [validLog_eq] at hs
 obtain ⟨p, hp⟩ := Option.isSome_iff_exists.1 hs
 obtain ⟨ns, hg, hr, h8, _, htm⟩ := replayB_facts hp
 have hh := replay_hist (fun i => (htm i).1) _ p hr
 unfold doneB
 rw [hp]
 show ints (doneL p.1 now) = _
 rw [doneL_range (n := g.length) (by omega) (fun i hi => hh.lt i (hh.sub i hi)) now]
 congr 1
 refine List.filter_congr (fun i hi => ?_)
 have hi := List.mem_range.1 hi
 have h1 := hh.hit i now
 have h2 := hits_log (g := g) (st := st) (t := i) (now := now)
 unfold doneP
 rw [Bool.eq_iff_iff, Bool.and_eq_true, decide_eq_true_iff, decide_eq_true_iff]
 constructor
 ·
  intro h3
  rw [if_pos h3] at h1
  exact (h2.1 (by rw [h1]; simp)).2
 ·
  intro h3
  have h4 := h2.2 ⟨hi, h3⟩
  by_cases h5 : p.1.o.testBit i = true ∧ p.1.cl i ≤ now
  ·
   exact h5
  ·
   rw [if_neg h5] at h1
   exact absurd h1 h4
def tmE (g : List Tk) (e : Ev) : Int := if e.f2 then (rdTk g e.f1.toNat).f0 else 0
theorem busyS_sum (g : List Tk) (l : List Ev) : ∀ k, k ≤ l.length → busyS g l k = ((l.take k).map (tmE g)).sum
 | 0, _ => by simp [busyS]
 | k + 1, hk => by
  have ih := busyS_sum g l k (by omega)
  rw [busyS_succ, take_snocE (by omega), List.map_append, List.sum_append, ih]
  simp only [List.map_cons, List.map_nil, List.sum_cons, List.sum_nil]
  unfold tmE
  split <;> omega
theorem busyB_log {g : List Tk} {st : List Int} (hv : validLogB g (chgS g st) = true) : busyB g (chgS g st) = timeS g := by
 rw [busyB_eq, if_pos hv, busyS_sum _ _ _ (Nat.le_refl _), List.take_length, perm_sum ((chgS_perm g st).map (tmE g))]
 have h := filt_sum (tmE g) (fun _ => true) g st g.length
 rw [List.filter_eq_self.2 (fun _ _ => rfl)] at h
 rw [h]
 unfold timeS
 refine sumTo_congr _ (fun i hi => ?_)
 unfold sumF
 rw [if_pos rfl, if_pos rfl]
 show tmE g (chB st i) + tmE g (chO g st i) = _
 have e1 : tmE g (chB st i) = 0 := rfl
 have e2 : tmE g (chO g st i) = (rdTk g i).f0 := rfl
 omega
theorem lg_is {g : List Tk} {rm : List Int} {wk : Int} {st : List Int} (h : Valid g rm wk st) : lgS g rm wk st = chgS g st := by
 unfold lgS
 rw [valid_vSt h, if_pos rfl]
theorem lg_yes {g : List Tk} {rm : List Int} {wk : Int} {st : List Int} (h : ¬ (lgS g rm wk st).length = 0) : Valid g rm wk st ∧ (lgS g rm wk st).length = 2 * g.length := by
 cases hv : vStB g rm wk st with
 | false =>
  exfalso
  apply h
  unfold lgS
  rw [hv]
  rfl
 | true =>
  have hV := vSt_valid hv
  exact ⟨hV, by rw [lg_is hV, chgS_len]⟩
theorem lg_replay {g : List Tk} {rm : List Int} {wk : Int} {st : List Int} (h : Valid g rm wk st) (he : ∀ i, i < g.length → st.getD i 0 + (rdTk g i).f0 ≤ 200) : (replayB g (lgS g rm wk st)).isSome = true := by
 rw [lg_is h, ← validLog_eq]
 exact log_valid h he
theorem lg_most {g : List Tk} {rm : List Int} {wk : Int} {st : List Int} (h : Valid g rm wk st) (hy : (replayB g (lgS g rm wk st)).isSome = true) : mostB g (lgS g rm wk st) = mxR g st g.length := by
 rw [lg_is h, ← validLog_eq] at hy
 rw [lg_is h]
 exact mostB_log hy
theorem lg_doneB {g : List Tk} {rm : List Int} {wk : Int} {st : List Int} (h : Valid g rm wk st) (hy : (replayB g (lgS g rm wk st)).isSome = true) (now : Int) : doneB g (lgS g rm wk st) now = ints ((List.range g.length).filter fun i => decide (st.getD i 0 + (rdTk g i).f0 ≤ now)) := by
 rw [lg_is h, ← validLog_eq] at hy
 rw [lg_is h]
 exact doneB_log hy now
theorem lg_done {g : List Tk} {rm : List Int} {wk : Int} {st : List Int} (h : Valid g rm wk st) (hn : 0 < g.length) (hy : (replayB g (lgS g rm wk st)).isSome = true) : (doneB g (lgS g rm wk st) (etS g rm wk st)).length = g.length ∧ (doneB g (lgS g rm wk st) (etS g rm wk st - 1)).length < g.length ∧ busyB g (lgS g rm wk st) = timeS g := by
 rw [lg_doneB h hy, lg_doneB h hy, ints_length, ints_length]
 refine ⟨?_, ?_, ?_⟩
 ·
  rw [List.filter_eq_self.2 (fun i hi => decide_eq_true (etS_ge h (List.mem_range.1 hi))), List.length_range]
 ·
  obtain ⟨i, hi, he⟩ := h.end_some hn
  rw [← etS_valid h] at he
  have : ((List.range g.length).filter fun i => decide (st.getD i 0 + (rdTk g i).f0 ≤ etS g rm wk st - 1)).length < (List.range g.length).length := by
   rw [List.length_filter_lt_length_iff_exists]
   exact ⟨i, List.mem_range.2 hi, by simp only [decide_eq_true_iff]; omega⟩
  rwa [List.length_range] at this
 ·
  rw [lg_is h, ← validLog_eq] at hy
  rw [lg_is h]
  exact busyB_log hy
end Go.Proofs.YtlapphhcficbjaaGreatDoor

namespace Go.Proofs.YtlapphhcficbjaaGreatDoor
set_option linter.unusedVariables false
set_option linter.unusedSimpArgs false
open Go.RowKit Go.Shelf Bits
theorem admFold_sub (g : List Tk) (rm : List Int) (wk : Int) : ∀ (l : List Nat) (c : Ct) (acc : List Nat), ∃ s, s.Sublist l ∧ (l.foldl (admStep g rm wk) (c, acc)).2 = acc ++ s
 | [], c, acc => ⟨[], List.Sublist.refl _, by simp⟩
 | i :: l, c, acc => by
  rw [List.foldl_cons]
  unfold admStep
  split
  ·
   obtain ⟨s, h1, h2⟩ := admFold_sub g rm wk l (c.add (rdTk g i).f2.toNat (rdTk g i).f3 1) (acc ++ [i])
   exact ⟨i :: s, h1.cons_cons i, by rw [show (l.foldl (fun st i => if st.1.can (rdTk g i).f2.toNat (rdTk g i).f3 rm wk then (st.1.add (rdTk g i).f2.toNat (rdTk g i).f3 1, st.2 ++ [i]) else st) (c.add (rdTk g i).f2.toNat (rdTk g i).f3 1, acc ++ [i])).2 = _ from h2]; simp⟩
  ·
   obtain ⟨s, h1, h2⟩ := admFold_sub g rm wk l c acc
   exact ⟨s, h1.cons i, h2⟩
theorem admN_nodup {g : List Tk} {rm : List Int} {wk : Int} {c : Ct} {l : List Nat} (h : l.Nodup) : (admN g rm wk c l).2.Nodup := by
 obtain ⟨s, h1, h2⟩ := admFold_sub g rm wk l c []
 unfold admN
 rw [h2, List.nil_append]
 exact h1.nodup h
def CtIn (rm : List Int) (wk : Int) (c : Ct) : Prop := c.t ≤ wk ∧ ∀ p, p < 3 → c.u p ≤ rm.getD p 0
theorem admFold_in {g : List Tk} (hok : TOk g) {rm : List Int} {wk : Int} : ∀ (l : List Nat) (st : Ct × List Nat), CtIn rm wk st.1 → CtIn rm wk (l.foldl (admStep g rm wk) st).1
 | [], st, h => h
 | i :: l, st, h => by
  refine admFold_in hok l (admStep g rm wk st i) ?_
  unfold admStep
  split
  ·
   rename_i hc
   unfold Ct.can at hc
   rw [Bool.and_eq_true, decide_eq_true_iff, decide_eq_true_iff] at hc
   refine ⟨?_, fun p hp => ?_⟩
   ·
    show st.1.t + 1 ≤ wk
    omega
   ·
    show (if p = (rdTk g i).f2.toNat then st.1.u p + 1 * (rdTk g i).f3 else st.1.u p) ≤ _
    split
    ·
     rename_i e
     rw [e]
     omega
    ·
     exact h.2 p hp
  ·
   exact h
theorem nextS_nodup (g : List Tk) (rm : List Int) (wk : Int) (st : List Int) (now : Int) : (nextS g rm wk st now).Nodup := by
 unfold nextS
 refine admN_nodup ((insL_perm _ _).nodup_iff.2 (List.Pairwise.filter _ ?_))
 exact List.nodup_range.filter _
theorem usedS_perm {g : List Tk} {a b : List Nat} (h : a.Perm b) (p : Int) : usedS g a p = usedS g b p := by
 unfold usedS
 exact perm_sum (h.map _)
theorem run_next {g : List Tk} (hok : TOk g) {rm : List Int} {wk : Int} {L : List Int} {k : Nat} (hk : k < 200) (hL : L.length = g.length) : (runS g (stepS g rm wk L k) k).Perm (runS g L k ++ nextS g rm wk L k) := by
 refine (List.perm_ext_iff_of_nodup (List.nodup_range.filter _) ?_).2 (fun i => ?_)
 ·
  rw [List.nodup_append]
  refine ⟨List.nodup_range.filter _, nextS_nodup _ _ _ _ _, ?_⟩
  rintro a ha b hb rfl
  have h1 := (mem_runS.1 ha).2.1
  have h2 := (nextS_in hb).2.2
  omega
 ·
  show i ∈ runS g (stepS g rm wk L k) k ↔ _
  rw [List.mem_append, mem_runS, mem_runS, stepS_get hL]
  by_cases hm : i ∈ nextS g rm wk L k
  ·
   have hi := nextS_lt g rm wk L k i hm
   have ht := hok.2.2.2.2 i hi
   rw [if_pos hm]
   constructor
   ·
    exact fun _ => .inr hm
   ·
    exact fun _ => ⟨hi, Int.le_refl _, by omega⟩
  ·
   rw [if_neg hm]
   constructor
   ·
    exact .inl
   ·
    rintro (h | h)
    ·
     exact h
    ·
     exact absurd h hm
theorem plan_runs {g : List Tk} (hok : TOk g) {rm : List Int} (hrm : ∀ p, p < 3 → 4 ≤ rm.getD p 0) {wk : Int} (hwk : 1 ≤ wk) : ∀ k : Nat, k < 200 → ((runS g (planL g rm wk (k + 1)) k).length : Int) ≤ wk ∧ ∀ p : Nat, p < 3 → usedS g (runS g (planL g rm wk (k + 1)) k) p ≤ rm.getD p 0 := by
 intro k hk
 have hL := (planL_ok g rm wk k (by omega)).1
 have hB := planL_before g rm wk k (by omega)
 have h0 : CtIn rm wk (cnt g (runS g (planL g rm wk k) k)) := by
  show ((runS g (planL g rm wk k) k).length : Int) ≤ wk ∧ ∀ p : Nat, p < 3 → usedS g (runS g (planL g rm wk k) k) p ≤ rm.getD p 0
  cases k with
  | zero =>
   have e : runS g (planL g rm wk 0) ((0 : Nat) : Int) = [] := by
    unfold runS
    rw [List.filter_eq_nil_iff]
    intro i hi hp
    have h1 := runB_iff.1 hp
    have h2 := hB i (List.mem_range.1 hi)
    omega
   rw [e]
   refine ⟨by simp; omega, fun p hp => ?_⟩
   have := hrm p hp
   show (0 : Int) ≤ _
   omega
  | succ k =>
   obtain ⟨h1, h2⟩ := plan_runs hok hrm hwk k (by omega)
   have hsub : ∀ i, i < g.length → runB g (planL g rm wk (k + 1)) ((k + 1 : Nat) : Int) i = true → runB g (planL g rm wk (k + 1)) (k : Int) i = true := fun i hi hp => by
    have h3 := runB_iff.1 hp
    have h4 := hB i hi
    exact runB_iff.2 (by omega)
   refine ⟨?_, fun p hp => ?_⟩
   ·
    have := filter_len_le g.length hsub
    unfold runS at h1 ⊢
    omega
   ·
    have h3 := usedS_filter g p (P := runB g (planL g rm wk (k + 1)) ((k + 1 : Nat) : Int)) (Q := runB g (planL g rm wk (k + 1)) (k : Int)) hok g.length (fun i hi hp _ => hsub i hi hp)
    have h4 := h2 p hp
    unfold runS at h4 ⊢
    omega
 have h1 := admFold_in hok (insL (tailsS g) ((readyS g (ints (overS g (planL g rm wk k) k))).filter (idleB (planL g rm wk k)))) (cnt g (runS g (planL g rm wk k) k), []) h0
 have h2 := admN_cnt hok rm wk (runS g (planL g rm wk k) k) (insL (tailsS g) ((readyS g (ints (overS g (planL g rm wk k) k))).filter (idleB (planL g rm wk k)))) _ (Nat.le_refl _)
 rw [List.take_length] at h2
 have h3 : CtIn rm wk (cnt g (runS g (planL g rm wk k) k ++ nextS g rm wk (planL g rm wk k) k)) := by
  rw [show nextS g rm wk (planL g rm wk k) k = (admN g rm wk (cnt g (runS g (planL g rm wk k) k)) (insL (tailsS g) ((readyS g (ints (overS g (planL g rm wk k) k))).filter (idleB (planL g rm wk k))))).2 from rfl, ← h2]
  exact h1
 have hp := run_next (rm := rm) (wk := wk) hok hk hL
 rw [show planL g rm wk (k + 1) = stepS g rm wk (planL g rm wk k) k from rfl]
 refine ⟨?_, fun p hp3 => ?_⟩
 ·
  rw [hp.length_eq]
  exact h3.1
 ·
  rw [usedS_perm hp]
  exact h3.2 p hp3
theorem planL_later {g : List Tk} {rm : List Int} {wk : Int} {k j : Nat} (h : (planL g rm wk k).getD j 0 = 200) : ∀ d, k + d ≤ 200 → (planL g rm wk (k + d)).getD j 0 = 200 ∨ (k : Int) ≤ (planL g rm wk (k + d)).getD j 0
 | 0, _ => .inl h
 | d + 1, hd => by
  have ih := planL_later h d (by omega)
  rw [show k + (d + 1) = (k + d) + 1 from rfl, show planL g rm wk (k + d + 1) = stepS g rm wk (planL g rm wk (k + d)) (k + d : Nat) from rfl, stepS_get (planL_ok g rm wk (k + d) (by omega)).1]
  split
  ·
   right; omega
  ·
   exact ih
theorem plan_run_at {g : List Tk} {rm : List Int} {wk : Int} {k : Nat} (hk : k < 200) : runS g (planS g rm wk) k = runS g (planL g rm wk (k + 1)) k := by
 unfold runS
 apply List.filter_congr
 intro i hi
 rw [Bool.eq_iff_iff, runB_iff, runB_iff]
 by_cases hc : (planL g rm wk (k + 1)).getD i 0 = 200
 ·
  have h1 := planL_later hc (200 - (k + 1)) (by omega)
  rw [show k + 1 + (200 - (k + 1)) = 200 by omega] at h1
  have h2 : (planS g rm wk).getD i 0 = 200 ∨ ((k + 1 : Nat) : Int) ≤ (planS g rm wk).getD i 0 := h1
  rw [hc]
  omega
 ·
  rw [planL_final (k := k + 1) (by omega) hc]
theorem plan_valid {g : List Tk} (hv : specValid g = true) {rm : List Int} {wk : Int} (hp : placeB rm wk = true) : Valid g rm wk (planS g rm wk) := by
 obtain ⟨hrm, hwk, _⟩ := placeB_facts hp
 have hok := specValid_TOk hv
 have hst := planS_ok g rm wk
 refine ⟨hv, hp, hst.1, fun i _ => hst.2 i, fun i hi => ?_⟩
 have hlt := planS_lt hv hrm hwk hi
 obtain ⟨k, hk⟩ := Int.eq_ofNat_of_zero_le (hst.2 i).1
 have hk2 : k < 200 := by omega
 have h1 := plan_runs hok (fun p hp => ((roomB_facts hrm).2 p hp).1) hwk k hk2
 refine ⟨fun q hq => planS_needs hv hrm hwk hi q hq, ?_, fun p hp3 => ?_⟩
 ·
  rw [hk, plan_run_at hk2]
  exact h1.1
 ·
  rw [hk, plan_run_at hk2]
  exact h1.2 p hp3
theorem plan_busy {g : List Tk} (hv : specValid g = true) {rm : List Int} {wk : Int} (hp : placeB rm wk = true) {t : Nat} (ht : (t : Int) < endS g (planS g rm wk) g.length) : runS g (planS g rm wk) t ≠ [] := by
 obtain ⟨hrm, hwk, _⟩ := placeB_facts hp
 have hok := specValid_TOk hv
 have hT := timeS_bound hok
 have hend := endS_le hT.1 g.length (planS_ends hv hrm hwk)
 have ht2 : t < 200 := by omega
 have hL := (planL_ok g rm wk t (by omega)).1
 have hn : ∃ i, i < g.length ∧ ¬ (planL g rm wk t).getD i 0 + (rdTk g i).f0 ≤ (t : Int) := by
  by_cases hex : ∃ i, i < g.length ∧ ¬ (planL g rm wk t).getD i 0 + (rdTk g i).f0 ≤ (t : Int)
  ·
   exact hex
  ·
   exfalso
   have hall : ∀ i, i < g.length → (planS g rm wk).getD i 0 + (rdTk g i).f0 ≤ (t : Int) := fun i hi => by
    have h1 : (planL g rm wk t).getD i 0 + (rdTk g i).f0 ≤ (t : Int) := by
     by_cases h : (planL g rm wk t).getD i 0 + (rdTk g i).f0 ≤ (t : Int)
     ·
      exact h
     ·
      exact absurd ⟨i, hi, h⟩ hex
    have h2 := hok.2.1 i
    rw [planL_final (k := t) (by omega) (by omega)]
    exact h1
   have := endS_le (E := (t : Int)) (by omega) g.length hall
   omega
 obtain ⟨i, hi, h1, h2⟩ := plan_moves hv hrm hwk ht2 hL (planL_before g rm wk t (by omega)) hn
 rw [plan_run_at ht2]
 exact List.ne_nil_of_mem (mem_runS.2 ⟨hi, h1, h2⟩)
theorem sumTo_cap {f : Nat → Int} {b : Int} (hb : 0 ≤ b) : ∀ m : Nat, (∀ t, t < m → f t ≤ b) → sumTo f m ≤ m * b
 | 0, _ => by simp [sumTo]
 | m + 1, h => by
  have h1 := sumTo_cap hb m (fun t ht => h t (by omega))
  have h2 := h m (by omega)
  unfold sumTo
  rw [show ((m + 1 : Nat) : Int) = (m : Int) + 1 from by omega, Int.add_mul]
  omega
theorem Valid.work {g : List Tk} {rm : List Int} {wk : Int} {st : List Int} (h : Valid g rm wk st) : timeS g ≤ endS g st g.length * wk ∧ ∀ p : Nat, p < 3 → sumTo (fun i => if (rdTk g i).f2 = p then (rdTk g i).f0 * (rdTk g i).f3 else 0) g.length ≤ endS g st g.length * rm.getD p 0 := by
 obtain ⟨m, hm⟩ := Int.eq_ofNat_of_zero_le (endS_nonneg g st g.length)
 have hall : ∀ i, i < g.length → st.getD i 0 + (rdTk g i).f0 ≤ (m : Int) := fun i hi => by
  have := endS_mono g st i _ hi
  omega
 have h0 : ∀ i, i < g.length → 0 ≤ st.getD i 0 := fun i hi => (h.b i hi).1
 obtain ⟨hrm, hwk, _⟩ := placeB_facts h.p
 rw [hm]
 refine ⟨?_, fun p hp => ?_⟩
 ·
  rw [← run_sum h.ok h0 hall]
  exact sumTo_cap (by omega) m (fun t _ => (h.runs t).1)
 ·
  rw [← run_used h.ok h0 hall]
  exact sumTo_cap (by have := ((roomB_facts hrm).2 p hp).1; omega) m (fun t _ => (h.runs t).2 p hp)
theorem plan_one {g : List Tk} (hv : specValid g = true) {rm : List Int} (hrm : roomB rm = true) : endS g (planS g rm 1) g.length = timeS g := by
 have hok := specValid_TOk hv
 have hp : placeB rm 1 = true := by unfold placeB; rw [hrm]; rfl
 have h1 := (plan_valid hv hp).work.1
 have h2 := endS_le (timeS_bound hok).1 g.length (planS_ends hv hrm (Int.le_refl 1))
 omega
end Go.Proofs.YtlapphhcficbjaaGreatDoor

namespace Go.Proofs.YtlapphhcficbjaaGreatDoor
set_option linter.unusedVariables false
set_option linter.unusedSimpArgs false
open Go.RowKit Go.Shelf Bits
theorem longestN_eq {g : List Tk} (hv : specValid g = true) : longestN g = longL (tailsS g) g.length := by
 obtain ⟨ns, hg⟩ := graphN_yes hv
 unfold longestN
 rw [hg]
 show longL (tailN g ns) g.length = _
 rw [tailN_eq hg]
theorem longest_le {g : List Tk} (hv : specValid g = true) {st : List Int} (h0 : ∀ i, i < g.length → 0 ≤ st.getD i 0) (hN : ∀ k, k < g.length → ∀ i : Nat, (i : Int) ∈ (rdTk g k).f1 → st.getD i 0 + (rdTk g i).f0 ≤ st.getD k 0) : longestN g ≤ endS g st g.length := by
 rw [longestN_eq hv]
 exact longS_le h0 hN
theorem vDone_nil {g : List Tk} (hv : specValid g = true) : vDoneB g [] = true := by
 unfold vDoneB
 rw [hv]
 rfl
theorem first_zero {g : List Tk} (hv : specValid g = true) {rm : List Int} (hrm : roomB rm = true) {wk : Int} (hwk : 1 ≤ wk) (hg : 0 < g.length) : ∃ y, 0 < (rdOrdN g []).length ∧ (rdOrdN g []).getD 0 0 = ((y : Nat) : Int) ∧ y < g.length ∧ (planS g rm wk).getD y 0 = 0 := by
 have hok := specValid_TOk hv
 rw [rdOrd_eq]
 have e : sRdOrd g [] = insL (tailsS g) (readyS g []) := by
  unfold sRdOrd
  rw [if_pos (vDone_nil hv)]
 rw [e]
 have h0 : ∀ j, j < g.length → (planL g rm wk 0).getD j 0 = 200 := fun j hj => by
  unfold planL
  rw [List.getD_eq_getElem?_getD, List.getElem?_replicate, if_pos hj]
  rfl
 obtain ⟨x, hx, hrd⟩ := some_ready hv (D := []) ⟨0, hg, by simp⟩
 have hmem : x ∈ insL (tailsS g) (readyS g []) := (insL_perm _ _).mem_iff.2 (List.mem_filter.2 ⟨List.mem_range.2 hx, hrd⟩)
 obtain ⟨y, ys, hys⟩ := List.exists_cons_of_ne_nil (List.ne_nil_of_mem hmem)
 have ho : overS g (planL g rm wk 0) (0 : Nat) = [] := by
  unfold overS
  rw [List.filter_eq_nil_iff]
  intro i hi
  rw [overB_iff, h0 i (List.mem_range.1 hi)]
  have := hok.2.1 i
  omega
 have hrn : runS g (planL g rm wk 0) (0 : Nat) = [] := by
  unfold runS
  rw [List.filter_eq_nil_iff]
  intro i hi
  unfold runB
  rw [h0 i (List.mem_range.1 hi)]
  simp
 have hfl : (readyS g []).filter (idleB (planL g rm wk 0)) = readyS g [] := by
  rw [List.filter_eq_self]
  exact fun a ha => idleB_iff.2 (h0 a (readyS_lt a ha))
 have hn : y ∈ nextS g rm wk (planL g rm wk 0) (0 : Nat) := by
  unfold nextS
  rw [ho, hrn, show ints [] = [] from rfl, hfl, hys]
  exact adm_first hok hrm hwk y ys
 have hyl := nextS_lt _ _ _ _ _ y hn
 have h1 : (planL g rm wk 1).getD y 0 = 0 := by
  rw [show planL g rm wk 1 = stepS g rm wk (planL g rm wk 0) (0 : Nat) from rfl, stepS_get (planL_ok g rm wk 0 (by omega)).1, if_pos hn]
  rfl
 refine ⟨y, by rw [hys]; simp [ints], by rw [hys]; rfl, hyl, ?_⟩
 rw [planL_final (k := 1) (by omega) (by rw [h1]; decide), h1]
theorem firstN_mono {P Q : Nat → Bool} (h : ∀ n, P n = true → Q n = true) : ∀ f n, firstN P f n = -1 ∨ ((n : Int) ≤ firstN Q f n ∧ firstN Q f n ≤ firstN P f n)
 | 0, _ => .inl rfl
 | f + 1, n => by
  have ih := firstN_mono h f (n + 1)
  unfold firstN
  by_cases hp : P n = true
  ·
   rw [if_pos hp, if_pos (h n hp)]
   right
   omega
  ·
   rw [if_neg hp]
   by_cases hq : Q n = true
   ·
    rw [if_pos hq]
    rcases ih with e | e
    ·
     exact .inl e
    ·
     right
     omega
   ·
    rw [if_neg hq]
    rcases ih with e | e
    ·
     exact .inl e
    ·
     right
     omega
theorem later_law {g : List Tk} {rm : List Int} {dl : Int} (h : 0 ≤ wfS g rm dl) (hd : dl ≠ 200) : 1 ≤ wfS g rm (dl + 1) ∧ wfS g rm (dl + 1) ≤ wfS g rm dl := by
 unfold wfS at h ⊢
 by_cases hc : (specValid g && (roomB rm && inB dl 0 200)) = true
 ·
  have hc' := hc
  rw [Bool.and_eq_true, Bool.and_eq_true] at hc
  have h1 := inB_true.1 hc.2.2
  have h2 : inB (dl + 1) 0 200 = true := inB_true.2 (by omega)
  rw [if_pos hc'] at h ⊢
  rw [h2, hc.1, hc.2.1, if_pos (show (true && (true && true)) = true from rfl)]
  rcases firstN_mono (P := meetsB g rm dl) (Q := meetsB g rm (dl + 1)) (fun n hn => by
   unfold meetsB at hn ⊢
   have := of_decide_eq_true hn
   exact decide_eq_true (by omega)) 4 1 with e | e
  ·
   rw [e] at h
   omega
  ·
   omega
 ·
  rw [if_neg hc] at h
  omega
theorem firstN_none {P : Nat → Bool} : ∀ f n, (∀ k, n ≤ k → P k = false) → firstN P f n = -1
 | 0, _, _ => rfl
 | f + 1, n, h => by
  unfold firstN
  rw [if_neg (by rw [h n (Nat.le_refl _)]; simp)]
  exact firstN_none f (n + 1) (fun k hk => h k (by omega))
theorem one_law {g : List Tk} (hv : specValid g = true) {rm : List Int} (hrm : roomB rm = true) (hg : 0 < g.length) : wfS g rm (timeS g) = 1 ∧ wfS g rm (longestN g - 1) = -1 := by
 have hok := specValid_TOk hv
 have hT := timeS_bound hok
 constructor
 ·
  unfold wfS
  rw [hv, hrm, inB_true.2 (show 0 ≤ timeS g ∧ timeS g ≤ 200 by omega), if_pos (show (true && (true && true)) = true from rfl)]
  show (if meetsB g rm (timeS g) 1 then ((1 : Nat) : Int) else _) = 1
  rw [if_pos]
  ·
   rfl
  ·
   unfold meetsB
   exact decide_eq_true (endS_le hT.1 _ (planS_ends hv hrm (Int.le_refl _)))
 ·
  unfold wfS
  split
  ·
   refine firstN_none _ _ (fun k hk => ?_)
   unfold meetsB
   apply decide_eq_false
   have := longest_le hv (st := planS g rm (k : Nat)) (fun i _ => (planS_ok g rm k).2 i |>.1) (fun q hq i hi => planS_needs hv hrm (by omega) hq i hi)
   omega
  ·
   rfl
end Go.Proofs.YtlapphhcficbjaaGreatDoor

namespace Go.Proofs.YtlapphhcficbjaaGreatDoor
set_option linter.unusedVariables false
set_option linter.unusedSimpArgs false
open Go.RowKit Go.Shelf Bits
theorem pS_yes {g : List Tk} {rm : List Int} {wk : Int} (h : pS g rm wk ≠ []) : specValid g = true ∧ placeB rm wk = true ∧ pS g rm wk = planS g rm wk ∧ 0 < g.length := by
 unfold pS at h ⊢
 by_cases hc : (specValid g && placeB rm wk) = true
 ·
  rw [if_pos hc] at h ⊢
  rw [Bool.and_eq_true] at hc
  refine ⟨hc.1, hc.2, rfl, ?_⟩
  rw [← (planS_ok g rm wk).1]
  exact List.length_pos_iff.2 h
 ·
  rw [if_neg hc] at h
  exact absurd rfl h
theorem pS_is {g : List Tk} {rm : List Int} {wk : Int} (hv : specValid g = true) (hp : placeB rm wk = true) : pS g rm wk = planS g rm wk := by
 unfold pS
 rw [hv, hp]
 rfl
theorem placeB_one {rm : List Int} {wk : Int} (h : placeB rm wk = true) : placeB rm 1 = true := by
 unfold placeB
 rw [(placeB_facts h).1]
 rfl
theorem mem_getD0 {l : List Int} {i : Nat} (h : i < l.length) {x : Int} (e : l.getD i 0 = x) : x ∈ l := by
 rw [List.getD_eq_getElem?_getD, List.getElem?_eq_getElem h] at e
 rw [← e]
 exact List.getElem_mem h
theorem plan_law {g : List Tk} {rm : List Int} {wk : Int} (h : pS g rm wk ≠ []) : Valid g rm wk (pS g rm wk) ∧ (0 : Int) ∈ pS g rm wk := by
 obtain ⟨hv, hp, he, hg⟩ := pS_yes h
 rw [he]
 obtain ⟨h1, h2, _⟩ := placeB_facts hp
 obtain ⟨y, _, _, hy, h0⟩ := first_zero hv h1 h2 hg
 exact ⟨plan_valid hv hp, mem_getD0 (by rw [(planS_ok g rm wk).1]; exact hy) h0⟩
theorem plan_one_law {g : List Tk} {rm : List Int} {wk : Int} (h : pS g rm wk ≠ []) : etS g rm 1 (pS g rm 1) = timeS g := by
 obtain ⟨hv, hp, _, hg⟩ := pS_yes h
 have hp1 := placeB_one hp
 rw [pS_is hv hp1, etS_valid (plan_valid hv hp1)]
 exact plan_one hv (placeB_facts hp).1
theorem plan_twice_law {g : List Tk} {rm : List Int} {wk : Int} (h : pS g rm wk ≠ []) : etS g rm wk (pS g rm wk) ≤ timeS g ∧ longestN g ≤ etS g rm wk (pS g rm wk) := by
 obtain ⟨hv, hp, he, hg⟩ := pS_yes h
 obtain ⟨h1, h2, _⟩ := placeB_facts hp
 have hV := plan_valid hv hp
 rw [he, etS_valid hV]
 exact ⟨endS_le (timeS_bound (specValid_TOk hv)).1 _ (planS_ends hv h1 h2), longest_le hv (fun i hi => (hV.b i hi).1) (fun k hk i hi => hV.needs k hk i hi)⟩
theorem plan_busy_law {g : List Tk} {rm : List Int} {wk : Int} (h : pS g rm wk ≠ []) (t : Nat) (ht : (t : Int) < etS g rm wk (pS g rm wk)) : (ints (raS g rm wk (pS g rm wk) t)).length ≠ 0 := by
 obtain ⟨hv, hp, he, hg⟩ := pS_yes h
 have hV := plan_valid hv hp
 rw [he, etS_valid hV] at ht
 rw [he, ints_length]
 unfold raS
 rw [if_pos (valid_vSt hV)]
 exact fun e => plan_busy hv hp ht (List.eq_nil_of_length_eq_zero e)
theorem firstN_is {P : Nat → Bool} : ∀ f n, firstN P f n = -1 ∨ ∃ m : Nat, firstN P f n = m ∧ n ≤ m ∧ m < n + f ∧ P m = true ∧ ∀ k, n ≤ k → k < m → P k = false
 | 0, n => .inl rfl
 | f + 1, n => by
  unfold firstN
  cases hp : P n with
  | true => exact .inr ⟨n, rfl, Nat.le_refl _, by omega, hp, fun k h1 h2 => by omega⟩
  | false =>
   rcases firstN_is (P := P) f (n + 1) with h | ⟨m, h1, h2, h3, h4, h5⟩
   ·
    exact .inl h
   ·
    refine .inr ⟨m, h1, by omega, by omega, h4, fun k hk hm => ?_⟩
    by_cases e : k = n
    ·
     rw [e]; exact hp
    ·
     exact h5 k (by omega) hm
theorem wf_law {g : List Tk} {rm : List Int} {dl : Int} (h : 0 ≤ wfS g rm dl) : ∃ m : Nat, wfS g rm dl = m ∧ 1 ≤ m ∧ m ≤ 4 ∧ ∀ k : Nat, 1 ≤ k → k ≤ m → mdS g rm k (pS g rm k) dl = decide (k = m) := by
 unfold wfS at h ⊢
 by_cases hc : (specValid g && (roomB rm && inB dl 0 200)) = true
 ·
  rw [if_pos hc] at h ⊢
  simp only [Bool.and_eq_true] at hc
  obtain ⟨hv, hrm, hd⟩ := hc
  rcases firstN_is (P := meetsB g rm dl) 4 1 with e | ⟨m, h1, h2, h3, h4, h5⟩
  ·
   omega
  ·
   refine ⟨m, h1, h2, by omega, fun k hk hkm => ?_⟩
   have hp : placeB rm (k : Int) = true := by
    unfold placeB
    rw [hrm, Bool.true_and]
    exact inB_true.2 (by omega)
   have hV := plan_valid hv hp
   rw [pS_is hv hp]
   unfold mdS
   rw [valid_vSt hV, hd, Bool.true_and, Bool.true_and]
   show meetsB g rm dl k = _
   by_cases e : k = m
   ·
    rw [decide_eq_true e, e, h4]
   ·
    rw [decide_eq_false e, h5 k hk (by omega)]
 ·
  rw [if_neg hc] at h
  omega
end Go.Proofs.YtlapphhcficbjaaGreatDoor

namespace Go.Proofs.YtlapphhcficbjaaGreatDoor
set_option linter.unusedVariables false
set_option linter.unusedSimpArgs false
open Go.RowKit Go.Shelf Bits
theorem one_most {g : List Tk} {rm : List Int} (hv : specValid g = true) (hrm : roomB rm = true) (hg : 0 < g.length) : (replayB g (lgS g rm 1 (pS g rm 1))).isSome = true ∧ mostB g (lgS g rm 1 (pS g rm 1)) = 1 := by
 have hp : placeB rm 1 = true := by unfold placeB; rw [hrm]; rfl
 rw [pS_is hv hp]
 have hV := plan_valid hv hp
 have hok := specValid_TOk hv
 have he := plan_one hv hrm
 have hT := timeS_bound hok
 have hr := lg_replay hV (fun i hi => by
  have := etS_ge hV hi
  rw [etS_valid hV, he] at this
  omega)
 refine ⟨hr, ?_⟩
 rw [lg_most hV hr]
 have h1 := mxR_workers hV
 have h2 := mxR_ge g (planS g rm 1) (i := 0) g.length hg
 have h3 : 0 < (runS g (planS g rm 1) ((planS g rm 1).getD 0 0)).length := by
  apply List.length_pos_of_mem (a := 0)
  unfold runS
  rw [List.mem_filter]
  refine ⟨List.mem_range.2 hg, runB_iff.2 ⟨Int.le_refl _, ?_⟩⟩
  have := hok.2.2.2.2 0 hg
  omega
 omega
end Go.Proofs.YtlapphhcficbjaaGreatDoor

namespace Go.Proofs.YtlapphhcficbjaaGreatDoor
set_option linter.unusedVariables false
set_option linter.unusedSimpArgs false
open Go.RowKit Go.Shelf Bits
open Go.Proofs.YtlapphhcficbjaaGreatDoorW.PrintWords Go.Proofs.YtlapphhcficbjaaGreatDoorW.PrintLast Go.Proofs.YtlapphhcficbjaaGreatDoorW.PrintMore
theorem C_nilI (w : World) : (Kd.int .i64).C w none 0 [] := ⟨rfl, by simp, fun hn => absurd hn (by simp)⟩
theorem ValidGraph_is (b : Bool) (A : Option Addr) (c : Nat) (g : List Tk) (h : Hid (specValid g = b)) (w : World) (hr : kTk.C w A g.length g) (hT : Tab w) :
  Calls Tryz.prog 20 #[.slice A g.length c] w fun e w' => e = .returned (.bool b) ∧ Below w.heap.size w w' := by
 have hv := h.out
 rw [specValid_eq] at hv
 cases hg : graphN g with
 | none =>
  rw [hg] at hv
  obtain rfl : b = false := hv.symm
  have HP := Lib.hid (graphOf_no A c g w hr hg)
  clear hr hT hg h hv
  go_enter Tryz.func20, Tryz.ntmps20
  go_wp2_with (go_at_call 49; refine HP.out.mono ?_; rintro e w1 ⟨rfl, hB1⟩)
  go_ret
  exact ⟨rfl, hB1⟩
 | some ns =>
  rw [hg] at hv
  obtain rfl : b = true := hv.symm
  have HP := Lib.hid (graphOf_yes A c g ns w hr hT hg)
  clear hr hT hg h hv
  go_enter Tryz.func20, Tryz.ntmps20
  go_wp2_with (go_at_call 49; refine HP.out.mono ?_; rintro e w1 ⟨C, rfl, hG, hB1⟩)
  go_ret
  exact ⟨rfl, hB1⟩
end Go.Proofs.YtlapphhcficbjaaGreatDoor
