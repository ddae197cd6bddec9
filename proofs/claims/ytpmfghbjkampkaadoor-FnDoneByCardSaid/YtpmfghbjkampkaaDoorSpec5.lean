/- The reference's logs: validLog, ValidLog. -/
import Derived.Test.YtpmfghbjkampkaaDoorSpec4
import Derived.StillTailTactics
import Derived.Test.YtpmfghbjkampkaaDoorGraph
namespace Go.Proofs.YtpmfghbjkampkaaDoor
set_option linter.unusedVariables false
set_option linter.unusedSimpArgs false
open Go.RowKit Go.Shelf Bits
open Go.Proofs.YtpmfghbjkampkaaDoorW.PrintWords Go.Proofs.YtpmfghbjkampkaaDoorW.PrintLast Go.Proofs.YtpmfghbjkampkaaDoorW.PrintMore
def eventOkB (g : List Tk) (log : List Ev) (k : Nat) : Bool :=
 inB (rdEv log k).f0 0 200 && !(decide (0 < k) && decide ((rdEv log k).f0 < (rdEv log (k - 1)).f0)) && inB (rdEv log k).f1 0 (g.length - 1) && eventFitsB g log k
def validLogB (g : List Tk) (log : List Ev) : Bool := specValid g && decide (log.length ≤ 16) && (List.range log.length).all (eventOkB g log)
theorem specValid_time {g : List Tk} (h : specValid g = true) (i : Nat) : 0 ≤ (rdTk g i).f0 ∧ (rdTk g i).f0 ≤ 20 := by
 unfold specValid tasksFineB at h
 simp only [Bool.and_eq_true, List.all_eq_true] at h
 by_cases hi : i < g.length
 ·
  have := h.1.1 (rdTk g i) (by simp only [rdTk, List.getD_eq_getElem?_getD, List.getElem?_eq_getElem hi]; exact List.getElem_mem _)
  simp only [taskFineB, Bool.and_eq_true] at this
  have := inB_true.1 this.1.1.1.1
  omega
 ·
  simp [rdTk, List.getD_eq_getElem?_getD, List.getElem?_eq_none (Nat.le_of_not_lt hi), zTk]
set_option maxRecDepth 100000 in
set_option maxHeartbeats 40000000 in
theorem validLog_calls (A : Option Addr) (c : Nat) (g : List Tk) (A' : Option Addr) (c' : Nat) (log : List Ev) (w : World) (hr : kTk.C w A g.length g) (hr' : kEv.C w A' log.length log) :
  Calls Tryd.prog 62 #[.slice A g.length c, .slice A' log.length c'] w fun e w' => e = .returned (.bool (validLogB g log)) ∧ Below w.heap.size w w' := by
 have hgl := (C_len hr).2
 have hll := (C_len hr').2
 have HR := Lib.hid hr
 have HR' := Lib.hid hr'
 clear hr hr'
 cases hg : specValid g
 ·
  have HG := Lib.hid hg
  have HF : Hid (validLogB g log = false) := Lib.hid (by unfold validLogB; rw [hg]; rfl)
  clear hg
  go_enter Tryd.func62, Tryd.ntmps62
  go_wp2_with (go_at_call 40; refine (validGraph_is _ _ _ _ HG _ HR.out).mono ?_; rintro e w1 ⟨rfl, hB1⟩)
  go_ret
  exact ⟨ret_bool HF.out.symm, hB1⟩
 ·
  have HG := Lib.hid hg
  have HTM := Lib.hid (specValid_time hg)
  by_cases hlen : log.length ≤ 16
  ·
   have hd16 : decide ((16 : Int) < (log.length : Int)) = false := decide_eq_false (by omega)
   have HV : Hid (validLogB g log = (List.range log.length).all (eventOkB g log)) := Lib.hid (by unfold validLogB; rw [hg, decide_eq_true hlen]; rfl)
   clear hg
   go_enter Tryd.func62, Tryd.ntmps62
   go_wp2_with (go_at_call 40; refine (validGraph_is _ _ _ _ HG _ HR.out).mono ?_; rintro e w1 ⟨rfl, hB1⟩)
   go_loopw [5] (fun i wr => ∃ (k : Nat), k ≤ log.length ∧ i = .int .i64 k ∧ Hid (∀ j, j < k → eventOkB g log j = true) ∧ Below w.heap.size w wr) (fun i _ => log.length - (intOf i).toNat)
   case atStart => exact ⟨0, Nat.zero_le _, rfl, Lib.hid fun j h => absurd h (Nat.not_lt_zero _), hB1⟩
   case round =>
    clear hB1
    obtain ⟨k, hk, rfl, HS, hB⟩ := hrel
    rcases Nat.eq_zero_or_pos k with rfl | hkpos
    ·
     rw [Int.natCast_zero]
     by_cases hlt : 0 < log.length
     ·
      have HNO : Hid (eventOkB g log 0 = false → validLogB g log = false) := Lib.hid fun h => by
       rw [HV.out, List.all_eq_false]
       exact ⟨0, List.mem_range.2 hlt, by rw [h]; simp⟩
      have hx : ∃ ad, A' = some ad ∧ wr.cell? ad = some (.int .i64 (rdEv log 0).f0) ∧ wr.cell? ⟨ad.block, ad.off + 1, none⟩ = some (.int .i64 (rdEv log 0).f1) := by
       obtain ⟨ad, e, x0, x1, _⟩ := at_Ev (Kd.C_below HR'.out hB) 0 hlt
       simp at x0 x1
       exact ⟨ad, e, x0, x1⟩
      obtain ⟨ad, rfl, hx0, hx1⟩ := hx
      have hlti : (0 : Int) < (log.length : Int) := by omega
      cases h0 : inB (rdEv log 0).f0 0 200
      ·
       have H0 := Lib.hid h0
       have HF := Lib.hid (HNO.out (by unfold eventOkB; rw [h0]; rfl))
       clear h0
       generalize rdEv log 0 = x at *
       go_wp2
       (go_quiet ((go_at_call 42; first | (with_reducible exact Calls.quiet_of_same (inRange_is _ _ _ _ H0 _)))))
       go_wp2
       go_ret
       exact ⟨ret_bool HF.out.symm, pw_below_drewN hB _⟩
      ·
       have H0 := Lib.hid h0
       clear h0
       have HEV : Hid (inB (rdEv log 0).f1 0 (g.length - 1) = true → ∀ W, kTk.C W A g.length g → kEv.C W (some ad) log.length log →
         Calls Tryd.prog 100 #[.slice A g.length c, .slice (some ad) log.length c', .int .i64 0] W fun e w' => e = .returned (.bool (eventFitsB g log 0)) ∧ Below W.heap.size W w') := Lib.hid fun h W hg1 hl1 => by
        have hin := inB_true.1 h
        exact eventFits_calls _ _ _ _ _ _ _ hlt hlen _ hg1 hl1 (fun e he => by simp at he) hin.1 (by omega) HTM.out
       cases h1 : inB (rdEv log 0).f1 0 (g.length - 1)
       ·
        have H1 := Lib.hid h1
        have HF := Lib.hid (HNO.out (by unfold eventOkB; rw [h1]; simp))
        clear h1 HEV
        generalize rdEv log 0 = x at *
        have hwg : IntKind.i64.wrap ((g.length : Int) - 1) = (g.length : Int) - 1 := IntWalk.i64_in _ (by omega)
        go_wp2
        (go_quiet ((go_at_call 42; first | (with_reducible exact Calls.quiet_of_same (inRange_is _ _ _ _ H0 _)) | (with_reducible exact Calls.quiet_of_same (inRange_is _ _ _ _ H1 _)))))
        clear hwg
        go_wp2
        go_ret
        exact ⟨ret_bool HF.out.symm, pw_below_drewN hB _⟩
       ·
        have H1 := Lib.hid h1
        have HEV2 := HEV.out h1
        clear HEV
        cases h2 : eventFitsB g log 0
        ·
         have HF := Lib.hid (HNO.out (by unfold eventOkB; rw [h2]; simp))
         rw [h2] at HEV2
         have HEV3 := Lib.hid HEV2
         clear HEV2 h1 h2
         generalize rdEv log 0 = x at *
         have hwg : IntKind.i64.wrap ((g.length : Int) - 1) = (g.length : Int) - 1 := IntWalk.i64_in _ (by omega)
         go_wp2
         go_still_tail 41, mixed
         (with_reducible refine wpStill_step (fun K hK => ?_); go_simp; refine ⟨_, (inRange_is _ _ _ _ H0 _), ?_⟩; with_reducible refine hK _ ?_; clear hK K)
         repeat (with_reducible refine wpStill_step (fun K hK => ?_); go_simp; with_reducible refine hK _ ?_; clear hK K)
         (with_reducible refine wpStill_step (fun K hK => ?_); go_simp; refine ⟨_, (inRange_is _ _ _ _ H1 _), ?_⟩; with_reducible refine hK _ ?_; clear hK K)
         repeat (with_reducible refine wpStill_step (fun K hK => ?_); go_simp; with_reducible refine hK _ ?_; clear hK K)
         with_reducible refine wpStill_nil ?_
         clear hwg
         change wpList _ _ _ _ _ wr.drew
         go_wp2_with (go_at_call 100; refine ((HEV3.out _ (Kd.C_below HR.out hB.drew) (Kd.C_below HR'.out hB.drew)).mono ?_); rintro e w2 ⟨rfl, hB2⟩)
         go_ret
         exact ⟨ret_bool HF.out.symm, below_step hB.drew hB2⟩
        ·
         have HN2 := Lib.hid (step_lt HS (show eventOkB g log 0 = true by unfold eventOkB; rw [H0.out, H1.out, h2]; simp))
         rw [h2] at HEV2
         have HEV3 := Lib.hid HEV2
         clear HEV2 h1 h2
         generalize rdEv log 0 = x at *
         have hwg : IntKind.i64.wrap ((g.length : Int) - 1) = (g.length : Int) - 1 := IntWalk.i64_in _ (by omega)
         go_wp2
         go_still_tail 41, mixed
         (with_reducible refine wpStill_step (fun K hK => ?_); go_simp; refine ⟨_, (inRange_is _ _ _ _ H0 _), ?_⟩; with_reducible refine hK _ ?_; clear hK K)
         repeat (with_reducible refine wpStill_step (fun K hK => ?_); go_simp; with_reducible refine hK _ ?_; clear hK K)
         (with_reducible refine wpStill_step (fun K hK => ?_); go_simp; refine ⟨_, (inRange_is _ _ _ _ H1 _), ?_⟩; with_reducible refine hK _ ?_; clear hK K)
         repeat (with_reducible refine wpStill_step (fun K hK => ?_); go_simp; with_reducible refine hK _ ?_; clear hK K)
         with_reducible refine wpStill_nil ?_
         clear hwg
         change wpList _ _ _ _ _ wr.drew
         go_wp2_with (go_at_call 100; refine ((HEV3.out _ (Kd.C_below HR.out hB.drew) (Kd.C_below HR'.out hB.drew)).mono ?_); rintro e w2 ⟨rfl, hB2⟩)
         go_roundw
         case rel => exact ⟨1, by omega, by go_num, HN2.out, below_step hB.drew hB2⟩
         case measure => simp [intOf]; omega
     ·
      have HF : Hid (validLogB g log = true) := Lib.hid (by
       rw [HV.out, List.all_eq_true]
       exact fun j hj => absurd (List.mem_range.1 hj) (by omega))
      go_wp2
      go_ret
      exact ⟨ret_bool HF.out.symm, hB⟩
    ·
     by_cases hlt : k < log.length
     ·
      have HNO : Hid (eventOkB g log k = false → validLogB g log = false) := Lib.hid fun h => by
       rw [HV.out, List.all_eq_false]
       exact ⟨k, List.mem_range.2 hlt, by rw [h]; simp⟩
      obtain ⟨ad, rfl, hx0, hx1, hx2⟩ := at_Ev (Kd.C_below HR'.out hB) k hlt
      have HPV : 0 < k → ∃ y, y = (rdEv log (k - 1)).f0 ∧ wr.cell? (ad.add ((k - 1) * 3)) = some (.int .i64 y) := fun h0 => by
       obtain ⟨ad', e, hy0, _, _⟩ := at_Ev (Kd.C_below HR'.out hB) (k - 1) (by omega)
       cases e
       exact ⟨_, rfl, hy0⟩
      cases h0 : inB (rdEv log k).f0 0 200
      ·
       have H0 := Lib.hid h0
       have HF := Lib.hid (HNO.out (by unfold eventOkB; rw [h0]; rfl))
       clear h0 HPV
       generalize rdEv log k = x at *
       go_wp2
       (go_quiet ((go_at_call 42; first | (with_reducible exact Calls.quiet_of_same (inRange_is _ _ _ _ H0 _)))))
       go_wp2
       go_ret
       exact ⟨ret_bool HF.out.symm, pw_below_drewN hB _⟩
      ·
       have H0 := Lib.hid h0
       clear h0
       have HEV : Hid (inB (rdEv log k).f1 0 (g.length - 1) = true → ∀ W, kTk.C W A g.length g → kEv.C W (some ad) log.length log →
         Calls Tryd.prog 100 #[.slice A g.length c, .slice (some ad) log.length c', .int .i64 k] W fun e w' => e = .returned (.bool (eventFitsB g log k)) ∧ Below W.heap.size W w') := Lib.hid fun h W hg1 hl1 => by
        have hin := inB_true.1 h
        refine eventFits_calls _ _ _ _ _ _ _ hlt hlen _ hg1 hl1 (fun e he => ?_) hin.1 (by omega) HTM.out
        obtain ⟨j, hj, rfl⟩ := List.getElem_of_mem he
        rw [List.length_take] at hj
        have := HS.out j (by omega)
        unfold eventOkB at this
        simp only [Bool.and_eq_true] at this
        have h3 := inB_true.1 this.1.1.1
        rw [List.getElem_take]
        simpa [rdEv, List.getD_eq_getElem?_getD, List.getElem?_eq_getElem (show j < log.length by omega)] using h3
       have hk0 := hkpos
       have dk : decide ((0 : Int) < (k : Int)) = true := decide_eq_true (by omega)
       obtain ⟨y, hye, hy⟩ := HPV hk0
       clear HPV
       have HYE := Lib.hid hye
       clear hye
       by_cases hlt2 : (rdEv log k).f0 < y
       ·
        have d2 : decide ((rdEv log k).f0 < y) = true := decide_eq_true hlt2
        have HF := Lib.hid (HNO.out (by unfold eventOkB; rw [← HYE.out, d2, decide_eq_true hk0]; simp))
        clear HEV hlt2
        generalize rdEv log k = x at *
        go_wp2
        (go_quiet ((go_at_call 42; first | (with_reducible exact Calls.quiet_of_same (inRange_is _ _ _ _ H0 _)))))
        go_wp2
        go_ret
        exact ⟨ret_bool HF.out.symm, pw_below_drewN hB _⟩
       ·
        have d2 : decide ((rdEv log k).f0 < y) = false := decide_eq_false hlt2
        have HPF : Hid ((!(decide (0 < k) && decide ((rdEv log k).f0 < (rdEv log (k - 1)).f0))) = true) := Lib.hid (by rw [← HYE.out, d2]; simp)
        clear hlt2
        cases h1 : inB (rdEv log k).f1 0 (g.length - 1)
        ·
         have H1 := Lib.hid h1
         have HF := Lib.hid (HNO.out (by unfold eventOkB; rw [h1]; simp))
         clear h1 HEV
         generalize rdEv log k = x at *
         go_wp2
         (go_quiet ((go_at_call 42; first | (with_reducible exact Calls.quiet_of_same (inRange_is _ _ _ _ H0 _)) | (with_reducible exact Calls.quiet_of_same (inRange_is _ _ _ _ H1 _)))))
         go_wp2
         go_ret
         exact ⟨ret_bool HF.out.symm, pw_below_drewN hB _⟩
        ·
         have H1 := Lib.hid h1
         have HEV2 := HEV.out h1
         clear HEV
         cases h2 : eventFitsB g log k
         ·
          have HF := Lib.hid (HNO.out (by unfold eventOkB; rw [h2]; simp))
          rw [h2] at HEV2
          have HEV3 := Lib.hid HEV2
          clear HEV2 h1 h2 HPF
          generalize rdEv log k = x at *
          have hw3 : (0 : Int) ≤ (k : Int) - 1 := by omega
          have hw4 : (1 : Int) ≤ (k : Int) := by omega
          have hw5 : (k : Int) - 1 < (log.length : Int) := by omega
          have hw2 : ((k : Int) - 1).toNat = k - 1 := by omega
          have hwg : IntKind.i64.wrap ((g.length : Int) - 1) = (g.length : Int) - 1 := IntWalk.i64_in _ (by omega)
          have hw1 : IntKind.i64.wrap ((k : Int) - 1) = (k : Int) - 1 := IntWalk.i64_in _ (by clear hwg; omega)
          go_wp2
          go_still_tail 41, mixed
          (with_reducible refine wpStill_step (fun K hK => ?_); go_simp; refine ⟨_, (inRange_is _ _ _ _ H0 _), ?_⟩; with_reducible refine hK _ ?_; clear hK K)
          repeat (with_reducible refine wpStill_step (fun K hK => ?_); go_simp; with_reducible refine hK _ ?_; clear hK K)
          (with_reducible refine wpStill_step (fun K hK => ?_); go_simp; refine ⟨_, (inRange_is _ _ _ _ H1 _), ?_⟩; with_reducible refine hK _ ?_; clear hK K)
          repeat (with_reducible refine wpStill_step (fun K hK => ?_); go_simp; with_reducible refine hK _ ?_; clear hK K)
          with_reducible refine wpStill_nil ?_
          clear hwg hw1 hw2
          change wpList _ _ _ _ _ wr.drew
          go_wp2_with (go_at_call 100; refine ((HEV3.out _ (Kd.C_below HR.out hB.drew) (Kd.C_below HR'.out hB.drew)).mono ?_); rintro e w2 ⟨rfl, hB2⟩)
          go_ret
          exact ⟨ret_bool HF.out.symm, below_step hB.drew hB2⟩
         ·
          have HN2 := Lib.hid (step_lt HS (show eventOkB g log k = true by unfold eventOkB; rw [H0.out, H1.out, h2, HPF.out]; rfl))
          rw [h2] at HEV2
          have HEV3 := Lib.hid HEV2
          clear HEV2 h1 h2 HPF
          generalize rdEv log k = x at *
          have hw3 : (0 : Int) ≤ (k : Int) - 1 := by omega
          have hw4 : (1 : Int) ≤ (k : Int) := by omega
          have hw5 : (k : Int) - 1 < (log.length : Int) := by omega
          have hw2 : ((k : Int) - 1).toNat = k - 1 := by omega
          have hwg : IntKind.i64.wrap ((g.length : Int) - 1) = (g.length : Int) - 1 := IntWalk.i64_in _ (by omega)
          have hw1 : IntKind.i64.wrap ((k : Int) - 1) = (k : Int) - 1 := IntWalk.i64_in _ (by clear hwg; omega)
          go_wp2
          go_still_tail 41, mixed
          (with_reducible refine wpStill_step (fun K hK => ?_); go_simp; refine ⟨_, (inRange_is _ _ _ _ H0 _), ?_⟩; with_reducible refine hK _ ?_; clear hK K)
          repeat (with_reducible refine wpStill_step (fun K hK => ?_); go_simp; with_reducible refine hK _ ?_; clear hK K)
          (with_reducible refine wpStill_step (fun K hK => ?_); go_simp; refine ⟨_, (inRange_is _ _ _ _ H1 _), ?_⟩; with_reducible refine hK _ ?_; clear hK K)
          repeat (with_reducible refine wpStill_step (fun K hK => ?_); go_simp; with_reducible refine hK _ ?_; clear hK K)
          with_reducible refine wpStill_nil ?_
          clear hwg hw1 hw2
          change wpList _ _ _ _ _ wr.drew
          go_wp2_with (go_at_call 100; refine ((HEV3.out _ (Kd.C_below HR.out hB.drew) (Kd.C_below HR'.out hB.drew)).mono ?_); rintro e w2 ⟨rfl, hB2⟩)
          go_roundw
          case rel => exact ⟨k + 1, by omega, by go_num, HN2.out, below_step hB.drew hB2⟩
          case measure => simp [intOf]; omega
     ·
      have HF : Hid (validLogB g log = true) := Lib.hid (by
       rw [HV.out, List.all_eq_true]
       exact fun j hj => HS.out j (by have := List.mem_range.1 hj; omega))
      go_wp2
      go_ret
      exact ⟨ret_bool HF.out.symm, hB⟩
  ·
   have HF : Hid (validLogB g log = false) := Lib.hid (by unfold validLogB; rw [decide_eq_false hlen]; simp)
   have hd16 : decide ((16 : Int) < (log.length : Int)) = true := decide_eq_true (by omega)
   clear hg
   go_enter Tryd.func62, Tryd.ntmps62
   go_wp2_with (go_at_call 40; refine (validGraph_is _ _ _ _ HG _ HR.out).mono ?_; rintro e w1 ⟨rfl, hB1⟩)
   go_ret
   exact ⟨ret_bool HF.out.symm, hB1⟩
end Go.Proofs.YtpmfghbjkampkaaDoor
