/- impl MostTogether, total, BusyTime. -/
import Derived.Test.YtlcdffhhimbbmaaDoorValidLog
namespace Go.Proofs.YtlcdffhhimbbmaaDoor
set_option linter.unusedVariables false
set_option linter.unusedSimpArgs false
open Go.RowKit Go.Shelf Bits
open Go.Proofs.YtlcdffhhimbbmaaDoorW.PrintWords Go.Proofs.YtlcdffhhimbbmaaDoorW.PrintLast Go.Proofs.YtlcdffhhimbbmaaDoorW.PrintMore

/-- How many tasks run at most, by the plain replay. -/
def mostB (g : List Tk) (log : List Ev) : Int := match replayB g log with
  | some p => p.2
  | none => -1

section
variable (A : Option Addr) (c : Nat) (g : List Tk) (A' : Option Addr) (c' : Nat) (log : List Ev) (w : World)
theorem replay_miss (hr : kTk.C w A g.length g) (hr' : kEv.C w A' log.length log) (hT : Tab w) (hb : replayB g log = none) :
    Calls Tryd.prog 30 #[.slice A g.length c, .slice A' log.length c'] w fun e w' => e = .returned (.tuple #[.pointer none, .int .i64 0, .bool false]) ∧ Below w.heap.size w w' :=
  (replay_all A c g A' c' log w hr hr' hT).mono fun e w' h => by unfold ReplayAll at h; rw [hb] at h; exact h
theorem replay_hit (hr : kTk.C w A g.length g) (hr' : kEv.C w A' log.length log) (hT : Tab w) (p : Mach × Int) (hb : replayB g log = some p) :
    Calls Tryd.prog 30 #[.slice A g.length c, .slice A' log.length c'] w fun e w' => ∃ h C ns, graphN g = some ns ∧ e = .returned (.tuple #[.pointer (some ⟨h, 0, none⟩), .int .i64 p.2, .bool true]) ∧ MAt h C p.1 w' ∧ IsGraph w' C g ns ∧ MInv p.1 ∧ Below w.heap.size w w' :=
  (replay_all A c g A' c' log w hr hr' hT).mono fun e w' h => by unfold ReplayAll at h; rw [hb] at h; exact h

set_option maxRecDepth 100000 in
theorem MostTogether_impl (hr : kTk.C w A g.length g) (hr' : kEv.C w A' log.length log) (hT : Tab w) :
    Calls Tryd.prog 23 #[.slice A g.length c, .slice A' log.length c'] w fun e w' => e = .returned (.int .i64 (mostB g log)) ∧ Below w.heap.size w w' := by
  cases hb : replayB g log with
  | none =>
    have HP := Lib.hid (replay_miss A c g A' c' log w hr hr' hT hb)
    have HF : Hid (mostB g log = -1) := Lib.hid (by unfold mostB; rw [hb])
    clear hr hr' hT hb
    go_enter Tryd.func23, Tryd.ntmps23
    go_wp2_with (go_at_call 30; refine HP.out.mono ?_; rintro e w1 ⟨rfl, hB1⟩)
    go_ret
    exact ⟨ret_int HF.out.symm, hB1⟩
  | some p =>
    have HP := Lib.hid (replay_hit A c g A' c' log w hr hr' hT p hb)
    have HF : Hid (mostB g log = p.2) := Lib.hid (by unfold mostB; rw [hb])
    clear hr hr' hT hb
    go_enter Tryd.func23, Tryd.ntmps23
    go_wp2_with (go_at_call 30; refine HP.out.mono ?_; rintro e w1 ⟨h, C, ns, hg, rfl, hM, hG, hI, hB1⟩)
    go_ret
    exact ⟨ret_int HF.out.symm, hB1⟩
end
end Go.Proofs.YtlcdffhhimbbmaaDoor
