/- impl MostTogether, total, BusyTime. -/
import Derived.Test.YtpmfghbjkampkaaDoorValidLog
namespace Go.Proofs.YtpmfghbjkampkaaDoor
set_option linter.unusedVariables false
set_option linter.unusedSimpArgs false
open Go.RowKit Go.Shelf Bits
open Go.Proofs.YtpmfghbjkampkaaDoorW.PrintWords Go.Proofs.YtpmfghbjkampkaaDoorW.PrintLast Go.Proofs.YtpmfghbjkampkaaDoorW.PrintMore
def mostB (g : List Tk) (log : List Ev) : Int := match replayB g log with
 | some p => p.2
 | none => -1
section
variable (A : Option Addr) (c : Nat) (g : List Tk) (A' : Option Addr) (c' : Nat) (log : List Ev) (w : World)
theorem replay_miss (hr : kTk.C w A g.length g) (hr' : kEv.C w A' log.length log) (hT : Tab w) (hb : replayB g log = none) :
  Calls Tryd.prog 58 #[.slice A g.length c, .slice A' log.length c'] w fun e w' => e = .returned (.tuple #[.pointer none, .int .i64 0, .bool false]) ∧ Below w.heap.size w w' :=
 (replay_all A c g A' c' log w hr hr' hT).mono fun e w' h => by unfold ReplayAll at h; rw [hb] at h; exact h
theorem replay_hit (hr : kTk.C w A g.length g) (hr' : kEv.C w A' log.length log) (hT : Tab w) (p : Mach × Int) (hb : replayB g log = some p) :
  Calls Tryd.prog 58 #[.slice A g.length c, .slice A' log.length c'] w fun e w' => ∃ h C ns, graphN g = some ns ∧ e = .returned (.tuple #[.pointer (some ⟨h, 0, none⟩), .int .i64 p.2, .bool true]) ∧ MAt h C p.1 w' ∧ IsGraph w' C g ns ∧ MInv p.1 ∧ Below w.heap.size w w' :=
 (replay_all A c g A' c' log w hr hr' hT).mono fun e w' h => by unfold ReplayAll at h; rw [hb] at h; exact h
end
end Go.Proofs.YtpmfghbjkampkaaDoor
