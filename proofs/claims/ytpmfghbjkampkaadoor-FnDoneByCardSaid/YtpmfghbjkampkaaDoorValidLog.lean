/- impl ValidLog: what it says, by the plain replay. -/
import Derived.Test.YtpmfghbjkampkaaDoorReplay
import Derived.Test.YtpmfghbjkampkaaDoorPlain2
namespace Go.Proofs.YtpmfghbjkampkaaDoor
set_option linter.unusedVariables false
set_option linter.unusedSimpArgs false
open Go.RowKit Go.Shelf Bits
open Go.Proofs.YtpmfghbjkampkaaDoorW.PrintWords Go.Proofs.YtpmfghbjkampkaaDoorW.PrintLast Go.Proofs.YtpmfghbjkampkaaDoorW.PrintMore
def replayB (g : List Tk) (log : List Ev) : Option (Mach × Int) :=
 (graphN g).bind fun ns => if log.length ≤ 16 then replayN g ns log log.length else none
set_option maxRecDepth 100000 in
set_option maxHeartbeats 8000000 in
theorem replay_nograph (A : Option Addr) (c : Nat) (g : List Tk) (A' : Option Addr) (c' : Nat) (log : List Ev) (w : World) (hr : kTk.C w A g.length g) (hg : graphN g = none) (hll : log.length ≤ 9223372036854775807) :
  Calls Tryd.prog 58 #[.slice A g.length c, .slice A' log.length c'] w fun e w' => e = .returned (.tuple #[.pointer none, .int .i64 0, .bool false]) ∧ Below w.heap.size w w' := by
 have HR := Lib.hid hr
 have HG := Lib.hid hg
 clear hr hg
 go_enter Tryd.func58, Tryd.ntmps58
 go_wp2_with (go_at_call 79; refine (graphOf_no _ _ _ _ HR.out HG.out).mono ?_; rintro e w1 ⟨rfl, hB1⟩)
 go_ret3
 exact ⟨rfl, hB1⟩
set_option maxRecDepth 100000 in
set_option maxHeartbeats 8000000 in
theorem replay_long (A : Option Addr) (c : Nat) (g : List Tk) (A' : Option Addr) (c' : Nat) (log : List Ev) (w : World) (ns : List Nat) (hr : kTk.C w A g.length g) (hT : Tab w) (hg : graphN g = some ns) (hlen : 16 < log.length) (hll : log.length ≤ 9223372036854775807) :
  Calls Tryd.prog 58 #[.slice A g.length c, .slice A' log.length c'] w fun e w' => e = .returned (.tuple #[.pointer none, .int .i64 0, .bool false]) ∧ Below w.heap.size w w' := by
 have hd16 : decide ((16 : Int) < (log.length : Int)) = true := decide_eq_true (by omega)
 have HR := Lib.hid hr
 have HT := Lib.hid hT
 have HG := Lib.hid hg
 clear hr hg hT
 go_enter Tryd.func58, Tryd.ntmps58
 go_wp2_with (go_at_call 79; refine (graphOf_yes _ _ _ _ _ HR.out HT.out HG.out).mono ?_; rintro e w1 ⟨C, rfl, hC, hB1⟩)
 go_ret3
 exact ⟨rfl, hB1⟩
def ReplayAll (g : List Tk) (log : List Ev) (w : World) (e : Ending) (w' : World) : Prop :=
 match replayB g log with
 | some p => ∃ h C ns, graphN g = some ns ∧ e = .returned (.tuple #[.pointer (some ⟨h, 0, none⟩), .int .i64 p.2, .bool true]) ∧ MAt h C p.1 w' ∧ IsGraph w' C g ns ∧ MInv p.1 ∧ Below w.heap.size w w'
 | none => e = .returned (.tuple #[.pointer none, .int .i64 0, .bool false]) ∧ Below w.heap.size w w'
theorem replay_all (A : Option Addr) (c : Nat) (g : List Tk) (A' : Option Addr) (c' : Nat) (log : List Ev) (w : World) (hr : kTk.C w A g.length g) (hr' : kEv.C w A' log.length log) (hT : Tab w) :
  Calls Tryd.prog 58 #[.slice A g.length c, .slice A' log.length c'] w fun e w' => ReplayAll g log w e w' := by
 have hll := (C_len hr').2
 cases hg : graphN g with
 | none =>
  refine (replay_nograph A c g A' c' log w hr hg hll).mono fun e w' h => ?_
  unfold ReplayAll replayB
  rw [hg]
  exact h
 | some ns =>
  by_cases hlen : log.length ≤ 16
  ·
   refine (replay_calls A c g A' c' log w ns hr hr' hT hg hlen (graphN_time hg) (graphN_need_u16 hg)).mono fun e w' h => ?_
   unfold ReplayPost at h
   unfold ReplayAll replayB
   rw [hg, Option.bind_some, if_pos hlen]
   split at h
   ·
    rename_i p hp
    rw [hp]
    obtain ⟨m, C, h1, h2, h3, h4, h5⟩ := h
    exact ⟨m, C, ns, rfl, h1, h2, h3, h4, h5⟩
   ·
    rename_i hp
    rw [hp]
    exact h
  ·
   refine (replay_long A c g A' c' log w ns hr hT hg (by omega) hll).mono fun e w' h => ?_
   unfold ReplayAll replayB
   rw [hg, Option.bind_some, if_neg hlen]
   exact h
set_option maxRecDepth 100000 in
theorem ValidLog_impl (A : Option Addr) (c : Nat) (g : List Tk) (A' : Option Addr) (c' : Nat) (log : List Ev) (w : World) (hr : kTk.C w A g.length g) (hr' : kEv.C w A' log.length log) (hT : Tab w) :
  Calls Tryd.prog 27 #[.slice A g.length c, .slice A' log.length c'] w fun e w' => e = .returned (.bool (replayB g log).isSome) ∧ Below w.heap.size w w' := by
 cases hb : replayB g log with
 | none =>
  have HP : Hid (Calls Tryd.prog 58 #[.slice A g.length c, .slice A' log.length c'] w fun e w' => e = .returned (.tuple #[.pointer none, .int .i64 0, .bool false]) ∧ Below w.heap.size w w') := Lib.hid ((replay_all A c g A' c' log w hr hr' hT).mono fun e w' h => by unfold ReplayAll at h; rw [hb] at h; exact h)
  clear hr hr' hT hb
  go_enter Tryd.func27, Tryd.ntmps27
  go_wp2_with (go_at_call 58; refine HP.out.mono ?_; rintro e w1 ⟨rfl, hB1⟩)
  go_ret
  exact ⟨rfl, hB1⟩
 | some p =>
  have HP : Hid (Calls Tryd.prog 58 #[.slice A g.length c, .slice A' log.length c'] w fun e w' => (∃ h, e = .returned (.tuple #[.pointer (some ⟨h, 0, none⟩), .int .i64 p.2, .bool true])) ∧ Below w.heap.size w w') := Lib.hid ((replay_all A c g A' c' log w hr hr' hT).mono fun e w' h => by
   unfold ReplayAll at h; rw [hb] at h
   obtain ⟨m, C, ns, _, h1, _, _, _, h5⟩ := h
   exact ⟨⟨m, h1⟩, h5⟩)
  clear hr hr' hT hb
  go_enter Tryd.func27, Tryd.ntmps27
  go_wp2_with (go_at_call 58; refine HP.out.mono ?_; rintro e w1 ⟨⟨m, rfl⟩, hB1⟩)
  go_ret
  exact ⟨rfl, hB1⟩
end Go.Proofs.YtpmfghbjkampkaaDoor
