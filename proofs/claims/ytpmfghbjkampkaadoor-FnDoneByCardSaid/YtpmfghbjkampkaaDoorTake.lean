/- machine.take walked. -/
import Derived.Test.YtpmfghbjkampkaaDoorMach
namespace Go.Proofs.YtpmfghbjkampkaaDoor
set_option linter.unusedVariables false
set_option linter.unusedSimpArgs false
open Go.RowKit Go.Shelf Bits
open Go.Proofs.YtpmfghbjkampkaaDoorW.PrintWords Go.Proofs.YtpmfghbjkampkaaDoorW.PrintLast Go.Proofs.YtpmfghbjkampkaaDoorW.PrintMore
set_option maxRecDepth 100000 in
set_option maxHeartbeats 8000000 in
theorem take_no1 (C h : Nat) (g : List Tk) (ns : List Nat) (M : Mach) (f0 f1 : Int) (f2 : Bool) (w : World) (hG : IsGraph w C g ns) (hgl : g.length ≤ 8) (hnl : ns.length = g.length) (hM : MAt h C M w) (hs : inB f0 0 200 = false) :
  Calls Tryd.prog 97 #[.pointer (some ⟨h, 0, none⟩), .agg #[.int .i64 f0, .int .i64 f1, .bool f2]] w fun r w' => r = .returned (.bool false) ∧ Below w.heap.size w w' := by
 have H0 := Lib.hid hs
 clear hs
 go_enter Tryd.func97, Tryd.ntmps97
 go_wp2
 obtain ⟨w1, hw1⟩ : ∃ w1, w1 = w.alloc (.cells #[.int .i64 f0, .int .i64 f1, .bool f2] 75) := ⟨_, rfl⟩
 have hB1 : Below w.heap.size w w1 := by rw [hw1]; exact (Below.refl _ w).alloc (Nat.le_refl _) _
 have hx0 : w1.cell? ⟨w.heap.size, 0, none⟩ = some (.int .i64 f0) := by rw [hw1]; simp
 have hx1 : w1.cell? ⟨w.heap.size, 1, none⟩ = some (.int .i64 f1) := by rw [hw1]; simp
 have hx2 : w1.cell? ⟨w.heap.size, 2, none⟩ = some (.bool f2) := by rw [hw1]; simp
 rw [← hw1]
 have HM1 := hM.below hB1
 have HGr : Hid (∀ n, IsGraph (w1.drewN n) C g ns) := Lib.hid fun n => (hG.below hB1).below (pw_below_drewN (Below.refl _ w1) n)
 clear hw1
 clear HGr HM1
 go_quiet (first | (go_at_call 73; with_reducible exact Calls.quiet_of_same (within_is _ _ _ _ H0 _)))
 go_wp2
 go_ret
 exact ⟨rfl, pw_below_drewN hB1 _⟩
set_option maxRecDepth 100000 in
set_option maxHeartbeats 8000000 in
theorem take_no2 (C h : Nat) (g : List Tk) (ns : List Nat) (M : Mach) (f0 f1 : Int) (f2 : Bool) (w : World) (hG : IsGraph w C g ns) (hgl : g.length ≤ 8) (hnl : ns.length = g.length) (hM : MAt h C M w) (hs : inB f0 0 200 = true) (hs1 : inB f1 0 (g.length - 1) = false) :
  Calls Tryd.prog 97 #[.pointer (some ⟨h, 0, none⟩), .agg #[.int .i64 f0, .int .i64 f1, .bool f2]] w fun r w' => r = .returned (.bool false) ∧ Below w.heap.size w w' := by
 have H0 := Lib.hid hs
 have H1 := Lib.hid hs1
 clear hs hs1
 go_enter Tryd.func97, Tryd.ntmps97
 go_wp2
 obtain ⟨w1, hw1⟩ : ∃ w1, w1 = w.alloc (.cells #[.int .i64 f0, .int .i64 f1, .bool f2] 75) := ⟨_, rfl⟩
 have hB1 : Below w.heap.size w w1 := by rw [hw1]; exact (Below.refl _ w).alloc (Nat.le_refl _) _
 have hx0 : w1.cell? ⟨w.heap.size, 0, none⟩ = some (.int .i64 f0) := by rw [hw1]; simp
 have hx1 : w1.cell? ⟨w.heap.size, 1, none⟩ = some (.int .i64 f1) := by rw [hw1]; simp
 have hx2 : w1.cell? ⟨w.heap.size, 2, none⟩ = some (.bool f2) := by rw [hw1]; simp
 rw [← hw1]
 have HM1 := hM.below hB1
 have HGr : Hid (∀ n, IsGraph (w1.drewN n) C g ns) := Lib.hid fun n => (hG.below hB1).below (pw_below_drewN (Below.refl _ w1) n)
 clear hw1
 have hm0 := HM1.1
 clear HM1
 have hwg : IntKind.i64.wrap ((g.length : Int) - 1) = (g.length : Int) - 1 := IntWalk.i64_in _ (by omega)
 go_quiet (first | (go_at_call 73; with_reducible exact Calls.quiet_of_same (within_is _ _ _ _ H0 _)) | (go_at_call 73; with_reducible exact Calls.quiet_of_same (within_is _ _ _ _ H1 _)) | (go_at_call 72; with_reducible exact Calls.quiet_of_same (size_calls _ _ _ _ (HGr.out _))))
 go_wp2
 go_ret
 exact ⟨rfl, pw_below_drewN hB1 _⟩
set_option maxRecDepth 100000 in
set_option maxHeartbeats 8000000 in
theorem take_no3 (C h : Nat) (g : List Tk) (ns : List Nat) (M : Mach) (f0 : Int) (i : Nat) (w : World) (hG : IsGraph w C g ns) (hgl : g.length ≤ 8) (hnl : ns.length = g.length) (hM : MAt h C M w) (hs : inB f0 0 200 = true) (hi : i < g.length) (hb : M.b.testBit i = true) :
  Calls Tryd.prog 97 #[.pointer (some ⟨h, 0, none⟩), .agg #[.int .i64 f0, .int .i64 (i : Nat), .bool false]] w fun r w' => r = .returned (.bool false) ∧ Below w.heap.size w w' := by
 have H0 := Lib.hid hs
 have H1 : Hid (inB (i : Nat) 0 (g.length - 1) = true) := Lib.hid (inB_true.2 (by omega))
 have HI16 : Hid (i < 16) := Lib.hid (by omega)
 clear hs
 have HBb := Lib.hid hb
 clear hb
 go_enter Tryd.func97, Tryd.ntmps97
 go_wp2
 obtain ⟨w1, hw1⟩ : ∃ w1, w1 = w.alloc (.cells #[.int .i64 f0, .int .i64 (i : Nat), .bool false] 75) := ⟨_, rfl⟩
 have hB1 : Below w.heap.size w w1 := by rw [hw1]; exact (Below.refl _ w).alloc (Nat.le_refl _) _
 have hx0 : w1.cell? ⟨w.heap.size, 0, none⟩ = some (.int .i64 f0) := by rw [hw1]; simp
 have hx1 : w1.cell? ⟨w.heap.size, 1, none⟩ = some (.int .i64 (i : Nat)) := by rw [hw1]; simp
 have hx2 : w1.cell? ⟨w.heap.size, 2, none⟩ = some (.bool false) := by rw [hw1]; simp
 rw [← hw1]
 have HM1 := hM.below hB1
 have HGr : Hid (∀ n, IsGraph (w1.drewN n) C g ns) := Lib.hid fun n => (hG.below hB1).below (pw_below_drewN (Below.refl _ w1) n)
 clear hw1
 obtain ⟨hm0, hm1, hm2, hmb, hmc, hmf, hlb, hlo, hhx⟩ := HM1
 have HLb := Lib.hid hlb
 have HLo := Lib.hid hlo
 clear hlb hlo hhx
 have hwg : IntKind.i64.wrap ((g.length : Int) - 1) = (g.length : Int) - 1 := IntWalk.i64_in _ (by omega)
 go_quiet (first | (go_at_call 73; with_reducible exact Calls.quiet_of_same (within_is _ _ _ _ H0 _)) | (go_at_call 73; with_reducible exact Calls.quiet_of_same (within_is _ _ _ _ H1 _)) | (go_at_call 72; with_reducible exact Calls.quiet_of_same (size_calls _ _ _ _ (HGr.out _))))
 clear hwg
 go_wp2
 generalize hw2 : w1.drewN _ = w2
 have e2 : ∀ a, w2.cell? a = w1.cell? a := fun a => by rw [← hw2, World.cell?_drewN]
 have f2 : ∀ a, w2.frozen? a = w1.frozen? a := fun a => by rw [← hw2, World.frozen?_drewN]
 replace hB1 : Below w.heap.size w w2 := by rw [← hw2]; exact pw_below_drewN hB1 _
 replace HGr : Hid (IsGraph w2 C g ns) := Lib.hid (by rw [← hw2]; exact HGr.out _)
 rw [← e2] at hx0 hx1 hx2 hm0 hm1 hm2
 simp only [← e2] at hmb hmc
 simp only [← f2] at hmf
 clear hw2 e2 f2
 go_quiet (first | (go_at_call 74; with_reducible exact Calls.quiet_of_same (has_is _ _ _ HBb HLb.out HI16.out _)))
 go_wp2
 go_ret
 exact ⟨rfl, pw_below_drewN hB1 _⟩
set_option maxRecDepth 100000 in
set_option maxHeartbeats 8000000 in
theorem take_no4 (C h : Nat) (g : List Tk) (ns : List Nat) (M : Mach) (f0 : Int) (i : Nat) (w : World) (hG : IsGraph w C g ns) (hgl : g.length ≤ 8) (hnl : ns.length = g.length) (hM : MAt h C M w) (hs : inB f0 0 200 = true) (hi : i < g.length) (hx : ns.getD i 0 < 65536) (hb : M.b.testBit i = false) (hd : diff (ns.getD i 0) M.o ≠ 0) :
  Calls Tryd.prog 97 #[.pointer (some ⟨h, 0, none⟩), .agg #[.int .i64 f0, .int .i64 (i : Nat), .bool false]] w fun r w' => r = .returned (.bool false) ∧ Below w.heap.size w w' := by
 have H0 := Lib.hid hs
 have H1 : Hid (inB (i : Nat) 0 (g.length - 1) = true) := Lib.hid (inB_true.2 (by omega))
 have HI16 : Hid (i < 16) := Lib.hid (by omega)
 clear hs
 have HBb := Lib.hid hb
 have HX := Lib.hid hx
 have HD := Lib.hid hd
 clear hb hx hd
 go_enter Tryd.func97, Tryd.ntmps97
 go_wp2
 obtain ⟨w1, hw1⟩ : ∃ w1, w1 = w.alloc (.cells #[.int .i64 f0, .int .i64 (i : Nat), .bool false] 75) := ⟨_, rfl⟩
 have hB1 : Below w.heap.size w w1 := by rw [hw1]; exact (Below.refl _ w).alloc (Nat.le_refl _) _
 have hx0 : w1.cell? ⟨w.heap.size, 0, none⟩ = some (.int .i64 f0) := by rw [hw1]; simp
 have hx1 : w1.cell? ⟨w.heap.size, 1, none⟩ = some (.int .i64 (i : Nat)) := by rw [hw1]; simp
 have hx2 : w1.cell? ⟨w.heap.size, 2, none⟩ = some (.bool false) := by rw [hw1]; simp
 rw [← hw1]
 have HM1 := hM.below hB1
 have HGr : Hid (∀ n, IsGraph (w1.drewN n) C g ns) := Lib.hid fun n => (hG.below hB1).below (pw_below_drewN (Below.refl _ w1) n)
 clear hw1
 obtain ⟨hm0, hm1, hm2, hmb, hmc, hmf, hlb, hlo, hhx⟩ := HM1
 have HLb := Lib.hid hlb
 have HLo := Lib.hid hlo
 clear hlb hlo hhx
 have hwg : IntKind.i64.wrap ((g.length : Int) - 1) = (g.length : Int) - 1 := IntWalk.i64_in _ (by omega)
 go_quiet (first | (go_at_call 73; with_reducible exact Calls.quiet_of_same (within_is _ _ _ _ H0 _)) | (go_at_call 73; with_reducible exact Calls.quiet_of_same (within_is _ _ _ _ H1 _)) | (go_at_call 72; with_reducible exact Calls.quiet_of_same (size_calls _ _ _ _ (HGr.out _))))
 clear hwg
 go_wp2
 generalize hw2 : w1.drewN _ = w2
 have e2 : ∀ a, w2.cell? a = w1.cell? a := fun a => by rw [← hw2, World.cell?_drewN]
 have f2 : ∀ a, w2.frozen? a = w1.frozen? a := fun a => by rw [← hw2, World.frozen?_drewN]
 replace hB1 : Below w.heap.size w w2 := by rw [← hw2]; exact pw_below_drewN hB1 _
 replace HGr : Hid (IsGraph w2 C g ns) := Lib.hid (by rw [← hw2]; exact HGr.out _)
 rw [← e2] at hx0 hx1 hx2 hm0 hm1 hm2
 simp only [← e2] at hmb hmc
 simp only [← f2] at hmf
 clear hw2 e2 f2
 obtain ⟨Ag, cg, An, cn, Ao, co, vb, va, hC, hT, hN, hO⟩ := HGr.out
 have hc0 : w2.cell? ⟨C, 0, none⟩ = some (.slice Ag g.length cg) := by simp [World.cell?, hC]
 have hc1 : w2.cell? ⟨C, 1, none⟩ = some (.slice An ns.length cn) := by simp [World.cell?, hC]
 obtain ⟨an, rfl, hnc⟩ := at_set hN i (by omega)
 obtain ⟨ag, A1, c1, rfl, htc, _, _, _⟩ := at_Tk hT i hi
 clear hC hO hN hT
 have hbc := hmb i (by omega)
 clear hmb hmc hmf
 have hd : (bits BinOp.andNot IntKind.u16 ((ns.getD i 0 : Nat) : Int) (M.o : Int) == 0) = false := by
  rw [bits_andNot_u16 _ M.o HX.out]
  have := HD.out
  simp only [beq_eq_false_iff_ne, ne_eq]
  omega
 clear HD HX
 generalize ns.getD i 0 = nd at *
 go_quiet (first | (go_at_call 74; with_reducible exact Calls.quiet_of_same (has_is _ _ _ HBb HLb.out HI16.out _)))
 go_wp2
 go_ret
 exact ⟨rfl, pw_below_drewN hB1 _⟩
set_option maxRecDepth 100000 in
set_option maxHeartbeats 8000000 in
theorem take_no5 (C h : Nat) (g : List Tk) (ns : List Nat) (M : Mach) (f0 : Int) (i : Nat) (w : World) (hG : IsGraph w C g ns) (hgl : g.length ≤ 8) (hnl : ns.length = g.length) (hM : MAt h C M w) (hs : inB f0 0 200 = true) (hi : i < g.length) (hb : M.b.testBit i = false) :
  Calls Tryd.prog 97 #[.pointer (some ⟨h, 0, none⟩), .agg #[.int .i64 f0, .int .i64 (i : Nat), .bool true]] w fun r w' => r = .returned (.bool false) ∧ Below w.heap.size w w' := by
 have H0 := Lib.hid hs
 have H1 : Hid (inB (i : Nat) 0 (g.length - 1) = true) := Lib.hid (inB_true.2 (by omega))
 have HI16 : Hid (i < 16) := Lib.hid (by omega)
 clear hs
 have HBb := Lib.hid hb
 clear hb
 go_enter Tryd.func97, Tryd.ntmps97
 go_wp2
 obtain ⟨w1, hw1⟩ : ∃ w1, w1 = w.alloc (.cells #[.int .i64 f0, .int .i64 (i : Nat), .bool true] 75) := ⟨_, rfl⟩
 have hB1 : Below w.heap.size w w1 := by rw [hw1]; exact (Below.refl _ w).alloc (Nat.le_refl _) _
 have hx0 : w1.cell? ⟨w.heap.size, 0, none⟩ = some (.int .i64 f0) := by rw [hw1]; simp
 have hx1 : w1.cell? ⟨w.heap.size, 1, none⟩ = some (.int .i64 (i : Nat)) := by rw [hw1]; simp
 have hx2 : w1.cell? ⟨w.heap.size, 2, none⟩ = some (.bool true) := by rw [hw1]; simp
 rw [← hw1]
 have HM1 := hM.below hB1
 have HGr : Hid (∀ n, IsGraph (w1.drewN n) C g ns) := Lib.hid fun n => (hG.below hB1).below (pw_below_drewN (Below.refl _ w1) n)
 clear hw1
 obtain ⟨hm0, hm1, hm2, hmb, hmc, hmf, hlb, hlo, hhx⟩ := HM1
 have HLb := Lib.hid hlb
 have HLo := Lib.hid hlo
 clear hlb hlo hhx
 have hwg : IntKind.i64.wrap ((g.length : Int) - 1) = (g.length : Int) - 1 := IntWalk.i64_in _ (by omega)
 go_quiet (first | (go_at_call 73; with_reducible exact Calls.quiet_of_same (within_is _ _ _ _ H0 _)) | (go_at_call 73; with_reducible exact Calls.quiet_of_same (within_is _ _ _ _ H1 _)) | (go_at_call 72; with_reducible exact Calls.quiet_of_same (size_calls _ _ _ _ (HGr.out _))))
 clear hwg
 go_wp2
 generalize hw2 : w1.drewN _ = w2
 have e2 : ∀ a, w2.cell? a = w1.cell? a := fun a => by rw [← hw2, World.cell?_drewN]
 have f2 : ∀ a, w2.frozen? a = w1.frozen? a := fun a => by rw [← hw2, World.frozen?_drewN]
 replace hB1 : Below w.heap.size w w2 := by rw [← hw2]; exact pw_below_drewN hB1 _
 replace HGr : Hid (IsGraph w2 C g ns) := Lib.hid (by rw [← hw2]; exact HGr.out _)
 rw [← e2] at hx0 hx1 hx2 hm0 hm1 hm2
 simp only [← e2] at hmb hmc
 simp only [← f2] at hmf
 clear hw2 e2 f2
 go_quiet (first | (go_at_call 74; with_reducible exact Calls.quiet_of_same (has_is _ _ _ HBb HLb.out HI16.out _)))
 go_wp2
 go_ret
 exact ⟨rfl, pw_below_drewN hB1 _⟩
set_option maxRecDepth 100000 in
set_option maxHeartbeats 8000000 in
theorem take_no6 (C h : Nat) (g : List Tk) (ns : List Nat) (M : Mach) (f0 : Int) (i : Nat) (w : World) (hG : IsGraph w C g ns) (hgl : g.length ≤ 8) (hnl : ns.length = g.length) (hM : MAt h C M w) (hs : inB f0 0 200 = true) (hi : i < g.length) (hb : M.b.testBit i = true) (ho : M.o.testBit i = true) :
  Calls Tryd.prog 97 #[.pointer (some ⟨h, 0, none⟩), .agg #[.int .i64 f0, .int .i64 (i : Nat), .bool true]] w fun r w' => r = .returned (.bool false) ∧ Below w.heap.size w w' := by
 have H0 := Lib.hid hs
 have H1 : Hid (inB (i : Nat) 0 (g.length - 1) = true) := Lib.hid (inB_true.2 (by omega))
 have HI16 : Hid (i < 16) := Lib.hid (by omega)
 clear hs
 have HBb := Lib.hid hb
 have HOb := Lib.hid ho
 clear hb ho
 go_enter Tryd.func97, Tryd.ntmps97
 go_wp2
 obtain ⟨w1, hw1⟩ : ∃ w1, w1 = w.alloc (.cells #[.int .i64 f0, .int .i64 (i : Nat), .bool true] 75) := ⟨_, rfl⟩
 have hB1 : Below w.heap.size w w1 := by rw [hw1]; exact (Below.refl _ w).alloc (Nat.le_refl _) _
 have hx0 : w1.cell? ⟨w.heap.size, 0, none⟩ = some (.int .i64 f0) := by rw [hw1]; simp
 have hx1 : w1.cell? ⟨w.heap.size, 1, none⟩ = some (.int .i64 (i : Nat)) := by rw [hw1]; simp
 have hx2 : w1.cell? ⟨w.heap.size, 2, none⟩ = some (.bool true) := by rw [hw1]; simp
 rw [← hw1]
 have HM1 := hM.below hB1
 have HGr : Hid (∀ n, IsGraph (w1.drewN n) C g ns) := Lib.hid fun n => (hG.below hB1).below (pw_below_drewN (Below.refl _ w1) n)
 clear hw1
 obtain ⟨hm0, hm1, hm2, hmb, hmc, hmf, hlb, hlo, hhx⟩ := HM1
 have HLb := Lib.hid hlb
 have HLo := Lib.hid hlo
 clear hlb hlo hhx
 have hwg : IntKind.i64.wrap ((g.length : Int) - 1) = (g.length : Int) - 1 := IntWalk.i64_in _ (by omega)
 go_quiet (first | (go_at_call 73; with_reducible exact Calls.quiet_of_same (within_is _ _ _ _ H0 _)) | (go_at_call 73; with_reducible exact Calls.quiet_of_same (within_is _ _ _ _ H1 _)) | (go_at_call 72; with_reducible exact Calls.quiet_of_same (size_calls _ _ _ _ (HGr.out _))))
 clear hwg
 go_wp2
 generalize hw2 : w1.drewN _ = w2
 have e2 : ∀ a, w2.cell? a = w1.cell? a := fun a => by rw [← hw2, World.cell?_drewN]
 have f2 : ∀ a, w2.frozen? a = w1.frozen? a := fun a => by rw [← hw2, World.frozen?_drewN]
 replace hB1 : Below w.heap.size w w2 := by rw [← hw2]; exact pw_below_drewN hB1 _
 replace HGr : Hid (IsGraph w2 C g ns) := Lib.hid (by rw [← hw2]; exact HGr.out _)
 rw [← e2] at hx0 hx1 hx2 hm0 hm1 hm2
 simp only [← e2] at hmb hmc
 simp only [← f2] at hmf
 clear hw2 e2 f2
 go_quiet (first | (go_at_call 74; with_reducible exact Calls.quiet_of_same (has_is _ _ _ HBb HLb.out HI16.out _)) | (go_at_call 74; with_reducible exact Calls.quiet_of_same (has_is _ _ _ HOb HLo.out HI16.out _)))
 go_wp2
 go_ret
 exact ⟨rfl, pw_below_drewN hB1 _⟩
set_option maxRecDepth 100000 in
set_option maxHeartbeats 8000000 in
theorem take_no7 (C h : Nat) (g : List Tk) (ns : List Nat) (M : Mach) (f0 : Int) (i : Nat) (w : World) (hG : IsGraph w C g ns) (hgl : g.length ≤ 8) (hnl : ns.length = g.length) (hM : MAt h C M w) (hs : inB f0 0 200 = true) (hi : i < g.length) (hb : M.b.testBit i = true) (ho : M.o.testBit i = false) (hq : 0 ≤ M.bg i ∧ M.bg i ≤ 200) (ht : 0 ≤ (rdTk g i).f0 ∧ (rdTk g i).f0 ≤ 20) (hne : f0 ≠ M.bg i + (rdTk g i).f0) :
  Calls Tryd.prog 97 #[.pointer (some ⟨h, 0, none⟩), .agg #[.int .i64 f0, .int .i64 (i : Nat), .bool true]] w fun r w' => r = .returned (.bool false) ∧ Below w.heap.size w w' := by
 have H0 := Lib.hid hs
 have H1 : Hid (inB (i : Nat) 0 (g.length - 1) = true) := Lib.hid (inB_true.2 (by omega))
 have HI16 : Hid (i < 16) := Lib.hid (by omega)
 clear hs
 have HBb := Lib.hid hb
 have HOb := Lib.hid ho
 have HQ := Lib.hid hq
 have HT := Lib.hid ht
 have HNE := Lib.hid hne
 clear hb ho hq ht hne
 go_enter Tryd.func97, Tryd.ntmps97
 go_wp2
 obtain ⟨w1, hw1⟩ : ∃ w1, w1 = w.alloc (.cells #[.int .i64 f0, .int .i64 (i : Nat), .bool true] 75) := ⟨_, rfl⟩
 have hB1 : Below w.heap.size w w1 := by rw [hw1]; exact (Below.refl _ w).alloc (Nat.le_refl _) _
 have hx0 : w1.cell? ⟨w.heap.size, 0, none⟩ = some (.int .i64 f0) := by rw [hw1]; simp
 have hx1 : w1.cell? ⟨w.heap.size, 1, none⟩ = some (.int .i64 (i : Nat)) := by rw [hw1]; simp
 have hx2 : w1.cell? ⟨w.heap.size, 2, none⟩ = some (.bool true) := by rw [hw1]; simp
 rw [← hw1]
 have HM1 := hM.below hB1
 have HGr : Hid (∀ n, IsGraph (w1.drewN n) C g ns) := Lib.hid fun n => (hG.below hB1).below (pw_below_drewN (Below.refl _ w1) n)
 clear hw1
 obtain ⟨hm0, hm1, hm2, hmb, hmc, hmf, hlb, hlo, hhx⟩ := HM1
 have HLb := Lib.hid hlb
 have HLo := Lib.hid hlo
 clear hlb hlo hhx
 have hwg : IntKind.i64.wrap ((g.length : Int) - 1) = (g.length : Int) - 1 := IntWalk.i64_in _ (by omega)
 go_quiet (first | (go_at_call 73; with_reducible exact Calls.quiet_of_same (within_is _ _ _ _ H0 _)) | (go_at_call 73; with_reducible exact Calls.quiet_of_same (within_is _ _ _ _ H1 _)) | (go_at_call 72; with_reducible exact Calls.quiet_of_same (size_calls _ _ _ _ (HGr.out _))))
 clear hwg
 go_wp2
 generalize hw2 : w1.drewN _ = w2
 have e2 : ∀ a, w2.cell? a = w1.cell? a := fun a => by rw [← hw2, World.cell?_drewN]
 have f2 : ∀ a, w2.frozen? a = w1.frozen? a := fun a => by rw [← hw2, World.frozen?_drewN]
 replace hB1 : Below w.heap.size w w2 := by rw [← hw2]; exact pw_below_drewN hB1 _
 replace HGr : Hid (IsGraph w2 C g ns) := Lib.hid (by rw [← hw2]; exact HGr.out _)
 rw [← e2] at hx0 hx1 hx2 hm0 hm1 hm2
 simp only [← e2] at hmb hmc
 simp only [← f2] at hmf
 clear hw2 e2 f2
 obtain ⟨Ag, cg, An, cn, Ao, co, vb, va, hC, hT, hN, hO⟩ := HGr.out
 have hc0 : w2.cell? ⟨C, 0, none⟩ = some (.slice Ag g.length cg) := by simp [World.cell?, hC]
 have hc1 : w2.cell? ⟨C, 1, none⟩ = some (.slice An ns.length cn) := by simp [World.cell?, hC]
 obtain ⟨an, rfl, hnc⟩ := at_set hN i (by omega)
 obtain ⟨ag, A1, c1, rfl, htc, _, _, _⟩ := at_Tk hT i hi
 clear hC hO hN hT
 have hbc := hmb i (by omega)
 clear hmb hmc hmf
 generalize M.bg i = p at *
 generalize (rdTk g i).f0 = tm at *
 have hne : (f0 == p + tm) = false := beq_eq_false_iff_ne.2 HNE.out
 have hw : IntKind.i64.wrap (p + tm) = p + tm := IntWalk.i64_in _ (by have := HQ.out; have := HT.out; omega)
 go_quiet (first | (go_at_call 74; with_reducible exact Calls.quiet_of_same (has_is _ _ _ HBb HLb.out HI16.out _)) | (go_at_call 74; with_reducible exact Calls.quiet_of_same (has_is _ _ _ HOb HLo.out HI16.out _)))
 clear hw
 go_wp2
 go_ret
 exact ⟨rfl, pw_below_drewN hB1 _⟩
end Go.Proofs.YtpmfghbjkampkaaDoor
