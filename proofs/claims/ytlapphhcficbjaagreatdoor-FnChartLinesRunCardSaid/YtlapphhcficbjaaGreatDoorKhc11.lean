/- Parts of the proof, laid as one text by a program of mine. -/
import Derived.Test.YtlapphhcficbjaaGreatDoorKhc4
namespace Go.Proofs.YtlapphhcficbjaaGreatDoor
set_option linter.unusedVariables false
set_option linter.unusedSimpArgs false
open Go.RowKit Go.Shelf Bits
open Go.Proofs.YtlapphhcficbjaaGreatDoorW.PrintWords Go.Proofs.YtlapphhcficbjaaGreatDoorW.PrintLast Go.Proofs.YtlapphhcficbjaaGreatDoorW.PrintMore
set_option maxRecDepth 100000 in
set_option maxHeartbeats 8000000 in
theorem take_no1 (C h : Nat) (g : List Tk) (ns : List Nat) (M : Mach) (f0 f1 : Int) (f2 : Bool) (w : World) (hG : IsGraph w C g ns) (hgl : g.length ≤ 8) (hnl : ns.length = g.length) (hM : MAt h C M w) (hs : inB f0 0 200 = false) :
  Calls Tryz.prog 86 #[.pointer (some ⟨h, 0, none⟩), .agg #[.int .i64 f0, .int .i64 f1, .bool f2]] w fun r w' => r = .returned (.bool false) ∧ Below w.heap.size w w' := by
 have H0 := Lib.hid hs
 clear hs
 go_enter Tryz.func86, Tryz.ntmps86
 go_wp2
 obtain ⟨w1, hw1⟩ : ∃ w1, w1 = w.alloc (.cells #[.int .i64 f0, .int .i64 f1, .bool f2] 75) := ⟨_, rfl⟩
 have hB1 : Below w.heap.size w w1 := by rw [hw1]; exact (Below.refl _ w).alloc (Nat.le_refl _) _
 have hx0 : w1.cell? ⟨w.heap.size, 0, none⟩ = some (.int .i64 f0) := by rw [hw1]; simp
 have hx1 : w1.cell? ⟨w.heap.size, 1, none⟩ = some (.int .i64 f1) := by rw [hw1]; simp
 have hx2 : w1.cell? ⟨w.heap.size, 2, none⟩ = some (.bool f2) := by rw [hw1]; simp
 rw [← hw1]
 have HM1 := hM.below hB1
 have HGr : Hid (∀ n, IsGraph (w1.drewN n) C g ns) := Lib.hid fun n => (hG.below hB1).below (pw_below_drewN (Below.refl _ w1) n)
 clear hw1
 clear HGr HM1
 go_quiet (first | (go_at_call 54; with_reducible exact Calls.quiet_of_same (within_is _ _ _ _ H0 _)))
 go_wp2
 go_ret
 exact ⟨rfl, pw_below_drewN hB1 _⟩
set_option maxRecDepth 100000 in
set_option maxHeartbeats 8000000 in
theorem take_no2 (C h : Nat) (g : List Tk) (ns : List Nat) (M : Mach) (f0 f1 : Int) (f2 : Bool) (w : World) (hG : IsGraph w C g ns) (hgl : g.length ≤ 8) (hnl : ns.length = g.length) (hM : MAt h C M w) (hs : inB f0 0 200 = true) (hs1 : inB f1 0 (g.length - 1) = false) :
  Calls Tryz.prog 86 #[.pointer (some ⟨h, 0, none⟩), .agg #[.int .i64 f0, .int .i64 f1, .bool f2]] w fun r w' => r = .returned (.bool false) ∧ Below w.heap.size w w' := by
 have H0 := Lib.hid hs
 have H1 := Lib.hid hs1
 clear hs hs1
 go_enter Tryz.func86, Tryz.ntmps86
 go_wp2
 obtain ⟨w1, hw1⟩ : ∃ w1, w1 = w.alloc (.cells #[.int .i64 f0, .int .i64 f1, .bool f2] 75) := ⟨_, rfl⟩
 have hB1 : Below w.heap.size w w1 := by rw [hw1]; exact (Below.refl _ w).alloc (Nat.le_refl _) _
 have hx0 : w1.cell? ⟨w.heap.size, 0, none⟩ = some (.int .i64 f0) := by rw [hw1]; simp
 have hx1 : w1.cell? ⟨w.heap.size, 1, none⟩ = some (.int .i64 f1) := by rw [hw1]; simp
 have hx2 : w1.cell? ⟨w.heap.size, 2, none⟩ = some (.bool f2) := by rw [hw1]; simp
 rw [← hw1]
 have HM1 := hM.below hB1
 have HGr : Hid (∀ n, IsGraph (w1.drewN n) C g ns) := Lib.hid fun n => (hG.below hB1).below (pw_below_drewN (Below.refl _ w1) n)
 clear hw1
 have hm0 := HM1.1
 clear HM1
 have hwg : IntKind.i64.wrap ((g.length : Int) - 1) = (g.length : Int) - 1 := IntWalk.i64_in _ (by omega)
 go_quiet (first | (go_at_call 54; with_reducible exact Calls.quiet_of_same (within_is _ _ _ _ H0 _)) | (go_at_call 54; with_reducible exact Calls.quiet_of_same (within_is _ _ _ _ H1 _)) | (go_at_call 43; with_reducible exact Calls.quiet_of_same (size_calls _ _ _ _ (HGr.out _))))
 go_wp2
 go_ret
 exact ⟨rfl, pw_below_drewN hB1 _⟩
set_option maxRecDepth 100000 in
set_option maxHeartbeats 8000000 in
theorem take_no3 (C h : Nat) (g : List Tk) (ns : List Nat) (M : Mach) (f0 : Int) (i : Nat) (w : World) (hG : IsGraph w C g ns) (hgl : g.length ≤ 8) (hnl : ns.length = g.length) (hM : MAt h C M w) (hs : inB f0 0 200 = true) (hi : i < g.length) (hb : M.b.testBit i = true) :
  Calls Tryz.prog 86 #[.pointer (some ⟨h, 0, none⟩), .agg #[.int .i64 f0, .int .i64 (i : Nat), .bool false]] w fun r w' => r = .returned (.bool false) ∧ Below w.heap.size w w' := by
 have H0 := Lib.hid hs
 have H1 : Hid (inB (i : Nat) 0 (g.length - 1) = true) := Lib.hid (inB_true.2 (by omega))
 have HI16 : Hid (i < 16) := Lib.hid (by omega)
 clear hs
 have HBb := Lib.hid hb
 clear hb
 go_enter Tryz.func86, Tryz.ntmps86
 go_wp2
 obtain ⟨w1, hw1⟩ : ∃ w1, w1 = w.alloc (.cells #[.int .i64 f0, .int .i64 (i : Nat), .bool false] 75) := ⟨_, rfl⟩
 have hB1 : Below w.heap.size w w1 := by rw [hw1]; exact (Below.refl _ w).alloc (Nat.le_refl _) _
 have hx0 : w1.cell? ⟨w.heap.size, 0, none⟩ = some (.int .i64 f0) := by rw [hw1]; simp
 have hx1 : w1.cell? ⟨w.heap.size, 1, none⟩ = some (.int .i64 (i : Nat)) := by rw [hw1]; simp
 have hx2 : w1.cell? ⟨w.heap.size, 2, none⟩ = some (.bool false) := by rw [hw1]; simp
 rw [← hw1]
 have HM1 := hM.below hB1
 have HGr : Hid (∀ n, IsGraph (w1.drewN n) C g ns) := Lib.hid fun n => (hG.below hB1).below (pw_below_drewN (Below.refl _ w1) n)
 clear hw1
 obtain ⟨hm0, hm1, hm2, hmb, hmc, hmf, hlb, hlo, hhx⟩ := HM1
 have HLb := Lib.hid hlb
 have HLo := Lib.hid hlo
 clear hlb hlo hhx
 have hwg : IntKind.i64.wrap ((g.length : Int) - 1) = (g.length : Int) - 1 := IntWalk.i64_in _ (by omega)
 go_quiet (first | (go_at_call 54; with_reducible exact Calls.quiet_of_same (within_is _ _ _ _ H0 _)) | (go_at_call 54; with_reducible exact Calls.quiet_of_same (within_is _ _ _ _ H1 _)) | (go_at_call 43; with_reducible exact Calls.quiet_of_same (size_calls _ _ _ _ (HGr.out _))))
 clear hwg
 go_wp2
 generalize hw2 : w1.drewN _ = w2
 have e2 : ∀ a, w2.cell? a = w1.cell? a := fun a => by rw [← hw2, World.cell?_drewN]
 have f2 : ∀ a, w2.frozen? a = w1.frozen? a := fun a => by rw [← hw2, World.frozen?_drewN]
 replace hB1 : Below w.heap.size w w2 := by rw [← hw2]; exact pw_below_drewN hB1 _
 replace HGr : Hid (IsGraph w2 C g ns) := Lib.hid (by rw [← hw2]; exact HGr.out _)
 rw [← e2] at hx0 hx1 hx2 hm0 hm1 hm2
 simp only [← e2] at hmb hmc
 simp only [← f2] at hmf
 clear hw2 e2 f2
 go_quiet (first | (go_at_call 117; with_reducible exact Calls.quiet_of_same (has_is _ _ _ HBb HLb.out HI16.out _)))
 go_wp2
 go_ret
 exact ⟨rfl, pw_below_drewN hB1 _⟩
set_option maxRecDepth 100000 in
set_option maxHeartbeats 8000000 in
theorem take_no4 (C h : Nat) (g : List Tk) (ns : List Nat) (M : Mach) (f0 : Int) (i : Nat) (w : World) (hG : IsGraph w C g ns) (hgl : g.length ≤ 8) (hnl : ns.length = g.length) (hM : MAt h C M w) (hs : inB f0 0 200 = true) (hi : i < g.length) (hx : ns.getD i 0 < 65536) (hb : M.b.testBit i = false) (hd : diff (ns.getD i 0) M.o ≠ 0) :
  Calls Tryz.prog 86 #[.pointer (some ⟨h, 0, none⟩), .agg #[.int .i64 f0, .int .i64 (i : Nat), .bool false]] w fun r w' => r = .returned (.bool false) ∧ Below w.heap.size w w' := by
 have H0 := Lib.hid hs
 have H1 : Hid (inB (i : Nat) 0 (g.length - 1) = true) := Lib.hid (inB_true.2 (by omega))
 have HI16 : Hid (i < 16) := Lib.hid (by omega)
 clear hs
 have HBb := Lib.hid hb
 have HX := Lib.hid hx
 have HD := Lib.hid hd
 clear hb hx hd
 go_enter Tryz.func86, Tryz.ntmps86
 go_wp2
 obtain ⟨w1, hw1⟩ : ∃ w1, w1 = w.alloc (.cells #[.int .i64 f0, .int .i64 (i : Nat), .bool false] 75) := ⟨_, rfl⟩
 have hB1 : Below w.heap.size w w1 := by rw [hw1]; exact (Below.refl _ w).alloc (Nat.le_refl _) _
 have hx0 : w1.cell? ⟨w.heap.size, 0, none⟩ = some (.int .i64 f0) := by rw [hw1]; simp
 have hx1 : w1.cell? ⟨w.heap.size, 1, none⟩ = some (.int .i64 (i : Nat)) := by rw [hw1]; simp
 have hx2 : w1.cell? ⟨w.heap.size, 2, none⟩ = some (.bool false) := by rw [hw1]; simp
 rw [← hw1]
 have HM1 := hM.below hB1
 have HGr : Hid (∀ n, IsGraph (w1.drewN n) C g ns) := Lib.hid fun n => (hG.below hB1).below (pw_below_drewN (Below.refl _ w1) n)
 clear hw1
 obtain ⟨hm0, hm1, hm2, hmb, hmc, hmf, hlb, hlo, hhx⟩ := HM1
 have HLb := Lib.hid hlb
 have HLo := Lib.hid hlo
 clear hlb hlo hhx
 have hwg : IntKind.i64.wrap ((g.length : Int) - 1) = (g.length : Int) - 1 := IntWalk.i64_in _ (by omega)
 go_quiet (first | (go_at_call 54; with_reducible exact Calls.quiet_of_same (within_is _ _ _ _ H0 _)) | (go_at_call 54; with_reducible exact Calls.quiet_of_same (within_is _ _ _ _ H1 _)) | (go_at_call 43; with_reducible exact Calls.quiet_of_same (size_calls _ _ _ _ (HGr.out _))))
 clear hwg
 go_wp2
 generalize hw2 : w1.drewN _ = w2
 have e2 : ∀ a, w2.cell? a = w1.cell? a := fun a => by rw [← hw2, World.cell?_drewN]
 have f2 : ∀ a, w2.frozen? a = w1.frozen? a := fun a => by rw [← hw2, World.frozen?_drewN]
 replace hB1 : Below w.heap.size w w2 := by rw [← hw2]; exact pw_below_drewN hB1 _
 replace HGr : Hid (IsGraph w2 C g ns) := Lib.hid (by rw [← hw2]; exact HGr.out _)
 rw [← e2] at hx0 hx1 hx2 hm0 hm1 hm2
 simp only [← e2] at hmb hmc
 simp only [← f2] at hmf
 clear hw2 e2 f2
 obtain ⟨Ag, cg, An, cn, Ao, co, vb, va, hC, hT, hN, hO⟩ := HGr.out
 have hc0 : w2.cell? ⟨C, 0, none⟩ = some (.slice Ag g.length cg) := by simp [World.cell?, hC]
 have hc1 : w2.cell? ⟨C, 1, none⟩ = some (.slice An ns.length cn) := by simp [World.cell?, hC]
 obtain ⟨an, rfl, hnc⟩ := at_set hN i (by omega)
 obtain ⟨ag, A1, c1, rfl, htc, _, _, _⟩ := at_Tk hT i hi
 clear hC hO hN hT
 have hbc := hmb i (by omega)
 clear hmb hmc hmf
 have hd : (bits BinOp.andNot IntKind.u16 ((ns.getD i 0 : Nat) : Int) (M.o : Int) == 0) = false := by
  rw [bits_andNot_u16 _ M.o HX.out]
  have := HD.out
  simp only [beq_eq_false_iff_ne, ne_eq]
  omega
 clear HD HX
 generalize ns.getD i 0 = nd at *
 go_quiet (first | (go_at_call 117; with_reducible exact Calls.quiet_of_same (has_is _ _ _ HBb HLb.out HI16.out _)))
 go_wp2
 go_ret
 exact ⟨rfl, pw_below_drewN hB1 _⟩
set_option maxRecDepth 100000 in
set_option maxHeartbeats 8000000 in
theorem take_no5 (C h : Nat) (g : List Tk) (ns : List Nat) (M : Mach) (f0 : Int) (i : Nat) (w : World) (hG : IsGraph w C g ns) (hgl : g.length ≤ 8) (hnl : ns.length = g.length) (hM : MAt h C M w) (hs : inB f0 0 200 = true) (hi : i < g.length) (hb : M.b.testBit i = false) :
  Calls Tryz.prog 86 #[.pointer (some ⟨h, 0, none⟩), .agg #[.int .i64 f0, .int .i64 (i : Nat), .bool true]] w fun r w' => r = .returned (.bool false) ∧ Below w.heap.size w w' := by
 have H0 := Lib.hid hs
 have H1 : Hid (inB (i : Nat) 0 (g.length - 1) = true) := Lib.hid (inB_true.2 (by omega))
 have HI16 : Hid (i < 16) := Lib.hid (by omega)
 clear hs
 have HBb := Lib.hid hb
 clear hb
 go_enter Tryz.func86, Tryz.ntmps86
 go_wp2
 obtain ⟨w1, hw1⟩ : ∃ w1, w1 = w.alloc (.cells #[.int .i64 f0, .int .i64 (i : Nat), .bool true] 75) := ⟨_, rfl⟩
 have hB1 : Below w.heap.size w w1 := by rw [hw1]; exact (Below.refl _ w).alloc (Nat.le_refl _) _
 have hx0 : w1.cell? ⟨w.heap.size, 0, none⟩ = some (.int .i64 f0) := by rw [hw1]; simp
 have hx1 : w1.cell? ⟨w.heap.size, 1, none⟩ = some (.int .i64 (i : Nat)) := by rw [hw1]; simp
 have hx2 : w1.cell? ⟨w.heap.size, 2, none⟩ = some (.bool true) := by rw [hw1]; simp
 rw [← hw1]
 have HM1 := hM.below hB1
 have HGr : Hid (∀ n, IsGraph (w1.drewN n) C g ns) := Lib.hid fun n => (hG.below hB1).below (pw_below_drewN (Below.refl _ w1) n)
 clear hw1
 obtain ⟨hm0, hm1, hm2, hmb, hmc, hmf, hlb, hlo, hhx⟩ := HM1
 have HLb := Lib.hid hlb
 have HLo := Lib.hid hlo
 clear hlb hlo hhx
 have hwg : IntKind.i64.wrap ((g.length : Int) - 1) = (g.length : Int) - 1 := IntWalk.i64_in _ (by omega)
 go_quiet (first | (go_at_call 54; with_reducible exact Calls.quiet_of_same (within_is _ _ _ _ H0 _)) | (go_at_call 54; with_reducible exact Calls.quiet_of_same (within_is _ _ _ _ H1 _)) | (go_at_call 43; with_reducible exact Calls.quiet_of_same (size_calls _ _ _ _ (HGr.out _))))
 clear hwg
 go_wp2
 generalize hw2 : w1.drewN _ = w2
 have e2 : ∀ a, w2.cell? a = w1.cell? a := fun a => by rw [← hw2, World.cell?_drewN]
 have f2 : ∀ a, w2.frozen? a = w1.frozen? a := fun a => by rw [← hw2, World.frozen?_drewN]
 replace hB1 : Below w.heap.size w w2 := by rw [← hw2]; exact pw_below_drewN hB1 _
 replace HGr : Hid (IsGraph w2 C g ns) := Lib.hid (by rw [← hw2]; exact HGr.out _)
 rw [← e2] at hx0 hx1 hx2 hm0 hm1 hm2
 simp only [← e2] at hmb hmc
 simp only [← f2] at hmf
 clear hw2 e2 f2
 go_quiet (first | (go_at_call 117; with_reducible exact Calls.quiet_of_same (has_is _ _ _ HBb HLb.out HI16.out _)))
 go_wp2
 go_ret
 exact ⟨rfl, pw_below_drewN hB1 _⟩
set_option maxRecDepth 100000 in
set_option maxHeartbeats 8000000 in
theorem take_no6 (C h : Nat) (g : List Tk) (ns : List Nat) (M : Mach) (f0 : Int) (i : Nat) (w : World) (hG : IsGraph w C g ns) (hgl : g.length ≤ 8) (hnl : ns.length = g.length) (hM : MAt h C M w) (hs : inB f0 0 200 = true) (hi : i < g.length) (hb : M.b.testBit i = true) (ho : M.o.testBit i = true) :
  Calls Tryz.prog 86 #[.pointer (some ⟨h, 0, none⟩), .agg #[.int .i64 f0, .int .i64 (i : Nat), .bool true]] w fun r w' => r = .returned (.bool false) ∧ Below w.heap.size w w' := by
 have H0 := Lib.hid hs
 have H1 : Hid (inB (i : Nat) 0 (g.length - 1) = true) := Lib.hid (inB_true.2 (by omega))
 have HI16 : Hid (i < 16) := Lib.hid (by omega)
 clear hs
 have HBb := Lib.hid hb
 have HOb := Lib.hid ho
 clear hb ho
 go_enter Tryz.func86, Tryz.ntmps86
 go_wp2
 obtain ⟨w1, hw1⟩ : ∃ w1, w1 = w.alloc (.cells #[.int .i64 f0, .int .i64 (i : Nat), .bool true] 75) := ⟨_, rfl⟩
 have hB1 : Below w.heap.size w w1 := by rw [hw1]; exact (Below.refl _ w).alloc (Nat.le_refl _) _
 have hx0 : w1.cell? ⟨w.heap.size, 0, none⟩ = some (.int .i64 f0) := by rw [hw1]; simp
 have hx1 : w1.cell? ⟨w.heap.size, 1, none⟩ = some (.int .i64 (i : Nat)) := by rw [hw1]; simp
 have hx2 : w1.cell? ⟨w.heap.size, 2, none⟩ = some (.bool true) := by rw [hw1]; simp
 rw [← hw1]
 have HM1 := hM.below hB1
 have HGr : Hid (∀ n, IsGraph (w1.drewN n) C g ns) := Lib.hid fun n => (hG.below hB1).below (pw_below_drewN (Below.refl _ w1) n)
 clear hw1
 obtain ⟨hm0, hm1, hm2, hmb, hmc, hmf, hlb, hlo, hhx⟩ := HM1
 have HLb := Lib.hid hlb
 have HLo := Lib.hid hlo
 clear hlb hlo hhx
 have hwg : IntKind.i64.wrap ((g.length : Int) - 1) = (g.length : Int) - 1 := IntWalk.i64_in _ (by omega)
 go_quiet (first | (go_at_call 54; with_reducible exact Calls.quiet_of_same (within_is _ _ _ _ H0 _)) | (go_at_call 54; with_reducible exact Calls.quiet_of_same (within_is _ _ _ _ H1 _)) | (go_at_call 43; with_reducible exact Calls.quiet_of_same (size_calls _ _ _ _ (HGr.out _))))
 clear hwg
 go_wp2
 generalize hw2 : w1.drewN _ = w2
 have e2 : ∀ a, w2.cell? a = w1.cell? a := fun a => by rw [← hw2, World.cell?_drewN]
 have f2 : ∀ a, w2.frozen? a = w1.frozen? a := fun a => by rw [← hw2, World.frozen?_drewN]
 replace hB1 : Below w.heap.size w w2 := by rw [← hw2]; exact pw_below_drewN hB1 _
 replace HGr : Hid (IsGraph w2 C g ns) := Lib.hid (by rw [← hw2]; exact HGr.out _)
 rw [← e2] at hx0 hx1 hx2 hm0 hm1 hm2
 simp only [← e2] at hmb hmc
 simp only [← f2] at hmf
 clear hw2 e2 f2
 go_quiet (first | (go_at_call 117; with_reducible exact Calls.quiet_of_same (has_is _ _ _ HBb HLb.out HI16.out _)) | (go_at_call 117; with_reducible exact Calls.quiet_of_same (has_is _ _ _ HOb HLo.out HI16.out _)))
 go_wp2
 go_ret
 exact ⟨rfl, pw_below_drewN hB1 _⟩
set_option maxRecDepth 100000 in
set_option maxHeartbeats 8000000 in
theorem take_no7 (C h : Nat) (g : List Tk) (ns : List Nat) (M : Mach) (f0 : Int) (i : Nat) (w : World) (hG : IsGraph w C g ns) (hgl : g.length ≤ 8) (hnl : ns.length = g.length) (hM : MAt h C M w) (hs : inB f0 0 200 = true) (hi : i < g.length) (hb : M.b.testBit i = true) (ho : M.o.testBit i = false) (hq : 0 ≤ M.bg i ∧ M.bg i ≤ 200) (ht : 0 ≤ (rdTk g i).f0 ∧ (rdTk g i).f0 ≤ 20) (hne : f0 ≠ M.bg i + (rdTk g i).f0) :
  Calls Tryz.prog 86 #[.pointer (some ⟨h, 0, none⟩), .agg #[.int .i64 f0, .int .i64 (i : Nat), .bool true]] w fun r w' => r = .returned (.bool false) ∧ Below w.heap.size w w' := by
 have H0 := Lib.hid hs
 have H1 : Hid (inB (i : Nat) 0 (g.length - 1) = true) := Lib.hid (inB_true.2 (by omega))
 have HI16 : Hid (i < 16) := Lib.hid (by omega)
 clear hs
 have HBb := Lib.hid hb
 have HOb := Lib.hid ho
 have HQ := Lib.hid hq
 have HT := Lib.hid ht
 have HNE := Lib.hid hne
 clear hb ho hq ht hne
 go_enter Tryz.func86, Tryz.ntmps86
 go_wp2
 obtain ⟨w1, hw1⟩ : ∃ w1, w1 = w.alloc (.cells #[.int .i64 f0, .int .i64 (i : Nat), .bool true] 75) := ⟨_, rfl⟩
 have hB1 : Below w.heap.size w w1 := by rw [hw1]; exact (Below.refl _ w).alloc (Nat.le_refl _) _
 have hx0 : w1.cell? ⟨w.heap.size, 0, none⟩ = some (.int .i64 f0) := by rw [hw1]; simp
 have hx1 : w1.cell? ⟨w.heap.size, 1, none⟩ = some (.int .i64 (i : Nat)) := by rw [hw1]; simp
 have hx2 : w1.cell? ⟨w.heap.size, 2, none⟩ = some (.bool true) := by rw [hw1]; simp
 rw [← hw1]
 have HM1 := hM.below hB1
 have HGr : Hid (∀ n, IsGraph (w1.drewN n) C g ns) := Lib.hid fun n => (hG.below hB1).below (pw_below_drewN (Below.refl _ w1) n)
 clear hw1
 obtain ⟨hm0, hm1, hm2, hmb, hmc, hmf, hlb, hlo, hhx⟩ := HM1
 have HLb := Lib.hid hlb
 have HLo := Lib.hid hlo
 clear hlb hlo hhx
 have hwg : IntKind.i64.wrap ((g.length : Int) - 1) = (g.length : Int) - 1 := IntWalk.i64_in _ (by omega)
 go_quiet (first | (go_at_call 54; with_reducible exact Calls.quiet_of_same (within_is _ _ _ _ H0 _)) | (go_at_call 54; with_reducible exact Calls.quiet_of_same (within_is _ _ _ _ H1 _)) | (go_at_call 43; with_reducible exact Calls.quiet_of_same (size_calls _ _ _ _ (HGr.out _))))
 clear hwg
 go_wp2
 generalize hw2 : w1.drewN _ = w2
 have e2 : ∀ a, w2.cell? a = w1.cell? a := fun a => by rw [← hw2, World.cell?_drewN]
 have f2 : ∀ a, w2.frozen? a = w1.frozen? a := fun a => by rw [← hw2, World.frozen?_drewN]
 replace hB1 : Below w.heap.size w w2 := by rw [← hw2]; exact pw_below_drewN hB1 _
 replace HGr : Hid (IsGraph w2 C g ns) := Lib.hid (by rw [← hw2]; exact HGr.out _)
 rw [← e2] at hx0 hx1 hx2 hm0 hm1 hm2
 simp only [← e2] at hmb hmc
 simp only [← f2] at hmf
 clear hw2 e2 f2
 obtain ⟨Ag, cg, An, cn, Ao, co, vb, va, hC, hT, hN, hO⟩ := HGr.out
 have hc0 : w2.cell? ⟨C, 0, none⟩ = some (.slice Ag g.length cg) := by simp [World.cell?, hC]
 have hc1 : w2.cell? ⟨C, 1, none⟩ = some (.slice An ns.length cn) := by simp [World.cell?, hC]
 obtain ⟨an, rfl, hnc⟩ := at_set hN i (by omega)
 obtain ⟨ag, A1, c1, rfl, htc, _, _, _⟩ := at_Tk hT i hi
 clear hC hO hN hT
 have hbc := hmb i (by omega)
 clear hmb hmc hmf
 generalize M.bg i = p at *
 generalize (rdTk g i).f0 = tm at *
 have hne : (f0 == p + tm) = false := beq_eq_false_iff_ne.2 HNE.out
 have hw : IntKind.i64.wrap (p + tm) = p + tm := IntWalk.i64_in _ (by have := HQ.out; have := HT.out; omega)
 go_quiet (first | (go_at_call 117; with_reducible exact Calls.quiet_of_same (has_is _ _ _ HBb HLb.out HI16.out _)) | (go_at_call 117; with_reducible exact Calls.quiet_of_same (has_is _ _ _ HOb HLo.out HI16.out _)))
 clear hw
 go_wp2
 go_ret
 exact ⟨rfl, pw_below_drewN hB1 _⟩
end Go.Proofs.YtlapphhcficbjaaGreatDoor

namespace Go.Proofs.YtlapphhcficbjaaGreatDoor
set_option linter.unusedVariables false
set_option linter.unusedSimpArgs false
open Go.RowKit Go.Shelf Bits
open Go.Proofs.YtlapphhcficbjaaGreatDoorW.PrintWords Go.Proofs.YtlapphhcficbjaaGreatDoorW.PrintLast Go.Proofs.YtlapphhcficbjaaGreatDoorW.PrintMore
set_option maxRecDepth 100000 in
set_option maxHeartbeats 8000000 in
theorem take_begin (C h : Nat) (g : List Tk) (ns : List Nat) (M : Mach) (f0 : Int) (i : Nat) (w : World) (hG : IsGraph w C g ns) (hgl : g.length ≤ 8) (hnl : ns.length = g.length) (hM : MAt h C M w) (hs : inB f0 0 200 = true) (hi : i < g.length) (hhw : h < w.heap.size) (hx : ns.getD i 0 < 65536) (hb : M.b.testBit i = false) (hd : diff (ns.getD i 0) M.o = 0) :
  Calls Tryz.prog 86 #[.pointer (some ⟨h, 0, none⟩), .agg #[.int .i64 f0, .int .i64 (i : Nat), .bool false]] w fun r w' => r = .returned (.bool true) ∧ MAt h C (M.begin ⟨f0, i, false⟩) w' ∧ Below h w w' ∧ Others h w w' := by
 have HM0 := Lib.hid hM
 have H0 := Lib.hid hs
 have H1 : Hid (inB (i : Nat) 0 (g.length - 1) = true) := Lib.hid (inB_true.2 (by omega))
 have HI16 : Hid (i < 16) := Lib.hid (by omega)
 clear hs
 have HBb := Lib.hid hb
 have HX := Lib.hid hx
 have HD := Lib.hid hd
 clear hb hx hd
 have HHX := Lib.hid hhw
 go_enter Tryz.func86, Tryz.ntmps86
 go_wp2
 obtain ⟨w1, hw1⟩ : ∃ w1, w1 = w.alloc (.cells #[.int .i64 f0, .int .i64 (i : Nat), .bool false] 75) := ⟨_, rfl⟩
 have hB1 : Below w.heap.size w w1 := by rw [hw1]; exact (Below.refl _ w).alloc (Nat.le_refl _) _
 have hx0 : w1.cell? ⟨w.heap.size, 0, none⟩ = some (.int .i64 f0) := by rw [hw1]; simp
 have hx1 : w1.cell? ⟨w.heap.size, 1, none⟩ = some (.int .i64 (i : Nat)) := by rw [hw1]; simp
 have hx2 : w1.cell? ⟨w.heap.size, 2, none⟩ = some (.bool false) := by rw [hw1]; simp
 rw [← hw1]
 have HM1 := hM.below hB1
 have HGr : Hid (∀ n, IsGraph (w1.drewN n) C g ns) := Lib.hid fun n => (hG.below hB1).below (pw_below_drewN (Below.refl _ w1) n)
 clear hw1
 obtain ⟨hm0, hm1, hm2, hmb, hmc, hmf, hlb, hlo, hhx⟩ := HM1
 have HM1 : Hid (MAt h C M w1) := Lib.hid ⟨hm0, hm1, hm2, hmb, hmc, hmf, hlb, hlo, hhx⟩
 have HLb := Lib.hid hlb
 have HLo := Lib.hid hlo
 clear hlb hlo hhx
 have hwg : IntKind.i64.wrap ((g.length : Int) - 1) = (g.length : Int) - 1 := IntWalk.i64_in _ (by omega)
 go_quiet (first | (go_at_call 54; with_reducible exact Calls.quiet_of_same (within_is _ _ _ _ H0 _)) | (go_at_call 54; with_reducible exact Calls.quiet_of_same (within_is _ _ _ _ H1 _)) | (go_at_call 43; with_reducible exact Calls.quiet_of_same (size_calls _ _ _ _ (HGr.out _))))
 clear hwg
 go_wp2
 generalize hw2 : w1.drewN _ = w2
 have e2 : ∀ a, w2.cell? a = w1.cell? a := fun a => by rw [← hw2, World.cell?_drewN]
 have f2 : ∀ a, w2.frozen? a = w1.frozen? a := fun a => by rw [← hw2, World.frozen?_drewN]
 replace hB1 : Below w.heap.size w w2 := by rw [← hw2]; exact pw_below_drewN hB1 _
 replace HGr : Hid (IsGraph w2 C g ns) := Lib.hid (by rw [← hw2]; exact HGr.out _)
 rw [← e2] at hx0 hx1 hx2 hm0 hm1 hm2
 simp only [← e2] at hmb hmc
 simp only [← f2] at hmf
 have HM2 : Hid (MAt h C M w2) := Lib.hid (by rw [← hw2]; exact HM1.out.below (pw_below_drewN (Below.refl _ w1) _))
 clear HM1
 clear hw2 e2 f2
 obtain ⟨Ag, cg, An, cn, Ao, co, vb, va, hC, hT, hN, hO⟩ := HGr.out
 have hc0 : w2.cell? ⟨C, 0, none⟩ = some (.slice Ag g.length cg) := by simp [World.cell?, hC]
 have hc1 : w2.cell? ⟨C, 1, none⟩ = some (.slice An ns.length cn) := by simp [World.cell?, hC]
 obtain ⟨an, rfl, hnc⟩ := at_set hN i (by omega)
 obtain ⟨ag, A1, c1, rfl, htc, _, _, _⟩ := at_Tk hT i hi
 clear hC hO hN hT
 have hbc := hmb i (by omega)
 have hfb := hmf 1 (by omega)
 clear hmb hmc hmf
 have hd : (bits BinOp.andNot IntKind.u16 ((ns.getD i 0 : Nat) : Int) (M.o : Int) == 0) = true := by
  rw [bits_andNot_u16 _ M.o HX.out, HD.out]; rfl
 clear HD HX
 generalize ns.getD i 0 = nd at *
 go_quiet (first | (go_at_call 117; with_reducible exact Calls.quiet_of_same (has_is _ _ _ HBb HLb.out HI16.out _)))
 go_wp2
 generalize hw3 : w2.drewN _ = w3
 have e2 : ∀ a, w3.cell? a = w2.cell? a := fun a => by rw [← hw3, World.cell?_drewN]
 have f2 : ∀ a, w3.frozen? a = w2.frozen? a := fun a => by rw [← hw3, World.frozen?_drewN]
 replace hB1 : Below w.heap.size w w3 := by rw [← hw3]; exact pw_below_drewN hB1 _
 replace HM2 : Hid (MAt h C M w3) := Lib.hid (by rw [← hw3]; exact HM2.out.below (pw_below_drewN (Below.refl _ w2) _))
 rw [← e2] at hx0 hx1 hx2 hm0 hm1 hm2
 rw [← f2] at hfb
 clear hw3 e2 f2
 clear hc0 hc1 hnc htc hbc hd
 go_still_tail 10, mixed
 (with_reducible refine wpStill_step (fun K hK => ?_); go_simp; refine ⟨_, (with_calls _ _ HLb.out HI16.out _), ?_⟩; with_reducible refine hK _ ?_; clear hK K)
 repeat (with_reducible refine wpStill_step (fun K hK => ?_); go_simp; with_reducible refine hK _ ?_; clear hK K)
 with_reducible refine wpStill_nil ?_
 go_wp2
 have hlb := or_lt _ _ HLb.out (pow_u16 i HI16.out).2
 generalize hw4 : (w3.setCell _ _).drew = w4
 have HM4 : Hid (MAt h C { M with b := M.b ||| 2 ^ i } w4) := Lib.hid (by rw [← hw4]; exact (HM2.out.setB _ hlb).drew)
 have HB4 : Hid (Below h w w4) := Lib.hid (by rw [← hw4]; exact ((hB1.mono (Nat.le_of_lt HHX.out)).setCell (Nat.le_refl _) _).drew)
 have HO4 : Hid (Others h w w4) := Lib.hid (by rw [← hw4]; exact ((Others.of_below hB1).setCell _ _).drew)
 have HI8 : Hid (i < 8) := Lib.hid (by omega)
 have hne : h ≠ w.heap.size := Nat.ne_of_lt HHX.out
 replace hx0 : w4.cell? ⟨w.heap.size, 0, none⟩ = some (.int .i64 f0) := by rw [← hw4, World.cell?_drew, World.cell?_setCell_far _ _ _ _ hne]; exact hx0
 replace hx1 : w4.cell? ⟨w.heap.size, 1, none⟩ = some (.int .i64 (i : Nat)) := by rw [← hw4, World.cell?_drew, World.cell?_setCell_far _ _ _ _ hne]; exact hx1
 clear hw4 hx2 hm0 hm1 hm2 hfb hB1 hlb hne
 have hi8 : ((i : Nat) : Int) < 8 := by have := HI8.out; omega
 have hcell := HM4.out.2.2.2.1 i HI8.out
 have hfz := HM4.out.2.2.2.2.2.1 (3 + i) (by omega)
 go_still_tail 8, mixed
 go_wp2
 go_ret
 exact ⟨rfl, (HM4.out.setBg i (by have := HI8.out; omega) f0).drew, (HB4.out.setCell (Nat.le_refl _) _).drew, (HO4.out.setCell _ _).drew⟩
set_option maxRecDepth 100000 in
set_option maxHeartbeats 8000000 in
theorem take_end (C h : Nat) (g : List Tk) (ns : List Nat) (M : Mach) (f0 : Int) (i : Nat) (w : World) (hG : IsGraph w C g ns) (hgl : g.length ≤ 8) (hnl : ns.length = g.length) (hM : MAt h C M w) (hs : inB f0 0 200 = true) (hi : i < g.length) (hhw : h < w.heap.size) (hb : M.b.testBit i = true) (ho : M.o.testBit i = false) (hq : 0 ≤ M.bg i ∧ M.bg i ≤ 200) (ht : 0 ≤ (rdTk g i).f0 ∧ (rdTk g i).f0 ≤ 20) (he : f0 = M.bg i + (rdTk g i).f0) :
  Calls Tryz.prog 86 #[.pointer (some ⟨h, 0, none⟩), .agg #[.int .i64 f0, .int .i64 (i : Nat), .bool true]] w fun r w' => r = .returned (.bool true) ∧ MAt h C (M.finish ⟨f0, i, true⟩) w' ∧ Below h w w' ∧ Others h w w' := by
 have HM0 := Lib.hid hM
 have H0 := Lib.hid hs
 have H1 : Hid (inB (i : Nat) 0 (g.length - 1) = true) := Lib.hid (inB_true.2 (by omega))
 have HI16 : Hid (i < 16) := Lib.hid (by omega)
 clear hs
 have HBb := Lib.hid hb
 have HOb := Lib.hid ho
 have HQ := Lib.hid hq
 have HT := Lib.hid ht
 have HE := Lib.hid he
 clear hb ho hq ht he
 have HHX := Lib.hid hhw
 go_enter Tryz.func86, Tryz.ntmps86
 go_wp2
 obtain ⟨w1, hw1⟩ : ∃ w1, w1 = w.alloc (.cells #[.int .i64 f0, .int .i64 (i : Nat), .bool true] 75) := ⟨_, rfl⟩
 have hB1 : Below w.heap.size w w1 := by rw [hw1]; exact (Below.refl _ w).alloc (Nat.le_refl _) _
 have hx0 : w1.cell? ⟨w.heap.size, 0, none⟩ = some (.int .i64 f0) := by rw [hw1]; simp
 have hx1 : w1.cell? ⟨w.heap.size, 1, none⟩ = some (.int .i64 (i : Nat)) := by rw [hw1]; simp
 have hx2 : w1.cell? ⟨w.heap.size, 2, none⟩ = some (.bool true) := by rw [hw1]; simp
 rw [← hw1]
 have HM1 := hM.below hB1
 have HGr : Hid (∀ n, IsGraph (w1.drewN n) C g ns) := Lib.hid fun n => (hG.below hB1).below (pw_below_drewN (Below.refl _ w1) n)
 clear hw1
 obtain ⟨hm0, hm1, hm2, hmb, hmc, hmf, hlb, hlo, hhx⟩ := HM1
 have HM1 : Hid (MAt h C M w1) := Lib.hid ⟨hm0, hm1, hm2, hmb, hmc, hmf, hlb, hlo, hhx⟩
 have HLb := Lib.hid hlb
 have HLo := Lib.hid hlo
 clear hlb hlo hhx
 have hwg : IntKind.i64.wrap ((g.length : Int) - 1) = (g.length : Int) - 1 := IntWalk.i64_in _ (by omega)
 go_quiet (first | (go_at_call 54; with_reducible exact Calls.quiet_of_same (within_is _ _ _ _ H0 _)) | (go_at_call 54; with_reducible exact Calls.quiet_of_same (within_is _ _ _ _ H1 _)) | (go_at_call 43; with_reducible exact Calls.quiet_of_same (size_calls _ _ _ _ (HGr.out _))))
 clear hwg
 go_wp2
 generalize hw2 : w1.drewN _ = w2
 have e2 : ∀ a, w2.cell? a = w1.cell? a := fun a => by rw [← hw2, World.cell?_drewN]
 have f2 : ∀ a, w2.frozen? a = w1.frozen? a := fun a => by rw [← hw2, World.frozen?_drewN]
 replace hB1 : Below w.heap.size w w2 := by rw [← hw2]; exact pw_below_drewN hB1 _
 replace HGr : Hid (IsGraph w2 C g ns) := Lib.hid (by rw [← hw2]; exact HGr.out _)
 rw [← e2] at hx0 hx1 hx2 hm0 hm1 hm2
 simp only [← e2] at hmb hmc
 simp only [← f2] at hmf
 have HM2 : Hid (MAt h C M w2) := Lib.hid (by rw [← hw2]; exact HM1.out.below (pw_below_drewN (Below.refl _ w1) _))
 clear HM1
 clear hw2 e2 f2
 obtain ⟨Ag, cg, An, cn, Ao, co, vb, va, hC, hT, hN, hO⟩ := HGr.out
 have hc0 : w2.cell? ⟨C, 0, none⟩ = some (.slice Ag g.length cg) := by simp [World.cell?, hC]
 have hc1 : w2.cell? ⟨C, 1, none⟩ = some (.slice An ns.length cn) := by simp [World.cell?, hC]
 obtain ⟨an, rfl, hnc⟩ := at_set hN i (by omega)
 obtain ⟨ag, A1, c1, rfl, htc, _, _, _⟩ := at_Tk hT i hi
 clear hC hO hN hT
 have hbc := hmb i (by omega)
 have hfb := hmf 2 (by omega)
 clear hmb hmc hmf
 have hp := hbc
 have HW : Hid (IntKind.i64.wrap (M.bg i + (rdTk g i).f0) = M.bg i + (rdTk g i).f0) := Lib.hid (IntWalk.i64_in _ (by have := HQ.out; have := HT.out; omega))
 have HE2 : Hid ((f0 == M.bg i + (rdTk g i).f0) = true) := Lib.hid (beq_iff_eq.2 HE.out)
 clear hp
 generalize hpp : M.bg i = p at hbc HW HE2
 generalize htt : (rdTk g i).f0 = tm at htc HW HE2
 clear HQ HT HE hpp htt
 have hne := HE2.out
 have hw := HW.out
 go_quiet (first | (go_at_call 117; with_reducible exact Calls.quiet_of_same (has_is _ _ _ HBb HLb.out HI16.out _)) | (go_at_call 117; with_reducible exact Calls.quiet_of_same (has_is _ _ _ HOb HLo.out HI16.out _)))
 go_wp2
 generalize hw3 : w2.drewN _ = w3
 have e2 : ∀ a, w3.cell? a = w2.cell? a := fun a => by rw [← hw3, World.cell?_drewN]
 have f2 : ∀ a, w3.frozen? a = w2.frozen? a := fun a => by rw [← hw3, World.frozen?_drewN]
 replace hB1 : Below w.heap.size w w3 := by rw [← hw3]; exact pw_below_drewN hB1 _
 clear hw
 replace HM2 : Hid (MAt h C M w3) := Lib.hid (by rw [← hw3]; exact HM2.out.below (pw_below_drewN (Below.refl _ w2) _))
 rw [← e2] at hx0 hx1 hx2 hm0 hm1 hm2
 rw [← f2] at hfb
 clear hw3 e2 f2
 clear hc0 hc1 hnc htc hbc hne
 go_still_tail 10, mixed
 (with_reducible refine wpStill_step (fun K hK => ?_); go_simp; refine ⟨_, (with_calls _ _ HLo.out HI16.out _), ?_⟩; with_reducible refine hK _ ?_; clear hK K)
 repeat (with_reducible refine wpStill_step (fun K hK => ?_); go_simp; with_reducible refine hK _ ?_; clear hK K)
 with_reducible refine wpStill_nil ?_
 go_wp2
 have hlb := or_lt _ _ HLo.out (pow_u16 i HI16.out).2
 generalize hw4 : (w3.setCell _ _).drew = w4
 have HM4 : Hid (MAt h C { M with o := M.o ||| 2 ^ i } w4) := Lib.hid (by rw [← hw4]; exact (HM2.out.setO _ hlb).drew)
 have HB4 : Hid (Below h w w4) := Lib.hid (by rw [← hw4]; exact ((hB1.mono (Nat.le_of_lt HHX.out)).setCell (Nat.le_refl _) _).drew)
 have HO4 : Hid (Others h w w4) := Lib.hid (by rw [← hw4]; exact ((Others.of_below hB1).setCell _ _).drew)
 have HI8 : Hid (i < 8) := Lib.hid (by omega)
 have hne : h ≠ w.heap.size := Nat.ne_of_lt HHX.out
 replace hx0 : w4.cell? ⟨w.heap.size, 0, none⟩ = some (.int .i64 f0) := by rw [← hw4, World.cell?_drew, World.cell?_setCell_far _ _ _ _ hne]; exact hx0
 replace hx1 : w4.cell? ⟨w.heap.size, 1, none⟩ = some (.int .i64 (i : Nat)) := by rw [← hw4, World.cell?_drew, World.cell?_setCell_far _ _ _ _ hne]; exact hx1
 clear hw4 hx2 hm0 hm1 hm2 hfb hB1 hlb hne
 have hi8 : ((i : Nat) : Int) < 8 := by have := HI8.out; omega
 have hcell := HM4.out.2.2.2.2.1 i HI8.out
 have hfz := HM4.out.2.2.2.2.2.1 (11 + i) (by omega)
 go_still_tail 8, mixed
 go_wp2
 go_ret
 exact ⟨rfl, (HM4.out.setCl i (by have := HI8.out; omega) f0).drew, (HB4.out.setCell (Nat.le_refl _) _).drew, (HO4.out.setCell _ _).drew⟩
end Go.Proofs.YtlapphhcficbjaaGreatDoor

namespace Go.Proofs.YtlapphhcficbjaaGreatDoor
set_option linter.unusedVariables false
set_option linter.unusedSimpArgs false
open Go.RowKit Go.Shelf Bits
open Go.Proofs.YtlapphhcficbjaaGreatDoorW.PrintWords Go.Proofs.YtlapphhcficbjaaGreatDoorW.PrintLast Go.Proofs.YtlapphhcficbjaaGreatDoorW.PrintMore
def MInv (M : Mach) : Prop := ∀ i, 0 ≤ M.bg i ∧ M.bg i ≤ 200
theorem MInv.zero : MInv Mach.zero := fun _ => by simp [Mach.zero]
theorem stepM_some {g : List Tk} {ns : List Nat} {M M' : Mach} {e : Ev} (h : stepM g ns M e = some M') :
  evIn g e = true ∧ ((e.f2 = false ∧ mayBegin ns M e = true ∧ M' = M.begin e) ∨ (e.f2 = true ∧ mayEnd g M e = true ∧ M' = M.finish e)) := by
 unfold stepM at h
 split at h
 ·
  cases h
 ·
  rename_i h1
  refine ⟨by simpa using h1, ?_⟩
  split at h
  ·
   rename_i h2
   split at h
   ·
    cases h; exact Or.inl ⟨h2, by assumption, rfl⟩
   ·
    cases h
  ·
   rename_i h2
   split at h
   ·
    cases h; exact Or.inr ⟨by simpa using h2, by assumption, rfl⟩
   ·
    cases h
theorem evIn_num {g : List Tk} {e : Ev} (h : evIn g e = true) : inB e.f0 0 200 = true ∧ e.f1 = ((e.i : Nat) : Int) ∧ e.i < g.length := by
 unfold evIn at h
 rw [Bool.and_eq_true] at h
 have h2 := inB_true.1 h.2
 unfold Ev.i
 refine ⟨h.1, ?_, ?_⟩ <;> omega
theorem MInv.step {g : List Tk} {ns : List Nat} {M M' : Mach} {e : Ev} (hM : MInv M) (h : stepM g ns M e = some M') : MInv M' := by
 obtain ⟨h1, ⟨_, _, rfl⟩ | ⟨_, _, rfl⟩⟩ := stepM_some h
 ·
  intro i
  simp only [Mach.begin]
  split
  ·
   exact inB_true.1 (evIn_num h1).1
  ·
   exact hM i
 ·
  exact fun i => hM i
section
variable (C h : Nat) (g : List Tk) (ns : List Nat) (M : Mach) (e : Ev) (w : World) (hG : IsGraph w C g ns) (hgl : g.length ≤ 8) (hnl : ns.length = g.length) (hM : MAt h C M w)
 (hI : MInv M) (ht : ∀ i, 0 ≤ (rdTk g i).f0 ∧ (rdTk g i).f0 ≤ 20) (hx : ∀ i, ns.getD i 0 < 65536)
include hG hgl hnl hM hI ht hx
theorem take_none (hs : stepM g ns M e = none) :
  Calls Tryz.prog 86 #[.pointer (some ⟨h, 0, none⟩), .agg #[.int .i64 e.f0, .int .i64 e.f1, .bool e.f2]] w fun r w' => r = .returned (.bool false) ∧ Below w.heap.size w w' := by
 cases h0 : evIn g e
 ·
  unfold evIn at h0
  cases h1 : inB e.f0 0 200
  ·
   exact take_no1 C h g ns M e.f0 e.f1 e.f2 w hG hgl hnl hM h1
  ·
   rw [h1, Bool.true_and] at h0
   exact take_no2 C h g ns M e.f0 e.f1 e.f2 w hG hgl hnl hM h1 h0
 ·
  obtain ⟨h1, h2, h3⟩ := evIn_num h0
  unfold stepM at hs
  rw [if_neg (by rw [h0]; simp)] at hs
  rw [h2]
  cases h4 : e.f2
  ·
   rw [if_pos h4] at hs
   have hs : mayBegin ns M e = false := by
    cases hb : mayBegin ns M e
    ·
     rfl
    ·
     rw [hb] at hs; cases hs
   unfold mayBegin at hs
   cases h5 : M.b.testBit e.i
   ·
    rw [h5] at hs
    have h6 : diff (ns.getD e.i 0) M.o ≠ 0 := by simpa using hs
    exact take_no4 C h g ns M e.f0 e.i w hG hgl hnl hM h1 h3 (hx _) h5 h6
   ·
    exact take_no3 C h g ns M e.f0 e.i w hG hgl hnl hM h1 h3 h5
  ·
   rw [if_neg (by rw [h4]; simp)] at hs
   have hs : mayEnd g M e = false := by
    cases hb : mayEnd g M e
    ·
     rfl
    ·
     rw [hb] at hs; cases hs
   unfold mayEnd at hs
   cases h5 : M.b.testBit e.i
   ·
    exact take_no5 C h g ns M e.f0 e.i w hG hgl hnl hM h1 h3 h5
   ·
    cases h6 : M.o.testBit e.i
    ·
     rw [h5, h6] at hs
     exact take_no7 C h g ns M e.f0 e.i w hG hgl hnl hM h1 h3 h5 h6 (hI _) (ht _) (by simpa using hs)
    ·
     exact take_no6 C h g ns M e.f0 e.i w hG hgl hnl hM h1 h3 h5 h6
theorem take_some (M' : Mach) (hhw : h < w.heap.size) (hs : stepM g ns M e = some M') :
  Calls Tryz.prog 86 #[.pointer (some ⟨h, 0, none⟩), .agg #[.int .i64 e.f0, .int .i64 e.f1, .bool e.f2]] w fun r w' => r = .returned (.bool true) ∧ MAt h C M' w' ∧ Below h w w' ∧ Others h w w' := by
 obtain ⟨h0, hor⟩ := stepM_some hs
 obtain ⟨h1, h2, h3⟩ := evIn_num h0
 rw [h2]
 obtain ⟨h4, h5, rfl⟩ | ⟨h4, h5, rfl⟩ := hor
 ·
  unfold mayBegin at h5
  simp only [Bool.and_eq_true, Bool.not_eq_true', decide_eq_true_eq] at h5
  rw [h4]
  exact take_begin C h g ns M e.f0 e.i w hG hgl hnl hM h1 h3 hhw (hx _) h5.1 h5.2
 ·
  unfold mayEnd at h5
  simp only [Bool.and_eq_true, Bool.not_eq_true', decide_eq_true_eq] at h5
  rw [h4]
  exact take_end C h g ns M e.f0 e.i w hG hgl hnl hM h1 h3 hhw h5.1.1 h5.1.2 (hI _) (ht _) h5.2
end
end Go.Proofs.YtlapphhcficbjaaGreatDoor
