/- Parts of the proof, laid as one text by a program of mine. -/
import Derived.Test.YtlapphhcficbjaaGreatDoorKic9
import Derived.Test.YtlapphhcficbjaaGreatDoorKic13
import Derived.Deep.RegionHeld3
namespace Go.Proofs.YtlapphhcficbjaaGreatDoor
set_option linter.unusedVariables false
set_option linter.unusedSimpArgs false
open Go.RowKit Go.Shelf Bits
open Go.Proofs.YtlapphhcficbjaaGreatDoorW.PrintWords Go.Proofs.YtlapphhcficbjaaGreatDoorW.PrintLast Go.Proofs.YtlapphhcficbjaaGreatDoorW.PrintMore
set_option maxRecDepth 100000 in
set_option maxHeartbeats 8000000 in
theorem take_begin (C h : Nat) (g : List Tk) (ns : List Nat) (M : Mach) (f0 : Int) (i : Nat) (w : World) (hG : IsGraph w C g ns) (hgl : g.length ≤ 8) (hnl : ns.length = g.length) (hM : MAt h C M w) (hs : inB f0 0 200 = true) (hi : i < g.length) (hhw : h < w.heap.size) (hx : ns.getD i 0 < 65536) (hb : M.b.testBit i = false) (hd : diff (ns.getD i 0) M.o = 0) :
  Calls Tryz.prog 86 #[.pointer (some ⟨h, 0, none⟩), .agg #[.int .i64 f0, .int .i64 (i : Nat), .bool false]] w fun r w' => r = .returned (.bool true) ∧ MAt h C (M.begin ⟨f0, i, false⟩) w' ∧ Below h w w' ∧ Others h w w' := by
 have HM0 := Lib.hid hM
 have H0 := Lib.hid hs
 have H1 : Hid (inB (i : Nat) 0 (g.length - 1) = true) := Lib.hid (inB_true.2 (by omega))
 have HI16 : Hid (i < 16) := Lib.hid (by omega)
 clear hs
 have HBb := Lib.hid hb
 have HX := Lib.hid hx
 have HD := Lib.hid hd
 clear hb hx hd
 have HHX := Lib.hid hhw
 go_enter Tryz.func86, Tryz.ntmps86
 go_wp2
 obtain ⟨w1, hw1⟩ : ∃ w1, w1 = w.alloc (.cells #[.int .i64 f0, .int .i64 (i : Nat), .bool false] 75) := ⟨_, rfl⟩
 have hB1 : Below w.heap.size w w1 := by rw [hw1]; exact (Below.refl _ w).alloc (Nat.le_refl _) _
 have hx0 : w1.cell? ⟨w.heap.size, 0, none⟩ = some (.int .i64 f0) := by rw [hw1]; simp
 have hx1 : w1.cell? ⟨w.heap.size, 1, none⟩ = some (.int .i64 (i : Nat)) := by rw [hw1]; simp
 have hx2 : w1.cell? ⟨w.heap.size, 2, none⟩ = some (.bool false) := by rw [hw1]; simp
 rw [← hw1]
 have HM1 := hM.below hB1
 have HGr : Hid (∀ n, IsGraph (w1.drewN n) C g ns) := Lib.hid fun n => (hG.below hB1).below (pw_below_drewN (Below.refl _ w1) n)
 clear hw1
 obtain ⟨hm0, hm1, hm2, hmb, hmc, hmf, hlb, hlo, hhx⟩ := HM1
 have HM1 : Hid (MAt h C M w1) := Lib.hid ⟨hm0, hm1, hm2, hmb, hmc, hmf, hlb, hlo, hhx⟩
 have HLb := Lib.hid hlb
 have HLo := Lib.hid hlo
 clear hlb hlo hhx
 have hwg : IntKind.i64.wrap ((g.length : Int) - 1) = (g.length : Int) - 1 := IntWalk.i64_in _ (by omega)
 go_quiet (first | (go_at_call 54; with_reducible exact Calls.quiet_of_same (within_is _ _ _ _ H0 _)) | (go_at_call 54; with_reducible exact Calls.quiet_of_same (within_is _ _ _ _ H1 _)) | (go_at_call 43; with_reducible exact Calls.quiet_of_same (size_calls _ _ _ _ (HGr.out _))))
 clear hwg
 go_wp2
 generalize hw2 : w1.drewN _ = w2
 have e2 : ∀ a, w2.cell? a = w1.cell? a := fun a => by rw [← hw2, World.cell?_drewN]
 have f2 : ∀ a, w2.frozen? a = w1.frozen? a := fun a => by rw [← hw2, World.frozen?_drewN]
 replace hB1 : Below w.heap.size w w2 := by rw [← hw2]; exact pw_below_drewN hB1 _
 replace HGr : Hid (IsGraph w2 C g ns) := Lib.hid (by rw [← hw2]; exact HGr.out _)
 rw [← e2] at hx0 hx1 hx2 hm0 hm1 hm2
 simp only [← e2] at hmb hmc
 simp only [← f2] at hmf
 have HM2 : Hid (MAt h C M w2) := Lib.hid (by rw [← hw2]; exact HM1.out.below (pw_below_drewN (Below.refl _ w1) _))
 clear HM1
 clear hw2 e2 f2
 obtain ⟨Ag, cg, An, cn, Ao, co, vb, va, hC, hT, hN, hO⟩ := HGr.out
 have hc0 : w2.cell? ⟨C, 0, none⟩ = some (.slice Ag g.length cg) := by simp [World.cell?, hC]
 have hc1 : w2.cell? ⟨C, 1, none⟩ = some (.slice An ns.length cn) := by simp [World.cell?, hC]
 obtain ⟨an, rfl, hnc⟩ := at_set hN i (by omega)
 obtain ⟨ag, A1, c1, rfl, htc, _, _, _⟩ := at_Tk hT i hi
 clear hC hO hN hT
 have hbc := hmb i (by omega)
 have hfb := hmf 1 (by omega)
 clear hmb hmc hmf
 have hd : (bits BinOp.andNot IntKind.u16 ((ns.getD i 0 : Nat) : Int) (M.o : Int) == 0) = true := by
  rw [bits_andNot_u16 _ M.o HX.out, HD.out]; rfl
 clear HD HX
 generalize ns.getD i 0 = nd at *
 go_quiet (first | (go_at_call 117; with_reducible exact Calls.quiet_of_same (has_is _ _ _ HBb HLb.out HI16.out _)))
 go_wp2
 generalize hw3 : w2.drewN _ = w3
 have e2 : ∀ a, w3.cell? a = w2.cell? a := fun a => by rw [← hw3, World.cell?_drewN]
 have f2 : ∀ a, w3.frozen? a = w2.frozen? a := fun a => by rw [← hw3, World.frozen?_drewN]
 replace hB1 : Below w.heap.size w w3 := by rw [← hw3]; exact pw_below_drewN hB1 _
 replace HM2 : Hid (MAt h C M w3) := Lib.hid (by rw [← hw3]; exact HM2.out.below (pw_below_drewN (Below.refl _ w2) _))
 rw [← e2] at hx0 hx1 hx2 hm0 hm1 hm2
 rw [← f2] at hfb
 clear hw3 e2 f2
 clear hc0 hc1 hnc htc hbc hd
 go_still_tail 10, mixed
 (with_reducible refine wpStill_step (fun K hK => ?_); go_simp; refine ⟨_, (with_calls _ _ HLb.out HI16.out _), ?_⟩; with_reducible refine hK _ ?_; clear hK K)
 repeat (with_reducible refine wpStill_step (fun K hK => ?_); go_simp; with_reducible refine hK _ ?_; clear hK K)
 with_reducible refine wpStill_nil ?_
 go_wp2
 have hlb := or_lt _ _ HLb.out (pow_u16 i HI16.out).2
 generalize hw4 : (w3.setCell _ _).drew = w4
 have HM4 : Hid (MAt h C { M with b := M.b ||| 2 ^ i } w4) := Lib.hid (by rw [← hw4]; exact (HM2.out.setB _ hlb).drew)
 have HB4 : Hid (Below h w w4) := Lib.hid (by rw [← hw4]; exact ((hB1.mono (Nat.le_of_lt HHX.out)).setCell (Nat.le_refl _) _).drew)
 have HO4 : Hid (Others h w w4) := Lib.hid (by rw [← hw4]; exact ((Others.of_below hB1).setCell _ _).drew)
 have HI8 : Hid (i < 8) := Lib.hid (by omega)
 have hne : h ≠ w.heap.size := Nat.ne_of_lt HHX.out
 replace hx0 : w4.cell? ⟨w.heap.size, 0, none⟩ = some (.int .i64 f0) := by rw [← hw4, World.cell?_drew, World.cell?_setCell_far _ _ _ _ hne]; exact hx0
 replace hx1 : w4.cell? ⟨w.heap.size, 1, none⟩ = some (.int .i64 (i : Nat)) := by rw [← hw4, World.cell?_drew, World.cell?_setCell_far _ _ _ _ hne]; exact hx1
 clear hw4 hx2 hm0 hm1 hm2 hfb hB1 hlb hne
 have hi8 : ((i : Nat) : Int) < 8 := by have := HI8.out; omega
 have hcell := HM4.out.2.2.2.1 i HI8.out
 have hfz := HM4.out.2.2.2.2.2.1 (3 + i) (by omega)
 go_still_tail 8, mixed
 go_wp2
 go_ret
 exact ⟨rfl, (HM4.out.setBg i (by have := HI8.out; omega) f0).drew, (HB4.out.setCell (Nat.le_refl _) _).drew, (HO4.out.setCell _ _).drew⟩
set_option maxRecDepth 100000 in
set_option maxHeartbeats 8000000 in
theorem take_end (C h : Nat) (g : List Tk) (ns : List Nat) (M : Mach) (f0 : Int) (i : Nat) (w : World) (hG : IsGraph w C g ns) (hgl : g.length ≤ 8) (hnl : ns.length = g.length) (hM : MAt h C M w) (hs : inB f0 0 200 = true) (hi : i < g.length) (hhw : h < w.heap.size) (hb : M.b.testBit i = true) (ho : M.o.testBit i = false) (hq : 0 ≤ M.bg i ∧ M.bg i ≤ 200) (ht : 0 ≤ (rdTk g i).f0 ∧ (rdTk g i).f0 ≤ 20) (he : f0 = M.bg i + (rdTk g i).f0) :
  Calls Tryz.prog 86 #[.pointer (some ⟨h, 0, none⟩), .agg #[.int .i64 f0, .int .i64 (i : Nat), .bool true]] w fun r w' => r = .returned (.bool true) ∧ MAt h C (M.finish ⟨f0, i, true⟩) w' ∧ Below h w w' ∧ Others h w w' := by
 have HM0 := Lib.hid hM
 have H0 := Lib.hid hs
 have H1 : Hid (inB (i : Nat) 0 (g.length - 1) = true) := Lib.hid (inB_true.2 (by omega))
 have HI16 : Hid (i < 16) := Lib.hid (by omega)
 clear hs
 have HBb := Lib.hid hb
 have HOb := Lib.hid ho
 have HQ := Lib.hid hq
 have HT := Lib.hid ht
 have HE := Lib.hid he
 clear hb ho hq ht he
 have HHX := Lib.hid hhw
 go_enter Tryz.func86, Tryz.ntmps86
 go_wp2
 obtain ⟨w1, hw1⟩ : ∃ w1, w1 = w.alloc (.cells #[.int .i64 f0, .int .i64 (i : Nat), .bool true] 75) := ⟨_, rfl⟩
 have hB1 : Below w.heap.size w w1 := by rw [hw1]; exact (Below.refl _ w).alloc (Nat.le_refl _) _
 have hx0 : w1.cell? ⟨w.heap.size, 0, none⟩ = some (.int .i64 f0) := by rw [hw1]; simp
 have hx1 : w1.cell? ⟨w.heap.size, 1, none⟩ = some (.int .i64 (i : Nat)) := by rw [hw1]; simp
 have hx2 : w1.cell? ⟨w.heap.size, 2, none⟩ = some (.bool true) := by rw [hw1]; simp
 rw [← hw1]
 have HM1 := hM.below hB1
 have HGr : Hid (∀ n, IsGraph (w1.drewN n) C g ns) := Lib.hid fun n => (hG.below hB1).below (pw_below_drewN (Below.refl _ w1) n)
 clear hw1
 obtain ⟨hm0, hm1, hm2, hmb, hmc, hmf, hlb, hlo, hhx⟩ := HM1
 have HM1 : Hid (MAt h C M w1) := Lib.hid ⟨hm0, hm1, hm2, hmb, hmc, hmf, hlb, hlo, hhx⟩
 have HLb := Lib.hid hlb
 have HLo := Lib.hid hlo
 clear hlb hlo hhx
 have hwg : IntKind.i64.wrap ((g.length : Int) - 1) = (g.length : Int) - 1 := IntWalk.i64_in _ (by omega)
 go_quiet (first | (go_at_call 54; with_reducible exact Calls.quiet_of_same (within_is _ _ _ _ H0 _)) | (go_at_call 54; with_reducible exact Calls.quiet_of_same (within_is _ _ _ _ H1 _)) | (go_at_call 43; with_reducible exact Calls.quiet_of_same (size_calls _ _ _ _ (HGr.out _))))
 clear hwg
 go_wp2
 generalize hw2 : w1.drewN _ = w2
 have e2 : ∀ a, w2.cell? a = w1.cell? a := fun a => by rw [← hw2, World.cell?_drewN]
 have f2 : ∀ a, w2.frozen? a = w1.frozen? a := fun a => by rw [← hw2, World.frozen?_drewN]
 replace hB1 : Below w.heap.size w w2 := by rw [← hw2]; exact pw_below_drewN hB1 _
 replace HGr : Hid (IsGraph w2 C g ns) := Lib.hid (by rw [← hw2]; exact HGr.out _)
 rw [← e2] at hx0 hx1 hx2 hm0 hm1 hm2
 simp only [← e2] at hmb hmc
 simp only [← f2] at hmf
 have HM2 : Hid (MAt h C M w2) := Lib.hid (by rw [← hw2]; exact HM1.out.below (pw_below_drewN (Below.refl _ w1) _))
 clear HM1
 clear hw2 e2 f2
 obtain ⟨Ag, cg, An, cn, Ao, co, vb, va, hC, hT, hN, hO⟩ := HGr.out
 have hc0 : w2.cell? ⟨C, 0, none⟩ = some (.slice Ag g.length cg) := by simp [World.cell?, hC]
 have hc1 : w2.cell? ⟨C, 1, none⟩ = some (.slice An ns.length cn) := by simp [World.cell?, hC]
 obtain ⟨an, rfl, hnc⟩ := at_set hN i (by omega)
 obtain ⟨ag, A1, c1, rfl, htc, _, _, _⟩ := at_Tk hT i hi
 clear hC hO hN hT
 have hbc := hmb i (by omega)
 have hfb := hmf 2 (by omega)
 clear hmb hmc hmf
 have hp := hbc
 have HW : Hid (IntKind.i64.wrap (M.bg i + (rdTk g i).f0) = M.bg i + (rdTk g i).f0) := Lib.hid (IntWalk.i64_in _ (by have := HQ.out; have := HT.out; omega))
 have HE2 : Hid ((f0 == M.bg i + (rdTk g i).f0) = true) := Lib.hid (beq_iff_eq.2 HE.out)
 clear hp
 generalize hpp : M.bg i = p at hbc HW HE2
 generalize htt : (rdTk g i).f0 = tm at htc HW HE2
 clear HQ HT HE hpp htt
 have hne := HE2.out
 have hw := HW.out
 go_quiet (first | (go_at_call 117; with_reducible exact Calls.quiet_of_same (has_is _ _ _ HBb HLb.out HI16.out _)) | (go_at_call 117; with_reducible exact Calls.quiet_of_same (has_is _ _ _ HOb HLo.out HI16.out _)))
 go_wp2
 generalize hw3 : w2.drewN _ = w3
 have e2 : ∀ a, w3.cell? a = w2.cell? a := fun a => by rw [← hw3, World.cell?_drewN]
 have f2 : ∀ a, w3.frozen? a = w2.frozen? a := fun a => by rw [← hw3, World.frozen?_drewN]
 replace hB1 : Below w.heap.size w w3 := by rw [← hw3]; exact pw_below_drewN hB1 _
 clear hw
 replace HM2 : Hid (MAt h C M w3) := Lib.hid (by rw [← hw3]; exact HM2.out.below (pw_below_drewN (Below.refl _ w2) _))
 rw [← e2] at hx0 hx1 hx2 hm0 hm1 hm2
 rw [← f2] at hfb
 clear hw3 e2 f2
 clear hc0 hc1 hnc htc hbc hne
 go_still_tail 10, mixed
 (with_reducible refine wpStill_step (fun K hK => ?_); go_simp; refine ⟨_, (with_calls _ _ HLo.out HI16.out _), ?_⟩; with_reducible refine hK _ ?_; clear hK K)
 repeat (with_reducible refine wpStill_step (fun K hK => ?_); go_simp; with_reducible refine hK _ ?_; clear hK K)
 with_reducible refine wpStill_nil ?_
 go_wp2
 have hlb := or_lt _ _ HLo.out (pow_u16 i HI16.out).2
 generalize hw4 : (w3.setCell _ _).drew = w4
 have HM4 : Hid (MAt h C { M with o := M.o ||| 2 ^ i } w4) := Lib.hid (by rw [← hw4]; exact (HM2.out.setO _ hlb).drew)
 have HB4 : Hid (Below h w w4) := Lib.hid (by rw [← hw4]; exact ((hB1.mono (Nat.le_of_lt HHX.out)).setCell (Nat.le_refl _) _).drew)
 have HO4 : Hid (Others h w w4) := Lib.hid (by rw [← hw4]; exact ((Others.of_below hB1).setCell _ _).drew)
 have HI8 : Hid (i < 8) := Lib.hid (by omega)
 have hne : h ≠ w.heap.size := Nat.ne_of_lt HHX.out
 replace hx0 : w4.cell? ⟨w.heap.size, 0, none⟩ = some (.int .i64 f0) := by rw [← hw4, World.cell?_drew, World.cell?_setCell_far _ _ _ _ hne]; exact hx0
 replace hx1 : w4.cell? ⟨w.heap.size, 1, none⟩ = some (.int .i64 (i : Nat)) := by rw [← hw4, World.cell?_drew, World.cell?_setCell_far _ _ _ _ hne]; exact hx1
 clear hw4 hx2 hm0 hm1 hm2 hfb hB1 hlb hne
 have hi8 : ((i : Nat) : Int) < 8 := by have := HI8.out; omega
 have hcell := HM4.out.2.2.2.2.1 i HI8.out
 have hfz := HM4.out.2.2.2.2.2.1 (11 + i) (by omega)
 go_still_tail 8, mixed
 go_wp2
 go_ret
 exact ⟨rfl, (HM4.out.setCl i (by have := HI8.out; omega) f0).drew, (HB4.out.setCell (Nat.le_refl _) _).drew, (HO4.out.setCell _ _).drew⟩
end Go.Proofs.YtlapphhcficbjaaGreatDoor

namespace Go.Proofs.YtlapphhcficbjaaGreatDoor
set_option linter.unusedVariables false
set_option linter.unusedSimpArgs false
open Go.RowKit Go.Shelf Bits
open Go.Proofs.YtlapphhcficbjaaGreatDoorW.PrintWords Go.Proofs.YtlapphhcficbjaaGreatDoorW.PrintLast Go.Proofs.YtlapphhcficbjaaGreatDoorW.PrintMore
def MInv (M : Mach) : Prop := ∀ i, 0 ≤ M.bg i ∧ M.bg i ≤ 200
theorem MInv.zero : MInv Mach.zero := fun _ => by simp [Mach.zero]
theorem stepM_some {g : List Tk} {ns : List Nat} {M M' : Mach} {e : Ev} (h : stepM g ns M e = some M') :
  evIn g e = true ∧ ((e.f2 = false ∧ mayBegin ns M e = true ∧ M' = M.begin e) ∨ (e.f2 = true ∧ mayEnd g M e = true ∧ M' = M.finish e)) := by
 unfold stepM at h
 split at h
 ·
  cases h
 ·
  rename_i h1
  refine ⟨by simpa using h1, ?_⟩
  split at h
  ·
   rename_i h2
   split at h
   ·
    cases h; exact Or.inl ⟨h2, by assumption, rfl⟩
   ·
    cases h
  ·
   rename_i h2
   split at h
   ·
    cases h; exact Or.inr ⟨by simpa using h2, by assumption, rfl⟩
   ·
    cases h
theorem evIn_num {g : List Tk} {e : Ev} (h : evIn g e = true) : inB e.f0 0 200 = true ∧ e.f1 = ((e.i : Nat) : Int) ∧ e.i < g.length := by
 unfold evIn at h
 rw [Bool.and_eq_true] at h
 have h2 := inB_true.1 h.2
 unfold Ev.i
 refine ⟨h.1, ?_, ?_⟩ <;> omega
theorem MInv.step {g : List Tk} {ns : List Nat} {M M' : Mach} {e : Ev} (hM : MInv M) (h : stepM g ns M e = some M') : MInv M' := by
 obtain ⟨h1, ⟨_, _, rfl⟩ | ⟨_, _, rfl⟩⟩ := stepM_some h
 ·
  intro i
  simp only [Mach.begin]
  split
  ·
   exact inB_true.1 (evIn_num h1).1
  ·
   exact hM i
 ·
  exact fun i => hM i
section
variable (C h : Nat) (g : List Tk) (ns : List Nat) (M : Mach) (e : Ev) (w : World) (hG : IsGraph w C g ns) (hgl : g.length ≤ 8) (hnl : ns.length = g.length) (hM : MAt h C M w)
 (hI : MInv M) (ht : ∀ i, 0 ≤ (rdTk g i).f0 ∧ (rdTk g i).f0 ≤ 20) (hx : ∀ i, ns.getD i 0 < 65536)
include hG hgl hnl hM hI ht hx
theorem take_none (hs : stepM g ns M e = none) :
  Calls Tryz.prog 86 #[.pointer (some ⟨h, 0, none⟩), .agg #[.int .i64 e.f0, .int .i64 e.f1, .bool e.f2]] w fun r w' => r = .returned (.bool false) ∧ Below w.heap.size w w' := by
 cases h0 : evIn g e
 ·
  unfold evIn at h0
  cases h1 : inB e.f0 0 200
  ·
   exact take_no1 C h g ns M e.f0 e.f1 e.f2 w hG hgl hnl hM h1
  ·
   rw [h1, Bool.true_and] at h0
   exact take_no2 C h g ns M e.f0 e.f1 e.f2 w hG hgl hnl hM h1 h0
 ·
  obtain ⟨h1, h2, h3⟩ := evIn_num h0
  unfold stepM at hs
  rw [if_neg (by rw [h0]; simp)] at hs
  rw [h2]
  cases h4 : e.f2
  ·
   rw [if_pos h4] at hs
   have hs : mayBegin ns M e = false := by
    cases hb : mayBegin ns M e
    ·
     rfl
    ·
     rw [hb] at hs; cases hs
   unfold mayBegin at hs
   cases h5 : M.b.testBit e.i
   ·
    rw [h5] at hs
    have h6 : diff (ns.getD e.i 0) M.o ≠ 0 := by simpa using hs
    exact take_no4 C h g ns M e.f0 e.i w hG hgl hnl hM h1 h3 (hx _) h5 h6
   ·
    exact take_no3 C h g ns M e.f0 e.i w hG hgl hnl hM h1 h3 h5
  ·
   rw [if_neg (by rw [h4]; simp)] at hs
   have hs : mayEnd g M e = false := by
    cases hb : mayEnd g M e
    ·
     rfl
    ·
     rw [hb] at hs; cases hs
   unfold mayEnd at hs
   cases h5 : M.b.testBit e.i
   ·
    exact take_no5 C h g ns M e.f0 e.i w hG hgl hnl hM h1 h3 h5
   ·
    cases h6 : M.o.testBit e.i
    ·
     rw [h5, h6] at hs
     exact take_no7 C h g ns M e.f0 e.i w hG hgl hnl hM h1 h3 h5 h6 (hI _) (ht _) (by simpa using hs)
    ·
     exact take_no6 C h g ns M e.f0 e.i w hG hgl hnl hM h1 h3 h5 h6
theorem take_some (M' : Mach) (hhw : h < w.heap.size) (hs : stepM g ns M e = some M') :
  Calls Tryz.prog 86 #[.pointer (some ⟨h, 0, none⟩), .agg #[.int .i64 e.f0, .int .i64 e.f1, .bool e.f2]] w fun r w' => r = .returned (.bool true) ∧ MAt h C M' w' ∧ Below h w w' ∧ Others h w w' := by
 obtain ⟨h0, hor⟩ := stepM_some hs
 obtain ⟨h1, h2, h3⟩ := evIn_num h0
 rw [h2]
 obtain ⟨h4, h5, rfl⟩ | ⟨h4, h5, rfl⟩ := hor
 ·
  unfold mayBegin at h5
  simp only [Bool.and_eq_true, Bool.not_eq_true', decide_eq_true_eq] at h5
  rw [h4]
  exact take_begin C h g ns M e.f0 e.i w hG hgl hnl hM h1 h3 hhw (hx _) h5.1 h5.2
 ·
  unfold mayEnd at h5
  simp only [Bool.and_eq_true, Bool.not_eq_true', decide_eq_true_eq] at h5
  rw [h4]
  exact take_end C h g ns M e.f0 e.i w hG hgl hnl hM h1 h3 hhw h5.1.1 h5.1.2 (hI _) (ht _) h5.2
end
end Go.Proofs.YtlapphhcficbjaaGreatDoor

namespace Go.Proofs.YtlapphhcficbjaaGreatDoor
set_option linter.unusedVariables false
set_option linter.unusedSimpArgs false
open Go.RowKit Go.Shelf Bits
open Go.Proofs.YtlapphhcficbjaaGreatDoorW.PrintWords Go.Proofs.YtlapphhcficbjaaGreatDoorW.PrintLast Go.Proofs.YtlapphhcficbjaaGreatDoorW.PrintMore
def running (M : Mach) : Int := ((elems (diff M.b M.o)).length : Nat)
def inOrder (log : List Ev) (k : Nat) : Bool := !(decide (0 < k) && decide ((rdEv log (k - 1)).f0 > (rdEv log k).f0))
def lastOf (log : List Ev) (k : Nat) : Bool := decide (k + 1 = log.length) || decide ((rdEv log (k + 1)).f0 > (rdEv log k).f0)
def replayN (g : List Tk) (ns : List Nat) (log : List Ev) : Nat → Option (Mach × Int)
 | 0 => some (Mach.zero, 0)
 | k + 1 => (replayN g ns log k).bind fun p => if inOrder log k = false then none else (stepM g ns p.1 (rdEv log k)).map fun M => (M, if lastOf log k then max p.2 (running M) else p.2)
def ReplayPost (g : List Tk) (ns : List Nat) (log : List Ev) (w : World) (e : Ending) (w' : World) : Prop :=
 match replayN g ns log log.length with
 | some p => ∃ h C, e = .returned (.tuple #[.pointer (some ⟨h, 0, none⟩), .int .i64 p.2, .bool true]) ∧ MAt h C p.1 w' ∧ IsGraph w' C g ns ∧ MInv p.1 ∧ Below w.heap.size w w'
 | none => e = .returned (.tuple #[.pointer none, .int .i64 0, .bool false]) ∧ Below w.heap.size w w'
theorem replayN_none {g : List Tk} {ns : List Nat} {log : List Ev} {k : Nat} (h : replayN g ns log k = none) : ∀ m, k ≤ m → replayN g ns log m = none := by
 intro m hm
 induction m with
 | zero =>
  have : k = 0 := by omega
  subst this; exact h
 | succ m ih =>
  rcases Nat.lt_or_ge m k with h1 | h1
  ·
   have : k = m + 1 := by omega
   subst this; exact h
  ·
   simp only [replayN, ih h1, Option.bind_none]
theorem ReplayPost.none {g : List Tk} {ns : List Nat} {log : List Ev} {w w' : World} {e : Ending} {k : Nat} (h : replayN g ns log k = .none) (hk : k ≤ log.length)
  (he : e = .returned (.tuple #[.pointer .none, .int .i64 0, .bool false])) (hB : Below w.heap.size w w') : ReplayPost g ns log w e w' := by
 unfold ReplayPost
 rw [replayN_none h _ hk]
 exact ⟨he, hB⟩
theorem replayN_order {g : List Tk} {ns : List Nat} {log : List Ev} {k : Nat} {p : Mach × Int} (h : replayN g ns log k = some p) (ho : inOrder log k = false) : replayN g ns log (k + 1) = .none := by
 simp only [replayN, h, Option.bind_some, if_pos ho]
theorem replayN_none1 {g : List Tk} {ns : List Nat} {log : List Ev} {k : Nat} {M : Mach} {most : Int} (h : replayN g ns log k = some (M, most)) (ho : inOrder log k = true) (hs : stepM g ns M (rdEv log k) = .none) :
  replayN g ns log (k + 1) = .none := by
 have ho' : ¬ (inOrder log k = false) := by rw [ho]; simp
 simp only [replayN, h, Option.bind_some, if_neg ho', hs, Option.map_none]
theorem replayN_some1 {g : List Tk} {ns : List Nat} {log : List Ev} {k : Nat} {M M' : Mach} {most : Int} (h : replayN g ns log k = some (M, most)) (ho : inOrder log k = true) (hs : stepM g ns M (rdEv log k) = some M') :
  replayN g ns log (k + 1) = some (M', if lastOf log k then max most (running M') else most) := by
 have ho' : ¬ (inOrder log k = false) := by rw [ho]; simp
 simp only [replayN, h, Option.bind_some, if_neg ho', hs, Option.map_some]
theorem max_run (M : Mach) (most : Int) : max most (running M) = if most < (((els (diff M.b M.o)).length : Nat) : Int) then (((els (diff M.b M.o)).length : Nat) : Int) else most := by
 have e : running M = (((els (diff M.b M.o)).length : Nat) : Int) := by unfold running els; rw [List.length_map]
 rw [e]
 split <;> omega
theorem max_bound {most : Int} (h : 0 ≤ most ∧ most ≤ 16) (M : Mach) : 0 ≤ max most (running M) ∧ max most (running M) ≤ 16 := by
 have := els_length (diff M.b M.o)
 have e : running M = (((els (diff M.b M.o)).length : Nat) : Int) := by unfold running els; rw [List.length_map]
 rw [e]
 omega
theorem MAt.made (w1 : World) (C : Nat) : MAt w1.heap.size C Mach.zero (w1.alloc (.cells #[.pointer (some ⟨C, 0, none⟩), .int .u16 0, .int .u16 0, .int .i64 0, .int .i64 0, .int .i64 0, .int .i64 0, .int .i64 0, .int .i64 0, .int .i64 0, .int .i64 0, .int .i64 0, .int .i64 0, .int .i64 0, .int .i64 0, .int .i64 0, .int .i64 0, .int .i64 0, .int .i64 0] 132)) := by
 refine ⟨by simp, by simp [Mach.zero], by simp [Mach.zero], fun i hi => ?_, fun i hi => ?_, fun j hj => World.frozen?_alloc_at _ _ _ _ rfl, by simp [Mach.zero], by simp [Mach.zero], by simp⟩
 ·
  rw [World.cell?_alloc_new]
  rcases i with _ | _ | _ | _ | _ | _ | _ | _ | i <;> first | rfl | omega
 ·
  rw [World.cell?_alloc_new]
  rcases i with _ | _ | _ | _ | _ | _ | _ | _ | i <;> first | rfl | omega
set_option maxRecDepth 100000 in
set_option maxHeartbeats 40000000 in
theorem replay_calls (A : Option Addr) (c : Nat) (g : List Tk) (A' : Option Addr) (c' : Nat) (log : List Ev) (w : World) (ns : List Nat) (hr : kTk.C w A g.length g) (hr' : kEv.C w A' log.length log) (hT : Tab w) (hg : graphN g = some ns)
  (hlen : log.length ≤ 16) (ht : ∀ i, 0 ≤ (rdTk g i).f0 ∧ (rdTk g i).f0 ≤ 20) (hx : ∀ i, ns.getD i 0 < 65536) :
  Calls Tryz.prog 46 #[.slice A g.length c, .slice A' log.length c'] w fun e w' => ReplayPost g ns log w e w' := by
 have hd16 : decide ((16 : Int) < (log.length : Int)) = false := decide_eq_false (by omega)
 have HR := Lib.hid hr
 have HR' := Lib.hid hr'
 have HT := Lib.hid hT
 have HG := Lib.hid hg
 have HTM := Lib.hid ht
 have HX := Lib.hid hx
 clear hr hr' hT hg ht hx
 go_enter Tryz.func46, Tryz.ntmps46
 go_wp2_with (go_at_call 49; refine (graphOf_yes _ _ _ _ _ HR.out HT.out HG.out).mono ?_; rintro e w1 ⟨C, rfl, hC, hB1⟩)
 have HA0 : Hid (MAt w1.heap.size C Mach.zero (w1.alloc (.cells #[.pointer (some ⟨C, 0, none⟩), .int .u16 0, .int .u16 0, .int .i64 0, .int .i64 0, .int .i64 0, .int .i64 0, .int .i64 0, .int .i64 0, .int .i64 0, .int .i64 0, .int .i64 0, .int .i64 0, .int .i64 0, .int .i64 0, .int .i64 0, .int .i64 0, .int .i64 0, .int .i64 0] 132))) := Lib.hid (MAt.made w1 C)
 have HGL : Hid (g.length ≤ 8) := Lib.hid (graphN_some HG.out).2.2.1
 have HNL : Hid (ns.length = g.length) := Lib.hid (graphN_some HG.out).2.2.2
 have HC := Lib.hid hC
 have HB1 := Lib.hid hB1
 have HR1 := Lib.hid (Kd.C_below HR'.out hB1)
 clear hC hB1
 go_loopw [10, 30] (fun m i wr => ∃ (k : Nat) (M : Mach) (most : Int), k ≤ log.length ∧ m = .int .i64 most ∧ i = .int .i64 k ∧ Hid (replayN g ns log k = some (M, most)) ∧ Hid (MInv M) ∧ Hid (0 ≤ most ∧ most ≤ 16) ∧ Hid (MAt w1.heap.size C M wr) ∧ Hid (Below w1.heap.size w1 wr)) (fun _ i _ => log.length - (intOf i).toNat)
 case atStart => exact ⟨0, Mach.zero, 0, Nat.zero_le _, rfl, rfl, Lib.hid rfl, Lib.hid MInv.zero, Lib.hid (by omega), HA0, Lib.hid ((Below.refl _ w1).alloc (Nat.le_refl _) _)⟩
 case round =>
  clear HA0
  obtain ⟨k, M, most, hk, rfl, rfl, HN, HI, HMo, HM, HB⟩ := hrel
  by_cases hlt : k < log.length
  ·
   rcases Nat.eq_zero_or_pos k with rfl | hkpos
   ·
    rw [Int.natCast_zero]
    have hlti : (0 : Int) < (log.length : Int) := by omega
    obtain ⟨ad, rfl, hx0, hx1, hx2⟩ : ∃ ad, A' = some ad ∧ wr.cell? ad = some (.int .i64 (rdEv log 0).f0) ∧ wr.cell? ⟨ad.block, ad.off + 1, none⟩ = some (.int .i64 (rdEv log 0).f1) ∧ wr.cell? ⟨ad.block, ad.off + 2, none⟩ = some (.bool (rdEv log 0).f2) := by
     obtain ⟨ad, e, x0, x1, x2⟩ := at_Ev (Kd.C_below HR1.out HB.out) 0 hlt
     simp at x0 x1 x2
     exact ⟨ad, e, x0, x1, x2⟩
    clear hlt hk
    go_wp2
    have HNEQ : Hid (w1.heap.size ≠ wr.heap.size) := Lib.hid (Nat.ne_of_lt HM.out.2.2.2.2.2.2.2.2)
    obtain ⟨w5, hw5⟩ : ∃ w5, w5 = wr.alloc (.cells #[.int .i64 (rdEv log 0).f0, .int .i64 (rdEv log 0).f1, .bool (rdEv log 0).f2] 75) := ⟨_, rfl⟩
    rw [← hw5]
    have hq5 : Below wr.heap.size wr w5 := by rw [hw5]; exact (Below.refl _ wr).alloc (Nat.le_refl _) _
    have HM5 : Hid (∀ n, MAt w1.heap.size C M (w5.drewN n)) := Lib.hid fun n => (HM.out.below hq5).below (pw_below_drewN (Below.refl _ w5) n)
    have HB5 : Hid (Below w1.heap.size w1 w5) := Lib.hid (HB.out.trans (hq5.mono HB.out.size))
    have HG5 : Hid (∀ n, IsGraph (w5.drewN n) C g ns) := Lib.hid fun n => (HC.out.below (HB5.out)).below (pw_below_drewN (Below.refl _ w5) n)
    have HS5 : Hid (w1.heap.size ≤ wr.heap.size ∧ wr.heap.size < w5.heap.size) := Lib.hid ⟨HB.out.size, by rw [hw5]; simp⟩
    have he0 : w5.cell? ⟨wr.heap.size, 0, none⟩ = some (.int .i64 (rdEv log 0).f0) := by rw [hw5]; simp
    have he1 : w5.cell? ⟨wr.heap.size, 1, none⟩ = some (.int .i64 (rdEv log 0).f1) := by rw [hw5]; simp
    have he2 : w5.cell? ⟨wr.heap.size, 2, none⟩ = some (.bool (rdEv log 0).f2) := by rw [hw5]; simp
    clear hw5 hq5 hx0 hx1 hx2
    have HIO : Hid (inOrder log 0 = true) := Lib.hid rfl
    cases hs : stepM g ns M (rdEv log 0) with
    | none =>
     have HF : Hid (replayN g ns log (0 + 1) = none) := Lib.hid (replayN_none1 HN.out HIO.out hs)
     have HS := Lib.hid hs
     clear hs HIO
     generalize rdEv log 0 = x at *
     (with_reducible refine wp_region_still_tail 16 mixed (by kernel_rfl) ?_; simp only [List.take_succ_cons, List.take_zero, List.drop_succ_cons, List.drop_zero]; repeat (with_reducible refine wpStill_step (fun K hK => ?_); go_simp; with_reducible refine hK _ ?_; clear hK K); try with_reducible refine wpStill_nil ?_)
     change wpList _ _ _ _ _ w5.drew
     go_wp2_with (go_at_call 86; refine (take_none C w1.heap.size g ns M x _ (HG5.out 1) HGL.out HNL.out (HM5.out 1) HI.out HTM.out HX.out HS.out).mono ?_; rintro e w6 ⟨rfl, hB6⟩)
     go_ret3
     exact ReplayPost.none HF.out (by omega) rfl (HB1.out.trans ((HB5.out.drew.trans (hB6.mono HB5.out.size)).mono HB1.out.size))
    | some M' =>
     have HN1 : Hid (replayN g ns log (0 + 1) = some (M', if lastOf log 0 then max most (running M') else most)) := Lib.hid (replayN_some1 HN.out HIO.out hs)
     have HI1 := Lib.hid (HI.out.step hs)
     have HS := Lib.hid hs
     clear hs HIO
     generalize hxx : rdEv log 0 = x at *
     (with_reducible refine wp_region_still_tail 16 mixed (by kernel_rfl) ?_; simp only [List.take_succ_cons, List.take_zero, List.drop_succ_cons, List.drop_zero]; repeat (with_reducible refine wpStill_step (fun K hK => ?_); go_simp; with_reducible refine hK _ ?_; clear hK K); try with_reducible refine wpStill_nil ?_)
     change wpList _ _ _ _ _ w5.drew
     go_wp2_with (go_at_call 86; refine (take_some C w1.heap.size g ns M x _ (HG5.out 1) HGL.out HNL.out (HM5.out 1) HI.out HTM.out HX.out M' (Nat.lt_of_le_of_lt HS5.out.1 HS5.out.2) HS.out).mono ?_; rintro e w6 ⟨rfl, hM6, hB6, hO6⟩)
     have HM6 := Lib.hid hM6
     have HB6 : Hid (Below w1.heap.size w1 w6) := Lib.hid (HB5.out.drew.trans hB6)
     have hf0 : w6.cell? ⟨wr.heap.size, 0, none⟩ = some (.int .i64 x.f0) := by rw [hO6.cell _ HS5.out.2 (show wr.heap.size ≠ w1.heap.size from HNEQ.out.symm)]; exact he0
     have hwl : IntKind.i64.wrap ((log.length : Int) - 1) = (log.length : Int) - 1 := IntWalk.i64_in _ (by omega)
     clear he0 he1 he2 hM6 hB6 hO6 HM5 HB5 HG5 HM HB
     by_cases hla : 0 + 1 = log.length
     ·
      have hl1 : ((0 : Int) == (log.length : Int) - 1) = true := beq_iff_eq.2 (by omega)
      have HN2 : Hid (replayN g ns log (0 + 1) = some (M', max most (running M'))) := Lib.hid (by have := HN1.out; rwa [show lastOf log 0 = true by unfold lastOf; rw [decide_eq_true hla]; rfl, if_pos rfl] at this)
      clear hla HN1
      go_quiet (fail)
      clear hwl
      go_wp2
      generalize hw7 : w6.drewN _ = w7
      have HM7 : Hid (∀ W, Below w7.heap.size w7 W → MAt w1.heap.size C M' W) := Lib.hid fun W hW => MAt.below (by rw [← hw7]; exact HM6.out.below (pw_below_drewN (Below.refl _ w6) _)) hW
      have HB7 : Hid (Below w1.heap.size w1 w7) := Lib.hid (by rw [← hw7]; exact pw_below_drewN HB6.out _)
      have hm := HM7.out _ (Below.refl _ w7)
      have hm1 := hm.2.1
      have hm2 := hm.2.2.1
      have hbd : bits BinOp.andNot IntKind.u16 (M'.b : Int) (M'.o : Int) = ((diff M'.b M'.o : Nat) : Int) := bits_andNot_u16 _ _ hm.2.2.2.2.2.2.1
      have HDL : Hid (diff M'.b M'.o < 65536) := Lib.hid (diff_lt (n := 16) hm.2.2.2.2.2.2.1)
      have HT7 : Hid (Tab w7) := Lib.hid (HT.out.keep HT.out.lt (HB1.out.trans (HB7.out.mono HB1.out.size)))
      have HMX : Hid (w1.heap.size < w7.heap.size) := Lib.hid hm.2.2.2.2.2.2.2.2
      clear hw7 hm hf0 HM6 HB6
      have HLK : Hid (∀ W, (W.cell? ⟨w1.heap.size, 1, none⟩ = some (.int .u16 M'.b) ∧ W.cell? ⟨w1.heap.size, 2, none⟩ = some (.int .u16 M'.o) ∧ Below w7.heap.size w7 W) → Calls Tryz.prog 29 #[.int .u16 (diff M'.b M'.o : Nat)] W fun e w' =>
        ∃ A9 c9, e = .returned (.slice A9 (els (diff M'.b M'.o)).length c9) ∧ w'.cell? ⟨w1.heap.size, 1, none⟩ = some (.int .u16 M'.b) ∧ w'.cell? ⟨w1.heap.size, 2, none⟩ = some (.int .u16 M'.o) ∧ Below w7.heap.size w7 w') := Lib.hid (by
       intro W ⟨_, _, hW⟩
       refine (list_calls (diff M'.b M'.o) HDL.out W (HT7.out.keep HT7.out.lt hW)).mono ?_
       rintro e w8 ⟨v, rfl, hR8, hB8⟩
       obtain ⟨A9, c9, rfl, hl9, hC9⟩ := Kd.R_reads hR8
       have hB9 : Below w7.heap.size w7 w8 := hW.trans (hB8.mono hW.size)
       exact ⟨A9, c9, rfl, (hB9.cell (p := ⟨w1.heap.size, 1, none⟩) HMX.out).trans hm1, (hB9.cell (p := ⟨w1.heap.size, 2, none⟩) HMX.out).trans hm2, hB9⟩)
      go_region_held3 (fun w' => w'.cell? ⟨w1.heap.size, 1, none⟩ = some (.int .u16 M'.b) ∧ w'.cell? ⟨w1.heap.size, 2, none⟩ = some (.int .u16 M'.o) ∧ Below w7.heap.size w7 w') (first | exact ⟨hm1, hm2, (Below.refl _ w7).drew⟩ | go_keep | (trace_state; fail))
       (first | (go_at_call 29; refine (HLK.out _ ?_).mono ?_; (first | assumption | (refine ⟨?_, ?_, ?_⟩ <;> assumption) | (trace_state; fail)); rintro e w8 ⟨A9, c9, rfl, hS1, hS2, hS3⟩))
      go_wp2
      go_roundw
      case rel => exact ⟨0 + 1, M', max most (running M'), by omega, by rw [max_run], by go_num, HN2, HI1, Lib.hid (max_bound HMo.out M'), Lib.hid (HM7.out _ hS3), Lib.hid (HB7.out.trans (hS3.mono (Nat.le_of_lt HMX.out)))⟩
      case measure => simp [intOf]; omega
     ·
      have hl1 : ((0 : Int) == (log.length : Int) - 1) = false := beq_eq_false_iff_ne.2 (by omega)
      have hln : 0 + 1 < log.length := by omega
      obtain ⟨z, hze, hz⟩ : ∃ z, z = (rdEv log (0 + 1)).f0 ∧ w6.cell? ⟨ad.block, ad.off + 3, none⟩ = some (.int .i64 z) := by
       obtain ⟨ad', e, hz0, _, _⟩ := at_Ev (Kd.C_below HR1.out HB6.out) (0 + 1) hln
       cases e
       exact ⟨_, rfl, (by simpa [Addr.add] using hz0)⟩
      have hwa : (1 : Int) < (log.length : Int) := by clear hwl; omega
      have hw8 : IntKind.i64.wrap 1 = 1 := IntWalk.i64_in _ (by clear hwl; omega)
      by_cases hzg : x.f0 < z
      ·
       have d3 : decide (x.f0 < z) = true := decide_eq_true hzg
       have HN2 : Hid (replayN g ns log (0 + 1) = some (M', max most (running M'))) := Lib.hid (by have := HN1.out; rwa [show lastOf log 0 = true by unfold lastOf; rw [hxx, ← hze, decide_eq_true (show z > x.f0 from hzg), Bool.or_true], if_pos rfl] at this)
       clear hla HN1 hze hzg
       go_quiet (fail)
       clear hwl hw8
       go_wp2
       generalize hw7 : w6.drewN _ = w7
       have HM7 : Hid (∀ W, Below w7.heap.size w7 W → MAt w1.heap.size C M' W) := Lib.hid fun W hW => MAt.below (by rw [← hw7]; exact HM6.out.below (pw_below_drewN (Below.refl _ w6) _)) hW
       have HB7 : Hid (Below w1.heap.size w1 w7) := Lib.hid (by rw [← hw7]; exact pw_below_drewN HB6.out _)
       have hm := HM7.out _ (Below.refl _ w7)
       have hm1 := hm.2.1
       have hm2 := hm.2.2.1
       have hbd : bits BinOp.andNot IntKind.u16 (M'.b : Int) (M'.o : Int) = ((diff M'.b M'.o : Nat) : Int) := bits_andNot_u16 _ _ hm.2.2.2.2.2.2.1
       have HDL : Hid (diff M'.b M'.o < 65536) := Lib.hid (diff_lt (n := 16) hm.2.2.2.2.2.2.1)
       have HT7 : Hid (Tab w7) := Lib.hid (HT.out.keep HT.out.lt (HB1.out.trans (HB7.out.mono HB1.out.size)))
       have HMX : Hid (w1.heap.size < w7.heap.size) := Lib.hid hm.2.2.2.2.2.2.2.2
       clear hw7 hm hf0 HM6 HB6
       have HLK : Hid (∀ W, (W.cell? ⟨w1.heap.size, 1, none⟩ = some (.int .u16 M'.b) ∧ W.cell? ⟨w1.heap.size, 2, none⟩ = some (.int .u16 M'.o) ∧ Below w7.heap.size w7 W) → Calls Tryz.prog 29 #[.int .u16 (diff M'.b M'.o : Nat)] W fun e w' =>
         ∃ A9 c9, e = .returned (.slice A9 (els (diff M'.b M'.o)).length c9) ∧ w'.cell? ⟨w1.heap.size, 1, none⟩ = some (.int .u16 M'.b) ∧ w'.cell? ⟨w1.heap.size, 2, none⟩ = some (.int .u16 M'.o) ∧ Below w7.heap.size w7 w') := Lib.hid (by
        intro W ⟨_, _, hW⟩
        refine (list_calls (diff M'.b M'.o) HDL.out W (HT7.out.keep HT7.out.lt hW)).mono ?_
        rintro e w8 ⟨v, rfl, hR8, hB8⟩
        obtain ⟨A9, c9, rfl, hl9, hC9⟩ := Kd.R_reads hR8
        have hB9 : Below w7.heap.size w7 w8 := hW.trans (hB8.mono hW.size)
        exact ⟨A9, c9, rfl, (hB9.cell (p := ⟨w1.heap.size, 1, none⟩) HMX.out).trans hm1, (hB9.cell (p := ⟨w1.heap.size, 2, none⟩) HMX.out).trans hm2, hB9⟩)
       go_region_held3 (fun w' => w'.cell? ⟨w1.heap.size, 1, none⟩ = some (.int .u16 M'.b) ∧ w'.cell? ⟨w1.heap.size, 2, none⟩ = some (.int .u16 M'.o) ∧ Below w7.heap.size w7 w') (first | exact ⟨hm1, hm2, (Below.refl _ w7).drew⟩ | go_keep | (trace_state; fail))
        (first | (go_at_call 29; refine (HLK.out _ ?_).mono ?_; (first | assumption | (refine ⟨?_, ?_, ?_⟩ <;> assumption) | (trace_state; fail)); rintro e w8 ⟨A9, c9, rfl, hS1, hS2, hS3⟩))
       go_wp2
       go_roundw
       case rel => exact ⟨0 + 1, M', max most (running M'), by omega, by rw [max_run], by go_num, HN2, HI1, Lib.hid (max_bound HMo.out M'), Lib.hid (HM7.out _ hS3), Lib.hid (HB7.out.trans (hS3.mono (Nat.le_of_lt HMX.out)))⟩
       case measure => simp [intOf]; omega
      ·
       have d3 : decide (x.f0 < z) = false := decide_eq_false hzg
       have HN2 : Hid (replayN g ns log (0 + 1) = some (M', most)) := Lib.hid (by have := HN1.out; rwa [show lastOf log 0 = false by unfold lastOf; rw [hxx, ← hze, decide_eq_false (show ¬ (z > x.f0) from hzg), decide_eq_false hla]; rfl, if_neg (by simp)] at this)
       clear hla HN1 hze hzg
       go_quiet (fail)
       clear hwl hw8
       go_wp2
       go_roundw
       case rel => exact ⟨0 + 1, M', most, by omega, rfl, by go_num, HN2, HI1, HMo, Lib.hid (HM6.out.below (pw_below_drewN (Below.refl _ w6) _)), Lib.hid (pw_below_drewN HB6.out _)⟩
       case measure => simp [intOf]; omega
   ·
    obtain ⟨ad, rfl, hx0, hx1, hx2⟩ := at_Ev (Kd.C_below HR1.out HB.out) k hlt
    go_wp2
    have HNEQ : Hid (w1.heap.size ≠ wr.heap.size) := Lib.hid (Nat.ne_of_lt HM.out.2.2.2.2.2.2.2.2)
    obtain ⟨w5, hw5⟩ : ∃ w5, w5 = wr.alloc (.cells #[.int .i64 (rdEv log k).f0, .int .i64 (rdEv log k).f1, .bool (rdEv log k).f2] 75) := ⟨_, rfl⟩
    rw [← hw5]
    have hq5 : Below wr.heap.size wr w5 := by rw [hw5]; exact (Below.refl _ wr).alloc (Nat.le_refl _) _
    have HM5 : Hid (∀ n, MAt w1.heap.size C M (w5.drewN n)) := Lib.hid fun n => (HM.out.below hq5).below (pw_below_drewN (Below.refl _ w5) n)
    have HB5 : Hid (Below w1.heap.size w1 w5) := Lib.hid (HB.out.trans (hq5.mono HB.out.size))
    have HG5 : Hid (∀ n, IsGraph (w5.drewN n) C g ns) := Lib.hid fun n => (HC.out.below (HB5.out)).below (pw_below_drewN (Below.refl _ w5) n)
    have HS5 : Hid (w1.heap.size ≤ wr.heap.size ∧ wr.heap.size < w5.heap.size) := Lib.hid ⟨HB.out.size, by rw [hw5]; simp⟩
    have he0 : w5.cell? ⟨wr.heap.size, 0, none⟩ = some (.int .i64 (rdEv log k).f0) := by rw [hw5]; simp
    have he1 : w5.cell? ⟨wr.heap.size, 1, none⟩ = some (.int .i64 (rdEv log k).f1) := by rw [hw5]; simp
    have he2 : w5.cell? ⟨wr.heap.size, 2, none⟩ = some (.bool (rdEv log k).f2) := by rw [hw5]; simp
    clear hw5 hq5 hx0 hx1 hx2
    obtain ⟨y, hye, hy⟩ : ∃ y, y = (rdEv log (k - 1)).f0 ∧ w5.cell? (ad.add ((k - 1) * 3)) = some (.int .i64 y) := by
     obtain ⟨ad', e, hy0, _, _⟩ := at_Ev (Kd.C_below HR1.out HB5.out) (k - 1) (by omega)
     cases e
     exact ⟨_, rfl, hy0⟩
    have hk0 : decide ((0 : Int) < (k : Int)) = true := decide_eq_true (by omega)
    have hw3 : (0 : Int) ≤ (k : Int) - 1 := by omega
    have hw4 : (1 : Int) ≤ (k : Int) := by omega
    have hw5 : (k : Int) - 1 < (log.length : Int) := by omega
    have hw2 : ((k : Int) - 1).toNat = k - 1 := by omega
    have hw1 : IntKind.i64.wrap ((k : Int) - 1) = (k : Int) - 1 := IntWalk.i64_in _ (by omega)
    by_cases hgt : (rdEv log k).f0 < y
    ·
     have d2 : decide ((rdEv log k).f0 < y) = true := decide_eq_true hgt
     have HF : Hid (replayN g ns log (k + 1) = none) := Lib.hid (by
      have hio : inOrder log k = false := by unfold inOrder; rw [decide_eq_true hkpos, ← hye, decide_eq_true (show y > (rdEv log k).f0 from hgt)]; rfl
      exact replayN_order HN.out hio)
     clear hye hgt
     generalize rdEv log k = x at *
     go_quiet (fail)
     clear hw1 hw2
     go_wp2
     go_ret3
     exact ReplayPost.none HF.out (by omega) rfl (pw_below_drewN (HB1.out.trans (HB5.out.mono HB1.out.size)) _)
    ·
     have d2 : decide ((rdEv log k).f0 < y) = false := decide_eq_false hgt
     have HIO : Hid (inOrder log k = true) := Lib.hid (by unfold inOrder; rw [← hye, decide_eq_false (show ¬ (y > (rdEv log k).f0) from hgt), Bool.and_false]; rfl)
     clear hye hgt
     cases hs : stepM g ns M (rdEv log k) with
     | none =>
      have HF : Hid (replayN g ns log (k + 1) = none) := Lib.hid (replayN_none1 HN.out HIO.out hs)
      have HS := Lib.hid hs
      clear hs HIO
      generalize rdEv log k = x at *
      (with_reducible refine wp_region_still_tail 16 mixed (by kernel_rfl) ?_; simp only [List.take_succ_cons, List.take_zero, List.drop_succ_cons, List.drop_zero]; repeat (with_reducible refine wpStill_step (fun K hK => ?_); go_simp; with_reducible refine hK _ ?_; clear hK K); try with_reducible refine wpStill_nil ?_)
      clear hw1 hw2
      change wpList _ _ _ _ _ w5.drew
      go_wp2_with (go_at_call 86; refine (take_none C w1.heap.size g ns M x _ (HG5.out 1) HGL.out HNL.out (HM5.out 1) HI.out HTM.out HX.out HS.out).mono ?_; rintro e w6 ⟨rfl, hB6⟩)
      go_ret3
      exact ReplayPost.none HF.out (by omega) rfl (HB1.out.trans ((HB5.out.drew.trans (hB6.mono HB5.out.size)).mono HB1.out.size))
     | some M' =>
      have HN1 : Hid (replayN g ns log (k + 1) = some (M', if lastOf log k then max most (running M') else most)) := Lib.hid (replayN_some1 HN.out HIO.out hs)
      have HI1 := Lib.hid (HI.out.step hs)
      have HS := Lib.hid hs
      clear hs HIO
      generalize hxx : rdEv log k = x at *
      (with_reducible refine wp_region_still_tail 16 mixed (by kernel_rfl) ?_; simp only [List.take_succ_cons, List.take_zero, List.drop_succ_cons, List.drop_zero]; repeat (with_reducible refine wpStill_step (fun K hK => ?_); go_simp; with_reducible refine hK _ ?_; clear hK K); try with_reducible refine wpStill_nil ?_)
      clear hw1 hw2
      change wpList _ _ _ _ _ w5.drew
      go_wp2_with (go_at_call 86; refine (take_some C w1.heap.size g ns M x _ (HG5.out 1) HGL.out HNL.out (HM5.out 1) HI.out HTM.out HX.out M' (Nat.lt_of_le_of_lt HS5.out.1 HS5.out.2) HS.out).mono ?_; rintro e w6 ⟨rfl, hM6, hB6, hO6⟩)
      have HM6 := Lib.hid hM6
      have HB6 : Hid (Below w1.heap.size w1 w6) := Lib.hid (HB5.out.drew.trans hB6)
      have hf0 : w6.cell? ⟨wr.heap.size, 0, none⟩ = some (.int .i64 x.f0) := by rw [hO6.cell _ HS5.out.2 (show wr.heap.size ≠ w1.heap.size from HNEQ.out.symm)]; exact he0
      have hwl : IntKind.i64.wrap ((log.length : Int) - 1) = (log.length : Int) - 1 := IntWalk.i64_in _ (by omega)
      clear he0 he1 he2 hM6 hB6 hO6 HM5 HB5 HG5 HM HB
      by_cases hla : k + 1 = log.length
      ·
       have hl1 : (((k : Nat) : Int) == (log.length : Int) - 1) = true := beq_iff_eq.2 (by omega)
       have HN2 : Hid (replayN g ns log (k + 1) = some (M', max most (running M'))) := Lib.hid (by have := HN1.out; rwa [show lastOf log k = true by unfold lastOf; rw [decide_eq_true hla]; rfl, if_pos rfl] at this)
       clear hla HN1
       go_quiet (fail)
       clear hwl
       go_wp2
       generalize hw7 : w6.drewN _ = w7
       have HM7 : Hid (∀ W, Below w7.heap.size w7 W → MAt w1.heap.size C M' W) := Lib.hid fun W hW => MAt.below (by rw [← hw7]; exact HM6.out.below (pw_below_drewN (Below.refl _ w6) _)) hW
       have HB7 : Hid (Below w1.heap.size w1 w7) := Lib.hid (by rw [← hw7]; exact pw_below_drewN HB6.out _)
       have hm := HM7.out _ (Below.refl _ w7)
       have hm1 := hm.2.1
       have hm2 := hm.2.2.1
       have hbd : bits BinOp.andNot IntKind.u16 (M'.b : Int) (M'.o : Int) = ((diff M'.b M'.o : Nat) : Int) := bits_andNot_u16 _ _ hm.2.2.2.2.2.2.1
       have HDL : Hid (diff M'.b M'.o < 65536) := Lib.hid (diff_lt (n := 16) hm.2.2.2.2.2.2.1)
       have HT7 : Hid (Tab w7) := Lib.hid (HT.out.keep HT.out.lt (HB1.out.trans (HB7.out.mono HB1.out.size)))
       have HMX : Hid (w1.heap.size < w7.heap.size) := Lib.hid hm.2.2.2.2.2.2.2.2
       clear hw7 hm hf0 HM6 HB6
       have HLK : Hid (∀ W, (W.cell? ⟨w1.heap.size, 1, none⟩ = some (.int .u16 M'.b) ∧ W.cell? ⟨w1.heap.size, 2, none⟩ = some (.int .u16 M'.o) ∧ Below w7.heap.size w7 W) → Calls Tryz.prog 29 #[.int .u16 (diff M'.b M'.o : Nat)] W fun e w' =>
         ∃ A9 c9, e = .returned (.slice A9 (els (diff M'.b M'.o)).length c9) ∧ w'.cell? ⟨w1.heap.size, 1, none⟩ = some (.int .u16 M'.b) ∧ w'.cell? ⟨w1.heap.size, 2, none⟩ = some (.int .u16 M'.o) ∧ Below w7.heap.size w7 w') := Lib.hid (by
        intro W ⟨_, _, hW⟩
        refine (list_calls (diff M'.b M'.o) HDL.out W (HT7.out.keep HT7.out.lt hW)).mono ?_
        rintro e w8 ⟨v, rfl, hR8, hB8⟩
        obtain ⟨A9, c9, rfl, hl9, hC9⟩ := Kd.R_reads hR8
        have hB9 : Below w7.heap.size w7 w8 := hW.trans (hB8.mono hW.size)
        exact ⟨A9, c9, rfl, (hB9.cell (p := ⟨w1.heap.size, 1, none⟩) HMX.out).trans hm1, (hB9.cell (p := ⟨w1.heap.size, 2, none⟩) HMX.out).trans hm2, hB9⟩)
       go_region_held3 (fun w' => w'.cell? ⟨w1.heap.size, 1, none⟩ = some (.int .u16 M'.b) ∧ w'.cell? ⟨w1.heap.size, 2, none⟩ = some (.int .u16 M'.o) ∧ Below w7.heap.size w7 w') (first | exact ⟨hm1, hm2, (Below.refl _ w7).drew⟩ | go_keep | (trace_state; fail))
        (first | (go_at_call 29; refine (HLK.out _ ?_).mono ?_; (first | assumption | (refine ⟨?_, ?_, ?_⟩ <;> assumption) | (trace_state; fail)); rintro e w8 ⟨A9, c9, rfl, hS1, hS2, hS3⟩))
       go_wp2
       go_roundw
       case rel => exact ⟨k + 1, M', max most (running M'), by omega, by rw [max_run], by go_num, HN2, HI1, Lib.hid (max_bound HMo.out M'), Lib.hid (HM7.out _ hS3), Lib.hid (HB7.out.trans (hS3.mono (Nat.le_of_lt HMX.out)))⟩
       case measure => simp [intOf]; omega
      ·
       have hl1 : (((k : Nat) : Int) == (log.length : Int) - 1) = false := beq_eq_false_iff_ne.2 (by omega)
       have hln : k + 1 < log.length := by omega
       obtain ⟨z, hze, hz⟩ : ∃ z, z = (rdEv log (k + 1)).f0 ∧ w6.cell? (ad.add ((k + 1) * 3)) = some (.int .i64 z) := by
        obtain ⟨ad', e, hz0, _, _⟩ := at_Ev (Kd.C_below HR1.out HB6.out) (k + 1) hln
        cases e
        exact ⟨_, rfl, hz0⟩
       have hw8 : IntKind.i64.wrap ((k : Int) + 1) = (k : Int) + 1 := IntWalk.i64_in _ (by clear hwl; omega)
       have hw9 : ((k : Int) + 1).toNat = k + 1 := by clear hwl hw8; omega
       have hwa : (k : Int) + 1 < (log.length : Int) := by clear hwl hw8; omega
       have hwb : (0 : Int) ≤ (k : Int) + 1 := by clear hwl hw8; omega
       by_cases hzg : x.f0 < z
       ·
        have d3 : decide (x.f0 < z) = true := decide_eq_true hzg
        have HN2 : Hid (replayN g ns log (k + 1) = some (M', max most (running M'))) := Lib.hid (by have := HN1.out; rwa [show lastOf log k = true by unfold lastOf; rw [hxx, ← hze, decide_eq_true (show z > x.f0 from hzg), Bool.or_true], if_pos rfl] at this)
        clear hla HN1 hze hzg
        go_quiet (fail)
        clear hwl hw8 hw9
        go_wp2
        generalize hw7 : w6.drewN _ = w7
        have HM7 : Hid (∀ W, Below w7.heap.size w7 W → MAt w1.heap.size C M' W) := Lib.hid fun W hW => MAt.below (by rw [← hw7]; exact HM6.out.below (pw_below_drewN (Below.refl _ w6) _)) hW
        have HB7 : Hid (Below w1.heap.size w1 w7) := Lib.hid (by rw [← hw7]; exact pw_below_drewN HB6.out _)
        have hm := HM7.out _ (Below.refl _ w7)
        have hm1 := hm.2.1
        have hm2 := hm.2.2.1
        have hbd : bits BinOp.andNot IntKind.u16 (M'.b : Int) (M'.o : Int) = ((diff M'.b M'.o : Nat) : Int) := bits_andNot_u16 _ _ hm.2.2.2.2.2.2.1
        have HDL : Hid (diff M'.b M'.o < 65536) := Lib.hid (diff_lt (n := 16) hm.2.2.2.2.2.2.1)
        have HT7 : Hid (Tab w7) := Lib.hid (HT.out.keep HT.out.lt (HB1.out.trans (HB7.out.mono HB1.out.size)))
        have HMX : Hid (w1.heap.size < w7.heap.size) := Lib.hid hm.2.2.2.2.2.2.2.2
        clear hw7 hm hf0 HM6 HB6
        have HLK : Hid (∀ W, (W.cell? ⟨w1.heap.size, 1, none⟩ = some (.int .u16 M'.b) ∧ W.cell? ⟨w1.heap.size, 2, none⟩ = some (.int .u16 M'.o) ∧ Below w7.heap.size w7 W) → Calls Tryz.prog 29 #[.int .u16 (diff M'.b M'.o : Nat)] W fun e w' =>
          ∃ A9 c9, e = .returned (.slice A9 (els (diff M'.b M'.o)).length c9) ∧ w'.cell? ⟨w1.heap.size, 1, none⟩ = some (.int .u16 M'.b) ∧ w'.cell? ⟨w1.heap.size, 2, none⟩ = some (.int .u16 M'.o) ∧ Below w7.heap.size w7 w') := Lib.hid (by
         intro W ⟨_, _, hW⟩
         refine (list_calls (diff M'.b M'.o) HDL.out W (HT7.out.keep HT7.out.lt hW)).mono ?_
         rintro e w8 ⟨v, rfl, hR8, hB8⟩
         obtain ⟨A9, c9, rfl, hl9, hC9⟩ := Kd.R_reads hR8
         have hB9 : Below w7.heap.size w7 w8 := hW.trans (hB8.mono hW.size)
         exact ⟨A9, c9, rfl, (hB9.cell (p := ⟨w1.heap.size, 1, none⟩) HMX.out).trans hm1, (hB9.cell (p := ⟨w1.heap.size, 2, none⟩) HMX.out).trans hm2, hB9⟩)
        go_region_held3 (fun w' => w'.cell? ⟨w1.heap.size, 1, none⟩ = some (.int .u16 M'.b) ∧ w'.cell? ⟨w1.heap.size, 2, none⟩ = some (.int .u16 M'.o) ∧ Below w7.heap.size w7 w') (first | exact ⟨hm1, hm2, (Below.refl _ w7).drew⟩ | go_keep | (trace_state; fail))
         (first | (go_at_call 29; refine (HLK.out _ ?_).mono ?_; (first | assumption | (refine ⟨?_, ?_, ?_⟩ <;> assumption) | (trace_state; fail)); rintro e w8 ⟨A9, c9, rfl, hS1, hS2, hS3⟩))
        go_wp2
        go_roundw
        case rel => exact ⟨k + 1, M', max most (running M'), by omega, by rw [max_run], by go_num, HN2, HI1, Lib.hid (max_bound HMo.out M'), Lib.hid (HM7.out _ hS3), Lib.hid (HB7.out.trans (hS3.mono (Nat.le_of_lt HMX.out)))⟩
        case measure => simp [intOf]; omega
       ·
        have d3 : decide (x.f0 < z) = false := decide_eq_false hzg
        have HN2 : Hid (replayN g ns log (k + 1) = some (M', most)) := Lib.hid (by have := HN1.out; rwa [show lastOf log k = false by unfold lastOf; rw [hxx, ← hze, decide_eq_false (show ¬ (z > x.f0) from hzg), decide_eq_false hla]; rfl, if_neg (by simp)] at this)
        clear hla HN1 hze hzg
        go_quiet (fail)
        clear hwl hw8 hw9
        go_wp2
        go_roundw
        case rel => exact ⟨k + 1, M', most, by omega, rfl, by go_num, HN2, HI1, HMo, Lib.hid (HM6.out.below (pw_below_drewN (Below.refl _ w6) _)), Lib.hid (pw_below_drewN HB6.out _)⟩
        case measure => simp [intOf]; omega
  ·
   have hkl : k = log.length := by omega
   subst hkl
   go_wp2
   go_ret3
   unfold ReplayPost
   rw [HN.out]
   exact ⟨w1.heap.size, C, rfl, HM.out, HC.out.below HB.out, HI.out, HB1.out.trans (HB.out.mono HB1.out.size)⟩
end Go.Proofs.YtlapphhcficbjaaGreatDoor

namespace Go.Proofs.YtlapphhcficbjaaGreatDoor
set_option linter.unusedVariables false
set_option linter.unusedSimpArgs false
open Go.RowKit Go.Shelf Bits
open Go.Proofs.YtlapphhcficbjaaGreatDoorW.PrintWords Go.Proofs.YtlapphhcficbjaaGreatDoorW.PrintLast Go.Proofs.YtlapphhcficbjaaGreatDoorW.PrintMore
def replayB (g : List Tk) (log : List Ev) : Option (Mach × Int) :=
 (graphN g).bind fun ns => if log.length ≤ 16 then replayN g ns log log.length else none
set_option maxRecDepth 100000 in
set_option maxHeartbeats 8000000 in
theorem replay_nograph (A : Option Addr) (c : Nat) (g : List Tk) (A' : Option Addr) (c' : Nat) (log : List Ev) (w : World) (hr : kTk.C w A g.length g) (hg : graphN g = none) (hll : log.length ≤ 9223372036854775807) :
  Calls Tryz.prog 46 #[.slice A g.length c, .slice A' log.length c'] w fun e w' => e = .returned (.tuple #[.pointer none, .int .i64 0, .bool false]) ∧ Below w.heap.size w w' := by
 have HR := Lib.hid hr
 have HG := Lib.hid hg
 clear hr hg
 go_enter Tryz.func46, Tryz.ntmps46
 go_wp2_with (go_at_call 49; refine (graphOf_no _ _ _ _ HR.out HG.out).mono ?_; rintro e w1 ⟨rfl, hB1⟩)
 go_ret3
 exact ⟨rfl, hB1⟩
set_option maxRecDepth 100000 in
set_option maxHeartbeats 8000000 in
theorem replay_long (A : Option Addr) (c : Nat) (g : List Tk) (A' : Option Addr) (c' : Nat) (log : List Ev) (w : World) (ns : List Nat) (hr : kTk.C w A g.length g) (hT : Tab w) (hg : graphN g = some ns) (hlen : 16 < log.length) (hll : log.length ≤ 9223372036854775807) :
  Calls Tryz.prog 46 #[.slice A g.length c, .slice A' log.length c'] w fun e w' => e = .returned (.tuple #[.pointer none, .int .i64 0, .bool false]) ∧ Below w.heap.size w w' := by
 have hd16 : decide ((16 : Int) < (log.length : Int)) = true := decide_eq_true (by omega)
 have HR := Lib.hid hr
 have HT := Lib.hid hT
 have HG := Lib.hid hg
 clear hr hg hT
 go_enter Tryz.func46, Tryz.ntmps46
 go_wp2_with (go_at_call 49; refine (graphOf_yes _ _ _ _ _ HR.out HT.out HG.out).mono ?_; rintro e w1 ⟨C, rfl, hC, hB1⟩)
 go_ret3
 exact ⟨rfl, hB1⟩
def ReplayAll (g : List Tk) (log : List Ev) (w : World) (e : Ending) (w' : World) : Prop :=
 match replayB g log with
 | some p => ∃ h C ns, graphN g = some ns ∧ e = .returned (.tuple #[.pointer (some ⟨h, 0, none⟩), .int .i64 p.2, .bool true]) ∧ MAt h C p.1 w' ∧ IsGraph w' C g ns ∧ MInv p.1 ∧ Below w.heap.size w w'
 | none => e = .returned (.tuple #[.pointer none, .int .i64 0, .bool false]) ∧ Below w.heap.size w w'
theorem replay_all (A : Option Addr) (c : Nat) (g : List Tk) (A' : Option Addr) (c' : Nat) (log : List Ev) (w : World) (hr : kTk.C w A g.length g) (hr' : kEv.C w A' log.length log) (hT : Tab w) :
  Calls Tryz.prog 46 #[.slice A g.length c, .slice A' log.length c'] w fun e w' => ReplayAll g log w e w' := by
 have hll := (C_len hr').2
 cases hg : graphN g with
 | none =>
  refine (replay_nograph A c g A' c' log w hr hg hll).mono fun e w' h => ?_
  unfold ReplayAll replayB
  rw [hg]
  exact h
 | some ns =>
  by_cases hlen : log.length ≤ 16
  ·
   refine (replay_calls A c g A' c' log w ns hr hr' hT hg hlen (graphN_time hg) (graphN_need_u16 hg)).mono fun e w' h => ?_
   unfold ReplayPost at h
   unfold ReplayAll replayB
   rw [hg, Option.bind_some, if_pos hlen]
   split at h
   ·
    rename_i p hp
    try rw [hp]
    obtain ⟨m, C, h1, h2, h3, h4, h5⟩ := h
    exact ⟨m, C, ns, rfl, h1, h2, h3, h4, h5⟩
   ·
    rename_i hp
    try rw [hp]
    exact h
  ·
   refine (replay_long A c g A' c' log w ns hr hT hg (by omega) hll).mono fun e w' h => ?_
   unfold ReplayAll replayB
   rw [hg, Option.bind_some, if_neg hlen]
   exact h
set_option maxRecDepth 100000 in
theorem ValidLog_impl (A : Option Addr) (c : Nat) (g : List Tk) (A' : Option Addr) (c' : Nat) (log : List Ev) (w : World) (hr : kTk.C w A g.length g) (hr' : kEv.C w A' log.length log) (hT : Tab w) :
  Calls Tryz.prog 22 #[.slice A g.length c, .slice A' log.length c'] w fun e w' => e = .returned (.bool (replayB g log).isSome) ∧ Below w.heap.size w w' := by
 cases hb : replayB g log with
 | none =>
  have HP : Hid (Calls Tryz.prog 46 #[.slice A g.length c, .slice A' log.length c'] w fun e w' => e = .returned (.tuple #[.pointer none, .int .i64 0, .bool false]) ∧ Below w.heap.size w w') := Lib.hid ((replay_all A c g A' c' log w hr hr' hT).mono fun e w' h => by unfold ReplayAll at h; rw [hb] at h; exact h)
  clear hr hr' hT hb
  go_enter Tryz.func22, Tryz.ntmps22
  go_wp2_with (go_at_call 46; refine HP.out.mono ?_; rintro e w1 ⟨rfl, hB1⟩)
  go_ret
  exact ⟨rfl, hB1⟩
 | some p =>
  have HP : Hid (Calls Tryz.prog 46 #[.slice A g.length c, .slice A' log.length c'] w fun e w' => (∃ h, e = .returned (.tuple #[.pointer (some ⟨h, 0, none⟩), .int .i64 p.2, .bool true])) ∧ Below w.heap.size w w') := Lib.hid ((replay_all A c g A' c' log w hr hr' hT).mono fun e w' h => by
   unfold ReplayAll at h; rw [hb] at h
   obtain ⟨m, C, ns, _, h1, _, _, _, h5⟩ := h
   exact ⟨⟨m, h1⟩, h5⟩)
  clear hr hr' hT hb
  go_enter Tryz.func22, Tryz.ntmps22
  go_wp2_with (go_at_call 46; refine HP.out.mono ?_; rintro e w1 ⟨⟨m, rfl⟩, hB1⟩)
  go_ret
  exact ⟨rfl, hB1⟩
end Go.Proofs.YtlapphhcficbjaaGreatDoor
