/- machine.take by the plain step. -/
import Derived.Test.YtpmfghbjkampkaaDoorTake
import Derived.Test.YtpmfghbjkampkaaDoorTakeY
namespace Go.Proofs.YtpmfghbjkampkaaDoor
set_option linter.unusedVariables false
set_option linter.unusedSimpArgs false
open Go.RowKit Go.Shelf Bits
open Go.Proofs.YtpmfghbjkampkaaDoorW.PrintWords Go.Proofs.YtpmfghbjkampkaaDoorW.PrintLast Go.Proofs.YtpmfghbjkampkaaDoorW.PrintMore
def MInv (M : Mach) : Prop := ∀ i, 0 ≤ M.bg i ∧ M.bg i ≤ 200
theorem MInv.zero : MInv Mach.zero := fun _ => by simp [Mach.zero]
theorem stepM_some {g : List Tk} {ns : List Nat} {M M' : Mach} {e : Ev} (h : stepM g ns M e = some M') :
  evIn g e = true ∧ ((e.f2 = false ∧ mayBegin ns M e = true ∧ M' = M.begin e) ∨ (e.f2 = true ∧ mayEnd g M e = true ∧ M' = M.finish e)) := by
 unfold stepM at h
 split at h
 ·
  cases h
 ·
  rename_i h1
  refine ⟨by simpa using h1, ?_⟩
  split at h
  ·
   rename_i h2
   split at h
   ·
    cases h; exact Or.inl ⟨h2, by assumption, rfl⟩
   ·
    cases h
  ·
   rename_i h2
   split at h
   ·
    cases h; exact Or.inr ⟨by simpa using h2, by assumption, rfl⟩
   ·
    cases h
theorem evIn_num {g : List Tk} {e : Ev} (h : evIn g e = true) : inB e.f0 0 200 = true ∧ e.f1 = ((e.i : Nat) : Int) ∧ e.i < g.length := by
 unfold evIn at h
 rw [Bool.and_eq_true] at h
 have h2 := inB_true.1 h.2
 unfold Ev.i
 refine ⟨h.1, ?_, ?_⟩ <;> omega
theorem MInv.step {g : List Tk} {ns : List Nat} {M M' : Mach} {e : Ev} (hM : MInv M) (h : stepM g ns M e = some M') : MInv M' := by
 obtain ⟨h1, ⟨_, _, rfl⟩ | ⟨_, _, rfl⟩⟩ := stepM_some h
 ·
  intro i
  simp only [Mach.begin]
  split
  ·
   exact inB_true.1 (evIn_num h1).1
  ·
   exact hM i
 ·
  exact fun i => hM i
section
variable (C h : Nat) (g : List Tk) (ns : List Nat) (M : Mach) (e : Ev) (w : World) (hG : IsGraph w C g ns) (hgl : g.length ≤ 8) (hnl : ns.length = g.length) (hM : MAt h C M w)
 (hI : MInv M) (ht : ∀ i, 0 ≤ (rdTk g i).f0 ∧ (rdTk g i).f0 ≤ 20) (hx : ∀ i, ns.getD i 0 < 65536)
include hG hgl hnl hM hI ht hx
theorem take_none (hs : stepM g ns M e = none) :
  Calls Tryd.prog 97 #[.pointer (some ⟨h, 0, none⟩), .agg #[.int .i64 e.f0, .int .i64 e.f1, .bool e.f2]] w fun r w' => r = .returned (.bool false) ∧ Below w.heap.size w w' := by
 cases h0 : evIn g e
 ·
  unfold evIn at h0
  cases h1 : inB e.f0 0 200
  ·
   exact take_no1 C h g ns M e.f0 e.f1 e.f2 w hG hgl hnl hM h1
  ·
   rw [h1, Bool.true_and] at h0
   exact take_no2 C h g ns M e.f0 e.f1 e.f2 w hG hgl hnl hM h1 h0
 ·
  obtain ⟨h1, h2, h3⟩ := evIn_num h0
  unfold stepM at hs
  rw [if_neg (by rw [h0]; simp)] at hs
  rw [h2]
  cases h4 : e.f2
  ·
   rw [if_pos h4] at hs
   have hs : mayBegin ns M e = false := by
    cases hb : mayBegin ns M e
    ·
     rfl
    ·
     rw [hb] at hs; cases hs
   unfold mayBegin at hs
   cases h5 : M.b.testBit e.i
   ·
    rw [h5] at hs
    have h6 : diff (ns.getD e.i 0) M.o ≠ 0 := by simpa using hs
    exact take_no4 C h g ns M e.f0 e.i w hG hgl hnl hM h1 h3 (hx _) h5 h6
   ·
    exact take_no3 C h g ns M e.f0 e.i w hG hgl hnl hM h1 h3 h5
  ·
   rw [if_neg (by rw [h4]; simp)] at hs
   have hs : mayEnd g M e = false := by
    cases hb : mayEnd g M e
    ·
     rfl
    ·
     rw [hb] at hs; cases hs
   unfold mayEnd at hs
   cases h5 : M.b.testBit e.i
   ·
    exact take_no5 C h g ns M e.f0 e.i w hG hgl hnl hM h1 h3 h5
   ·
    cases h6 : M.o.testBit e.i
    ·
     rw [h5, h6] at hs
     exact take_no7 C h g ns M e.f0 e.i w hG hgl hnl hM h1 h3 h5 h6 (hI _) (ht _) (by simpa using hs)
    ·
     exact take_no6 C h g ns M e.f0 e.i w hG hgl hnl hM h1 h3 h5 h6
theorem take_some (M' : Mach) (hhw : h < w.heap.size) (hs : stepM g ns M e = some M') :
  Calls Tryd.prog 97 #[.pointer (some ⟨h, 0, none⟩), .agg #[.int .i64 e.f0, .int .i64 e.f1, .bool e.f2]] w fun r w' => r = .returned (.bool true) ∧ MAt h C M' w' ∧ Below h w w' ∧ Others h w w' := by
 obtain ⟨h0, hor⟩ := stepM_some hs
 obtain ⟨h1, h2, h3⟩ := evIn_num h0
 rw [h2]
 obtain ⟨h4, h5, rfl⟩ | ⟨h4, h5, rfl⟩ := hor
 ·
  unfold mayBegin at h5
  simp only [Bool.and_eq_true, Bool.not_eq_true', decide_eq_true_eq] at h5
  rw [h4]
  exact take_begin C h g ns M e.f0 e.i w hG hgl hnl hM h1 h3 hhw (hx _) h5.1 h5.2
 ·
  unfold mayEnd at h5
  simp only [Bool.and_eq_true, Bool.not_eq_true', decide_eq_true_eq] at h5
  rw [h4]
  exact take_end C h g ns M e.f0 e.i w hG hgl hnl hM h1 h3 hhw h5.1.1 h5.1.2 (hI _) (ht _) h5.2
end
end Go.Proofs.YtpmfghbjkampkaaDoor
