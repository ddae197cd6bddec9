/- Parts of the proof, laid as one text by a program of mine. -/
import Derived.Test.YtpmfghbjkampkaaDoorKPFc11
import Derived.Test.YtpmfghbjkampkaaDoorKPFc18
namespace Go.Proofs.YtpmfghbjkampkaaDoor.PFnValidLog
set_option linter.unusedVariables false
set_option linter.unusedSimpArgs false
open Go Go.RowKit
open Go.Proofs.YtpmfghbjkampkaaDoorW.PrintWords Go.Proofs.YtpmfghbjkampkaaDoorW.PrintLast Go.Proofs.YtpmfghbjkampkaaDoorW.PrintMore
theorem GOk_set {m n : Nat} {g : List S41} {t : S41} (h : GOk m n g) (i : Nat) (ht : t.f1.length ≤ n) : GOk m n (g.set i t) := by
 refine ⟨by rw [List.length_set]; exact h.1, fun x hx => ?_⟩
 rcases List.mem_or_eq_of_mem_set hx with hx | rfl
 ·
  exact h.2 x hx
 ·
  exact ht
theorem GOk_wide {m n m' n' : Nat} {g : List S41} (h : GOk m n g) (hm : m ≤ m') (hn : n ≤ n') : GOk m' n' g := ⟨Nat.le_trans h.1 hm, fun t ht => Nat.le_trans (h.2 t ht) hn⟩
section
variable {b : List Int} (hb : ∀ x ∈ b, 0 ≤ x ∧ x < 256) (hl : b.length ≤ 2000)
include hb hl
theorem anyGraph_gets (p : Int) (h0 : 0 ≤ p) (h1 : p ≤ 500000) : Gets (fun k => spec_anyGraph.f k b p) (fun r => GOk 16 10 r.1 ∧ 0 ≤ r.2 ∧ r.2 ≤ p + 300) := by
 unfold spec_anyGraph.f
 refine Gets.bind (someGraph_gets hb hl p h0 (by omega) 8 (by omega)) fun x hx => ?_
 obtain ⟨hg, x0, x1⟩ := hx
 have hgw := GOk_wide (m' := 16) (n' := 10) hg (by omega) (by omega)
 have hlen := hg.1
 refine Gets.ite (fun _ => Gets.ret ⟨hgw, x0, by omega⟩) (fun hne => ?_)
 refine Gets.bind (pick_gets hb hl x0 (by omega)) fun i hi => ?_
 obtain ⟨i1, i2, i3, i4⟩ := hi
 have i5 := i2 (by omega)
 have hmem := hg.2 _ (rdT_mem i1 i5)
 rw [i4]
 refine Gets.bind (pick_gets hb hl (by omega) (by omega)) fun q hq => ?_
 obtain ⟨q1, q2, q3, q4⟩ := hq
 rw [q4]
 refine Gets.ite (fun _ => ?_) (fun _ => Gets.ite (fun _ => ?_) (fun _ => Gets.ite (fun _ => ?_) (fun _ => Gets.ite (fun _ => ?_) (fun _ => Gets.ite (fun _ => ?_) (fun _ => Gets.ret ⟨hgw, by show 0 ≤ x.2 + 1 + 1; omega, by show x.2 + 1 + 1 ≤ p + 300; omega⟩)))))
 ·
  refine Gets.bind (one_gets hb hl (by omega) (by omega) (by simp)) fun t ht => ?_
  exact Gets.pos i1 (Gets.pos i5 (Gets.ret ⟨GOk_set hgw _ (by show (rd_T41 x.1 i.1).f1.length ≤ 10; omega), by show 0 ≤ t.2; omega, by show t.2 ≤ p + 300; omega⟩))
 ·
  refine Gets.bind (pick_gets hb hl (by omega) (by omega)) fun t ht => ?_
  obtain ⟨t1, t2, t3, t4⟩ := ht
  refine Gets.pos i1 (Gets.pos i5 (Gets.pos (by omega) ?_))
  rw [t4]
  refine Gets.bind (spoil_gets hb hl _ (by omega) (by omega) _ (by simp; omega) _) fun s hs => ?_
  obtain ⟨s1, s2, s3⟩ := hs
  exact Gets.ret ⟨GOk_set hgw _ (by show s.1.length ≤ 10; simp at s1; omega), by show 0 ≤ s.2; omega, by show s.2 ≤ p + 300; omega⟩
 ·
  refine Gets.bind (one_gets hb hl (by omega) (by omega) (by simp)) fun t ht => ?_
  exact Gets.pos i1 (Gets.pos i5 (Gets.ret ⟨GOk_set hgw _ (by show (rd_T41 x.1 i.1).f1.length ≤ 10; omega), by show 0 ≤ t.2; omega, by show t.2 ≤ p + 300; omega⟩))
 ·
  refine Gets.bind (one_gets hb hl (by omega) (by omega) (by simp)) fun t ht => ?_
  exact Gets.pos i1 (Gets.pos i5 (Gets.ret ⟨GOk_set hgw _ (by show (rd_T41 x.1 i.1).f1.length ≤ 10; omega), by show 0 ≤ t.2; omega, by show t.2 ≤ p + 300; omega⟩))
 ·
  refine Gets.bind (someGraph_gets hb hl _ (by omega) (by omega) 8 (by omega)) fun t ht => ?_
  obtain ⟨tg, t0, t1⟩ := ht
  have tl := tg.1
  refine Gets.pos (by omega) (Gets.ret ⟨⟨?_, fun y hy => ?_⟩, t0, by show t.2 ≤ p + 300; omega⟩)
  ·
   show (x.1 ++ t.1).length ≤ 16
   simp; omega
  ·
   rcases List.mem_append.1 hy with hy | hy
   ·
    exact hgw.2 y hy
   ·
    exact Nat.le_trans (tg.2 y hy) (by omega)
end
theorem newReader_some (l : List Int) : ∃ r, spec_newReader.f l = some (r, 0) ∧ r.length ≤ 2000 ∧ ∀ x ∈ r, x ∈ l := by
 unfold spec_newReader.f
 by_cases h : (l.length : Int) > 2000
 ·
  rw [if_pos h, if_pos (by omega)]
  exact ⟨_, rfl, by rw [List.length_take]; omega, fun x hx => List.mem_of_mem_take hx⟩
 ·
  rw [if_neg h]
  exact ⟨l, rfl, by omega, fun x hx => hx⟩
end Go.Proofs.YtpmfghbjkampkaaDoor.PFnValidLog

namespace Go.Proofs.YtpmfghbjkampkaaDoor
set_option linter.unusedVariables false
set_option linter.unusedSimpArgs false
open Go Go.RowKit Go.Shelf
open Go.Proofs.YtpmfghbjkampkaaDoorW.PrintWords Go.Proofs.YtpmfghbjkampkaaDoorW.PrintLast Go.Proofs.YtpmfghbjkampkaaDoorW.PrintMore
open PFnValidLog
def RdSt (w0 W : World) (rb : Nat) (M : Int) : Prop := ∃ b p, IsS71 w0 W rb b p ∧ (∀ x ∈ b, 0 ≤ x ∧ x < 256) ∧ b.length ≤ 2000 ∧ 0 ≤ p ∧ p ≤ M
theorem RdSt.lt {w0 W : World} {rb : Nat} {M : Int} (h : RdSt w0 W rb M) : rb < W.heap.size := by
 obtain ⟨b, p, hI, _⟩ := h
 exact hI.lt
theorem RdSt.wide {w0 W : World} {rb : Nat} {M M' : Int} (h : RdSt w0 W rb M) (hM : M ≤ M') : RdSt w0 W rb M' := by
 obtain ⟨b, p, hI, h1, h2, h3, h4⟩ := h
 exact ⟨b, p, hI, h1, h2, h3, by omega⟩
theorem RdSt.below {w0 W W' : World} {rb : Nat} {M : Int} (h : RdSt w0 W rb M) (hb : Below W.heap.size W W') : RdSt w0 W' rb M := by
 obtain ⟨b, p, hI, h1⟩ := h
 exact ⟨b, p, hI.below hb, h1⟩
structure StI (W : World) (rb : Nat) (A : Option Addr) (l : List Int) : Prop where
 st : ∀ W', KeepBut W W' rb none → (Kd.int .i64).C W' A l.length l
 ne : ∀ ad, A = some ad → 0 < l.length → ad.block ≠ rb
def StG (W : World) (rb : Nat) (A : Option Addr) (g : List Tk) : Prop := ∀ W', KeepBut W W' rb none → kTk.C W' A g.length g
theorem keep_trans {w w1 w2 : World} {rb : Nat} (h : KeepBut w w1 rb none) (k : KeepBut w1 w2 rb none) : KeepBut w w2 rb none := h.trans k (.inl rfl)
theorem StI.keep {W W1 : World} {rb : Nat} {A : Option Addr} {l : List Int} (h : StI W rb A l) (hk : KeepBut W W1 rb none) : StI W1 rb A l := ⟨fun W' h' => h.st W' (keep_trans hk h'), h.ne⟩
theorem StG.keep {W W1 : World} {rb : Nat} {A : Option Addr} {g : List Tk} (h : StG W rb A g) (hk : KeepBut W W1 rb none) : StG W1 rb A g := fun W' h' => h W' (keep_trans hk h')
theorem StI.now {W : World} {rb : Nat} {A : Option Addr} {l : List Int} (h : StI W rb A l) : (Kd.int .i64).C W A l.length l := h.st W (KeepBut.refl _ _ _)
theorem StG.now {W : World} {rb : Nat} {A : Option Addr} {g : List Tk} (h : StG W rb A g) : kTk.C W A g.length g := h W (KeepBut.refl _ _ _)
theorem keep_below {w w1 : World} (rb : Nat) (h : Below w.heap.size w w1) : KeepBut w w1 rb none := KeepBut.of_below h rb none
theorem stI_of_R {W : World} {rb base : Nat} {v : Value} {l : List Int} (h : Kd.R (Kd.int .i64) 3 W base (fun _ => True) v l) (hrb : rb < base) : ∃ A c, v = .slice A l.length c ∧ l.length ≤ c ∧ StI W rb A l := by
 obtain ⟨A, c, rfl, hc, _⟩ := Kd.R_reads h
 refine ⟨A, c, rfl, hc, fun W' hk => ?_, fun ad e _ e2 => by have := Kd.R_base h ad.block (by rw [e]; simp [Value.ownBlock]); omega⟩
 have h2 := Kd.R_step (Kd.R_tight rfl h) (w1 := W') fun k hk' hlt => hk.2 k hlt (fun e => by have := Kd.R_base h k hk'.symm; omega) (by simp)
 exact (Kd.R_reads' h2).2.2
theorem stI_of_Q {W : World} {rb base : Nat} {v : Value} {l : List Int} (h : Kd.Q (Kd.int .i64) 3 W base (fun _ => True) v l) (hrb : rb < base) : ∃ A c, v = .slice A l.length c ∧ l.length ≤ c ∧ StI W rb A l := by
 obtain ⟨A, c, rfl, hc, _⟩ := Kd.Q_reads h
 refine ⟨A, c, rfl, hc, fun W' hk => ?_, fun ad e _ e2 => by have := Kd.Q_base h ad.block (by rw [e]; simp [Value.ownBlock]); omega⟩
 have h2 := Kd.Q_keep (Kd.Q_bound h) hk (fun k hk' e => by have := hk'.2.1; omega)
 exact (Kd.Q_reads' h2).2.2
theorem newReader_any (A : Option Addr) (c : Nat) (l : List Int) (hb : ∀ x ∈ l, 0 ≤ x ∧ x < 256) (w : World) (hr : (Kd.int .u8).C w A l.length l) (hc : l.length ≤ c) :
  Calls Tryd.prog 51 #[.slice A l.length c] w fun e w' => ∃ rb, e = .returned (.pointer (some ⟨rb, 0, none⟩)) ∧ RdSt w w' rb 0 ∧ Below w.heap.size w w' := by
 obtain ⟨r, hr1, hr2, hr3⟩ := newReader_some l
 refine (spec_newReader.calls A c l r 0 w w (Below.refl _ _) hr hc hr1).mono ?_
 rintro e w' ⟨g, rfl, hI, hB, _⟩
 exact ⟨g, rfl, ⟨r, 0, hI, fun x hx => hb x (hr3 x hx), hr2, Int.le_refl _, Int.le_refl _⟩, hB⟩
theorem pick_any (rb : Nat) (M n : Int) (hM : M ≤ 900000) (w0 w : World) (hS : RdSt w0 w rb M) (hB : Below w0.heap.size w0 w) :
  Calls Tryd.prog 56 #[.pointer (some ⟨rb, 0, none⟩), .int .i64 n] w fun e w' => ∃ v, e = .returned (.int .i64 v) ∧ (0 ≤ v ∧ (0 < n → v < n)) ∧ RdSt w0 w' rb (M + 1) ∧ Below w0.heap.size w0 w' ∧ KeepBut w w' rb none := by
 obtain ⟨b, p, hI, h1, h2, h3, h4⟩ := hS
 obtain ⟨k0, r, ⟨hp1, hp2, hp3, hp4⟩, hk⟩ := pick_gets h1 h2 (n := n) h3 (by omega)
 refine (spec_reader_pick.calls k0 rb b p n r.1 r.2 w0 w hI hB (hk k0 (Nat.le_refl _))).mono ?_
 rintro e w' ⟨rfl, hI', hB', hK⟩
 exact ⟨_, rfl, ⟨hp1, hp2⟩, ⟨b, r.2, hI', h1, h2, by omega, by omega⟩, hB', hK⟩
theorem one_any (rb : Nat) (M : Int) (A : Option Addr) (c : Nat) (l : List Int) (hl : 0 < l.length) (hM : M ≤ 900000) (w0 w : World) (hS : RdSt w0 w rb M) (hB : Below w0.heap.size w0 w) (hr : (Kd.int .i64).C w A l.length l) (hc : l.length ≤ c) (hf : ∀ ad, A = some ad → 0 < l.length → ad.block ≠ rb) :
  Calls Tryd.prog 57 #[.pointer (some ⟨rb, 0, none⟩), .slice A l.length c] w fun e w' => ∃ v, e = .returned (.int .i64 v) ∧ v ∈ l ∧ RdSt w0 w' rb (M + 1) ∧ Below w0.heap.size w0 w' ∧ KeepBut w w' rb none := by
 obtain ⟨b, p, hI, h1, h2, h3, h4⟩ := hS
 obtain ⟨k0, r, ⟨hp1, hp2⟩, hk⟩ := one_gets h1 h2 (l := l) h3 (by omega) hl
 refine (spec_reader_one.calls k0 rb b p A c l r.1 r.2 w0 w hI hB hr hc hf (hk k0 (Nat.le_refl _))).mono ?_
 rintro e w' ⟨rfl, hI', hB', hK⟩
 exact ⟨_, rfl, hp1, ⟨b, r.2, hI', h1, h2, by omega, by omega⟩, hB', hK⟩
theorem spoil_any (rb : Nat) (M : Int) (A : Option Addr) (c : Nat) (l : List Int) (n : Int) (hl : l.length ≤ 1000) (hM : M ≤ 900000) (w0 w : World) (hS : RdSt w0 w rb M) (hB : Below w0.heap.size w0 w) (hr : (Kd.int .i64).C w A l.length l) (hc : l.length ≤ c) (hf : ∀ ad, A = some ad → 0 < l.length → ad.block ≠ rb) :
  Calls Tryd.prog 70 #[.pointer (some ⟨rb, 0, none⟩), .slice A l.length c, .int .i64 n] w fun e w' => ∃ A' c' l', e = .returned (.slice A' l'.length c') ∧ l'.length ≤ c' ∧ StI w' rb A' l' ∧ l'.length ≤ l.length + 1 ∧ RdSt w0 w' rb (M + 3) ∧ Below w0.heap.size w0 w' ∧ KeepBut w w' rb none := by
 have hlt := hS.lt
 obtain ⟨b, p, hI, h1, h2, h3, h4⟩ := hS
 obtain ⟨k0, r, ⟨hp1, hp2, hp3⟩, hk⟩ := spoil_gets h1 h2 p h3 (by omega) l hl n
 refine (spec_reader_spoil.calls k0 rb b p A c l n r.1 r.2 w0 w hI hB hr hc hf (hk k0 (Nat.le_refl _))).mono ?_
 rintro e w' ⟨v, rfl, hQ, hI', hB', hK⟩
 obtain ⟨A', c', rfl, hc', hSt⟩ := stI_of_Q (rb := rb) hQ hlt
 exact ⟨A', c', r.1, rfl, hc', hSt, hp1, ⟨b, r.2, hI', h1, h2, by omega, by omega⟩, hB', hK⟩
theorem anyGraph_any (rb : Nat) (M : Int) (hM : M ≤ 500000) (w0 w : World) (hS : RdSt w0 w rb M) (hB : Below w0.heap.size w0 w) :
  Calls Tryd.prog 52 #[.pointer (some ⟨rb, 0, none⟩)] w fun e w' => ∃ A' c' g, e = .returned (.slice A' g.length c') ∧ g.length ≤ c' ∧ StG w' rb A' g ∧ GOk 16 10 g ∧ RdSt w0 w' rb (M + 300) ∧ Below w0.heap.size w0 w' ∧ KeepBut w w' rb none := by
 have hlt := hS.lt
 obtain ⟨b, p, hI, h1, h2, h3, h4⟩ := hS
 obtain ⟨k0, r, ⟨hp1, hp2, hp3⟩, hk⟩ := anyGraph_gets h1 h2 p h3 (by omega)
 refine (spec_anyGraph.calls k0 rb b p r.1 r.2 w0 w hI hB (hk k0 (Nat.le_refl _))).mono ?_
 rintro e w' ⟨v, rfl, hN, hI', hB', hK⟩
 obtain ⟨A', c', rfl⟩ := Kd.N_slice hN
 refine ⟨A', c', r.1, rfl, (Kd.N_reads' hN).2.1, fun W' hW => ?_, hp1, ⟨b, r.2, hI', h1, h2, hp2, by omega⟩, hB', hK⟩
 exact (Kd.N_reads' (Kd.N_keep hN hW (fun k hk' e => by omega))).2.2
end Go.Proofs.YtpmfghbjkampkaaDoor

namespace Go.Proofs.YtpmfghbjkampkaaDoor
set_option linter.unusedVariables false
set_option linter.unusedSimpArgs false
open Go.RowKit Go.Shelf
open Go.Proofs.YtpmfghbjkampkaaDoorW.PrintWords Go.Proofs.YtpmfghbjkampkaaDoorW.PrintLast Go.Proofs.YtpmfghbjkampkaaDoorW.PrintMore
theorem lit_R (w : World) (l : List Int) (hl : l.length ≤ 1000) : Kd.R (Kd.int .i64) 3 (w.alloc (.cells (encs (Value.int .i64) l).toArray 3)) w.heap.size (fun _ => True) (.slice (some ⟨w.heap.size, 0, none⟩) l.length l.length) l := by
 refine Kd.R_of_own ?_ (fun _ _ => trivial)
 have h := World.ownsRow_lit (base := w.heap.size) (e := 3) (size := 1) w (encs (Value.int .i64) l).toArray l.length (Nat.le_refl _) (by simp [maxLen]; omega) (by simp [encs])
 rwa [List.toList_toArray] at h
theorem oneLit_any (rb : Nat) (M : Int) (l : List Int) (hl0 : 0 < l.length) (hl : l.length ≤ 1000) (hM : M ≤ 900000) (w0 w : World) (hS : RdSt w0 w rb M) (hB : Below w0.heap.size w0 w) :
  Calls Tryd.prog 57 #[.pointer (some ⟨rb, 0, none⟩), .slice (some ⟨w.heap.size, 0, none⟩) l.length l.length] (w.alloc (.cells (encs (Value.int .i64) l).toArray 3)) fun e w' => ∃ v, e = .returned (.int .i64 v) ∧ v ∈ l ∧ RdSt w0 w' rb (M + 1) ∧ Below w0.heap.size w0 w' ∧ KeepBut w w' rb none := by
 have hB1 : Below w.heap.size w (w.alloc (.cells (encs (Value.int .i64) l).toArray 3)) := (Below.refl _ _).alloc (Nat.le_refl _) _
 have hlt := hS.lt
 obtain ⟨A', c', e, hc, hC⟩ := Kd.R_reads (lit_R w l hl)
 cases e
 refine (one_any rb M _ _ l hl0 hM w0 _ (hS.below hB1) (hB.trans (hB1.mono hB.size)) hC (Nat.le_refl _) (fun ad e _ e2 => by cases e; simp at e2; omega)).mono ?_
 rintro e w' ⟨v, rfl, hv, h1, h2, h3⟩
 exact ⟨v, rfl, hv, h1, h2, keep_trans (keep_below rb hB1) h3⟩
theorem someWorkers_any (rb : Nat) (M : Int) (hM : M ≤ 900000) (w0 w : World) (hS : RdSt w0 w rb M) (hB : Below w0.heap.size w0 w) :
  Calls Tryd.prog 64 #[.pointer (some ⟨rb, 0, none⟩)] w fun e w' => ∃ v, e = .returned (.int .i64 v) ∧ (0 ≤ v ∧ v ≤ 5) ∧ RdSt w0 w' rb (M + 1) ∧ Below w0.heap.size w0 w' ∧ KeepBut w w' rb none := by
 have HS := Lib.hid hS
 have HB := Lib.hid hB
 clear hS hB
 go_enter Tryd.func64, Tryd.ntmps64
 go_wp2_with (go_at_call 57; refine (oneLit_any rb M [1, 2, 3, 4, 2, 0, 5] (by decide) (by decide) hM w0 _ HS.out HB.out).mono ?_; rintro e w1 ⟨v1, rfl, hv1, hS1, hB1, hK1⟩; have HV := Lib.hid hv1; clear hv1)
 go_ret
 refine ⟨v1, rfl, ?_, hS1, hB1, hK1⟩
 have := HV.out
 simp at this
 omega
theorem someDeadline_any (rb : Nat) (M : Int) (hM : M ≤ 900000) (w0 w : World) (hS : RdSt w0 w rb M) (hB : Below w0.heap.size w0 w) :
  Calls Tryd.prog 54 #[.pointer (some ⟨rb, 0, none⟩)] w fun e w' => ∃ v, e = .returned (.int .i64 v) ∧ (-1 ≤ v ∧ v ≤ 201) ∧ RdSt w0 w' rb (M + 1) ∧ Below w0.heap.size w0 w' ∧ KeepBut w w' rb none := by
 have HS := Lib.hid hS
 have HB := Lib.hid hB
 clear hS hB
 go_enter Tryd.func54, Tryd.ntmps54
 go_wp2_with (go_at_call 57; refine (oneLit_any rb M [10, 20, 0, 5, 40, 200, 201, -1, 15] (by decide) (by decide) hM w0 _ HS.out HB.out).mono ?_; rintro e w1 ⟨v1, rfl, hv1, hS1, hB1, hK1⟩; have HV := Lib.hid hv1; clear hv1)
 go_ret
 refine ⟨v1, rfl, ?_, hS1, hB1, hK1⟩
 have := HV.out
 simp at this
 omega
set_option maxRecDepth 100000 in
set_option maxHeartbeats 2000000 in
theorem someRoom_any (rb : Nat) (M : Int) (hM : M ≤ 800000) (w0 w : World) (hS : RdSt w0 w rb M) (hB : Below w0.heap.size w0 w) :
  Calls Tryd.prog 53 #[.pointer (some ⟨rb, 0, none⟩)] w fun e w' => ∃ A' c' l', e = .returned (.slice A' l'.length c') ∧ l'.length ≤ c' ∧ StI w' rb A' l' ∧ l'.length ≤ 4 ∧ RdSt w0 w' rb (M + 6) ∧ Below w0.heap.size w0 w' ∧ KeepBut w w' rb none := by
 have HS := Lib.hid hS
 have HB := Lib.hid hB
 have HK := Lib.hid (KeepBut.refl w rb none)
 clear hS hB
 go_enter Tryd.func53, Tryd.ntmps53
 go_wp2_with (first
  | (go_at_call 57; refine (oneLit_any rb M [4, 5, 8, 4] (by decide) (by decide) (by omega) w0 _ HS.out HB.out).mono ?_; rintro e w1 ⟨v1, rfl, hv1, hS1, hB1, hK1⟩; have HS1 := Lib.hid hS1; have HB1 := Lib.hid hB1; have HK1 := Lib.hid hK1; clear hv1 hS1 hB1 hK1 HS)
  | (go_at_call 57; refine (oneLit_any rb (M + 1) [4, 6, 8] (by decide) (by decide) (by omega) w0 _ HS1.out HB1.out).mono ?_; rintro e w2 ⟨v2, rfl, hv2, hS2, hB2, hK2⟩; have HS2 := Lib.hid hS2; have HB2 := Lib.hid hB2; have HK2 := Lib.hid (keep_trans HK1.out hK2); clear hv2 hS2 hB2 hK2 HS1)
  | (go_at_call 57; refine (oneLit_any rb (M + 1 + 1) [4, 4, 7] (by decide) (by decide) (by omega) w0 _ HS2.out HB2.out).mono ?_; rintro e w3 ⟨v3, rfl, hv3, hS3, hB3, hK3⟩; have HS3 := Lib.hid hS3; have HB3 := Lib.hid hB3; have HK3 := Lib.hid (keep_trans HK2.out hK3); clear hv3 hS3 hB3 hK3 HS2)
  | (go_at_call 70; have hBa : Below w3.heap.size w3 (w3.alloc (.cells (encs (Value.int .i64) [v1, v2, v3]).toArray 3)) := (Below.refl _ _).alloc (Nat.le_refl _) _; have hrd := Kd.R_reads' (lit_R w3 [v1, v2, v3] (by simp)); refine (spoil_any rb (M + 1 + 1 + 1) _ _ [v1, v2, v3] 9 (by simp) (by omega) w0 _ (HS3.out.below hBa) (HB3.out.trans (hBa.mono HB3.out.size)) hrd.2.2 (Nat.le_refl _) (fun ad e _ e2 => by have := HS3.out.lt; cases e; simp at e2; omega)).mono ?_; rintro e w4 ⟨A4, c4, l4, rfl, hl4, hI4, hl4', hS4, hB4, hK4⟩; have HF := Lib.hid (And.intro hI4 (And.intro hl4' (And.intro hS4 (And.intro hB4 (keep_trans HK3.out (keep_trans (keep_below rb hBa) hK4)))))); clear hI4 hl4' hS4 hB4 hK4 hBa hrd))
 go_ret
 exact ⟨A4, c4, l4, rfl, hl4, HF.out.1, by have := HF.out.2.1; simpa using this, HF.out.2.2.1.wide (by omega), HF.out.2.2.2.1, HF.out.2.2.2.2⟩
set_option maxRecDepth 100000 in
theorem DrawPlanStarts_any (A : Option Addr) (c : Nat) (l : List Int) (hb : ∀ x ∈ l, 0 ≤ x ∧ x < 256) (w : World) (hr : (Kd.int .u8).C w A l.length l) (hc : l.length ≤ c) :
  Calls Tryd.prog 30 #[.slice A l.length c] w fun e w' => ∃ A1 c1 g A2 c2 d wk, e = .returned (.tuple #[.slice A1 g.length c1, .slice A2 d.length c2, .int .i64 wk]) ∧ kTk.C w' A1 g.length g ∧ (Kd.int .i64).C w' A2 d.length d ∧ g.length ≤ 16 ∧ (0 ≤ wk ∧ wk ≤ 5) ∧ Below w.heap.size w w' := by
 have HN := Lib.hid (newReader_any A c l hb w hr hc)
 clear hb hr hc
 go_enter Tryd.func30, Tryd.ntmps30
 go_wp2_with (first | (go_at_call 51; refine HN.out.mono ?_; rintro e w1 ⟨rb, rfl, hS1, hB1⟩; have H1 := Lib.hid (And.intro hS1 hB1); clear hS1 hB1) | (go_at_call 52; refine (anyGraph_any rb 0 (by omega) w _ H1.out.1 H1.out.2).mono ?_; rintro e w2 ⟨A2, c2, g, rfl, hg2, hG2, hok, hS2, hB2, hK2⟩; have H2 := Lib.hid (And.intro hG2 (And.intro hok (And.intro hS2 hB2))); clear hG2 hok hS2 hB2 hK2) | (go_at_call 53; refine (someRoom_any rb _ (by omega) w _ H2.out.2.2.1 H2.out.2.2.2).mono ?_; rintro e w3 ⟨A3, c3, d, rfl, hd3, hI3, hl3, hS3, hB3, hK3⟩; have H3 := Lib.hid (And.intro (H2.out.1.keep hK3) (And.intro hI3 (And.intro hS3 hB3))); clear hI3 hS3 hB3 hK3) | (go_at_call 64; refine (someWorkers_any rb _ (by omega) w _ H3.out.2.2.1 H3.out.2.2.2).mono ?_; rintro e w4 ⟨wk, rfl, hwk, hS4, hB4, hK4⟩; have H4 := Lib.hid (And.intro (H3.out.1.keep hK4) (And.intro (H3.out.2.1.keep hK4) hB4)); clear hS4 hB4 hK4))
 go_ret3
 exact ⟨_, _, g, _, _, d, wk, rfl, H4.out.1.now, H4.out.2.1.now, H2.out.2.1.1, hwk, H4.out.2.2⟩
set_option maxRecDepth 100000 in
theorem DrawWorkersFor_any (A : Option Addr) (c : Nat) (l : List Int) (hb : ∀ x ∈ l, 0 ≤ x ∧ x < 256) (w : World) (hr : (Kd.int .u8).C w A l.length l) (hc : l.length ≤ c) :
  Calls Tryd.prog 22 #[.slice A l.length c] w fun e w' => ∃ A1 c1 g A2 c2 d dl, e = .returned (.tuple #[.slice A1 g.length c1, .slice A2 d.length c2, .int .i64 dl]) ∧ kTk.C w' A1 g.length g ∧ (Kd.int .i64).C w' A2 d.length d ∧ g.length ≤ 16 ∧ (-1 ≤ dl ∧ dl ≤ 201) ∧ Below w.heap.size w w' := by
 have HN := Lib.hid (newReader_any A c l hb w hr hc)
 clear hb hr hc
 go_enter Tryd.func22, Tryd.ntmps22
 go_wp2_with (first | (go_at_call 51; refine HN.out.mono ?_; rintro e w1 ⟨rb, rfl, hS1, hB1⟩; have H1 := Lib.hid (And.intro hS1 hB1); clear hS1 hB1) | (go_at_call 52; refine (anyGraph_any rb 0 (by omega) w _ H1.out.1 H1.out.2).mono ?_; rintro e w2 ⟨A2, c2, g, rfl, hg2, hG2, hok, hS2, hB2, hK2⟩; have H2 := Lib.hid (And.intro hG2 (And.intro hok (And.intro hS2 hB2))); clear hG2 hok hS2 hB2 hK2) | (go_at_call 53; refine (someRoom_any rb _ (by omega) w _ H2.out.2.2.1 H2.out.2.2.2).mono ?_; rintro e w3 ⟨A3, c3, d, rfl, hd3, hI3, hl3, hS3, hB3, hK3⟩; have H3 := Lib.hid (And.intro (H2.out.1.keep hK3) (And.intro hI3 (And.intro hS3 hB3))); clear hI3 hS3 hB3 hK3) | (go_at_call 54; refine (someDeadline_any rb _ (by omega) w _ H3.out.2.2.1 H3.out.2.2.2).mono ?_; rintro e w4 ⟨wk, rfl, hwk, hS4, hB4, hK4⟩; have H4 := Lib.hid (And.intro (H3.out.1.keep hK4) (And.intro (H3.out.2.1.keep hK4) hB4)); clear hS4 hB4 hK4))
 go_ret3
 exact ⟨_, _, g, _, _, d, wk, rfl, H4.out.1.now, H4.out.2.1.now, H2.out.2.1.1, hwk, H4.out.2.2⟩
end Go.Proofs.YtpmfghbjkampkaaDoor
