/- Parts of the proof, laid as one text by a program of mine. -/
import Derived.Test.YtkljcdghbefceaaDoorKbestc10
import Derived.Test.YtkljcdghbefceaaDoorKbestc19
import Derived.Deep.RegionHeld3
import Derived.Deep.RegionWith
import Derived.Test.YtkljcdghbefceaaDoorKbestc12
import Derived.Test.YtkljcdghbefceaaDoorKbestc5
import Derived.StillTailTactics
import Derived.Sort.Grow
namespace Go.Proofs.YtkljcdghbefceaaDoor.PFnValidLog
set_option linter.unusedVariables false
set_option linter.unusedSimpArgs false
open Go Go.RowKit
open Go.Proofs.YtkljcdghbefceaaDoorW.PrintWords Go.Proofs.YtkljcdghbefceaaDoorW.PrintLast Go.Proofs.YtkljcdghbefceaaDoorW.PrintMore
theorem GOk_set {m n : Nat} {g : List S41} {t : S41} (h : GOk m n g) (i : Nat) (ht : t.f1.length ≤ n) : GOk m n (g.set i t) := by
 refine ⟨by rw [List.length_set]; exact h.1, fun x hx => ?_⟩
 rcases List.mem_or_eq_of_mem_set hx with hx | rfl
 ·
  exact h.2 x hx
 ·
  exact ht
theorem GOk_wide {m n m' n' : Nat} {g : List S41} (h : GOk m n g) (hm : m ≤ m') (hn : n ≤ n') : GOk m' n' g := ⟨Nat.le_trans h.1 hm, fun t ht => Nat.le_trans (h.2 t ht) hn⟩
section
variable {b : List Int} (hb : ∀ x ∈ b, 0 ≤ x ∧ x < 256) (hl : b.length ≤ 2000)
include hb hl
theorem anyGraph_gets (p : Int) (h0 : 0 ≤ p) (h1 : p ≤ 500000) : Gets (fun k => spec_anyGraph.f k b p) (fun r => GOk 16 10 r.1 ∧ 0 ≤ r.2 ∧ r.2 ≤ p + 300) := by
 unfold spec_anyGraph.f
 refine Gets.bind (someGraph_gets hb hl p h0 (by omega) 8 (by omega)) fun x hx => ?_
 obtain ⟨hg, x0, x1⟩ := hx
 have hgw := GOk_wide (m' := 16) (n' := 10) hg (by omega) (by omega)
 have hlen := hg.1
 refine Gets.ite (fun _ => Gets.ret ⟨hgw, x0, by omega⟩) (fun hne => ?_)
 refine Gets.bind (pick_gets hb hl x0 (by omega)) fun i hi => ?_
 obtain ⟨i1, i2, i3, i4⟩ := hi
 have i5 := i2 (by omega)
 have hmem := hg.2 _ (rdT_mem i1 i5)
 rw [i4]
 refine Gets.bind (pick_gets hb hl (by omega) (by omega)) fun q hq => ?_
 obtain ⟨q1, q2, q3, q4⟩ := hq
 rw [q4]
 refine Gets.ite (fun _ => ?_) (fun _ => Gets.ite (fun _ => ?_) (fun _ => Gets.ite (fun _ => ?_) (fun _ => Gets.ite (fun _ => ?_) (fun _ => Gets.ite (fun _ => ?_) (fun _ => Gets.ret ⟨hgw, by show 0 ≤ x.2 + 1 + 1; omega, by show x.2 + 1 + 1 ≤ p + 300; omega⟩)))))
 ·
  refine Gets.bind (one_gets hb hl (by omega) (by omega) (by simp)) fun t ht => ?_
  exact Gets.pos i1 (Gets.pos i5 (Gets.ret ⟨GOk_set hgw _ (by show (rd_T41 x.1 i.1).f1.length ≤ 10; omega), by show 0 ≤ t.2; omega, by show t.2 ≤ p + 300; omega⟩))
 ·
  refine Gets.bind (pick_gets hb hl (by omega) (by omega)) fun t ht => ?_
  obtain ⟨t1, t2, t3, t4⟩ := ht
  refine Gets.pos i1 (Gets.pos i5 (Gets.pos (by omega) ?_))
  rw [t4]
  refine Gets.bind (spoil_gets hb hl _ (by omega) (by omega) _ (by simp; omega) _) fun s hs => ?_
  obtain ⟨s1, s2, s3⟩ := hs
  exact Gets.ret ⟨GOk_set hgw _ (by show s.1.length ≤ 10; simp at s1; omega), by show 0 ≤ s.2; omega, by show s.2 ≤ p + 300; omega⟩
 ·
  refine Gets.bind (one_gets hb hl (by omega) (by omega) (by simp)) fun t ht => ?_
  exact Gets.pos i1 (Gets.pos i5 (Gets.ret ⟨GOk_set hgw _ (by show (rd_T41 x.1 i.1).f1.length ≤ 10; omega), by show 0 ≤ t.2; omega, by show t.2 ≤ p + 300; omega⟩))
 ·
  refine Gets.bind (one_gets hb hl (by omega) (by omega) (by simp)) fun t ht => ?_
  exact Gets.pos i1 (Gets.pos i5 (Gets.ret ⟨GOk_set hgw _ (by show (rd_T41 x.1 i.1).f1.length ≤ 10; omega), by show 0 ≤ t.2; omega, by show t.2 ≤ p + 300; omega⟩))
 ·
  refine Gets.bind (someGraph_gets hb hl _ (by omega) (by omega) 8 (by omega)) fun t ht => ?_
  obtain ⟨tg, t0, t1⟩ := ht
  have tl := tg.1
  refine Gets.pos (by omega) (Gets.ret ⟨⟨?_, fun y hy => ?_⟩, t0, by show t.2 ≤ p + 300; omega⟩)
  ·
   show (x.1 ++ t.1).length ≤ 16
   simp; omega
  ·
   rcases List.mem_append.1 hy with hy | hy
   ·
    exact hgw.2 y hy
   ·
    exact Nat.le_trans (tg.2 y hy) (by omega)
end
theorem newReader_some (l : List Int) : ∃ r, spec_newReader.f l = some (r, 0) ∧ r.length ≤ 2000 ∧ ∀ x ∈ r, x ∈ l := by
 unfold spec_newReader.f
 by_cases h : (l.length : Int) > 2000
 ·
  rw [if_pos h, if_pos (by omega)]
  exact ⟨_, rfl, by rw [List.length_take]; omega, fun x hx => List.mem_of_mem_take hx⟩
 ·
  rw [if_neg h]
  exact ⟨l, rfl, by omega, fun x hx => hx⟩
end Go.Proofs.YtkljcdghbefceaaDoor.PFnValidLog

namespace Go.Proofs.YtkljcdghbefceaaDoor
set_option linter.unusedVariables false
set_option linter.unusedSimpArgs false
open Go Go.RowKit Go.Shelf
open Go.Proofs.YtkljcdghbefceaaDoorW.PrintWords Go.Proofs.YtkljcdghbefceaaDoorW.PrintLast Go.Proofs.YtkljcdghbefceaaDoorW.PrintMore
open PFnValidLog
def RdSt (w0 W : World) (rb : Nat) (M : Int) : Prop := ∃ b p, IsS71 w0 W rb b p ∧ (∀ x ∈ b, 0 ≤ x ∧ x < 256) ∧ b.length ≤ 2000 ∧ 0 ≤ p ∧ p ≤ M
theorem RdSt.lt {w0 W : World} {rb : Nat} {M : Int} (h : RdSt w0 W rb M) : rb < W.heap.size := by
 obtain ⟨b, p, hI, _⟩ := h
 exact hI.lt
theorem RdSt.wide {w0 W : World} {rb : Nat} {M M' : Int} (h : RdSt w0 W rb M) (hM : M ≤ M') : RdSt w0 W rb M' := by
 obtain ⟨b, p, hI, h1, h2, h3, h4⟩ := h
 exact ⟨b, p, hI, h1, h2, h3, by omega⟩
theorem RdSt.below {w0 W W' : World} {rb : Nat} {M : Int} (h : RdSt w0 W rb M) (hb : Below W.heap.size W W') : RdSt w0 W' rb M := by
 obtain ⟨b, p, hI, h1⟩ := h
 exact ⟨b, p, hI.below hb, h1⟩
def KeepUp (W W' : World) (rb : Nat) : Prop := W.heap.size ≤ W'.heap.size ∧ ∀ k, rb < k → k < W.heap.size → W'.heap[k]? = W.heap[k]?
theorem KeepUp.refl (W : World) (rb : Nat) : KeepUp W W rb := ⟨Nat.le_refl _, fun _ _ _ => rfl⟩
theorem KeepUp.of {W W' : World} {r rb : Nat} (h : KeepBut W W' r none) (hr : r ≤ rb) : KeepUp W W' rb := ⟨h.1, fun k hk hl => h.2 k hl (by omega) (by simp)⟩
theorem KeepUp.trans {W W1 W2 : World} {rb : Nat} (h : KeepUp W W1 rb) (k : KeepUp W1 W2 rb) : KeepUp W W2 rb := ⟨Nat.le_trans h.1 k.1, fun i hi hl => (k.2 i hi (Nat.lt_of_lt_of_le hl h.1)).trans (h.2 i hi hl)⟩
structure StI (W : World) (rb : Nat) (A : Option Addr) (l : List Int) : Prop where
 st : ∀ W', KeepUp W W' rb → (Kd.int .i64).C W' A l.length l
 ne : ∀ ad, A = some ad → 0 < l.length → ad.block ≠ rb
def StG (W : World) (rb : Nat) (A : Option Addr) (g : List Tk) : Prop := ∀ W', KeepUp W W' rb → kTk.C W' A g.length g
theorem keep_trans {w w1 w2 : World} {rb : Nat} (h : KeepBut w w1 rb none) (k : KeepBut w1 w2 rb none) : KeepBut w w2 rb none := h.trans k (.inl rfl)
theorem StI.keep {W W1 : World} {rb : Nat} {A : Option Addr} {l : List Int} (h : StI W rb A l) (hk : KeepBut W W1 rb none) : StI W1 rb A l := ⟨fun W' h' => h.st W' ((KeepUp.of hk (Nat.le_refl _)).trans h'), h.ne⟩
theorem StG.keep {W W1 : World} {rb : Nat} {A : Option Addr} {g : List Tk} (h : StG W rb A g) (hk : KeepBut W W1 rb none) : StG W1 rb A g := fun W' h' => h W' ((KeepUp.of hk (Nat.le_refl _)).trans h')
theorem StI.now {W : World} {rb : Nat} {A : Option Addr} {l : List Int} (h : StI W rb A l) : (Kd.int .i64).C W A l.length l := h.st W (KeepUp.refl _ _)
theorem StG.now {W : World} {rb : Nat} {A : Option Addr} {g : List Tk} (h : StG W rb A g) : kTk.C W A g.length g := h W (KeepUp.refl _ _)
theorem keep_below {w w1 : World} (rb : Nat) (h : Below w.heap.size w w1) : KeepBut w w1 rb none := KeepBut.of_below h rb none
theorem stI_of_R {W : World} {rb base : Nat} {v : Value} {l : List Int} (h : Kd.R (Kd.int .i64) 3 W base (fun _ => True) v l) (hrb : rb < base) : ∃ A c, v = .slice A l.length c ∧ l.length ≤ c ∧ StI W rb A l := by
 obtain ⟨A, c, rfl, hc, _⟩ := Kd.R_reads h
 refine ⟨A, c, rfl, hc, fun W' hk => ?_, fun ad e _ e2 => by have := Kd.R_base h ad.block (by rw [e]; simp [Value.ownBlock]); omega⟩
 have h2 := Kd.R_step (Kd.R_tight rfl h) (w1 := W') fun k hk' hlt => hk.2 k (by have := Kd.R_base h k hk'.symm; omega) hlt
 exact (Kd.R_reads' h2).2.2
theorem stI_of_Q {W : World} {rb base : Nat} {v : Value} {l : List Int} (h : Kd.Q (Kd.int .i64) 3 W base (fun _ => True) v l) (hrb : rb < base) : ∃ A c, v = .slice A l.length c ∧ l.length ≤ c ∧ StI W rb A l := by
 obtain ⟨A, c, rfl, hc, _⟩ := Kd.Q_reads h
 refine ⟨A, c, rfl, hc, fun W' hk => ?_, fun ad e _ e2 => by have := Kd.Q_base h ad.block (by rw [e]; simp [Value.ownBlock]); omega⟩
 have h2 := Kd.Q_step (Kd.Q_bound h) (fun k hk' hlt => hk.2 k (by have := hk'.2.1; omega) hlt)
 exact (Kd.Q_reads' h2).2.2
theorem newReader_any (A : Option Addr) (c : Nat) (l : List Int) (hb : ∀ x ∈ l, 0 ≤ x ∧ x < 256) (w : World) (hr : (Kd.int .u8).C w A l.length l) (hc : l.length ≤ c) :
  Calls Tryd.prog 21 #[.slice A l.length c] w fun e w' => ∃ rb, e = .returned (.pointer (some ⟨rb, 0, none⟩)) ∧ RdSt w w' rb 0 ∧ Below w.heap.size w w' := by
 obtain ⟨r, hr1, hr2, hr3⟩ := newReader_some l
 refine (spec_newReader.calls A c l r 0 w w (Below.refl _ _) hr hc hr1).mono ?_
 rintro e w' ⟨g, rfl, hI, hB, _⟩
 exact ⟨g, rfl, ⟨r, 0, hI, fun x hx => hb x (hr3 x hx), hr2, Int.le_refl _, Int.le_refl _⟩, hB⟩
theorem pick_any (rb : Nat) (M n : Int) (hM : M ≤ 900000) (w0 w : World) (hS : RdSt w0 w rb M) (hB : Below w0.heap.size w0 w) :
  Calls Tryd.prog 27 #[.pointer (some ⟨rb, 0, none⟩), .int .i64 n] w fun e w' => ∃ v, e = .returned (.int .i64 v) ∧ (0 ≤ v ∧ (0 < n → v < n)) ∧ RdSt w0 w' rb (M + 1) ∧ Below w0.heap.size w0 w' ∧ KeepBut w w' rb none := by
 obtain ⟨b, p, hI, h1, h2, h3, h4⟩ := hS
 obtain ⟨k0, r, ⟨hp1, hp2, hp3, hp4⟩, hk⟩ := pick_gets h1 h2 (n := n) h3 (by omega)
 refine (spec_reader_pick.calls k0 rb b p n r.1 r.2 w0 w hI hB (hk k0 (Nat.le_refl _))).mono ?_
 rintro e w' ⟨rfl, hI', hB', hK⟩
 exact ⟨_, rfl, ⟨hp1, hp2⟩, ⟨b, r.2, hI', h1, h2, by omega, by omega⟩, hB', hK⟩
theorem one_any (rb : Nat) (M : Int) (A : Option Addr) (c : Nat) (l : List Int) (hl : 0 < l.length) (hM : M ≤ 900000) (w0 w : World) (hS : RdSt w0 w rb M) (hB : Below w0.heap.size w0 w) (hr : (Kd.int .i64).C w A l.length l) (hc : l.length ≤ c) (hf : ∀ ad, A = some ad → 0 < l.length → ad.block ≠ rb) :
  Calls Tryd.prog 49 #[.pointer (some ⟨rb, 0, none⟩), .slice A l.length c] w fun e w' => ∃ v, e = .returned (.int .i64 v) ∧ v ∈ l ∧ RdSt w0 w' rb (M + 1) ∧ Below w0.heap.size w0 w' ∧ KeepBut w w' rb none := by
 obtain ⟨b, p, hI, h1, h2, h3, h4⟩ := hS
 obtain ⟨k0, r, ⟨hp1, hp2⟩, hk⟩ := one_gets h1 h2 (l := l) h3 (by omega) hl
 refine (spec_reader_one.calls k0 rb b p A c l r.1 r.2 w0 w hI hB hr hc hf (hk k0 (Nat.le_refl _))).mono ?_
 rintro e w' ⟨rfl, hI', hB', hK⟩
 exact ⟨_, rfl, hp1, ⟨b, r.2, hI', h1, h2, by omega, by omega⟩, hB', hK⟩
theorem spoil_any (rb : Nat) (M : Int) (A : Option Addr) (c : Nat) (l : List Int) (n : Int) (hl : l.length ≤ 1000) (hM : M ≤ 900000) (w0 w : World) (hS : RdSt w0 w rb M) (hB : Below w0.heap.size w0 w) (hr : (Kd.int .i64).C w A l.length l) (hc : l.length ≤ c) (hf : ∀ ad, A = some ad → 0 < l.length → ad.block ≠ rb) :
  Calls Tryd.prog 28 #[.pointer (some ⟨rb, 0, none⟩), .slice A l.length c, .int .i64 n] w fun e w' => ∃ A' c' l', e = .returned (.slice A' l'.length c') ∧ l'.length ≤ c' ∧ StI w' rb A' l' ∧ l'.length ≤ l.length + 1 ∧ RdSt w0 w' rb (M + 3) ∧ Below w0.heap.size w0 w' ∧ KeepBut w w' rb none := by
 have hlt := hS.lt
 obtain ⟨b, p, hI, h1, h2, h3, h4⟩ := hS
 obtain ⟨k0, r, ⟨hp1, hp2, hp3⟩, hk⟩ := spoil_gets h1 h2 p h3 (by omega) l hl n
 refine (spec_reader_spoil.calls k0 rb b p A c l n r.1 r.2 w0 w hI hB hr hc hf (hk k0 (Nat.le_refl _))).mono ?_
 rintro e w' ⟨v, rfl, hQ, hI', hB', hK⟩
 obtain ⟨A', c', rfl, hc', hSt⟩ := stI_of_Q (rb := rb) hQ hlt
 exact ⟨A', c', r.1, rfl, hc', hSt, hp1, ⟨b, r.2, hI', h1, h2, by omega, by omega⟩, hB', hK⟩
theorem anyGraph_any (rb : Nat) (M : Int) (hM : M ≤ 500000) (w0 w : World) (hS : RdSt w0 w rb M) (hB : Below w0.heap.size w0 w) :
  Calls Tryd.prog 47 #[.pointer (some ⟨rb, 0, none⟩)] w fun e w' => ∃ A' c' g, e = .returned (.slice A' g.length c') ∧ g.length ≤ c' ∧ StG w' rb A' g ∧ GOk 16 10 g ∧ RdSt w0 w' rb (M + 300) ∧ Below w0.heap.size w0 w' ∧ KeepBut w w' rb none := by
 have hlt := hS.lt
 obtain ⟨b, p, hI, h1, h2, h3, h4⟩ := hS
 obtain ⟨k0, r, ⟨hp1, hp2, hp3⟩, hk⟩ := anyGraph_gets h1 h2 p h3 (by omega)
 refine (spec_anyGraph.calls k0 rb b p r.1 r.2 w0 w hI hB (hk k0 (Nat.le_refl _))).mono ?_
 rintro e w' ⟨v, rfl, hN, hI', hB', hK⟩
 obtain ⟨A', c', rfl⟩ := Kd.N_slice hN
 refine ⟨A', c', r.1, rfl, (Kd.N_reads' hN).2.1, fun W' hW => ?_, hp1, ⟨b, r.2, hI', h1, h2, hp2, by omega⟩, hB', hK⟩
 exact (Kd.N_reads' (Kd.N_step hN (fun k hk' hlt => hW.2 k (by omega) hlt))).2.2
end Go.Proofs.YtkljcdghbefceaaDoor

namespace Go.Proofs.YtkljcdghbefceaaDoor
set_option linter.unusedVariables false
set_option linter.unusedSimpArgs false
open Go.RowKit Go.Shelf
open Go.Proofs.YtkljcdghbefceaaDoorW.PrintWords Go.Proofs.YtkljcdghbefceaaDoorW.PrintLast Go.Proofs.YtkljcdghbefceaaDoorW.PrintMore
theorem lit_R (w : World) (l : List Int) (hl : l.length ≤ 1000) : Kd.R (Kd.int .i64) 3 (w.alloc (.cells (encs (Value.int .i64) l).toArray 3)) w.heap.size (fun _ => True) (.slice (some ⟨w.heap.size, 0, none⟩) l.length l.length) l := by
 refine Kd.R_of_own ?_ (fun _ _ => trivial)
 have h := World.ownsRow_lit (base := w.heap.size) (e := 3) (size := 1) w (encs (Value.int .i64) l).toArray l.length (Nat.le_refl _) (by simp [maxLen]; omega) (by simp [encs])
 rwa [List.toList_toArray] at h
theorem oneLit_any (rb : Nat) (M : Int) (l : List Int) (hl0 : 0 < l.length) (hl : l.length ≤ 1000) (hM : M ≤ 900000) (w0 w : World) (hS : RdSt w0 w rb M) (hB : Below w0.heap.size w0 w) :
  Calls Tryd.prog 49 #[.pointer (some ⟨rb, 0, none⟩), .slice (some ⟨w.heap.size, 0, none⟩) l.length l.length] (w.alloc (.cells (encs (Value.int .i64) l).toArray 3)) fun e w' => ∃ v, e = .returned (.int .i64 v) ∧ v ∈ l ∧ RdSt w0 w' rb (M + 1) ∧ Below w0.heap.size w0 w' ∧ KeepBut w w' rb none := by
 have hB1 : Below w.heap.size w (w.alloc (.cells (encs (Value.int .i64) l).toArray 3)) := (Below.refl _ _).alloc (Nat.le_refl _) _
 have hlt := hS.lt
 obtain ⟨A', c', e, hc, hC⟩ := Kd.R_reads (lit_R w l hl)
 cases e
 refine (one_any rb M _ _ l hl0 hM w0 _ (hS.below hB1) (hB.trans (hB1.mono hB.size)) hC (Nat.le_refl _) (fun ad e _ e2 => by cases e; simp at e2; omega)).mono ?_
 rintro e w' ⟨v, rfl, hv, h1, h2, h3⟩
 exact ⟨v, rfl, hv, h1, h2, keep_trans (keep_below rb hB1) h3⟩
theorem someWorkers_any (rb : Nat) (M : Int) (hM : M ≤ 900000) (w0 w : World) (hS : RdSt w0 w rb M) (hB : Below w0.heap.size w0 w) :
  Calls Tryd.prog 24 #[.pointer (some ⟨rb, 0, none⟩)] w fun e w' => ∃ v, e = .returned (.int .i64 v) ∧ (0 ≤ v ∧ v ≤ 5) ∧ RdSt w0 w' rb (M + 1) ∧ Below w0.heap.size w0 w' ∧ KeepBut w w' rb none := by
 have HS := Lib.hid hS
 have HB := Lib.hid hB
 clear hS hB
 go_enter Tryd.func24, Tryd.ntmps24
 go_wp2_with (go_at_call 49; refine (oneLit_any rb M [1, 2, 3, 4, 2, 0, 5] (by decide) (by decide) hM w0 _ HS.out HB.out).mono ?_; rintro e w1 ⟨v1, rfl, hv1, hS1, hB1, hK1⟩; have HV := Lib.hid hv1; clear hv1)
 go_ret
 refine ⟨v1, rfl, ?_, hS1, hB1, hK1⟩
 have := HV.out
 simp at this
 omega
set_option maxRecDepth 100000 in
set_option maxHeartbeats 2000000 in
theorem someRoom_any (rb : Nat) (M : Int) (hM : M ≤ 800000) (w0 w : World) (hS : RdSt w0 w rb M) (hB : Below w0.heap.size w0 w) :
  Calls Tryd.prog 23 #[.pointer (some ⟨rb, 0, none⟩)] w fun e w' => ∃ A' c' l', e = .returned (.slice A' l'.length c') ∧ l'.length ≤ c' ∧ StI w' rb A' l' ∧ l'.length ≤ 4 ∧ RdSt w0 w' rb (M + 6) ∧ Below w0.heap.size w0 w' ∧ KeepBut w w' rb none := by
 have HS := Lib.hid hS
 have HB := Lib.hid hB
 have HK := Lib.hid (KeepBut.refl w rb none)
 clear hS hB
 go_enter Tryd.func23, Tryd.ntmps23
 go_wp2_with (first
  | (go_at_call 49; refine (oneLit_any rb M [4, 5, 8, 4] (by decide) (by decide) (by omega) w0 _ HS.out HB.out).mono ?_; rintro e w1 ⟨v1, rfl, hv1, hS1, hB1, hK1⟩; have HS1 := Lib.hid hS1; have HB1 := Lib.hid hB1; have HK1 := Lib.hid hK1; clear hv1 hS1 hB1 hK1 HS)
  | (go_at_call 49; refine (oneLit_any rb (M + 1) [4, 6, 8] (by decide) (by decide) (by omega) w0 _ HS1.out HB1.out).mono ?_; rintro e w2 ⟨v2, rfl, hv2, hS2, hB2, hK2⟩; have HS2 := Lib.hid hS2; have HB2 := Lib.hid hB2; have HK2 := Lib.hid (keep_trans HK1.out hK2); clear hv2 hS2 hB2 hK2 HS1)
  | (go_at_call 49; refine (oneLit_any rb (M + 1 + 1) [4, 4, 7] (by decide) (by decide) (by omega) w0 _ HS2.out HB2.out).mono ?_; rintro e w3 ⟨v3, rfl, hv3, hS3, hB3, hK3⟩; have HS3 := Lib.hid hS3; have HB3 := Lib.hid hB3; have HK3 := Lib.hid (keep_trans HK2.out hK3); clear hv3 hS3 hB3 hK3 HS2)
  | (go_at_call 28; have hBa : Below w3.heap.size w3 (w3.alloc (.cells (encs (Value.int .i64) [v1, v2, v3]).toArray 3)) := (Below.refl _ _).alloc (Nat.le_refl _) _; have hrd := Kd.R_reads' (lit_R w3 [v1, v2, v3] (by simp)); refine (spoil_any rb (M + 1 + 1 + 1) _ _ [v1, v2, v3] 9 (by simp) (by omega) w0 _ (HS3.out.below hBa) (HB3.out.trans (hBa.mono HB3.out.size)) hrd.2.2 (Nat.le_refl _) (fun ad e _ e2 => by have := HS3.out.lt; cases e; simp at e2; omega)).mono ?_; rintro e w4 ⟨A4, c4, l4, rfl, hl4, hI4, hl4', hS4, hB4, hK4⟩; have HF := Lib.hid (And.intro hI4 (And.intro hl4' (And.intro hS4 (And.intro hB4 (keep_trans HK3.out (keep_trans (keep_below rb hBa) hK4)))))); clear hI4 hl4' hS4 hB4 hK4 hBa hrd))
 go_ret
 exact ⟨A4, c4, l4, rfl, hl4, HF.out.1, by have := HF.out.2.1; simpa using this, HF.out.2.2.1.wide (by omega), HF.out.2.2.2.1, HF.out.2.2.2.2⟩
end Go.Proofs.YtkljcdghbefceaaDoor

namespace Go.Proofs.YtkljcdghbefceaaDoor
set_option linter.unusedVariables false
set_option linter.unusedSimpArgs false
open Go.RowKit Go.Shelf
open Go.Proofs.YtkljcdghbefceaaDoorW.PrintWords Go.Proofs.YtkljcdghbefceaaDoorW.PrintLast Go.Proofs.YtkljcdghbefceaaDoorW.PrintMore
def StB (k : Int) (st : List Int) : Prop := ∀ i, -k ≤ st.getD i 0 ∧ st.getD i 0 ≤ 200 + 40 * k
theorem StB.set {k : Int} {st : List Int} (h : StB k st) (i : Nat) {x : Int} (hx : -(k + 1) ≤ x ∧ x ≤ 200 + 40 * (k + 1)) (hk : 0 ≤ k) : StB (k + 1) (st.set i x) := fun j => by
 have := h j
 rw [getD_setL]
 split <;> omega
theorem StB.wide {k k' : Int} {st : List Int} (h : StB k st) (hk : k ≤ k') : StB k' st := fun i => by have := h i; omega
theorem StB.sok {st : List Int} (h : StB 2 st) : SOk st := fun i => by have := h i; omega
theorem pS_B (g : List Tk) (rm : List Int) (wk : Int) : StB 0 (pS g rm wk) := by
 unfold pS
 split
 ·
  exact fun i => by have := (planS_ok g rm wk).2 i; omega
 ·
  exact fun i => by simp
theorem pS_len (g : List Tk) (rm : List Int) (wk : Int) : (pS g rm wk).length ≤ 8 := by
 unfold pS
 split
 ·
  rename_i h
  rw [Bool.and_eq_true] at h
  rw [(planS_ok g rm wk).1]
  exact (specValid_TOk h.1).1
 ·
  simp
theorem stI_of_Rb {W : World} {rb base : Nat} {ok : Nat → Prop} {v : Value} {l : List Int} (h : Kd.R (Kd.int .i64) 3 W base ok v l) (hrb : rb < base) : ∃ A c, v = .slice A l.length c ∧ l.length ≤ c ∧ StI W rb A l := stI_of_R (Kd.R_mono h (fun _ _ => trivial)) hrb
theorem RdSt.far {w0 W : World} {rb : Nat} {M : Int} (h : RdSt w0 W rb M) {p : Addr} (hp : p.block ≠ rb) (u : Value) : RdSt w0 (W.setCell p u) rb M := by
 obtain ⟨b, q, ⟨A0, c0, h1, h2, h3⟩, h4⟩ := h
 exact ⟨b, q, ⟨A0, c0, (Below.heap_setCell W p u rb (fun e => hp e.symm)).trans h1, h2, h3⟩, h4⟩
theorem RdSt_new {w0 W : World} {rb : Nat} {M : Int} (h : RdSt w0 W rb M) : w0.heap.size ≤ rb := by
 obtain ⟨b, p, ⟨A0, c0, h1, h2, h3⟩, _⟩ := h
 exact h2
theorem newReader_new (A : Option Addr) (c : Nat) (l : List Int) (hb : ∀ x ∈ l, 0 ≤ x ∧ x < 256) (w : World) (hr : (Kd.int .u8).C w A l.length l) (hc : l.length ≤ c) :
  Calls Tryd.prog 21 #[.slice A l.length c] w fun e w' => ∃ rb, e = .returned (.pointer (some ⟨rb, 0, none⟩)) ∧ w.heap.size ≤ rb ∧ RdSt w w' rb 0 ∧ Below w.heap.size w w' := by
 refine (newReader_any A c l hb w hr hc).mono ?_
 rintro e w' ⟨rb, he, hS, hB⟩
 exact ⟨rb, he, RdSt_new hS, hS, hB⟩
theorem results_tmp4 {fn : Func} {t u v x : Tmp} (h : fn.results = #[.tmp t, .tmp u, .tmp v, .tmp x]) (tmps : Array Value) (P : Program) (w : World) :
  (results fn tmps).run P w = .ok (.tuple #[tmps.getD t undef, tmps.getD u undef, tmps.getD v undef, tmps.getD x undef]) w := by
 simp [results, h]
theorem results_tmp5 {fn : Func} {t u v x y : Tmp} (h : fn.results = #[.tmp t, .tmp u, .tmp v, .tmp x, .tmp y]) (tmps : Array Value) (P : Program) (w : World) :
  (results fn tmps).run P w = .ok (.tuple #[tmps.getD t undef, tmps.getD u undef, tmps.getD v undef, tmps.getD x undef, tmps.getD y undef]) w := by
 simp [results, h]
def DrSt (w : World) (e : Ending) (w' : World) : Prop := ∃ rb A1 c1 g A2 c2 rm wk A3 c3 st, e = .returned (.tuple #[.slice A1 g.length c1, .slice A2 rm.length c2, .int .i64 wk, .slice A3 st.length c3]) ∧ StG w' rb A1 g ∧ StI w' rb A2 rm ∧ StI w' rb A3 st ∧ w.heap.size ≤ rb ∧ g.length ≤ 16 ∧ st.length ≤ 8 ∧ (0 ≤ wk ∧ wk ≤ 5) ∧ SOk st ∧ Below w.heap.size w w'
def DrSt5 (lo hi : Int) (w : World) (e : Ending) (w' : World) : Prop := ∃ A1 c1 g A2 c2 rm wk A3 c3 st now, e = .returned (.tuple #[.slice A1 g.length c1, .slice A2 rm.length c2, .int .i64 wk, .slice A3 st.length c3, .int .i64 now]) ∧ kTk.C w' A1 g.length g ∧ (Kd.int .i64).C w' A2 rm.length rm ∧ (Kd.int .i64).C w' A3 st.length st ∧ g.length ≤ 16 ∧ st.length ≤ 8 ∧ (0 ≤ wk ∧ wk ≤ 5) ∧ SOk st ∧ (lo ≤ now ∧ now ≤ hi) ∧ Below w.heap.size w w'
end Go.Proofs.YtkljcdghbefceaaDoor

namespace Go.Proofs.YtkljcdghbefceaaDoor
set_option linter.unusedVariables false
set_option linter.unusedSimpArgs false
open Go.RowKit Go.Shelf Bits
open Go.Proofs.YtkljcdghbefceaaDoorW.PrintWords Go.Proofs.YtkljcdghbefceaaDoorW.PrintLast Go.Proofs.YtkljcdghbefceaaDoorW.PrintMore
open PFnValidLog
theorem someGraph_any (rb : Nat) (M : Int) (hM : M ≤ 700000) (m : Int) (hm : m ≤ 8) (w0 w : World) (hS : RdSt w0 w rb M) (hB : Below w0.heap.size w0 w) :
  Calls Tryd.prog 48 #[.pointer (some ⟨rb, 0, none⟩), .int .i64 m] w fun e w' => ∃ A' c' g, e = .returned (.slice A' g.length c') ∧ g.length ≤ c' ∧ StG w' rb A' g ∧ GOk 16 10 g ∧ RdSt w0 w' rb (M + 300) ∧ Below w0.heap.size w0 w' ∧ KeepBut w w' rb none := by
 have hlt := hS.lt
 obtain ⟨b, p, hI, h1, h2, h3, h4⟩ := hS
 obtain ⟨k0, r, ⟨hp1, hp2, hp3⟩, hk⟩ := someGraph_gets h1 h2 p h3 (by omega) m hm
 refine (spec_someGraph.calls k0 rb b p m r.1 r.2 w0 w hI hB (hk k0 (Nat.le_refl _))).mono ?_
 rintro e w' ⟨v, rfl, hN, hI', hB', hK⟩
 obtain ⟨A', c', rfl⟩ := Kd.S_slice hN
 refine ⟨A', c', r.1, rfl, (Kd.S_reads' hN).2.1, fun W' hW => ?_, GOk_wide hp1 (by omega) (by omega), ⟨b, r.2, hI', h1, h2, hp2, by omega⟩, hB', hK⟩
 exact (Kd.S_reads' (Kd.S_step (Kd.S_bound hN) (fun k hk' hlt => hW.2 k (by have := hk'.2.1; omega) hlt))).2.2
set_option maxRecDepth 100000 in
theorem smallGraph_any (rb : Nat) (M : Int) (hM : M ≤ 400000) (w0 w : World) (hS : RdSt w0 w rb M) (hB : Below w0.heap.size w0 w) :
  Calls Tryd.prog 22 #[.pointer (some ⟨rb, 0, none⟩)] w fun e w' => ∃ A' c' g, e = .returned (.slice A' g.length c') ∧ g.length ≤ c' ∧ StG w' rb A' g ∧ GOk 16 10 g ∧ RdSt w0 w' rb (M + 301) ∧ Below w0.heap.size w0 w' ∧ KeepBut w w' rb none := by
 have HS := Lib.hid hS
 have HB := Lib.hid hB
 clear hS hB
 go_enter Tryd.func22, Tryd.ntmps22
 go_wp2_with (first
  | (go_at_call 27; refine (pick_any rb M _ (by omega) w0 _ HS.out HB.out).mono ?_; rintro e w1 ⟨v1, rfl, hv1, hS1, hB1, hK1⟩; have H1 := Lib.hid (And.intro hS1 (And.intro hB1 hK1)); clear hv1 hS1 hB1 hK1)
  | (go_at_call 47; refine (anyGraph_any rb (M + 1) (by omega) w0 _ H1.out.1 H1.out.2.1).mono ?_; rintro e w2 ⟨A2, c2, g, rfl, hg2, hG2, hok, hS2, hB2, hK2⟩; have H2 := Lib.hid (And.intro hg2 (And.intro hG2 (And.intro hok (And.intro hS2 (And.intro hB2 (keep_trans H1.out.2.2 hK2)))))); clear hg2 hG2 hok hS2 hB2 hK2)
  | (go_at_call 48; refine (someGraph_any rb (M + 1) (by omega) 5 (by omega) w0 _ H1.out.1 H1.out.2.1).mono ?_; rintro e w2 ⟨A2, c2, g, rfl, hg2, hG2, hok, hS2, hB2, hK2⟩; have H2 := Lib.hid (And.intro hg2 (And.intro hG2 (And.intro hok (And.intro hS2 (And.intro hB2 (keep_trans H1.out.2.2 hK2)))))); clear hg2 hG2 hok hS2 hB2 hK2))
 all_goals
  go_ret
  exact ⟨A2, c2, g, rfl, H2.out.1, H2.out.2.1, H2.out.2.2.1, H2.out.2.2.2.1.wide (by omega), H2.out.2.2.2.2⟩
set_option maxRecDepth 100000 in
theorem DrawBestOrder_any (A : Option Addr) (c : Nat) (l : List Int) (hb : ∀ x ∈ l, 0 ≤ x ∧ x < 256) (w : World) (hr : (Kd.int .u8).C w A l.length l) (hc : l.length ≤ c) :
  Calls Tryd.prog 18 #[.slice A l.length c] w fun e w' => ∃ A1 c1 g A2 c2 d wk, e = .returned (.tuple #[.slice A1 g.length c1, .slice A2 d.length c2, .int .i64 wk]) ∧ kTk.C w' A1 g.length g ∧ (Kd.int .i64).C w' A2 d.length d ∧ g.length ≤ 16 ∧ g.length ≤ c1 ∧ (0 ≤ wk ∧ wk ≤ 5) ∧ Below w.heap.size w w' := by
 have HN := Lib.hid (newReader_any A c l hb w hr hc)
 clear hb hr hc
 go_enter Tryd.func18, Tryd.ntmps18
 go_wp2_with (first | (go_at_call 21; refine HN.out.mono ?_; rintro e w1 ⟨rb, rfl, hS1, hB1⟩; have H1 := Lib.hid (And.intro hS1 hB1); clear hS1 hB1) | (go_at_call 22; refine (smallGraph_any rb 0 (by omega) w _ H1.out.1 H1.out.2).mono ?_; rintro e w2 ⟨A2, c2, g, rfl, hg2, hG2, hok, hS2, hB2, hK2⟩; have H2 := Lib.hid (And.intro hG2 (And.intro hok (And.intro hS2 hB2))); clear hG2 hok hS2 hB2 hK2) | (go_at_call 23; refine (someRoom_any rb _ (by omega) w _ H2.out.2.2.1 H2.out.2.2.2).mono ?_; rintro e w3 ⟨A3, c3, d, rfl, hd3, hI3, hl3, hS3, hB3, hK3⟩; have H3 := Lib.hid (And.intro (H2.out.1.keep hK3) (And.intro hI3 (And.intro hS3 hB3))); clear hI3 hS3 hB3 hK3) | (go_at_call 24; refine (someWorkers_any rb _ (by omega) w _ H3.out.2.2.1 H3.out.2.2.2).mono ?_; rintro e w4 ⟨wk, rfl, hwk, hS4, hB4, hK4⟩; have H4 := Lib.hid (And.intro (H3.out.1.keep hK4) (And.intro (H3.out.2.1.keep hK4) hB4)); clear hS4 hB4 hK4))
 go_ret3
 exact ⟨_, _, g, _, _, d, wk, rfl, H4.out.1.now, H4.out.2.1.now, H2.out.2.1.1, hg2, hwk, H4.out.2.2⟩
theorem R_rd {W W' : World} {rb base : Nat} {v : Value} {l : List Int} (h : Kd.R (Kd.int .i64) 3 W base (fun _ => True) v l) (hrb : rb < base) (hk : KeepBut W W' rb none) : Kd.R (Kd.int .i64) 3 W' base (fun _ => True) v l := Kd.R_mono (Kd.R_keep (Kd.R_mono (Kd.R_bound h) (fun q hq => by have := hq.2.1; omega)) hk (fun q hq => hq)) (fun _ _ => trivial)
theorem RdSt.low {w0 W W' : World} {rb B : Nat} {M : Int} (h : RdSt w0 W rb M) (hb : Below B W W') (hB : rb < B) : RdSt w0 W' rb M := by
 obtain ⟨b, q, ⟨A0, c0, h1, h2, h3⟩, h4⟩ := h
 exact ⟨b, q, ⟨A0, c0, (hb.block rb hB).trans h1, h2, h3⟩, h4⟩
theorem KeepUp.low {W W1 W2 : World} {rb B : Nat} (h : KeepUp W W1 rb) (hb : Below B W1 W2) (hB : W.heap.size ≤ B) : KeepUp W W2 rb := ⟨Nat.le_trans h.1 hb.size, fun k hk hl => (hb.block k (by omega)).trans (h.2 k hk hl)⟩
theorem below_low {B B' : Nat} {W W' : World} (h : Below B W W') (hB : B' ≤ B) : Below B' W W' := ⟨h.os, h.tape, h.output, h.size, fun k hk => h.block k (by omega)⟩
def DrOr (w : World) (e : Ending) (w' : World) : Prop := ∃ A1 c1 g A2 c2 rm wk A3 c3 st, e = .returned (.tuple #[.slice A1 g.length c1, .slice A2 rm.length c2, .int .i64 wk, .slice A3 st.length c3]) ∧ kTk.C w' A1 g.length g ∧ (Kd.int .i64).C w' A2 rm.length rm ∧ (Kd.int .i64).C w' A3 st.length st ∧ st.length ≤ c3 ∧ g.length ≤ 16 ∧ (0 ≤ wk ∧ wk ≤ 5) ∧ Below w.heap.size w w'
set_option maxRecDepth 1000000 in
set_option maxHeartbeats 8000000 in
theorem DrawOrderStarts_any (A : Option Addr) (c : Nat) (l : List Int) (hb : ∀ x ∈ l, 0 ≤ x ∧ x < 256) (w : World) (hr : (Kd.int .u8).C w A l.length l) (hc : l.length ≤ c) :
  Calls Tryd.prog 8 #[.slice A l.length c] w (DrOr w) := by
 have HN := Lib.hid (newReader_new A c l hb w hr hc)
 clear hb hr hc
 go_enter Tryd.func8, Tryd.ntmps8
 go_wp2_with (first | (go_at_call 21; refine HN.out.mono ?_; rintro e w1 ⟨rb, rfl, hrb, hS1, hB1⟩; have H1 := Lib.hid (And.intro hS1 hB1); clear hS1 hB1) | (go_at_call 22; refine (smallGraph_any rb 0 (by omega) w _ H1.out.1 H1.out.2).mono ?_; rintro e w2 ⟨A2, c2, g, rfl, hg2, hG2, hok, hS2, hB2, hK2⟩; have H2 := Lib.hid (And.intro hG2 (And.intro hok (And.intro hS2 hB2))); clear hG2 hok hS2 hB2 hK2) | (go_at_call 23; refine (someRoom_any rb _ (by omega) w _ H2.out.2.2.1 H2.out.2.2.2).mono ?_; rintro e w3 ⟨A3, c3, rm, rfl, hd3, hI3, hl3, hS3, hB3, hK3⟩; have H3 := Lib.hid (And.intro (H2.out.1.keep hK3) (And.intro hI3 (And.intro hS3 hB3))); clear hI3 hS3 hB3 hK3) | (go_at_call 24; refine (someWorkers_any rb _ (by omega) w _ H3.out.2.2.1 H3.out.2.2.2).mono ?_; rintro e w4 ⟨wk, rfl, hwk, hS4, hB4, hK4⟩; have H4 := Lib.hid (And.intro (H3.out.1.keep hK4) (And.intro (H3.out.2.1.keep hK4) (And.intro hS4 hB4))); clear hS4 hB4 hK4))
 have hg16 := H2.out.2.1.1
 have hrb4 := H4.out.2.2.1.lt
 have hB5 : Below w4.heap.size w4 (w4.alloc (.cells #[] 3)) := (Below.refl _ _).alloc (Nat.le_refl _) _
 have hO5 : Kd.R (Kd.int .i64) 3 (w4.alloc (.cells #[] 3)) w4.heap.size (fun _ => True) (.slice (some ⟨w4.heap.size, 0, none⟩) ([] : List Int).length 0) [] := Kd.R_of_own (World.ownsRow_lit (base := w4.heap.size) (size := 1) w4 #[] 0 (Nat.le_refl _) (by simp [maxLen]) rfl) (fun _ _ => trivial)
 have h05 := H4.out.2.2.2.size
 have HI5 : Hid (Kd.R (Kd.int .i64) 3 (w4.alloc (.cells #[] 3)) w4.heap.size (fun _ => True) (.slice (some ⟨w4.heap.size, 0, none⟩) ([] : List Int).length 0) [] ∧ RdSt w (w4.alloc (.cells #[] 3)) rb (310 + 0) ∧ Below w.heap.size w (w4.alloc (.cells #[] 3)) ∧ KeepUp w4 (w4.alloc (.cells #[] 3)) rb) := Lib.hid ⟨hO5, (H4.out.2.2.1.below hB5).wide (by omega), H4.out.2.2.2.trans (hB5.mono h05), (KeepUp.refl _ _).low hB5 (Nat.le_refl _)⟩
 clear hO5 hB5
 go_loopw [10] (fun out wr => ∃ (AL : Option Addr) (cL : Nat) (L : List Int), out = .slice AL L.length cL ∧ L.length ≤ g.length ∧ Hid (Kd.R (Kd.int .i64) 3 wr w4.heap.size (fun _ => True) (.slice AL L.length cL) L ∧ RdSt w wr rb (310 + L.length) ∧ Below w.heap.size w wr ∧ KeepUp w4 wr rb)) (fun out _ => g.length - lenOf out)
 case atStart => exact ⟨_, 0, [], rfl, Nat.zero_le _, HI5⟩
 case round =>
  clear HI5
  obtain ⟨AL, cL, L, rfl, hLg, HI⟩ := hrel
  by_cases hll : L.length < g.length
  ·
   have d1 : decide ((L.length : Int) < (g.length : Int)) = true := decide_eq_true (by omega)
   obtain ⟨wo, rfl⟩ : ∃ wo : World, wo = wr := ⟨_, rfl⟩
   have ho4 : w4.heap.size ≤ wo.heap.size := HI.out.2.2.2.1
   have hBc : Below wo.heap.size wo (wo.alloc (.cells #[] 3)) := (Below.refl _ _).alloc (Nat.le_refl _) _
   have hOc : Kd.R (Kd.int .i64) 3 (wo.alloc (.cells #[] 3)) wo.heap.size (fun _ => True) (.slice (some ⟨wo.heap.size, 0, none⟩) 0 0) (ints []) := Kd.R_of_own (World.ownsRow_lit (base := wo.heap.size) (size := 1) wo #[] 0 (Nat.le_refl _) (by simp [maxLen]) rfl) (fun _ _ => trivial)
   have HLC : Hid (∀ W, Below wo.heap.size wo W → (Kd.int .i64).C W AL L.length L ∧ kTk.C W A2 g.length g) := Lib.hid (fun W hW => by
    obtain ⟨A', c', e', _, hC⟩ := Kd.R_reads HI.out.1
    cases e'
    exact ⟨Kd.C_below hC hW, H4.out.1 W (HI.out.2.2.2.low hW ho4)⟩)
   go_wp2
   go_loopw [11, 12] (fun can i wr => ∃ (j : Nat) (fl : List Nat), j ≤ g.length ∧ i = .int .i64 (j : Nat) ∧ fl.length ≤ j ∧ Kd.R (Kd.int .i64) 3 wr wo.heap.size (fun _ => True) can (ints fl) ∧ Below wo.heap.size wo wr) (fun _ i _ => g.length - (intOf i).toNat)
   case atStart => exact ⟨0, [], Nat.zero_le _, rfl, Nat.le_refl _, hOc, hBc⟩
   case round =>
    clear hOc hBc
    obtain ⟨j, fl, hj, rfl, hfl, hO, hB⟩ := hrel
    by_cases hjl : j < g.length
    ·
     obtain ⟨hLC, hGC⟩ := HLC.out _ hB
     obtain ⟨ad, A1, c1, rfl, hc0, hc1, hc2, hc3, hl1, hC1⟩ := at_Tk hGC j hjl
     have HD' := Lib.hid hLC
     have hjj : decide ((j : Int) < (g.length : Int)) = true := decide_eq_true (by omega)
     have hfl8 : (ints fl).length < 1000000 := by rw [ints_length]; omega
     have HFA : Hid (ints (fl ++ [j]) = ints fl ++ [(j : Int)]) := Lib.hid (by simp [ints])
     have hfs : (fl ++ [j]).length ≤ j + 1 := by simp; omega
     clear hLC hGC
     cases hm : decide ((j : Int) ∈ L)
     ·
      have HM := Lib.hid hm
      cases hd : allDoneB (rdTk g j).f1 L
      ·
       have HD := Lib.hid hd
       clear hm hd
       generalize rdTk g j = t at *
       go_wp2_with (first | (go_at_call 25; with_reducible refine (isIn_is _ _ _ _ _ HM _ HD'.out).mono ?_; rintro e w' ⟨rfl, rfl⟩) | (go_at_call 26; refine (allDone_is _ _ _ _ _ _ _ HD _ hC1 HD'.out).mono ?_; rintro e w' ⟨rfl, rfl⟩))
       go_roundw
       case rel => exact ⟨j + 1, fl, by omega, by go_num, by omega, hO, hB⟩
       case measure => simp [intOf]; omega
      ·
       have HD := Lib.hid hd
       clear hm hd
       generalize rdTk g j = t at *
       go_wp2_with (first | (go_at_call 25; with_reducible refine (isIn_is _ _ _ _ _ HM _ HD'.out).mono ?_; rintro e w' ⟨rfl, rfl⟩) | (go_at_call 26; refine (allDone_is _ _ _ _ _ _ _ HD _ hC1 HD'.out).mono ?_; rintro e w' ⟨rfl, rfl⟩) | (at_builtin; refine ap_int (w0 := wo) wo.heap.size rfl _ _ rfl u11 (ints fl) (j : Int) rfl rfl rfl hO hB hB.size hfl8 ?_; intro v1 w2 hO2 hB2 hg2 hat2; clear hg2 hat2))
       go_roundw
       case rel => exact ⟨j + 1, fl ++ [j], by omega, by go_num, hfs, by rw [HFA.out]; exact hO2, hB2⟩
       case measure => simp [intOf]; omega
     ·
      have HM := Lib.hid hm
      clear hm
      go_wp2_with (first | (go_at_call 25; with_reducible refine (isIn_is _ _ _ _ _ HM _ HD'.out).mono ?_; rintro e w' ⟨rfl, rfl⟩))
      go_roundw
      case rel => exact ⟨j + 1, fl, by omega, by go_num, by omega, hO, hB⟩
      case measure => simp [intOf]; omega
    ·
     obtain rfl : j = g.length := by omega
     have hjj : decide ((g.length : Int) < (g.length : Int)) = false := decide_eq_false (by omega)
     have hrbo : rb < wo.heap.size := by omega
     obtain ⟨Ac, cc, rfl, hcc, hSt⟩ := stI_of_R (rb := rb) hO hrbo
     have hR1 : Kd.R (Kd.int .i64) 3 wr w4.heap.size (fun _ => True) (.slice AL L.length cL) L := Kd.R_step HI.out.1 (fun k _ hlt => hB.block k hlt)
     have hku := HI.out.2.2.2.low hB ho4
     have hwo := HI.out.2.2.1.size
     have hBw := HI.out.2.2.1.trans (hB.mono hwo)
     have HY := Lib.hid (And.intro hR1 (And.intro (HI.out.2.1.low hB hrbo) (And.intro hBw (And.intro hku hSt))))
     have hfl16 := hfl
     cases fl with
     | nil =>
      have dl : (((ints ([] : List Nat)).length : Int) == 0) = true := rfl
      obtain ⟨A', c', e', hcL, hStL⟩ := stI_of_R (rb := rb) HY.out.1 hrb4
      cases e'
      have HX := Lib.hid (And.intro hStL (And.intro HY.out.2.1 (And.intro HY.out.2.2.1 HY.out.2.2.2.1)))
      clear hO hB hSt hR1 hku hBw hStL
      go_wp2_with (go_at_call 28; refine (spoil_any rb (310 + 16) AL cL L 5 (by omega) (by omega) w _ (HX.out.2.1.wide (by omega)) HX.out.2.2.1 HX.out.1.now hcL HX.out.1.ne).mono ?_; rintro e w8 ⟨A8, c8, l8, rfl, hl8, hI8, hl8', hS8, hB8, hK8⟩; have H8 := Lib.hid (And.intro hI8 (And.intro hB8 (HX.out.2.2.2.trans (KeepUp.of hK8 (Nat.le_refl _))))); clear hI8 hS8 hB8 hK8)
      (try simp only [Exit.inBlock, Exit.then])
      refine bodyPost_ret (results_tmp4 rfl _ _ _) rfl ?_
      exact ⟨A2, c2, g, A3, c3, rm, wk, A8, c8, l8, rfl, H4.out.1 _ H8.out.2.2, H4.out.2.1.st _ H8.out.2.2, H8.out.1.now, hl8, hg16, hwk, H8.out.2.1⟩
     | cons y fl =>
      have hpos : 0 < (ints (y :: fl)).length := by rw [ints_length]; simp
      have dl : (((ints (y :: fl)).length : Int) == 0) = false := by rw [beq_eq_false_iff_ne]; omega
      generalize ints (y :: fl) = F at HY hpos dl hcc hSt hO
      clear hO hB hSt hR1 hku hBw hfl hfl16
      go_wp2_with (first
       | (go_at_call 27; refine (pick_any rb _ _ (by omega) w _ HY.out.2.1 HY.out.2.2.1).mono ?_; rintro e w5 ⟨v5, rfl, hv5, hS5, hB5, hK5⟩; obtain ⟨m, rfl⟩ := Int.eq_ofNat_of_zero_le hv5.1; have hml : m < F.length := (by have := hv5.2 (by omega); omega); obtain ⟨ad5, e5, cx5⟩ := at_num (HY.out.2.2.2.2.keep hK5).now m hml; cases e5; generalize F.getD m 0 = x at cx5; have hmi : (m : Int) < (F.length : Int) := (by omega); have hk5 := HY.out.2.2.2.1.trans (KeepUp.of hK5 (Nat.le_refl _)); have H5 := Lib.hid (And.intro (R_rd HY.out.1 hrb4 hK5) (And.intro hS5 (And.intro hB5 hk5))); clear hv5 hS5 hB5 hK5 hk5)
       | (at_builtin; refine ap_int (w0 := w5) w4.heap.size rfl _ _ rfl (.slice AL L.length cL) L x rfl rfl rfl H5.out.1 (Below.refl _ _) H5.out.2.2.2.1 (by omega) ?_; intro v1 w6 hO6 hB6 hg6 hat6; obtain ⟨A6, c6, rfl, _, _⟩ := Kd.R_reads hO6; have H6 := Lib.hid (And.intro hO6 (And.intro (H5.out.2.1.low hB6 hrb4) (And.intro (H5.out.2.2.1.trans (hB6.mono h05)) (H5.out.2.2.2.low hB6 (Nat.le_refl _))))); clear hg6 hat6 hO6 hB6))
      have hln : (L ++ [x]).length = L.length + 1 := by simp
      refine ⟨⟨A6, c6, L ++ [x], by rw [hln], by omega, Lib.hid ⟨H6.out.1, H6.out.2.1.wide (by omega), H6.out.2.2.1, H6.out.2.2.2⟩⟩, by simp [lenOf]; omega⟩
  ·
   have d1 : decide ((L.length : Int) < (g.length : Int)) = false := decide_eq_false (by omega)
   obtain ⟨A', c', e', hcL, hStL⟩ := stI_of_R (rb := rb) HI.out.1 hrb4
   cases e'
   have HX := Lib.hid (And.intro hStL HI.out.2)
   clear hStL
   go_wp2_with (go_at_call 28; refine (spoil_any rb (310 + 16) AL cL L 5 (by omega) (by omega) w _ (HX.out.2.1.wide (by omega)) HX.out.2.2.1 HX.out.1.now hcL HX.out.1.ne).mono ?_; rintro e w8 ⟨A8, c8, l8, rfl, hl8, hI8, hl8', hS8, hB8, hK8⟩; have H8 := Lib.hid (And.intro hI8 (And.intro hB8 (HX.out.2.2.2.trans (KeepUp.of hK8 (Nat.le_refl _))))); clear hI8 hS8 hB8 hK8)
   (try simp only [Exit.inBlock, Exit.then])
   refine bodyPost_ret (results_tmp4 rfl _ _ _) rfl ?_
   exact ⟨A2, c2, g, A3, c3, rm, wk, A8, c8, l8, rfl, H4.out.1 _ H8.out.2.2, H4.out.2.1.st _ H8.out.2.2, H8.out.1.now, hl8, hg16, hwk, H8.out.2.1⟩
end Go.Proofs.YtkljcdghbefceaaDoor

namespace Go.Proofs.YtkljcdghbefceaaDoor
set_option linter.unusedVariables false
set_option linter.unusedSimpArgs false
open Go.RowKit Go.Shelf Bits
open Go.Proofs.YtkljcdghbefceaaDoorW.PrintWords Go.Proofs.YtkljcdghbefceaaDoorW.PrintLast Go.Proofs.YtkljcdghbefceaaDoorW.PrintMore
attribute [local go_sem] Oper.semAt_some
def cmpI (x y : Int) : Int := if x < y then -1 else if y < x then 1 else 0
def cmpE (a b : Ev) : Int := if a.f0 = b.f0 ∧ a.f2 ≠ b.f2 then (if a.f2 then -1 else 1) else if cmpI a.f0 b.f0 ≠ 0 then cmpI a.f0 b.f0 else cmpI a.f1 b.f1
theorem cmpI_neg {x y : Int} : cmpI x y < 0 ↔ x < y := by
 unfold cmpI
 split
 ·
  simp_all
 ·
  split <;> simp_all
theorem cmpI_zero {x y : Int} : cmpI x y = 0 ↔ x = y := by
 unfold cmpI
 split
 ·
  rename_i h
  constructor
  ·
   intro e; exact absurd e (by decide)
  ·
   intro e; omega
 ·
  rename_i h
  split
  ·
   rename_i h2
   constructor
   ·
    intro e; exact absurd e (by decide)
   ·
    intro e; omega
  ·
   rename_i h2
   exact ⟨fun _ => by omega, fun _ => rfl⟩
theorem cmpE_lt (a b : Ev) : cmpE a b < 0 ↔ ltE a b := by
 unfold cmpE ltE
 by_cases h0 : a.f0 = b.f0
 ·
  by_cases h2 : a.f2 = b.f2
  ·
   rw [if_neg (fun h => h.2 h2), if_neg (by rw [cmpI_zero.2 h0]; simp), cmpI_neg]
   constructor
   ·
    intro h
    exact .inr ⟨h0, .inr ⟨h2, h⟩⟩
   ·
    rintro (h | ⟨_, ⟨h, k⟩ | ⟨_, h⟩⟩)
    ·
     omega
    ·
     rw [h, k] at h2; cases h2
    ·
     exact h
  ·
   rw [if_pos ⟨h0, h2⟩]
   cases ha : a.f2
   ·
    simp only [Bool.false_eq_true, if_false]
    constructor
    ·
     intro h; exact absurd h (by decide)
    ·
     rintro (h | ⟨_, ⟨h, _⟩ | ⟨h, _⟩⟩)
     ·
      omega
     ·
      cases h
     ·
      rw [ha] at h2; exact absurd h h2
   ·
    have hb : b.f2 = false := by
     cases hb : b.f2
     ·
      rfl
     ·
      rw [ha, hb] at h2; exact absurd rfl h2
    simp only [if_true]
    exact ⟨fun _ => .inr ⟨h0, .inl ⟨by first | rfl | trivial | exact ha, hb⟩⟩, fun _ => by decide⟩
 ·
  rw [if_neg (fun h => h0 h.1), if_pos (fun h => h0 (cmpI_zero.1 h)), cmpI_neg]
  constructor
  ·
   exact .inl
  ·
   rintro (h | ⟨h, _⟩)
   ·
    exact h
   ·
    exact absurd h h0
theorem isNaN_calls (x : Int) (w : World) : Calls Tryd.prog 92 #[.int .i64 x] w fun e w' => e = .returned (.bool false) ∧ w' = w := by
 go_enter Tryd.func92, Tryd.ntmps92
 go_wp2
 go_ret
 exact ⟨ret_bool (by simp), rfl⟩
theorem compare_calls (x y : Int) (w : World) : Calls Tryd.prog 84 #[.int .i64 x, .int .i64 y] w fun e w' => e = .returned (.int .i64 (cmpI x y)) ∧ w' = w := by
 by_cases h1 : x < y
 ·
  have d1 : decide (x < y) = true := decide_eq_true h1
  have HF : Hid (cmpI x y = -1) := Lib.hid (by unfold cmpI; rw [if_pos h1])
  clear h1
  go_enter Tryd.func84, Tryd.ntmps84
  go_wp2_with (go_at_call 92; refine (isNaN_calls _ _).mono ?_; rintro e w' ⟨rfl, rfl⟩)
  go_ret
  exact ⟨ret_int HF.out.symm, rfl⟩
 ·
  have d1 : decide (x < y) = false := decide_eq_false h1
  by_cases h2 : y < x
  ·
   have d2 : decide (y < x) = true := decide_eq_true h2
   have HF : Hid (cmpI x y = 1) := Lib.hid (by unfold cmpI; rw [if_neg h1, if_pos h2])
   clear h1 h2
   go_enter Tryd.func84, Tryd.ntmps84
   go_wp2_with (go_at_call 92; refine (isNaN_calls _ _).mono ?_; rintro e w' ⟨rfl, rfl⟩)
   go_ret
   exact ⟨ret_int HF.out.symm, rfl⟩
  ·
   have d2 : decide (y < x) = false := decide_eq_false h2
   have HF : Hid (cmpI x y = 0) := Lib.hid (by unfold cmpI; rw [if_neg h1, if_neg h2])
   clear h1 h2
   go_enter Tryd.func84, Tryd.ntmps84
   go_wp2_with (go_at_call 92; refine (isNaN_calls _ _).mono ?_; rintro e w' ⟨rfl, rfl⟩)
   go_ret
   exact ⟨ret_int HF.out.symm, rfl⟩
theorem or_calls (A : Option Addr) (c : Nat) (a b r : Int) (HR : Hid ((if a ≠ 0 then a else b) = r)) (w : World) (hr : (Kd.int .i64).C w A 2 [a, b]) : Calls Tryd.prog 83 #[.slice A 2 c] w fun e w' => e = .returned (.int .i64 r) ∧ w' = w := by
 obtain ⟨ad, rfl, c0⟩ := at_num hr 0 (by omega)
 obtain ⟨ad', e', c1⟩ := at_num hr 1 (by omega)
 cases e'
 replace c0 : w.cell? (ad.add 0) = some (.int .i64 a) := c0
 rw [show ad.add 0 = ad from by cases ad; rfl] at c0
 replace c1 : w.cell? (ad.add 1) = some (.int .i64 b) := c1
 have c1 : w.cell? ⟨ad.block, ad.off + 1, none⟩ = some (.int .i64 b) := by simpa [Addr.add] using c1
 clear hr
 go_enter Tryd.func83, Tryd.ntmps83
 go_wp2
 go_loop [8] (fun i => ∃ (j : Nat), j ≤ 2 ∧ i = .int .i64 j ∧ Hid ((1 ≤ j → a = 0) ∧ (2 ≤ j → b = 0))) (fun i => 2 - (intOf i).toNat)
 case atStart => exact ⟨0, by omega, rfl, Lib.hid ⟨fun h => by omega, fun h => by omega⟩⟩
 case round =>
  obtain ⟨j, hj, rfl, HS⟩ := hrel
  by_cases h0 : j = 0
  ·
   subst h0
   by_cases ha : a = 0
   ·
    have da : (a != 0) = false := by rw [bne_eq_false_iff_eq]; exact ha
    have HA := Lib.hid ha
    clear ha
    go_wp2
    go_round
    case rel => exact ⟨1, by omega, rfl, Lib.hid ⟨fun _ => HA.out, fun h => by omega⟩⟩
    case measure => simp [intOf]
   ·
    have da : (a != 0) = true := by rw [bne_iff_ne]; exact ha
    have HF : Hid (r = a) := Lib.hid (by rw [← HR.out]; exact if_pos ha)
    clear ha
    go_wp2
    go_ret
    exact ⟨ret_int HF.out.symm, rfl⟩
  ·
   by_cases h1 : j = 1
   ·
    subst h1
    have HA := Lib.hid (HS.out.1 (Nat.le_refl _))
    by_cases hb : b = 0
    ·
     have da : (b != 0) = false := by rw [bne_eq_false_iff_eq]; exact hb
     have HB := Lib.hid hb
     clear hb h0
     go_wp2
     go_round
     case rel => exact ⟨2, by omega, rfl, Lib.hid ⟨fun _ => HA.out, fun _ => HB.out⟩⟩
     case measure => simp [intOf]
    ·
     have da : (b != 0) = true := by rw [bne_iff_ne]; exact hb
     have HF : Hid (r = b) := Lib.hid (by rw [← HR.out]; exact if_neg (fun h => h HA.out))
     clear hb h0
     go_wp2
     go_ret
     exact ⟨ret_int HF.out.symm, rfl⟩
   ·
    obtain rfl : j = 2 := by omega
    have HF : Hid (r = 0) := Lib.hid (by rw [← HR.out, HS.out.2 (Nat.le_refl _), HS.out.1 (by omega)]; rfl)
    clear h0 h1
    go_wp2
    go_ret
    exact ⟨ret_int HF.out.symm, rfl⟩
end Go.Proofs.YtkljcdghbefceaaDoor
