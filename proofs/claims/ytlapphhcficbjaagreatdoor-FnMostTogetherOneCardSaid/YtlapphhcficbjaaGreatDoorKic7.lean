/- Parts of the proof, laid as one text by a program of mine. -/
import Derived.Test.YtlapphhcficbjaaGreatDoorKic4
import Derived.Test.YtlapphhcficbjaaGreatDoorKic6
import Derived.Test.YtlapphhcficbjaaGreatDoorKic2
import Derived.StillTailTactics
import Derived.OrdersIn
namespace Go.Proofs.YtlapphhcficbjaaGreatDoor.PFnValidLog
set_option linter.unusedVariables false
set_option linter.unusedSimpArgs false
open Go Go.RowKit
open Go.Proofs.YtlapphhcficbjaaGreatDoorW.PrintWords Go.Proofs.YtlapphhcficbjaaGreatDoorW.PrintLast Go.Proofs.YtlapphhcficbjaaGreatDoorW.PrintMore
theorem GOk_set {m n : Nat} {g : List S41} {t : S41} (h : GOk m n g) (i : Nat) (ht : t.f1.length ≤ n) : GOk m n (g.set i t) := by
 refine ⟨by rw [List.length_set]; exact h.1, fun x hx => ?_⟩
 rcases List.mem_or_eq_of_mem_set hx with hx | rfl
 ·
  exact h.2 x hx
 ·
  exact ht
theorem GOk_wide {m n m' n' : Nat} {g : List S41} (h : GOk m n g) (hm : m ≤ m') (hn : n ≤ n') : GOk m' n' g := ⟨Nat.le_trans h.1 hm, fun t ht => Nat.le_trans (h.2 t ht) hn⟩
section
variable {b : List Int} (hb : ∀ x ∈ b, 0 ≤ x ∧ x < 256) (hl : b.length ≤ 2000)
include hb hl
theorem anyGraph_gets (p : Int) (h0 : 0 ≤ p) (h1 : p ≤ 500000) : Gets (fun k => spec_anyGraph.f k b p) (fun r => GOk 16 10 r.1 ∧ 0 ≤ r.2 ∧ r.2 ≤ p + 300) := by
 unfold spec_anyGraph.f
 refine Gets.bind (someGraph_gets hb hl p h0 (by omega) 8 (by omega)) fun x hx => ?_
 obtain ⟨hg, x0, x1⟩ := hx
 have hgw := GOk_wide (m' := 16) (n' := 10) hg (by omega) (by omega)
 have hlen := hg.1
 refine Gets.ite (fun _ => Gets.ret ⟨hgw, x0, by omega⟩) (fun hne => ?_)
 refine Gets.bind (pick_gets hb hl x0 (by omega)) fun i hi => ?_
 obtain ⟨i1, i2, i3, i4⟩ := hi
 have i5 := i2 (by omega)
 have hmem := hg.2 _ (rdT_mem i1 i5)
 rw [i4]
 refine Gets.bind (pick_gets hb hl (by omega) (by omega)) fun q hq => ?_
 obtain ⟨q1, q2, q3, q4⟩ := hq
 rw [q4]
 refine Gets.ite (fun _ => ?_) (fun _ => Gets.ite (fun _ => ?_) (fun _ => Gets.ite (fun _ => ?_) (fun _ => Gets.ite (fun _ => ?_) (fun _ => Gets.ite (fun _ => ?_) (fun _ => Gets.ret ⟨hgw, by show 0 ≤ x.2 + 1 + 1; omega, by show x.2 + 1 + 1 ≤ p + 300; omega⟩)))))
 ·
  refine Gets.bind (one_gets hb hl (by omega) (by omega) (by simp)) fun t ht => ?_
  exact Gets.pos i1 (Gets.pos i5 (Gets.ret ⟨GOk_set hgw _ (by show (rd_T41 x.1 i.1).f1.length ≤ 10; omega), by show 0 ≤ t.2; omega, by show t.2 ≤ p + 300; omega⟩))
 ·
  refine Gets.bind (pick_gets hb hl (by omega) (by omega)) fun t ht => ?_
  obtain ⟨t1, t2, t3, t4⟩ := ht
  refine Gets.pos i1 (Gets.pos i5 (Gets.pos (by omega) ?_))
  rw [t4]
  refine Gets.bind (spoil_gets hb hl _ (by omega) (by omega) _ (by simp; omega) _) fun s hs => ?_
  obtain ⟨s1, s2, s3⟩ := hs
  exact Gets.ret ⟨GOk_set hgw _ (by show s.1.length ≤ 10; simp at s1; omega), by show 0 ≤ s.2; omega, by show s.2 ≤ p + 300; omega⟩
 ·
  refine Gets.bind (one_gets hb hl (by omega) (by omega) (by simp)) fun t ht => ?_
  exact Gets.pos i1 (Gets.pos i5 (Gets.ret ⟨GOk_set hgw _ (by show (rd_T41 x.1 i.1).f1.length ≤ 10; omega), by show 0 ≤ t.2; omega, by show t.2 ≤ p + 300; omega⟩))
 ·
  refine Gets.bind (one_gets hb hl (by omega) (by omega) (by simp)) fun t ht => ?_
  exact Gets.pos i1 (Gets.pos i5 (Gets.ret ⟨GOk_set hgw _ (by show (rd_T41 x.1 i.1).f1.length ≤ 10; omega), by show 0 ≤ t.2; omega, by show t.2 ≤ p + 300; omega⟩))
 ·
  refine Gets.bind (someGraph_gets hb hl _ (by omega) (by omega) 8 (by omega)) fun t ht => ?_
  obtain ⟨tg, t0, t1⟩ := ht
  have tl := tg.1
  refine Gets.pos (by omega) (Gets.ret ⟨⟨?_, fun y hy => ?_⟩, t0, by show t.2 ≤ p + 300; omega⟩)
  ·
   show (x.1 ++ t.1).length ≤ 16
   simp; omega
  ·
   rcases List.mem_append.1 hy with hy | hy
   ·
    exact hgw.2 y hy
   ·
    exact Nat.le_trans (tg.2 y hy) (by omega)
end
theorem newReader_some (l : List Int) : ∃ r, spec_newReader.f l = some (r, 0) ∧ r.length ≤ 2000 ∧ ∀ x ∈ r, x ∈ l := by
 unfold spec_newReader.f
 by_cases h : (l.length : Int) > 2000
 ·
  rw [if_pos h, if_pos (by omega)]
  exact ⟨_, rfl, by rw [List.length_take]; omega, fun x hx => List.mem_of_mem_take hx⟩
 ·
  rw [if_neg h]
  exact ⟨l, rfl, by omega, fun x hx => hx⟩
end Go.Proofs.YtlapphhcficbjaaGreatDoor.PFnValidLog

namespace Go.Proofs.YtlapphhcficbjaaGreatDoor
set_option linter.unusedVariables false
set_option linter.unusedSimpArgs false
open Go Go.RowKit Go.Shelf
open Go.Proofs.YtlapphhcficbjaaGreatDoorW.PrintWords Go.Proofs.YtlapphhcficbjaaGreatDoorW.PrintLast Go.Proofs.YtlapphhcficbjaaGreatDoorW.PrintMore
open PFnValidLog
def RdSt (w0 W : World) (rb : Nat) (M : Int) : Prop := ∃ b p, IsS71 w0 W rb b p ∧ (∀ x ∈ b, 0 ≤ x ∧ x < 256) ∧ b.length ≤ 2000 ∧ 0 ≤ p ∧ p ≤ M
theorem RdSt.lt {w0 W : World} {rb : Nat} {M : Int} (h : RdSt w0 W rb M) : rb < W.heap.size := by
 obtain ⟨b, p, hI, _⟩ := h
 exact hI.lt
theorem RdSt.wide {w0 W : World} {rb : Nat} {M M' : Int} (h : RdSt w0 W rb M) (hM : M ≤ M') : RdSt w0 W rb M' := by
 obtain ⟨b, p, hI, h1, h2, h3, h4⟩ := h
 exact ⟨b, p, hI, h1, h2, h3, by omega⟩
theorem RdSt.below {w0 W W' : World} {rb : Nat} {M : Int} (h : RdSt w0 W rb M) (hb : Below W.heap.size W W') : RdSt w0 W' rb M := by
 obtain ⟨b, p, hI, h1⟩ := h
 exact ⟨b, p, hI.below hb, h1⟩
def KeepUp (W W' : World) (rb : Nat) : Prop := W.heap.size ≤ W'.heap.size ∧ ∀ k, rb < k → k < W.heap.size → W'.heap[k]? = W.heap[k]?
theorem KeepUp.refl (W : World) (rb : Nat) : KeepUp W W rb := ⟨Nat.le_refl _, fun _ _ _ => rfl⟩
theorem KeepUp.of {W W' : World} {r rb : Nat} (h : KeepBut W W' r none) (hr : r ≤ rb) : KeepUp W W' rb := ⟨h.1, fun k hk hl => h.2 k hl (by omega) (by simp)⟩
theorem KeepUp.trans {W W1 W2 : World} {rb : Nat} (h : KeepUp W W1 rb) (k : KeepUp W1 W2 rb) : KeepUp W W2 rb := ⟨Nat.le_trans h.1 k.1, fun i hi hl => (k.2 i hi (Nat.lt_of_lt_of_le hl h.1)).trans (h.2 i hi hl)⟩
structure StI (W : World) (rb : Nat) (A : Option Addr) (l : List Int) : Prop where
 st : ∀ W', KeepUp W W' rb → (Kd.int .i64).C W' A l.length l
 ne : ∀ ad, A = some ad → 0 < l.length → ad.block ≠ rb
def StG (W : World) (rb : Nat) (A : Option Addr) (g : List Tk) : Prop := ∀ W', KeepUp W W' rb → kTk.C W' A g.length g
theorem keep_trans {w w1 w2 : World} {rb : Nat} (h : KeepBut w w1 rb none) (k : KeepBut w1 w2 rb none) : KeepBut w w2 rb none := h.trans k (.inl rfl)
theorem StI.keep {W W1 : World} {rb : Nat} {A : Option Addr} {l : List Int} (h : StI W rb A l) (hk : KeepBut W W1 rb none) : StI W1 rb A l := ⟨fun W' h' => h.st W' ((KeepUp.of hk (Nat.le_refl _)).trans h'), h.ne⟩
theorem StG.keep {W W1 : World} {rb : Nat} {A : Option Addr} {g : List Tk} (h : StG W rb A g) (hk : KeepBut W W1 rb none) : StG W1 rb A g := fun W' h' => h W' ((KeepUp.of hk (Nat.le_refl _)).trans h')
theorem StI.now {W : World} {rb : Nat} {A : Option Addr} {l : List Int} (h : StI W rb A l) : (Kd.int .i64).C W A l.length l := h.st W (KeepUp.refl _ _)
theorem StG.now {W : World} {rb : Nat} {A : Option Addr} {g : List Tk} (h : StG W rb A g) : kTk.C W A g.length g := h W (KeepUp.refl _ _)
theorem keep_below {w w1 : World} (rb : Nat) (h : Below w.heap.size w w1) : KeepBut w w1 rb none := KeepBut.of_below h rb none
theorem stI_of_R {W : World} {rb base : Nat} {v : Value} {l : List Int} (h : Kd.R (Kd.int .i64) 3 W base (fun _ => True) v l) (hrb : rb < base) : ∃ A c, v = .slice A l.length c ∧ l.length ≤ c ∧ StI W rb A l := by
 obtain ⟨A, c, rfl, hc, _⟩ := Kd.R_reads h
 refine ⟨A, c, rfl, hc, fun W' hk => ?_, fun ad e _ e2 => by have := Kd.R_base h ad.block (by rw [e]; simp [Value.ownBlock]); omega⟩
 have h2 := Kd.R_step (Kd.R_tight rfl h) (w1 := W') fun k hk' hlt => hk.2 k (by have := Kd.R_base h k hk'.symm; omega) hlt
 exact (Kd.R_reads' h2).2.2
theorem stI_of_Q {W : World} {rb base : Nat} {v : Value} {l : List Int} (h : Kd.Q (Kd.int .i64) 3 W base (fun _ => True) v l) (hrb : rb < base) : ∃ A c, v = .slice A l.length c ∧ l.length ≤ c ∧ StI W rb A l := by
 obtain ⟨A, c, rfl, hc, _⟩ := Kd.Q_reads h
 refine ⟨A, c, rfl, hc, fun W' hk => ?_, fun ad e _ e2 => by have := Kd.Q_base h ad.block (by rw [e]; simp [Value.ownBlock]); omega⟩
 have h2 := Kd.Q_step (Kd.Q_bound h) (fun k hk' hlt => hk.2 k (by have := hk'.2.1; omega) hlt)
 exact (Kd.Q_reads' h2).2.2
theorem newReader_any (A : Option Addr) (c : Nat) (l : List Int) (hb : ∀ x ∈ l, 0 ≤ x ∧ x < 256) (w : World) (hr : (Kd.int .u8).C w A l.length l) (hc : l.length ≤ c) :
  Calls Tryz.prog 51 #[.slice A l.length c] w fun e w' => ∃ rb, e = .returned (.pointer (some ⟨rb, 0, none⟩)) ∧ RdSt w w' rb 0 ∧ Below w.heap.size w w' := by
 obtain ⟨r, hr1, hr2, hr3⟩ := newReader_some l
 refine (spec_newReader.calls A c l r 0 w w (Below.refl _ _) hr hc hr1).mono ?_
 rintro e w' ⟨g, rfl, hI, hB, _⟩
 exact ⟨g, rfl, ⟨r, 0, hI, fun x hx => hb x (hr3 x hx), hr2, Int.le_refl _, Int.le_refl _⟩, hB⟩
theorem pick_any (rb : Nat) (M n : Int) (hM : M ≤ 900000) (w0 w : World) (hS : RdSt w0 w rb M) (hB : Below w0.heap.size w0 w) :
  Calls Tryz.prog 95 #[.pointer (some ⟨rb, 0, none⟩), .int .i64 n] w fun e w' => ∃ v, e = .returned (.int .i64 v) ∧ (0 ≤ v ∧ (0 < n → v < n)) ∧ RdSt w0 w' rb (M + 1) ∧ Below w0.heap.size w0 w' ∧ KeepBut w w' rb none := by
 obtain ⟨b, p, hI, h1, h2, h3, h4⟩ := hS
 obtain ⟨k0, r, ⟨hp1, hp2, hp3, hp4⟩, hk⟩ := pick_gets h1 h2 (n := n) h3 (by omega)
 refine (spec_reader_pick.calls k0 rb b p n r.1 r.2 w0 w hI hB (hk k0 (Nat.le_refl _))).mono ?_
 rintro e w' ⟨rfl, hI', hB', hK⟩
 exact ⟨_, rfl, ⟨hp1, hp2⟩, ⟨b, r.2, hI', h1, h2, by omega, by omega⟩, hB', hK⟩
theorem one_any (rb : Nat) (M : Int) (A : Option Addr) (c : Nat) (l : List Int) (hl : 0 < l.length) (hM : M ≤ 900000) (w0 w : World) (hS : RdSt w0 w rb M) (hB : Below w0.heap.size w0 w) (hr : (Kd.int .i64).C w A l.length l) (hc : l.length ≤ c) (hf : ∀ ad, A = some ad → 0 < l.length → ad.block ≠ rb) :
  Calls Tryz.prog 96 #[.pointer (some ⟨rb, 0, none⟩), .slice A l.length c] w fun e w' => ∃ v, e = .returned (.int .i64 v) ∧ v ∈ l ∧ RdSt w0 w' rb (M + 1) ∧ Below w0.heap.size w0 w' ∧ KeepBut w w' rb none := by
 obtain ⟨b, p, hI, h1, h2, h3, h4⟩ := hS
 obtain ⟨k0, r, ⟨hp1, hp2⟩, hk⟩ := one_gets h1 h2 (l := l) h3 (by omega) hl
 refine (spec_reader_one.calls k0 rb b p A c l r.1 r.2 w0 w hI hB hr hc hf (hk k0 (Nat.le_refl _))).mono ?_
 rintro e w' ⟨rfl, hI', hB', hK⟩
 exact ⟨_, rfl, hp1, ⟨b, r.2, hI', h1, h2, by omega, by omega⟩, hB', hK⟩
theorem spoil_any (rb : Nat) (M : Int) (A : Option Addr) (c : Nat) (l : List Int) (n : Int) (hl : l.length ≤ 1000) (hM : M ≤ 900000) (w0 w : World) (hS : RdSt w0 w rb M) (hB : Below w0.heap.size w0 w) (hr : (Kd.int .i64).C w A l.length l) (hc : l.length ≤ c) (hf : ∀ ad, A = some ad → 0 < l.length → ad.block ≠ rb) :
  Calls Tryz.prog 97 #[.pointer (some ⟨rb, 0, none⟩), .slice A l.length c, .int .i64 n] w fun e w' => ∃ A' c' l', e = .returned (.slice A' l'.length c') ∧ l'.length ≤ c' ∧ StI w' rb A' l' ∧ l'.length ≤ l.length + 1 ∧ RdSt w0 w' rb (M + 3) ∧ Below w0.heap.size w0 w' ∧ KeepBut w w' rb none := by
 have hlt := hS.lt
 obtain ⟨b, p, hI, h1, h2, h3, h4⟩ := hS
 obtain ⟨k0, r, ⟨hp1, hp2, hp3⟩, hk⟩ := spoil_gets h1 h2 p h3 (by omega) l hl n
 refine (spec_reader_spoil.calls k0 rb b p A c l n r.1 r.2 w0 w hI hB hr hc hf (hk k0 (Nat.le_refl _))).mono ?_
 rintro e w' ⟨v, rfl, hQ, hI', hB', hK⟩
 obtain ⟨A', c', rfl, hc', hSt⟩ := stI_of_Q (rb := rb) hQ hlt
 exact ⟨A', c', r.1, rfl, hc', hSt, hp1, ⟨b, r.2, hI', h1, h2, by omega, by omega⟩, hB', hK⟩
theorem anyGraph_any (rb : Nat) (M : Int) (hM : M ≤ 500000) (w0 w : World) (hS : RdSt w0 w rb M) (hB : Below w0.heap.size w0 w) :
  Calls Tryz.prog 52 #[.pointer (some ⟨rb, 0, none⟩)] w fun e w' => ∃ A' c' g, e = .returned (.slice A' g.length c') ∧ g.length ≤ c' ∧ StG w' rb A' g ∧ GOk 16 10 g ∧ RdSt w0 w' rb (M + 300) ∧ Below w0.heap.size w0 w' ∧ KeepBut w w' rb none := by
 have hlt := hS.lt
 obtain ⟨b, p, hI, h1, h2, h3, h4⟩ := hS
 obtain ⟨k0, r, ⟨hp1, hp2, hp3⟩, hk⟩ := anyGraph_gets h1 h2 p h3 (by omega)
 refine (spec_anyGraph.calls k0 rb b p r.1 r.2 w0 w hI hB (hk k0 (Nat.le_refl _))).mono ?_
 rintro e w' ⟨v, rfl, hN, hI', hB', hK⟩
 obtain ⟨A', c', rfl⟩ := Kd.N_slice hN
 refine ⟨A', c', r.1, rfl, (Kd.N_reads' hN).2.1, fun W' hW => ?_, hp1, ⟨b, r.2, hI', h1, h2, hp2, by omega⟩, hB', hK⟩
 exact (Kd.N_reads' (Kd.N_step hN (fun k hk' hlt => hW.2 k (by omega) hlt))).2.2
end Go.Proofs.YtlapphhcficbjaaGreatDoor

namespace Go.Proofs.YtlapphhcficbjaaGreatDoor
set_option linter.unusedVariables false
set_option linter.unusedSimpArgs false
open Go.RowKit Go.Shelf
open Go.Proofs.YtlapphhcficbjaaGreatDoorW.PrintWords Go.Proofs.YtlapphhcficbjaaGreatDoorW.PrintLast Go.Proofs.YtlapphhcficbjaaGreatDoorW.PrintMore
theorem lit_R (w : World) (l : List Int) (hl : l.length ≤ 1000) : Kd.R (Kd.int .i64) 3 (w.alloc (.cells (encs (Value.int .i64) l).toArray 3)) w.heap.size (fun _ => True) (.slice (some ⟨w.heap.size, 0, none⟩) l.length l.length) l := by
 refine Kd.R_of_own ?_ (fun _ _ => trivial)
 have h := World.ownsRow_lit (base := w.heap.size) (e := 3) (size := 1) w (encs (Value.int .i64) l).toArray l.length (Nat.le_refl _) (by simp [maxLen]; omega) (by simp [encs])
 rwa [List.toList_toArray] at h
theorem oneLit_any (rb : Nat) (M : Int) (l : List Int) (hl0 : 0 < l.length) (hl : l.length ≤ 1000) (hM : M ≤ 900000) (w0 w : World) (hS : RdSt w0 w rb M) (hB : Below w0.heap.size w0 w) :
  Calls Tryz.prog 96 #[.pointer (some ⟨rb, 0, none⟩), .slice (some ⟨w.heap.size, 0, none⟩) l.length l.length] (w.alloc (.cells (encs (Value.int .i64) l).toArray 3)) fun e w' => ∃ v, e = .returned (.int .i64 v) ∧ v ∈ l ∧ RdSt w0 w' rb (M + 1) ∧ Below w0.heap.size w0 w' ∧ KeepBut w w' rb none := by
 have hB1 : Below w.heap.size w (w.alloc (.cells (encs (Value.int .i64) l).toArray 3)) := (Below.refl _ _).alloc (Nat.le_refl _) _
 have hlt := hS.lt
 obtain ⟨A', c', e, hc, hC⟩ := Kd.R_reads (lit_R w l hl)
 cases e
 refine (one_any rb M _ _ l hl0 hM w0 _ (hS.below hB1) (hB.trans (hB1.mono hB.size)) hC (Nat.le_refl _) (fun ad e _ e2 => by cases e; simp at e2; omega)).mono ?_
 rintro e w' ⟨v, rfl, hv, h1, h2, h3⟩
 exact ⟨v, rfl, hv, h1, h2, keep_trans (keep_below rb hB1) h3⟩
theorem someWorkers_any (rb : Nat) (M : Int) (hM : M ≤ 900000) (w0 w : World) (hS : RdSt w0 w rb M) (hB : Below w0.heap.size w0 w) :
  Calls Tryz.prog 72 #[.pointer (some ⟨rb, 0, none⟩)] w fun e w' => ∃ v, e = .returned (.int .i64 v) ∧ (0 ≤ v ∧ v ≤ 5) ∧ RdSt w0 w' rb (M + 1) ∧ Below w0.heap.size w0 w' ∧ KeepBut w w' rb none := by
 have HS := Lib.hid hS
 have HB := Lib.hid hB
 clear hS hB
 go_enter Tryz.func72, Tryz.ntmps72
 go_wp2_with (go_at_call 96; refine (oneLit_any rb M [1, 2, 3, 4, 2, 0, 5] (by decide) (by decide) hM w0 _ HS.out HB.out).mono ?_; rintro e w1 ⟨v1, rfl, hv1, hS1, hB1, hK1⟩; have HV := Lib.hid hv1; clear hv1)
 go_ret
 refine ⟨v1, rfl, ?_, hS1, hB1, hK1⟩
 have := HV.out
 simp at this
 omega
set_option maxRecDepth 100000 in
set_option maxHeartbeats 2000000 in
theorem someRoom_any (rb : Nat) (M : Int) (hM : M ≤ 800000) (w0 w : World) (hS : RdSt w0 w rb M) (hB : Below w0.heap.size w0 w) :
  Calls Tryz.prog 71 #[.pointer (some ⟨rb, 0, none⟩)] w fun e w' => ∃ A' c' l', e = .returned (.slice A' l'.length c') ∧ l'.length ≤ c' ∧ StI w' rb A' l' ∧ l'.length ≤ 4 ∧ RdSt w0 w' rb (M + 6) ∧ Below w0.heap.size w0 w' ∧ KeepBut w w' rb none := by
 have HS := Lib.hid hS
 have HB := Lib.hid hB
 have HK := Lib.hid (KeepBut.refl w rb none)
 clear hS hB
 go_enter Tryz.func71, Tryz.ntmps71
 go_wp2_with (first
  | (go_at_call 96; refine (oneLit_any rb M [4, 5, 8, 4] (by decide) (by decide) (by omega) w0 _ HS.out HB.out).mono ?_; rintro e w1 ⟨v1, rfl, hv1, hS1, hB1, hK1⟩; have HS1 := Lib.hid hS1; have HB1 := Lib.hid hB1; have HK1 := Lib.hid hK1; clear hv1 hS1 hB1 hK1 HS)
  | (go_at_call 96; refine (oneLit_any rb (M + 1) [4, 6, 8] (by decide) (by decide) (by omega) w0 _ HS1.out HB1.out).mono ?_; rintro e w2 ⟨v2, rfl, hv2, hS2, hB2, hK2⟩; have HS2 := Lib.hid hS2; have HB2 := Lib.hid hB2; have HK2 := Lib.hid (keep_trans HK1.out hK2); clear hv2 hS2 hB2 hK2 HS1)
  | (go_at_call 96; refine (oneLit_any rb (M + 1 + 1) [4, 4, 7] (by decide) (by decide) (by omega) w0 _ HS2.out HB2.out).mono ?_; rintro e w3 ⟨v3, rfl, hv3, hS3, hB3, hK3⟩; have HS3 := Lib.hid hS3; have HB3 := Lib.hid hB3; have HK3 := Lib.hid (keep_trans HK2.out hK3); clear hv3 hS3 hB3 hK3 HS2)
  | (go_at_call 97; have hBa : Below w3.heap.size w3 (w3.alloc (.cells (encs (Value.int .i64) [v1, v2, v3]).toArray 3)) := (Below.refl _ _).alloc (Nat.le_refl _) _; have hrd := Kd.R_reads' (lit_R w3 [v1, v2, v3] (by simp)); refine (spoil_any rb (M + 1 + 1 + 1) _ _ [v1, v2, v3] 9 (by simp) (by omega) w0 _ (HS3.out.below hBa) (HB3.out.trans (hBa.mono HB3.out.size)) hrd.2.2 (Nat.le_refl _) (fun ad e _ e2 => by have := HS3.out.lt; cases e; simp at e2; omega)).mono ?_; rintro e w4 ⟨A4, c4, l4, rfl, hl4, hI4, hl4', hS4, hB4, hK4⟩; have HF := Lib.hid (And.intro hI4 (And.intro hl4' (And.intro hS4 (And.intro hB4 (keep_trans HK3.out (keep_trans (keep_below rb hBa) hK4)))))); clear hI4 hl4' hS4 hB4 hK4 hBa hrd))
 go_ret
 exact ⟨A4, c4, l4, rfl, hl4, HF.out.1, by have := HF.out.2.1; simpa using this, HF.out.2.2.1.wide (by omega), HF.out.2.2.2.1, HF.out.2.2.2.2⟩
end Go.Proofs.YtlapphhcficbjaaGreatDoor

namespace Go.Proofs.YtlapphhcficbjaaGreatDoor
set_option linter.unusedVariables false
set_option linter.unusedSimpArgs false
open Go.RowKit Go.Shelf Bits
open Go.Proofs.YtlapphhcficbjaaGreatDoorW.PrintWords Go.Proofs.YtlapphhcficbjaaGreatDoorW.PrintLast Go.Proofs.YtlapphhcficbjaaGreatDoorW.PrintMore
def inB (n lo hi : Int) : Bool := decide (lo ≤ n) && decide (n ≤ hi)
theorem inB_true {n lo hi : Int} : inB n lo hi = true ↔ lo ≤ n ∧ n ≤ hi := by simp [inB]
theorem inB_false {n lo hi : Int} : inB n lo hi = false ↔ n < lo ∨ hi < n := by simp [inB]; omega
theorem within_calls (n lo hi : Int) (w : World) : Calls Tryz.prog 54 #[.int .i64 n, .int .i64 lo, .int .i64 hi] w fun e w' => e = .returned (.bool (inB n lo hi)) ∧ w' = w := by
 by_cases h1 : lo ≤ n
 ·
  have d1 : decide (n ≥ lo) = true := by simpa using h1
  go_enter Tryz.func54, Tryz.ntmps54
  go_wp2
  go_ret
  exact ⟨ret_bool (by rw [inB, decide_eq_true h1, Bool.true_and]), rfl⟩
 ·
  have d1 : decide (n ≥ lo) = false := by simpa using h1
  go_enter Tryz.func54, Tryz.ntmps54
  go_wp2
  go_ret
  exact ⟨ret_bool (by rw [inB, decide_eq_false (by omega : ¬ lo ≤ n), Bool.false_and]), rfl⟩
theorem within_is (b : Bool) (n lo hi : Int) (h : Hid (inB n lo hi = b)) (w : World) : Calls Tryz.prog 54 #[.int .i64 n, .int .i64 lo, .int .i64 hi] w fun e w' => e = .returned (.bool b) ∧ w' = w :=
 (within_calls n lo hi w).mono fun e w' ⟨he, hw⟩ => ⟨by rw [he, h.out], hw⟩
theorem pow_u16 (i : Nat) (hi : i < 16) : IntKind.u16.wrap (2 ^ i) = ((2 ^ i : Nat) : Int) ∧ 2 ^ i < 65536 := by
 have h : (2 : Nat) ^ i < 65536 := Nat.pow_lt_pow_right (by omega) hi
 refine ⟨?_, h⟩
 have e : (2 : Int) ^ i = ((2 ^ i : Nat) : Int) := by simp
 rw [e, wrap_u16']
 generalize (2 : Nat) ^ i = q at h
 omega
theorem bits_or_u16 (a b : Nat) (ha : a < 65536) (hb : b < 65536) : bits .or .u16 (a : Int) (b : Int) = ((a ||| b : Nat) : Int) :=
 (bits_nat .u16 16 (by decide) (fun n h0 h1 => by rw [wrap_u16']; omega) a b ha hb).2
theorem or_lt (a b : Nat) (ha : a < 65536) (hb : b < 65536) : a ||| b < 65536 := Nat.or_lt_two_pow (n := 16) ha hb
theorem with_calls (s i : Nat) (hs : s < 65536) (hi : i < 16) (w : World) : Calls Tryz.prog 28 #[.int .u16 s, .int .i64 i] w fun e w' => e = .returned (.int .u16 ((s ||| 2 ^ i : Nat) : Int)) ∧ w' = w := by
 go_enter Tryz.func28, Tryz.ntmps28
 go_wp2
 go_ret
 exact ⟨ret_int (by obtain ⟨e, h⟩ := pow_u16 i hi; rw [e, bits_or_u16 s _ hs h]), rfl⟩
theorem has_calls (s i : Nat) (hs : s < 65536) (hi : i < 16) (w : World) : Calls Tryz.prog 117 #[.int .u16 s, .int .i64 i] w fun e w' => e = .returned (.bool (s.testBit i)) ∧ w' = w := by
 go_enter Tryz.func117, Tryz.ntmps117
 go_wp2
 go_ret
 exact ⟨ret_bool (by
  have e : (s : Int) / 2 ^ i = ((s / 2 ^ i : Nat) : Int) := by simp
  have h2 : s / 2 ^ i < 65536 := Nat.lt_of_le_of_lt (Nat.div_le_self _ _) hs
  have h3 := bits_and_u16_nat (s / 2 ^ i) 1 h2 (by omega)
  rw [e, show (1 : Int) = ((1 : Nat) : Int) from rfl, h3, Nat.and_one_is_mod, Nat.testBit_eq_decide_div_mod_eq, Bool.eq_iff_iff]
  simp
  omega), rfl⟩
theorem has_is (b : Bool) (s i : Nat) (h : Hid (s.testBit i = b)) (hs : s < 65536) (hi : i < 16) (w : World) : Calls Tryz.prog 117 #[.int .u16 s, .int .i64 i] w fun e w' => e = .returned (.bool b) ∧ w' = w :=
 (has_calls s i hs hi w).mono fun e w' ⟨he, hw⟩ => ⟨by rw [he, h.out], hw⟩
theorem everything_calls (n : Nat) (hn : n ≤ 15) (w : World) : Calls Tryz.prog 42 #[.int .i64 n] w fun e w' => e = .returned (.int .u16 ((2 ^ n - 1 : Nat) : Int)) ∧ w' = w := by
 go_enter Tryz.func42, Tryz.ntmps42
 go_wp2
 go_ret
 exact ⟨ret_int (by obtain ⟨e, h⟩ := pow_u16 n (by omega); rw [e, wrap_u16']; have h0 := Nat.two_pow_pos n; generalize (2 : Nat) ^ n = q at h h0; omega), rfl⟩
end Go.Proofs.YtlapphhcficbjaaGreatDoor

namespace Go.Proofs.YtlapphhcficbjaaGreatDoor
set_option linter.unusedVariables false
set_option linter.unusedSimpArgs false
open Bits
def setOfL (n : Int) : List Int → Int → Nat → Option Nat
 | [], _, s => some s
 | i :: r, last, s => if last + 1 ≤ i ∧ i ≤ n - 1 then setOfL n r i (s ||| 2 ^ i.toNat) else none
theorem setOfL_cons (n i : Int) (r : List Int) (last : Int) (s : Nat) : setOfL n (i :: r) last s = if last + 1 ≤ i ∧ i ≤ n - 1 then setOfL n r i (s ||| 2 ^ i.toNat) else none := rfl
def setOfN (l : List Int) (n : Nat) : Option Nat := setOfL n l (-1) 0
theorem or_lt_pow {a b n : Nat} (ha : a < 2 ^ n) (hb : b < 2 ^ n) : a ||| b < 2 ^ n := Nat.or_lt_two_pow ha hb
theorem setOfL_lt (n : Nat) : ∀ (l : List Int) (last : Int) (s r : Nat), -1 ≤ last → s < 2 ^ n → setOfL n l last s = some r → r < 2 ^ n
 | [], _, s, r, _, hs, h => by simp [setOfL] at h; omega
 | i :: l, last, s, r, hl, hs, h => by
  rw [setOfL_cons] at h
  split at h
  ·
   rename_i hi
   refine setOfL_lt n l i _ r (by omega) (or_lt_pow hs ?_) h
   exact Nat.pow_lt_pow_right (by omega) (by omega)
  ·
   cases h
theorem setOfN_lt {l : List Int} {n s : Nat} (h : setOfN l n = some s) : s < 2 ^ n := setOfL_lt n l _ _ _ (by omega) (Nat.two_pow_pos n) h
theorem pow_le_u16 {n : Nat} (h : n ≤ 16) : 2 ^ n ≤ 65536 := show 2 ^ n ≤ 2 ^ 16 from Nat.pow_le_pow_right (by omega) h
def taskOk (t : Tk) : Bool := inB t.f0 1 20 && inB t.f2 0 2 && inB t.f3 1 4
def needsL (n : Nat) : List Tk → Option (List Nat)
 | [] => some []
 | t :: r => match setOfN t.f1 n with
  | none => none
  | some s => if taskOk t then (needsL n r).map (s :: ·) else none
def needsN (g : List Tk) : Option (List Nat) := if 8 < g.length then none else needsL g.length g
theorem needsL_cons (n : Nat) (t : Tk) (r : List Tk) : needsL n (t :: r) = match setOfN t.f1 n with
  | none => none
  | some s => if taskOk t then (needsL n r).map (s :: ·) else none := rfl
theorem needsL_bad {n : Nat} {t : Tk} {r : List Tk} (h : setOfN t.f1 n = none ∨ taskOk t = false) : needsL n (t :: r) = none := by
 rw [needsL_cons]
 rcases h with h | h
 ·
  rw [h]
 ·
  cases setOfN t.f1 n <;> simp [h]
theorem needsL_good {n s : Nat} {t : Tk} {r : List Tk} (h : setOfN t.f1 n = some s) (h' : taskOk t = true) : needsL n (t :: r) = (needsL n r).map (s :: ·) := by
 rw [needsL_cons, h]; simp [h']
theorem taskOk_false {t : Tk} (h : inB t.f0 1 20 = false ∨ inB t.f2 0 2 = false ∨ inB t.f3 1 4 = false) : taskOk t = false := by
 unfold taskOk
 rcases h with h | h | h <;> rw [h] <;> simp
theorem taskOk_true {t : Tk} (h0 : inB t.f0 1 20 = true) (h1 : inB t.f2 0 2 = true) (h2 : inB t.f3 1 4 = true) : taskOk t = true := by
 unfold taskOk; rw [h0, h1, h2]; rfl
theorem needsL_step {n : Nat} {acc : List Nat} {o : Option (List Nat)} {t : Tk} {r : List Tk} {s : Nat} (h : o = (needsL n (t :: r)).map (acc ++ ·)) (h1 : setOfN t.f1 n = some s) (h2 : taskOk t = true) : o = (needsL n r).map ((acc ++ [s]) ++ ·) := by
 rw [h, needsL_good h1 h2]
 cases needsL n r <;> simp
def diff (a b : Nat) : Nat := a ^^^ (a &&& b)
theorem diff_bit (a b i : Nat) : (diff a b).testBit i = (a.testBit i && !b.testBit i) := by
 unfold diff; rw [Nat.testBit_xor, Nat.testBit_and]; cases a.testBit i <;> cases b.testBit i <;> rfl
theorem diff_lt {a b n : Nat} (h : a < 2 ^ n) : diff a b < 2 ^ n := Nat.xor_lt_two_pow h (Nat.lt_of_le_of_lt Nat.and_le_left h)
theorem diff_zero {a b : Nat} : diff a b = 0 ↔ ∀ i, a.testBit i = true → b.testBit i = true := by
 constructor
 ·
  intro h i ha
  have := diff_bit a b i
  rw [h] at this
  simp [ha] at this
  exact this
 ·
  intro h
  apply Nat.eq_of_testBit_eq
  intro i
  rw [diff_bit, Nat.zero_testBit]
  cases ha : a.testBit i
  ·
   rfl
  ·
   rw [h i ha]; rfl
theorem or_bit (a i j : Nat) : (a ||| 2 ^ i).testBit j = (a.testBit j || decide (i = j)) := by rw [Nat.testBit_or, Nat.testBit_two_pow]
def isReady (ns : List Nat) (done i : Nat) : Bool := !done.testBit i && decide (diff (ns.getD i 0) done = 0)
def firstReady (ns : List Nat) (done : Nat) : Option Nat := (List.range ns.length).find? (isReady ns done)
def ordStep (ns : List Nat) (p : List Nat × Nat) : List Nat × Nat := match firstReady ns p.2 with
 | some i => (p.1 ++ [i], p.2 ||| 2 ^ i)
 | none => p
def ordN (ns : List Nat) : Nat → List Nat × Nat
 | 0 => ([], 0)
 | k + 1 => ordStep ns (ordN ns k)
theorem find_range {n k : Nat} {p : Nat → Bool} (h : k < n) (hp : p k = true) (hlow : ∀ j, j < k → p j = false) : (List.range n).find? p = some k := by
 rw [List.find?_range_eq_some]
 refine ⟨hp, List.mem_range.2 h, fun j hj => by simp [hlow j hj]⟩
theorem firstReady_some {ns : List Nat} {done k : Nat} (h : k < ns.length) (hp : isReady ns done k = true) (hlow : ∀ j, j < k → isReady ns done j = false) : firstReady ns done = some k := find_range h hp hlow
theorem firstReady_none {ns : List Nat} {done : Nat} (hlow : ∀ j, j < ns.length → isReady ns done j = false) : firstReady ns done = none := by
 unfold firstReady
 rw [List.find?_eq_none]
 intro j hj
 rw [hlow j (List.mem_range.1 hj)]; simp
theorem firstReady_spec {ns : List Nat} {done k : Nat} (h : firstReady ns done = some k) : k < ns.length ∧ isReady ns done k = true := by
 unfold firstReady at h
 exact ⟨List.mem_range.1 (List.mem_of_find?_eq_some h), List.find?_some h⟩
theorem ordN_lt (ns : List Nat) : ∀ k, (ordN ns k).2 < 2 ^ ns.length ∧ (∀ i ∈ (ordN ns k).1, i < ns.length) ∧ (ordN ns k).1.length ≤ k
 | 0 => ⟨Nat.two_pow_pos _, by intro i h; simp [ordN] at h, Nat.le_refl _⟩
 | k + 1 => by
  obtain ⟨h1, h2, h3⟩ := ordN_lt ns k
  show (ordStep ns (ordN ns k)).2 < _ ∧ (∀ i ∈ (ordStep ns (ordN ns k)).1, _) ∧ (ordStep ns (ordN ns k)).1.length ≤ _
  unfold ordStep
  cases hf : firstReady ns (ordN ns k).2 with
  | none => exact ⟨h1, h2, Nat.le_succ_of_le h3⟩
  | some i =>
   obtain ⟨hi, _⟩ := firstReady_spec hf
   refine ⟨or_lt_pow h1 (Nat.pow_lt_pow_right (by omega) hi), fun j hj => ?_, by simp; omega⟩
   rcases List.mem_append.1 hj with hj | hj
   ·
    exact h2 j hj
   ·
    rw [List.mem_singleton.1 hj]; exact hi
theorem needsL_length {n : Nat} : ∀ {g : List Tk} {ns : List Nat}, needsL n g = some ns → ns.length = g.length ∧ ∀ s ∈ ns, s < 2 ^ n
 | [], ns, h => by simp [needsL] at h; subst h; simp
 | t :: r, ns, h => by
  rw [needsL_cons] at h
  cases hs : setOfN t.f1 n with
  | none => rw [hs] at h; cases h
  | some s =>
   rw [hs] at h
   simp only at h
   split at h
   ·
    obtain ⟨ms, hm, rfl⟩ := Option.map_eq_some_iff.1 h
    obtain ⟨h1, h2⟩ := needsL_length hm
    refine ⟨by simp [h1], fun q hq => ?_⟩
    rcases List.mem_cons.1 hq with rfl | hq
    ·
     exact setOfN_lt hs
    ·
     exact h2 q hq
   ·
    cases h
theorem needsN_some {g : List Tk} {ns : List Nat} (h : needsN g = some ns) : g.length ≤ 8 ∧ needsL g.length g = some ns := by
 unfold needsN at h
 split at h
 ·
  cases h
 ·
  exact ⟨by omega, h⟩
theorem needsN_length {g : List Tk} {ns : List Nat} (h : needsN g = some ns) : ns.length = g.length := (needsL_length (needsN_some h).2).1
theorem needsN_pow {g : List Tk} {ns : List Nat} (h : needsN g = some ns) (i : Nat) : ns.getD i 0 < 2 ^ g.length := by
 rw [List.getD_eq_getElem?_getD]
 cases hi : ns[i]? with
 | none => exact Nat.two_pow_pos _
 | some s => exact (needsL_length (needsN_some h).2).2 s (List.mem_of_getElem? hi)
theorem needsN_lt {g : List Tk} {ns : List Nat} (h : needsN g = some ns) (i : Nat) : ns.getD i 0 < 65536 :=
 Nat.lt_of_lt_of_le (needsN_pow h i) (pow_le_u16 (by have := (needsN_some h).1; omega))
theorem drop_cons {g : List Tk} {k : Nat} (h : k < g.length) : g.drop k = rdTk g k :: g.drop (k + 1) := by
 rw [List.drop_eq_getElem_cons h]; simp [rdTk, List.getD_eq_getElem?_getD, h]
end Go.Proofs.YtlapphhcficbjaaGreatDoor

namespace Go.Proofs.YtlapphhcficbjaaGreatDoor
set_option linter.unusedVariables false
set_option linter.unusedSimpArgs false
open Go.RowKit Go.Shelf Bits
open Go.Proofs.YtlapphhcficbjaaGreatDoorW.PrintWords Go.Proofs.YtlapphhcficbjaaGreatDoorW.PrintLast Go.Proofs.YtlapphhcficbjaaGreatDoorW.PrintMore
def setRet (o : Option Nat) : Ending := .returned (.tuple #[.int .u16 ((o.getD 0 : Nat) : Int), .bool o.isSome])
set_option maxHeartbeats 1000000 in
theorem setOf_calls (A : Option Addr) (c : Nat) (l : List Int) (n : Nat) (hn : n ≤ 15) (w : World) (hr : (Kd.int .i64).C w A l.length l) :
  Calls Tryz.prog 120 #[.slice A l.length c, .int .i64 n] w fun e w' => e = setRet (setOfN l n) ∧ w' = w := by
 have hl := (C_len hr).2
 have HR := Lib.hid hr
 clear hr
 go_enter Tryz.func120, Tryz.ntmps120
 go_wp2
 go_loop [6, 7, 12] (fun s last i => ∃ (k : Nat) (a : Nat) (b : Int), k ≤ l.length ∧ i = .int .i64 k ∧ last = .int .i64 b ∧ s = .int .u16 a ∧ a < 65536 ∧ -1 ≤ b ∧ b ≤ 15 ∧ Hid (setOfN l n = setOfL n (l.drop k) b a)) (fun _ _ i => l.length - (intOf i).toNat)
 case atStart => exact ⟨0, 0, -1, Nat.zero_le _, rfl, rfl, rfl, by omega, by omega, by omega, rfl⟩
 case round =>
  obtain ⟨k, a, b, hk, rfl, rfl, rfl, ha, hb0, hb1, HS⟩ := hrel
  by_cases hlt : k < l.length
  ·
   obtain ⟨ad, rfl, hc⟩ := at_num HR.out k hlt
   have hd : l.drop k = l.getD k 0 :: l.drop (k + 1) := by
    rw [List.drop_eq_getElem_cons hlt]; simp [List.getD_eq_getElem?_getD, hlt]
   rw [hd, setOfL_cons] at HS
   clear hd
   generalize l.getD k 0 = x at *
   by_cases hin : b + 1 ≤ x ∧ x ≤ n - 1
   ·
    rw [if_pos hin] at HS
    obtain ⟨m, rfl⟩ := Int.eq_ofNat_of_zero_le (by omega : 0 ≤ x)
    rw [Int.toNat_natCast] at HS
    have hm : m < 16 := by omega
    have hor := or_lt a (2 ^ m) ha (pow_u16 m hm).2
    have HI := Lib.hid (inB_true.2 hin)
    obtain ⟨hin1, hin2⟩ := hin
    go_wp2_with (first | (go_at_call 54; refine (within_calls _ _ _ _).mono ?_; rintro e w' ⟨rfl, rfl⟩; rw [HI.out]) | (go_at_call 28; refine (with_calls a m ha hm _).mono ?_; rintro e w' ⟨rfl, rfl⟩))
    go_round
    case rel => exact ⟨k + 1, _, m, by omega, by go_num, rfl, rfl, hor, by omega, by omega, HS⟩
    case measure => simp [intOf]; omega
   ·
    rw [if_neg hin] at HS
    have HI := Lib.hid (inB_false.2 (show x < b + 1 ∨ (n : Int) - 1 < x by omega))
    clear hin
    go_wp2_with (go_at_call 54; refine (within_calls _ _ _ _).mono ?_; rintro e w' ⟨rfl, rfl⟩; rw [HI.out])
    go_ret2
    exact ⟨by rw [HS.out]; rfl, rfl⟩
  ·
   have hke : l.drop k = [] := List.drop_eq_nil_of_le (by omega)
   rw [hke] at HS
   clear hke
   go_wp2
   go_ret2
   exact ⟨by rw [HS.out]; rfl, rfl⟩
theorem setOf_some (A : Option Addr) (c : Nat) (l : List Int) (n s : Nat) (h : Hid (setOfN l n = some s)) (hn : n ≤ 15) (w : World) (hr : (Kd.int .i64).C w A l.length l) :
  Calls Tryz.prog 120 #[.slice A l.length c, .int .i64 n] w fun e w' => e = .returned (.tuple #[.int .u16 s, .bool true]) ∧ w' = w :=
 (setOf_calls A c l n hn w hr).mono fun e w' ⟨he, hw⟩ => ⟨by rw [he, h.out]; rfl, hw⟩
theorem setOf_none (A : Option Addr) (c : Nat) (l : List Int) (n : Nat) (h : Hid (setOfN l n = none)) (hn : n ≤ 15) (w : World) (hr : (Kd.int .i64).C w A l.length l) :
  Calls Tryz.prog 120 #[.slice A l.length c, .int .i64 n] w fun e w' => e = .returned (.tuple #[.int .u16 0, .bool false]) ∧ w' = w :=
 (setOf_calls A c l n hn w hr).mono fun e w' ⟨he, hw⟩ => ⟨by rw [he, h.out]; rfl, hw⟩
end Go.Proofs.YtlapphhcficbjaaGreatDoor

namespace Go.Proofs.YtlapphhcficbjaaGreatDoor
set_option linter.unusedVariables false
set_option linter.unusedSimpArgs false
open Go.RowKit Go.Shelf Bits
open Go.Proofs.YtlapphhcficbjaaGreatDoorW.PrintWords Go.Proofs.YtlapphhcficbjaaGreatDoorW.PrintLast Go.Proofs.YtlapphhcficbjaaGreatDoorW.PrintMore
def NeedsPost (g : List Tk) (w : World) (e : Ending) (w' : World) : Prop :=
 ∃ v, e = .returned (.tuple #[v, .bool (needsN g).isSome]) ∧ (∀ ns, needsN g = some ns → Kd.R (Kd.int .u16) 56 w' w.heap.size (fun _ => True) v (ints ns)) ∧ Below w.heap.size w w'
set_option maxRecDepth 100000 in
set_option maxHeartbeats 2000000 in
theorem needsOf_calls (A : Option Addr) (c : Nat) (g : List Tk) (w : World) (hr : kTk.C w A g.length g) :
  Calls Tryz.prog 88 #[.slice A g.length c] w (NeedsPost g w) := by
 have HR := Lib.hid hr
 obtain ⟨i0, hi, hz0, hz1, hz2⟩ := info_parts infoSet
 clear hr
 by_cases hlen : g.length ≤ 8
 ·
  have HN : Hid (needsN g = needsL g.length g) := Lib.hid (by rw [needsN, if_neg (by omega)])
  go_enter Tryz.func88, Tryz.ntmps88
  go_wp2_with (at_make; refine wpList_make_own _ rfl _ _ 50 rfl w.heap.size 56 i0 (.int .u16 0) 1 Tryz.underlying50 hi hz0 hz1 .i64 .i64 _ g.length rfl rfl rfl (by rw [hz2]; omega) (by simp only [maxLen]; omega) (Nat.le_refl _) ?_; intro w1 hown hg1)
  have HB1 : Below w.heap.size w w1 := (Below.refl _ _).grown hg1 (Nat.le_refl _) (fun k e => by cases e)
  have HO : Kd.R (Kd.int .u16) 56 w1 w.heap.size (fun _ => True) (.slice (some ⟨w.heap.size, 0, none⟩) 0 g.length) (ints []) := Kd.R_of_own hown (fun _ _ => trivial)
  clear hown hg1
  go_loopw [4, 17] (fun out i wr => ∃ (k : Nat) (acc : List Nat), k ≤ g.length ∧ i = .int .i64 k ∧ acc.length = k ∧ Hid (needsN g = (needsL g.length (g.drop k)).map (acc ++ ·)) ∧ Kd.R (Kd.int .u16) 56 wr w.heap.size (fun _ => True) out (ints acc) ∧ Below w.heap.size w wr) (fun _ i _ => g.length - (intOf i).toNat)
  case atStart => exact ⟨0, [], Nat.zero_le _, rfl, rfl, Lib.hid (by rw [HN.out]; simp), HO, HB1⟩
  case round =>
   clear HO HB1 HN
   obtain ⟨k, acc, hk, rfl, hacc, HS, HO, HB⟩ := hrel
   have HA := Lib.hid hacc
   clear hacc
   by_cases hlt : k < g.length
   ·
    obtain ⟨ad, A1, c1, rfl, hc0, hc1, hc2, hc3, hl1, hC1⟩ := at_Tk (Kd.C_below HR.out HB) k hlt
    rw [drop_cons hlt] at HS
    generalize rdTk g k = t at *
    have hlt2 : k < 9 := by omega
    rcases hso : setOfN t.f1 g.length with _ | s
    ·
     have HF := Lib.hid hso
     clear hso
     go_wp2_with (go_at_call 120; refine (setOf_none _ _ _ _ HF (by omega) _ (Kd.C_below hC1 ((Below.refl _ _).alloc (Nat.le_refl _) _))).mono ?_; rintro e w' ⟨rfl, rfl⟩)
     go_ret2
     have hnone : needsN g = none := by rw [HS.out, needsL_bad (.inl HF.out)]; rfl
     refine ⟨_, by rw [hnone]; rfl, fun ns h => ?_, HB.alloc HB.size _⟩
     rw [hnone] at h; cases h
    ·
     have HF := Lib.hid hso
     clear hso
     cases b0 : inB t.f0 1 20
     ·
      have H0 := Lib.hid b0
      clear b0
      go_wp2_with (first | (go_at_call 120; refine (setOf_some _ _ _ _ _ HF (by omega) _ (Kd.C_below hC1 ((Below.refl _ _).alloc (Nat.le_refl _) _))).mono ?_; rintro e w' ⟨rfl, rfl⟩) | (go_at_call 54; with_reducible refine (within_is _ _ _ _ H0 _).mono ?_; rintro e w' ⟨rfl, rfl⟩))
      go_ret2
      have hnone : needsN g = none := by rw [HS.out, needsL_bad (.inr (taskOk_false (.inl H0.out)))]; rfl
      refine ⟨_, by rw [hnone]; rfl, fun ns h => ?_, HB.alloc HB.size _⟩
      rw [hnone] at h; cases h
     ·
      have H0 := Lib.hid b0
      clear b0
      cases b1 : inB t.f2 0 2
      ·
       have H1 := Lib.hid b1
       clear b1
       go_wp2_with (first | (go_at_call 120; refine (setOf_some _ _ _ _ _ HF (by omega) _ (Kd.C_below hC1 ((Below.refl _ _).alloc (Nat.le_refl _) _))).mono ?_; rintro e w' ⟨rfl, rfl⟩) | (go_at_call 54; with_reducible refine (within_is _ _ _ _ H0 _).mono ?_; rintro e w' ⟨rfl, rfl⟩) | (go_at_call 54; with_reducible refine (within_is _ _ _ _ H1 _).mono ?_; rintro e w' ⟨rfl, rfl⟩))
       go_ret2
       have hnone : needsN g = none := by rw [HS.out, needsL_bad (.inr (taskOk_false (.inr (.inl H1.out))))]; rfl
       refine ⟨_, by rw [hnone]; rfl, fun ns h => ?_, HB.alloc HB.size _⟩
       rw [hnone] at h; cases h
      ·
       have H1 := Lib.hid b1
       clear b1
       cases b2 : inB t.f3 1 4
       ·
        have H2 := Lib.hid b2
        clear b2
        go_wp2_with (first | (go_at_call 120; refine (setOf_some _ _ _ _ _ HF (by omega) _ (Kd.C_below hC1 ((Below.refl _ _).alloc (Nat.le_refl _) _))).mono ?_; rintro e w' ⟨rfl, rfl⟩) | (go_at_call 54; with_reducible refine (within_is _ _ _ _ H0 _).mono ?_; rintro e w' ⟨rfl, rfl⟩) | (go_at_call 54; with_reducible refine (within_is _ _ _ _ H1 _).mono ?_; rintro e w' ⟨rfl, rfl⟩) | (go_at_call 54; with_reducible refine (within_is _ _ _ _ H2 _).mono ?_; rintro e w' ⟨rfl, rfl⟩))
        go_ret2
        have hnone : needsN g = none := by rw [HS.out, needsL_bad (.inr (taskOk_false (.inr (.inr H2.out))))]; rfl
        refine ⟨_, by rw [hnone]; rfl, fun ns h => ?_, HB.alloc HB.size _⟩
        rw [hnone] at h; cases h
       ·
        have H2 := Lib.hid b2
        clear b2
        have hal : acc.length < 1000000 := by rw [HA.out]; omega
        go_wp2_with (first | (go_at_call 120; refine (setOf_some _ _ _ _ _ HF (by omega) _ (Kd.C_below hC1 ((Below.refl _ _).alloc (Nat.le_refl _) _))).mono ?_; rintro e w' ⟨rfl, rfl⟩) | (go_at_call 54; with_reducible refine (within_is _ _ _ _ H0 _).mono ?_; rintro e w' ⟨rfl, rfl⟩) | (go_at_call 54; with_reducible refine (within_is _ _ _ _ H1 _).mono ?_; rintro e w' ⟨rfl, rfl⟩) | (go_at_call 54; with_reducible refine (within_is _ _ _ _ H2 _).mono ?_; rintro e w' ⟨rfl, rfl⟩) | (at_builtin; refine ap_set (w0 := w) w.heap.size rfl _ _ rfl _ acc s rfl rfl (by simp) (Kd.R_alloc HO _) (HB.alloc HB.size _) (by have := HB.size; simp; omega) hal ?_; intro v1 w2 hO2 hB2 _ _))
        go_roundw
        case rel => exact ⟨k + 1, acc ++ [s], by omega, by go_num, by rw [List.length_append, HA.out]; rfl, Lib.hid (needsL_step HS.out HF.out (taskOk_true H0.out H1.out H2.out)), hO2, hB2⟩
        case measure => simp [intOf]; omega
   ·
    have hke : g.drop k = [] := List.drop_eq_nil_of_le (by omega)
    rw [hke] at HS
    clear hke
    have hS : needsN g = some acc := by rw [HS.out]; simp [needsL]
    have HS2 := Lib.hid hS
    clear hS HS
    go_wp2
    go_ret2
    refine ⟨_, by rw [HS2.out]; rfl, fun ns h => ?_, HB⟩
    rw [HS2.out] at h; cases h; exact HO
 ·
  have hn : needsN g = none := by rw [needsN, if_pos (by omega)]
  have HN := Lib.hid hn
  clear hn
  go_enter Tryz.func88, Tryz.ntmps88
  go_wp2
  go_ret2
  refine ⟨_, by rw [HN.out]; rfl, fun ns h => ?_, Below.refl _ _⟩
  rw [HN.out] at h; cases h
end Go.Proofs.YtlapphhcficbjaaGreatDoor

namespace Go.Proofs.YtlapphhcficbjaaGreatDoor
set_option linter.unusedVariables false
set_option linter.unusedSimpArgs false
open Go.RowKit Go.Shelf Bits
open Go.Proofs.YtlapphhcficbjaaGreatDoorW.PrintWords Go.Proofs.YtlapphhcficbjaaGreatDoorW.PrintLast Go.Proofs.YtlapphhcficbjaaGreatDoorW.PrintMore
theorem bits_andNot_u16 (a b : Nat) (ha : a < 65536) : bits .andNot .u16 (a : Int) (b : Int) = ((diff a b : Nat) : Int) := by
 have h1 : (BitVec.ofInt 16 (a : Int)) = BitVec.ofNat 16 a := by simp
 have h2 : (BitVec.ofInt 16 (b : Int)) = BitVec.ofNat 16 b := by simp
 show IntKind.u16.wrap ((BitVec.ofInt 16 (a : Int) &&& ~~~ BitVec.ofInt 16 (b : Int)).toNat : Int) = _
 rw [h1, h2]
 have e : (BitVec.ofNat 16 a &&& ~~~ BitVec.ofNat 16 b).toNat = diff a b := by
  apply Nat.eq_of_testBit_eq
  intro i
  rw [diff_bit, ← BitVec.getLsbD, BitVec.getLsbD_and, BitVec.getLsbD_not, BitVec.getLsbD_ofNat, BitVec.getLsbD_ofNat]
  by_cases hi : i < 16
  ·
   simp [hi]
  ·
   have : a.testBit i = false := Nat.testBit_lt_two_pow (Nat.lt_of_lt_of_le (show a < 2 ^ 16 from ha) (Nat.pow_le_pow_right (by omega) (by omega)))
   simp [hi, this]
 rw [e, wrap_u16']
 have := diff_lt (b := b) (n := 16) ha
 omega
def OrderPost (ns : List Nat) (w : World) (e : Ending) (w' : World) : Prop :=
 ∃ v, e = .returned (.tuple #[v, .int .u16 ((ordN ns ns.length).2 : Nat)]) ∧ Kd.R (Kd.int .i64) 3 w' w.heap.size (fun _ => True) v (ints (ordN ns ns.length).1) ∧ Below w.heap.size w w'
theorem not_ready_of_has {ns : List Nat} {done i : Nat} (h : done.testBit i = true) : isReady ns done i = false := by unfold isReady; rw [h]; rfl
theorem ready_of_not {ns : List Nat} {done i : Nat} (h : done.testBit i = false) : isReady ns done i = decide (diff (ns.getD i 0) done = 0) := by unfold isReady; rw [h]; rfl
set_option maxRecDepth 100000 in
set_option maxHeartbeats 2000000 in
theorem order_calls (A : Option Addr) (c : Nat) (ns : List Nat) (hlen : ns.length ≤ 15) (hns : ∀ i, ns.getD i 0 < 65536) (w : World) (hr : (Kd.int .u16).C w A ns.length (ints ns)) :
  Calls Tryz.prog 89 #[.slice A ns.length c] w (OrderPost ns w) := by
 have HR := Lib.hid hr
 clear hr
 have HNS := Lib.hid hns
 clear hns
 go_enter Tryz.func89, Tryz.ntmps89
 go_wp2
 have HB1 : Below w.heap.size w (w.alloc (.cells #[] 3)) := (Below.refl _ _).alloc (Nat.le_refl _) _
 have HO : Kd.R (Kd.int .i64) 3 (w.alloc (.cells #[] 3)) w.heap.size (fun _ => True) (.slice (some ⟨w.heap.size, 0, none⟩) 0 0) (ints []) := Kd.R_of_own (World.ownsRow_lit (base := w.heap.size) (size := 1) w #[] 0 (Nat.le_refl _) (by simp [maxLen]) rfl) (fun _ _ => trivial)
 go_loopw [4, 5, 11] (fun out s i wr => ∃ (k : Nat) (l : List Nat) (d : Nat), k ≤ ns.length ∧ i = .int .i64 k ∧ s = .int .u16 d ∧ Hid (ordN ns k = (l, d)) ∧ Kd.R (Kd.int .i64) 3 wr w.heap.size (fun _ => True) out (ints l) ∧ Below w.heap.size w wr) (fun _ _ i _ => ns.length - (intOf i).toNat)
 case atStart => exact ⟨0, [], 0, Nat.zero_le _, rfl, rfl, Lib.hid rfl, HO, HB1⟩
 case round =>
  clear HO HB1
  obtain ⟨k, l, d, hk, rfl, rfl, HS, HO, HB⟩ := hrel
  by_cases hlt : k < ns.length
  ·
   have hd : d < 65536 := by
    have := (ordN_lt ns k).1
    rw [HS.out] at this
    exact Nat.lt_of_lt_of_le this (pow_le_u16 (by omega))
   have hll : l.length < 1000000 := by
    have := (ordN_lt ns k).2.2
    rw [HS.out] at this
    simp at this
    omega
   go_wp2
   obtain ⟨wo, rfl⟩ : ∃ wo : World, wo = wr := ⟨_, rfl⟩
   go_loopw [4, 5, 15] (fun out s i wi => ∃ (j : Nat), j ≤ ns.length ∧ i = .int .i64 j ∧ s = .int .u16 d ∧ Hid (∀ q, q < j → isReady ns d q = false) ∧ Kd.R (Kd.int .i64) 3 wi w.heap.size (fun _ => True) out (ints l) ∧ Below w.heap.size w wi) (fun _ _ i _ => ns.length - (intOf i).toNat)
   case atStart => exact ⟨0, Nat.zero_le _, rfl, rfl, Lib.hid fun q h => absurd h (Nat.not_lt_zero _), HO, HB⟩
   case round =>
    clear HO HB
    obtain ⟨j, hj, rfl, rfl, hlow, HO, HB⟩ := hrel
    by_cases hjl : j < ns.length
    ·
     obtain ⟨ad, rfl, hc⟩ := at_set (Kd.C_below HR.out HB) j hjl
     have hx : ns.getD j 0 < 65536 := HNS.out j
     cases ht : d.testBit j
     ·
      have HT := Lib.hid ht
      clear ht
      cases hrd : isReady ns d j
      ·
       have HD := Lib.hid hrd
       have hb : (bits BinOp.andNot IntKind.u16 ((ns.getD j 0 : Nat) : Int) (d : Int) == 0) = false := by
        rw [bits_andNot_u16 _ d hx]
        have := hrd
        rw [ready_of_not HT.out, decide_eq_false_iff_not] at this
        simp only [beq_eq_false_iff_ne, ne_eq]
        omega
       clear hrd
       generalize ns.getD j 0 = x at hc hb hx
       go_wp2_with (go_at_call 117; refine (has_is _ d j HT hd (by omega) _).mono ?_; rintro e w' ⟨rfl, rfl⟩)
       go_roundw
       case rel => exact ⟨j + 1, by omega, by go_num, rfl, Lib.hid (fun q hq => by rcases Nat.lt_succ_iff_lt_or_eq.1 hq with h | h; exact hlow.out q h; rw [h]; exact HD.out), HO, HB⟩
       case measure => simp [intOf]; omega
      ·
       have HD := Lib.hid hrd
       have hb : (bits BinOp.andNot IntKind.u16 ((ns.getD j 0 : Nat) : Int) (d : Int) == 0) = true := by
        rw [bits_andNot_u16 _ d hx]
        have := hrd
        rw [ready_of_not HT.out, decide_eq_true_iff] at this
        rw [this]; rfl
       clear hrd
       have hstep : ordN ns (k + 1) = (l ++ [j], d ||| 2 ^ j) := by
        show ordStep ns (ordN ns k) = _
        rw [HS.out]
        unfold ordStep
        rw [firstReady_some hjl HD.out hlow.out]
       have HS2 := Lib.hid hstep
       clear hstep
       generalize ns.getD j 0 = x at hc hb hx
       go_wp2_with (first | (go_at_call 117; refine (has_is _ d j HT hd (by omega) _).mono ?_; rintro e w' ⟨rfl, rfl⟩) | (go_at_call 28; refine (with_calls d j hd (by omega) _).mono ?_; rintro e w' ⟨rfl, rfl⟩) | (at_builtin; refine ap_int (w0 := w) w.heap.size rfl _ _ rfl u4 (ints l) (j : Int) rfl rfl rfl HO HB HB.size (by rw [ints_length]; exact hll) ?_; intro v1 w2 hO2 hB2 _ _))
       go_roundw
       case rel => exact ⟨k + 1, l ++ [j], d ||| 2 ^ j, by omega, by go_num, rfl, HS2, by simpa [ints] using hO2, hB2⟩
       case measure => simp [intOf]; omega
     ·
      have HT := Lib.hid ht
      clear ht
      generalize ns.getD j 0 = x at hc hx
      go_wp2_with (go_at_call 117; refine (has_is _ d j HT hd (by omega) _).mono ?_; rintro e w' ⟨rfl, rfl⟩)
      go_roundw
      case rel => exact ⟨j + 1, by omega, by go_num, rfl, Lib.hid (fun q hq => by rcases Nat.lt_succ_iff_lt_or_eq.1 hq with h | h; exact hlow.out q h; rw [h]; exact not_ready_of_has HT.out), HO, HB⟩
      case measure => simp [intOf]; omega
    ·
     have hstep : ordN ns (k + 1) = (l, d) := by
      show ordStep ns (ordN ns k) = _
      rw [HS.out]
      unfold ordStep
      rw [firstReady_none (fun q hq => hlow.out q (by omega))]
     have HS2 := Lib.hid hstep
     clear hstep
     go_wp2
     go_roundw
     case rel => exact ⟨k + 1, l, d, by omega, by go_num, rfl, HS2, HO, HB⟩
     case measure => simp [intOf]; omega
  ·
   have hke : k = ns.length := by omega
   have HK := Lib.hid hke
   clear hke
   go_wp2
   go_ret2
   have e : ordN ns ns.length = (l, d) := by rw [← HK.out]; exact HS.out
   refine ⟨_, by rw [e]; rfl, by rw [e]; exact HO, HB⟩
end Go.Proofs.YtlapphhcficbjaaGreatDoor

namespace Go.Proofs.YtlapphhcficbjaaGreatDoor
set_option linter.unusedVariables false
set_option linter.unusedSimpArgs false
open Go.RowKit
variable {P : Program} {ops : Array Oper} {Q : Exit → Act → World → Prop}
theorem rowsIn_of_rows {n l : Nat} {row : String} {args : Array Value} {w : World} {R : Value → World → Prop} (h : Rows P row args w R) : RowsIn (Fence.wide.inRound l) n P row args w R :=
 fun c cs _ => by
  obtain ⟨v, w', hr, hs⟩ := h c cs
  exact ⟨v, w', hr, stepsIn_wide.2 hs⟩
theorem wpIn_of_wp_oper {l n : Nat} {o : Oper} {a : Act} {w : World} {K : Act → World → Prop} (hnd : ∀ c, o.op ≠ .defer c) (h : o.wp P a w K Q) : o.wpIn (Fence.wide.inRound l) n P a w K Q := by
 refine ⟨fun _ _ => trivial, ?_⟩
 rw [Fence.inRound_round, Oper.semAt_some l a.eval o hnd]
 unfold Oper.wp at h
 revert h
 cases (execOp a.eval o).run P w with
 | ok x w' =>
  cases x
  case enter f args => exact fun h => ⟨fun hd => by simp [Fence.wide] at hd, CallsIn.inRound l (callsIn_wide.2 h)⟩
  case row r args => exact fun h => ⟨fun hd => by simp [Fence.wide] at hd, rowsIn_of_rows h⟩
  all_goals first | exact fun h => h | exact fun h => h.elim
 | halt x w' =>
  cases x <;> first | exact fun h => h | exact fun h => h.elim
theorem wpOpIn_of_wpOp {l n i : Nat} {a : Act} {w : World} {K : Act → World → Prop} (hQ : ¬ LetsOut Q) (hnd : ∀ (i : Nat) (o : Oper) c, ops[i]? = some o → o.op ≠ .defer c) (h : wpOp P ops Q i K a w) : wpOpIn (Fence.wide.inRound l) n P ops Q i K a w := by
 unfold wpOp at h
 unfold wpOpIn
 cases ho : ops[i]? with
 | none => rw [ho] at h; exact h
 | some o =>
  rw [ho] at h
  simp only at h ⊢
  split
  ·
   rename_i hw
   rw [if_pos hw] at h
   rcases h with h | h
   ·
    exact wpIn_of_wp_oper (fun c => hnd i o c ho) h
   ·
    exact absurd h.2 hQ
  ·
   rename_i hw
   rw [if_neg hw] at h
   exact ⟨fun _ _ => trivial, h⟩
theorem wpAnyIn_of_wpAny {l n : Nat} (hQ : ¬ LetsOut Q) (hnd : ∀ (i : Nat) (o : Oper) c, ops[i]? = some o → o.op ≠ .defer c) : ∀ (fuel : Nat) (listed : Array Bool) (a : Act) (w : World),
  wpAny P .any ops Q fuel listed a w → wpAnyIn (Fence.wide.inRound l) n P .any ops Q fuel listed a w
 | 0, _, _, _, h => h
 | fuel + 1, listed, a, w, h => ⟨h.1, fun i hi => wpOpIn_of_wpOp hQ hnd (wpOp_mono (fun a' w' h' => wpAnyIn_of_wpAny hQ hnd fuel _ a' w' h') (h.2 i hi))⟩
def noDeferB (ops : Array Oper) : Bool := ops.toList.all fun o => match o.op with | .defer _ => false | _ => true
theorem noDefer_spec (h : noDeferB ops = true) (i : Nat) (o : Oper) (c : Call) (ho : ops[i]? = some o) : o.op ≠ .defer c := by
 intro e
 have := List.all_eq_true.1 h o (Array.mem_toList_iff.2 (Array.mem_of_getElem? ho))
 rw [e] at this
 cases this
theorem wpIn_region_still_tail {id l n : Nat} {a : Act} {w : World} {L : List Oper} (k : Nat) (hm : P.follows .mixedOrders = true) (hB : Region.lexTailB .any L.toArray k = true) (hd : noDeferB L.toArray = true) (hQ : ¬ LetsOut Q)
  (h : wpStill P L.toArray w.drew (fun a' => wpList P L.toArray Q (L.drop k) a' w.drew) (L.take k) a) : (Code.region id L.toArray true).wpIn (Fence.wide.inRound l) n P Q a w := by
 refine wpIn_region_any hm (wpAnyIn_of_wpAny hQ (noDefer_spec hd) _ _ _ _ ?_)
 simp only [Region.lexTailB, Bool.and_eq_true, decide_eq_true_eq] at hB
 obtain ⟨⟨⟨⟨hsel, hn⟩, hs⟩, hc⟩, hlex⟩ := hB
 have hk : k < L.length := by simpa using hn
 have e1 : (L.take k).length = k := by rw [List.length_take]; omega
 have e2 : (L.drop k).length = L.toArray.size - k := by rw [List.length_drop]; rfl
 have head := wpAnyL_lex (md := .any) (g := L.toArray.size - k) hsel hs hc hn (L.take k) 0 (Array.replicate L.toArray.size false) a
  (fun j hj => by rw [e1] at hj; rw [List.getElem?_take, if_pos hj, Nat.zero_add]; simp) (by rw [Nat.zero_add]; exact e1)
  ⟨by simp, fun j oj _ hl => (by rw [getD_replicate_false] at hl; cases hl), fun t _ ht => getD_in (by simpa using ht) (getD_replicate_false _ _)⟩ (by rw [e1]; exact hlex) h
 have all := wpAny_of_head (Q' := Q) (g := L.toArray.size - k) (fun listed a' hL => by
  have := wpAny_of_seq (md := .any) (Q' := Q) (L.drop k) k listed a' w.drew (fun j => by rw [List.getElem?_drop]; simp) (by rw [e2]; exact hL.1) hL.2
  rwa [e2] at this) _ _ _ head
 rwa [e1, show k + (L.toArray.size - k) = L.toArray.size from by omega] at all
end Go.Proofs.YtlapphhcficbjaaGreatDoor
