/- Parts of the proof, laid as one text by a program of mine. -/
import Derived.Test.YtlapphhcficbjaaGreatDoorKhc8
import Derived.Test.YtlapphhcficbjaaGreatDoorKhc16
import Derived.Test.YtlapphhcficbjaaGreatDoorKhc15
import Derived.Shelf.SlSortCmp.InsertionK
import Derived.Shelf.SlSortCmp.NoneTotal
import Derived.Test.YtlapphhcficbjaaGreatDoorProg
namespace Go.Proofs.YtlapphhcficbjaaGreatDoor.PFnValidLog
set_option linter.unusedVariables false
set_option linter.unusedSimpArgs false
open Go Go.RowKit
open Go.Proofs.YtlapphhcficbjaaGreatDoorW.PrintWords Go.Proofs.YtlapphhcficbjaaGreatDoorW.PrintLast Go.Proofs.YtlapphhcficbjaaGreatDoorW.PrintMore
theorem GOk_set {m n : Nat} {g : List S41} {t : S41} (h : GOk m n g) (i : Nat) (ht : t.f1.length ≤ n) : GOk m n (g.set i t) := by
 refine ⟨by rw [List.length_set]; exact h.1, fun x hx => ?_⟩
 rcases List.mem_or_eq_of_mem_set hx with hx | rfl
 ·
  exact h.2 x hx
 ·
  exact ht
theorem GOk_wide {m n m' n' : Nat} {g : List S41} (h : GOk m n g) (hm : m ≤ m') (hn : n ≤ n') : GOk m' n' g := ⟨Nat.le_trans h.1 hm, fun t ht => Nat.le_trans (h.2 t ht) hn⟩
section
variable {b : List Int} (hb : ∀ x ∈ b, 0 ≤ x ∧ x < 256) (hl : b.length ≤ 2000)
include hb hl
theorem anyGraph_gets (p : Int) (h0 : 0 ≤ p) (h1 : p ≤ 500000) : Gets (fun k => spec_anyGraph.f k b p) (fun r => GOk 16 10 r.1 ∧ 0 ≤ r.2 ∧ r.2 ≤ p + 300) := by
 unfold spec_anyGraph.f
 refine Gets.bind (someGraph_gets hb hl p h0 (by omega) 8 (by omega)) fun x hx => ?_
 obtain ⟨hg, x0, x1⟩ := hx
 have hgw := GOk_wide (m' := 16) (n' := 10) hg (by omega) (by omega)
 have hlen := hg.1
 refine Gets.ite (fun _ => Gets.ret ⟨hgw, x0, by omega⟩) (fun hne => ?_)
 refine Gets.bind (pick_gets hb hl x0 (by omega)) fun i hi => ?_
 obtain ⟨i1, i2, i3, i4⟩ := hi
 have i5 := i2 (by omega)
 have hmem := hg.2 _ (rdT_mem i1 i5)
 rw [i4]
 refine Gets.bind (pick_gets hb hl (by omega) (by omega)) fun q hq => ?_
 obtain ⟨q1, q2, q3, q4⟩ := hq
 rw [q4]
 refine Gets.ite (fun _ => ?_) (fun _ => Gets.ite (fun _ => ?_) (fun _ => Gets.ite (fun _ => ?_) (fun _ => Gets.ite (fun _ => ?_) (fun _ => Gets.ite (fun _ => ?_) (fun _ => Gets.ret ⟨hgw, by show 0 ≤ x.2 + 1 + 1; omega, by show x.2 + 1 + 1 ≤ p + 300; omega⟩)))))
 ·
  refine Gets.bind (one_gets hb hl (by omega) (by omega) (by simp)) fun t ht => ?_
  exact Gets.pos i1 (Gets.pos i5 (Gets.ret ⟨GOk_set hgw _ (by show (rd_T41 x.1 i.1).f1.length ≤ 10; omega), by show 0 ≤ t.2; omega, by show t.2 ≤ p + 300; omega⟩))
 ·
  refine Gets.bind (pick_gets hb hl (by omega) (by omega)) fun t ht => ?_
  obtain ⟨t1, t2, t3, t4⟩ := ht
  refine Gets.pos i1 (Gets.pos i5 (Gets.pos (by omega) ?_))
  rw [t4]
  refine Gets.bind (spoil_gets hb hl _ (by omega) (by omega) _ (by simp; omega) _) fun s hs => ?_
  obtain ⟨s1, s2, s3⟩ := hs
  exact Gets.ret ⟨GOk_set hgw _ (by show s.1.length ≤ 10; simp at s1; omega), by show 0 ≤ s.2; omega, by show s.2 ≤ p + 300; omega⟩
 ·
  refine Gets.bind (one_gets hb hl (by omega) (by omega) (by simp)) fun t ht => ?_
  exact Gets.pos i1 (Gets.pos i5 (Gets.ret ⟨GOk_set hgw _ (by show (rd_T41 x.1 i.1).f1.length ≤ 10; omega), by show 0 ≤ t.2; omega, by show t.2 ≤ p + 300; omega⟩))
 ·
  refine Gets.bind (one_gets hb hl (by omega) (by omega) (by simp)) fun t ht => ?_
  exact Gets.pos i1 (Gets.pos i5 (Gets.ret ⟨GOk_set hgw _ (by show (rd_T41 x.1 i.1).f1.length ≤ 10; omega), by show 0 ≤ t.2; omega, by show t.2 ≤ p + 300; omega⟩))
 ·
  refine Gets.bind (someGraph_gets hb hl _ (by omega) (by omega) 8 (by omega)) fun t ht => ?_
  obtain ⟨tg, t0, t1⟩ := ht
  have tl := tg.1
  refine Gets.pos (by omega) (Gets.ret ⟨⟨?_, fun y hy => ?_⟩, t0, by show t.2 ≤ p + 300; omega⟩)
  ·
   show (x.1 ++ t.1).length ≤ 16
   simp; omega
  ·
   rcases List.mem_append.1 hy with hy | hy
   ·
    exact hgw.2 y hy
   ·
    exact Nat.le_trans (tg.2 y hy) (by omega)
end
theorem newReader_some (l : List Int) : ∃ r, spec_newReader.f l = some (r, 0) ∧ r.length ≤ 2000 ∧ ∀ x ∈ r, x ∈ l := by
 unfold spec_newReader.f
 by_cases h : (l.length : Int) > 2000
 ·
  rw [if_pos h, if_pos (by omega)]
  exact ⟨_, rfl, by rw [List.length_take]; omega, fun x hx => List.mem_of_mem_take hx⟩
 ·
  rw [if_neg h]
  exact ⟨l, rfl, by omega, fun x hx => hx⟩
end Go.Proofs.YtlapphhcficbjaaGreatDoor.PFnValidLog

namespace Go.Proofs.YtlapphhcficbjaaGreatDoor
set_option linter.unusedVariables false
set_option linter.unusedSimpArgs false
open Go Go.RowKit Go.Shelf
open Go.Proofs.YtlapphhcficbjaaGreatDoorW.PrintWords Go.Proofs.YtlapphhcficbjaaGreatDoorW.PrintLast Go.Proofs.YtlapphhcficbjaaGreatDoorW.PrintMore
open PFnValidLog
def RdSt (w0 W : World) (rb : Nat) (M : Int) : Prop := ∃ b p, IsS71 w0 W rb b p ∧ (∀ x ∈ b, 0 ≤ x ∧ x < 256) ∧ b.length ≤ 2000 ∧ 0 ≤ p ∧ p ≤ M
theorem RdSt.lt {w0 W : World} {rb : Nat} {M : Int} (h : RdSt w0 W rb M) : rb < W.heap.size := by
 obtain ⟨b, p, hI, _⟩ := h
 exact hI.lt
theorem RdSt.wide {w0 W : World} {rb : Nat} {M M' : Int} (h : RdSt w0 W rb M) (hM : M ≤ M') : RdSt w0 W rb M' := by
 obtain ⟨b, p, hI, h1, h2, h3, h4⟩ := h
 exact ⟨b, p, hI, h1, h2, h3, by omega⟩
theorem RdSt.below {w0 W W' : World} {rb : Nat} {M : Int} (h : RdSt w0 W rb M) (hb : Below W.heap.size W W') : RdSt w0 W' rb M := by
 obtain ⟨b, p, hI, h1⟩ := h
 exact ⟨b, p, hI.below hb, h1⟩
def KeepUp (W W' : World) (rb : Nat) : Prop := W.heap.size ≤ W'.heap.size ∧ ∀ k, rb < k → k < W.heap.size → W'.heap[k]? = W.heap[k]?
theorem KeepUp.refl (W : World) (rb : Nat) : KeepUp W W rb := ⟨Nat.le_refl _, fun _ _ _ => rfl⟩
theorem KeepUp.of {W W' : World} {r rb : Nat} (h : KeepBut W W' r none) (hr : r ≤ rb) : KeepUp W W' rb := ⟨h.1, fun k hk hl => h.2 k hl (by omega) (by simp)⟩
theorem KeepUp.trans {W W1 W2 : World} {rb : Nat} (h : KeepUp W W1 rb) (k : KeepUp W1 W2 rb) : KeepUp W W2 rb := ⟨Nat.le_trans h.1 k.1, fun i hi hl => (k.2 i hi (Nat.lt_of_lt_of_le hl h.1)).trans (h.2 i hi hl)⟩
structure StI (W : World) (rb : Nat) (A : Option Addr) (l : List Int) : Prop where
 st : ∀ W', KeepUp W W' rb → (Kd.int .i64).C W' A l.length l
 ne : ∀ ad, A = some ad → 0 < l.length → ad.block ≠ rb
def StG (W : World) (rb : Nat) (A : Option Addr) (g : List Tk) : Prop := ∀ W', KeepUp W W' rb → kTk.C W' A g.length g
theorem keep_trans {w w1 w2 : World} {rb : Nat} (h : KeepBut w w1 rb none) (k : KeepBut w1 w2 rb none) : KeepBut w w2 rb none := h.trans k (.inl rfl)
theorem StI.keep {W W1 : World} {rb : Nat} {A : Option Addr} {l : List Int} (h : StI W rb A l) (hk : KeepBut W W1 rb none) : StI W1 rb A l := ⟨fun W' h' => h.st W' ((KeepUp.of hk (Nat.le_refl _)).trans h'), h.ne⟩
theorem StG.keep {W W1 : World} {rb : Nat} {A : Option Addr} {g : List Tk} (h : StG W rb A g) (hk : KeepBut W W1 rb none) : StG W1 rb A g := fun W' h' => h W' ((KeepUp.of hk (Nat.le_refl _)).trans h')
theorem StI.now {W : World} {rb : Nat} {A : Option Addr} {l : List Int} (h : StI W rb A l) : (Kd.int .i64).C W A l.length l := h.st W (KeepUp.refl _ _)
theorem StG.now {W : World} {rb : Nat} {A : Option Addr} {g : List Tk} (h : StG W rb A g) : kTk.C W A g.length g := h W (KeepUp.refl _ _)
theorem keep_below {w w1 : World} (rb : Nat) (h : Below w.heap.size w w1) : KeepBut w w1 rb none := KeepBut.of_below h rb none
theorem stI_of_R {W : World} {rb base : Nat} {v : Value} {l : List Int} (h : Kd.R (Kd.int .i64) 3 W base (fun _ => True) v l) (hrb : rb < base) : ∃ A c, v = .slice A l.length c ∧ l.length ≤ c ∧ StI W rb A l := by
 obtain ⟨A, c, rfl, hc, _⟩ := Kd.R_reads h
 refine ⟨A, c, rfl, hc, fun W' hk => ?_, fun ad e _ e2 => by have := Kd.R_base h ad.block (by rw [e]; simp [Value.ownBlock]); omega⟩
 have h2 := Kd.R_step (Kd.R_tight rfl h) (w1 := W') fun k hk' hlt => hk.2 k (by have := Kd.R_base h k hk'.symm; omega) hlt
 exact (Kd.R_reads' h2).2.2
theorem stI_of_Q {W : World} {rb base : Nat} {v : Value} {l : List Int} (h : Kd.Q (Kd.int .i64) 3 W base (fun _ => True) v l) (hrb : rb < base) : ∃ A c, v = .slice A l.length c ∧ l.length ≤ c ∧ StI W rb A l := by
 obtain ⟨A, c, rfl, hc, _⟩ := Kd.Q_reads h
 refine ⟨A, c, rfl, hc, fun W' hk => ?_, fun ad e _ e2 => by have := Kd.Q_base h ad.block (by rw [e]; simp [Value.ownBlock]); omega⟩
 have h2 := Kd.Q_step (Kd.Q_bound h) (fun k hk' hlt => hk.2 k (by have := hk'.2.1; omega) hlt)
 exact (Kd.Q_reads' h2).2.2
theorem newReader_any (A : Option Addr) (c : Nat) (l : List Int) (hb : ∀ x ∈ l, 0 ≤ x ∧ x < 256) (w : World) (hr : (Kd.int .u8).C w A l.length l) (hc : l.length ≤ c) :
  Calls Tryz.prog 51 #[.slice A l.length c] w fun e w' => ∃ rb, e = .returned (.pointer (some ⟨rb, 0, none⟩)) ∧ RdSt w w' rb 0 ∧ Below w.heap.size w w' := by
 obtain ⟨r, hr1, hr2, hr3⟩ := newReader_some l
 refine (spec_newReader.calls A c l r 0 w w (Below.refl _ _) hr hc hr1).mono ?_
 rintro e w' ⟨g, rfl, hI, hB, _⟩
 exact ⟨g, rfl, ⟨r, 0, hI, fun x hx => hb x (hr3 x hx), hr2, Int.le_refl _, Int.le_refl _⟩, hB⟩
theorem pick_any (rb : Nat) (M n : Int) (hM : M ≤ 900000) (w0 w : World) (hS : RdSt w0 w rb M) (hB : Below w0.heap.size w0 w) :
  Calls Tryz.prog 95 #[.pointer (some ⟨rb, 0, none⟩), .int .i64 n] w fun e w' => ∃ v, e = .returned (.int .i64 v) ∧ (0 ≤ v ∧ (0 < n → v < n)) ∧ RdSt w0 w' rb (M + 1) ∧ Below w0.heap.size w0 w' ∧ KeepBut w w' rb none := by
 obtain ⟨b, p, hI, h1, h2, h3, h4⟩ := hS
 obtain ⟨k0, r, ⟨hp1, hp2, hp3, hp4⟩, hk⟩ := pick_gets h1 h2 (n := n) h3 (by omega)
 refine (spec_reader_pick.calls k0 rb b p n r.1 r.2 w0 w hI hB (hk k0 (Nat.le_refl _))).mono ?_
 rintro e w' ⟨rfl, hI', hB', hK⟩
 exact ⟨_, rfl, ⟨hp1, hp2⟩, ⟨b, r.2, hI', h1, h2, by omega, by omega⟩, hB', hK⟩
theorem one_any (rb : Nat) (M : Int) (A : Option Addr) (c : Nat) (l : List Int) (hl : 0 < l.length) (hM : M ≤ 900000) (w0 w : World) (hS : RdSt w0 w rb M) (hB : Below w0.heap.size w0 w) (hr : (Kd.int .i64).C w A l.length l) (hc : l.length ≤ c) (hf : ∀ ad, A = some ad → 0 < l.length → ad.block ≠ rb) :
  Calls Tryz.prog 96 #[.pointer (some ⟨rb, 0, none⟩), .slice A l.length c] w fun e w' => ∃ v, e = .returned (.int .i64 v) ∧ v ∈ l ∧ RdSt w0 w' rb (M + 1) ∧ Below w0.heap.size w0 w' ∧ KeepBut w w' rb none := by
 obtain ⟨b, p, hI, h1, h2, h3, h4⟩ := hS
 obtain ⟨k0, r, ⟨hp1, hp2⟩, hk⟩ := one_gets h1 h2 (l := l) h3 (by omega) hl
 refine (spec_reader_one.calls k0 rb b p A c l r.1 r.2 w0 w hI hB hr hc hf (hk k0 (Nat.le_refl _))).mono ?_
 rintro e w' ⟨rfl, hI', hB', hK⟩
 exact ⟨_, rfl, hp1, ⟨b, r.2, hI', h1, h2, by omega, by omega⟩, hB', hK⟩
theorem spoil_any (rb : Nat) (M : Int) (A : Option Addr) (c : Nat) (l : List Int) (n : Int) (hl : l.length ≤ 1000) (hM : M ≤ 900000) (w0 w : World) (hS : RdSt w0 w rb M) (hB : Below w0.heap.size w0 w) (hr : (Kd.int .i64).C w A l.length l) (hc : l.length ≤ c) (hf : ∀ ad, A = some ad → 0 < l.length → ad.block ≠ rb) :
  Calls Tryz.prog 97 #[.pointer (some ⟨rb, 0, none⟩), .slice A l.length c, .int .i64 n] w fun e w' => ∃ A' c' l', e = .returned (.slice A' l'.length c') ∧ l'.length ≤ c' ∧ StI w' rb A' l' ∧ l'.length ≤ l.length + 1 ∧ RdSt w0 w' rb (M + 3) ∧ Below w0.heap.size w0 w' ∧ KeepBut w w' rb none := by
 have hlt := hS.lt
 obtain ⟨b, p, hI, h1, h2, h3, h4⟩ := hS
 obtain ⟨k0, r, ⟨hp1, hp2, hp3⟩, hk⟩ := spoil_gets h1 h2 p h3 (by omega) l hl n
 refine (spec_reader_spoil.calls k0 rb b p A c l n r.1 r.2 w0 w hI hB hr hc hf (hk k0 (Nat.le_refl _))).mono ?_
 rintro e w' ⟨v, rfl, hQ, hI', hB', hK⟩
 obtain ⟨A', c', rfl, hc', hSt⟩ := stI_of_Q (rb := rb) hQ hlt
 exact ⟨A', c', r.1, rfl, hc', hSt, hp1, ⟨b, r.2, hI', h1, h2, by omega, by omega⟩, hB', hK⟩
theorem anyGraph_any (rb : Nat) (M : Int) (hM : M ≤ 500000) (w0 w : World) (hS : RdSt w0 w rb M) (hB : Below w0.heap.size w0 w) :
  Calls Tryz.prog 52 #[.pointer (some ⟨rb, 0, none⟩)] w fun e w' => ∃ A' c' g, e = .returned (.slice A' g.length c') ∧ g.length ≤ c' ∧ StG w' rb A' g ∧ GOk 16 10 g ∧ RdSt w0 w' rb (M + 300) ∧ Below w0.heap.size w0 w' ∧ KeepBut w w' rb none := by
 have hlt := hS.lt
 obtain ⟨b, p, hI, h1, h2, h3, h4⟩ := hS
 obtain ⟨k0, r, ⟨hp1, hp2, hp3⟩, hk⟩ := anyGraph_gets h1 h2 p h3 (by omega)
 refine (spec_anyGraph.calls k0 rb b p r.1 r.2 w0 w hI hB (hk k0 (Nat.le_refl _))).mono ?_
 rintro e w' ⟨v, rfl, hN, hI', hB', hK⟩
 obtain ⟨A', c', rfl⟩ := Kd.N_slice hN
 refine ⟨A', c', r.1, rfl, (Kd.N_reads' hN).2.1, fun W' hW => ?_, hp1, ⟨b, r.2, hI', h1, h2, hp2, by omega⟩, hB', hK⟩
 exact (Kd.N_reads' (Kd.N_step hN (fun k hk' hlt => hW.2 k (by omega) hlt))).2.2
end Go.Proofs.YtlapphhcficbjaaGreatDoor

namespace Go.Proofs.YtlapphhcficbjaaGreatDoor
set_option linter.unusedVariables false
set_option linter.unusedSimpArgs false
open Go.RowKit Go.Shelf
open Go.Proofs.YtlapphhcficbjaaGreatDoorW.PrintWords Go.Proofs.YtlapphhcficbjaaGreatDoorW.PrintLast Go.Proofs.YtlapphhcficbjaaGreatDoorW.PrintMore
theorem lit_R (w : World) (l : List Int) (hl : l.length ≤ 1000) : Kd.R (Kd.int .i64) 3 (w.alloc (.cells (encs (Value.int .i64) l).toArray 3)) w.heap.size (fun _ => True) (.slice (some ⟨w.heap.size, 0, none⟩) l.length l.length) l := by
 refine Kd.R_of_own ?_ (fun _ _ => trivial)
 have h := World.ownsRow_lit (base := w.heap.size) (e := 3) (size := 1) w (encs (Value.int .i64) l).toArray l.length (Nat.le_refl _) (by simp [maxLen]; omega) (by simp [encs])
 rwa [List.toList_toArray] at h
theorem oneLit_any (rb : Nat) (M : Int) (l : List Int) (hl0 : 0 < l.length) (hl : l.length ≤ 1000) (hM : M ≤ 900000) (w0 w : World) (hS : RdSt w0 w rb M) (hB : Below w0.heap.size w0 w) :
  Calls Tryz.prog 96 #[.pointer (some ⟨rb, 0, none⟩), .slice (some ⟨w.heap.size, 0, none⟩) l.length l.length] (w.alloc (.cells (encs (Value.int .i64) l).toArray 3)) fun e w' => ∃ v, e = .returned (.int .i64 v) ∧ v ∈ l ∧ RdSt w0 w' rb (M + 1) ∧ Below w0.heap.size w0 w' ∧ KeepBut w w' rb none := by
 have hB1 : Below w.heap.size w (w.alloc (.cells (encs (Value.int .i64) l).toArray 3)) := (Below.refl _ _).alloc (Nat.le_refl _) _
 have hlt := hS.lt
 obtain ⟨A', c', e, hc, hC⟩ := Kd.R_reads (lit_R w l hl)
 cases e
 refine (one_any rb M _ _ l hl0 hM w0 _ (hS.below hB1) (hB.trans (hB1.mono hB.size)) hC (Nat.le_refl _) (fun ad e _ e2 => by cases e; simp at e2; omega)).mono ?_
 rintro e w' ⟨v, rfl, hv, h1, h2, h3⟩
 exact ⟨v, rfl, hv, h1, h2, keep_trans (keep_below rb hB1) h3⟩
theorem someWorkers_any (rb : Nat) (M : Int) (hM : M ≤ 900000) (w0 w : World) (hS : RdSt w0 w rb M) (hB : Below w0.heap.size w0 w) :
  Calls Tryz.prog 72 #[.pointer (some ⟨rb, 0, none⟩)] w fun e w' => ∃ v, e = .returned (.int .i64 v) ∧ (0 ≤ v ∧ v ≤ 5) ∧ RdSt w0 w' rb (M + 1) ∧ Below w0.heap.size w0 w' ∧ KeepBut w w' rb none := by
 have HS := Lib.hid hS
 have HB := Lib.hid hB
 clear hS hB
 go_enter Tryz.func72, Tryz.ntmps72
 go_wp2_with (go_at_call 96; refine (oneLit_any rb M [1, 2, 3, 4, 2, 0, 5] (by decide) (by decide) hM w0 _ HS.out HB.out).mono ?_; rintro e w1 ⟨v1, rfl, hv1, hS1, hB1, hK1⟩; have HV := Lib.hid hv1; clear hv1)
 go_ret
 refine ⟨v1, rfl, ?_, hS1, hB1, hK1⟩
 have := HV.out
 simp at this
 omega
set_option maxRecDepth 100000 in
set_option maxHeartbeats 2000000 in
theorem someRoom_any (rb : Nat) (M : Int) (hM : M ≤ 800000) (w0 w : World) (hS : RdSt w0 w rb M) (hB : Below w0.heap.size w0 w) :
  Calls Tryz.prog 71 #[.pointer (some ⟨rb, 0, none⟩)] w fun e w' => ∃ A' c' l', e = .returned (.slice A' l'.length c') ∧ l'.length ≤ c' ∧ StI w' rb A' l' ∧ l'.length ≤ 4 ∧ RdSt w0 w' rb (M + 6) ∧ Below w0.heap.size w0 w' ∧ KeepBut w w' rb none := by
 have HS := Lib.hid hS
 have HB := Lib.hid hB
 have HK := Lib.hid (KeepBut.refl w rb none)
 clear hS hB
 go_enter Tryz.func71, Tryz.ntmps71
 go_wp2_with (first
  | (go_at_call 96; refine (oneLit_any rb M [4, 5, 8, 4] (by decide) (by decide) (by omega) w0 _ HS.out HB.out).mono ?_; rintro e w1 ⟨v1, rfl, hv1, hS1, hB1, hK1⟩; have HS1 := Lib.hid hS1; have HB1 := Lib.hid hB1; have HK1 := Lib.hid hK1; clear hv1 hS1 hB1 hK1 HS)
  | (go_at_call 96; refine (oneLit_any rb (M + 1) [4, 6, 8] (by decide) (by decide) (by omega) w0 _ HS1.out HB1.out).mono ?_; rintro e w2 ⟨v2, rfl, hv2, hS2, hB2, hK2⟩; have HS2 := Lib.hid hS2; have HB2 := Lib.hid hB2; have HK2 := Lib.hid (keep_trans HK1.out hK2); clear hv2 hS2 hB2 hK2 HS1)
  | (go_at_call 96; refine (oneLit_any rb (M + 1 + 1) [4, 4, 7] (by decide) (by decide) (by omega) w0 _ HS2.out HB2.out).mono ?_; rintro e w3 ⟨v3, rfl, hv3, hS3, hB3, hK3⟩; have HS3 := Lib.hid hS3; have HB3 := Lib.hid hB3; have HK3 := Lib.hid (keep_trans HK2.out hK3); clear hv3 hS3 hB3 hK3 HS2)
  | (go_at_call 97; have hBa : Below w3.heap.size w3 (w3.alloc (.cells (encs (Value.int .i64) [v1, v2, v3]).toArray 3)) := (Below.refl _ _).alloc (Nat.le_refl _) _; have hrd := Kd.R_reads' (lit_R w3 [v1, v2, v3] (by simp)); refine (spoil_any rb (M + 1 + 1 + 1) _ _ [v1, v2, v3] 9 (by simp) (by omega) w0 _ (HS3.out.below hBa) (HB3.out.trans (hBa.mono HB3.out.size)) hrd.2.2 (Nat.le_refl _) (fun ad e _ e2 => by have := HS3.out.lt; cases e; simp at e2; omega)).mono ?_; rintro e w4 ⟨A4, c4, l4, rfl, hl4, hI4, hl4', hS4, hB4, hK4⟩; have HF := Lib.hid (And.intro hI4 (And.intro hl4' (And.intro hS4 (And.intro hB4 (keep_trans HK3.out (keep_trans (keep_below rb hBa) hK4)))))); clear hI4 hl4' hS4 hB4 hK4 hBa hrd))
 go_ret
 exact ⟨A4, c4, l4, rfl, hl4, HF.out.1, by have := HF.out.2.1; simpa using this, HF.out.2.2.1.wide (by omega), HF.out.2.2.2.1, HF.out.2.2.2.2⟩
end Go.Proofs.YtlapphhcficbjaaGreatDoor

namespace Go.Proofs.YtlapphhcficbjaaGreatDoor
set_option linter.unusedVariables false
set_option linter.unusedSimpArgs false
open Go.RowKit Go.Shelf Bits Go.Sort
open Go.Proofs.YtlapphhcficbjaaGreatDoorW.PrintWords Go.Proofs.YtlapphhcficbjaaGreatDoorW.PrintLast Go.Proofs.YtlapphhcficbjaaGreatDoorW.PrintMore
attribute [local go_sem] Oper.semAt_some
theorem grow2 (W : World) (a b : Obj) : (W.alloc a).alloc b = grow (W.drewN 0) #[a, b] := by
 rw [alloc_eq_grow, alloc_eq_grow, grow_grow]
 rfl
theorem grow3 (W : World) (a b c : Obj) : (((W.alloc a).alloc b).alloc c).drew = grow (W.drewN 1) #[a, b, c] := by
 rw [alloc_eq_grow, alloc_eq_grow, alloc_eq_grow, grow_grow, grow_grow]
 rfl
theorem lit2 (W : World) (x y : Int) : (Kd.int .i64).C (W.alloc (.cells #[.int .i64 x, .int .i64 y] 3)).drew (some ⟨W.heap.size, 0, none⟩) 2 [x, y] :=
 Kd.C_below (Kd.R_reads' (lit_R W [x, y] (by simp))).2.2 (Below.refl _ _).drew
set_option maxRecDepth 100000 in
set_option maxHeartbeats 4000000 in
theorem chgCmp_calls (a b : Ev) (W : World) :
  Calls Tryz.prog 91 #[.agg #[.int .i64 a.f0, .int .i64 a.f1, .bool a.f2], .agg #[.int .i64 b.f0, .int .i64 b.f1, .bool b.f2]] W fun e w' => e = .returned (.int .i64 (cmpE a b)) ∧ ∃ q os', w' = grow (W.drewN q) os' := by
 obtain ⟨a0, a1, a2⟩ := a
 obtain ⟨b0, b1, b2⟩ := b
 obtain ⟨r1, h1⟩ : ∃ r1, cmpI a0 b0 = r1 := ⟨_, rfl⟩
 obtain ⟨r2, h2⟩ : ∃ r2, cmpI a1 b1 = r2 := ⟨_, rfl⟩
 have H1 := Lib.hid h1
 have H2 := Lib.hid h2
 by_cases h0 : a0 = b0
 ·
  cases a2 <;> cases b2
  ·
   have HE : Hid (cmpE ⟨a0, a1, false⟩ ⟨b0, b1, false⟩ = if r1 ≠ 0 then r1 else r2) := Lib.hid (by unfold cmpE; rw [if_neg (fun h => h.2 rfl), ← h1, ← h2])
   obtain ⟨r, hr⟩ : ∃ r, (if r1 ≠ 0 then r1 else r2) = r := ⟨_, rfl⟩
   have HR : Hid (Hid ((if r1 ≠ 0 then r1 else r2) = r)) := Lib.hid (Lib.hid hr)
   rw [hr] at HE
   have d0 : (a0 == b0) = true := beq_iff_eq.2 h0
   clear hr h0 h1 h2
   simp only []
   go_enter Tryz.func91, Tryz.ntmps91
   go_wp2
   have ca0 : ((W.alloc (.cells #[.int .i64 a0, .int .i64 a1, .bool false] 80)).alloc (.cells #[.int .i64 b0, .int .i64 b1, .bool false] 80)).cell? ⟨W.heap.size, 0, none⟩ = some (.int .i64 a0) := by go_simp
   have ca1 : ((W.alloc (.cells #[.int .i64 a0, .int .i64 a1, .bool false] 80)).alloc (.cells #[.int .i64 b0, .int .i64 b1, .bool false] 80)).cell? ⟨W.heap.size, 1, none⟩ = some (.int .i64 a1) := by go_simp
   have cb0 : ((W.alloc (.cells #[.int .i64 a0, .int .i64 a1, .bool false] 80)).alloc (.cells #[.int .i64 b0, .int .i64 b1, .bool false] 80)).cell? ⟨W.heap.size + 1, 0, none⟩ = some (.int .i64 b0) := by go_simp
   have cb1 : ((W.alloc (.cells #[.int .i64 a0, .int .i64 a1, .bool false] 80)).alloc (.cells #[.int .i64 b0, .int .i64 b1, .bool false] 80)).cell? ⟨W.heap.size + 1, 1, none⟩ = some (.int .i64 b1) := by go_simp
   obtain ⟨W2, hW2⟩ : ∃ W2, W2 = (W.alloc (.cells #[.int .i64 a0, .int .i64 a1, .bool false] 80)).alloc (.cells #[.int .i64 b0, .int .i64 b1, .bool false] 80) := ⟨_, rfl⟩
   rw [← hW2] at ca0 ca1 cb0 cb1 ⊢
   have HW2 := Lib.hid hW2
   clear hW2
   go_still_tail 10, mixed
   repeat still_step
   still_call (compare_calls a0 b0 _)
   repeat still_step
   still_call (compare_calls a1 b1 _)
   repeat still_step
   refine wpStill_nil ?_
   rw [show cmpI a0 b0 = r1 from H1.out, show cmpI a1 b1 = r2 from H2.out]
   change wpList _ _ _ _ _ W2.drew
   go_wp2_with (go_at_call 92; refine (or_calls _ _ r1 r2 r HR.out _ (lit2 _ r1 r2)).mono ?_; rintro e w' ⟨rfl, rfl⟩)
   go_ret
   exact ⟨ret_int HE.out.symm, 1, _, by rw [HW2.out]; exact grow3 _ _ _ _⟩
  ·
   have HE : Hid (cmpE ⟨a0, a1, false⟩ ⟨b0, b1, true⟩ = 1) := Lib.hid (by unfold cmpE; rw [if_pos ⟨h0, by simp⟩]; rfl)
   have d0 : (a0 == b0) = true := beq_iff_eq.2 h0
   clear h0 h1 h2
   simp only [] 
   go_enter Tryz.func91, Tryz.ntmps91
   go_wp2
   go_ret
   exact ⟨ret_int HE.out.symm, 0, _, grow2 _ _ _⟩
  ·
   have HE : Hid (cmpE ⟨a0, a1, true⟩ ⟨b0, b1, false⟩ = -1) := Lib.hid (by unfold cmpE; rw [if_pos ⟨h0, by simp⟩]; rfl)
   have d0 : (a0 == b0) = true := beq_iff_eq.2 h0
   clear h0 h1 h2
   simp only [] 
   go_enter Tryz.func91, Tryz.ntmps91
   go_wp2
   go_ret
   exact ⟨ret_int HE.out.symm, 0, _, grow2 _ _ _⟩
  ·
   have HE : Hid (cmpE ⟨a0, a1, true⟩ ⟨b0, b1, true⟩ = if r1 ≠ 0 then r1 else r2) := Lib.hid (by unfold cmpE; rw [if_neg (fun h => h.2 rfl), ← h1, ← h2])
   obtain ⟨r, hr⟩ : ∃ r, (if r1 ≠ 0 then r1 else r2) = r := ⟨_, rfl⟩
   have HR : Hid (Hid ((if r1 ≠ 0 then r1 else r2) = r)) := Lib.hid (Lib.hid hr)
   rw [hr] at HE
   have d0 : (a0 == b0) = true := beq_iff_eq.2 h0
   clear hr h0 h1 h2
   simp only []
   go_enter Tryz.func91, Tryz.ntmps91
   go_wp2
   have ca0 : ((W.alloc (.cells #[.int .i64 a0, .int .i64 a1, .bool true] 80)).alloc (.cells #[.int .i64 b0, .int .i64 b1, .bool true] 80)).cell? ⟨W.heap.size, 0, none⟩ = some (.int .i64 a0) := by go_simp
   have ca1 : ((W.alloc (.cells #[.int .i64 a0, .int .i64 a1, .bool true] 80)).alloc (.cells #[.int .i64 b0, .int .i64 b1, .bool true] 80)).cell? ⟨W.heap.size, 1, none⟩ = some (.int .i64 a1) := by go_simp
   have cb0 : ((W.alloc (.cells #[.int .i64 a0, .int .i64 a1, .bool true] 80)).alloc (.cells #[.int .i64 b0, .int .i64 b1, .bool true] 80)).cell? ⟨W.heap.size + 1, 0, none⟩ = some (.int .i64 b0) := by go_simp
   have cb1 : ((W.alloc (.cells #[.int .i64 a0, .int .i64 a1, .bool true] 80)).alloc (.cells #[.int .i64 b0, .int .i64 b1, .bool true] 80)).cell? ⟨W.heap.size + 1, 1, none⟩ = some (.int .i64 b1) := by go_simp
   obtain ⟨W2, hW2⟩ : ∃ W2, W2 = (W.alloc (.cells #[.int .i64 a0, .int .i64 a1, .bool true] 80)).alloc (.cells #[.int .i64 b0, .int .i64 b1, .bool true] 80) := ⟨_, rfl⟩
   rw [← hW2] at ca0 ca1 cb0 cb1 ⊢
   have HW2 := Lib.hid hW2
   clear hW2
   go_still_tail 10, mixed
   repeat still_step
   still_call (compare_calls a0 b0 _)
   repeat still_step
   still_call (compare_calls a1 b1 _)
   repeat still_step
   refine wpStill_nil ?_
   rw [show cmpI a0 b0 = r1 from H1.out, show cmpI a1 b1 = r2 from H2.out]
   change wpList _ _ _ _ _ W2.drew
   go_wp2_with (go_at_call 92; refine (or_calls _ _ r1 r2 r HR.out _ (lit2 _ r1 r2)).mono ?_; rintro e w' ⟨rfl, rfl⟩)
   go_ret
   exact ⟨ret_int HE.out.symm, 1, _, by rw [HW2.out]; exact grow3 _ _ _ _⟩
 ·
  cases a2 <;> cases b2
  ·
   have HE : Hid (cmpE ⟨a0, a1, false⟩ ⟨b0, b1, false⟩ = if r1 ≠ 0 then r1 else r2) := Lib.hid (by unfold cmpE; rw [if_neg (fun h => h0 h.1), ← h1, ← h2])
   obtain ⟨r, hr⟩ : ∃ r, (if r1 ≠ 0 then r1 else r2) = r := ⟨_, rfl⟩
   have HR : Hid (Hid ((if r1 ≠ 0 then r1 else r2) = r)) := Lib.hid (Lib.hid hr)
   rw [hr] at HE
   have d0 : (a0 == b0) = false := beq_eq_false_iff_ne.2 h0
   clear hr h0 h1 h2
   simp only []
   go_enter Tryz.func91, Tryz.ntmps91
   go_wp2
   have ca0 : ((W.alloc (.cells #[.int .i64 a0, .int .i64 a1, .bool false] 80)).alloc (.cells #[.int .i64 b0, .int .i64 b1, .bool false] 80)).cell? ⟨W.heap.size, 0, none⟩ = some (.int .i64 a0) := by go_simp
   have ca1 : ((W.alloc (.cells #[.int .i64 a0, .int .i64 a1, .bool false] 80)).alloc (.cells #[.int .i64 b0, .int .i64 b1, .bool false] 80)).cell? ⟨W.heap.size, 1, none⟩ = some (.int .i64 a1) := by go_simp
   have cb0 : ((W.alloc (.cells #[.int .i64 a0, .int .i64 a1, .bool false] 80)).alloc (.cells #[.int .i64 b0, .int .i64 b1, .bool false] 80)).cell? ⟨W.heap.size + 1, 0, none⟩ = some (.int .i64 b0) := by go_simp
   have cb1 : ((W.alloc (.cells #[.int .i64 a0, .int .i64 a1, .bool false] 80)).alloc (.cells #[.int .i64 b0, .int .i64 b1, .bool false] 80)).cell? ⟨W.heap.size + 1, 1, none⟩ = some (.int .i64 b1) := by go_simp
   obtain ⟨W2, hW2⟩ : ∃ W2, W2 = (W.alloc (.cells #[.int .i64 a0, .int .i64 a1, .bool false] 80)).alloc (.cells #[.int .i64 b0, .int .i64 b1, .bool false] 80) := ⟨_, rfl⟩
   rw [← hW2] at ca0 ca1 cb0 cb1 ⊢
   have HW2 := Lib.hid hW2
   clear hW2
   go_still_tail 10, mixed
   repeat still_step
   still_call (compare_calls a0 b0 _)
   repeat still_step
   still_call (compare_calls a1 b1 _)
   repeat still_step
   refine wpStill_nil ?_
   rw [show cmpI a0 b0 = r1 from H1.out, show cmpI a1 b1 = r2 from H2.out]
   change wpList _ _ _ _ _ W2.drew
   go_wp2_with (go_at_call 92; refine (or_calls _ _ r1 r2 r HR.out _ (lit2 _ r1 r2)).mono ?_; rintro e w' ⟨rfl, rfl⟩)
   go_ret
   exact ⟨ret_int HE.out.symm, 1, _, by rw [HW2.out]; exact grow3 _ _ _ _⟩
  ·
   have HE : Hid (cmpE ⟨a0, a1, false⟩ ⟨b0, b1, true⟩ = if r1 ≠ 0 then r1 else r2) := Lib.hid (by unfold cmpE; rw [if_neg (fun h => h0 h.1), ← h1, ← h2])
   obtain ⟨r, hr⟩ : ∃ r, (if r1 ≠ 0 then r1 else r2) = r := ⟨_, rfl⟩
   have HR : Hid (Hid ((if r1 ≠ 0 then r1 else r2) = r)) := Lib.hid (Lib.hid hr)
   rw [hr] at HE
   have d0 : (a0 == b0) = false := beq_eq_false_iff_ne.2 h0
   clear hr h0 h1 h2
   simp only []
   go_enter Tryz.func91, Tryz.ntmps91
   go_wp2
   have ca0 : ((W.alloc (.cells #[.int .i64 a0, .int .i64 a1, .bool false] 80)).alloc (.cells #[.int .i64 b0, .int .i64 b1, .bool true] 80)).cell? ⟨W.heap.size, 0, none⟩ = some (.int .i64 a0) := by go_simp
   have ca1 : ((W.alloc (.cells #[.int .i64 a0, .int .i64 a1, .bool false] 80)).alloc (.cells #[.int .i64 b0, .int .i64 b1, .bool true] 80)).cell? ⟨W.heap.size, 1, none⟩ = some (.int .i64 a1) := by go_simp
   have cb0 : ((W.alloc (.cells #[.int .i64 a0, .int .i64 a1, .bool false] 80)).alloc (.cells #[.int .i64 b0, .int .i64 b1, .bool true] 80)).cell? ⟨W.heap.size + 1, 0, none⟩ = some (.int .i64 b0) := by go_simp
   have cb1 : ((W.alloc (.cells #[.int .i64 a0, .int .i64 a1, .bool false] 80)).alloc (.cells #[.int .i64 b0, .int .i64 b1, .bool true] 80)).cell? ⟨W.heap.size + 1, 1, none⟩ = some (.int .i64 b1) := by go_simp
   obtain ⟨W2, hW2⟩ : ∃ W2, W2 = (W.alloc (.cells #[.int .i64 a0, .int .i64 a1, .bool false] 80)).alloc (.cells #[.int .i64 b0, .int .i64 b1, .bool true] 80) := ⟨_, rfl⟩
   rw [← hW2] at ca0 ca1 cb0 cb1 ⊢
   have HW2 := Lib.hid hW2
   clear hW2
   go_still_tail 10, mixed
   repeat still_step
   still_call (compare_calls a0 b0 _)
   repeat still_step
   still_call (compare_calls a1 b1 _)
   repeat still_step
   refine wpStill_nil ?_
   rw [show cmpI a0 b0 = r1 from H1.out, show cmpI a1 b1 = r2 from H2.out]
   change wpList _ _ _ _ _ W2.drew
   go_wp2_with (go_at_call 92; refine (or_calls _ _ r1 r2 r HR.out _ (lit2 _ r1 r2)).mono ?_; rintro e w' ⟨rfl, rfl⟩)
   go_ret
   exact ⟨ret_int HE.out.symm, 1, _, by rw [HW2.out]; exact grow3 _ _ _ _⟩
  ·
   have HE : Hid (cmpE ⟨a0, a1, true⟩ ⟨b0, b1, false⟩ = if r1 ≠ 0 then r1 else r2) := Lib.hid (by unfold cmpE; rw [if_neg (fun h => h0 h.1), ← h1, ← h2])
   obtain ⟨r, hr⟩ : ∃ r, (if r1 ≠ 0 then r1 else r2) = r := ⟨_, rfl⟩
   have HR : Hid (Hid ((if r1 ≠ 0 then r1 else r2) = r)) := Lib.hid (Lib.hid hr)
   rw [hr] at HE
   have d0 : (a0 == b0) = false := beq_eq_false_iff_ne.2 h0
   clear hr h0 h1 h2
   simp only []
   go_enter Tryz.func91, Tryz.ntmps91
   go_wp2
   have ca0 : ((W.alloc (.cells #[.int .i64 a0, .int .i64 a1, .bool true] 80)).alloc (.cells #[.int .i64 b0, .int .i64 b1, .bool false] 80)).cell? ⟨W.heap.size, 0, none⟩ = some (.int .i64 a0) := by go_simp
   have ca1 : ((W.alloc (.cells #[.int .i64 a0, .int .i64 a1, .bool true] 80)).alloc (.cells #[.int .i64 b0, .int .i64 b1, .bool false] 80)).cell? ⟨W.heap.size, 1, none⟩ = some (.int .i64 a1) := by go_simp
   have cb0 : ((W.alloc (.cells #[.int .i64 a0, .int .i64 a1, .bool true] 80)).alloc (.cells #[.int .i64 b0, .int .i64 b1, .bool false] 80)).cell? ⟨W.heap.size + 1, 0, none⟩ = some (.int .i64 b0) := by go_simp
   have cb1 : ((W.alloc (.cells #[.int .i64 a0, .int .i64 a1, .bool true] 80)).alloc (.cells #[.int .i64 b0, .int .i64 b1, .bool false] 80)).cell? ⟨W.heap.size + 1, 1, none⟩ = some (.int .i64 b1) := by go_simp
   obtain ⟨W2, hW2⟩ : ∃ W2, W2 = (W.alloc (.cells #[.int .i64 a0, .int .i64 a1, .bool true] 80)).alloc (.cells #[.int .i64 b0, .int .i64 b1, .bool false] 80) := ⟨_, rfl⟩
   rw [← hW2] at ca0 ca1 cb0 cb1 ⊢
   have HW2 := Lib.hid hW2
   clear hW2
   go_still_tail 10, mixed
   repeat still_step
   still_call (compare_calls a0 b0 _)
   repeat still_step
   still_call (compare_calls a1 b1 _)
   repeat still_step
   refine wpStill_nil ?_
   rw [show cmpI a0 b0 = r1 from H1.out, show cmpI a1 b1 = r2 from H2.out]
   change wpList _ _ _ _ _ W2.drew
   go_wp2_with (go_at_call 92; refine (or_calls _ _ r1 r2 r HR.out _ (lit2 _ r1 r2)).mono ?_; rintro e w' ⟨rfl, rfl⟩)
   go_ret
   exact ⟨ret_int HE.out.symm, 1, _, by rw [HW2.out]; exact grow3 _ _ _ _⟩
  ·
   have HE : Hid (cmpE ⟨a0, a1, true⟩ ⟨b0, b1, true⟩ = if r1 ≠ 0 then r1 else r2) := Lib.hid (by unfold cmpE; rw [if_neg (fun h => h0 h.1), ← h1, ← h2])
   obtain ⟨r, hr⟩ : ∃ r, (if r1 ≠ 0 then r1 else r2) = r := ⟨_, rfl⟩
   have HR : Hid (Hid ((if r1 ≠ 0 then r1 else r2) = r)) := Lib.hid (Lib.hid hr)
   rw [hr] at HE
   have d0 : (a0 == b0) = false := beq_eq_false_iff_ne.2 h0
   clear hr h0 h1 h2
   simp only []
   go_enter Tryz.func91, Tryz.ntmps91
   go_wp2
   have ca0 : ((W.alloc (.cells #[.int .i64 a0, .int .i64 a1, .bool true] 80)).alloc (.cells #[.int .i64 b0, .int .i64 b1, .bool true] 80)).cell? ⟨W.heap.size, 0, none⟩ = some (.int .i64 a0) := by go_simp
   have ca1 : ((W.alloc (.cells #[.int .i64 a0, .int .i64 a1, .bool true] 80)).alloc (.cells #[.int .i64 b0, .int .i64 b1, .bool true] 80)).cell? ⟨W.heap.size, 1, none⟩ = some (.int .i64 a1) := by go_simp
   have cb0 : ((W.alloc (.cells #[.int .i64 a0, .int .i64 a1, .bool true] 80)).alloc (.cells #[.int .i64 b0, .int .i64 b1, .bool true] 80)).cell? ⟨W.heap.size + 1, 0, none⟩ = some (.int .i64 b0) := by go_simp
   have cb1 : ((W.alloc (.cells #[.int .i64 a0, .int .i64 a1, .bool true] 80)).alloc (.cells #[.int .i64 b0, .int .i64 b1, .bool true] 80)).cell? ⟨W.heap.size + 1, 1, none⟩ = some (.int .i64 b1) := by go_simp
   obtain ⟨W2, hW2⟩ : ∃ W2, W2 = (W.alloc (.cells #[.int .i64 a0, .int .i64 a1, .bool true] 80)).alloc (.cells #[.int .i64 b0, .int .i64 b1, .bool true] 80) := ⟨_, rfl⟩
   rw [← hW2] at ca0 ca1 cb0 cb1 ⊢
   have HW2 := Lib.hid hW2
   clear hW2
   go_still_tail 10, mixed
   repeat still_step
   still_call (compare_calls a0 b0 _)
   repeat still_step
   still_call (compare_calls a1 b1 _)
   repeat still_step
   refine wpStill_nil ?_
   rw [show cmpI a0 b0 = r1 from H1.out, show cmpI a1 b1 = r2 from H2.out]
   change wpList _ _ _ _ _ W2.drew
   go_wp2_with (go_at_call 92; refine (or_calls _ _ r1 r2 r HR.out _ (lit2 _ r1 r2)).mono ?_; rintro e w' ⟨rfl, rfl⟩)
   go_ret
   exact ⟨ret_int HE.out.symm, 1, _, by rw [HW2.out]; exact grow3 _ _ _ _⟩
end Go.Proofs.YtlapphhcficbjaaGreatDoor

namespace Go.Proofs.YtlapphhcficbjaaGreatDoor
set_option linter.unusedVariables false
set_option linter.unusedSimpArgs false
open Go.RowKit Go.Shelf Bits Go.Sort
open Go.Proofs.YtlapphhcficbjaaGreatDoorW.PrintWords Go.Proofs.YtlapphhcficbjaaGreatDoorW.PrintLast Go.Proofs.YtlapphhcficbjaaGreatDoorW.PrintMore
attribute [local go_sem] Oper.semAt_some
instance : Inhabited Ev := ⟨zEv⟩
def encE (x : Ev) : List Value := [.int .i64 x.f0, .int .i64 x.f1, .bool x.f2]
theorem ltOf_cmpE : ltOf cmpE = ltEB := by
 funext x y
 unfold ltOf ltEB
 rw [decide_eq_decide]
 exact cmpE_lt x y
theorem swoE : SWO (ltOf cmpE) where
 irrefl x := by rw [ltOf_cmpE]; unfold ltEB; exact decide_eq_false (ltE_irrefl x)
 trans x y z h1 h2 := by
  rw [ltOf_cmpE] at *
  unfold ltEB at *
  exact decide_eq_true (ltE_trans (of_decide_eq_true h1) (of_decide_eq_true h2))
 ntrans x y z h1 h2 := by
  rw [ltOf_cmpE] at *
  unfold ltEB at *
  have h1 := of_decide_eq_false h1
  have h2 := of_decide_eq_false h2
  apply decide_eq_false
  intro h
  by_cases hyx : ltE y x
  ·
   exact h2 (ltE_trans hyx h)
  ·
   obtain rfl := ltE_total h1 hyx
   exact h2 h
theorem ltE_anti (x y : Ev) (h1 : ltOf cmpE x y = false) (h2 : ltOf cmpE y x = false) : x = y := by
 rw [ltOf_cmpE] at *
 unfold ltEB at *
 exact ltE_total (of_decide_eq_false h1) (of_decide_eq_false h2)
theorem infoCh : (Tryz.prog.info? 80).map (fun i => (i.zero, i.size, i.bytes)) = some (some (.agg #[(.int .i64 0), (.int .i64 0), (.bool false)]), 3, 24) := by kernel_rfl
theorem flat_get (d : List Ev) (j c : Nat) (hj : j < d.length) (hc : c < 3) : (flatK encE 3 d.toArray)[j * 3 + c]! = (encE (d.toArray[j]!))[c]! := by
 rw [get_flatK _ _ _ _ (by simp; omega)]
 rw [show (j * 3 + c) / 3 = j by omega, show (j * 3 + c) % 3 = c by omega]
theorem arr_getD (d : List Ev) (j : Nat) (hj : j < d.length) : d.toArray[j]! = rdEv d j := by
 unfold rdEv
 rw [List.getD_eq_getElem?_getD, List.getElem?_eq_getElem hj]
 simp [hj]
theorem addA (b q : Nat) : (⟨b, 0, none⟩ : Addr).add q = ⟨b, q, none⟩ := by
 unfold Addr.add
 split <;> simp_all
theorem holds_of_C {W : World} {b n : Nat} {d : List Ev} (h : kEv.C W (some ⟨b, 0, none⟩) n d) (hf : ∀ j, W.frozen? ⟨b, j, none⟩ = false) : HoldsK encE 3 W b 0 d.toArray := by
 intro t ht
 have hn : d.length = n := h.1
 have ht : t < d.length * 3 := by simpa using ht
 refine ⟨?_, hf _⟩
 obtain ⟨ad, e, h0, h1, h2⟩ := at_Ev h (t / 3) (by omega)
 cases e
 have hj : t / 3 < d.length := by omega
 have e0 : t = (t / 3) * 3 + t % 3 := by omega
 have hm : t % 3 < 3 := Nat.mod_lt _ (by omega)
 have key : (flatK encE 3 d.toArray)[t]! = (encE (rdEv d (t / 3)))[t % 3]! := by
  have := flat_get d (t / 3) (t % 3) hj hm
  rw [← e0, arr_getD d _ hj] at this
  exact this
 show W.cell? ⟨b, 0 + t, none⟩ = some (id _)
 rw [key]
 have cs : ∀ c, c < 3 → W.cell? ⟨b, t / 3 * 3 + c, none⟩ = some ((encE (rdEv d (t / 3)))[c]!) := fun c hc => by
  rcases c with _ | _ | _ | c
  ·
   rw [addA] at h0
   exact h0
  ·
   rw [addA] at h1
   exact h1
  ·
   rw [addA] at h2
   exact h2
  ·
   omega
 have := cs (t % 3) hm
 rw [← e0] at this
 rw [Nat.zero_add]
 exact this
theorem C_of_holds {W : World} {b : Nat} {d : List Ev} (h : HoldsK encE 3 W b 0 d.toArray) (hl : d.length ≤ 1000) : kEv.C W (some ⟨b, 0, none⟩) d.length d := by
 refine ⟨rfl, by omega, fun _ => ⟨_, rfl, fun j p hj => ⟨[.int .i64 p.f0, .int .i64 p.f1, .bool p.f2], rfl, ?_, fun i u hu => ?_⟩⟩⟩
 ·
  exact kEv.K_of_M (kEv_mkM W 0 (fun _ => True) p)
 ·
  have hjl : j < d.length := by
   by_cases hjl : j < d.length
   ·
    exact hjl
   ·
    rw [List.getElem?_eq_none (by omega)] at hj
    cases hj
  have hi : i < 3 := by
   by_cases hi : i < 3
   ·
    exact hi
   ·
    rw [List.getElem?_eq_none (by simp; omega)] at hu
    cases hu
  have hp : p = rdEv d j := by
   unfold rdEv
   rw [List.getD_eq_getElem?_getD, hj]
   rfl
  have := (h (j * 3 + i) (by simp; omega)).1
  rw [flat_get d j i hjl hi, arr_getD d j hjl, ← hp] at this
  have e : (encE p)[i]! = u := by
   unfold encE
   rw [List.getElem!_eq_getElem?_getD, hu]
   rfl
  rw [e] at this
  have e2 : (⟨b, 0, none⟩ : Addr).add (j * kEv.sz + i) = ⟨b, 0 + (j * 3 + i), none⟩ := by
   show (⟨b, 0, none⟩ : Addr).add (j * 3 + i) = _
   unfold Addr.add
   split <;> simp_all
  rw [e2]
  exact this
section
variable {ops : Array Oper} {o : Oper} {rest : List Oper} {a : Act} {Q : Exit → Act → World → Prop} {w0 W : World}
theorem ap_ch2 (base : Nat) (hgd : o.guard = none) (s x : Operand) (ho : o.op = .call { callee := .builtin .append, args := #[s, x], argTypes := #[77, 77] })
  (v : Value) (xs : List Ev) (y z : Ev) (hs : a.eval s = v) {N : Nat} (hx : a.eval x = .slice (some ⟨N, 0, none⟩) 2 2) (hN : N = W.heap.size)
  (HO : Kd.R kEv 80 W base (fun _ => True) v xs) (HB : Below base w0 W) (hbase : base ≤ W.heap.size) (hl : xs.length < 1000000)
  (h : ∀ v1 w1, Kd.R kEv 80 w1 base (fun _ => True) v1 (xs ++ [y, z]) → Below base w0 w1 → wpList Tryz.prog ops Q rest (a.put o.dst v1) w1) :
  wpList Tryz.prog ops Q (o :: rest) a (W.alloc (.cells #[.int .i64 y.f0, .int .i64 y.f1, .bool y.f2, .int .i64 z.f0, .int .i64 z.f1, .bool z.f2] 80)) := by
 have hBa : Below W.heap.size W (W.alloc (.cells #[.int .i64 y.f0, .int .i64 y.f1, .bool y.f2, .int .i64 z.f0, .int .i64 z.f1, .bool z.f2] 80)) := (Below.refl _ _).alloc (Nat.le_refl _) _
 refine Kd.R_append_rows kEv base hgd s x 77 80 (.agg #[(.int .i64 0), (.int .i64 0), (.bool false)]) 24 ho Tryz.underlying77 infoCh rfl (by decide) (by decide)
  v xs [y, z] (some ⟨N, 0, none⟩) 2 2 (fun _ => True) (fun _ => False) hs hx (Kd.R_below HO hBa) (Rr := kEv.K (W.alloc (.cells #[.int .i64 y.f0, .int .i64 y.f1, .bool y.f2, .int .i64 z.f0, .int .i64 z.f1, .bool z.f2] 80))) ?_ (fun p cs hp => ?_) (fun _ hk => hk.elim) (fun _ _ => trivial) (HB.trans (hBa.mono hbase)) (by have := hBa.size; omega) (by omega) (fun v1 w1 h1 h2 _ _ => h v1 w1 h1 h2)
 ·
  subst hN
  refine ⟨rfl, by omega, fun _ => ⟨_, rfl, fun j p hj => ⟨[.int .i64 p.f0, .int .i64 p.f1, .bool p.f2], rfl, kEv.K_of_M (kEv_mkM _ 0 (fun _ => True) p), fun i u hu => ?_⟩⟩⟩
  have hblk := World.alloc_heap_new W (.cells #[.int .i64 y.f0, .int .i64 y.f1, .bool y.f2, .int .i64 z.f0, .int .i64 z.f1, .bool z.f2] 80)
  have e2 : ∀ q, (⟨W.heap.size, 0, none⟩ : Addr).add q = ⟨W.heap.size, q, none⟩ := fun q => by
   unfold Addr.add
   split <;> simp_all
  rw [e2]
  have hc := blk_cell hblk (j * kEv.sz + i)
  rw [hc]
  rcases j with _ | _ | j
  ·
   cases hj
   rcases i with _ | _ | _ | i
   ·
    simpa using hu
   ·
    simpa using hu
   ·
    simpa using hu
   ·
    simp at hu
  ·
   cases hj
   rcases i with _ | _ | _ | i
   ·
    simpa [show kEv.sz = 3 from rfl] using hu
   ·
    simpa [show kEv.sz = 3 from rfl] using hu
   ·
    simpa [show kEv.sz = 3 from rfl] using hu
   ·
    simp at hu
  ·
   simp at hj
 ·
  rw [kEv_open hp]
  exact kEv_mkM _ _ _ p
end
def ChR (W : World) (base : Nat) (A : Option Addr) (l : List Ev) : Prop := ∀ W', W.heap.size ≤ W'.heap.size → (∀ k, base ≤ k → k < W.heap.size → W'.heap[k]? = W.heap[k]?) → kEv.C W' A l.length l
theorem C_step_ev {W W' : World} {b n : Nat} {d : List Ev} (h : kEv.C W (some ⟨b, 0, none⟩) n d) (hb : W'.heap[b]? = W.heap[b]?) : kEv.C W' (some ⟨b, 0, none⟩) n d := by
 refine ⟨h.1, h.2.1, fun hn => ?_⟩
 obtain ⟨ad, e, hc⟩ := h.2.2 hn
 refine ⟨ad, e, fun j p hj => ?_⟩
 obtain ⟨c, h1, h2, h3⟩ := hc j p hj
 refine ⟨c, h1, ?_, fun i u hu => ?_⟩
 ·
  rw [kEv_open h2]
  exact kEv.K_of_M (kEv_mkM _ 0 (fun _ => True) p)
 ·
  have := h3 i u hu
  cases e
  have e2 : ∀ q, (⟨b, 0, none⟩ : Addr).add q = ⟨b, q, none⟩ := fun q => by
   unfold Addr.add
   split <;> simp_all
  rw [e2] at this ⊢
  rw [← this]
  unfold World.cell?
  simp only [hb]
-- @IF (*loop.example/buildscheduler/impl.graph).changes
theorem sorted_keeps (w : World) (b n : Nat) (d : List Ev) (os : Array Obj) (k : Nat) (hk : k ≠ b) (hl : k < w.heap.size) : (sortWorldK encE 3 w b 0 n d.toArray os).heap[k]? = w.heap[k]? := by
 unfold sortWorldK putRowK putRow mapBlock grow Sort.ahead
 show ((w.heap.modify b _) ++ os)[k]? = _
 rw [Array.getElem?_append_left (by simpa using hl), Array.getElem?_modify]
 simp [Ne.symm hk]
theorem sorted_size (w : World) (b n : Nat) (d : List Ev) (os : Array Obj) : w.heap.size ≤ (sortWorldK encE 3 w b 0 n d.toArray os).heap.size := by
 unfold sortWorldK putRowK putRow mapBlock grow Sort.ahead
 simp
theorem sorted_below {w0 w : World} {base b : Nat} (n : Nat) (d : List Ev) (os : Array Obj) (hB : Below base w0 w) (hb : base ≤ b) (hs : base ≤ w.heap.size) : Below base w0 (sortWorldK encE 3 w b 0 n d.toArray os) := by
 refine hB.trans ⟨rfl, rfl, rfl, ?_, fun k hk => sorted_keeps w b n d os k (by omega) (by omega)⟩
 have := sorted_size w b n d os
 omega
end Go.Proofs.YtlapphhcficbjaaGreatDoor

namespace Go.Proofs
open Go.Shelf
def Tryz.sortCh_ren : Go.Shelf.Ren := ⟨fun | 6 => 90 | 15 => 122 | 14 => 121 | 28 => 139 | 29 => 140 | 20 => 131 | 21 => 132 | 22 => 133 | 23 => 134 | 24 => 135 | 25 => 136 | 26 => 137 | 27 => 138 | 46 => 144 | 47 => 145 | 48 => 146 | 49 => 147 | 50 => 148 | 57 => 151 | n => n, fun | 22 => 77 | 24 => 80 | 25 => 141 | 3 => 3 | 39 => 92 | 0 => 0 | 53 => 147 | 55 => 150 | 4 => 4 | 46 => 184 | 45 => 183 | 50 => 188 | 5 => 5 | 9 => 9 | 66 => 194 | 70 => 198 | 76 => 200 | 77 => 201 | n => n, fun | n => n⟩
theorem Tryz.sortCh : Go.Proofs.SlLaysF0.n6 Tryz.prog Tryz.sortCh_ren := {
  mixed := by kernel_rfl
  f6 := ⟨Tryz.f90.name, by decide, Tryz.func90.trans (congrArg some (by kernel_rfl))⟩
  f14 := ⟨Tryz.f121.name, by decide, Tryz.func121.trans (congrArg some (by kernel_rfl))⟩
  f15 := Tryz.func122.trans (congrArg some (by kernel_rfl))
  f20 := ⟨Tryz.f131.name, by decide, Tryz.func131.trans (congrArg some (by kernel_rfl))⟩
  f21 := ⟨Tryz.f132.name, by decide, Tryz.func132.trans (congrArg some (by kernel_rfl))⟩
  f22 := ⟨Tryz.f133.name, by decide, Tryz.func133.trans (congrArg some (by kernel_rfl))⟩
  f23 := ⟨Tryz.f134.name, by decide, Tryz.func134.trans (congrArg some (by kernel_rfl))⟩
  f24 := ⟨Tryz.f135.name, by decide, Tryz.func135.trans (congrArg some (by kernel_rfl))⟩
  f25 := ⟨Tryz.f136.name, by decide, Tryz.func136.trans (congrArg some (by kernel_rfl))⟩
  f26 := ⟨Tryz.f137.name, by decide, Tryz.func137.trans (congrArg some (by kernel_rfl))⟩
  f27 := ⟨Tryz.f138.name, by decide, Tryz.func138.trans (congrArg some (by kernel_rfl))⟩
  f28 := Tryz.func139.trans (congrArg some (by kernel_rfl))
  f29 := Tryz.func140.trans (congrArg some (by kernel_rfl))
  f46 := ⟨Tryz.f144.name, by decide, Tryz.func144.trans (congrArg some (by kernel_rfl))⟩
  f47 := Tryz.func145.trans (congrArg some (by kernel_rfl))
  f48 := Tryz.func146.trans (congrArg some (by kernel_rfl))
  f49 := ⟨Tryz.f147.name, by decide, Tryz.func147.trans (congrArg some (by kernel_rfl))⟩
  f50 := ⟨Tryz.f148.name, by decide, Tryz.func148.trans (congrArg some (by kernel_rfl))⟩
  f57 := ⟨Tryz.f151.name, by decide, Tryz.func151.trans (congrArg some (by kernel_rfl))⟩
  t0 := Tryz.underlying0
  a0 := Tryz.isAgg0
  z0 := Tryz.sizeOf0
  v0 := Tryz.zeroValue0
  t3 := Tryz.underlying3
  a3 := Tryz.isAgg3
  z3 := Tryz.sizeOf3
  v3 := Tryz.zeroValue3
  t4 := Tryz.underlying4
  a4 := Tryz.isAgg4
  z4 := Tryz.sizeOf4
  v4 := Tryz.zeroValue4
  t5 := Tryz.underlying5
  a5 := Tryz.isAgg5
  z5 := Tryz.sizeOf5
  v5 := Tryz.zeroValue5
  t9 := Tryz.underlying9
  a9 := Tryz.isAgg9
  z9 := Tryz.sizeOf9
  v9 := Tryz.zeroValue9
  t22 := Tryz.underlying77
  a22 := Tryz.isAgg77
  z22 := Tryz.sizeOf77
  v22 := Tryz.zeroValue77
  t25 := Tryz.underlying141
  a25 := Tryz.isAgg141
  z25 := Tryz.sizeOf141
  v25 := Tryz.zeroValue141
  t39 := Tryz.underlying92
  a39 := Tryz.isAgg92
  z39 := Tryz.sizeOf92
  v39 := Tryz.zeroValue92
  t45 := Tryz.underlying183
  a45 := Tryz.isAgg183
  z45 := Tryz.sizeOf183
  v45 := Tryz.zeroValue183
  t46 := Tryz.underlying184
  a46 := Tryz.isAgg184
  z46 := Tryz.sizeOf184
  v46 := Tryz.zeroValue184
  t50 := Tryz.underlying188
  a50 := Tryz.isAgg188
  z50 := Tryz.sizeOf188
  v50 := Tryz.zeroValue188
  t53 := Tryz.underlying147
  a53 := Tryz.isAgg147
  z53 := Tryz.sizeOf147
  v53 := Tryz.zeroValue147
  t55 := Tryz.underlying150
  a55 := Tryz.isAgg150
  z55 := Tryz.sizeOf150
  v55 := Tryz.zeroValue150
  t66 := Tryz.underlying194
  a66 := Tryz.isAgg194
  z66 := Tryz.sizeOf194
  v66 := Tryz.zeroValue194
  t70 := Tryz.underlying198
  a70 := Tryz.isAgg198
  z70 := Tryz.sizeOf198
  v70 := Tryz.zeroValue198
  t76 := Tryz.underlying200
  a76 := Tryz.isAgg200
  z76 := Tryz.sizeOf200
  v76 := Tryz.zeroValue200
  t77 := Tryz.underlying201
  a77 := Tryz.isAgg201
  z77 := Tryz.sizeOf201
  v77 := Tryz.zeroValue201 }
end Go.Proofs

namespace Go.Proofs.YtlapphhcficbjaaGreatDoor
set_option linter.unusedVariables false
set_option linter.unusedSimpArgs false
open Go.RowKit Go.Shelf Bits Go.Sort
open Go.Proofs.YtlapphhcficbjaaGreatDoorW.PrintWords Go.Proofs.YtlapphhcficbjaaGreatDoorW.PrintLast Go.Proofs.YtlapphhcficbjaaGreatDoorW.PrintMore
attribute [local go_sem] Oper.semAt_some
set_option maxRecDepth 1000000 in
set_option maxHeartbeats 4000000 in
theorem sortCh_calls (W0 W : World) (base : Nat) (A : Option Addr) (c : Nat) (d : List Ev) (hR : Kd.R kEv 80 W base (fun _ => True) (.slice A d.length c) d) (hl : d.length ≤ 1000) (hB : Below base W0 W) (hbs : base ≤ W.heap.size) :
  Calls Tryz.prog 90 #[.slice A d.length c, .func (.func 91) #[] #[]] W fun e w' => e = .returned (.tuple #[]) ∧ ChR w' base A (d.mergeSort fun x y => !ltEB y x) ∧ Below base W0 w' := by
 by_cases h0 : d.length = 0
 ·
  obtain rfl : d = [] := List.eq_nil_of_length_eq_zero h0
  have hcon := AnyF.slices_SortFunc_none Tryz.sortCh A c (.func (.func 91) #[] #[]) W
  change Calls Tryz.prog 90 _ _ _ at hcon
  refine hcon.mono ?_
  rintro e w' ⟨rfl, rfl⟩
  refine ⟨rfl, fun W' _ _ => ?_, hB⟩
  rw [List.mergeSort_nil]
  exact ⟨rfl, by simp, fun hn => absurd hn (by simp)⟩
 ·
  obtain ⟨b, cap, e, hb, hlt, cells, hc⟩ := Kd.R_form hR (by omega)
  cases e
  have hC := (Kd.R_reads' hR).2.2
  have eg : ∀ args w, (callFunc 91 args).run Tryz.prog w = .ok (.enter 91 args) w := enters_of Tryz.func91 (by kernel_rfl) rfl
  have hcon := AnyQ.slices_SortFunc_total Tryz.sortCh 3 Tryz.isAgg80 Tryz.sizeOf80 encE (fun _ => rfl) (fun x v hv => by simp [encE] at hv; rcases hv with rfl | rfl | rfl <;> rfl) cmpE swoE 91 #[] b 0 c d.toArray W eg (fun _ _ _ _ x y => chgCmp_calls x y _) (holds_of_C hC (fun j => blk_frozen hc j)) hlt (by simp; omega) ltE_anti
  change Calls Tryz.prog 90 _ _ _ at hcon
  rw [ltOf_cmpE, List.size_toArray, List.toList_toArray] at hcon
  refine hcon.mono ?_
  rintro e w' ⟨rfl, n, os, rfl⟩
  have hp := List.mergeSort_perm d (fun x y => !ltEB y x)
  have hll : (d.mergeSort fun x y => !ltEB y x).length = d.length := hp.length_eq
  refine ⟨rfl, fun W' h1 h2 => ?_, sorted_below n _ os hB hb hbs⟩
  have hH := holdsK_grow encE 3 (putRowK encE 3 (Sort.ahead W n) b 0 (d.mergeSort fun x y => !ltEB y x).toArray) os b 0 (d.mergeSort fun x y => !ltEB y x).toArray (by unfold putRowK putRow mapBlock Sort.ahead; simpa using hlt) (holdsK_putRowK encE 3 (Sort.ahead W n) b 0 d.toArray _ (holdsK_ahead encE 3 W n b 0 _ (holds_of_C hC (fun j => blk_frozen hc j))) (by simp [hll]))
  have hC' := C_of_holds hH (by omega)
  have hsz := sorted_size W b n (d.mergeSort fun x y => !ltEB y x) os
  refine C_step_ev hC' (h2 b hb (by omega))
set_option maxRecDepth 1000000 in
set_option maxHeartbeats 4000000 in
theorem changes_calls (C : Nat) (g : List Tk) (ns : List Nat) (A' : Option Addr) (c' : Nat) (st : List Int) (hg : TOk g) (hs : SOk st) (hl : st.length = g.length) (w : World) (hG : IsGraph w C g ns) (hr' : (Kd.int .i64).C w A' st.length st) :
  Calls Tryz.prog 50 #[.pointer (some ⟨C, 0, none⟩), .slice A' st.length c'] w fun e w' => ∃ A c, e = .returned (.slice A (chgS g st).length c) ∧ ChR w' w.heap.size A (chgS g st) ∧ Below w.heap.size w w' := by
 obtain ⟨i0, hi, hz0, hz1, hz2⟩ := info_parts infoCh
 have HG := Lib.hid hG
 have HR' := Lib.hid hr'
 have HOK := Lib.hid hg
 have HS := Lib.hid hs
 have HL := Lib.hid hl
 have h8 := hg.1
 have hl8 : st.length ≤ 8 := by omega
 have hw2 : IntKind.i64.wrap (2 * (g.length : Int)) = ((2 * g.length : Nat) : Int) := by rw [show 2 * (g.length : Int) = ((2 * g.length : Nat) : Int) by omega]; exact IntWalk.i64_in _ (by omega)
 clear hG hr' hg hs hl
 go_enter Tryz.func50, Tryz.ntmps50
 go_wp2_with (first | (go_at_call 43; refine (size_calls _ C g ns HG.out).mono ?_; rintro e w' ⟨rfl, h⟩; obtain rfl : w = w' := h.symm) | (at_make; refine wpList_make_own _ rfl _ _ 77 rfl w.heap.size 80 i0 (.agg #[(.int .i64 0), (.int .i64 0), (.bool false)]) 3 Tryz.underlying77 hi hz0 hz1 .i64 .i64 _ (2 * g.length) rfl rfl rfl (by rw [hz2]; omega) (by simp only [maxLen]; omega) (Nat.le_refl _) ?_; intro w1 hown hg1))
 clear hw2
 have HB1 : Below w.heap.size w w1 := (Below.refl _ _).grown hg1 (Nat.le_refl _) (fun k e => by cases e)
 have HO : Kd.R kEv 80 w1 w.heap.size (fun _ => True) (.slice (some ⟨w.heap.size, 0, none⟩) 0 (2 * g.length)) [] := ⟨fun _ _ => trivial, [], hown, Reps.none _ _⟩
 clear hown hg1
 go_loopw [5, 14] (fun q i wr => ∃ j, j ≤ st.length ∧ i = .int .i64 (j : Nat) ∧ Kd.R kEv 80 wr w.heap.size (fun _ => True) q (chgN g st j) ∧ Below w.heap.size w wr) (fun _ i _ => st.length - (intOf i).toNat)
 case atStart => exact ⟨0, Nat.zero_le _, rfl, HO, HB1⟩
 case round =>
  clear HO HB1
  obtain ⟨j, hj, rfl, hO, hB⟩ := hrel
  by_cases hjl : j < st.length
  ·
   have hjj : decide ((j : Int) < (st.length : Int)) = true := decide_eq_true (by omega)
   have hji : (j : Int) < (st.length : Int) := by omega
   have hjg : j < g.length := by have := HL.out; omega
   have hjgi : (j : Int) < (g.length : Int) := by omega
   obtain ⟨Ag, cg, An, cn, Ao, co, vb, va, h1, h2, _, _⟩ := HG.out.below hB
   have cC := blk_cell h1 0
   simp at cC
   obtain ⟨ad, A3, c3, rfl, hx0, _⟩ := at_Tk h2 j hjg
   obtain ⟨ads, rfl, cs⟩ := at_num (Kd.C_below HR'.out hB) j hjl
   have HC : Hid (chgN g st (j + 1) = chgN g st j ++ [⟨st.getD j 0, (j : Int), false⟩, ⟨st.getD j 0 + (rdTk g j).f0, (j : Int), true⟩]) := Lib.hid rfl
   have hcl := chgN_len g st j
   have hsj := HS.out j
   have htj := HOK.out.2.1 j
   generalize chgN g st j = cl at hO HC hcl
   generalize st.getD j 0 = s at cs hsj HC
   generalize (rdTk g j).f0 = tm at hx0 htj HC
   have hcl6 : cl.length < 1000000 := by omega
   have hwr : IntKind.i64.wrap (s + tm) = s + tm := IntWalk.i64_in _ (by omega)
   clear h1 h2
   go_wp2_with (at_builtin; refine ap_ch2 (w0 := w) w.heap.size rfl _ _ rfl u5 cl ⟨s, (j : Int), false⟩ ⟨s + tm, (j : Int), true⟩ rfl rfl rfl hO hB hB.size hcl6 ?_; intro v1 w2 hO3 hB3)
   clear hwr
   go_roundw
   case rel => exact ⟨j + 1, by omega, by go_num, by rw [HC.out]; exact hO3, hB3⟩
   case measure => simp [intOf]; omega
  ·
   obtain rfl : j = st.length := by omega
   have hjj : decide ((st.length : Int) < (st.length : Int)) = false := decide_eq_false (by omega)
   obtain ⟨A9, c9, rfl, _, _⟩ := Kd.R_reads hO
   have hcl := chgN_len g st st.length
   have HE : Hid (chgN g st st.length = chgN g st g.length) := Lib.hid (by rw [HL.out])
   have HSC := Lib.hid (sortCh_calls w wr w.heap.size A9 c9 (chgN g st st.length) hO (by omega) hB hB.size)
   have HLN : Hid ((chgN g st st.length).length = (chgS g st).length) := Lib.hid (by rw [chgS_len, chgN_len, HL.out])
   have HSS : Hid ((chgN g st st.length).mergeSort (fun x y => !ltEB y x) = chgS g st) := Lib.hid (by rw [HE.out]; rfl)
   clear hO hB hcl
   generalize chgN g st st.length = cl at HSC HLN HSS
   go_wp2_with (go_at_call 90; refine HSC.out.mono ?_; rintro e w3 ⟨rfl, hR3, hB3⟩)
   go_ret
   exact ⟨A9, c9, by rw [HLN.out]; rfl, by rw [← HSS.out]; exact hR3, hB3⟩
end Go.Proofs.YtlapphhcficbjaaGreatDoor
