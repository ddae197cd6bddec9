/- Parts of the proof, laid as one text by a program of mine. -/
import Derived.Test.YtkljcdghbefceaaGreatDoorKbtc10
import Derived.Test.YtkljcdghbefceaaGreatDoorKbtc21
import Derived.Deep.RegionHeld3
import Derived.Deep.RegionWith
import Derived.Test.YtkljcdghbefceaaGreatDoorKbtc12
import Derived.Test.YtkljcdghbefceaaGreatDoorKbtc5
import Derived.StillTailTactics
import Derived.Sort.Grow
import Derived.Shelf.SlSortCmp.InsertionK
namespace Go.Proofs.YtkljcdghbefceaaGreatDoor.PFnValidLog
set_option linter.unusedVariables false
set_option linter.unusedSimpArgs false
open Go Go.RowKit
open Go.Proofs.YtkljcdghbefceaaGreatDoorW.PrintWords Go.Proofs.YtkljcdghbefceaaGreatDoorW.PrintLast Go.Proofs.YtkljcdghbefceaaGreatDoorW.PrintMore
theorem GOk_set {m n : Nat} {g : List S41} {t : S41} (h : GOk m n g) (i : Nat) (ht : t.f1.length ≤ n) : GOk m n (g.set i t) := by
 refine ⟨by rw [List.length_set]; exact h.1, fun x hx => ?_⟩
 rcases List.mem_or_eq_of_mem_set hx with hx | rfl
 ·
  exact h.2 x hx
 ·
  exact ht
theorem GOk_wide {m n m' n' : Nat} {g : List S41} (h : GOk m n g) (hm : m ≤ m') (hn : n ≤ n') : GOk m' n' g := ⟨Nat.le_trans h.1 hm, fun t ht => Nat.le_trans (h.2 t ht) hn⟩
section
variable {b : List Int} (hb : ∀ x ∈ b, 0 ≤ x ∧ x < 256) (hl : b.length ≤ 2000)
include hb hl
theorem anyGraph_gets (p : Int) (h0 : 0 ≤ p) (h1 : p ≤ 500000) : Gets (fun k => spec_anyGraph.f k b p) (fun r => GOk 16 10 r.1 ∧ 0 ≤ r.2 ∧ r.2 ≤ p + 300) := by
 unfold spec_anyGraph.f
 refine Gets.bind (someGraph_gets hb hl p h0 (by omega) 8 (by omega)) fun x hx => ?_
 obtain ⟨hg, x0, x1⟩ := hx
 have hgw := GOk_wide (m' := 16) (n' := 10) hg (by omega) (by omega)
 have hlen := hg.1
 refine Gets.ite (fun _ => Gets.ret ⟨hgw, x0, by omega⟩) (fun hne => ?_)
 refine Gets.bind (pick_gets hb hl x0 (by omega)) fun i hi => ?_
 obtain ⟨i1, i2, i3, i4⟩ := hi
 have i5 := i2 (by omega)
 have hmem := hg.2 _ (rdT_mem i1 i5)
 rw [i4]
 refine Gets.bind (pick_gets hb hl (by omega) (by omega)) fun q hq => ?_
 obtain ⟨q1, q2, q3, q4⟩ := hq
 rw [q4]
 refine Gets.ite (fun _ => ?_) (fun _ => Gets.ite (fun _ => ?_) (fun _ => Gets.ite (fun _ => ?_) (fun _ => Gets.ite (fun _ => ?_) (fun _ => Gets.ite (fun _ => ?_) (fun _ => Gets.ret ⟨hgw, by show 0 ≤ x.2 + 1 + 1; omega, by show x.2 + 1 + 1 ≤ p + 300; omega⟩)))))
 ·
  refine Gets.bind (one_gets hb hl (by omega) (by omega) (by simp)) fun t ht => ?_
  exact Gets.pos i1 (Gets.pos i5 (Gets.ret ⟨GOk_set hgw _ (by show (rd_T41 x.1 i.1).f1.length ≤ 10; omega), by show 0 ≤ t.2; omega, by show t.2 ≤ p + 300; omega⟩))
 ·
  refine Gets.bind (pick_gets hb hl (by omega) (by omega)) fun t ht => ?_
  obtain ⟨t1, t2, t3, t4⟩ := ht
  refine Gets.pos i1 (Gets.pos i5 (Gets.pos (by omega) ?_))
  rw [t4]
  refine Gets.bind (spoil_gets hb hl _ (by omega) (by omega) _ (by simp; omega) _) fun s hs => ?_
  obtain ⟨s1, s2, s3⟩ := hs
  exact Gets.ret ⟨GOk_set hgw _ (by show s.1.length ≤ 10; simp at s1; omega), by show 0 ≤ s.2; omega, by show s.2 ≤ p + 300; omega⟩
 ·
  refine Gets.bind (one_gets hb hl (by omega) (by omega) (by simp)) fun t ht => ?_
  exact Gets.pos i1 (Gets.pos i5 (Gets.ret ⟨GOk_set hgw _ (by show (rd_T41 x.1 i.1).f1.length ≤ 10; omega), by show 0 ≤ t.2; omega, by show t.2 ≤ p + 300; omega⟩))
 ·
  refine Gets.bind (one_gets hb hl (by omega) (by omega) (by simp)) fun t ht => ?_
  exact Gets.pos i1 (Gets.pos i5 (Gets.ret ⟨GOk_set hgw _ (by show (rd_T41 x.1 i.1).f1.length ≤ 10; omega), by show 0 ≤ t.2; omega, by show t.2 ≤ p + 300; omega⟩))
 ·
  refine Gets.bind (someGraph_gets hb hl _ (by omega) (by omega) 8 (by omega)) fun t ht => ?_
  obtain ⟨tg, t0, t1⟩ := ht
  have tl := tg.1
  refine Gets.pos (by omega) (Gets.ret ⟨⟨?_, fun y hy => ?_⟩, t0, by show t.2 ≤ p + 300; omega⟩)
  ·
   show (x.1 ++ t.1).length ≤ 16
   simp; omega
  ·
   rcases List.mem_append.1 hy with hy | hy
   ·
    exact hgw.2 y hy
   ·
    exact Nat.le_trans (tg.2 y hy) (by omega)
end
theorem newReader_some (l : List Int) : ∃ r, spec_newReader.f l = some (r, 0) ∧ r.length ≤ 2000 ∧ ∀ x ∈ r, x ∈ l := by
 unfold spec_newReader.f
 by_cases h : (l.length : Int) > 2000
 ·
  rw [if_pos h, if_pos (by omega)]
  exact ⟨_, rfl, by rw [List.length_take]; omega, fun x hx => List.mem_of_mem_take hx⟩
 ·
  rw [if_neg h]
  exact ⟨l, rfl, by omega, fun x hx => hx⟩
end Go.Proofs.YtkljcdghbefceaaGreatDoor.PFnValidLog

namespace Go.Proofs.YtkljcdghbefceaaGreatDoor
set_option linter.unusedVariables false
set_option linter.unusedSimpArgs false
open Go Go.RowKit Go.Shelf
open Go.Proofs.YtkljcdghbefceaaGreatDoorW.PrintWords Go.Proofs.YtkljcdghbefceaaGreatDoorW.PrintLast Go.Proofs.YtkljcdghbefceaaGreatDoorW.PrintMore
open PFnValidLog
def RdSt (w0 W : World) (rb : Nat) (M : Int) : Prop := ∃ b p, IsS71 w0 W rb b p ∧ (∀ x ∈ b, 0 ≤ x ∧ x < 256) ∧ b.length ≤ 2000 ∧ 0 ≤ p ∧ p ≤ M
theorem RdSt.lt {w0 W : World} {rb : Nat} {M : Int} (h : RdSt w0 W rb M) : rb < W.heap.size := by
 obtain ⟨b, p, hI, _⟩ := h
 exact hI.lt
theorem RdSt.wide {w0 W : World} {rb : Nat} {M M' : Int} (h : RdSt w0 W rb M) (hM : M ≤ M') : RdSt w0 W rb M' := by
 obtain ⟨b, p, hI, h1, h2, h3, h4⟩ := h
 exact ⟨b, p, hI, h1, h2, h3, by omega⟩
theorem RdSt.below {w0 W W' : World} {rb : Nat} {M : Int} (h : RdSt w0 W rb M) (hb : Below W.heap.size W W') : RdSt w0 W' rb M := by
 obtain ⟨b, p, hI, h1⟩ := h
 exact ⟨b, p, hI.below hb, h1⟩
def KeepUp (W W' : World) (rb : Nat) : Prop := W.heap.size ≤ W'.heap.size ∧ ∀ k, rb < k → k < W.heap.size → W'.heap[k]? = W.heap[k]?
theorem KeepUp.refl (W : World) (rb : Nat) : KeepUp W W rb := ⟨Nat.le_refl _, fun _ _ _ => rfl⟩
theorem KeepUp.of {W W' : World} {r rb : Nat} (h : KeepBut W W' r none) (hr : r ≤ rb) : KeepUp W W' rb := ⟨h.1, fun k hk hl => h.2 k hl (by omega) (by simp)⟩
theorem KeepUp.trans {W W1 W2 : World} {rb : Nat} (h : KeepUp W W1 rb) (k : KeepUp W1 W2 rb) : KeepUp W W2 rb := ⟨Nat.le_trans h.1 k.1, fun i hi hl => (k.2 i hi (Nat.lt_of_lt_of_le hl h.1)).trans (h.2 i hi hl)⟩
structure StI (W : World) (rb : Nat) (A : Option Addr) (l : List Int) : Prop where
 st : ∀ W', KeepUp W W' rb → (Kd.int .i64).C W' A l.length l
 ne : ∀ ad, A = some ad → 0 < l.length → ad.block ≠ rb
def StG (W : World) (rb : Nat) (A : Option Addr) (g : List Tk) : Prop := ∀ W', KeepUp W W' rb → kTk.C W' A g.length g
theorem keep_trans {w w1 w2 : World} {rb : Nat} (h : KeepBut w w1 rb none) (k : KeepBut w1 w2 rb none) : KeepBut w w2 rb none := h.trans k (.inl rfl)
theorem StI.keep {W W1 : World} {rb : Nat} {A : Option Addr} {l : List Int} (h : StI W rb A l) (hk : KeepBut W W1 rb none) : StI W1 rb A l := ⟨fun W' h' => h.st W' ((KeepUp.of hk (Nat.le_refl _)).trans h'), h.ne⟩
theorem StG.keep {W W1 : World} {rb : Nat} {A : Option Addr} {g : List Tk} (h : StG W rb A g) (hk : KeepBut W W1 rb none) : StG W1 rb A g := fun W' h' => h W' ((KeepUp.of hk (Nat.le_refl _)).trans h')
theorem StI.now {W : World} {rb : Nat} {A : Option Addr} {l : List Int} (h : StI W rb A l) : (Kd.int .i64).C W A l.length l := h.st W (KeepUp.refl _ _)
theorem StG.now {W : World} {rb : Nat} {A : Option Addr} {g : List Tk} (h : StG W rb A g) : kTk.C W A g.length g := h W (KeepUp.refl _ _)
theorem keep_below {w w1 : World} (rb : Nat) (h : Below w.heap.size w w1) : KeepBut w w1 rb none := KeepBut.of_below h rb none
theorem stI_of_R {W : World} {rb base : Nat} {v : Value} {l : List Int} (h : Kd.R (Kd.int .i64) 3 W base (fun _ => True) v l) (hrb : rb < base) : ∃ A c, v = .slice A l.length c ∧ l.length ≤ c ∧ StI W rb A l := by
 obtain ⟨A, c, rfl, hc, _⟩ := Kd.R_reads h
 refine ⟨A, c, rfl, hc, fun W' hk => ?_, fun ad e _ e2 => by have := Kd.R_base h ad.block (by rw [e]; simp [Value.ownBlock]); omega⟩
 have h2 := Kd.R_step (Kd.R_tight rfl h) (w1 := W') fun k hk' hlt => hk.2 k (by have := Kd.R_base h k hk'.symm; omega) hlt
 exact (Kd.R_reads' h2).2.2
theorem stI_of_Q {W : World} {rb base : Nat} {v : Value} {l : List Int} (h : Kd.Q (Kd.int .i64) 3 W base (fun _ => True) v l) (hrb : rb < base) : ∃ A c, v = .slice A l.length c ∧ l.length ≤ c ∧ StI W rb A l := by
 obtain ⟨A, c, rfl, hc, _⟩ := Kd.Q_reads h
 refine ⟨A, c, rfl, hc, fun W' hk => ?_, fun ad e _ e2 => by have := Kd.Q_base h ad.block (by rw [e]; simp [Value.ownBlock]); omega⟩
 have h2 := Kd.Q_step (Kd.Q_bound h) (fun k hk' hlt => hk.2 k (by have := hk'.2.1; omega) hlt)
 exact (Kd.Q_reads' h2).2.2
theorem newReader_any (A : Option Addr) (c : Nat) (l : List Int) (hb : ∀ x ∈ l, 0 ≤ x ∧ x < 256) (w : World) (hr : (Kd.int .u8).C w A l.length l) (hc : l.length ≤ c) :
  Calls Tryz.prog 27 #[.slice A l.length c] w fun e w' => ∃ rb, e = .returned (.pointer (some ⟨rb, 0, none⟩)) ∧ RdSt w w' rb 0 ∧ Below w.heap.size w w' := by
 obtain ⟨r, hr1, hr2, hr3⟩ := newReader_some l
 refine (spec_newReader.calls A c l r 0 w w (Below.refl _ _) hr hc hr1).mono ?_
 rintro e w' ⟨g, rfl, hI, hB, _⟩
 exact ⟨g, rfl, ⟨r, 0, hI, fun x hx => hb x (hr3 x hx), hr2, Int.le_refl _, Int.le_refl _⟩, hB⟩
theorem pick_any (rb : Nat) (M n : Int) (hM : M ≤ 900000) (w0 w : World) (hS : RdSt w0 w rb M) (hB : Below w0.heap.size w0 w) :
  Calls Tryz.prog 54 #[.pointer (some ⟨rb, 0, none⟩), .int .i64 n] w fun e w' => ∃ v, e = .returned (.int .i64 v) ∧ (0 ≤ v ∧ (0 < n → v < n)) ∧ RdSt w0 w' rb (M + 1) ∧ Below w0.heap.size w0 w' ∧ KeepBut w w' rb none := by
 obtain ⟨b, p, hI, h1, h2, h3, h4⟩ := hS
 obtain ⟨k0, r, ⟨hp1, hp2, hp3, hp4⟩, hk⟩ := pick_gets h1 h2 (n := n) h3 (by omega)
 refine (spec_reader_pick.calls k0 rb b p n r.1 r.2 w0 w hI hB (hk k0 (Nat.le_refl _))).mono ?_
 rintro e w' ⟨rfl, hI', hB', hK⟩
 exact ⟨_, rfl, ⟨hp1, hp2⟩, ⟨b, r.2, hI', h1, h2, by omega, by omega⟩, hB', hK⟩
theorem one_any (rb : Nat) (M : Int) (A : Option Addr) (c : Nat) (l : List Int) (hl : 0 < l.length) (hM : M ≤ 900000) (w0 w : World) (hS : RdSt w0 w rb M) (hB : Below w0.heap.size w0 w) (hr : (Kd.int .i64).C w A l.length l) (hc : l.length ≤ c) (hf : ∀ ad, A = some ad → 0 < l.length → ad.block ≠ rb) :
  Calls Tryz.prog 58 #[.pointer (some ⟨rb, 0, none⟩), .slice A l.length c] w fun e w' => ∃ v, e = .returned (.int .i64 v) ∧ v ∈ l ∧ RdSt w0 w' rb (M + 1) ∧ Below w0.heap.size w0 w' ∧ KeepBut w w' rb none := by
 obtain ⟨b, p, hI, h1, h2, h3, h4⟩ := hS
 obtain ⟨k0, r, ⟨hp1, hp2⟩, hk⟩ := one_gets h1 h2 (l := l) h3 (by omega) hl
 refine (spec_reader_one.calls k0 rb b p A c l r.1 r.2 w0 w hI hB hr hc hf (hk k0 (Nat.le_refl _))).mono ?_
 rintro e w' ⟨rfl, hI', hB', hK⟩
 exact ⟨_, rfl, hp1, ⟨b, r.2, hI', h1, h2, by omega, by omega⟩, hB', hK⟩
theorem spoil_any (rb : Nat) (M : Int) (A : Option Addr) (c : Nat) (l : List Int) (n : Int) (hl : l.length ≤ 1000) (hM : M ≤ 900000) (w0 w : World) (hS : RdSt w0 w rb M) (hB : Below w0.heap.size w0 w) (hr : (Kd.int .i64).C w A l.length l) (hc : l.length ≤ c) (hf : ∀ ad, A = some ad → 0 < l.length → ad.block ≠ rb) :
  Calls Tryz.prog 57 #[.pointer (some ⟨rb, 0, none⟩), .slice A l.length c, .int .i64 n] w fun e w' => ∃ A' c' l', e = .returned (.slice A' l'.length c') ∧ l'.length ≤ c' ∧ StI w' rb A' l' ∧ l'.length ≤ l.length + 1 ∧ RdSt w0 w' rb (M + 3) ∧ Below w0.heap.size w0 w' ∧ KeepBut w w' rb none := by
 have hlt := hS.lt
 obtain ⟨b, p, hI, h1, h2, h3, h4⟩ := hS
 obtain ⟨k0, r, ⟨hp1, hp2, hp3⟩, hk⟩ := spoil_gets h1 h2 p h3 (by omega) l hl n
 refine (spec_reader_spoil.calls k0 rb b p A c l n r.1 r.2 w0 w hI hB hr hc hf (hk k0 (Nat.le_refl _))).mono ?_
 rintro e w' ⟨v, rfl, hQ, hI', hB', hK⟩
 obtain ⟨A', c', rfl, hc', hSt⟩ := stI_of_Q (rb := rb) hQ hlt
 exact ⟨A', c', r.1, rfl, hc', hSt, hp1, ⟨b, r.2, hI', h1, h2, by omega, by omega⟩, hB', hK⟩
theorem anyGraph_any (rb : Nat) (M : Int) (hM : M ≤ 500000) (w0 w : World) (hS : RdSt w0 w rb M) (hB : Below w0.heap.size w0 w) :
  Calls Tryz.prog 55 #[.pointer (some ⟨rb, 0, none⟩)] w fun e w' => ∃ A' c' g, e = .returned (.slice A' g.length c') ∧ g.length ≤ c' ∧ StG w' rb A' g ∧ GOk 16 10 g ∧ RdSt w0 w' rb (M + 300) ∧ Below w0.heap.size w0 w' ∧ KeepBut w w' rb none := by
 have hlt := hS.lt
 obtain ⟨b, p, hI, h1, h2, h3, h4⟩ := hS
 obtain ⟨k0, r, ⟨hp1, hp2, hp3⟩, hk⟩ := anyGraph_gets h1 h2 p h3 (by omega)
 refine (spec_anyGraph.calls k0 rb b p r.1 r.2 w0 w hI hB (hk k0 (Nat.le_refl _))).mono ?_
 rintro e w' ⟨v, rfl, hN, hI', hB', hK⟩
 obtain ⟨A', c', rfl⟩ := Kd.N_slice hN
 refine ⟨A', c', r.1, rfl, (Kd.N_reads' hN).2.1, fun W' hW => ?_, hp1, ⟨b, r.2, hI', h1, h2, hp2, by omega⟩, hB', hK⟩
 exact (Kd.N_reads' (Kd.N_step hN (fun k hk' hlt => hW.2 k (by omega) hlt))).2.2
end Go.Proofs.YtkljcdghbefceaaGreatDoor

namespace Go.Proofs.YtkljcdghbefceaaGreatDoor
set_option linter.unusedVariables false
set_option linter.unusedSimpArgs false
open Go.RowKit Go.Shelf
open Go.Proofs.YtkljcdghbefceaaGreatDoorW.PrintWords Go.Proofs.YtkljcdghbefceaaGreatDoorW.PrintLast Go.Proofs.YtkljcdghbefceaaGreatDoorW.PrintMore
theorem lit_R (w : World) (l : List Int) (hl : l.length ≤ 1000) : Kd.R (Kd.int .i64) 3 (w.alloc (.cells (encs (Value.int .i64) l).toArray 3)) w.heap.size (fun _ => True) (.slice (some ⟨w.heap.size, 0, none⟩) l.length l.length) l := by
 refine Kd.R_of_own ?_ (fun _ _ => trivial)
 have h := World.ownsRow_lit (base := w.heap.size) (e := 3) (size := 1) w (encs (Value.int .i64) l).toArray l.length (Nat.le_refl _) (by simp [maxLen]; omega) (by simp [encs])
 rwa [List.toList_toArray] at h
theorem oneLit_any (rb : Nat) (M : Int) (l : List Int) (hl0 : 0 < l.length) (hl : l.length ≤ 1000) (hM : M ≤ 900000) (w0 w : World) (hS : RdSt w0 w rb M) (hB : Below w0.heap.size w0 w) :
  Calls Tryz.prog 58 #[.pointer (some ⟨rb, 0, none⟩), .slice (some ⟨w.heap.size, 0, none⟩) l.length l.length] (w.alloc (.cells (encs (Value.int .i64) l).toArray 3)) fun e w' => ∃ v, e = .returned (.int .i64 v) ∧ v ∈ l ∧ RdSt w0 w' rb (M + 1) ∧ Below w0.heap.size w0 w' ∧ KeepBut w w' rb none := by
 have hB1 : Below w.heap.size w (w.alloc (.cells (encs (Value.int .i64) l).toArray 3)) := (Below.refl _ _).alloc (Nat.le_refl _) _
 have hlt := hS.lt
 obtain ⟨A', c', e, hc, hC⟩ := Kd.R_reads (lit_R w l hl)
 cases e
 refine (one_any rb M _ _ l hl0 hM w0 _ (hS.below hB1) (hB.trans (hB1.mono hB.size)) hC (Nat.le_refl _) (fun ad e _ e2 => by cases e; simp at e2; omega)).mono ?_
 rintro e w' ⟨v, rfl, hv, h1, h2, h3⟩
 exact ⟨v, rfl, hv, h1, h2, keep_trans (keep_below rb hB1) h3⟩
theorem someWorkers_any (rb : Nat) (M : Int) (hM : M ≤ 900000) (w0 w : World) (hS : RdSt w0 w rb M) (hB : Below w0.heap.size w0 w) :
  Calls Tryz.prog 30 #[.pointer (some ⟨rb, 0, none⟩)] w fun e w' => ∃ v, e = .returned (.int .i64 v) ∧ (0 ≤ v ∧ v ≤ 5) ∧ RdSt w0 w' rb (M + 1) ∧ Below w0.heap.size w0 w' ∧ KeepBut w w' rb none := by
 have HS := Lib.hid hS
 have HB := Lib.hid hB
 clear hS hB
 go_enter Tryz.func30, Tryz.ntmps30
 go_wp2_with (go_at_call 58; refine (oneLit_any rb M [1, 2, 3, 4, 2, 0, 5] (by decide) (by decide) hM w0 _ HS.out HB.out).mono ?_; rintro e w1 ⟨v1, rfl, hv1, hS1, hB1, hK1⟩; have HV := Lib.hid hv1; clear hv1)
 go_ret
 refine ⟨v1, rfl, ?_, hS1, hB1, hK1⟩
 have := HV.out
 simp at this
 omega
set_option maxRecDepth 100000 in
set_option maxHeartbeats 2000000 in
theorem someRoom_any (rb : Nat) (M : Int) (hM : M ≤ 800000) (w0 w : World) (hS : RdSt w0 w rb M) (hB : Below w0.heap.size w0 w) :
  Calls Tryz.prog 29 #[.pointer (some ⟨rb, 0, none⟩)] w fun e w' => ∃ A' c' l', e = .returned (.slice A' l'.length c') ∧ l'.length ≤ c' ∧ StI w' rb A' l' ∧ l'.length ≤ 4 ∧ RdSt w0 w' rb (M + 6) ∧ Below w0.heap.size w0 w' ∧ KeepBut w w' rb none := by
 have HS := Lib.hid hS
 have HB := Lib.hid hB
 have HK := Lib.hid (KeepBut.refl w rb none)
 clear hS hB
 go_enter Tryz.func29, Tryz.ntmps29
 go_wp2_with (first
  | (go_at_call 58; refine (oneLit_any rb M [4, 5, 8, 4] (by decide) (by decide) (by omega) w0 _ HS.out HB.out).mono ?_; rintro e w1 ⟨v1, rfl, hv1, hS1, hB1, hK1⟩; have HS1 := Lib.hid hS1; have HB1 := Lib.hid hB1; have HK1 := Lib.hid hK1; clear hv1 hS1 hB1 hK1 HS)
  | (go_at_call 58; refine (oneLit_any rb (M + 1) [4, 6, 8] (by decide) (by decide) (by omega) w0 _ HS1.out HB1.out).mono ?_; rintro e w2 ⟨v2, rfl, hv2, hS2, hB2, hK2⟩; have HS2 := Lib.hid hS2; have HB2 := Lib.hid hB2; have HK2 := Lib.hid (keep_trans HK1.out hK2); clear hv2 hS2 hB2 hK2 HS1)
  | (go_at_call 58; refine (oneLit_any rb (M + 1 + 1) [4, 4, 7] (by decide) (by decide) (by omega) w0 _ HS2.out HB2.out).mono ?_; rintro e w3 ⟨v3, rfl, hv3, hS3, hB3, hK3⟩; have HS3 := Lib.hid hS3; have HB3 := Lib.hid hB3; have HK3 := Lib.hid (keep_trans HK2.out hK3); clear hv3 hS3 hB3 hK3 HS2)
  | (go_at_call 57; have hBa : Below w3.heap.size w3 (w3.alloc (.cells (encs (Value.int .i64) [v1, v2, v3]).toArray 3)) := (Below.refl _ _).alloc (Nat.le_refl _) _; have hrd := Kd.R_reads' (lit_R w3 [v1, v2, v3] (by simp)); refine (spoil_any rb (M + 1 + 1 + 1) _ _ [v1, v2, v3] 9 (by simp) (by omega) w0 _ (HS3.out.below hBa) (HB3.out.trans (hBa.mono HB3.out.size)) hrd.2.2 (Nat.le_refl _) (fun ad e _ e2 => by have := HS3.out.lt; cases e; simp at e2; omega)).mono ?_; rintro e w4 ⟨A4, c4, l4, rfl, hl4, hI4, hl4', hS4, hB4, hK4⟩; have HF := Lib.hid (And.intro hI4 (And.intro hl4' (And.intro hS4 (And.intro hB4 (keep_trans HK3.out (keep_trans (keep_below rb hBa) hK4)))))); clear hI4 hl4' hS4 hB4 hK4 hBa hrd))
 go_ret
 exact ⟨A4, c4, l4, rfl, hl4, HF.out.1, by have := HF.out.2.1; simpa using this, HF.out.2.2.1.wide (by omega), HF.out.2.2.2.1, HF.out.2.2.2.2⟩
end Go.Proofs.YtkljcdghbefceaaGreatDoor

namespace Go.Proofs.YtkljcdghbefceaaGreatDoor
set_option linter.unusedVariables false
set_option linter.unusedSimpArgs false
open Go.RowKit Go.Shelf
open Go.Proofs.YtkljcdghbefceaaGreatDoorW.PrintWords Go.Proofs.YtkljcdghbefceaaGreatDoorW.PrintLast Go.Proofs.YtkljcdghbefceaaGreatDoorW.PrintMore
def StB (k : Int) (st : List Int) : Prop := ∀ i, -k ≤ st.getD i 0 ∧ st.getD i 0 ≤ 200 + 40 * k
theorem StB.set {k : Int} {st : List Int} (h : StB k st) (i : Nat) {x : Int} (hx : -(k + 1) ≤ x ∧ x ≤ 200 + 40 * (k + 1)) (hk : 0 ≤ k) : StB (k + 1) (st.set i x) := fun j => by
 have := h j
 rw [getD_setL]
 split <;> omega
theorem StB.wide {k k' : Int} {st : List Int} (h : StB k st) (hk : k ≤ k') : StB k' st := fun i => by have := h i; omega
theorem StB.sok {st : List Int} (h : StB 2 st) : SOk st := fun i => by have := h i; omega
theorem pS_B (g : List Tk) (rm : List Int) (wk : Int) : StB 0 (pS g rm wk) := by
 unfold pS
 split
 ·
  exact fun i => by have := (planS_ok g rm wk).2 i; omega
 ·
  exact fun i => by simp
theorem pS_len (g : List Tk) (rm : List Int) (wk : Int) : (pS g rm wk).length ≤ 8 := by
 unfold pS
 split
 ·
  rename_i h
  rw [Bool.and_eq_true] at h
  rw [(planS_ok g rm wk).1]
  exact (specValid_TOk h.1).1
 ·
  simp
theorem stI_of_Rb {W : World} {rb base : Nat} {ok : Nat → Prop} {v : Value} {l : List Int} (h : Kd.R (Kd.int .i64) 3 W base ok v l) (hrb : rb < base) : ∃ A c, v = .slice A l.length c ∧ l.length ≤ c ∧ StI W rb A l := stI_of_R (Kd.R_mono h (fun _ _ => trivial)) hrb
theorem RdSt.far {w0 W : World} {rb : Nat} {M : Int} (h : RdSt w0 W rb M) {p : Addr} (hp : p.block ≠ rb) (u : Value) : RdSt w0 (W.setCell p u) rb M := by
 obtain ⟨b, q, ⟨A0, c0, h1, h2, h3⟩, h4⟩ := h
 exact ⟨b, q, ⟨A0, c0, (Below.heap_setCell W p u rb (fun e => hp e.symm)).trans h1, h2, h3⟩, h4⟩
theorem RdSt_new {w0 W : World} {rb : Nat} {M : Int} (h : RdSt w0 W rb M) : w0.heap.size ≤ rb := by
 obtain ⟨b, p, ⟨A0, c0, h1, h2, h3⟩, _⟩ := h
 exact h2
theorem newReader_new (A : Option Addr) (c : Nat) (l : List Int) (hb : ∀ x ∈ l, 0 ≤ x ∧ x < 256) (w : World) (hr : (Kd.int .u8).C w A l.length l) (hc : l.length ≤ c) :
  Calls Tryz.prog 27 #[.slice A l.length c] w fun e w' => ∃ rb, e = .returned (.pointer (some ⟨rb, 0, none⟩)) ∧ w.heap.size ≤ rb ∧ RdSt w w' rb 0 ∧ Below w.heap.size w w' := by
 refine (newReader_any A c l hb w hr hc).mono ?_
 rintro e w' ⟨rb, he, hS, hB⟩
 exact ⟨rb, he, RdSt_new hS, hS, hB⟩
theorem results_tmp4 {fn : Func} {t u v x : Tmp} (h : fn.results = #[.tmp t, .tmp u, .tmp v, .tmp x]) (tmps : Array Value) (P : Program) (w : World) :
  (results fn tmps).run P w = .ok (.tuple #[tmps.getD t undef, tmps.getD u undef, tmps.getD v undef, tmps.getD x undef]) w := by
 simp [results, h]
theorem results_tmp5 {fn : Func} {t u v x y : Tmp} (h : fn.results = #[.tmp t, .tmp u, .tmp v, .tmp x, .tmp y]) (tmps : Array Value) (P : Program) (w : World) :
  (results fn tmps).run P w = .ok (.tuple #[tmps.getD t undef, tmps.getD u undef, tmps.getD v undef, tmps.getD x undef, tmps.getD y undef]) w := by
 simp [results, h]
def DrSt (w : World) (e : Ending) (w' : World) : Prop := ∃ rb A1 c1 g A2 c2 rm wk A3 c3 st, e = .returned (.tuple #[.slice A1 g.length c1, .slice A2 rm.length c2, .int .i64 wk, .slice A3 st.length c3]) ∧ StG w' rb A1 g ∧ StI w' rb A2 rm ∧ StI w' rb A3 st ∧ w.heap.size ≤ rb ∧ g.length ≤ 16 ∧ st.length ≤ 8 ∧ (0 ≤ wk ∧ wk ≤ 5) ∧ SOk st ∧ Below w.heap.size w w'
def DrSt5 (lo hi : Int) (w : World) (e : Ending) (w' : World) : Prop := ∃ A1 c1 g A2 c2 rm wk A3 c3 st now, e = .returned (.tuple #[.slice A1 g.length c1, .slice A2 rm.length c2, .int .i64 wk, .slice A3 st.length c3, .int .i64 now]) ∧ kTk.C w' A1 g.length g ∧ (Kd.int .i64).C w' A2 rm.length rm ∧ (Kd.int .i64).C w' A3 st.length st ∧ g.length ≤ 16 ∧ st.length ≤ 8 ∧ (0 ≤ wk ∧ wk ≤ 5) ∧ SOk st ∧ (lo ≤ now ∧ now ≤ hi) ∧ Below w.heap.size w w'
end Go.Proofs.YtkljcdghbefceaaGreatDoor

namespace Go.Proofs.YtkljcdghbefceaaGreatDoor
set_option linter.unusedVariables false
set_option linter.unusedSimpArgs false
open Go.RowKit Go.Shelf Bits
open Go.Proofs.YtkljcdghbefceaaGreatDoorW.PrintWords Go.Proofs.YtkljcdghbefceaaGreatDoorW.PrintLast Go.Proofs.YtkljcdghbefceaaGreatDoorW.PrintMore
open PFnValidLog
theorem someGraph_any (rb : Nat) (M : Int) (hM : M ≤ 700000) (m : Int) (hm : m ≤ 8) (w0 w : World) (hS : RdSt w0 w rb M) (hB : Below w0.heap.size w0 w) :
  Calls Tryz.prog 56 #[.pointer (some ⟨rb, 0, none⟩), .int .i64 m] w fun e w' => ∃ A' c' g, e = .returned (.slice A' g.length c') ∧ g.length ≤ c' ∧ StG w' rb A' g ∧ GOk 16 10 g ∧ RdSt w0 w' rb (M + 300) ∧ Below w0.heap.size w0 w' ∧ KeepBut w w' rb none := by
 have hlt := hS.lt
 obtain ⟨b, p, hI, h1, h2, h3, h4⟩ := hS
 obtain ⟨k0, r, ⟨hp1, hp2, hp3⟩, hk⟩ := someGraph_gets h1 h2 p h3 (by omega) m hm
 refine (spec_someGraph.calls k0 rb b p m r.1 r.2 w0 w hI hB (hk k0 (Nat.le_refl _))).mono ?_
 rintro e w' ⟨v, rfl, hN, hI', hB', hK⟩
 obtain ⟨A', c', rfl⟩ := Kd.S_slice hN
 refine ⟨A', c', r.1, rfl, (Kd.S_reads' hN).2.1, fun W' hW => ?_, GOk_wide hp1 (by omega) (by omega), ⟨b, r.2, hI', h1, h2, hp2, by omega⟩, hB', hK⟩
 exact (Kd.S_reads' (Kd.S_step (Kd.S_bound hN) (fun k hk' hlt => hW.2 k (by have := hk'.2.1; omega) hlt))).2.2
set_option maxRecDepth 100000 in
theorem smallGraph_any (rb : Nat) (M : Int) (hM : M ≤ 400000) (w0 w : World) (hS : RdSt w0 w rb M) (hB : Below w0.heap.size w0 w) :
  Calls Tryz.prog 28 #[.pointer (some ⟨rb, 0, none⟩)] w fun e w' => ∃ A' c' g, e = .returned (.slice A' g.length c') ∧ g.length ≤ c' ∧ StG w' rb A' g ∧ GOk 16 10 g ∧ RdSt w0 w' rb (M + 301) ∧ Below w0.heap.size w0 w' ∧ KeepBut w w' rb none := by
 have HS := Lib.hid hS
 have HB := Lib.hid hB
 clear hS hB
 go_enter Tryz.func28, Tryz.ntmps28
 go_wp2_with (first
  | (go_at_call 54; refine (pick_any rb M _ (by omega) w0 _ HS.out HB.out).mono ?_; rintro e w1 ⟨v1, rfl, hv1, hS1, hB1, hK1⟩; have H1 := Lib.hid (And.intro hS1 (And.intro hB1 hK1)); clear hv1 hS1 hB1 hK1)
  | (go_at_call 55; refine (anyGraph_any rb (M + 1) (by omega) w0 _ H1.out.1 H1.out.2.1).mono ?_; rintro e w2 ⟨A2, c2, g, rfl, hg2, hG2, hok, hS2, hB2, hK2⟩; have H2 := Lib.hid (And.intro hg2 (And.intro hG2 (And.intro hok (And.intro hS2 (And.intro hB2 (keep_trans H1.out.2.2 hK2)))))); clear hg2 hG2 hok hS2 hB2 hK2)
  | (go_at_call 56; refine (someGraph_any rb (M + 1) (by omega) 5 (by omega) w0 _ H1.out.1 H1.out.2.1).mono ?_; rintro e w2 ⟨A2, c2, g, rfl, hg2, hG2, hok, hS2, hB2, hK2⟩; have H2 := Lib.hid (And.intro hg2 (And.intro hG2 (And.intro hok (And.intro hS2 (And.intro hB2 (keep_trans H1.out.2.2 hK2)))))); clear hg2 hG2 hok hS2 hB2 hK2))
 all_goals
  go_ret
  exact ⟨A2, c2, g, rfl, H2.out.1, H2.out.2.1, H2.out.2.2.1, H2.out.2.2.2.1.wide (by omega), H2.out.2.2.2.2⟩
set_option maxRecDepth 100000 in
theorem DrawBestOrder_any (A : Option Addr) (c : Nat) (l : List Int) (hb : ∀ x ∈ l, 0 ≤ x ∧ x < 256) (w : World) (hr : (Kd.int .u8).C w A l.length l) (hc : l.length ≤ c) :
  Calls Tryz.prog 10 #[.slice A l.length c] w fun e w' => ∃ A1 c1 g A2 c2 d wk, e = .returned (.tuple #[.slice A1 g.length c1, .slice A2 d.length c2, .int .i64 wk]) ∧ kTk.C w' A1 g.length g ∧ (Kd.int .i64).C w' A2 d.length d ∧ g.length ≤ 16 ∧ g.length ≤ c1 ∧ (0 ≤ wk ∧ wk ≤ 5) ∧ Below w.heap.size w w' := by
 have HN := Lib.hid (newReader_any A c l hb w hr hc)
 clear hb hr hc
 go_enter Tryz.func10, Tryz.ntmps10
 go_wp2_with (first | (go_at_call 27; refine HN.out.mono ?_; rintro e w1 ⟨rb, rfl, hS1, hB1⟩; have H1 := Lib.hid (And.intro hS1 hB1); clear hS1 hB1) | (go_at_call 28; refine (smallGraph_any rb 0 (by omega) w _ H1.out.1 H1.out.2).mono ?_; rintro e w2 ⟨A2, c2, g, rfl, hg2, hG2, hok, hS2, hB2, hK2⟩; have H2 := Lib.hid (And.intro hG2 (And.intro hok (And.intro hS2 hB2))); clear hG2 hok hS2 hB2 hK2) | (go_at_call 29; refine (someRoom_any rb _ (by omega) w _ H2.out.2.2.1 H2.out.2.2.2).mono ?_; rintro e w3 ⟨A3, c3, d, rfl, hd3, hI3, hl3, hS3, hB3, hK3⟩; have H3 := Lib.hid (And.intro (H2.out.1.keep hK3) (And.intro hI3 (And.intro hS3 hB3))); clear hI3 hS3 hB3 hK3) | (go_at_call 30; refine (someWorkers_any rb _ (by omega) w _ H3.out.2.2.1 H3.out.2.2.2).mono ?_; rintro e w4 ⟨wk, rfl, hwk, hS4, hB4, hK4⟩; have H4 := Lib.hid (And.intro (H3.out.1.keep hK4) (And.intro (H3.out.2.1.keep hK4) hB4)); clear hS4 hB4 hK4))
 go_ret3
 exact ⟨_, _, g, _, _, d, wk, rfl, H4.out.1.now, H4.out.2.1.now, H2.out.2.1.1, hg2, hwk, H4.out.2.2⟩
set_option maxRecDepth 100000 in
theorem DrawBestTime_any (A : Option Addr) (c : Nat) (l : List Int) (hb : ∀ x ∈ l, 0 ≤ x ∧ x < 256) (w : World) (hr : (Kd.int .u8).C w A l.length l) (hc : l.length ≤ c) :
  Calls Tryz.prog 4 #[.slice A l.length c] w fun e w' => ∃ A1 c1 g A2 c2 d wk, e = .returned (.tuple #[.slice A1 g.length c1, .slice A2 d.length c2, .int .i64 wk]) ∧ kTk.C w' A1 g.length g ∧ (Kd.int .i64).C w' A2 d.length d ∧ g.length ≤ 16 ∧ g.length ≤ c1 ∧ (0 ≤ wk ∧ wk ≤ 5) ∧ Below w.heap.size w w' := by
 have HN := Lib.hid (DrawBestOrder_any A c l hb w hr hc)
 clear hb hr hc
 go_enter Tryz.func4, Tryz.ntmps4
 go_wp2_with (go_at_call 10; refine HN.out.mono ?_; rintro e w1 ⟨A1, c1, g, A2, c2, d, wk, rfl, h1⟩; have H1 := Lib.hid h1; clear h1)
 go_ret3
 exact ⟨_, _, g, _, _, d, wk, rfl, H1.out⟩
theorem R_rd {W W' : World} {rb base : Nat} {v : Value} {l : List Int} (h : Kd.R (Kd.int .i64) 3 W base (fun _ => True) v l) (hrb : rb < base) (hk : KeepBut W W' rb none) : Kd.R (Kd.int .i64) 3 W' base (fun _ => True) v l := Kd.R_mono (Kd.R_keep (Kd.R_mono (Kd.R_bound h) (fun q hq => by have := hq.2.1; omega)) hk (fun q hq => hq)) (fun _ _ => trivial)
theorem RdSt.low {w0 W W' : World} {rb B : Nat} {M : Int} (h : RdSt w0 W rb M) (hb : Below B W W') (hB : rb < B) : RdSt w0 W' rb M := by
 obtain ⟨b, q, ⟨A0, c0, h1, h2, h3⟩, h4⟩ := h
 exact ⟨b, q, ⟨A0, c0, (hb.block rb hB).trans h1, h2, h3⟩, h4⟩
theorem KeepUp.low {W W1 W2 : World} {rb B : Nat} (h : KeepUp W W1 rb) (hb : Below B W1 W2) (hB : W.heap.size ≤ B) : KeepUp W W2 rb := ⟨Nat.le_trans h.1 hb.size, fun k hk hl => (hb.block k (by omega)).trans (h.2 k hk hl)⟩
theorem below_low {B B' : Nat} {W W' : World} (h : Below B W W') (hB : B' ≤ B) : Below B' W W' := ⟨h.os, h.tape, h.output, h.size, fun k hk => h.block k (by omega)⟩
def DrOr (w : World) (e : Ending) (w' : World) : Prop := ∃ A1 c1 g A2 c2 rm wk A3 c3 st, e = .returned (.tuple #[.slice A1 g.length c1, .slice A2 rm.length c2, .int .i64 wk, .slice A3 st.length c3]) ∧ kTk.C w' A1 g.length g ∧ (Kd.int .i64).C w' A2 rm.length rm ∧ (Kd.int .i64).C w' A3 st.length st ∧ st.length ≤ c3 ∧ g.length ≤ 16 ∧ (0 ≤ wk ∧ wk ≤ 5) ∧ Below w.heap.size w w'
end Go.Proofs.YtkljcdghbefceaaGreatDoor

namespace Go.Proofs.YtkljcdghbefceaaGreatDoor
set_option linter.unusedVariables false
set_option linter.unusedSimpArgs false
open Go.RowKit Go.Shelf Bits
open Go.Proofs.YtkljcdghbefceaaGreatDoorW.PrintWords Go.Proofs.YtkljcdghbefceaaGreatDoorW.PrintLast Go.Proofs.YtkljcdghbefceaaGreatDoorW.PrintMore
attribute [local go_sem] Oper.semAt_some
def cmpI (x y : Int) : Int := if x < y then -1 else if y < x then 1 else 0
def cmpE (a b : Ev) : Int := if a.f0 = b.f0 ∧ a.f2 ≠ b.f2 then (if a.f2 then -1 else 1) else if cmpI a.f0 b.f0 ≠ 0 then cmpI a.f0 b.f0 else cmpI a.f1 b.f1
theorem cmpI_neg {x y : Int} : cmpI x y < 0 ↔ x < y := by
 unfold cmpI
 split
 ·
  simp_all
 ·
  split <;> simp_all
theorem cmpI_zero {x y : Int} : cmpI x y = 0 ↔ x = y := by
 unfold cmpI
 split
 ·
  rename_i h
  constructor
  ·
   intro e; exact absurd e (by decide)
  ·
   intro e; omega
 ·
  rename_i h
  split
  ·
   rename_i h2
   constructor
   ·
    intro e; exact absurd e (by decide)
   ·
    intro e; omega
  ·
   rename_i h2
   exact ⟨fun _ => by omega, fun _ => rfl⟩
theorem cmpE_lt (a b : Ev) : cmpE a b < 0 ↔ ltE a b := by
 unfold cmpE ltE
 by_cases h0 : a.f0 = b.f0
 ·
  by_cases h2 : a.f2 = b.f2
  ·
   rw [if_neg (fun h => h.2 h2), if_neg (by rw [cmpI_zero.2 h0]; simp), cmpI_neg]
   constructor
   ·
    intro h
    exact .inr ⟨h0, .inr ⟨h2, h⟩⟩
   ·
    rintro (h | ⟨_, ⟨h, k⟩ | ⟨_, h⟩⟩)
    ·
     omega
    ·
     rw [h, k] at h2; cases h2
    ·
     exact h
  ·
   rw [if_pos ⟨h0, h2⟩]
   cases ha : a.f2
   ·
    simp only [Bool.false_eq_true, if_false]
    constructor
    ·
     intro h; exact absurd h (by decide)
    ·
     rintro (h | ⟨_, ⟨h, _⟩ | ⟨h, _⟩⟩)
     ·
      omega
     ·
      cases h
     ·
      rw [ha] at h2; exact absurd h h2
   ·
    have hb : b.f2 = false := by
     cases hb : b.f2
     ·
      rfl
     ·
      rw [ha, hb] at h2; exact absurd rfl h2
    simp only [if_true]
    exact ⟨fun _ => .inr ⟨h0, .inl ⟨by first | rfl | trivial | exact ha, hb⟩⟩, fun _ => by decide⟩
 ·
  rw [if_neg (fun h => h0 h.1), if_pos (fun h => h0 (cmpI_zero.1 h)), cmpI_neg]
  constructor
  ·
   exact .inl
  ·
   rintro (h | ⟨h, _⟩)
   ·
    exact h
   ·
    exact absurd h h0
theorem isNaN_calls (x : Int) (w : World) : Calls Tryz.prog 85 #[.int .i64 x] w fun e w' => e = .returned (.bool false) ∧ w' = w := by
 go_enter Tryz.func85, Tryz.ntmps85
 go_wp2
 go_ret
 exact ⟨ret_bool (by simp), rfl⟩
theorem compare_calls (x y : Int) (w : World) : Calls Tryz.prog 71 #[.int .i64 x, .int .i64 y] w fun e w' => e = .returned (.int .i64 (cmpI x y)) ∧ w' = w := by
 by_cases h1 : x < y
 ·
  have d1 : decide (x < y) = true := decide_eq_true h1
  have HF : Hid (cmpI x y = -1) := Lib.hid (by unfold cmpI; rw [if_pos h1])
  clear h1
  go_enter Tryz.func71, Tryz.ntmps71
  go_wp2_with (go_at_call 85; refine (isNaN_calls _ _).mono ?_; rintro e w' ⟨rfl, rfl⟩)
  go_ret
  exact ⟨ret_int HF.out.symm, rfl⟩
 ·
  have d1 : decide (x < y) = false := decide_eq_false h1
  by_cases h2 : y < x
  ·
   have d2 : decide (y < x) = true := decide_eq_true h2
   have HF : Hid (cmpI x y = 1) := Lib.hid (by unfold cmpI; rw [if_neg h1, if_pos h2])
   clear h1 h2
   go_enter Tryz.func71, Tryz.ntmps71
   go_wp2_with (go_at_call 85; refine (isNaN_calls _ _).mono ?_; rintro e w' ⟨rfl, rfl⟩)
   go_ret
   exact ⟨ret_int HF.out.symm, rfl⟩
  ·
   have d2 : decide (y < x) = false := decide_eq_false h2
   have HF : Hid (cmpI x y = 0) := Lib.hid (by unfold cmpI; rw [if_neg h1, if_neg h2])
   clear h1 h2
   go_enter Tryz.func71, Tryz.ntmps71
   go_wp2_with (go_at_call 85; refine (isNaN_calls _ _).mono ?_; rintro e w' ⟨rfl, rfl⟩)
   go_ret
   exact ⟨ret_int HF.out.symm, rfl⟩
theorem or_calls (A : Option Addr) (c : Nat) (a b r : Int) (HR : Hid ((if a ≠ 0 then a else b) = r)) (w : World) (hr : (Kd.int .i64).C w A 2 [a, b]) : Calls Tryz.prog 70 #[.slice A 2 c] w fun e w' => e = .returned (.int .i64 r) ∧ w' = w := by
 obtain ⟨ad, rfl, c0⟩ := at_num hr 0 (by omega)
 obtain ⟨ad', e', c1⟩ := at_num hr 1 (by omega)
 cases e'
 replace c0 : w.cell? (ad.add 0) = some (.int .i64 a) := c0
 rw [show ad.add 0 = ad from by cases ad; rfl] at c0
 replace c1 : w.cell? (ad.add 1) = some (.int .i64 b) := c1
 have c1 : w.cell? ⟨ad.block, ad.off + 1, none⟩ = some (.int .i64 b) := by simpa [Addr.add] using c1
 clear hr
 go_enter Tryz.func70, Tryz.ntmps70
 go_wp2
 go_loop [8] (fun i => ∃ (j : Nat), j ≤ 2 ∧ i = .int .i64 j ∧ Hid ((1 ≤ j → a = 0) ∧ (2 ≤ j → b = 0))) (fun i => 2 - (intOf i).toNat)
 case atStart => exact ⟨0, by omega, rfl, Lib.hid ⟨fun h => by omega, fun h => by omega⟩⟩
 case round =>
  obtain ⟨j, hj, rfl, HS⟩ := hrel
  by_cases h0 : j = 0
  ·
   subst h0
   by_cases ha : a = 0
   ·
    have da : (a != 0) = false := by rw [bne_eq_false_iff_eq]; exact ha
    have HA := Lib.hid ha
    clear ha
    go_wp2
    go_round
    case rel => exact ⟨1, by omega, rfl, Lib.hid ⟨fun _ => HA.out, fun h => by omega⟩⟩
    case measure => simp [intOf]
   ·
    have da : (a != 0) = true := by rw [bne_iff_ne]; exact ha
    have HF : Hid (r = a) := Lib.hid (by rw [← HR.out]; exact if_pos ha)
    clear ha
    go_wp2
    go_ret
    exact ⟨ret_int HF.out.symm, rfl⟩
  ·
   by_cases h1 : j = 1
   ·
    subst h1
    have HA := Lib.hid (HS.out.1 (Nat.le_refl _))
    by_cases hb : b = 0
    ·
     have da : (b != 0) = false := by rw [bne_eq_false_iff_eq]; exact hb
     have HB := Lib.hid hb
     clear hb h0
     go_wp2
     go_round
     case rel => exact ⟨2, by omega, rfl, Lib.hid ⟨fun _ => HA.out, fun _ => HB.out⟩⟩
     case measure => simp [intOf]
    ·
     have da : (b != 0) = true := by rw [bne_iff_ne]; exact hb
     have HF : Hid (r = b) := Lib.hid (by rw [← HR.out]; exact if_neg (fun h => h HA.out))
     clear hb h0
     go_wp2
     go_ret
     exact ⟨ret_int HF.out.symm, rfl⟩
   ·
    obtain rfl : j = 2 := by omega
    have HF : Hid (r = 0) := Lib.hid (by rw [← HR.out, HS.out.2 (Nat.le_refl _), HS.out.1 (by omega)]; rfl)
    clear h0 h1
    go_wp2
    go_ret
    exact ⟨ret_int HF.out.symm, rfl⟩
end Go.Proofs.YtkljcdghbefceaaGreatDoor

namespace Go.Proofs.YtkljcdghbefceaaGreatDoor
set_option linter.unusedVariables false
set_option linter.unusedSimpArgs false
open Go.RowKit Go.Shelf Bits Go.Sort
open Go.Proofs.YtkljcdghbefceaaGreatDoorW.PrintWords Go.Proofs.YtkljcdghbefceaaGreatDoorW.PrintLast Go.Proofs.YtkljcdghbefceaaGreatDoorW.PrintMore
attribute [local go_sem] Oper.semAt_some
theorem grow2 (W : World) (a b : Obj) : (W.alloc a).alloc b = grow (W.drewN 0) #[a, b] := by
 rw [alloc_eq_grow, alloc_eq_grow, grow_grow]
 rfl
theorem grow3 (W : World) (a b c : Obj) : (((W.alloc a).alloc b).alloc c).drew = grow (W.drewN 1) #[a, b, c] := by
 rw [alloc_eq_grow, alloc_eq_grow, alloc_eq_grow, grow_grow, grow_grow]
 rfl
theorem lit2 (W : World) (x y : Int) : (Kd.int .i64).C (W.alloc (.cells #[.int .i64 x, .int .i64 y] 3)).drew (some ⟨W.heap.size, 0, none⟩) 2 [x, y] :=
 Kd.C_below (Kd.R_reads' (lit_R W [x, y] (by simp))).2.2 (Below.refl _ _).drew
set_option maxRecDepth 100000 in
set_option maxHeartbeats 4000000 in
theorem chgCmp_calls (a b : Ev) (W : World) :
  Calls Tryz.prog 69 #[.agg #[.int .i64 a.f0, .int .i64 a.f1, .bool a.f2], .agg #[.int .i64 b.f0, .int .i64 b.f1, .bool b.f2]] W fun e w' => e = .returned (.int .i64 (cmpE a b)) ∧ ∃ q os', w' = grow (W.drewN q) os' := by
 obtain ⟨a0, a1, a2⟩ := a
 obtain ⟨b0, b1, b2⟩ := b
 obtain ⟨r1, h1⟩ : ∃ r1, cmpI a0 b0 = r1 := ⟨_, rfl⟩
 obtain ⟨r2, h2⟩ : ∃ r2, cmpI a1 b1 = r2 := ⟨_, rfl⟩
 have H1 := Lib.hid h1
 have H2 := Lib.hid h2
 by_cases h0 : a0 = b0
 ·
  cases a2 <;> cases b2
  ·
   have HE : Hid (cmpE ⟨a0, a1, false⟩ ⟨b0, b1, false⟩ = if r1 ≠ 0 then r1 else r2) := Lib.hid (by unfold cmpE; rw [if_neg (fun h => h.2 rfl), ← h1, ← h2])
   obtain ⟨r, hr⟩ : ∃ r, (if r1 ≠ 0 then r1 else r2) = r := ⟨_, rfl⟩
   have HR : Hid (Hid ((if r1 ≠ 0 then r1 else r2) = r)) := Lib.hid (Lib.hid hr)
   rw [hr] at HE
   have d0 : (a0 == b0) = true := beq_iff_eq.2 h0
   clear hr h0 h1 h2
   simp only []
   go_enter Tryz.func69, Tryz.ntmps69
   go_wp2
   have ca0 : ((W.alloc (.cells #[.int .i64 a0, .int .i64 a1, .bool false] 74)).alloc (.cells #[.int .i64 b0, .int .i64 b1, .bool false] 74)).cell? ⟨W.heap.size, 0, none⟩ = some (.int .i64 a0) := by go_simp
   have ca1 : ((W.alloc (.cells #[.int .i64 a0, .int .i64 a1, .bool false] 74)).alloc (.cells #[.int .i64 b0, .int .i64 b1, .bool false] 74)).cell? ⟨W.heap.size, 1, none⟩ = some (.int .i64 a1) := by go_simp
   have cb0 : ((W.alloc (.cells #[.int .i64 a0, .int .i64 a1, .bool false] 74)).alloc (.cells #[.int .i64 b0, .int .i64 b1, .bool false] 74)).cell? ⟨W.heap.size + 1, 0, none⟩ = some (.int .i64 b0) := by go_simp
   have cb1 : ((W.alloc (.cells #[.int .i64 a0, .int .i64 a1, .bool false] 74)).alloc (.cells #[.int .i64 b0, .int .i64 b1, .bool false] 74)).cell? ⟨W.heap.size + 1, 1, none⟩ = some (.int .i64 b1) := by go_simp
   obtain ⟨W2, hW2⟩ : ∃ W2, W2 = (W.alloc (.cells #[.int .i64 a0, .int .i64 a1, .bool false] 74)).alloc (.cells #[.int .i64 b0, .int .i64 b1, .bool false] 74) := ⟨_, rfl⟩
   rw [← hW2] at ca0 ca1 cb0 cb1 ⊢
   have HW2 := Lib.hid hW2
   clear hW2
   go_still_tail 10, mixed
   repeat still_step
   still_call (compare_calls a0 b0 _)
   repeat still_step
   still_call (compare_calls a1 b1 _)
   repeat still_step
   refine wpStill_nil ?_
   rw [show cmpI a0 b0 = r1 from H1.out, show cmpI a1 b1 = r2 from H2.out]
   change wpList _ _ _ _ _ W2.drew
   go_wp2_with (go_at_call 70; refine (or_calls _ _ r1 r2 r HR.out _ (lit2 _ r1 r2)).mono ?_; rintro e w' ⟨rfl, rfl⟩)
   go_ret
   exact ⟨ret_int HE.out.symm, 1, _, by rw [HW2.out]; exact grow3 _ _ _ _⟩
  ·
   have HE : Hid (cmpE ⟨a0, a1, false⟩ ⟨b0, b1, true⟩ = 1) := Lib.hid (by unfold cmpE; rw [if_pos ⟨h0, by simp⟩]; rfl)
   have d0 : (a0 == b0) = true := beq_iff_eq.2 h0
   clear h0 h1 h2
   simp only [] 
   go_enter Tryz.func69, Tryz.ntmps69
   go_wp2
   go_ret
   exact ⟨ret_int HE.out.symm, 0, _, grow2 _ _ _⟩
  ·
   have HE : Hid (cmpE ⟨a0, a1, true⟩ ⟨b0, b1, false⟩ = -1) := Lib.hid (by unfold cmpE; rw [if_pos ⟨h0, by simp⟩]; rfl)
   have d0 : (a0 == b0) = true := beq_iff_eq.2 h0
   clear h0 h1 h2
   simp only [] 
   go_enter Tryz.func69, Tryz.ntmps69
   go_wp2
   go_ret
   exact ⟨ret_int HE.out.symm, 0, _, grow2 _ _ _⟩
  ·
   have HE : Hid (cmpE ⟨a0, a1, true⟩ ⟨b0, b1, true⟩ = if r1 ≠ 0 then r1 else r2) := Lib.hid (by unfold cmpE; rw [if_neg (fun h => h.2 rfl), ← h1, ← h2])
   obtain ⟨r, hr⟩ : ∃ r, (if r1 ≠ 0 then r1 else r2) = r := ⟨_, rfl⟩
   have HR : Hid (Hid ((if r1 ≠ 0 then r1 else r2) = r)) := Lib.hid (Lib.hid hr)
   rw [hr] at HE
   have d0 : (a0 == b0) = true := beq_iff_eq.2 h0
   clear hr h0 h1 h2
   simp only []
   go_enter Tryz.func69, Tryz.ntmps69
   go_wp2
   have ca0 : ((W.alloc (.cells #[.int .i64 a0, .int .i64 a1, .bool true] 74)).alloc (.cells #[.int .i64 b0, .int .i64 b1, .bool true] 74)).cell? ⟨W.heap.size, 0, none⟩ = some (.int .i64 a0) := by go_simp
   have ca1 : ((W.alloc (.cells #[.int .i64 a0, .int .i64 a1, .bool true] 74)).alloc (.cells #[.int .i64 b0, .int .i64 b1, .bool true] 74)).cell? ⟨W.heap.size, 1, none⟩ = some (.int .i64 a1) := by go_simp
   have cb0 : ((W.alloc (.cells #[.int .i64 a0, .int .i64 a1, .bool true] 74)).alloc (.cells #[.int .i64 b0, .int .i64 b1, .bool true] 74)).cell? ⟨W.heap.size + 1, 0, none⟩ = some (.int .i64 b0) := by go_simp
   have cb1 : ((W.alloc (.cells #[.int .i64 a0, .int .i64 a1, .bool true] 74)).alloc (.cells #[.int .i64 b0, .int .i64 b1, .bool true] 74)).cell? ⟨W.heap.size + 1, 1, none⟩ = some (.int .i64 b1) := by go_simp
   obtain ⟨W2, hW2⟩ : ∃ W2, W2 = (W.alloc (.cells #[.int .i64 a0, .int .i64 a1, .bool true] 74)).alloc (.cells #[.int .i64 b0, .int .i64 b1, .bool true] 74) := ⟨_, rfl⟩
   rw [← hW2] at ca0 ca1 cb0 cb1 ⊢
   have HW2 := Lib.hid hW2
   clear hW2
   go_still_tail 10, mixed
   repeat still_step
   still_call (compare_calls a0 b0 _)
   repeat still_step
   still_call (compare_calls a1 b1 _)
   repeat still_step
   refine wpStill_nil ?_
   rw [show cmpI a0 b0 = r1 from H1.out, show cmpI a1 b1 = r2 from H2.out]
   change wpList _ _ _ _ _ W2.drew
   go_wp2_with (go_at_call 70; refine (or_calls _ _ r1 r2 r HR.out _ (lit2 _ r1 r2)).mono ?_; rintro e w' ⟨rfl, rfl⟩)
   go_ret
   exact ⟨ret_int HE.out.symm, 1, _, by rw [HW2.out]; exact grow3 _ _ _ _⟩
 ·
  cases a2 <;> cases b2
  ·
   have HE : Hid (cmpE ⟨a0, a1, false⟩ ⟨b0, b1, false⟩ = if r1 ≠ 0 then r1 else r2) := Lib.hid (by unfold cmpE; rw [if_neg (fun h => h0 h.1), ← h1, ← h2])
   obtain ⟨r, hr⟩ : ∃ r, (if r1 ≠ 0 then r1 else r2) = r := ⟨_, rfl⟩
   have HR : Hid (Hid ((if r1 ≠ 0 then r1 else r2) = r)) := Lib.hid (Lib.hid hr)
   rw [hr] at HE
   have d0 : (a0 == b0) = false := beq_eq_false_iff_ne.2 h0
   clear hr h0 h1 h2
   simp only []
   go_enter Tryz.func69, Tryz.ntmps69
   go_wp2
   have ca0 : ((W.alloc (.cells #[.int .i64 a0, .int .i64 a1, .bool false] 74)).alloc (.cells #[.int .i64 b0, .int .i64 b1, .bool false] 74)).cell? ⟨W.heap.size, 0, none⟩ = some (.int .i64 a0) := by go_simp
   have ca1 : ((W.alloc (.cells #[.int .i64 a0, .int .i64 a1, .bool false] 74)).alloc (.cells #[.int .i64 b0, .int .i64 b1, .bool false] 74)).cell? ⟨W.heap.size, 1, none⟩ = some (.int .i64 a1) := by go_simp
   have cb0 : ((W.alloc (.cells #[.int .i64 a0, .int .i64 a1, .bool false] 74)).alloc (.cells #[.int .i64 b0, .int .i64 b1, .bool false] 74)).cell? ⟨W.heap.size + 1, 0, none⟩ = some (.int .i64 b0) := by go_simp
   have cb1 : ((W.alloc (.cells #[.int .i64 a0, .int .i64 a1, .bool false] 74)).alloc (.cells #[.int .i64 b0, .int .i64 b1, .bool false] 74)).cell? ⟨W.heap.size + 1, 1, none⟩ = some (.int .i64 b1) := by go_simp
   obtain ⟨W2, hW2⟩ : ∃ W2, W2 = (W.alloc (.cells #[.int .i64 a0, .int .i64 a1, .bool false] 74)).alloc (.cells #[.int .i64 b0, .int .i64 b1, .bool false] 74) := ⟨_, rfl⟩
   rw [← hW2] at ca0 ca1 cb0 cb1 ⊢
   have HW2 := Lib.hid hW2
   clear hW2
   go_still_tail 10, mixed
   repeat still_step
   still_call (compare_calls a0 b0 _)
   repeat still_step
   still_call (compare_calls a1 b1 _)
   repeat still_step
   refine wpStill_nil ?_
   rw [show cmpI a0 b0 = r1 from H1.out, show cmpI a1 b1 = r2 from H2.out]
   change wpList _ _ _ _ _ W2.drew
   go_wp2_with (go_at_call 70; refine (or_calls _ _ r1 r2 r HR.out _ (lit2 _ r1 r2)).mono ?_; rintro e w' ⟨rfl, rfl⟩)
   go_ret
   exact ⟨ret_int HE.out.symm, 1, _, by rw [HW2.out]; exact grow3 _ _ _ _⟩
  ·
   have HE : Hid (cmpE ⟨a0, a1, false⟩ ⟨b0, b1, true⟩ = if r1 ≠ 0 then r1 else r2) := Lib.hid (by unfold cmpE; rw [if_neg (fun h => h0 h.1), ← h1, ← h2])
   obtain ⟨r, hr⟩ : ∃ r, (if r1 ≠ 0 then r1 else r2) = r := ⟨_, rfl⟩
   have HR : Hid (Hid ((if r1 ≠ 0 then r1 else r2) = r)) := Lib.hid (Lib.hid hr)
   rw [hr] at HE
   have d0 : (a0 == b0) = false := beq_eq_false_iff_ne.2 h0
   clear hr h0 h1 h2
   simp only []
   go_enter Tryz.func69, Tryz.ntmps69
   go_wp2
   have ca0 : ((W.alloc (.cells #[.int .i64 a0, .int .i64 a1, .bool false] 74)).alloc (.cells #[.int .i64 b0, .int .i64 b1, .bool true] 74)).cell? ⟨W.heap.size, 0, none⟩ = some (.int .i64 a0) := by go_simp
   have ca1 : ((W.alloc (.cells #[.int .i64 a0, .int .i64 a1, .bool false] 74)).alloc (.cells #[.int .i64 b0, .int .i64 b1, .bool true] 74)).cell? ⟨W.heap.size, 1, none⟩ = some (.int .i64 a1) := by go_simp
   have cb0 : ((W.alloc (.cells #[.int .i64 a0, .int .i64 a1, .bool false] 74)).alloc (.cells #[.int .i64 b0, .int .i64 b1, .bool true] 74)).cell? ⟨W.heap.size + 1, 0, none⟩ = some (.int .i64 b0) := by go_simp
   have cb1 : ((W.alloc (.cells #[.int .i64 a0, .int .i64 a1, .bool false] 74)).alloc (.cells #[.int .i64 b0, .int .i64 b1, .bool true] 74)).cell? ⟨W.heap.size + 1, 1, none⟩ = some (.int .i64 b1) := by go_simp
   obtain ⟨W2, hW2⟩ : ∃ W2, W2 = (W.alloc (.cells #[.int .i64 a0, .int .i64 a1, .bool false] 74)).alloc (.cells #[.int .i64 b0, .int .i64 b1, .bool true] 74) := ⟨_, rfl⟩
   rw [← hW2] at ca0 ca1 cb0 cb1 ⊢
   have HW2 := Lib.hid hW2
   clear hW2
   go_still_tail 10, mixed
   repeat still_step
   still_call (compare_calls a0 b0 _)
   repeat still_step
   still_call (compare_calls a1 b1 _)
   repeat still_step
   refine wpStill_nil ?_
   rw [show cmpI a0 b0 = r1 from H1.out, show cmpI a1 b1 = r2 from H2.out]
   change wpList _ _ _ _ _ W2.drew
   go_wp2_with (go_at_call 70; refine (or_calls _ _ r1 r2 r HR.out _ (lit2 _ r1 r2)).mono ?_; rintro e w' ⟨rfl, rfl⟩)
   go_ret
   exact ⟨ret_int HE.out.symm, 1, _, by rw [HW2.out]; exact grow3 _ _ _ _⟩
  ·
   have HE : Hid (cmpE ⟨a0, a1, true⟩ ⟨b0, b1, false⟩ = if r1 ≠ 0 then r1 else r2) := Lib.hid (by unfold cmpE; rw [if_neg (fun h => h0 h.1), ← h1, ← h2])
   obtain ⟨r, hr⟩ : ∃ r, (if r1 ≠ 0 then r1 else r2) = r := ⟨_, rfl⟩
   have HR : Hid (Hid ((if r1 ≠ 0 then r1 else r2) = r)) := Lib.hid (Lib.hid hr)
   rw [hr] at HE
   have d0 : (a0 == b0) = false := beq_eq_false_iff_ne.2 h0
   clear hr h0 h1 h2
   simp only []
   go_enter Tryz.func69, Tryz.ntmps69
   go_wp2
   have ca0 : ((W.alloc (.cells #[.int .i64 a0, .int .i64 a1, .bool true] 74)).alloc (.cells #[.int .i64 b0, .int .i64 b1, .bool false] 74)).cell? ⟨W.heap.size, 0, none⟩ = some (.int .i64 a0) := by go_simp
   have ca1 : ((W.alloc (.cells #[.int .i64 a0, .int .i64 a1, .bool true] 74)).alloc (.cells #[.int .i64 b0, .int .i64 b1, .bool false] 74)).cell? ⟨W.heap.size, 1, none⟩ = some (.int .i64 a1) := by go_simp
   have cb0 : ((W.alloc (.cells #[.int .i64 a0, .int .i64 a1, .bool true] 74)).alloc (.cells #[.int .i64 b0, .int .i64 b1, .bool false] 74)).cell? ⟨W.heap.size + 1, 0, none⟩ = some (.int .i64 b0) := by go_simp
   have cb1 : ((W.alloc (.cells #[.int .i64 a0, .int .i64 a1, .bool true] 74)).alloc (.cells #[.int .i64 b0, .int .i64 b1, .bool false] 74)).cell? ⟨W.heap.size + 1, 1, none⟩ = some (.int .i64 b1) := by go_simp
   obtain ⟨W2, hW2⟩ : ∃ W2, W2 = (W.alloc (.cells #[.int .i64 a0, .int .i64 a1, .bool true] 74)).alloc (.cells #[.int .i64 b0, .int .i64 b1, .bool false] 74) := ⟨_, rfl⟩
   rw [← hW2] at ca0 ca1 cb0 cb1 ⊢
   have HW2 := Lib.hid hW2
   clear hW2
   go_still_tail 10, mixed
   repeat still_step
   still_call (compare_calls a0 b0 _)
   repeat still_step
   still_call (compare_calls a1 b1 _)
   repeat still_step
   refine wpStill_nil ?_
   rw [show cmpI a0 b0 = r1 from H1.out, show cmpI a1 b1 = r2 from H2.out]
   change wpList _ _ _ _ _ W2.drew
   go_wp2_with (go_at_call 70; refine (or_calls _ _ r1 r2 r HR.out _ (lit2 _ r1 r2)).mono ?_; rintro e w' ⟨rfl, rfl⟩)
   go_ret
   exact ⟨ret_int HE.out.symm, 1, _, by rw [HW2.out]; exact grow3 _ _ _ _⟩
  ·
   have HE : Hid (cmpE ⟨a0, a1, true⟩ ⟨b0, b1, true⟩ = if r1 ≠ 0 then r1 else r2) := Lib.hid (by unfold cmpE; rw [if_neg (fun h => h0 h.1), ← h1, ← h2])
   obtain ⟨r, hr⟩ : ∃ r, (if r1 ≠ 0 then r1 else r2) = r := ⟨_, rfl⟩
   have HR : Hid (Hid ((if r1 ≠ 0 then r1 else r2) = r)) := Lib.hid (Lib.hid hr)
   rw [hr] at HE
   have d0 : (a0 == b0) = false := beq_eq_false_iff_ne.2 h0
   clear hr h0 h1 h2
   simp only []
   go_enter Tryz.func69, Tryz.ntmps69
   go_wp2
   have ca0 : ((W.alloc (.cells #[.int .i64 a0, .int .i64 a1, .bool true] 74)).alloc (.cells #[.int .i64 b0, .int .i64 b1, .bool true] 74)).cell? ⟨W.heap.size, 0, none⟩ = some (.int .i64 a0) := by go_simp
   have ca1 : ((W.alloc (.cells #[.int .i64 a0, .int .i64 a1, .bool true] 74)).alloc (.cells #[.int .i64 b0, .int .i64 b1, .bool true] 74)).cell? ⟨W.heap.size, 1, none⟩ = some (.int .i64 a1) := by go_simp
   have cb0 : ((W.alloc (.cells #[.int .i64 a0, .int .i64 a1, .bool true] 74)).alloc (.cells #[.int .i64 b0, .int .i64 b1, .bool true] 74)).cell? ⟨W.heap.size + 1, 0, none⟩ = some (.int .i64 b0) := by go_simp
   have cb1 : ((W.alloc (.cells #[.int .i64 a0, .int .i64 a1, .bool true] 74)).alloc (.cells #[.int .i64 b0, .int .i64 b1, .bool true] 74)).cell? ⟨W.heap.size + 1, 1, none⟩ = some (.int .i64 b1) := by go_simp
   obtain ⟨W2, hW2⟩ : ∃ W2, W2 = (W.alloc (.cells #[.int .i64 a0, .int .i64 a1, .bool true] 74)).alloc (.cells #[.int .i64 b0, .int .i64 b1, .bool true] 74) := ⟨_, rfl⟩
   rw [← hW2] at ca0 ca1 cb0 cb1 ⊢
   have HW2 := Lib.hid hW2
   clear hW2
   go_still_tail 10, mixed
   repeat still_step
   still_call (compare_calls a0 b0 _)
   repeat still_step
   still_call (compare_calls a1 b1 _)
   repeat still_step
   refine wpStill_nil ?_
   rw [show cmpI a0 b0 = r1 from H1.out, show cmpI a1 b1 = r2 from H2.out]
   change wpList _ _ _ _ _ W2.drew
   go_wp2_with (go_at_call 70; refine (or_calls _ _ r1 r2 r HR.out _ (lit2 _ r1 r2)).mono ?_; rintro e w' ⟨rfl, rfl⟩)
   go_ret
   exact ⟨ret_int HE.out.symm, 1, _, by rw [HW2.out]; exact grow3 _ _ _ _⟩
end Go.Proofs.YtkljcdghbefceaaGreatDoor

namespace Go.Proofs.YtkljcdghbefceaaGreatDoor
set_option linter.unusedVariables false
set_option linter.unusedSimpArgs false
open Go.RowKit Go.Shelf Bits Go.Sort
open Go.Proofs.YtkljcdghbefceaaGreatDoorW.PrintWords Go.Proofs.YtkljcdghbefceaaGreatDoorW.PrintLast Go.Proofs.YtkljcdghbefceaaGreatDoorW.PrintMore
attribute [local go_sem] Oper.semAt_some
instance : Inhabited Ev := ⟨zEv⟩
def encE (x : Ev) : List Value := [.int .i64 x.f0, .int .i64 x.f1, .bool x.f2]
theorem ltOf_cmpE : ltOf cmpE = ltEB := by
 funext x y
 unfold ltOf ltEB
 rw [decide_eq_decide]
 exact cmpE_lt x y
theorem swoE : SWO (ltOf cmpE) where
 irrefl x := by rw [ltOf_cmpE]; unfold ltEB; exact decide_eq_false (ltE_irrefl x)
 trans x y z h1 h2 := by
  rw [ltOf_cmpE] at *
  unfold ltEB at *
  exact decide_eq_true (ltE_trans (of_decide_eq_true h1) (of_decide_eq_true h2))
 ntrans x y z h1 h2 := by
  rw [ltOf_cmpE] at *
  unfold ltEB at *
  have h1 := of_decide_eq_false h1
  have h2 := of_decide_eq_false h2
  apply decide_eq_false
  intro h
  by_cases hyx : ltE y x
  ·
   exact h2 (ltE_trans hyx h)
  ·
   obtain rfl := ltE_total h1 hyx
   exact h2 h
theorem ltE_anti (x y : Ev) (h1 : ltOf cmpE x y = false) (h2 : ltOf cmpE y x = false) : x = y := by
 rw [ltOf_cmpE] at *
 unfold ltEB at *
 exact ltE_total (of_decide_eq_false h1) (of_decide_eq_false h2)
theorem infoCh : (Tryz.prog.info? 74).map (fun i => (i.zero, i.size, i.bytes)) = some (some (.agg #[(.int .i64 0), (.int .i64 0), (.bool false)]), 3, 24) := by kernel_rfl
theorem flat_get (d : List Ev) (j c : Nat) (hj : j < d.length) (hc : c < 3) : (flatK encE 3 d.toArray)[j * 3 + c]! = (encE (d.toArray[j]!))[c]! := by
 rw [get_flatK _ _ _ _ (by simp; omega)]
 rw [show (j * 3 + c) / 3 = j by omega, show (j * 3 + c) % 3 = c by omega]
theorem arr_getD (d : List Ev) (j : Nat) (hj : j < d.length) : d.toArray[j]! = rdEv d j := by
 unfold rdEv
 rw [List.getD_eq_getElem?_getD, List.getElem?_eq_getElem hj]
 simp [hj]
theorem addA (b q : Nat) : (⟨b, 0, none⟩ : Addr).add q = ⟨b, q, none⟩ := by
 unfold Addr.add
 split <;> simp_all
theorem holds_of_C {W : World} {b n : Nat} {d : List Ev} (h : kEv.C W (some ⟨b, 0, none⟩) n d) (hf : ∀ j, W.frozen? ⟨b, j, none⟩ = false) : HoldsK encE 3 W b 0 d.toArray := by
 intro t ht
 have hn : d.length = n := h.1
 have ht : t < d.length * 3 := by simpa using ht
 refine ⟨?_, hf _⟩
 obtain ⟨ad, e, h0, h1, h2⟩ := at_Ev h (t / 3) (by omega)
 cases e
 have hj : t / 3 < d.length := by omega
 have e0 : t = (t / 3) * 3 + t % 3 := by omega
 have hm : t % 3 < 3 := Nat.mod_lt _ (by omega)
 have key : (flatK encE 3 d.toArray)[t]! = (encE (rdEv d (t / 3)))[t % 3]! := by
  have := flat_get d (t / 3) (t % 3) hj hm
  rw [← e0, arr_getD d _ hj] at this
  exact this
 show W.cell? ⟨b, 0 + t, none⟩ = some (id _)
 rw [key]
 have cs : ∀ c, c < 3 → W.cell? ⟨b, t / 3 * 3 + c, none⟩ = some ((encE (rdEv d (t / 3)))[c]!) := fun c hc => by
  rcases c with _ | _ | _ | c
  ·
   rw [addA] at h0
   exact h0
  ·
   rw [addA] at h1
   exact h1
  ·
   rw [addA] at h2
   exact h2
  ·
   omega
 have := cs (t % 3) hm
 rw [← e0] at this
 rw [Nat.zero_add]
 exact this
theorem C_of_holds {W : World} {b : Nat} {d : List Ev} (h : HoldsK encE 3 W b 0 d.toArray) (hl : d.length ≤ 1000) : kEv.C W (some ⟨b, 0, none⟩) d.length d := by
 refine ⟨rfl, by omega, fun _ => ⟨_, rfl, fun j p hj => ⟨[.int .i64 p.f0, .int .i64 p.f1, .bool p.f2], rfl, ?_, fun i u hu => ?_⟩⟩⟩
 ·
  exact kEv.K_of_M (kEv_mkM W 0 (fun _ => True) p)
 ·
  have hjl : j < d.length := by
   by_cases hjl : j < d.length
   ·
    exact hjl
   ·
    rw [List.getElem?_eq_none (by omega)] at hj
    cases hj
  have hi : i < 3 := by
   by_cases hi : i < 3
   ·
    exact hi
   ·
    rw [List.getElem?_eq_none (by simp; omega)] at hu
    cases hu
  have hp : p = rdEv d j := by
   unfold rdEv
   rw [List.getD_eq_getElem?_getD, hj]
   rfl
  have := (h (j * 3 + i) (by simp; omega)).1
  rw [flat_get d j i hjl hi, arr_getD d j hjl, ← hp] at this
  have e : (encE p)[i]! = u := by
   unfold encE
   rw [List.getElem!_eq_getElem?_getD, hu]
   rfl
  rw [e] at this
  have e2 : (⟨b, 0, none⟩ : Addr).add (j * kEv.sz + i) = ⟨b, 0 + (j * 3 + i), none⟩ := by
   show (⟨b, 0, none⟩ : Addr).add (j * 3 + i) = _
   unfold Addr.add
   split <;> simp_all
  rw [e2]
  exact this
section
variable {ops : Array Oper} {o : Oper} {rest : List Oper} {a : Act} {Q : Exit → Act → World → Prop} {w0 W : World}
theorem ap_ch2 (base : Nat) (hgd : o.guard = none) (s x : Operand) (ho : o.op = .call { callee := .builtin .append, args := #[s, x], argTypes := #[71, 71] })
  (v : Value) (xs : List Ev) (y z : Ev) (hs : a.eval s = v) {N : Nat} (hx : a.eval x = .slice (some ⟨N, 0, none⟩) 2 2) (hN : N = W.heap.size)
  (HO : Kd.R kEv 74 W base (fun _ => True) v xs) (HB : Below base w0 W) (hbase : base ≤ W.heap.size) (hl : xs.length < 1000000)
  (h : ∀ v1 w1, Kd.R kEv 74 w1 base (fun _ => True) v1 (xs ++ [y, z]) → Below base w0 w1 → wpList Tryz.prog ops Q rest (a.put o.dst v1) w1) :
  wpList Tryz.prog ops Q (o :: rest) a (W.alloc (.cells #[.int .i64 y.f0, .int .i64 y.f1, .bool y.f2, .int .i64 z.f0, .int .i64 z.f1, .bool z.f2] 74)) := by
 have hBa : Below W.heap.size W (W.alloc (.cells #[.int .i64 y.f0, .int .i64 y.f1, .bool y.f2, .int .i64 z.f0, .int .i64 z.f1, .bool z.f2] 74)) := (Below.refl _ _).alloc (Nat.le_refl _) _
 refine Kd.R_append_rows kEv base hgd s x 71 74 (.agg #[(.int .i64 0), (.int .i64 0), (.bool false)]) 24 ho Tryz.underlying71 infoCh rfl (by decide) (by decide)
  v xs [y, z] (some ⟨N, 0, none⟩) 2 2 (fun _ => True) (fun _ => False) hs hx (Kd.R_below HO hBa) (Rr := kEv.K (W.alloc (.cells #[.int .i64 y.f0, .int .i64 y.f1, .bool y.f2, .int .i64 z.f0, .int .i64 z.f1, .bool z.f2] 74))) ?_ (fun p cs hp => ?_) (fun _ hk => hk.elim) (fun _ _ => trivial) (HB.trans (hBa.mono hbase)) (by have := hBa.size; omega) (by omega) (fun v1 w1 h1 h2 _ _ => h v1 w1 h1 h2)
 ·
  subst hN
  refine ⟨rfl, by omega, fun _ => ⟨_, rfl, fun j p hj => ⟨[.int .i64 p.f0, .int .i64 p.f1, .bool p.f2], rfl, kEv.K_of_M (kEv_mkM _ 0 (fun _ => True) p), fun i u hu => ?_⟩⟩⟩
  have hblk := World.alloc_heap_new W (.cells #[.int .i64 y.f0, .int .i64 y.f1, .bool y.f2, .int .i64 z.f0, .int .i64 z.f1, .bool z.f2] 74)
  have e2 : ∀ q, (⟨W.heap.size, 0, none⟩ : Addr).add q = ⟨W.heap.size, q, none⟩ := fun q => by
   unfold Addr.add
   split <;> simp_all
  rw [e2]
  have hc := blk_cell hblk (j * kEv.sz + i)
  rw [hc]
  rcases j with _ | _ | j
  ·
   cases hj
   rcases i with _ | _ | _ | i
   ·
    simpa using hu
   ·
    simpa using hu
   ·
    simpa using hu
   ·
    simp at hu
  ·
   cases hj
   rcases i with _ | _ | _ | i
   ·
    simpa [show kEv.sz = 3 from rfl] using hu
   ·
    simpa [show kEv.sz = 3 from rfl] using hu
   ·
    simpa [show kEv.sz = 3 from rfl] using hu
   ·
    simp at hu
  ·
   simp at hj
 ·
  rw [kEv_open hp]
  exact kEv_mkM _ _ _ p
end
def ChR (W : World) (base : Nat) (A : Option Addr) (l : List Ev) : Prop := ∀ W', W.heap.size ≤ W'.heap.size → (∀ k, base ≤ k → k < W.heap.size → W'.heap[k]? = W.heap[k]?) → kEv.C W' A l.length l
theorem C_step_ev {W W' : World} {b n : Nat} {d : List Ev} (h : kEv.C W (some ⟨b, 0, none⟩) n d) (hb : W'.heap[b]? = W.heap[b]?) : kEv.C W' (some ⟨b, 0, none⟩) n d := by
 refine ⟨h.1, h.2.1, fun hn => ?_⟩
 obtain ⟨ad, e, hc⟩ := h.2.2 hn
 refine ⟨ad, e, fun j p hj => ?_⟩
 obtain ⟨c, h1, h2, h3⟩ := hc j p hj
 refine ⟨c, h1, ?_, fun i u hu => ?_⟩
 ·
  rw [kEv_open h2]
  exact kEv.K_of_M (kEv_mkM _ 0 (fun _ => True) p)
 ·
  have := h3 i u hu
  cases e
  have e2 : ∀ q, (⟨b, 0, none⟩ : Addr).add q = ⟨b, q, none⟩ := fun q => by
   unfold Addr.add
   split <;> simp_all
  rw [e2] at this ⊢
  rw [← this]
  unfold World.cell?
  simp only [hb]
-- @IF (*loop.example/buildscheduler/impl.graph).changes
theorem sorted_keeps (w : World) (b n : Nat) (d : List Ev) (os : Array Obj) (k : Nat) (hk : k ≠ b) (hl : k < w.heap.size) : (sortWorldK encE 3 w b 0 n d.toArray os).heap[k]? = w.heap[k]? := by
 unfold sortWorldK putRowK putRow mapBlock grow Sort.ahead
 show ((w.heap.modify b _) ++ os)[k]? = _
 rw [Array.getElem?_append_left (by simpa using hl), Array.getElem?_modify]
 simp [Ne.symm hk]
theorem sorted_size (w : World) (b n : Nat) (d : List Ev) (os : Array Obj) : w.heap.size ≤ (sortWorldK encE 3 w b 0 n d.toArray os).heap.size := by
 unfold sortWorldK putRowK putRow mapBlock grow Sort.ahead
 simp
theorem sorted_below {w0 w : World} {base b : Nat} (n : Nat) (d : List Ev) (os : Array Obj) (hB : Below base w0 w) (hb : base ≤ b) (hs : base ≤ w.heap.size) : Below base w0 (sortWorldK encE 3 w b 0 n d.toArray os) := by
 refine hB.trans ⟨rfl, rfl, rfl, ?_, fun k hk => sorted_keeps w b n d os k (by omega) (by omega)⟩
 have := sorted_size w b n d os
 omega
end Go.Proofs.YtkljcdghbefceaaGreatDoor
