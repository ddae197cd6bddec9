/- The law FnReadyOrder returns true for all bytes: the tied card of its row. No condition but the row's own. -/
import Derived.Test.YtlcdffhhimbbmaaDoorKRO13
import Derived.Test.YtlcdffhhimbbmaaDoorKRO14
import Derived.Test.YtlcdffhhimbbmaaDoorKRO2
import Derived.Deep.QuietTactic
import Derived.BigQuiet
import Derived.Test.YtlcdffhhimbbmaaDoorKRO0
import Derived.Test.YtlcdffhhimbbmaaDoorCards
import Derived.Test.YtlcdffhhimbbmaaDoorTie
namespace Go.Proofs.YtlcdffhhimbbmaaDoor.PFnValidLog
set_option linter.unusedVariables false
set_option linter.unusedSimpArgs false
open Go Go.RowKit
open Go.Proofs.YtlcdffhhimbbmaaDoorW.PrintWords Go.Proofs.YtlcdffhhimbbmaaDoorW.PrintLast Go.Proofs.YtlcdffhhimbbmaaDoorW.PrintMore
theorem GOk_set {m n : Nat} {g : List S41} {t : S41} (h : GOk m n g) (i : Nat) (ht : t.f1.length ≤ n) : GOk m n (g.set i t) := by
 refine ⟨by rw [List.length_set]; exact h.1, fun x hx => ?_⟩
 rcases List.mem_or_eq_of_mem_set hx with hx | rfl
 ·
  exact h.2 x hx
 ·
  exact ht
theorem GOk_wide {m n m' n' : Nat} {g : List S41} (h : GOk m n g) (hm : m ≤ m') (hn : n ≤ n') : GOk m' n' g := ⟨Nat.le_trans h.1 hm, fun t ht => Nat.le_trans (h.2 t ht) hn⟩
section
variable {b : List Int} (hb : ∀ x ∈ b, 0 ≤ x ∧ x < 256) (hl : b.length ≤ 2000)
include hb hl
theorem anyGraph_gets (p : Int) (h0 : 0 ≤ p) (h1 : p ≤ 500000) : Gets (fun k => spec_anyGraph.f k b p) (fun r => GOk 16 10 r.1 ∧ 0 ≤ r.2 ∧ r.2 ≤ p + 300) := by
 unfold spec_anyGraph.f
 refine Gets.bind (someGraph_gets hb hl p h0 (by omega) 8 (by omega)) fun x hx => ?_
 obtain ⟨hg, x0, x1⟩ := hx
 have hgw := GOk_wide (m' := 16) (n' := 10) hg (by omega) (by omega)
 have hlen := hg.1
 refine Gets.ite (fun _ => Gets.ret ⟨hgw, x0, by omega⟩) (fun hne => ?_)
 refine Gets.bind (pick_gets hb hl x0 (by omega)) fun i hi => ?_
 obtain ⟨i1, i2, i3, i4⟩ := hi
 have i5 := i2 (by omega)
 have hmem := hg.2 _ (rdT_mem i1 i5)
 rw [i4]
 refine Gets.bind (pick_gets hb hl (by omega) (by omega)) fun q hq => ?_
 obtain ⟨q1, q2, q3, q4⟩ := hq
 rw [q4]
 refine Gets.ite (fun _ => ?_) (fun _ => Gets.ite (fun _ => ?_) (fun _ => Gets.ite (fun _ => ?_) (fun _ => Gets.ite (fun _ => ?_) (fun _ => Gets.ite (fun _ => ?_) (fun _ => Gets.ret ⟨hgw, by show 0 ≤ x.2 + 1 + 1; omega, by show x.2 + 1 + 1 ≤ p + 300; omega⟩)))))
 ·
  refine Gets.bind (one_gets hb hl (by omega) (by omega) (by simp)) fun t ht => ?_
  exact Gets.pos i1 (Gets.pos i5 (Gets.ret ⟨GOk_set hgw _ (by show (rd_T41 x.1 i.1).f1.length ≤ 10; omega), by show 0 ≤ t.2; omega, by show t.2 ≤ p + 300; omega⟩))
 ·
  refine Gets.bind (pick_gets hb hl (by omega) (by omega)) fun t ht => ?_
  obtain ⟨t1, t2, t3, t4⟩ := ht
  refine Gets.pos i1 (Gets.pos i5 (Gets.pos (by omega) ?_))
  rw [t4]
  refine Gets.bind (spoil_gets hb hl _ (by omega) (by omega) _ (by simp; omega) _) fun s hs => ?_
  obtain ⟨s1, s2, s3⟩ := hs
  exact Gets.ret ⟨GOk_set hgw _ (by show s.1.length ≤ 10; simp at s1; omega), by show 0 ≤ s.2; omega, by show s.2 ≤ p + 300; omega⟩
 ·
  refine Gets.bind (one_gets hb hl (by omega) (by omega) (by simp)) fun t ht => ?_
  exact Gets.pos i1 (Gets.pos i5 (Gets.ret ⟨GOk_set hgw _ (by show (rd_T41 x.1 i.1).f1.length ≤ 10; omega), by show 0 ≤ t.2; omega, by show t.2 ≤ p + 300; omega⟩))
 ·
  refine Gets.bind (one_gets hb hl (by omega) (by omega) (by simp)) fun t ht => ?_
  exact Gets.pos i1 (Gets.pos i5 (Gets.ret ⟨GOk_set hgw _ (by show (rd_T41 x.1 i.1).f1.length ≤ 10; omega), by show 0 ≤ t.2; omega, by show t.2 ≤ p + 300; omega⟩))
 ·
  refine Gets.bind (someGraph_gets hb hl _ (by omega) (by omega) 8 (by omega)) fun t ht => ?_
  obtain ⟨tg, t0, t1⟩ := ht
  have tl := tg.1
  refine Gets.pos (by omega) (Gets.ret ⟨⟨?_, fun y hy => ?_⟩, t0, by show t.2 ≤ p + 300; omega⟩)
  ·
   show (x.1 ++ t.1).length ≤ 16
   simp; omega
  ·
   rcases List.mem_append.1 hy with hy | hy
   ·
    exact hgw.2 y hy
   ·
    exact Nat.le_trans (tg.2 y hy) (by omega)
end
theorem newReader_some (l : List Int) : ∃ r, spec_newReader.f l = some (r, 0) ∧ r.length ≤ 2000 ∧ ∀ x ∈ r, x ∈ l := by
 unfold spec_newReader.f
 by_cases h : (l.length : Int) > 2000
 ·
  rw [if_pos h, if_pos (by omega)]
  exact ⟨_, rfl, by rw [List.length_take]; omega, fun x hx => List.mem_of_mem_take hx⟩
 ·
  rw [if_neg h]
  exact ⟨l, rfl, by omega, fun x hx => hx⟩
end Go.Proofs.YtlcdffhhimbbmaaDoor.PFnValidLog

namespace Go.Proofs.YtlcdffhhimbbmaaDoor
set_option linter.unusedVariables false
set_option linter.unusedSimpArgs false
open Go Go.RowKit Go.Shelf
open Go.Proofs.YtlcdffhhimbbmaaDoorW.PrintWords Go.Proofs.YtlcdffhhimbbmaaDoorW.PrintLast Go.Proofs.YtlcdffhhimbbmaaDoorW.PrintMore
open PFnValidLog
def RdSt (w0 W : World) (rb : Nat) (M : Int) : Prop := ∃ b p, IsS71 w0 W rb b p ∧ (∀ x ∈ b, 0 ≤ x ∧ x < 256) ∧ b.length ≤ 2000 ∧ 0 ≤ p ∧ p ≤ M
theorem RdSt.lt {w0 W : World} {rb : Nat} {M : Int} (h : RdSt w0 W rb M) : rb < W.heap.size := by
 obtain ⟨b, p, hI, _⟩ := h
 exact hI.lt
theorem RdSt.wide {w0 W : World} {rb : Nat} {M M' : Int} (h : RdSt w0 W rb M) (hM : M ≤ M') : RdSt w0 W rb M' := by
 obtain ⟨b, p, hI, h1, h2, h3, h4⟩ := h
 exact ⟨b, p, hI, h1, h2, h3, by omega⟩
theorem RdSt.below {w0 W W' : World} {rb : Nat} {M : Int} (h : RdSt w0 W rb M) (hb : Below W.heap.size W W') : RdSt w0 W' rb M := by
 obtain ⟨b, p, hI, h1⟩ := h
 exact ⟨b, p, hI.below hb, h1⟩
structure StI (W : World) (rb : Nat) (A : Option Addr) (l : List Int) : Prop where
 st : ∀ W', KeepBut W W' rb none → (Kd.int .i64).C W' A l.length l
 ne : ∀ ad, A = some ad → 0 < l.length → ad.block ≠ rb
def StG (W : World) (rb : Nat) (A : Option Addr) (g : List Tk) : Prop := ∀ W', KeepBut W W' rb none → kTk.C W' A g.length g
theorem keep_trans {w w1 w2 : World} {rb : Nat} (h : KeepBut w w1 rb none) (k : KeepBut w1 w2 rb none) : KeepBut w w2 rb none := h.trans k (.inl rfl)
theorem StI.keep {W W1 : World} {rb : Nat} {A : Option Addr} {l : List Int} (h : StI W rb A l) (hk : KeepBut W W1 rb none) : StI W1 rb A l := ⟨fun W' h' => h.st W' (keep_trans hk h'), h.ne⟩
theorem StG.keep {W W1 : World} {rb : Nat} {A : Option Addr} {g : List Tk} (h : StG W rb A g) (hk : KeepBut W W1 rb none) : StG W1 rb A g := fun W' h' => h W' (keep_trans hk h')
theorem StI.now {W : World} {rb : Nat} {A : Option Addr} {l : List Int} (h : StI W rb A l) : (Kd.int .i64).C W A l.length l := h.st W (KeepBut.refl _ _ _)
theorem StG.now {W : World} {rb : Nat} {A : Option Addr} {g : List Tk} (h : StG W rb A g) : kTk.C W A g.length g := h W (KeepBut.refl _ _ _)
theorem keep_below {w w1 : World} (rb : Nat) (h : Below w.heap.size w w1) : KeepBut w w1 rb none := KeepBut.of_below h rb none
theorem stI_of_R {W : World} {rb base : Nat} {v : Value} {l : List Int} (h : Kd.R (Kd.int .i64) 3 W base (fun _ => True) v l) (hrb : rb < base) : ∃ A c, v = .slice A l.length c ∧ l.length ≤ c ∧ StI W rb A l := by
 obtain ⟨A, c, rfl, hc, _⟩ := Kd.R_reads h
 refine ⟨A, c, rfl, hc, fun W' hk => ?_, fun ad e _ e2 => by have := Kd.R_base h ad.block (by rw [e]; simp [Value.ownBlock]); omega⟩
 have h2 := Kd.R_step (Kd.R_tight rfl h) (w1 := W') fun k hk' hlt => hk.2 k hlt (fun e => by have := Kd.R_base h k hk'.symm; omega) (by simp)
 exact (Kd.R_reads' h2).2.2
theorem stI_of_Q {W : World} {rb base : Nat} {v : Value} {l : List Int} (h : Kd.Q (Kd.int .i64) 3 W base (fun _ => True) v l) (hrb : rb < base) : ∃ A c, v = .slice A l.length c ∧ l.length ≤ c ∧ StI W rb A l := by
 obtain ⟨A, c, rfl, hc, _⟩ := Kd.Q_reads h
 refine ⟨A, c, rfl, hc, fun W' hk => ?_, fun ad e _ e2 => by have := Kd.Q_base h ad.block (by rw [e]; simp [Value.ownBlock]); omega⟩
 have h2 := Kd.Q_keep (Kd.Q_bound h) hk (fun k hk' e => by have := hk'.2.1; omega)
 exact (Kd.Q_reads' h2).2.2
theorem newReader_any (A : Option Addr) (c : Nat) (l : List Int) (hb : ∀ x ∈ l, 0 ≤ x ∧ x < 256) (w : World) (hr : (Kd.int .u8).C w A l.length l) (hc : l.length ≤ c) :
  Calls Tryd.prog 27 #[.slice A l.length c] w fun e w' => ∃ rb, e = .returned (.pointer (some ⟨rb, 0, none⟩)) ∧ RdSt w w' rb 0 ∧ Below w.heap.size w w' := by
 obtain ⟨r, hr1, hr2, hr3⟩ := newReader_some l
 refine (spec_newReader.calls A c l r 0 w w (Below.refl _ _) hr hc hr1).mono ?_
 rintro e w' ⟨g, rfl, hI, hB, _⟩
 exact ⟨g, rfl, ⟨r, 0, hI, fun x hx => hb x (hr3 x hx), hr2, Int.le_refl _, Int.le_refl _⟩, hB⟩
theorem pick_any (rb : Nat) (M n : Int) (hM : M ≤ 900000) (w0 w : World) (hS : RdSt w0 w rb M) (hB : Below w0.heap.size w0 w) :
  Calls Tryd.prog 47 #[.pointer (some ⟨rb, 0, none⟩), .int .i64 n] w fun e w' => ∃ v, e = .returned (.int .i64 v) ∧ (0 ≤ v ∧ (0 < n → v < n)) ∧ RdSt w0 w' rb (M + 1) ∧ Below w0.heap.size w0 w' ∧ KeepBut w w' rb none := by
 obtain ⟨b, p, hI, h1, h2, h3, h4⟩ := hS
 obtain ⟨k0, r, ⟨hp1, hp2, hp3, hp4⟩, hk⟩ := pick_gets h1 h2 (n := n) h3 (by omega)
 refine (spec_reader_pick.calls k0 rb b p n r.1 r.2 w0 w hI hB (hk k0 (Nat.le_refl _))).mono ?_
 rintro e w' ⟨rfl, hI', hB', hK⟩
 exact ⟨_, rfl, ⟨hp1, hp2⟩, ⟨b, r.2, hI', h1, h2, by omega, by omega⟩, hB', hK⟩
theorem one_any (rb : Nat) (M : Int) (A : Option Addr) (c : Nat) (l : List Int) (hl : 0 < l.length) (hM : M ≤ 900000) (w0 w : World) (hS : RdSt w0 w rb M) (hB : Below w0.heap.size w0 w) (hr : (Kd.int .i64).C w A l.length l) (hc : l.length ≤ c) (hf : ∀ ad, A = some ad → 0 < l.length → ad.block ≠ rb) :
  Calls Tryd.prog 48 #[.pointer (some ⟨rb, 0, none⟩), .slice A l.length c] w fun e w' => ∃ v, e = .returned (.int .i64 v) ∧ v ∈ l ∧ RdSt w0 w' rb (M + 1) ∧ Below w0.heap.size w0 w' ∧ KeepBut w w' rb none := by
 obtain ⟨b, p, hI, h1, h2, h3, h4⟩ := hS
 obtain ⟨k0, r, ⟨hp1, hp2⟩, hk⟩ := one_gets h1 h2 (l := l) h3 (by omega) hl
 refine (spec_reader_one.calls k0 rb b p A c l r.1 r.2 w0 w hI hB hr hc hf (hk k0 (Nat.le_refl _))).mono ?_
 rintro e w' ⟨rfl, hI', hB', hK⟩
 exact ⟨_, rfl, hp1, ⟨b, r.2, hI', h1, h2, by omega, by omega⟩, hB', hK⟩
theorem spoil_any (rb : Nat) (M : Int) (A : Option Addr) (c : Nat) (l : List Int) (n : Int) (hl : l.length ≤ 1000) (hM : M ≤ 900000) (w0 w : World) (hS : RdSt w0 w rb M) (hB : Below w0.heap.size w0 w) (hr : (Kd.int .i64).C w A l.length l) (hc : l.length ≤ c) (hf : ∀ ad, A = some ad → 0 < l.length → ad.block ≠ rb) :
  Calls Tryd.prog 49 #[.pointer (some ⟨rb, 0, none⟩), .slice A l.length c, .int .i64 n] w fun e w' => ∃ A' c' l', e = .returned (.slice A' l'.length c') ∧ l'.length ≤ c' ∧ StI w' rb A' l' ∧ l'.length ≤ l.length + 1 ∧ RdSt w0 w' rb (M + 3) ∧ Below w0.heap.size w0 w' ∧ KeepBut w w' rb none := by
 have hlt := hS.lt
 obtain ⟨b, p, hI, h1, h2, h3, h4⟩ := hS
 obtain ⟨k0, r, ⟨hp1, hp2, hp3⟩, hk⟩ := spoil_gets h1 h2 p h3 (by omega) l hl n
 refine (spec_reader_spoil.calls k0 rb b p A c l n r.1 r.2 w0 w hI hB hr hc hf (hk k0 (Nat.le_refl _))).mono ?_
 rintro e w' ⟨v, rfl, hQ, hI', hB', hK⟩
 obtain ⟨A', c', rfl, hc', hSt⟩ := stI_of_Q (rb := rb) hQ hlt
 exact ⟨A', c', r.1, rfl, hc', hSt, hp1, ⟨b, r.2, hI', h1, h2, by omega, by omega⟩, hB', hK⟩
theorem anyGraph_any (rb : Nat) (M : Int) (hM : M ≤ 500000) (w0 w : World) (hS : RdSt w0 w rb M) (hB : Below w0.heap.size w0 w) :
  Calls Tryd.prog 28 #[.pointer (some ⟨rb, 0, none⟩)] w fun e w' => ∃ A' c' g, e = .returned (.slice A' g.length c') ∧ g.length ≤ c' ∧ StG w' rb A' g ∧ GOk 16 10 g ∧ RdSt w0 w' rb (M + 300) ∧ Below w0.heap.size w0 w' ∧ KeepBut w w' rb none := by
 have hlt := hS.lt
 obtain ⟨b, p, hI, h1, h2, h3, h4⟩ := hS
 obtain ⟨k0, r, ⟨hp1, hp2, hp3⟩, hk⟩ := anyGraph_gets h1 h2 p h3 (by omega)
 refine (spec_anyGraph.calls k0 rb b p r.1 r.2 w0 w hI hB (hk k0 (Nat.le_refl _))).mono ?_
 rintro e w' ⟨v, rfl, hN, hI', hB', hK⟩
 obtain ⟨A', c', rfl⟩ := Kd.N_slice hN
 refine ⟨A', c', r.1, rfl, (Kd.N_reads' hN).2.1, fun W' hW => ?_, hp1, ⟨b, r.2, hI', h1, h2, hp2, by omega⟩, hB', hK⟩
 exact (Kd.N_reads' (Kd.N_keep hN hW (fun k hk' e => by omega))).2.2
end Go.Proofs.YtlcdffhhimbbmaaDoor

namespace Go.Proofs.YtlcdffhhimbbmaaDoor
set_option linter.unusedVariables false
set_option linter.unusedSimpArgs false
open Go.RowKit Go.Shelf Bits
open Go.Proofs.YtlcdffhhimbbmaaDoorW.PrintWords Go.Proofs.YtlcdffhhimbbmaaDoorW.PrintLast Go.Proofs.YtlcdffhhimbbmaaDoorW.PrintMore
theorem stI_nil (W : World) (rb : Nat) (A : Option Addr) : StI W rb A [] := ⟨fun W' _ => ⟨rfl, by simp, fun hn => absurd hn (by simp)⟩, fun _ _ hn => absurd hn (by simp)⟩
set_option maxRecDepth 100000 in
set_option maxHeartbeats 4000000 in
theorem someDone_any (rb : Nat) (M : Int) (hM : M ≤ 700000) (A : Option Addr) (c : Nat) (g : List Tk) (hg : g.length ≤ 16) (w0 w : World) (hS : RdSt w0 w rb M) (hB : Below w0.heap.size w0 w) (hG : StG w rb A g) :
  Calls Tryd.prog 56 #[.pointer (some ⟨rb, 0, none⟩), .slice A g.length c] w fun e w' => ∃ A' c' l', e = .returned (.slice A' l'.length c') ∧ l'.length ≤ c' ∧ StI w' rb A' l' ∧ l'.length ≤ 9 ∧ RdSt w0 w' rb (M + 30) ∧ Below w0.heap.size w0 w' ∧ KeepBut w w' rb none := by
 have hB1 : Below w.heap.size w (w.alloc (.cells #[] 3)) := (Below.refl _ _).alloc (Nat.le_refl _) _
 have HS := Lib.hid (hS.below hB1)
 have HB := Lib.hid (hB.trans (hB1.mono hB.size))
 have HG := Lib.hid (hG.keep (keep_below rb hB1))
 have HK := Lib.hid (keep_below rb hB1)
 clear hS hB hG hB1
 go_enter Tryd.func56, Tryd.ntmps56
 go_wp2_with (go_at_call 47; refine (pick_any rb M _ (by omega) w0 _ HS.out HB.out).mono ?_; rintro e w1 ⟨v1, rfl, hv1, hS1, hB1, hK1⟩; have H1 := Lib.hid (And.intro hS1 (And.intro hB1 hK1)); clear hS1 hB1 hK1)
 go_loopw [5, 6] (fun out n wr => ∃ (k : Nat) (A' : Option Addr) (c' : Nat) (l : List Int), n = .int .i64 (k : Int) ∧ k ≤ 17 ∧ out = .slice A' l.length c' ∧ l.length ≤ c' ∧ Hid (StI wr rb A' l ∧ l.length ≤ 8 ∧ RdSt w0 wr rb (M + 20 - k) ∧ StG wr rb A g ∧ Below w0.heap.size w0 wr ∧ KeepBut w wr rb none)) (fun _ n _ => (intOf n).toNat)
 case atStart => exact ⟨v1.toNat, _, 0, [], by congr 1; omega, by omega, rfl, Nat.le_refl _, Lib.hid ⟨stI_nil _ _ _, by simp, H1.out.1.wide (by omega), HG.out.keep H1.out.2.2, H1.out.2.1, keep_trans HK.out H1.out.2.2⟩⟩
 case round =>
  obtain ⟨k, A', c', l, rfl, hk, rfl, hlc, HH⟩ := hrel
  obtain ⟨hI, hl8, hS, hG, hB, hK⟩ := HH.out
  by_cases hk0 : k = 0
  ·
   subst hk0
   have H2 := Lib.hid (And.intro hI (And.intro hS (And.intro hG (And.intro hB hK))))
   clear HH hI hS hG hB hK
   go_wp2_with (go_at_call 49; refine (spoil_any rb (M + 20) _ _ l 8 (by omega) (by omega) w0 _ (H2.out.2.1.wide (by omega)) H2.out.2.2.2.1 H2.out.1.now hlc H2.out.1.ne).mono ?_; rintro e w3 ⟨A3, c3, l3, rfl, hl3, hI3, hl3', hS3, hB3, hK3⟩)
   go_ret
   exact ⟨_, _, _, rfl, hl3, hI3, by omega, hS3.wide (by omega), hB3, keep_trans H2.out.2.2.2.2 hK3⟩
  ·
   have H2 := Lib.hid (And.intro hI (And.intro hS (And.intro hG (And.intro hB hK))))
   clear HH hI hS hG hB hK
   have dk : decide ((0 : Int) < (k : Int)) = true := decide_eq_true (by omega)
   have dk' : decide (0 < k) = true := decide_eq_true (by omega)
   have HT := Lib.hid (sReadyTasks_calls A c g A' c' l wr H2.out.2.2.1.now H2.out.1.now)
   have hrl := sRdTasks_len g l
   generalize hq : sRdTasks g l = rd at HT hrl
   clear hq
   have hil := ints_length rd
   cases rd with
   | nil =>
    go_wp2_with (go_at_call 84; refine HT.out.mono ?_; rintro e w2 ⟨v2, rfl, hR2, hB2⟩; obtain ⟨A2, c2, rfl, hl2, hC2⟩ := Kd.R_reads hR2; clear hR2 hl2 hC2)
    have hk2 := keep_below rb hB2
    refine ⟨⟨k - 1, A', c', l, by congr 1; omega, by omega, rfl, hlc, Lib.hid ⟨H2.out.1.keep hk2, hl8, (H2.out.2.1.below hB2).wide (by omega), H2.out.2.2.1.keep hk2, H2.out.2.2.2.1.trans (hB2.mono H2.out.2.2.2.1.size), keep_trans H2.out.2.2.2.2 hk2⟩⟩, by simp [intOf]; omega⟩
   | cons y rd =>
    have hpos : 0 < (ints (y :: rd)).length := by rw [hil]; simp
    have dl : decide ((0 : Int) < ((ints (y :: rd)).length : Int)) = true := decide_eq_true (by omega)
    have dl' : decide (0 < (ints (y :: rd)).length) = true := decide_eq_true hpos
    have hrb := H2.out.2.1.lt
    clear hil
    generalize ints (y :: rd) = L at HT hpos dl dl'
    go_wp2_with (first | (go_at_call 84; refine HT.out.mono ?_; rintro e w2 ⟨v2, rfl, hR2, hB2⟩; have HS2 := Lib.hid (stI_of_R (rb := rb) hR2 hrb); obtain ⟨A2, c2, rfl, hl2, hI2⟩ := HS2.out; have hk2 := keep_below rb hB2; have H3 := Lib.hid (And.intro hI2 (And.intro (H2.out.1.keep hk2) (And.intro (H2.out.2.1.below hB2) (And.intro (H2.out.2.2.1.keep hk2) (And.intro (H2.out.2.2.2.1.trans (hB2.mono H2.out.2.2.2.1.size)) (keep_trans H2.out.2.2.2.2 hk2)))))); clear hR2 hB2 HS2 hk2 hI2) | (go_at_call 47; refine (pick_any rb _ _ (by omega) w0 _ H3.out.2.2.1 H3.out.2.2.2.2.1).mono ?_; rintro e w4 ⟨v4, rfl, hv4, hS4, hB4, hK4⟩; obtain ⟨m, rfl⟩ := Int.eq_ofNat_of_zero_le hv4.1; have hml : m < L.length := (by have := hv4.2 (by omega); omega); obtain ⟨ad4, e4, cx4⟩ := at_num (H3.out.1.keep hK4).now m hml; cases e4; generalize L.getD m 0 = x at cx4; have hmi : (m : Int) < (L.length : Int) := (by omega); have H4 := Lib.hid (And.intro (H3.out.2.1.keep hK4) (And.intro hS4 (And.intro (H3.out.2.2.2.1.keep hK4) (And.intro hB4 (keep_trans H3.out.2.2.2.2.2 hK4))))); clear hv4 hS4 hB4 hK4) | (go_at_call 85; refine (sFinishTask_any A c g A' c' l x _ H4.out.2.2.1.now H4.out.1.now).mono ?_; rintro e w5 ⟨v5, b5, l5, rfl, hR5, hl5, hB5⟩; have HS5 := Lib.hid (stI_of_R (rb := rb) hR5 H4.out.2.1.lt); obtain ⟨A5, c5, rfl, hlc5, hI5⟩ := HS5.out; have hk5 := keep_below rb hB5; have H5 := Lib.hid (And.intro hI5 (And.intro (H4.out.1.keep hk5) (And.intro (H4.out.2.1.below hB5) (And.intro (H4.out.2.2.1.keep hk5) (And.intro (H4.out.2.2.2.1.trans (hB5.mono H4.out.2.2.2.1.size)) (keep_trans H4.out.2.2.2.2 hk5)))))); clear hR5 hB5 HS5 hk5 hI5))
    ·
     refine ⟨⟨k - 1, A5, c5, l5, by congr 1; omega, by omega, rfl, hlc5, Lib.hid ⟨H5.out.1, hl5, H5.out.2.2.1.wide (by omega), H5.out.2.2.2⟩⟩, by simp [intOf]; omega⟩
    ·
     refine ⟨⟨k - 1, A', c', l, by congr 1; omega, by omega, rfl, hlc, Lib.hid ⟨H5.out.2.1, hl8, H5.out.2.2.1.wide (by omega), H5.out.2.2.2⟩⟩, by simp [intOf]; omega⟩
set_option maxRecDepth 100000 in
theorem DrawValidDone_any (A : Option Addr) (c : Nat) (l : List Int) (hb : ∀ x ∈ l, 0 ≤ x ∧ x < 256) (w : World) (hr : (Kd.int .u8).C w A l.length l) (hc : l.length ≤ c) :
  Calls Tryd.prog 32 #[.slice A l.length c] w fun e w' => ∃ A1 c1 g A2 c2 d, e = .returned (.tuple #[.slice A1 g.length c1, .slice A2 d.length c2]) ∧ kTk.C w' A1 g.length g ∧ (Kd.int .i64).C w' A2 d.length d ∧ g.length ≤ 16 ∧ Below w.heap.size w w' := by
 have HN := Lib.hid (newReader_any A c l hb w hr hc)
 clear hb hr hc
 go_enter Tryd.func32, Tryd.ntmps32
 go_wp2_with (first | (go_at_call 27; refine HN.out.mono ?_; rintro e w1 ⟨rb, rfl, hS1, hB1⟩; have H1 := Lib.hid (And.intro hS1 hB1); clear hS1 hB1) | (go_at_call 28; refine (anyGraph_any rb 0 (by omega) w _ H1.out.1 H1.out.2).mono ?_; rintro e w2 ⟨A2, c2, g, rfl, hg2, hG2, hok, hS2, hB2, hK2⟩; have H2 := Lib.hid (And.intro hG2 (And.intro hok (And.intro hS2 hB2))); clear hG2 hok hS2 hB2 hK2) | (go_at_call 56; refine (someDone_any rb _ (by omega) A2 c2 g H2.out.2.1.1 w _ H2.out.2.2.1 H2.out.2.2.2 H2.out.1).mono ?_; rintro e w3 ⟨A3, c3, d, rfl, hd3, hI3, hl3, hS3, hB3, hK3⟩; have H3 := Lib.hid (And.intro (H2.out.1.keep hK3) (And.intro hI3 hB3)); clear hI3 hS3 hB3 hK3))
 go_ret2
 exact ⟨_, _, g, _, _, d, rfl, H3.out.1.now, H3.out.2.1.now, H2.out.2.1.1, H3.out.2.2⟩
theorem DrawReadyOrder_any (A : Option Addr) (c : Nat) (l : List Int) (hb : ∀ x ∈ l, 0 ≤ x ∧ x < 256) (w : World) (hr : (Kd.int .u8).C w A l.length l) (hc : l.length ≤ c) :
  Calls Tryd.prog 12 #[.slice A l.length c] w fun e w' => ∃ A1 c1 g A2 c2 d, e = .returned (.tuple #[.slice A1 g.length c1, .slice A2 d.length c2]) ∧ kTk.C w' A1 g.length g ∧ (Kd.int .i64).C w' A2 d.length d ∧ g.length ≤ 16 ∧ Below w.heap.size w w' := by
 have HN := Lib.hid (DrawValidDone_any A c l hb w hr hc)
 clear hb hr hc
 go_enter Tryd.func12, Tryd.ntmps12
 go_wp2_with (go_at_call 32; refine HN.out.mono ?_; rintro e w1 ⟨A1, c1, g, A2, c2, d, rfl, h1, h2, h3, h4⟩; have H1 := Lib.hid (And.intro h1 (And.intro h2 (And.intro h3 h4))); clear h1 h2 h3 h4)
 go_ret2
 exact ⟨_, _, g, _, _, d, rfl, H1.out⟩
end Go.Proofs.YtlcdffhhimbbmaaDoor

namespace Go.Proofs.YtlcdffhhimbbmaaDoor
set_option linter.unusedVariables false
set_option linter.unusedSimpArgs false
open Go.RowKit Go.Shelf Bits
open Go.Proofs.YtlcdffhhimbbmaaDoorW.PrintWords Go.Proofs.YtlcdffhhimbbmaaDoorW.PrintLast Go.Proofs.YtlcdffhhimbbmaaDoorW.PrintMore
theorem list_ext0 {a b : List Int} (hl : a.length = b.length) (h : ∀ j, j < a.length → a.getD j 0 = b.getD j 0) : a = b := by
 apply List.ext_getElem hl
 intro j h1 h2
 have := h j h1
 rw [List.getD_eq_getElem?_getD, List.getD_eq_getElem?_getD, List.getElem?_eq_getElem h1, List.getElem?_eq_getElem h2] at this
 exact this
set_option maxRecDepth 100000 in
set_option maxHeartbeats 2000000 in
theorem equalInts_calls (A : Option Addr) (c : Nat) (a : List Int) (B : Option Addr) (d : Nat) (b : List Int) (w : World) (hr : (Kd.int .i64).C w A a.length a) (hr' : (Kd.int .i64).C w B b.length b) :
  Calls Tryd.prog 14 #[.slice A a.length c, .slice B b.length d] w fun e w' => e = .returned (.bool (decide (a = b))) ∧ Below w.heap.size w w' := by
 have HR := Lib.hid hr
 have HR' := Lib.hid hr'
 have hla := (C_len hr).2
 have hlb := (C_len hr').2
 clear hr hr'
 by_cases hl : a.length = b.length
 ·
  have dl : ((a.length : Int) != (b.length : Int)) = false := by rw [bne_eq_false_iff_eq]; omega
  have HL := Lib.hid hl
  clear hl
  go_enter Tryd.func14, Tryd.ntmps14
  go_wp2
  go_loopw [5] (fun i wr => ∃ j, j ≤ a.length ∧ i = .int .i64 (j : Nat) ∧ Hid (∀ q, q < j → a.getD q 0 = b.getD q 0) ∧ Below w.heap.size w wr) (fun i _ => a.length - (intOf i).toNat)
  case atStart => exact ⟨0, Nat.zero_le _, rfl, Lib.hid fun j h => absurd h (Nat.not_lt_zero _), Below.refl _ _⟩
  case round =>
   obtain ⟨j, hj, rfl, HS, hB⟩ := hrel
   by_cases hjl : j < a.length
   ·
    have hjj : decide ((j : Int) < (a.length : Int)) = true := decide_eq_true (by omega)
    have hjb : (j : Int) < (b.length : Int) := by have := HL.out; omega
    have hja : (j : Int) < (a.length : Int) := by omega
    obtain ⟨ad, rfl, cx⟩ := at_num (Kd.C_below HR.out hB) j hjl
    obtain ⟨bd, rfl, cy⟩ := at_num (Kd.C_below HR'.out hB) j (by omega)
    by_cases he : a.getD j 0 = b.getD j 0
    ·
     have dn : (a.getD j 0 != b.getD j 0) = false := by rw [bne_eq_false_iff_eq]; exact he
     have HN := step_lt HS he
     clear he
     generalize a.getD j 0 = x at cx dn
     generalize b.getD j 0 = y at cy dn
     have HB := Lib.hid hB
     go_wp2
     go_quiet (fail)
     go_wp2
     go_roundw
     case rel => exact ⟨j + 1, by omega, by go_num, HN, pw_below_drewN HB.out _⟩
     case measure => simp [intOf]; omega
    ·
     have dn : (a.getD j 0 != b.getD j 0) = true := by rw [bne_iff_ne]; exact he
     have HF : Hid (decide (a = b) = false) := Lib.hid (decide_eq_false fun e => he (by rw [e]))
     clear he
     generalize a.getD j 0 = x at cx dn
     generalize b.getD j 0 = y at cy dn
     have HB := Lib.hid hB
     go_wp2
     go_quiet (fail)
     go_wp2
     go_ret
     exact ⟨ret_bool HF.out.symm, pw_below_drewN HB.out _⟩
   ·
    obtain rfl : j = a.length := by omega
    have hjj : decide ((a.length : Int) < (a.length : Int)) = false := decide_eq_false (by omega)
    have HF : Hid (decide (a = b) = true) := Lib.hid (decide_eq_true (list_ext0 HL.out fun q hq => HS.out q hq))
    go_wp2
    go_ret
    exact ⟨ret_bool HF.out.symm, hB⟩
 ·
  have dl : ((a.length : Int) != (b.length : Int)) = true := by rw [bne_iff_ne]; omega
  have HF : Hid (decide (a = b) = false) := Lib.hid (decide_eq_false fun e => hl (by rw [e]))
  clear hl
  go_enter Tryd.func14, Tryd.ntmps14
  go_wp2
  go_ret
  exact ⟨ret_bool HF.out.symm, Below.refl _ _⟩
theorem equalInts_is (r : Bool) (A : Option Addr) (c : Nat) (a : List Int) (B : Option Addr) (d : Nat) (b : List Int) (h : Hid (decide (a = b) = r)) (w : World) (hr : (Kd.int .i64).C w A a.length a) (hr' : (Kd.int .i64).C w B b.length b) :
  Calls Tryd.prog 14 #[.slice A a.length c, .slice B b.length d] w fun e w' => e = .returned (.bool r) ∧ Below w.heap.size w w' :=
 (equalInts_calls A c a B d b w hr hr').mono fun e w' ⟨he, hw⟩ => ⟨by rw [he, h.out], hw⟩
theorem equalInts_same (A : Option Addr) (c : Nat) (a : List Int) (B : Option Addr) (d : Nat) (w : World) (hr : (Kd.int .i64).C w A a.length a) (hr' : (Kd.int .i64).C w B a.length a) :
  Calls Tryd.prog 14 #[.slice A a.length c, .slice B a.length d] w fun e w' => e = .returned (.bool true) ∧ Below w.heap.size w w' :=
 (equalInts_calls A c a B d a w hr hr').mono fun e w' ⟨he, hw⟩ => ⟨by rw [he, decide_eq_true rfl], hw⟩
set_option maxHeartbeats 1000000 in
theorem lIsIn_calls (A : Option Addr) (c : Nat) (l : List Int) (n : Int) (w : World) (hr : (Kd.int .i64).C w A l.length l) :
  Calls Tryd.prog 18 #[.slice A l.length c, .int .i64 n] w fun e w' => e = .returned (.bool (decide (n ∈ l))) ∧ w' = w := by
 have hl := (C_len hr).2
 have HR := Lib.hid hr
 clear hr
 go_enter Tryd.func18, Tryd.ntmps18
 go_wp2
 go_loop [5] (fun i => ∃ (k : Nat), k ≤ l.length ∧ i = .int .i64 k ∧ Hid (∀ j, j < k → l.getD j 0 ≠ n)) (fun i => l.length - (intOf i).toNat)
 case atStart => exact ⟨0, Nat.zero_le _, rfl, Lib.hid fun j h => absurd h (Nat.not_lt_zero _)⟩
 case round =>
  obtain ⟨k, hk, rfl, HS⟩ := hrel
  by_cases hlt : k < l.length
  ·
   obtain ⟨ad, rfl, hc⟩ := at_num HR.out k hlt
   by_cases hb : l.getD k 0 = n
   ·
    have HF : Hid (decide (n ∈ l) = true) := Lib.hid (decide_eq_true (by rw [← hb]; exact mem_getD hlt))
    have d1 : (l.getD k 0 == n) = true := beq_iff_eq.2 hb
    clear hb
    generalize l.getD k 0 = x at hc d1
    go_wp2
    go_ret
    exact ⟨ret_bool HF.out.symm, rfl⟩
   ·
    have HN := step_lt HS hb
    have d1 : (l.getD k 0 == n) = false := by rw [beq_eq_false_iff_ne]; exact hb
    clear hb
    generalize l.getD k 0 = x at hc d1
    go_wp2
    go_round
    case rel => exact ⟨k + 1, by omega, by go_num, HN⟩
    case measure => simp [intOf]; omega
  ·
   have HF : Hid (decide (n ∈ l) = false) := Lib.hid (decide_eq_false (not_mem_of fun j hj => HS.out j (by omega)))
   go_wp2
   go_ret
   exact ⟨ret_bool HF.out.symm, rfl⟩
theorem lIsIn_is (b : Bool) (A : Option Addr) (c : Nat) (l : List Int) (n : Int) (h : Hid (decide (n ∈ l) = b)) (w : World) (hr : (Kd.int .i64).C w A l.length l) :
  Calls Tryd.prog 18 #[.slice A l.length c, .int .i64 n] w fun e w' => e = .returned (.bool b) ∧ w' = w :=
 (lIsIn_calls A c l n w hr).mono fun e w' ⟨he, hw⟩ => ⟨by rw [he, h.out], hw⟩
end Go.Proofs.YtlcdffhhimbbmaaDoor

namespace Go.Proofs.YtlcdffhhimbbmaaDoor
set_option linter.unusedVariables false
set_option linter.unusedSimpArgs false
open Go.RowKit Go.Shelf Bits
open Go.Proofs.YtlcdffhhimbbmaaDoorW.PrintWords Go.Proofs.YtlcdffhhimbbmaaDoorW.PrintLast Go.Proofs.YtlcdffhhimbbmaaDoorW.PrintMore
theorem readyS_nodup (g : List Tk) (d : List Int) : (readyS g d).Nodup := List.nodup_range.filter _
theorem rdOrd_facts {g : List Tk} {d : List Int} (h : sRdOrd g d ≠ []) : (sRdOrd g d).Perm (sRdTasks g d) ∧ (sRdOrd g d).Pairwise (leT (tailTimesN g)) ∧ (sRdOrd g d).Nodup ∧ (tailTimesN g).length = g.length ∧ (∀ x ∈ sRdOrd g d, x < g.length) ∧ g.length ≤ 8 := by
 have hv : vDoneB g d = true := by
  unfold sRdOrd at h
  by_cases hc : vDoneB g d = true
  ·
   exact hc
  ·
   rw [if_neg hc] at h
   exact absurd rfl h
 have hsv := vDone_valid hv
 obtain ⟨ns, hg⟩ := Option.isSome_iff_exists.1 ((specValid_eq g).symm.trans hsv)
 have e1 : sRdOrd g d = insL (tailsS g) (readyS g d) := by unfold sRdOrd; rw [if_pos hv]
 have e2 : sRdTasks g d = readyS g d := by unfold sRdTasks; rw [if_pos hv]
 have e3 : tailTimesN g = tailsS g := by unfold tailTimesN; rw [hg]; exact tailN_eq hg
 rw [e1, e2, e3]
 refine ⟨insL_perm _ _, insL_sorted _ _, (insL_perm _ _).nodup_iff.2 (readyS_nodup g d), (tailsSL_span (specValid_time hsv) _).1, fun x hx => readyS_lt x ((insL_perm _ _).mem_iff.1 hx), specValid_len hsv⟩
set_option maxRecDepth 1000000 in
set_option maxHeartbeats 8000000 in
theorem FnReadyOrder_walk (A : Option Addr) (c : Nat) (l : List Int) (hb : ∀ x ∈ l, 0 ≤ x ∧ x < 256) (w : World) (hT : Tab w) (hr : (Kd.int .u8).C w A l.length l) (hc : l.length ≤ c) :
  Calls Tryd.prog 5 #[.slice A l.length c] w fun e w' => e = .returned (.bool true) ∧ Below w.heap.size w w' := by
 have HT := Lib.hid hT
 have hll := (C_len hr).2
 have HD := Lib.hid (DrawReadyOrder_any A c l hb w hr hc)
 clear hb hr hc hT
 by_cases hbig : 1048576 < l.length
 ·
  have db : decide ((1048576 : Int) < (l.length : Int)) = true := decide_eq_true (by omega)
  clear hbig
  go_enter Tryd.func5, Tryd.ntmps5
  go_wp2
  go_ret
  exact ⟨rfl, Below.refl _ _⟩
 ·
  have db : decide ((1048576 : Int) < (l.length : Int)) = false := decide_eq_false (by omega)
  clear hbig
  go_enter Tryd.func5, Tryd.ntmps5
  go_upto_region 4 with (go_at_call 12; refine HD.out.mono ?_; rintro e w1 ⟨A1, c1, g, A2, c2, d, rfl, h1, h2, h3, h4⟩; have H1 := Lib.hid (And.intro h1 (And.intro h2 (And.intro h3 h4))); clear h1 h2 h3 h4)
  have HTD : ∀ W, Below w.heap.size w W → Tab W := fun W h => HT.out.keep HT.out.lt h
  have HTD := Lib.hid HTD
  have HRO := Lib.hid (fun (W : World) (hW : Below w1.heap.size w1 W) => ReadyOrder_impl A1 c1 g A2 c2 d W (Kd.C_below H1.out.1 hW) (Kd.C_below H1.out.2.1 hW) (HTD.out W (H1.out.2.2.2.trans (hW.mono H1.out.2.2.2.size))))
  have HRT := Lib.hid (fun (W : World) (hW : Below w1.heap.size w1 W) => ReadyTasks_impl A1 c1 g A2 c2 d W (Kd.C_below H1.out.1 hW) (Kd.C_below H1.out.2.1 hW) (HTD.out W (H1.out.2.2.2.trans (hW.mono H1.out.2.2.2.size))))
  have HTT := Lib.hid (fun (W : World) (hW : Below w1.heap.size w1 W) => TailTimes_impl A1 c1 g W (Kd.C_below H1.out.1 hW) (HTD.out W (H1.out.2.2.2.trans (hW.mono H1.out.2.2.2.size))))
  have HSO := Lib.hid (fun (W : World) (hW : Below w1.heap.size w1 W) => sReadyOrder_calls A1 c1 g A2 c2 d W (Kd.C_below H1.out.1 hW) (Kd.C_below H1.out.2.1 hW))
  rw [rdOrd_eq] at HRO
  rw [rdTasks_eq] at HRT
  have HF := Lib.hid (fun h => rdOrd_facts (g := g) (d := d) h)
  generalize sRdOrd g d = o at HRO HSO HF
  generalize sRdTasks g d = ta at HRT HF
  generalize tailTimesN g = T at HTT HF
  have HW := Lib.hid (Below.refl w1.heap.size w1)
  by_cases ho : o = []
  ·
   have dl : (((ints o).length : Int) == 0) = true := by rw [ho]; rfl
   clear HF ho
   go_wp2_with (first | (go_at_call 13; refine (HRO.out _ HW.out).mono ?_; rintro e w2 ⟨v2, rfl, hR2, hB2⟩; have HC2 := Lib.hid (Kd.R_reads hR2); obtain ⟨A3, c3, rfl, hc3, hC3⟩ := HC2.out; have HW := Lib.hid (HW.out.trans (hB2.mono HW.out.size)); have HO := Lib.hid hC3; clear HC2 hR2 hC3 hB2) | (go_at_call 15; refine (HSO.out _ HW.out).mono ?_; rintro e w3 ⟨v3, rfl, hR3, hB3⟩; have HC3 := Lib.hid (Kd.R_reads hR3); obtain ⟨A4, c4, rfl, hc4, hC4⟩ := HC3.out; have HW := Lib.hid (HW.out.trans (hB3.mono HW.out.size)); have HO := Lib.hid (Kd.C_below HO.out hB3); have HP := Lib.hid hC4; clear HC3 hR3 hC4 hB3) | (go_at_call 14; refine (equalInts_same _ _ (ints o) _ _ _ HO.out HP.out).mono ?_; rintro e w5 ⟨rfl, hB5⟩; have HW := Lib.hid (HW.out.trans (hB5.mono HW.out.size)); have HO := Lib.hid (Kd.C_below HO.out hB5); clear hB5) | (go_at_call 16; refine (HRT.out _ HW.out).mono ?_; rintro e w6 ⟨v6, rfl, hR6, hB6⟩; have HC6 := Lib.hid (Kd.R_reads hR6); obtain ⟨A6, c6, rfl, hc6, hC6⟩ := HC6.out; have HW := Lib.hid (HW.out.trans (hB6.mono HW.out.size)); have HO := Lib.hid (Kd.C_below HO.out hB6); have HL := Lib.hid hC6; clear HC6 hR6 hC6 hB6) | (go_at_call 17; refine (HTT.out _ HW.out).mono ?_; rintro e w7 ⟨v7, rfl, hR7, hB7⟩; have HC7 := Lib.hid (Kd.R_reads hR7); obtain ⟨A7, c7, rfl, hc7, hC7⟩ := HC7.out; have HW := Lib.hid (HW.out.trans (hB7.mono HW.out.size)); have HO := Lib.hid (Kd.C_below HO.out hB7); have HL := Lib.hid (Kd.C_below HL.out hB7); have HTC := Lib.hid hC7; clear HC7 hR7 hC7 hB7))
   go_ret
   exact ⟨rfl, H1.out.2.2.2.trans (HW.out.mono H1.out.2.2.2.size)⟩
  ·
   have hpos : 0 < (ints o).length := by rw [ints_length]; exact List.length_pos_iff.2 ho
   have dl : (((ints o).length : Int) == 0) = false := by rw [beq_eq_false_iff_ne]; omega
   obtain ⟨f1, f2, f3, f4, f5, f6⟩ := HF.out ho
   have hlo : (ints o).length = (ints ta).length := by rw [ints_length, ints_length]; exact f1.length_eq
   have HFF := Lib.hid (And.intro f1 (And.intro f2 (And.intro f3 (And.intro f4 (And.intro f5 hlo)))))
   have hol8 : (ints o).length ≤ 8 := by rw [ints_length]; exact Nat.le_trans (nodup_below f3 f5) f6
   clear HF ho f1 f2 f3 f4 f5 hlo hpos
   go_wp2_with (first | (go_at_call 13; refine (HRO.out _ HW.out).mono ?_; rintro e w2 ⟨v2, rfl, hR2, hB2⟩; have HC2 := Lib.hid (Kd.R_reads hR2); obtain ⟨A3, c3, rfl, hc3, hC3⟩ := HC2.out; have HW := Lib.hid (HW.out.trans (hB2.mono HW.out.size)); have HO := Lib.hid hC3; clear HC2 hR2 hC3 hB2) | (go_at_call 15; refine (HSO.out _ HW.out).mono ?_; rintro e w3 ⟨v3, rfl, hR3, hB3⟩; have HC3 := Lib.hid (Kd.R_reads hR3); obtain ⟨A4, c4, rfl, hc4, hC4⟩ := HC3.out; have HW := Lib.hid (HW.out.trans (hB3.mono HW.out.size)); have HO := Lib.hid (Kd.C_below HO.out hB3); have HP := Lib.hid hC4; clear HC3 hR3 hC4 hB3) | (go_at_call 14; refine (equalInts_same _ _ (ints o) _ _ _ HO.out HP.out).mono ?_; rintro e w5 ⟨rfl, hB5⟩; have HW := Lib.hid (HW.out.trans (hB5.mono HW.out.size)); have HO := Lib.hid (Kd.C_below HO.out hB5); clear hB5) | (go_at_call 16; refine (HRT.out _ HW.out).mono ?_; rintro e w6 ⟨v6, rfl, hR6, hB6⟩; have HC6 := Lib.hid (Kd.R_reads hR6); obtain ⟨A6, c6, rfl, hc6, hC6⟩ := HC6.out; have HW := Lib.hid (HW.out.trans (hB6.mono HW.out.size)); have HO := Lib.hid (Kd.C_below HO.out hB6); have HL := Lib.hid hC6; clear HC6 hR6 hC6 hB6) | (go_at_call 17; refine (HTT.out _ HW.out).mono ?_; rintro e w7 ⟨v7, rfl, hR7, hB7⟩; have HC7 := Lib.hid (Kd.R_reads hR7); obtain ⟨A7, c7, rfl, hc7, hC7⟩ := HC7.out; have HW := Lib.hid (HW.out.trans (hB7.mono HW.out.size)); have HO := Lib.hid (Kd.C_below HO.out hB7); have HL := Lib.hid (Kd.C_below HL.out hB7); have HTC := Lib.hid hC7; clear HC7 hR7 hC7 hB7))
   go_loopw [8] (fun i wr => ∃ j, j ≤ (ints o).length ∧ i = .int .i64 (j : Nat) ∧ Below w7.heap.size w7 wr) (fun i _ => (ints o).length - (intOf i).toNat)
   case atStart => exact ⟨0, Nat.zero_le _, rfl, Below.refl _ _⟩
   case round =>
    obtain ⟨j, hj, rfl, hB⟩ := hrel
    have HB := Lib.hid hB
    by_cases hjl : j < (ints o).length
    ·
     have hjj : decide ((j : Int) < ((ints o).length : Int)) = true := decide_eq_true (by omega)
     have hji : (j : Int) < ((ints o).length : Int) := by omega
     have hol : j < o.length := by rwa [ints_length] at hjl
     have hmem : o.getD j 0 ∈ o := by
      rw [List.getD_eq_getElem?_getD, List.getElem?_eq_getElem hol]
      exact List.getElem_mem _
     have hxg : o.getD j 0 < T.length := by rw [HFF.out.2.2.2.1]; exact HFF.out.2.2.2.2.1 _ hmem
     obtain ⟨ao, rfl, cx⟩ := at_num (Kd.C_below HO.out hB) j hjl
     rw [ints_getD] at cx
     have hL := Kd.C_below HL.out hB
     have HM : Hid (decide (((o.getD j 0 : Nat) : Int) ∈ ints ta) = true) := Lib.hid (decide_eq_true (mem_intsN.2 (HFF.out.1.mem_iff.1 hmem)))
     obtain ⟨at_, rfl, cT⟩ := at_num (Kd.C_below HTC.out hB) (o.getD j 0) hxg
     by_cases hj0 : j = 0
     ·
      have d0 : decide ((0 : Int) < (j : Int)) = false := decide_eq_false (by omega)
      have d0' : decide (0 < j) = false := decide_eq_false (by omega)
      generalize o.getD j 0 = x at cx hxg HM cT hmem
      have dx : decide ((T.length : Int) ≤ (x : Int)) = false := decide_eq_false (by omega)
      have dx' : decide (T.length ≤ x) = false := decide_eq_false (by omega)
      have hxi : (x : Int) < (T.length : Int) := by omega
      clear hB hmem hol cT hj0
      go_wp2_with (go_at_call 18; refine (lIsIn_is true _ _ _ _ HM _ hL).mono ?_; rintro e w' ⟨rfl, rfl⟩)
      go_quiet (fail)
      go_wp2
      go_roundw
      case rel => exact ⟨j + 1, by omega, by go_num, pw_below_drewN HB.out _⟩
      case measure => simp [intOf]; omega
     ·
      obtain ⟨p, hp⟩ : ∃ p, j = p + 1 := ⟨j - 1, by omega⟩
      have d0 : decide ((0 : Int) < (j : Int)) = true := decide_eq_true (by omega)
      have d0' : decide (0 < j) = true := decide_eq_true (by omega)
      have hpo : p < o.length := by omega
      have hmem2 : o.getD p 0 ∈ o := by
       rw [List.getD_eq_getElem?_getD, List.getElem?_eq_getElem hpo]
       exact List.getElem_mem _
      have hyg : o.getD p 0 < T.length := by rw [HFF.out.2.2.2.1]; exact HFF.out.2.2.2.2.1 _ hmem2
      have hle : leT T (o.getD p 0) (o.getD j 0) := by
       have := (List.pairwise_iff_getElem.1 HFF.out.2.1) p j hpo hol (by omega)
       rw [List.getD_eq_getElem?_getD, List.getD_eq_getElem?_getD, List.getElem?_eq_getElem hol, List.getElem?_eq_getElem hpo]
       exact this
      have hne : o.getD p 0 ≠ o.getD j 0 := by
       have := (List.pairwise_iff_getElem.1 HFF.out.2.2.1) p j hpo hol (by omega)
       rw [List.getD_eq_getElem?_getD, List.getD_eq_getElem?_getD, List.getElem?_eq_getElem hol, List.getElem?_eq_getElem hpo]
       exact this
      obtain ⟨ao', e', cy⟩ := at_num (Kd.C_below HO.out hB) p (by omega)
      cases e'
      rw [ints_getD] at cy
      obtain ⟨at2, e2, cU⟩ := at_num (Kd.C_below HTC.out hB) (o.getD p 0) hyg
      cases e2
      unfold leT at hle
      generalize o.getD j 0 = x at cx hxg HM cT hmem hle hne
      generalize o.getD p 0 = y at cy hyg cU hmem2 hle hne
      generalize T.getD x 0 = tx at cT hle
      generalize T.getD y 0 = ty at cU hle
      have dx : decide ((T.length : Int) ≤ (x : Int)) = false := decide_eq_false (by omega)
      have dx' : decide (T.length ≤ x) = false := decide_eq_false (by omega)
      have hxi : (x : Int) < (T.length : Int) := by omega
      have hyi : (y : Int) < (T.length : Int) := by omega
      have dg : decide (ty < tx) = false := decide_eq_false (by omega)
      have hp0 : (0 : Int) ≤ (p : Int) := by omega
      have hpi : (p : Int) < ((ints o).length : Int) := by omega
      have hwr : IntKind.i64.wrap ((j : Int) - 1) = (p : Int) := by rw [show (j : Int) - 1 = p by omega]; exact IntWalk.i64_in _ (by omega)
      have HP2 := Lib.hid hp
      clear hB hmem hmem2 hol hpo hp hj0
      by_cases hte : tx = ty
      ·
       have de : (tx == ty) = true := beq_iff_eq.2 hte
       have dl2 : decide ((x : Int) ≤ (y : Int)) = false := decide_eq_false (by omega)
       have dl3 : decide (x ≤ y) = false := decide_eq_false (by omega)
       clear hte hle hne
       go_wp2_with (go_at_call 18; refine (lIsIn_is true _ _ _ _ HM _ hL).mono ?_; rintro e w' ⟨rfl, rfl⟩)
       go_quiet (fail)
       clear hwr
       go_wp2
       go_roundw
       case rel => exact ⟨j + 1, by omega, by go_num, pw_below_drewN HB.out _⟩
       case measure => simp [intOf]; omega
      ·
       have de : (tx == ty) = false := by rw [beq_eq_false_iff_ne]; exact hte
       clear hte hle hne
       go_wp2_with (go_at_call 18; refine (lIsIn_is true _ _ _ _ HM _ hL).mono ?_; rintro e w' ⟨rfl, rfl⟩)
       go_quiet (fail)
       clear hwr
       go_wp2
       go_roundw
       case rel => exact ⟨j + 1, by omega, by go_num, pw_below_drewN HB.out _⟩
       case measure => simp [intOf]; omega
    ·
     obtain rfl : j = (ints o).length := by omega
     have hjj : decide (((ints o).length : Int) < ((ints o).length : Int)) = false := decide_eq_false (by omega)
     have hee : (((ints o).length : Int) == ((ints ta).length : Int)) = true := by rw [beq_iff_eq]; have := HFF.out.2.2.2.2.2; omega
     clear hB
     go_wp2
     go_ret
     exact ⟨rfl, H1.out.2.2.2.trans ((HW.out.trans (HB.out.mono HW.out.size)).mono H1.out.2.2.2.size)⟩
end Go.Proofs.YtlcdffhhimbbmaaDoor

set_option linter.unusedVariables false
set_option linter.unusedSimpArgs false
namespace Go.Proofs.YtlcdffhhimbbmaaDoor.fnReadyOrder
open Go.ChangeShapes Go.WideShapes Go.ChangeAt Go.RowKit
open Go.Proofs.YtlcdffhhimbbmaaDoorW.PrintWords
def IsRow (k : IntKind) (w : World) (a : Option Addr) (len cap : Nat) (zs : List Int) : Prop :=
 (a = none ∧ len = 0 ∧ cap = 0 ∧ zs = []) ∨
 ∃ x, a = some x ∧ len ≤ cap ∧ cap ≤ maxLen ∧ zs.length = cap ∧ (∀ i, i < zs.length → w.cell? (x.add i) = some (.int k (zs.getD i 0))) ∧ ∀ n ∈ zs, (Lit.int k n).wf = true
theorem walk (a0 : Option Addr) (len0 cap0 : Nat) (z0 : List Int) (w : World) (hT : Tab w) (w0 : IsRow .u8 w a0 len0 cap0 z0) :
  Calls Tryd.prog 5 #[.slice a0 len0 cap0] w fun e w' => e = .returned (.bool true) ∧ Below w.heap.size w w' := by
 obtain ⟨l0, rfl, hr0, hm0, hw0, hc0⟩ := ReadsInt.ofRowC w0
 exact FnReadyOrder_walk _ _ l0 (fun x hx => by
  have := hw0 x hx
  simp [Lit.wf, IntKind.min, IntKind.max, IntKind.signed, IntKind.bits] at this
  omega) w hT (Kd.C_of_reads (d := (0 : Int)) (h1 := fun _ => rfl) hr0) hc0
set_option maxRecDepth 100000 in
theorem lifted (os : Os) (started : os.Started) (H : Type) (enc : TypeId × Value → H) :
  ReturnsInHanded {} Tryd.checked os 5 .any (fun w args => (Rows.fnReadyOrderSpec.pre enc Tryd.prog Tryd.f5 [] false w args ∧ laidMetH Tryd.prog Rows.fnReadyOrderRow.laid w) ∧ sizedMet enc Tryd.prog Tryd.f5 (OpenSpec.ofChange Rows.fnReadyOrderSpec) false w args)
   (Rows.fnReadyOrderSpec.post enc Tryd.prog Tryd.f5 false true false false) := by
 refine returnsInHanded_of_change_and (C := Tryd.checked) (X := fun w _ => laidMetH Tryd.prog Rows.fnReadyOrderRow.laid w) (fun _ _ _ hh h => h.of_heap hh) own started (by kernel_rfl) Tryd.func5
  (ChangeSpec.witness_at (enc := enc) (C := Tryd.checked) (os := os) (X := fun w _ => laidMetH Tryd.prog Rows.fnReadyOrderRow.laid w) false (laidWorld os) #[.slice none 0 0] 8 rfl (by kernel_rfl) (by kernel_rfl) (by kernel_rfl) (by kernel_rfl) (by kernel_rfl) (laid_met os _)) ?_
 intro W base args ds gs before hval0 hW hcnd _ hL _
 have hT : Tab W := tab_of_laid hL
 have hval : ∀ (j : Nat) t v, Tryd.f5.params[j]? = some t → args[j]? = some v → Value.okWide Tryd.prog W .any base t v := hval0
 have hW' := hW
 obtain ⟨p, q, hA0, hV, rfl, hfz, hnd⟩ := hW
 have hA : DataW.TrodAll enc Tryd.prog W 0 (fun _ => true) true Tryd.f5.params.toList args.toList ds p := hA0
 rw [Tryd.params5] at hA hval
 obtain ⟨v0, vs0, d0, ds0, p0, q0, hargs, rfl, rfl, h0, r0⟩ := trodAll_cons hA
 obtain ⟨rfl, rfl, rfl⟩ := trodAll_nil r0
 obtain rfl : args = #[v0] := by cases args; simp_all
 obtain ⟨rfl, rfl⟩ := trodVars_none hV
 obtain ⟨a0, len0, cap0, rfl⟩ := okWide_slice Tryd.underlying22 (hval 0 22 v0 rfl rfl)
 have k0 := h0
 have lt0 : ∀ x ∈ p0, x.block < W.heap.size := by obtain ⟨m, hm⟩ := k0; exact DataW.trod_lt m _ _ _ hm
 obtain ⟨z0, w0⟩ : ∃ zs, IsRow .u8 W a0 len0 cap0 zs := by
  obtain ⟨fuel, hf⟩ := h0
  rcases open_ints Tryd.underlying22 Tryd.underlying5 (by kernel_rfl) hf with ⟨hcs, _⟩ | ⟨x, l, c, zs, hcs, _, hl, hm, hz, _, hcell, hwz⟩
  ·
   simp [Value.cells] at hcs
   obtain ⟨rfl, rfl, rfl⟩ := hcs
   exact ⟨[], .inl ⟨rfl, rfl, rfl, rfl⟩⟩
  ·
   simp [Value.cells] at hcs
   obtain ⟨rfl, rfl, rfl⟩ := hcs
   exact ⟨zs, .inr ⟨_, rfl, hl, hm, by simpa using hz, hcell, hwz⟩⟩
 clear hA0 hval0
 refine (walk a0 len0 cap0 z0 W hT w0).mono fun e W' ⟨he, bel⟩ => ?_
 subst he
 exact ⟨_, rfl, _, _, _, [], _, [], hW', trodAll_mk1 (shut_bool Tryd.underlying4 _), (trodAll_cons_mk (Below.trod laidOut (by kernel_rfl) (of_decide_eq_true (by kernel_rfl)) k0 bel lt0) trodAll_mk0), rfl, bel.frame _, fun h => by cases h⟩
theorem row : Rows.FnReadyOrderSaid :=
 OpenClaim.holds_of_wide 5 Tryd.f5 rfl rfl rfl rfl rfl rfl rfl ⟨rfl, rfl, rfl, rfl, rfl⟩ rfl rfl rfl rfl rfl (by kernel_rfl) Tryd.func5 (by kernel_rfl)
  (of_decide_eq_true (by kernel_rfl)) (by unfold Func.isWrapper; first | (rw [if_pos (by decide +kernel)]; kernel_rfl) | (rw [if_neg (by decide +kernel)]; exact ⟨rfl, rfl⟩))
  (fun os started H enc _ => lifted os started H enc)
end Go.Proofs.YtlcdffhhimbbmaaDoor.fnReadyOrder
namespace Go.Proofs.YtlcdffhhimbbmaaDoor
theorem fnReadyOrder_card_holds : Rows.FnReadyOrderCardSaid :=
 Claim7.holds_tied_plain_at .later [] [.data] true (true, "8b134a8ec835bf6a4a2b44581a0a895862bb2b61c1ac9ccc5fcdd1a920d2b0cb") true
  fnReadyOrder.row (fun _ h => by cases h) (by kernel_rfl) (fun _ h => by cases h) fnReadyOrder_row_tie rfl ⟨rfl, rfl⟩ (by kernel_rfl) rfl
  (fun f fn hf hfn => by
   obtain rfl : f = 5 := Option.some.inj ((show Tryd.prog.funcNamed "loop.example/buildscheduler/laws.FnReadyOrder" = some 5 by kernel_rfl).symm.trans hf) |>.symm
   obtain rfl : fn = Tryd.f5 := (Option.some.inj (Tryd.func5.symm.trans hfn)).symm
   exact ⟨by kernel_rfl, fun j t ht => by
    rw [Tryd.params5] at ht
    have h3 : t = 22 := by
     rcases j with _ | j
     ·
      simpa using ht.symm
     ·
      simp at ht
    subst h3
    exact (show Tryd.prog.wantsStandIn 22 = false by kernel_rfl)⟩)
  (by kernel_rfl)
#print axioms fnReadyOrder_card_holds
end Go.Proofs.YtlcdffhhimbbmaaDoor
