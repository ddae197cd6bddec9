/- Parts of the proof, laid as one text by a program of mine. -/
import Derived.Test.YtlapphhcficbjaaGreatDoorKic16
import Derived.Test.YtlapphhcficbjaaGreatDoorKic21
import Derived.Test.YtlapphhcficbjaaGreatDoorKic14
import Derived.Test.YtlapphhcficbjaaGreatDoorKic15
import Derived.Test.YtlapphhcficbjaaGreatDoorKic13
import Derived.Test.YtlapphhcficbjaaGreatDoorKic7
import Derived.Test.YtlapphhcficbjaaGreatDoorKic12
namespace Go.Proofs.YtlapphhcficbjaaGreatDoor
set_option linter.unusedVariables false
set_option linter.unusedSimpArgs false
open Go.RowKit Go.Shelf Bits
open Go.Proofs.YtlapphhcficbjaaGreatDoorW.PrintWords Go.Proofs.YtlapphhcficbjaaGreatDoorW.PrintLast Go.Proofs.YtlapphhcficbjaaGreatDoorW.PrintMore
attribute [local go_sem] Oper.semAt_some
def EvB (W : World) (b0 : Nat) (A : Option Addr) (xs : List Ev) : Prop := xs = [] ∨ ∃ b cells, A = some ⟨b, 0, none⟩ ∧ b0 ≤ b ∧ W.heap[b]? = some (.cells cells 75 (0, 0)) ∧ ∀ i, i < xs.length → cells[i * 3]? = some (.int .i64 (rdEv xs i).f0) ∧ cells[i * 3 + 1]? = some (.int .i64 (rdEv xs i).f1) ∧ cells[i * 3 + 2]? = some (.bool (rdEv xs i).f2)
theorem EvB.C {W : World} {b0 : Nat} {A : Option Addr} {xs : List Ev} (h : EvB W b0 A xs) (hl : xs.length ≤ 1000000) : kEv.C W A xs.length xs := by
 rcases h with rfl | ⟨b, cells, rfl, _, hb, hc⟩
 ·
  exact ⟨rfl, Nat.zero_le _, fun h => absurd h (Nat.lt_irrefl 0)⟩
 ·
  refine ⟨rfl, by omega, fun _ => ⟨_, rfl, fun j p hj => ⟨[.int .i64 p.f0, .int .i64 p.f1, .bool p.f2], rfl, kEv.K_of_M (kEv_mkM _ 0 (fun _ => True) p), fun i u hu => ?_⟩⟩⟩
  have hjl : j < xs.length := (List.getElem?_eq_some_iff.1 hj).1
  have hp : rdEv xs j = p := by
   unfold rdEv
   rw [List.getD_eq_getElem?_getD, hj]
   rfl
  obtain ⟨c0, c1, c2⟩ := hc j hjl
  rw [hp] at c0 c1 c2
  rw [plain_add, blk_cell hb]
  show cells[j * 3 + i]? = some u
  rcases i with _ | _ | _ | i
  ·
   rw [Nat.add_zero, c0]; simpa using hu
  ·
   rw [c1]; simpa using hu
  ·
   rw [c2]; simpa using hu
  ·
   simp at hu
theorem EvB.of_R {W : World} {base : Nat} {ok : Nat → Prop} {v : Value} {xs : List Ev} (h : kEv.R 75 W base ok v xs) : ∃ A c, v = .slice A xs.length c ∧ xs.length ≤ c ∧ EvB W base A xs := by
 obtain ⟨A, c, rfl, hc, hC⟩ := Kd.R_reads h
 refine ⟨A, c, rfl, hc, ?_⟩
 obtain ⟨inner, ho⟩ := Kd.R_own h
 obtain ⟨_, h1 | ⟨g, cap, cur, e, hb, hh, _⟩⟩ := ho
 ·
  exact .inl (List.eq_nil_of_length_eq_zero h1.2)
 ·
  injection e with e1 e2 e3
  subst e1
  refine .inr ⟨g, cur, rfl, hb, hh, fun i hi => ?_⟩
  obtain ⟨ad, ea, y0, y1, y2⟩ := at_Ev hC i hi
  cases ea
  rw [plain_add] at y0 y1 y2
  exact ⟨(blk_cell hh _).symm.trans y0, (blk_cell hh _).symm.trans y1, (blk_cell hh _).symm.trans y2⟩
theorem EvB.at {W : World} {b0 b : Nat} {xs : List Ev} (h : EvB W b0 (some ⟨b, 0, none⟩) xs) (hx : xs ≠ []) : b0 ≤ b ∧ ∃ cells, W.heap[b]? = some (.cells cells 75 (0, 0)) ∧ ∀ i, i < xs.length → cells[i * 3]? = some (.int .i64 (rdEv xs i).f0) ∧ cells[i * 3 + 1]? = some (.int .i64 (rdEv xs i).f1) ∧ cells[i * 3 + 2]? = some (.bool (rdEv xs i).f2) := by
 rcases h with h | ⟨b', cells, h1, h2, h3, h4⟩
 ·
  exact absurd h hx
 ·
  injection h1 with h1
  injection h1 with h1
  subst h1
  exact ⟨h2, cells, h3, h4⟩
theorem EvB.keep {W W1 : World} {b0 rb : Nat} {A : Option Addr} {xs : List Ev} (h : EvB W b0 A xs) (hk : KeepBut W W1 rb none) (hrb : rb < b0) : EvB W1 b0 A xs := by
 rcases h with h | ⟨b, cells, h1, h2, h3, h4⟩
 ·
  exact .inl h
 ·
  exact .inr ⟨b, cells, h1, h2, (hk.2 b (blk_lt h3) (by omega) (by simp)).trans h3, h4⟩
theorem EvB.take {W : World} {b0 : Nat} {A : Option Addr} {xs : List Ev} (h : EvB W b0 A xs) (k : Nat) : EvB W b0 A (xs.take k) := by
 rcases h with rfl | ⟨b, cells, h1, h2, h3, h4⟩
 ·
  exact .inl (by simp)
 ·
  refine .inr ⟨b, cells, h1, h2, h3, fun i hi => ?_⟩
  rw [List.length_take] at hi
  have e : rdEv (xs.take k) i = rdEv xs i := by
   unfold rdEv
   rw [List.getD_eq_getElem?_getD, List.getD_eq_getElem?_getD, List.getElem?_take, if_pos (by omega)]
  rw [e]
  exact h4 i (by omega)
theorem EvB.set {W : World} {b0 b : Nat} {cells : Array Value} {xs : List Ev} (hb : b0 ≤ b) (hh : W.heap[b]? = some (.cells cells 75 (0, 0))) (hc : ∀ i, i < xs.length → cells[i * 3]? = some (.int .i64 (rdEv xs i).f0) ∧ cells[i * 3 + 1]? = some (.int .i64 (rdEv xs i).f1) ∧ cells[i * 3 + 2]? = some (.bool (rdEv xs i).f2)) {m : Nat} (hm : m < xs.length) (y : Ev) :
  EvB (((W.setCell ⟨b, m * 3, none⟩ (.int .i64 y.f0)).setCell ⟨b, m * 3 + 1, none⟩ (.int .i64 y.f1)).setCell ⟨b, m * 3 + 2, none⟩ (.bool y.f2)) b0 (some ⟨b, 0, none⟩) (xs.set m y) := by
 refine .inr ⟨b, _, rfl, hb, blk_set (blk_set (blk_set hh (m * 3) _) (m * 3 + 1) _) (m * 3 + 2) _, fun i hi => ?_⟩
 rw [List.length_set] at hi
 obtain ⟨a0, a1, a2⟩ := hc i hi
 obtain ⟨d0, d1, d2⟩ := hc m hm
 have s0 : m * 3 < cells.size := (Array.getElem?_eq_some_iff.1 d0).1
 have s1 : m * 3 + 1 < cells.size := (Array.getElem?_eq_some_iff.1 d1).1
 have s2 : m * 3 + 2 < cells.size := (Array.getElem?_eq_some_iff.1 d2).1
 by_cases e : i = m
 ·
  subst e
  have er : rdEv (xs.set i y) i = y := by
   unfold rdEv
   rw [List.getD_eq_getElem?_getD, List.getElem?_set, if_pos rfl, if_pos hm]
   rfl
  rw [er]
  refine ⟨?_, ?_, ?_⟩
  ·
   rw [Array.getElem?_setIfInBounds, if_neg (by omega), Array.getElem?_setIfInBounds, if_neg (by omega), Array.getElem?_setIfInBounds, if_pos rfl, if_pos s0]
  ·
   rw [Array.getElem?_setIfInBounds, if_neg (by omega), Array.getElem?_setIfInBounds, if_pos rfl, if_pos (by simpa using s1)]
  ·
   rw [Array.getElem?_setIfInBounds, if_pos rfl, if_pos (by simpa using s2)]
 ·
  have er : rdEv (xs.set m y) i = rdEv xs i := by
   unfold rdEv
   rw [List.getD_eq_getElem?_getD, List.getElem?_set, if_neg (fun h => e h.symm), ← List.getD_eq_getElem?_getD]
  rw [er]
  refine ⟨?_, ?_, ?_⟩
  ·
   rw [Array.getElem?_setIfInBounds, if_neg (by omega), Array.getElem?_setIfInBounds, if_neg (by omega), Array.getElem?_setIfInBounds, if_neg (by omega), a0]
  ·
   rw [Array.getElem?_setIfInBounds, if_neg (by omega), Array.getElem?_setIfInBounds, if_neg (by omega), Array.getElem?_setIfInBounds, if_neg (by omega), a1]
  ·
   rw [Array.getElem?_setIfInBounds, if_neg (by omega), Array.getElem?_setIfInBounds, if_neg (by omega), Array.getElem?_setIfInBounds, if_neg (by omega), a2]
theorem lgS_len16 (g : List Tk) (rm : List Int) (wk : Int) (st : List Int) : (lgS g rm wk st).length ≤ 16 := by
 unfold lgS
 cases h : vStB g rm wk st with
 | false => exact Nat.zero_le _
 | true =>
  rw [if_pos rfl, chgS_len]
  have := (vSt_valid h).ok.1
  omega
theorem KeepUp.set {w1 W : World} {rb b : Nat} (h : KeepUp w1 W rb) (hb : w1.heap.size ≤ b) (i : Nat) (v : Value) : KeepUp w1 (W.setCell ⟨b, i, none⟩ v) rb :=
 ⟨by simpa [World.setCell] using h.1, fun k hk hl => (Below.heap_setCell W ⟨b, i, none⟩ v k (by show k ≠ b; omega)).trans (h.2 k hk hl)⟩
abbrev LogQ (w0 w1 W : World) (rb : Nat) (M : Int) (A : Option Addr) (xs : List Ev) : Prop := RdSt w0 W rb M ∧ Below w0.heap.size w0 W ∧ KeepUp w1 W rb ∧ EvB W w1.heap.size A xs
theorem LogQ.pick {w0 w1 W W' : World} {rb : Nat} {M M' : Int} {A : Option Addr} {xs : List Ev} (h : LogQ w0 w1 W rb M A xs) (hrb : rb < w1.heap.size) (hS : RdSt w0 W' rb M') (hB : Below w0.heap.size w0 W') (hK : KeepBut W W' rb none) : LogQ w0 w1 W' rb M' A xs :=
 ⟨hS, hB, h.2.2.1.trans (KeepUp.of hK (Nat.le_refl _)), h.2.2.2.keep hK hrb⟩
set_option maxRecDepth 100000 in
set_option maxHeartbeats 8000000 in
theorem anyLog_any (rb : Nat) (M : Int) (hM : M ≤ 600000) (A : Option Addr) (c : Nat) (g : List Tk) (w0 w : World) (hS : RdSt w0 w rb M) (hB : Below w0.heap.size w0 w) (hG : StG w rb A g) :
  Calls Tryz.prog 85 #[.pointer (some ⟨rb, 0, none⟩), .slice A g.length c] w fun e w' => ∃ A1 c1 log, e = .returned (.slice A1 log.length c1) ∧ kEv.C w' A1 log.length log ∧ kTk.C w' A g.length g ∧ log.length ≤ 16 ∧ Below w0.heap.size w0 w' := by
 have HS0 := Lib.hid hS
 have HB0 := Lib.hid hB
 have HG := Lib.hid hG
 have K0 := Lib.hid True.intro
 have K1 := Lib.hid True.intro
 clear hS hB hG
 go_enter Tryz.func85, Tryz.ntmps85
 go_upto_region 3 with (first
  | (go_at_call 53; refine (someStarts_any rb M (by omega) A c g w0 _ HS0.out HB0.out HG.out).mono ?_; rintro e w1 ⟨A1, c1, rm, wk, A2, c2, st, rfl, h1, h2, hI1, hI2, hl1, hl2, hwk, hsb, hS1, hB1, hK1⟩; have H1 := Lib.hid (And.intro hI1 (And.intro hI2 (And.intro hS1 (And.intro hB1 (HG.out.keep hK1))))); clear h1 h2 hI1 hI2 hl1 hl2 hwk hsb hS1 hB1 hK1)
  | (go_at_call 119; refine (sLogOf_calls A c g A1 c1 rm wk A2 c2 st _ H1.out.2.2.2.2.now H1.out.1.now H1.out.2.1.now).mono ?_; rintro e w2 ⟨v2, rfl, hR2, hB2⟩; obtain ⟨AL, cL, rfl, hcL, hE2⟩ := EvB.of_R hR2; have HRB := Lib.hid H1.out.2.2.1.lt; have HQ : Hid (LogQ w0 w1 w2 rb (M + 20) AL (lgS g rm wk st)) := Lib.hid ⟨H1.out.2.2.1.below hB2, H1.out.2.2.2.1.trans (hB2.mono H1.out.2.2.2.1.size), KeepUp.of (keep_below rb hB2) (Nat.le_refl _), hE2⟩; clear hR2 hB2 hE2))
 have h16 := lgS_len16 g rm wk st
 generalize lgS g rm wk st = lg at HQ hcL h16
 have HGW := Lib.hid (fun (W : World) (h : KeepUp w1 W rb) => H1.out.2.2.2.2 W h)
 by_cases hl0 : lg.length = 0
 ·
  have dl : decide ((0 : Int) < (lg.length : Int)) = false := decide_eq_false (by omega)
  have dl2 : decide (0 < lg.length) = false := decide_eq_false (by omega)
  clear hl0
  go_wp2
  go_ret
  exact ⟨AL, cL, lg, rfl, HQ.out.2.2.2.C (by omega), HGW.out _ HQ.out.2.2.1, h16, HQ.out.2.1⟩
 ·
  have dl : decide ((0 : Int) < (lg.length : Int)) = true := decide_eq_true (by omega)
  have dl2 : decide (0 < lg.length) = true := decide_eq_true (by omega)
  go_upto_region 5 with (first
   | (go_at_call 95; with_reducible refine (pick_any rb (M + 20) 3 (by omega) w0 _ HQ.out.1 HQ.out.2.1).mono ?_; rintro e w3 ⟨v3, rfl, hv3, hS, hB, hK⟩; have HQ := Lib.hid (HQ.out.pick HRB.out hS hB hK); clear hS hB hK)
   | (go_at_call 95; refine (pick_any rb (M + 20 + 1) _ (by omega) w0 _ HQ.out.1 HQ.out.2.1).mono ?_; rintro e w4 ⟨v4, rfl, hv4, hS, hB, hK⟩; have HQ := Lib.hid (HQ.out.pick HRB.out hS hB hK); clear hS hB hK))
  have hv4b := hv4.2 (by omega)
  have hl4 : (lg.take v4.toNat).length = v4.toNat := by rw [List.length_take]; omega
  obtain ⟨ls, hls, HQ⟩ : ∃ ls : List Ev, v4.toNat = ls.length ∧ Hid (LogQ w0 w1 w4 rb (M + 20 + 2) AL ls) := ⟨lg.take v4.toNat, hl4.symm, Lib.hid ⟨HQ.out.1.wide (by omega), HQ.out.2.1, HQ.out.2.2.1, HQ.out.2.2.2.take _⟩⟩
  have hl16 : ls.length ≤ 16 := by omega
  rw [hls]
  clear hls hv4 hv3 hv4b hl4
  obtain ⟨wq, rfl⟩ : ∃ wq : World, wq = w4 := ⟨_, rfl⟩
  rotate_left
  obtain ⟨ls, hls, HQ⟩ : ∃ ls : List Ev, lg = ls ∧ Hid (LogQ w0 w1 w3 rb (M + 20 + 2) AL ls) := ⟨lg, rfl, Lib.hid ⟨HQ.out.1.wide (by omega), HQ.out.2.1, HQ.out.2.2.1, HQ.out.2.2.2⟩⟩
  have hl16 : ls.length ≤ 16 := by rw [← hls]; omega
  rw [hls]
  clear hls hv3
  obtain ⟨wq, rfl⟩ : ∃ wq : World, wq = w3 := ⟨_, rfl⟩
  all_goals
   by_cases hls0 : ls.length = 0
   ·
    have dk : decide ((0 : Int) < (ls.length : Int)) = false := decide_eq_false (by omega)
    have dk2 : decide (0 < ls.length) = false := decide_eq_false (by omega)
    clear hls0
    go_wp2
    go_ret
    exact ⟨AL, cL, ls, rfl, HQ.out.2.2.2.C (by omega), HGW.out _ HQ.out.2.2.1, hl16, HQ.out.2.1⟩
   ·
    have dk : decide ((0 : Int) < (ls.length : Int)) = true := decide_eq_true (by omega)
    have dk2 : decide (0 < ls.length) = true := decide_eq_true (by omega)
    have hne : ls ≠ [] := fun h => hls0 (by rw [h]; rfl)
    have HNE := Lib.hid hne
    have HLP := Lib.hid (show 0 < ls.length by omega)
    obtain ⟨b, rfl⟩ : ∃ b, AL = some ⟨b, 0, none⟩ := by
     rcases HQ.out.2.2.2 with h | ⟨b, _, h, _⟩
     ·
      exact absurd h hne
     ·
      exact ⟨b, h⟩
    have HBB := Lib.hid (EvB.at HQ.out.2.2.2 hne).1
    clear hls0 hne
    go_upto_region 7 with (first | (go_at_call 95; with_reducible refine (pick_any rb (M + 20 + 2) 10 (by omega) w0 _ HQ.out.1 HQ.out.2.1).mono ?_; rintro e w5 ⟨v5, rfl, hv5, hS, hB, hK⟩; have HQ := Lib.hid (HQ.out.pick HRB.out hS hB hK); clear hS hB hK) | (go_at_call 95; with_reducible refine (pick_any rb (M + 20 + 2 + 1 + 1 + 1) 9 (by omega) w0 _ HQ.out.1 HQ.out.2.1).mono ?_; rintro e w8 ⟨v8, rfl, hv8, hS, hB, hK⟩; have HQ := Lib.hid (HQ.out.pick HRB.out hS hB hK); clear hS hB hK) | (go_at_call 95; with_reducible refine (pick_any rb (M + 20 + 2 + 1 + 1 + 1 + 1) 2 (by omega) w0 _ HQ.out.1 HQ.out.2.1).mono ?_; rintro e w9 ⟨v9, rfl, hv9, hS, hB, hK⟩; have HQ := Lib.hid (HQ.out.pick HRB.out hS hB hK); clear hS hB hK; obtain ⟨_, cells, hh, hc⟩ := EvB.at HQ.out.2.2.2 HNE.out; obtain ⟨d0, d1, d2⟩ := hc m hm6; have cr0 := (blk_cell hh (m * 3)).trans d0; have cr1 := (blk_cell hh (m * 3 + 1)).trans d1; have cr2 := (blk_cell hh (m * 3 + 2)).trans d2; have fr := blk_frozen hh; have HH := Lib.hid (And.intro hh hc); clear hh hc d0 d1 d2) | (go_at_call 96; refine (oneLit_any rb (M + 20 + 2 + 1 + 1) [0, 5, 201] (by decide) (by decide) (by omega) w0 _ HQ.out.1 HQ.out.2.1).mono ?_; rintro e w7 ⟨v7, rfl, hv7, hS, hB, hK⟩; have HQ := Lib.hid (HQ.out.pick HRB.out hS hB hK); clear hS hB hK hv7) | (go_at_call 95; refine (pick_any rb (M + 20 + 2 + 1) (ls.length : Int) (by omega) w0 _ HQ.out.1 HQ.out.2.1).mono ?_; rintro e w6 ⟨v6, rfl, hv6, hS, hB, hK⟩; have HQ := Lib.hid (HQ.out.pick HRB.out hS hB hK); clear hS hB hK; obtain ⟨m, rfl⟩ := Int.eq_ofNat_of_zero_le hv6.1; have hm6 : m < ls.length := (by have h1 := HLP.out; have h0 := hv6.2 (by omega); omega); have hmi : (m : Int) < (ls.length : Int) := (by omega)))
    all_goals
     go_wp2
     go_ret
     first
      | exact ⟨_, cL, ls.set m ⟨v7, v8, v9 == 0⟩, by rw [List.length_set]; rfl, (EvB.set HBB.out HH.out.1 HH.out.2 hm6 ⟨v7, v8, v9 == 0⟩).C (by rw [List.length_set]; omega), HGW.out _ (((HQ.out.2.2.1.set HBB.out _ _).set HBB.out _ _).set HBB.out _ _), by rw [List.length_set]; exact hl16, ((HQ.out.2.1.setCell (p := ⟨b, m * 3, none⟩) (Nat.le_trans H1.out.2.2.2.1.size HBB.out) _).setCell (p := ⟨b, m * 3 + 1, none⟩) (Nat.le_trans H1.out.2.2.2.1.size HBB.out) _).setCell (p := ⟨b, m * 3 + 2, none⟩) (Nat.le_trans H1.out.2.2.2.1.size HBB.out) _⟩
      | exact ⟨_, cL, ls, rfl, HQ.out.2.2.2.C (by omega), HGW.out _ HQ.out.2.2.1, hl16, HQ.out.2.1⟩
def DrLg (w : World) (e : Ending) (w' : World) : Prop := ∃ A1 c1 g A2 c2 log, e = .returned (.tuple #[.slice A1 g.length c1, .slice A2 log.length c2]) ∧ kTk.C w' A1 g.length g ∧ kEv.C w' A2 log.length log ∧ g.length ≤ 16 ∧ log.length ≤ 16 ∧ Below w.heap.size w w'
set_option maxRecDepth 100000 in
theorem DrawValidLog_any (A : Option Addr) (c : Nat) (l : List Int) (hb : ∀ x ∈ l, 0 ≤ x ∧ x < 256) (w : World) (hr : (Kd.int .u8).C w A l.length l) (hc : l.length ≤ c) :
  Calls Tryz.prog 45 #[.slice A l.length c] w (DrLg w) := by
 have HN := Lib.hid (newReader_new A c l hb w hr hc)
 clear hb hr hc
 go_enter Tryz.func45, Tryz.ntmps45
 go_wp2_with (first | (go_at_call 51; refine HN.out.mono ?_; rintro e w1 ⟨rb, rfl, hrb, hS1, hB1⟩; have H1 := Lib.hid (And.intro hS1 hB1); clear hS1 hB1) | (go_at_call 52; refine (anyGraph_any rb 0 (by omega) w _ H1.out.1 H1.out.2).mono ?_; rintro e w2 ⟨A2, c2, g, rfl, hg2, hG2, hok, hS2, hB2, hK2⟩; have H2 := Lib.hid (And.intro hG2 (And.intro hok (And.intro hS2 hB2))); clear hG2 hok hS2 hB2 hK2) | (go_at_call 85; refine (anyLog_any rb _ (by omega) A2 c2 g w _ H2.out.2.2.1 H2.out.2.2.2 H2.out.1).mono ?_; rintro e w3 ⟨A3, c3, lg, rfl, hE, hG, hl16, hB3⟩; have H3 := Lib.hid (And.intro hE (And.intro hG (And.intro hl16 hB3))); clear hE hG hl16 hB3))
 go_ret2
 exact ⟨A2, c2, g, A3, c3, lg, rfl, H3.out.2.1, H3.out.1, H2.out.2.1.1, H3.out.2.2.1, H3.out.2.2.2⟩
theorem DrawMostTogether_any (A : Option Addr) (c : Nat) (l : List Int) (hb : ∀ x ∈ l, 0 ≤ x ∧ x < 256) (w : World) (hr : (Kd.int .u8).C w A l.length l) (hc : l.length ≤ c) :
  Calls Tryz.prog 17 #[.slice A l.length c] w (DrLg w) := by
 have HN := Lib.hid (DrawValidLog_any A c l hb w hr hc)
 clear hb hr hc
 go_enter Tryz.func17, Tryz.ntmps17
 go_wp2_with (go_at_call 45; refine HN.out.mono ?_; rintro e w1 ⟨A1, c1, g, A2, c2, lg, rfl, h1⟩; have H1 := Lib.hid h1; clear h1)
 go_ret2
 exact ⟨A1, c1, g, A2, c2, lg, rfl, H1.out⟩
end Go.Proofs.YtlapphhcficbjaaGreatDoor

namespace Go.Proofs.YtlapphhcficbjaaGreatDoor
set_option linter.unusedVariables false
set_option linter.unusedSimpArgs false
open Go.RowKit Go.Shelf Bits
open Go.Proofs.YtlapphhcficbjaaGreatDoorW.PrintWords Go.Proofs.YtlapphhcficbjaaGreatDoorW.PrintLast Go.Proofs.YtlapphhcficbjaaGreatDoorW.PrintMore
def mostB (g : List Tk) (log : List Ev) : Int := match replayB g log with
 | some p => p.2
 | none => -1
section
variable (A : Option Addr) (c : Nat) (g : List Tk) (A' : Option Addr) (c' : Nat) (log : List Ev) (w : World)
theorem replay_miss (hr : kTk.C w A g.length g) (hr' : kEv.C w A' log.length log) (hT : Tab w) (hb : replayB g log = none) :
  Calls Tryz.prog 46 #[.slice A g.length c, .slice A' log.length c'] w fun e w' => e = .returned (.tuple #[.pointer none, .int .i64 0, .bool false]) ∧ Below w.heap.size w w' :=
 (replay_all A c g A' c' log w hr hr' hT).mono fun e w' h => by unfold ReplayAll at h; rw [hb] at h; exact h
theorem replay_hit (hr : kTk.C w A g.length g) (hr' : kEv.C w A' log.length log) (hT : Tab w) (p : Mach × Int) (hb : replayB g log = some p) :
  Calls Tryz.prog 46 #[.slice A g.length c, .slice A' log.length c'] w fun e w' => ∃ h C ns, graphN g = some ns ∧ e = .returned (.tuple #[.pointer (some ⟨h, 0, none⟩), .int .i64 p.2, .bool true]) ∧ MAt h C p.1 w' ∧ IsGraph w' C g ns ∧ MInv p.1 ∧ Below w.heap.size w w' :=
 (replay_all A c g A' c' log w hr hr' hT).mono fun e w' h => by unfold ReplayAll at h; rw [hb] at h; exact h
set_option maxRecDepth 100000 in
theorem MostTogether_impl (hr : kTk.C w A g.length g) (hr' : kEv.C w A' log.length log) (hT : Tab w) :
  Calls Tryz.prog 18 #[.slice A g.length c, .slice A' log.length c'] w fun e w' => e = .returned (.int .i64 (mostB g log)) ∧ Below w.heap.size w w' := by
 cases hb : replayB g log with
 | none =>
  have HP := Lib.hid (replay_miss A c g A' c' log w hr hr' hT hb)
  have HF : Hid (mostB g log = -1) := Lib.hid (by unfold mostB; rw [hb])
  clear hr hr' hT hb
  go_enter Tryz.func18, Tryz.ntmps18
  go_wp2_with (go_at_call 46; refine HP.out.mono ?_; rintro e w1 ⟨rfl, hB1⟩)
  go_ret
  exact ⟨ret_int HF.out.symm, hB1⟩
 | some p =>
  have HP := Lib.hid (replay_hit A c g A' c' log w hr hr' hT p hb)
  have HF : Hid (mostB g log = p.2) := Lib.hid (by unfold mostB; rw [hb])
  clear hr hr' hT hb
  go_enter Tryz.func18, Tryz.ntmps18
  go_wp2_with (go_at_call 46; refine HP.out.mono ?_; rintro e w1 ⟨h, C, ns, hg, rfl, hM, hG, hI, hB1⟩)
  go_ret
  exact ⟨ret_int HF.out.symm, hB1⟩
end
end Go.Proofs.YtlapphhcficbjaaGreatDoor

namespace Go.Proofs.YtlapphhcficbjaaGreatDoor
set_option linter.unusedVariables false
set_option linter.unusedSimpArgs false
open Go.RowKit Go.Shelf Bits
def sumN (log : List Ev) : Nat → Int
 | 0 => 0
 | k + 1 => sumN log k + 1 - 2 * (if (rdEv log k).f2 = true then 1 else 0)
def mostN (log : List Ev) : Nat → Int
 | 0 => 0
 | k + 1 => if lastOf log k then max (mostN log k) (sumN log (k + 1)) else mostN log k
theorem sumN_bound (log : List Ev) : ∀ k : Nat, -(k : Int) ≤ sumN log k ∧ sumN log k ≤ k
 | 0 => ⟨by show (0 : Int) ≥ _; omega, by show (0 : Int) ≤ _; omega⟩
 | k + 1 => by
  have := sumN_bound log k
  unfold sumN
  split <;> omega
theorem elems_cnt (s : Nat) : (elems s).length = cntW 16 s := by
 unfold elems
 have h : ∀ n, ((List.range n).filter s.testBit).length = cntW n s := by
  intro n
  induction n with
  | zero => rfl
  | succ n ih =>
   rw [List.range_succ, List.filter_append, List.length_append, ih]
   have h1 : ([n].filter s.testBit).length = if s.testBit n = true then 1 else 0 := by
    cases hb : s.testBit n with
    | true => rw [List.filter_cons_of_pos hb]; rfl
    | false => rw [List.filter_cons_of_neg (by rw [hb]; simp)]; rfl
   rw [h1]
   rfl
 exact h 16
theorem cnt_least {s m : Nat} (h : ∀ i, s.testBit i = true → i < m) : ∀ n, cntW n s ≤ m
 | 0 => Nat.zero_le _
 | n + 1 => by
  have ih := cnt_least h n
  have hn : cntW n s ≤ n := by
   clear ih
   induction n with
   | zero => exact Nat.le_refl _
   | succ n ih => unfold cntW; split <;> omega
  unfold cntW
  split
  ·
   rename_i hb
   have := h n hb
   omega
  ·
   omega
structure Kept (g : List Tk) (log : List Ev) (k : Nat) (M : Mach) (most : Int) : Prop where
 sub : ∀ i, M.o.testBit i = true → M.b.testBit i = true
 lt : ∀ i, M.b.testBit i = true → i < g.length
 run : running M = sumN log k
 mst : most = mostN log k
 le : most ≤ g.length
 ge : 0 ≤ most
theorem run_le {g : List Tk} {M : Mach} (h : ∀ i, M.b.testBit i = true → i < g.length) : running M ≤ g.length := by
 unfold running
 rw [elems_cnt]
 have := cnt_least (s := diff M.b M.o) (m := g.length) (fun i hi => h i (by rw [diff_bit, Bool.and_eq_true] at hi; exact hi.1)) 16
 omega
theorem Kept.step {g : List Tk} {ns : List Nat} {log : List Ev} {k : Nat} {M M' : Mach} {most : Int} (hg8 : g.length ≤ 8) (h : Kept g log k M most) (hs : stepM g ns M (rdEv log k) = some M') :
  Kept g log (k + 1) M' (if lastOf log k then max most (running M') else most) := by
 obtain ⟨hin, hst⟩ := stepM_some hs
 obtain ⟨_, hi, hlt⟩ := evIn_num hin
 generalize he : rdEv log k = e at *
 have key : (∀ i, M'.o.testBit i = true → M'.b.testBit i = true) ∧ (∀ i, M'.b.testBit i = true → i < g.length) ∧ running M' = sumN log (k + 1) := by
  rcases hst with ⟨h2, hm, rfl⟩ | ⟨h2, hm, rfl⟩
  ·
   unfold mayBegin at hm
   simp only [Bool.and_eq_true, Bool.not_eq_true'] at hm
   have ho : M.o.testBit e.i = false := by
    cases hx : M.o.testBit e.i with
    | false => rfl
    | true => rw [h.sub _ hx] at hm; exact absurd hm.1 (by simp)
   refine ⟨fun i hx => ?_, fun i hx => ?_, ?_⟩
   ·
    show (M.b ||| 2 ^ e.i).testBit i = true
    rw [or_bit, h.sub i hx]; rfl
   ·
    have hx : (M.b ||| 2 ^ e.i).testBit i = true := hx
    rw [or_bit, Bool.or_eq_true, decide_eq_true_eq] at hx
    rcases hx with hx | rfl
    ·
     exact h.lt i hx
    ·
     exact hlt
   ·
    have hd : diff (M.b ||| 2 ^ e.i) M.o = diff M.b M.o ||| 2 ^ e.i := by
     apply Nat.eq_of_testBit_eq
     intro j
     rw [diff_bit, or_bit, or_bit, diff_bit]
     by_cases hj : e.i = j
     ·
      subst hj; rw [ho]; simp
     ·
      simp [hj]
    have hr := h.run
    unfold running at hr ⊢
    show (((elems (diff (M.b ||| 2 ^ e.i) M.o)).length : Nat) : Int) = _
    rw [hd, elems_cnt, cntW_step (by rw [diff_bit, hm.1]; rfl) 16 (by omega)]
    rw [elems_cnt] at hr
    unfold sumN
    rw [he, h2, ← hr]
    simp only [Bool.false_eq_true, if_false]
    omega
  ·
   unfold mayEnd at hm
   simp only [Bool.and_eq_true, Bool.not_eq_true'] at hm
   refine ⟨fun i hx => ?_, fun i hx => h.lt i hx, ?_⟩
   ·
    have hx : (M.o ||| 2 ^ e.i).testBit i = true := hx
    rw [or_bit, Bool.or_eq_true, decide_eq_true_eq] at hx
    rcases hx with hx | rfl
    ·
     exact h.sub i hx
    ·
     exact hm.1.1
   ·
    have hd : diff M.b M.o = diff M.b (M.o ||| 2 ^ e.i) ||| 2 ^ e.i := by
     apply Nat.eq_of_testBit_eq
     intro j
     rw [diff_bit, or_bit, diff_bit, or_bit]
     by_cases hj : e.i = j
     ·
      subst hj; rw [hm.1.1, hm.1.2]; simp
     ·
      simp [hj]
    have hr := h.run
    unfold running at hr ⊢
    show (((elems (diff M.b (M.o ||| 2 ^ e.i))).length : Nat) : Int) = _
    rw [hd, elems_cnt, cntW_step (by rw [diff_bit, or_bit]; simp) 16 (by omega)] at hr
    rw [elems_cnt]
    unfold sumN
    rw [he, h2, ← hr]
    simp only [if_true]
    omega
 obtain ⟨k1, k2, k3⟩ := key
 have hle := run_le k2
 refine ⟨k1, k2, k3, ?_, ?_, ?_⟩
 ·
  unfold mostN
  rw [h.mst, k3]
 ·
  have := h.le
  split
  ·
   exact Int.max_le.2 ⟨this, hle⟩
  ·
   exact this
 ·
  have := h.ge
  split
  ·
   exact Int.le_trans this (Int.le_max_left _ _)
  ·
   exact this
theorem replay_kept {g : List Tk} {ns : List Nat} {log : List Ev} (hg8 : g.length ≤ 8) : ∀ (k : Nat) (p : Mach × Int), replayN g ns log k = some p → Kept g log k p.1 p.2
 | 0, p, h => by
  obtain rfl : (Mach.zero, (0 : Int)) = p := Option.some.inj h
  exact ⟨fun i hi => by simp [Mach.zero] at hi, fun i hi => by simp [Mach.zero] at hi, by unfold running; rw [elems_cnt]; simp [Mach.zero, diff, cnt_zero, sumN], rfl, by show (0 : Int) ≤ _; omega, Int.le_refl _⟩
 | k + 1, p, h => by
  unfold replayN at h
  obtain ⟨q, hq, h⟩ := Option.bind_eq_some_iff.1 h
  split at h
  ·
   cases h
  ·
   obtain ⟨M', hM, rfl⟩ := Option.map_eq_some_iff.1 h
   exact (replay_kept hg8 k q hq).step hg8 hM
structure Early (g : List Tk) (log : List Ev) (k : Nat) (M : Mach) : Prop where
 sum : sumN log k = k
 at_ : ∀ j, j < k → (rdEv log j).f0 = (rdEv log 0).f0
 bg : ∀ i, M.b.testBit i = true → 0 < k ∧ M.bg i = (rdEv log 0).f0
 last : ∀ j, j < k → lastOf log j = false
theorem most_mono {log : List Ev} {k : Nat} (h : 1 ≤ mostN log k) : 1 ≤ mostN log (k + 1) := by
 unfold mostN
 split
 ·
  exact Int.le_trans h (Int.le_max_left _ _)
 ·
  exact h
theorem replay_early {g : List Tk} {ns : List Nat} {log : List Ev} (hgt : ∀ i, i < g.length → 1 ≤ (rdTk g i).f0) : ∀ (k : Nat) (p : Mach × Int), k ≤ log.length → replayN g ns log k = some p → 1 ≤ mostN log k ∨ Early g log k p.1
 | 0, p, _, h => by
  obtain rfl : (Mach.zero, (0 : Int)) = p := Option.some.inj h
  exact Or.inr ⟨rfl, fun j hj => by omega, fun i hi => by simp [Mach.zero] at hi, fun j hj => by omega⟩
 | k + 1, p, hk, h => by
  unfold replayN at h
  obtain ⟨q, hq, h⟩ := Option.bind_eq_some_iff.1 h
  split at h
  ·
   cases h
  ·
   rename_i hord
   obtain ⟨M', hM, rfl⟩ := Option.map_eq_some_iff.1 h
   rcases replay_early hgt k q (by omega) hq with h1 | h1
   ·
    exact Or.inl (most_mono h1)
   ·
    obtain ⟨hin, hst⟩ := stepM_some hM
    obtain ⟨_, hi, hlt⟩ := evIn_num hin
    have hat : (rdEv log k).f0 = (rdEv log 0).f0 := by
     rcases Nat.eq_zero_or_pos k with rfl | hp
     ·
      rfl
     ·
      have hl := h1.last (k - 1) (by omega)
      have ha := h1.at_ (k - 1) (by omega)
      unfold lastOf at hl
      unfold inOrder at hord
      rw [show k - 1 + 1 = k by omega] at hl
      simp only [Bool.or_eq_false_iff, decide_eq_false_iff_not, Bool.not_eq_false, Bool.not_eq_true', Bool.and_eq_false_iff] at hl hord
      omega
    rcases hst with ⟨h2, hm, rfl⟩ | ⟨h2, hm, rfl⟩
    ·
     have hsum : sumN log (k + 1) = (k : Int) + 1 := by
      unfold sumN
      rw [h1.sum, h2]
      simp
     by_cases hlast : lastOf log k = true
     ·
      left
      unfold mostN
      rw [if_pos hlast, hsum]
      have := Int.le_max_right (mostN log k) ((k : Int) + 1)
      omega
     ·
      right
      refine ⟨by rw [hsum]; rfl, fun j hj => ?_, fun i hx => ⟨Nat.succ_pos _, ?_⟩, fun j hj => ?_⟩
      ·
       rcases Nat.lt_succ_iff_lt_or_eq.1 hj with hj | rfl
       ·
        exact h1.at_ j hj
       ·
        exact hat
      ·
       show (if i = (rdEv log k).i then (rdEv log k).f0 else q.1.bg i) = _
       split
       ·
        exact hat
       ·
        rename_i hne
        have hx : (q.1.b ||| 2 ^ (rdEv log k).i).testBit i = true := hx
        rw [or_bit, Bool.or_eq_true, decide_eq_true_eq] at hx
        rcases hx with hx | hx
        ·
         exact (h1.bg i hx).2
        ·
         exact absurd hx.symm hne
      ·
       rcases Nat.lt_succ_iff_lt_or_eq.1 hj with hj | rfl
       ·
        exact h1.last j hj
       ·
        simpa using hlast
    ·
     exfalso
     unfold mayEnd at hm
     simp only [Bool.and_eq_true, Bool.not_eq_true', decide_eq_true_eq] at hm
     have := (h1.bg _ hm.1.1).2
     have := hgt _ hlt
     omega
theorem most_pos {g : List Tk} {ns : List Nat} {log : List Ev} (hgt : ∀ i, i < g.length → 1 ≤ (rdTk g i).f0) (p : Mach × Int) (h : replayN g ns log log.length = some p) (hn : 0 < log.length) : 1 ≤ mostN log log.length := by
 rcases replay_early hgt log.length p (Nat.le_refl _) h with h1 | h1
 ·
  exact h1
 ·
  have := h1.last (log.length - 1) (by omega)
  unfold lastOf at this
  simp only [Bool.or_eq_false_iff, decide_eq_false_iff_not] at this
  omega
end Go.Proofs.YtlapphhcficbjaaGreatDoor

namespace Go.Proofs.YtlapphhcficbjaaGreatDoor
set_option linter.unusedVariables false
set_option linter.unusedSimpArgs false
open Go.RowKit Go.Shelf Bits
theorem rdEv_take {log : List Ev} {m k : Nat} (h : k < m) : rdEv (log.take m) k = rdEv log k := by
 unfold rdEv
 rw [List.getD_eq_getElem?_getD, List.getD_eq_getElem?_getD, List.getElem?_take, if_pos h]
theorem eventOk_take (g : List Tk) (log : List Ev) {m k : Nat} (h : k < m) : eventOkB g (log.take m) k = eventOkB g log k := by
 have e : (log.take m).take k = log.take k := by rw [List.take_take, Nat.min_eq_left (Nat.le_of_lt h)]
 unfold eventOkB eventFitsB
 rw [rdEv_take h, rdEv_take (show k - 1 < m by omega), e]
theorem validLog_take {g : List Tk} {log : List Ev} (h : validLogB g log = true) (m : Nat) : validLogB g (log.take m) = true := by
 unfold validLogB at h ⊢
 simp only [Bool.and_eq_true, decide_eq_true_eq, List.all_eq_true, List.mem_range] at h ⊢
 refine ⟨⟨h.1.1, by rw [List.length_take]; omega⟩, fun k hk => ?_⟩
 rw [List.length_take] at hk
 rw [eventOk_take g log (by omega)]
 exact h.2 k (by omega)
theorem validLog_nil {g : List Tk} {log : List Ev} (h : validLogB g log = true) : validLogB g [] = true := validLog_take h 0
theorem law_validLog (g : List Tk) (log : List Ev) :
  (if (replayB g log).isSome ≠ validLogB g log ∨ (replayB g log).isSome = false ∨ log.length = 0 then (replayB g log).isSome == validLogB g log
   else (replayB g (log.take (log.length - 1))).isSome && (replayB g []).isSome) = true := by
 rw [← validLog_eq g log, ← validLog_eq, ← validLog_eq]
 split
 ·
  simp
 ·
  rename_i h
  have h1 : validLogB g log = true := by
   cases hv : validLogB g log
   ·
    exact absurd (Or.inr (Or.inl hv)) h
   ·
    rfl
  rw [validLog_take h1, validLog_nil h1]
  rfl
end Go.Proofs.YtlapphhcficbjaaGreatDoor

namespace Go.Proofs.YtlapphhcficbjaaGreatDoor
set_option linter.unusedVariables false
set_option linter.unusedSimpArgs false
open Go.RowKit Go.Shelf Bits
open Go.Proofs.YtlapphhcficbjaaGreatDoorW.PrintWords Go.Proofs.YtlapphhcficbjaaGreatDoorW.PrintLast Go.Proofs.YtlapphhcficbjaaGreatDoorW.PrintMore
attribute [local go_sem] Oper.semAt_some
def sumT (g : List Tk) (l : List Nat) : Int := (l.map fun i => (rdTk g i).f0).sum
theorem sumT_snoc (g : List Tk) (l : List Nat) (i : Nat) : sumT g (l ++ [i]) = sumT g l + (rdTk g i).f0 := by
 unfold sumT
 rw [List.map_append, List.sum_append]
 simp
theorem sumT_bound {g : List Tk} (htm : ∀ i, 0 ≤ (rdTk g i).f0 ∧ (rdTk g i).f0 ≤ 20) : ∀ l : List Nat, 0 ≤ sumT g l ∧ sumT g l ≤ 20 * l.length
 | [] => ⟨Int.le_refl _, by show (0 : Int) ≤ _; simp⟩
 | i :: l => by
  have ih := sumT_bound htm l
  have h := htm i
  have e : sumT g (i :: l) = (rdTk g i).f0 + sumT g l := by unfold sumT; simp
  rw [e, List.length_cons]
  omega
set_option maxRecDepth 100000 in
set_option maxHeartbeats 2000000 in
theorem total_calls (C : Nat) (g : List Tk) (ns : List Nat) (s : Nat) (h8 : g.length ≤ 8) (hs : s < 2 ^ g.length) (htm : ∀ i, 0 ≤ (rdTk g i).f0 ∧ (rdTk g i).f0 ≤ 20) (w : World) (hG : IsGraph w C g ns) (hT : Tab w) :
  Calls Tryz.prog 41 #[.pointer (some ⟨C, 0, none⟩), .int .u16 s] w fun e W' => e = .returned (.int .i64 (sumT g (elems s))) ∧ Below w.heap.size w W' := by
 have hs16 : s < 65536 := Nat.lt_of_lt_of_le hs (Nat.le_trans (Nat.pow_le_pow_right (by omega) h8) (by decide))
 have hCl : C < w.heap.size := by obtain ⟨Ag, cg, An, cn, Ao, co, vb, va, h1, _⟩ := hG; exact blk_lt h1
 have HG := Lib.hid hG
 have HTM := Lib.hid htm
 clear hG htm
 refine calls_of_wp_marks Tryz.func41 rfl ?_
 simp only [Tryz.ntmps41, List.size_toArray, List.length_cons, List.length_nil, Nat.reduceAdd, Nat.reduceSub, Array.replicate_succ, Array.replicate_zero, List.push_toArray, List.append_toArray, List.nil_append, List.cons_append]
 go_wp2_with (go_at_call 69; refine (all_calls s _).mono ?_; rintro e w' ⟨rfl, rfl⟩)
 obtain ⟨W0, hW0⟩ : ∃ W0, W0 = (w.alloc (.cells #[.pointer (some ⟨C, 0, none⟩)] 44)).alloc (.cells #[.int .i64 0] 3) := ⟨_, rfl⟩
 have hB0 : Below w.heap.size w W0 := by rw [hW0]; exact ((Below.refl _ w).alloc (Nat.le_refl _) _).alloc (by simp) _
 have hz0' : W0.heap.size = w.heap.size + 1 + 1 := by rw [hW0]; simp
 have hb0 : Boxed W0 (w.heap.size + 1) 3 (.int .i64 0) := by rw [hW0]; have := Boxed.new (w.alloc (.cells #[.pointer (some ⟨C, 0, none⟩)] 44)) 3 (.int .i64 0); rwa [World.size_alloc] at this
 have hb1 : Boxed W0 w.heap.size 44 (.pointer (some ⟨C, 0, none⟩)) := by rw [hW0]; exact (Boxed.new w 44 (.pointer (some ⟨C, 0, none⟩))).alloc _
 rw [← hW0]
 clear hW0
 have htl := hT.lt
 have hT0 := hT.keep htl hB0
 have hBox := Boxed.new W0 56 (.int .u16 s)
 rw [hz0'] at hBox
 refine wp_rangeSet1 s (w.heap.size + 1 + 1) w.heap.size hs16 rfl (by simp [hz0']) hBox.cell (hT0.keep hT0.lt ((Below.refl _ _).alloc (Nat.le_refl _) _)) (by simp [hz0']; omega) htl
  (fun pre W => Boxed W (w.heap.size + 1) 3 (.int .i64 (sumT g (pre.map (·.1)))) ∧ Boxed W w.heap.size 44 (.pointer (some ⟨C, 0, none⟩)) ∧ Below w.heap.size w W) (fun _ _ _ => False)
  ((Own.from (boxed_own (w.heap.size + 1) 3 (fun pre : List (El s) => Value.int .i64 (sumT g (pre.map (·.1))))) _).and ((Own.from (boxed_own w.heap.size 44 (fun _ => _)) _).and (ownFrom_below (Nat.le_refl _) (by simp [hz0']; omega))))
  (fun _ _ _ _ _ h _ _ => h)
  ⟨hb0.alloc _, hb1.alloc _, hB0.alloc hB0.size _⟩
  (fun x => { tmps := #[.pointer (some ⟨C, 0, none⟩), .int .u16 s, .pointer (some ⟨w.heap.size, 0, none⟩), undef, .int .i64 0, .pointer (some ⟨w.heap.size + 1, 0, none⟩), .int .i64 (x.1 : Nat), .int .u16 s, .func (.func 108) #[] #[.pointer (some ⟨w.heap.size + 1 + 1, 0, none⟩)], .int .i64 (x.1 : Nat), undef, undef, undef, undef, undef, undef, undef, undef, undef, undef, undef], defers := [] }) ?assign ?body ?done ?stop
 case assign =>
  intro l x W K hK
  gi_wp2
  exact hK
 case body =>
  rintro l pre x W ⟨hb, hb2, hB⟩ hlt
  have hel := elems_length s
  have hxn : x.1 < g.length := elems_below hs x.2
  obtain ⟨Ag, cg, An, cn, Ao, co, vb, va, h1, h2, _, _⟩ := HG.out.below hB
  have cC := blk_cell h1 0
  simp at cC
  obtain ⟨ad, A1, c1, rfl, hx0, _⟩ := at_Tk h2 x.1 hxn
  have hsn := sumT_snoc g (pre.map (·.1)) x.1
  have hsb := sumT_bound HTM.out (pre.map (·.1))
  have htx := HTM.out x.1
  rw [List.length_map] at hsb
  have hI : ∀ W', Boxed W' (w.heap.size + 1) 3 (.int .i64 (sumT g (pre.map (·.1)) + (rdTk g x.1).f0)) → Boxed W' (w.heap.size + 1) 3 (.int .i64 (sumT g ((pre ++ [x]).map (·.1)))) := by
   intro W' h
   rw [List.map_append, List.map_cons, List.map_nil, hsn]
   exact h
  have HI := Lib.hid hI
  clear hI hsn h1 h2
  generalize sumT g (pre.map (·.1)) = S at hb hsb HI
  generalize (rdTk g x.1).f0 = tm at hx0 htx HI
  have hwr : IntKind.i64.wrap (S + tm) = S + tm := IntWalk.i64_in _ (by omega)
  have hxi : ((x.1 : Nat) : Int) < (g.length : Int) := by clear hwr; omega
  have hc := hb.cell
  have hf := hb.frozen
  have hc2 := hb2.cell
  gi_wp2
  refine wpIn_region_still_tail 10 mixed (by kernel_rfl) (by kernel_rfl) (fun ⟨_, _, h⟩ => h) ?_
  simp only [List.take_succ_cons, List.take_zero, List.drop_succ_cons, List.drop_zero]
  repeat (with_reducible refine wpStill_step (fun K hK => ?_); go_simp; with_reducible refine hK _ ?_; clear hK K)
  with_reducible refine wpStill_nil ?_
  clear hwr
  go_wp2
  have hBs := hB.size
  exact ⟨((KeepsOthers.setCell _ _ _).trans (KeepsOthers.drew _)).from _, ((Below.refl _ _).setCell (p := ⟨w.heap.size + 1, 0, none⟩) (by simp) _).drew, HI.out _ (hb.set _), blk_far hb2 (by simp) _, (hB.setCell (p := ⟨w.heap.size + 1, 0, none⟩) (by simp) _).drew⟩
 case stop =>
  rintro D c pre W _ _ h _
  exact h.elim
 case done =>
  rintro D ys W hD hys ⟨hb, hb2, hB⟩ hK
  have hc := hb.cell
  rw [hys] at hc
  have HE := Lib.hid hc
  go_wp2
  refine leave_one hK (results_tmp rfl _ _ _) ⟨rfl, ?_⟩
  exact hB.trans (belowK_b (w := w) (Nat.le_refl _) W D _ _ (by simp [hz0'] at hD; omega) hK rfl rfl)
def busyB (g : List Tk) (log : List Ev) : Int := match replayB g log with
 | some p => sumT g (elems p.1.o)
 | none => -1
theorem lt_pow_of_bits {s n : Nat} (h : ∀ i, s.testBit i = true → i < n) : s < 2 ^ n := Nat.lt_pow_two_of_testBit s fun i hi => by
 cases hb : s.testBit i with
 | false => rfl
 | true => have := h i hb; omega
theorem replayB_facts {g : List Tk} {log : List Ev} {p : Mach × Int} (h : replayB g log = some p) : ∃ ns, graphN g = some ns ∧ replayN g ns log log.length = some p ∧ g.length ≤ 8 ∧ p.1.o < 2 ^ g.length ∧ ∀ i, 0 ≤ (rdTk g i).f0 ∧ (rdTk g i).f0 ≤ 20 := by
 unfold replayB at h
 obtain ⟨ns, hns, hp⟩ := Option.bind_eq_some_iff.1 h
 split at hp
 ·
  have h8 := (graphN_all hns).1
  have hk := replay_kept h8 _ p hp
  exact ⟨ns, hns, hp, h8, lt_pow_of_bits fun i hi => hk.lt i (hk.sub i hi), graphN_time hns⟩
 ·
  cases hp
end Go.Proofs.YtlapphhcficbjaaGreatDoor

namespace Go.Proofs.YtlapphhcficbjaaGreatDoor
set_option linter.unusedVariables false
set_option linter.unusedSimpArgs false
open Go.RowKit Go.Shelf Bits
def busyS (g : List Tk) (log : List Ev) : Nat → Int
 | 0 => 0
 | k + 1 => if (rdEv log k).f2 = true then busyS g log k + (rdTk g (rdEv log k).f1.toNat).f0 else busyS g log k
theorem busyS_succ (g : List Tk) (log : List Ev) (k : Nat) : busyS g log (k + 1) = if (rdEv log k).f2 = true then busyS g log k + (rdTk g (rdEv log k).f1.toNat).f0 else busyS g log k := rfl
def sb (g : List Tk) : Nat → Nat → Int
 | 0, _ => 0
 | n + 1, s => sb g n s + if s.testBit n = true then (rdTk g n).f0 else 0
theorem sb_high (g : List Tk) {i s : Nat} : ∀ n, n ≤ i → sb g n (s ||| 2 ^ i) = sb g n s
 | 0, _ => rfl
 | n + 1, h => by
  unfold sb
  rw [sb_high g n (by omega), or_bit, decide_eq_false (show ¬ i = n by omega), Bool.or_false]
theorem sb_step (g : List Tk) {i s : Nat} (hs : s.testBit i = false) : ∀ n, i < n → sb g n (s ||| 2 ^ i) = sb g n s + (rdTk g i).f0
 | n + 1, h => by
  unfold sb
  rcases Nat.lt_succ_iff_lt_or_eq.1 h with h1 | rfl
  ·
   rw [sb_step g hs n h1, or_bit, decide_eq_false (show ¬ i = n by omega), Bool.or_false]
   omega
  ·
   rw [sb_high g i (Nat.le_refl _), or_bit, hs]
   simp
theorem sumT_sb (g : List Tk) (s : Nat) : sumT g (elems s) = sb g 16 s := by
 unfold elems
 have h : ∀ n, sumT g ((List.range n).filter s.testBit) = sb g n s := by
  intro n
  induction n with
  | zero => rfl
  | succ n ih =>
   rw [List.range_succ, List.filter_append]
   unfold sb
   cases hb : s.testBit n with
   | true =>
    rw [List.filter_cons_of_pos hb, List.filter_nil, sumT_snoc, ih]
    simp
   | false =>
    rw [List.filter_cons_of_neg (by rw [hb]; simp), List.filter_nil, List.append_nil, ih]
    simp
 exact h 16
theorem busy_kept {g : List Tk} {ns : List Nat} {log : List Ev} (h8 : g.length ≤ 8) : ∀ (k : Nat) (p : Mach × Int), replayN g ns log k = some p → sumT g (elems p.1.o) = busyS g log k
 | 0, p, h => by
  obtain rfl : (Mach.zero, (0 : Int)) = p := Option.some.inj h
  show sumT g (elems 0) = 0
  rw [elems_zero]
  rfl
 | k + 1, p, h => by
  unfold replayN at h
  obtain ⟨q, hq, h⟩ := Option.bind_eq_some_iff.1 h
  have ih := busy_kept h8 k q hq
  split at h
  ·
   cases h
  ·
   obtain ⟨M', hM, rfl⟩ := Option.map_eq_some_iff.1 h
   obtain ⟨hin, hst⟩ := stepM_some hM
   obtain ⟨_, hi, hlt⟩ := evIn_num hin
   rcases hst with ⟨h2, hm, rfl⟩ | ⟨h2, hm, rfl⟩
   ·
    show sumT g (elems q.1.o) = if (rdEv log k).f2 = true then _ else _
    rw [h2, if_neg (by simp)]
    exact ih
   ·
    show sumT g (elems (q.1.o ||| 2 ^ (rdEv log k).i)) = if (rdEv log k).f2 = true then _ else _
    rw [h2, if_pos rfl, ← ih]
    unfold mayEnd at hm
    simp only [Bool.and_eq_true, Bool.not_eq_true'] at hm
    rw [sumT_sb, sumT_sb, sb_step g hm.1.2 16 (by omega)]
    rfl
theorem busyB_eq (g : List Tk) (log : List Ev) : busyB g log = if validLogB g log = true then busyS g log log.length else -1 := by
 rw [validLog_eq]
 unfold busyB
 cases h : replayB g log with
 | none => rfl
 | some p =>
  obtain ⟨ns, _, hp, h8, _⟩ := replayB_facts h
  exact busy_kept h8 _ p hp
theorem busyS_take (g : List Tk) (log : List Ev) (m : Nat) : ∀ k, k ≤ m → busyS g (log.take m) k = busyS g log k
 | 0, _ => rfl
 | k + 1, h => by
  unfold busyS
  rw [rdEv_take (by omega), busyS_take g log m k (by omega)]
theorem validLog_event {g : List Tk} {log : List Ev} (h : validLogB g log = true) {k : Nat} (hk : k < log.length) : 0 ≤ (rdEv log k).f1 ∧ (rdEv log k).f1 < g.length ∧ 1 ≤ (rdTk g (rdEv log k).f1.toNat).f0 ∧ (rdTk g (rdEv log k).f1.toNat).f0 ≤ 20 := by
 unfold validLogB at h
 simp only [Bool.and_eq_true, decide_eq_true_eq, List.all_eq_true, List.mem_range] at h
 have h1 := h.2 k hk
 unfold eventOkB inB at h1
 simp only [Bool.and_eq_true, decide_eq_true_eq] at h1
 have h2 := h1.1.2
 have hv := h.1.1
 unfold specValid tasksFineB at hv
 simp only [Bool.and_eq_true, List.all_eq_true] at hv
 have hi : (rdEv log k).f1.toNat < g.length := by omega
 have hm : rdTk g (rdEv log k).f1.toNat ∈ g := by unfold rdTk; rw [List.getD_eq_getElem?_getD, List.getElem?_eq_getElem hi]; exact List.getElem_mem _
 have h3 := hv.1.1 _ hm
 unfold taskFineB inB at h3
 simp only [Bool.and_eq_true, decide_eq_true_eq] at h3
 exact ⟨h2.1, by omega, h3.1.1.1.1⟩
theorem busyS_bound {g : List Tk} {log : List Ev} (h : validLogB g log = true) : ∀ k, k ≤ log.length → 0 ≤ busyS g log k ∧ busyS g log k ≤ 20 * k
 | 0, _ => ⟨Int.le_refl _, by show (0 : Int) ≤ _; simp⟩
 | k + 1, hk => by
  have ih := busyS_bound h k (by omega)
  have he := validLog_event h (show k < log.length by omega)
  unfold busyS
  split <;> omega
end Go.Proofs.YtlapphhcficbjaaGreatDoor

namespace Go.Proofs.YtlapphhcficbjaaGreatDoor
set_option linter.unusedVariables false
set_option linter.unusedSimpArgs false
open Go.RowKit Go.Shelf Bits
open Go.Proofs.YtlapphhcficbjaaGreatDoorW.PrintWords Go.Proofs.YtlapphhcficbjaaGreatDoorW.PrintLast Go.Proofs.YtlapphhcficbjaaGreatDoorW.PrintMore
attribute [local go_sem] Oper.semAt_some
def accN (cl : Nat → Int) (now : Int) (l : List Nat) : Nat := l.foldl (fun s i => if cl i ≤ now then s ||| 2 ^ i else s) 0
theorem accN_snoc (cl : Nat → Int) (now : Int) (l : List Nat) (i : Nat) : accN cl now (l ++ [i]) = if cl i ≤ now then accN cl now l ||| 2 ^ i else accN cl now l := by
 unfold accN
 rw [List.foldl_append]
 rfl
theorem accN_bits (cl : Nat → Int) (now : Int) (j : Nat) : ∀ (l : List Nat) (s : Nat), (l.foldl (fun s i => if cl i ≤ now then s ||| 2 ^ i else s) s).testBit j = (s.testBit j || decide (j ∈ l ∧ cl j ≤ now))
 | [], s => by simp
 | i :: l, s => by
  rw [List.foldl_cons, accN_bits cl now j l]
  by_cases hc : cl i ≤ now
  ·
   rw [if_pos hc, or_bit]
   by_cases hj : i = j
   ·
    subst hj
    simp [hc]
   ·
    have : ¬ j = i := fun e => hj e.symm
    simp [hj, this]
  ·
   rw [if_neg hc]
   by_cases hj : i = j
   ·
    subst hj
    simp [hc]
   ·
    have : ¬ j = i := fun e => hj e.symm
    simp [this]
theorem accN_bit (cl : Nat → Int) (now : Int) (l : List Nat) (j : Nat) : (accN cl now l).testBit j = decide (j ∈ l ∧ cl j ≤ now) := by
 unfold accN
 rw [accN_bits]
 simp
theorem accN_lt {cl : Nat → Int} {now : Int} {l : List Nat} (h : ∀ i ∈ l, i < 16) : accN cl now l < 65536 :=
 lt_pow_of_bits (n := 16) fun i hi => by
  rw [accN_bit, decide_eq_true_eq] at hi
  exact h i hi.1
def doneL (M : Mach) (now : Int) : List Nat := (elems M.o).filter fun i => decide (M.cl i ≤ now)
theorem elems_acc (M : Mach) (now : Int) : elems (accN M.cl now (elems M.o)) = doneL M now := by
 unfold doneL
 conv => lhs; unfold elems
 conv => rhs; unfold elems
 rw [List.filter_filter]
 apply List.filter_congr
 intro j hj
 have hj := List.mem_range.1 hj
 have hm : j ∈ List.filter M.o.testBit (List.range 16) ↔ M.o.testBit j = true := by
  rw [List.mem_filter]
  exact ⟨fun h => h.2, fun h => ⟨List.mem_range.2 hj, h⟩⟩
 rw [accN_bit]
 by_cases h2 : M.cl j ≤ now
 ·
  rw [decide_eq_true h2, Bool.true_and]
  by_cases h1 : M.o.testBit j = true
  ·
   rw [decide_eq_true ⟨hm.2 h1, h2⟩, h1]
  ·
   rw [decide_eq_false (fun h => h1 (hm.1 h.1))]
   simpa using h1
 ·
  rw [decide_eq_false h2, decide_eq_false (fun h => h2 h.2)]
  rfl
def doneB (g : List Tk) (log : List Ev) (now : Int) : List Int := match replayB g log with
 | some p => ints (doneL p.1 now)
 | none => []
end Go.Proofs.YtlapphhcficbjaaGreatDoor

namespace Go.Proofs.YtlapphhcficbjaaGreatDoor
set_option linter.unusedVariables false
set_option linter.unusedSimpArgs false
open Go.RowKit Go.Shelf Bits
def hits (log : List Ev) (t : Nat) (now : Int) : Nat → List Int
 | 0 => []
 | k + 1 => if (rdEv log k).f1 = (t : Int) ∧ (rdEv log k).f2 = true ∧ (rdEv log k).f0 ≤ now then hits log t now k ++ [(t : Int)] else hits log t now k
def doneS (log : List Ev) (now : Int) : Nat → List Int
 | 0 => []
 | t + 1 => doneS log now t ++ hits log t now log.length
structure Hist (g : List Tk) (ns : List Nat) (log : List Ev) (k : Nat) (M : Mach) : Prop where
 hit : ∀ t now, hits log t now k = if M.o.testBit t = true ∧ M.cl t ≤ now then [(t : Int)] else []
 sub : ∀ i, M.o.testBit i = true → M.b.testBit i = true
 lt : ∀ i, M.b.testBit i = true → i < g.length
 tim : ∀ i, M.b.testBit i = true → 0 < k ∧ 0 ≤ M.bg i ∧ M.bg i ≤ (rdEv log (k - 1)).f0
 clt : ∀ i, M.o.testBit i = true → M.bg i ≤ M.cl i ∧ M.cl i ≤ (rdEv log (k - 1)).f0
 ned : ∀ i, M.b.testBit i = true → ∀ q, (ns.getD i 0).testBit q = true → M.o.testBit q = true ∧ M.cl q ≤ M.bg i
theorem Hist.step {g : List Tk} {ns : List Nat} {log : List Ev} {k : Nat} {M M' : Mach} (htm : ∀ i, 0 ≤ (rdTk g i).f0) (h : Hist g ns log k M) (ho : inOrder log k = true) (hs : stepM g ns M (rdEv log k) = some M') : Hist g ns log (k + 1) M' := by
 obtain ⟨hin, hst⟩ := stepM_some hs
 obtain ⟨e0, e1, e2⟩ := evIn_num hin
 have e0 := inB_true.1 e0
 have hle : 0 < k → (rdEv log (k - 1)).f0 ≤ (rdEv log k).f0 := fun hk => by
  unfold inOrder at ho
  rw [decide_eq_true hk] at ho
  simpa using ho
 have hbt : ∀ i, M.b.testBit i = true → 0 ≤ M.bg i ∧ M.bg i ≤ (rdEv log k).f0 := fun i hi => by
  obtain ⟨a, b, c⟩ := h.tim i hi
  have := hle a
  exact ⟨b, by omega⟩
 have hct : ∀ i, M.o.testBit i = true → M.bg i ≤ M.cl i ∧ M.cl i ≤ (rdEv log k).f0 := fun i hi => by
  obtain ⟨a, _, _⟩ := h.tim i (h.sub i hi)
  obtain ⟨b, c⟩ := h.clt i hi
  have := hle a
  exact ⟨b, by omega⟩
 rcases hst with ⟨f2, hm, rfl⟩ | ⟨f2, hm, rfl⟩
 ·
  unfold mayBegin at hm
  simp only [Bool.and_eq_true, Bool.not_eq_true', decide_eq_true_eq] at hm
  obtain ⟨m1, m2⟩ := hm
  have hnb : ∀ i, M.b.testBit i = true → i ≠ (rdEv log k).i := fun i hi e => by rw [e, m1] at hi; cases hi
  refine ⟨fun t now => ?_, fun i hi => ?_, fun i hi => ?_, fun i hi => ?_, fun i hi => ?_, fun i hi q hq => ?_⟩
  ·
   unfold hits
   rw [if_neg (by rw [f2]; simp)]
   exact h.hit t now
  ·
   show (M.b ||| 2 ^ (rdEv log k).i).testBit i = true
   rw [or_bit, h.sub i hi]
   rfl
  ·
   have hi : (M.b ||| 2 ^ (rdEv log k).i).testBit i = true := hi
   rw [or_bit, Bool.or_eq_true, decide_eq_true_eq] at hi
   rcases hi with hi | hi
   ·
    exact h.lt i hi
   ·
    omega
  ·
   have hi : (M.b ||| 2 ^ (rdEv log k).i).testBit i = true := hi
   rw [or_bit, Bool.or_eq_true, decide_eq_true_eq] at hi
   show 0 < k + 1 ∧ 0 ≤ (if i = (rdEv log k).i then (rdEv log k).f0 else M.bg i) ∧ (if i = (rdEv log k).i then (rdEv log k).f0 else M.bg i) ≤ (rdEv log k).f0
   by_cases he : i = (rdEv log k).i
   ·
    rw [if_pos he]
    omega
   ·
    rw [if_neg he]
    obtain ⟨a, b⟩ := hbt i (hi.resolve_right fun e => he e.symm)
    omega
  ·
   have hi : M.o.testBit i = true := hi
   show (if i = (rdEv log k).i then (rdEv log k).f0 else M.bg i) ≤ M.cl i ∧ M.cl i ≤ (rdEv log k).f0
   rw [if_neg (hnb i (h.sub i hi))]
   exact hct i hi
  ·
   have hi : (M.b ||| 2 ^ (rdEv log k).i).testBit i = true := hi
   rw [or_bit, Bool.or_eq_true, decide_eq_true_eq] at hi
   show M.o.testBit q = true ∧ M.cl q ≤ (if i = (rdEv log k).i then (rdEv log k).f0 else M.bg i)
   by_cases he : i = (rdEv log k).i
   ·
    rw [if_pos he]
    rw [he] at hq
    have hoq := diff_zero.1 m2 q hq
    exact ⟨hoq, (hct q hoq).2⟩
   ·
    rw [if_neg he]
    exact h.ned i (hi.resolve_right fun e => he e.symm) q hq
 ·
  unfold mayEnd at hm
  simp only [Bool.and_eq_true, Bool.not_eq_true', decide_eq_true_eq] at hm
  obtain ⟨⟨m1, m2⟩, m3⟩ := hm
  have hno : ∀ i, M.o.testBit i = true → i ≠ (rdEv log k).i := fun i hi e => by rw [e, m2] at hi; cases hi
  refine ⟨fun t now => ?_, fun i hi => ?_, h.lt, fun i hi => ?_, fun i hi => ?_, fun i hi q hq => ?_⟩
  ·
   show _ = if (M.o ||| 2 ^ (rdEv log k).i).testBit t = true ∧ (if t = (rdEv log k).i then (rdEv log k).f0 else M.cl t) ≤ now then _ else _
   unfold hits
   rw [h.hit t now, or_bit, e1, f2]
   by_cases he : t = (rdEv log k).i
   ·
    have h2 : M.o.testBit t = false := by rw [he]; exact m2
    rw [h2, if_neg (show ¬ (false = true ∧ M.cl t ≤ now) by simp), he]
    simp
   ·
    have h2 : ¬ (((rdEv log k).i : Nat) : Int) = (t : Int) := by omega
    have h3 : ¬ (rdEv log k).i = t := fun e => he e.symm
    simp [he, h2, h3]
  ·
   have hi : (M.o ||| 2 ^ (rdEv log k).i).testBit i = true := hi
   rw [or_bit, Bool.or_eq_true, decide_eq_true_eq] at hi
   rcases hi with hi | hi
   ·
    exact h.sub i hi
   ·
    rw [← hi]
    exact m1
  ·
   show 0 < k + 1 ∧ 0 ≤ M.bg i ∧ M.bg i ≤ (rdEv log k).f0
   obtain ⟨a, b⟩ := hbt i hi
   omega
  ·
   have hi : (M.o ||| 2 ^ (rdEv log k).i).testBit i = true := hi
   rw [or_bit, Bool.or_eq_true, decide_eq_true_eq] at hi
   show M.bg i ≤ (if i = (rdEv log k).i then (rdEv log k).f0 else M.cl i) ∧ (if i = (rdEv log k).i then (rdEv log k).f0 else M.cl i) ≤ (rdEv log k).f0
   by_cases he : i = (rdEv log k).i
   ·
    rw [if_pos he, he]
    have := htm (rdEv log k).i
    omega
   ·
    rw [if_neg he]
    exact hct i (hi.resolve_right fun e => he e.symm)
  ·
   show (M.o ||| 2 ^ (rdEv log k).i).testBit q = true ∧ (if q = (rdEv log k).i then (rdEv log k).f0 else M.cl q) ≤ M.bg i
   obtain ⟨a, b⟩ := h.ned i hi q hq
   rw [or_bit, a, if_neg (hno q a)]
   exact ⟨rfl, b⟩
theorem replay_hist {g : List Tk} {ns : List Nat} {log : List Ev} (htm : ∀ i, 0 ≤ (rdTk g i).f0) : ∀ (k : Nat) (p : Mach × Int), replayN g ns log k = some p → Hist g ns log k p.1
 | 0, p, h => by
  obtain rfl : (Mach.zero, (0 : Int)) = p := Option.some.inj h
  refine ⟨fun t now => ?_, fun i hi => ?_, fun i hi => ?_, fun i hi => ?_, fun i hi => ?_, fun i hi => ?_⟩
  ·
   simp [hits, Mach.zero]
  all_goals (exfalso; simp [Mach.zero] at hi)
 | k + 1, p, h => by
  unfold replayN at h
  obtain ⟨q, hq, h⟩ := Option.bind_eq_some_iff.1 h
  have ih := replay_hist htm k q hq
  split at h
  ·
   cases h
  ·
   rename_i ho
   obtain ⟨M', hM, rfl⟩ := Option.map_eq_some_iff.1 h
   exact ih.step htm (by simpa using ho) hM
theorem filter_range {P : Nat → Bool} {n : Nat} (h : ∀ i, P i = true → i < n) : ∀ d, (List.range (n + d)).filter P = (List.range n).filter P
 | 0 => rfl
 | d + 1 => by
  rw [← Nat.add_assoc, List.range_succ, List.filter_append, filter_range h d]
  have : P (n + d) = false := by
   cases hp : P (n + d) with
   | false => rfl
   | true => have := h _ hp; omega
  simp [this]
def doneP (M : Mach) (now : Int) (i : Nat) : Bool := M.o.testBit i && decide (M.cl i ≤ now)
theorem doneL_range {M : Mach} {n : Nat} (hn : n ≤ 16) (h : ∀ i, M.o.testBit i = true → i < n) (now : Int) : doneL M now = (List.range n).filter (doneP M now) := by
 unfold doneL elems
 rw [List.filter_filter, ← filter_range (P := doneP M now) (n := n) (fun i hi => h i (by unfold doneP at hi; rw [Bool.and_eq_true] at hi; exact hi.1)) (16 - n), show n + (16 - n) = 16 by omega]
 apply List.filter_congr
 intro i _
 unfold doneP
 rw [Bool.and_comm]
theorem doneS_eq {g : List Tk} {ns : List Nat} {log : List Ev} {M : Mach} (h : Hist g ns log log.length M) (now : Int) : ∀ t, doneS log now t = ints ((List.range t).filter (doneP M now))
 | 0 => rfl
 | t + 1 => by
  unfold doneS
  rw [doneS_eq h now t, h.hit t now, List.range_succ, List.filter_append]
  unfold ints
  rw [List.map_append]
  congr 1
  unfold doneP
  by_cases hc : M.o.testBit t = true ∧ M.cl t ≤ now
  ·
   rw [if_pos hc]
   simp [hc.1, hc.2]
  ·
   rw [if_neg hc]
   have : (M.o.testBit t && decide (M.cl t ≤ now)) = false := by
    cases hb : M.o.testBit t with
    | false => rfl
    | true => simp; exact Int.not_le.1 fun h2 => hc ⟨hb, h2⟩
   simp [this]
theorem ascB_ints {L : List Nat} (h : L.Pairwise (· < ·)) : ascB (ints L) = true := by
 unfold ascB
 rw [List.all_eq_true]
 intro j hj
 have hj := List.mem_range.1 hj
 rw [ints_length] at hj
 rw [decide_eq_true_eq, ints_getD, ints_getD, List.getD_eq_getElem?_getD, List.getD_eq_getElem?_getD, List.getElem?_eq_getElem (show j < L.length by omega), List.getElem?_eq_getElem (show j + 1 < L.length by omega)]
 have := List.pairwise_iff_getElem.1 h j (j + 1) (by omega) (by omega) (by omega)
 simp only [Option.getD_some]
 omega
theorem allInB_ints {L : List Nat} {n : Nat} (h : ∀ i ∈ L, i < n) : allInB (ints L) 0 ((n : Int) - 1) = true := by
 unfold allInB ints
 rw [List.all_map, List.all_eq_true]
 intro i hi
 have := h i hi
 exact inB_true.2 ⟨by simp, by simp; omega⟩
theorem doneN_ok {g : List Tk} {ns : List Nat} {log : List Ev} {M : Mach} (hg : graphN g = some ns) (h : Hist g ns log log.length M) (now : Int) : (doneN g (ints ((List.range g.length).filter (doneP M now)))).isSome = true := by
 generalize hL : (List.range g.length).filter (doneP M now) = L
 have hm : ∀ i, i ∈ L ↔ i < g.length ∧ doneP M now i = true := fun i => by rw [← hL, List.mem_filter, List.mem_range]
 have hp : L.Pairwise (· < ·) := by rw [← hL]; exact List.pairwise_lt_range.filter _
 have hs : (setOfN (ints L) g.length).isSome = true := by rw [setOfN_isSome, ascB_ints hp, allInB_ints fun i hi => ((hm i).1 hi).1]; rfl
 obtain ⟨s, hs⟩ := Option.isSome_iff_exists.1 hs
 have hb : ∀ j, s.testBit j = true ↔ j ∈ L := fun j => by rw [setOfN_bits hs, decide_eq_true_eq, mem_intsN]
 have hc : closedN ns s = true := by
  unfold closedN
  rw [List.all_eq_true]
  intro i hi
  unfold needsIn
  rw [decide_eq_true_eq, diff_zero]
  intro q hq
  obtain ⟨i1, i2⟩ := (hm i).1 ((hb i).1 (elems_bit hi))
  unfold doneP at i2
  rw [Bool.and_eq_true, decide_eq_true_eq] at i2
  obtain ⟨q1, q2⟩ := h.ned i (h.sub i i2.1) q hq
  have q3 := (h.clt i i2.1).1
  refine (hb q).2 ((hm q).2 ⟨h.lt q (h.sub q q1), ?_⟩)
  unfold doneP
  rw [q1, decide_eq_true (show M.cl q ≤ now by omega)]
  rfl
 rw [graph_some_lt hg hs, if_pos hc]
 rfl
end Go.Proofs.YtlapphhcficbjaaGreatDoor
