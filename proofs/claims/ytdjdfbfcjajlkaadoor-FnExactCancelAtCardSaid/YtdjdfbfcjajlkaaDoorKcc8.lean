/- Parts of the proof, laid as one text by a program of mine. -/
import Derived.Test.YtdjdfbfcjajlkaaDoorKcc7
import Derived.BigRegion
import Derived.Test.YtdjdfbfcjajlkaaDoorProg
import Derived.Below
import Derived.Deep.Draws
import Derived.Deep.AppendLies
import Derived.Maps.AppendAt
import Derived.OwnWalk
import Derived.Laws.BytesArg
import Derived.Laws.MakeOwn
import Derived.Laws.OwnMore
import Derived.Deep.OwnRows
import Derived.Tactics
import Derived.Lib.ConvBytes
import Derived.Laws.Slices
import Derived.WalkKit
import Derived.KernelRfl
import Derived.RowKit3
import Derived.Deep.LoopGhost
import Derived.Deep.QuietTactic
import Derived.BigQuiet
import Derived.WideLaws
import Derived.Deep.DeepCutAuto
import Derived.Deep.CutBlock
import Derived.Deep.RegionHeld3
import Derived.Laws.Rows
import Derived.Lib.AppendStr
import Derived.ArgAppend
import Derived.Laws.IdiomCopy
import Derived.OrdersHeld
import Derived.Laws.BitsLemmas
import Derived.RowKit
import Derived.Test.YtdjdfbfcjajlkaaDoorKcc1
import Derived.Test.YtdjdfbfcjajlkaaDoorKcc2
namespace Go.Proofs.YtdjdfbfcjajlkaaDoor
set_option linter.unusedVariables false
set_option linter.unusedSimpArgs false
open Go.RowKit Go.Shelf Bits
open Go.Proofs.YtdjdfbfcjajlkaaDoorW.PrintWords Go.Proofs.YtdjdfbfcjajlkaaDoorW.PrintLast Go.Proofs.YtdjdfbfcjajlkaaDoorW.PrintMore
def RankAt (W : World) (h : Nat) (B : Option Nat) (T : List Int) (L : List Nat) : Prop :=
 ∃ At ct v, W.heap[h]? = some (.cells #[.slice At T.length ct, v] 128 (0, 0)) ∧ (Kd.int .i64).C W At T.length T ∧ (∀ ad, At = some ad → 0 < T.length → ad.block < h) ∧
  Kd.R (Kd.int .i64) 3 W (h + 1) (fun _ => True) v (ints L) ∧ v.ownBlock = B
theorem RankAt.move {w w' : World} {h : Nat} {B : Option Nat} {T : List Int} {L : List Nat} (hR : RankAt w h B T L) (hm : ∀ k, k < w.heap.size → k ≤ h ∨ some k = B → w'.heap[k]? = w.heap[k]?) : RankAt w' h B T L := by
 obtain ⟨At, ct, v, h1, h3, h4, h5, h6⟩ := hR
 refine ⟨At, ct, v, (hm h (blk_lt h1) (.inl (Nat.le_refl _))).trans h1, C_block h3 fun ad e hn => hm _ ?_ (.inl (Nat.le_of_lt (h4 ad e hn))), h4, Kd.R_mono (Kd.R_step (Kd.R_tight rfl h5) fun k hk hlt => hm k hlt (.inr (hk.trans h6))) (fun _ _ => trivial), h6⟩
 exact Nat.lt_trans (h4 ad e hn) (blk_lt h1)
theorem RankAt.drewN {W : World} {h : Nat} {B : Option Nat} {T : List Int} {L : List Nat} (hR : RankAt W h B T L) (q : Nat) : RankAt (W.drewN q) h B T L := hR.move fun _ _ _ => rfl
theorem RankAt.below {w w' : World} {h : Nat} {B : Option Nat} {T : List Int} {L : List Nat} (hR : RankAt w h B T L) (hb : Below w.heap.size w w') : RankAt w' h B T L := hR.move fun k hk _ => hb.block k hk
theorem RankAt.lt {w : World} {h : Nat} {B : Option Nat} {T : List Int} {L : List Nat} (hR : RankAt w h B T L) : h < w.heap.size := by
 obtain ⟨At, ct, v, h1, _⟩ := hR
 exact blk_lt h1
theorem rd_ints (L : List Nat) (i : Nat) : rdOf (0 : Int) (ints L) (i : Int) = ((L.getD i 0 : Nat) : Int) := by
 unfold rdOf
 rw [Int.toNat_natCast, ints_getD]
theorem drew3 (w : World) (a b c : Nat) : ∃ q, ((w.drewN a).drewN b).drewN c = w.drewN q := ⟨a + b + c, by rw [World.drewN_drewN, World.drewN_drewN, Nat.add_assoc]⟩
set_option maxRecDepth 1000000 in
set_option maxHeartbeats 2000000 in
theorem Less_calls (h : Nat) (B : Option Nat) (T : List Int) (L : List Nat) (i k : Nat) (hi : i < L.length) (hk : k < L.length) (hT : ∀ x ∈ L, x < T.length) (w : World) (hR : RankAt w h B T L) :
  Calls Tryd.prog 170 #[.pointer (some ⟨h, 0, none⟩), .int .i64 i, .int .i64 k] w fun e w' => e = .returned (.bool (lessB T (L.getD i 0) (L.getD k 0))) ∧ ∃ q, w' = w.drewN q := by
 obtain ⟨At, ct, v, hB, hCT, hAT, hRL, hvB⟩ := hR
 obtain ⟨b, cap, rfl, _, _, _⟩ := Kd.R_form hRL (by rw [ints_length]; omega)
 have ci := (Kd.R_cell (0 : Int) hRL i (by omega) (by rw [ints_length]; omega)).1
 have ck := (Kd.R_cell (0 : Int) hRL k (by omega) (by rw [ints_length]; omega)).1
 rw [rd_ints, Int.toNat_natCast] at ci ck
 have hl := ints_length L
 have h0 := blk_cell hB 0
 have h1 := blk_cell hB 1
 simp at h0 h1
 have ha : L.getD i 0 < T.length := hT _ (by rw [List.getD_eq_getElem?_getD, List.getElem?_eq_getElem hi]; exact List.getElem_mem _)
 have hb : L.getD k 0 < T.length := hT _ (by rw [List.getD_eq_getElem?_getD, List.getElem?_eq_getElem hk]; exact List.getElem_mem _)
 have HE : Hid (∀ a b, lessB T a b = if T.getD a 0 ≠ T.getD b 0 then decide (T.getD a 0 > T.getD b 0) else decide (a < b)) := Lib.hid fun _ _ => rfl
 generalize L.getD i 0 = x at ci ha ⊢
 generalize L.getD k 0 = y at ck hb ⊢
 obtain ⟨ad, rfl, cx⟩ := at_num hCT x ha
 obtain ⟨ad', e', cy⟩ := at_num hCT y hb
 obtain rfl : ad = ad' := Option.some.inj e'
 have HE2 := Lib.hid (HE.out x y)
 generalize T.getD x 0 = p at cx HE2
 generalize T.getD y 0 = q at cy HE2
 rw [hl] at h1
 generalize L.length = n at hi hk h1
 generalize T.length = m at ha hb h0
 have hi' : (i : Int) < n := by omega
 have hk' : (k : Int) < n := by omega
 have hx' : (x : Int) < m := by omega
 have hy' : (y : Int) < m := by omega
 generalize lessB T x y = r at HE2 ⊢
 clear hB hCT hAT hRL hvB hT hl HE e' hi hk ha hb
 by_cases hpq : p = q
 ·
  have hd : (p != q) = false := by rw [hpq]; simp
  have HR2 : Hid (decide (x < y) = r) := Lib.hid (by rw [HE2.out, if_neg (by simp [hpq])])
  clear HE2 hpq
  go_enter Tryd.func170, Tryd.ntmps170
  go_wp2
  go_quiet (fail)
  go_wp2
  go_quiet (fail)
  go_wp2
  go_ret
  exact ⟨ret_bool HR2.out, _, rfl⟩
 ·
  have hd : (p != q) = true := by simp [hpq]
  have HR2 : Hid (decide (p > q) = r) := Lib.hid (by rw [HE2.out, if_pos hpq])
  clear HE2 hpq
  go_enter Tryd.func170, Tryd.ntmps170
  go_wp2
  go_quiet (fail)
  go_wp2
  go_quiet (fail)
  go_wp2
  go_quiet (fail)
  go_wp2
  go_ret
  exact ⟨ret_bool HR2.out, drew3 _ _ _ _⟩
theorem ints_set (L : List Nat) (i x : Nat) : ints (L.set i x) = (ints L).set i (x : Int) := by simp [ints, List.map_set]
set_option maxRecDepth 1000000 in
set_option maxHeartbeats 4000000 in
theorem Swap_cells (h b cap n : Nat) (vt : Value) (x y : Int) (i k : Nat) (hi : i < n) (hk : k < n) (w : World) (hB : w.heap[h]? = some (.cells #[vt, .slice (some ⟨b, 0, none⟩) n cap] 128 (0, 0)))
  (ci : w.cell? ⟨b, i, none⟩ = some (.int .i64 x)) (ck : w.cell? ⟨b, k, none⟩ = some (.int .i64 y)) (fi : w.frozen? ⟨b, i, none⟩ = false) (fk : w.frozen? ⟨b, k, none⟩ = false) (hhb : h ≠ b) :
  Calls Tryd.prog 173 #[.pointer (some ⟨h, 0, none⟩), .int .i64 i, .int .i64 k] w fun e w' => e = .returned (.tuple #[]) ∧ ∃ q, w' = ((w.setCell ⟨b, i, none⟩ (.int .i64 y)).setCell ⟨b, k, none⟩ (.int .i64 x)).drewN q := by
 obtain ⟨v', hy'⟩ := cell?_setCell_some (w := w) (p := ⟨b, i, none⟩) (x := .int .i64 y) (q := ⟨b, k, none⟩) ck
 have h1 := blk_cell hB 1
 simp at h1
 have hi' : (i : Int) < n := by omega
 have hk' : (k : Int) < n := by omega
 clear hB hi hk
 go_enter Tryd.func173, Tryd.ntmps173
 go_wp2
 go_region
 all_goals (try go_wp2)
 all_goals go_end0
 all_goals exact ⟨rfl, 1, rfl⟩
theorem Swap_calls (h : Nat) (B : Option Nat) (T : List Int) (L : List Nat) (i k : Nat) (hi : i < L.length) (hk : k < L.length) (w : World) (hR : RankAt w h B T L) :
  Calls Tryd.prog 173 #[.pointer (some ⟨h, 0, none⟩), .int .i64 i, .int .i64 k] w fun e w' => e = .returned (.tuple #[]) ∧ RankAt w' h B T (swapL L i k) ∧ KeepBut w w' h B ∧ Below h w w' := by
 obtain ⟨At, ct, v, hB, hCT, hAT, hRL, hvB⟩ := hR
 have hl := ints_length L
 obtain ⟨b, cap, rfl, hb1, hb2, _⟩ := Kd.R_form hRL (by omega)
 obtain ⟨ci, fi⟩ := Kd.R_cell (0 : Int) hRL i (by omega) (by omega)
 obtain ⟨ck, fk⟩ := Kd.R_cell (0 : Int) hRL k (by omega) (by omega)
 rw [rd_ints, Int.toNat_natCast] at ci ck
 rw [Int.toNat_natCast] at fi fk
 have hbB : B = some b := by rw [← hvB]; simp [Value.ownBlock]
 have hhb : h ≠ b := by omega
 refine (Swap_cells h b cap (ints L).length _ _ _ i k (by omega) (by omega) w hB ci ck fi fk hhb).mono ?_
 rintro e w' ⟨rfl, q, rfl⟩
 obtain ⟨p1, g1⟩ := Kd.R_put hRL (i : Int) ((L.getD k 0 : Nat) : Int)
 rw [Int.toNat_natCast] at p1 g1
 have e1 : (ints L).length = ((ints L).set i ((L.getD k 0 : Nat) : Int)).length := by simp
 rw [e1] at p1
 obtain ⟨p2, g2⟩ := Kd.R_put p1 (k : Int) ((L.getD i 0 : Nat) : Int)
 rw [Int.toNat_natCast] at p2 g2
 refine ⟨rfl, ⟨At, ct, _, blk_far (blk_far hB hhb _) hhb _, C_block hCT fun ad e hn => ?_, hAT, ?_, hvB⟩, ?_, ?_⟩
 ·
  have := hAT ad e hn
  exact (Below.heap_setCell _ _ _ _ (by simp; omega)).trans (Below.heap_setCell _ _ _ _ (by simp; omega))
 ·
  unfold swapL
  rw [ints_set, ints_set]
  rw [← e1] at p2
  exact Kd.R_drewN p2 q
 ·
  rw [hbB]
  exact (KeepBut.of_grown g1 h).trans (KeepBut.of_grown g2 h) (.inl rfl)
 ·
  exact pw_below_drewN (((Below.refl h w).setCell (p := ⟨b, i, none⟩) (by simp; omega) _).setCell (p := ⟨b, k, none⟩) (by simp; omega) _) q
theorem mLess (h : Nat) : ∀ w, Sem.run Tryd.prog (method 287 126 (.pointer (some ⟨h, 0, none⟩)) "Less") w = .ok (170, .pointer (some ⟨h, 0, none⟩)) w := fun _ => by kernel_rfl
theorem mSwap (h : Nat) : ∀ w, Sem.run Tryd.prog (method 287 126 (.pointer (some ⟨h, 0, none⟩)) "Swap") w = .ok (173, .pointer (some ⟨h, 0, none⟩)) w := fun _ => by kernel_rfl
set_option maxRecDepth 1000000 in
set_option maxHeartbeats 4000000 in
theorem up_calls (h : Nat) (B : Option Nat) (T : List Int) (L : List Nat) (j : Nat) (hj : j < L.length) (h16 : L.length ≤ 1000) (hT : ∀ x ∈ L, x < T.length) (w : World) (hR : RankAt w h B T L) :
  Calls Tryd.prog 133 #[.iface 126 (.pointer (some ⟨h, 0, none⟩)), .int .i64 j] w fun e w' => e = .returned (.tuple #[]) ∧ RankAt w' h B T (upL T (j + 1) L j) ∧ KeepBut w w' h B ∧ Below h w w' := by
 have mL := mLess h
 have mS := mSwap h
 have HT := Lib.hid hT
 have HJ := Lib.hid hj
 have HRR := Lib.hid hR
 clear hR hT hj
 go_enter Tryd.func133, Tryd.ntmps133
 go_wp2
 go_loopw [1] (fun v wr => ∃ (i c : Nat) (M : List Nat), v = .int .i64 i ∧ i < c ∧ i < M.length ∧ Hid (M.length = L.length ∧ (∀ x ∈ M, x < T.length) ∧ upL T c M i = upL T (j + 1) L j ∧ RankAt wr h B T M ∧ KeepBut w wr h B ∧ Below h w wr)) (fun v _ => (intOf v).toNat)
 case atStart => exact ⟨j, j + 1, L, rfl, by omega, HJ.out, Lib.hid ⟨rfl, HT.out, rfl, HRR.out, KeepBut.refl _ _ _, Below.refl _ _⟩⟩
 case round =>
  obtain ⟨i, c, M, rfl, hic, hiM, HX⟩ := hrel
  obtain ⟨c, rfl⟩ : ∃ c', c = c' + 1 := ⟨c - 1, by omega⟩
  have hM := HX.out.1
  have hq : ((i : Int) - 1).tdiv 2 = (((i - 1) / 2 : Nat) : Int) := by
   cases i with
   | zero => rfl
   | succ n =>
    rw [show ((n + 1 : Nat) : Int) - 1 = ((n : Nat) : Int) by omega]
    rfl
  by_cases h0 : (i - 1) / 2 = i
  ·
   obtain rfl : i = 0 := by omega
   go_wp2
   go_end0
   have hE : upL T (c + 1) M 0 = M := by unfold upL; rw [if_pos (.inl rfl)]
   obtain ⟨_, _, e, hR, hK, hB⟩ := HX.out
   rw [← e, hE]
   exact ⟨rfl, hR, hK, hB⟩
  ·
   have hi0 : 0 < i := by omega
   have hpi : (i - 1) / 2 < i := by omega
   have hne : ((((i - 1) / 2 : Nat) : Int) == (i : Int)) = false := by rw [beq_eq_false_iff_ne]; omega
   generalize hp : (i - 1) / 2 = p at *
   have HLess := Lib.hid (fun (W : World) (hW : RankAt W h B T M) => Less_calls h B T M i p hiM (by omega) HX.out.2.1 W hW)
   cases hl : lessB T (M.getD i 0) (M.getD p 0) with
   | false =>
    rw [hl] at HLess
    go_wp2_with (go_at_call 170; refine (HLess.out _ HX.out.2.2.2.1).mono ?_; rintro e w' ⟨rfl, q, rfl⟩)
    go_end0
    have hE : upL T (c + 1) M i = M := by unfold upL; rw [hp, if_pos (.inr hl)]
    obtain ⟨_, _, e, hR, hK, hB⟩ := HX.out
    rw [← e, hE]
    exact ⟨rfl, hR.drewN _, keep_drewN hK _, pw_below_drewN hB _⟩
   | true =>
    rw [hl] at HLess
    have HSwap := Lib.hid (fun (W : World) (hW : RankAt W h B T M) => Swap_calls h B T M p i (by omega) hiM W hW)
    have hE : upL T (c + 1) M i = upL T c (swapL M p i) p := by
     conv => lhs; unfold upL
     rw [hp, hl, if_neg (fun h => h.elim (fun h => absurd h (by omega)) (fun h => by cases h))]
    have HE := Lib.hid hE
    clear hE hl
    go_wp2_with (first | (go_at_call 170; refine (HLess.out _ HX.out.2.2.2.1).mono ?_; rintro e w' ⟨rfl, q, rfl⟩) | (go_at_call 173; refine (HSwap.out _ (HX.out.2.2.2.1.drewN q)).mono ?_; rintro e w2 ⟨rfl, hR2, hK2, hB2⟩))
    go_roundw
    case rel =>
     obtain ⟨x1, x2, x3, x4, x5, x6⟩ := HX.out
     exact ⟨p, c, swapL M p i, rfl, by omega, by rw [length_swapL]; omega, Lib.hid ⟨by rw [length_swapL]; exact x1, fun x hx => x2 x (mem_swapL (by omega) hiM hx), by rw [← x3, HE.out], hR2, (keep_drewN x5 q).trans hK2 (.inl rfl), (pw_below_drewN x6 q).trans hB2⟩⟩
    case measure => simp [intOf]; omega
end Go.Proofs.YtdjdfbfcjajlkaaDoor

namespace Go.Proofs.YtdjdfbfcjajlkaaDoor
set_option linter.unusedVariables false
set_option linter.unusedSimpArgs false
open Go.RowKit Go.Shelf Bits
open Go.Proofs.YtdjdfbfcjajlkaaDoorW.PrintWords Go.Proofs.YtdjdfbfcjajlkaaDoorW.PrintLast Go.Proofs.YtdjdfbfcjajlkaaDoorW.PrintMore
set_option maxRecDepth 1000000 in
set_option maxHeartbeats 8000000 in
theorem down_calls (h : Nat) (B : Option Nat) (T : List Int) (L : List Nat) (i0 n c0 : Nat) (hn : n ≤ L.length) (hi : i0 < L.length) (hc : n ≤ i0 + c0) (h16 : L.length ≤ 1000) (hT : ∀ x ∈ L, x < T.length) (w : World) (hR : RankAt w h B T L) :
  Calls Tryd.prog 134 #[.iface 126 (.pointer (some ⟨h, 0, none⟩)), .int .i64 i0, .int .i64 n] w fun e w' => ∃ b, e = .returned (.bool b) ∧ RankAt w' h B T (downL T c0 L i0 n) ∧ KeepBut w w' h B ∧ Below h w w' := by
 have mL := mLess h
 have mS := mSwap h
 have HT := Lib.hid hT
 have HN := Lib.hid hn
 have HI := Lib.hid hi
 have HC := Lib.hid hc
 have HRR := Lib.hid hR
 clear hR hT hn hi hc
 go_enter Tryd.func134, Tryd.ntmps134
 go_wp2
 go_loopw [7] (fun v wr => ∃ (i c : Nat) (M : List Nat), v = .int .i64 i ∧ n ≤ i + c ∧ i < M.length ∧ Hid (M.length = L.length ∧ (∀ x ∈ M, x < T.length) ∧ downL T c M i n = downL T c0 L i0 n ∧ RankAt wr h B T M ∧ KeepBut w wr h B ∧ Below h w wr)) (fun v _ => n - (intOf v).toNat)
 case atStart => exact ⟨i0, c0, L, rfl, HC.out, HI.out, Lib.hid ⟨rfl, HT.out, rfl, HRR.out, KeepBut.refl _ _ _, Below.refl _ _⟩⟩
 case round =>
  obtain ⟨i, c, M, rfl, hic, hiM, HX⟩ := hrel
  have hM := HX.out.1
  have hnL := HN.out
  by_cases h1 : 2 * i + 1 < n
  ·
   obtain ⟨c, rfl⟩ : ∃ c', c = c' + 1 := ⟨c - 1, by omega⟩
   have e1 : ((2 * i + 1 : Nat) : Int) = 2 * (i : Int) + 1 := by omega
   have e2 : ((2 * i + 2 : Nat) : Int) = 2 * (i : Int) + 1 + 1 := by omega
   have d1 : decide (2 * (i : Int) + 1 ≥ (n : Int)) = false := decide_eq_false (by omega)
   have d0 : decide (2 * (i : Int) + 1 < 0) = false := decide_eq_false (by omega)
   by_cases h2 : 2 * i + 2 < n
   ·
    have d2 : decide (2 * (i : Int) + 1 + 1 < (n : Int)) = true := decide_eq_true (by omega)
    cases hl1 : lessB T (M.getD (2 * i + 2) 0) (M.getD (2 * i + 1) 0) with
    | true =>
     cases hl2 : lessB T (M.getD (2 * i + 2) 0) (M.getD i 0) with
     | false =>
      have hch : childL T M i n = 2 * i + 2 := by unfold childL; rw [if_pos ⟨h2, hl1⟩]
      have L1 := Lib.hid (fun (W : World) (hW : RankAt W h B T M) => Less_calls h B T M (2 * i + 2) (2 * i + 1) (by omega) (by omega) HX.out.2.1 W hW)
      rw [hl1, e2, e1] at L1
      have L2 := Lib.hid (fun (W : World) (hW : RankAt W h B T M) => Less_calls h B T M (2 * i + 2) i (by omega) (by omega) HX.out.2.1 W hW)
      rw [hl2, e2] at L2
      have HE : Hid (downL T (c + 1) M i n = M) := Lib.hid (by
       conv => lhs; unfold downL
       rw [if_neg (by omega), hch, hl2]
       rfl)
      have R0 := HX.out.2.2.2.1
      clear hl1 hl2 hch
      go_wp2_with (first | (go_at_call 170; with_reducible refine (L1.out _ R0).mono ?_; rintro e w' ⟨rfl, q1, rfl⟩; have R1 := R0.drewN q1) | (go_at_call 170; with_reducible refine (L2.out _ R1).mono ?_; rintro e w' ⟨rfl, q2, rfl⟩; have R2 := R0.drewN (q1 + q2)))
      go_ret
      obtain ⟨_, _, x3, _, x5, x6⟩ := HX.out
      rw [← x3, HE.out]
      exact ⟨_, rfl, R2, keep_drewN x5 _, pw_below_drewN x6 _⟩
     | true =>
      have hch : childL T M i n = 2 * i + 2 := by unfold childL; rw [if_pos ⟨h2, hl1⟩]
      have L1 := Lib.hid (fun (W : World) (hW : RankAt W h B T M) => Less_calls h B T M (2 * i + 2) (2 * i + 1) (by omega) (by omega) HX.out.2.1 W hW)
      rw [hl1, e2, e1] at L1
      have L2 := Lib.hid (fun (W : World) (hW : RankAt W h B T M) => Less_calls h B T M (2 * i + 2) i (by omega) (by omega) HX.out.2.1 W hW)
      rw [hl2, e2] at L2
      have SW := Lib.hid (fun (W : World) (hW : RankAt W h B T M) => Swap_calls h B T M i (2 * i + 2) (by omega) (by omega) W hW)
      rw [e2] at SW
      have HE : Hid (downL T (c + 1) M i n = downL T c (swapL M i (2 * i + 2)) (2 * i + 2) n) := Lib.hid (by
       conv => lhs; unfold downL
       rw [if_neg (by omega), hch, hl2]
       rfl)
      have R0 := HX.out.2.2.2.1
      clear hl1 hl2 hch
      go_wp2_with (first | (go_at_call 170; with_reducible refine (L1.out _ R0).mono ?_; rintro e w' ⟨rfl, q1, rfl⟩; have R1 := R0.drewN q1) | (go_at_call 170; with_reducible refine (L2.out _ R1).mono ?_; rintro e w' ⟨rfl, q2, rfl⟩; have R2 := R0.drewN (q1 + q2)) | (go_at_call 173; with_reducible refine (SW.out _ R2).mono ?_; rintro e w2 ⟨rfl, hR2, hK2, hB2⟩))
      go_roundw
      case rel =>
       obtain ⟨x1, x2, x3, x4, x5, x6⟩ := HX.out
       exact ⟨2 * i + 2, c, swapL M i (2 * i + 2), by go_num, by omega, by rw [length_swapL]; omega, Lib.hid ⟨by rw [length_swapL]; exact x1, fun x hx => x2 x (mem_swapL (by omega) (by omega) hx), by rw [← x3, HE.out], hR2, (keep_drewN x5 (q1 + q2)).trans hK2 (.inl rfl), (pw_below_drewN x6 (q1 + q2)).trans hB2⟩⟩
      case measure => simp [intOf]; omega
    | false =>
     cases hl2 : lessB T (M.getD (2 * i + 1) 0) (M.getD i 0) with
     | false =>
      have hch : childL T M i n = 2 * i + 1 := by unfold childL; rw [if_neg (fun h => by rw [hl1] at h; exact absurd h.2 (by decide))]
      have L1 := Lib.hid (fun (W : World) (hW : RankAt W h B T M) => Less_calls h B T M (2 * i + 2) (2 * i + 1) (by omega) (by omega) HX.out.2.1 W hW)
      rw [hl1, e2, e1] at L1
      have L2 := Lib.hid (fun (W : World) (hW : RankAt W h B T M) => Less_calls h B T M (2 * i + 1) i (by omega) (by omega) HX.out.2.1 W hW)
      rw [hl2, e1] at L2
      have HE : Hid (downL T (c + 1) M i n = M) := Lib.hid (by
       conv => lhs; unfold downL
       rw [if_neg (by omega), hch, hl2]
       rfl)
      have R0 := HX.out.2.2.2.1
      clear hl1 hl2 hch
      go_wp2_with (first | (go_at_call 170; with_reducible refine (L1.out _ R0).mono ?_; rintro e w' ⟨rfl, q1, rfl⟩; have R1 := R0.drewN q1) | (go_at_call 170; with_reducible refine (L2.out _ R1).mono ?_; rintro e w' ⟨rfl, q2, rfl⟩; have R2 := R0.drewN (q1 + q2)))
      go_ret
      obtain ⟨_, _, x3, _, x5, x6⟩ := HX.out
      rw [← x3, HE.out]
      exact ⟨_, rfl, R2, keep_drewN x5 _, pw_below_drewN x6 _⟩
     | true =>
      have hch : childL T M i n = 2 * i + 1 := by unfold childL; rw [if_neg (fun h => by rw [hl1] at h; exact absurd h.2 (by decide))]
      have L1 := Lib.hid (fun (W : World) (hW : RankAt W h B T M) => Less_calls h B T M (2 * i + 2) (2 * i + 1) (by omega) (by omega) HX.out.2.1 W hW)
      rw [hl1, e2, e1] at L1
      have L2 := Lib.hid (fun (W : World) (hW : RankAt W h B T M) => Less_calls h B T M (2 * i + 1) i (by omega) (by omega) HX.out.2.1 W hW)
      rw [hl2, e1] at L2
      have SW := Lib.hid (fun (W : World) (hW : RankAt W h B T M) => Swap_calls h B T M i (2 * i + 1) (by omega) (by omega) W hW)
      rw [e1] at SW
      have HE : Hid (downL T (c + 1) M i n = downL T c (swapL M i (2 * i + 1)) (2 * i + 1) n) := Lib.hid (by
       conv => lhs; unfold downL
       rw [if_neg (by omega), hch, hl2]
       rfl)
      have R0 := HX.out.2.2.2.1
      clear hl1 hl2 hch
      go_wp2_with (first | (go_at_call 170; with_reducible refine (L1.out _ R0).mono ?_; rintro e w' ⟨rfl, q1, rfl⟩; have R1 := R0.drewN q1) | (go_at_call 170; with_reducible refine (L2.out _ R1).mono ?_; rintro e w' ⟨rfl, q2, rfl⟩; have R2 := R0.drewN (q1 + q2)) | (go_at_call 173; with_reducible refine (SW.out _ R2).mono ?_; rintro e w2 ⟨rfl, hR2, hK2, hB2⟩))
      go_roundw
      case rel =>
       obtain ⟨x1, x2, x3, x4, x5, x6⟩ := HX.out
       exact ⟨2 * i + 1, c, swapL M i (2 * i + 1), by go_num, by omega, by rw [length_swapL]; omega, Lib.hid ⟨by rw [length_swapL]; exact x1, fun x hx => x2 x (mem_swapL (by omega) (by omega) hx), by rw [← x3, HE.out], hR2, (keep_drewN x5 (q1 + q2)).trans hK2 (.inl rfl), (pw_below_drewN x6 (q1 + q2)).trans hB2⟩⟩
      case measure => simp [intOf]; omega
   ·
    have d2 : decide (2 * (i : Int) + 1 + 1 < (n : Int)) = false := decide_eq_false (by omega)
    cases hl2 : lessB T (M.getD (2 * i + 1) 0) (M.getD i 0) with
    | false =>
     have hch : childL T M i n = 2 * i + 1 := by unfold childL; rw [if_neg (fun h => h2 h.1)]
     have L2 := Lib.hid (fun (W : World) (hW : RankAt W h B T M) => Less_calls h B T M (2 * i + 1) i (by omega) (by omega) HX.out.2.1 W hW)
     rw [hl2, e1] at L2
     have HE : Hid (downL T (c + 1) M i n = M) := Lib.hid (by
      conv => lhs; unfold downL
      rw [if_neg (by omega), hch, hl2]
      rfl)
     have R0 := HX.out.2.2.2.1
     clear hl2 hch
     go_wp2_with (go_at_call 170; with_reducible refine (L2.out _ R0).mono ?_; rintro e w' ⟨rfl, q2, rfl⟩; have R2 := R0.drewN q2)
     go_ret
     obtain ⟨_, _, x3, _, x5, x6⟩ := HX.out
     rw [← x3, HE.out]
     exact ⟨_, rfl, R2, keep_drewN x5 _, pw_below_drewN x6 _⟩
    | true =>
     have hch : childL T M i n = 2 * i + 1 := by unfold childL; rw [if_neg (fun h => h2 h.1)]
     have L2 := Lib.hid (fun (W : World) (hW : RankAt W h B T M) => Less_calls h B T M (2 * i + 1) i (by omega) (by omega) HX.out.2.1 W hW)
     rw [hl2, e1] at L2
     have SW := Lib.hid (fun (W : World) (hW : RankAt W h B T M) => Swap_calls h B T M i (2 * i + 1) (by omega) (by omega) W hW)
     rw [e1] at SW
     have HE : Hid (downL T (c + 1) M i n = downL T c (swapL M i (2 * i + 1)) (2 * i + 1) n) := Lib.hid (by
      conv => lhs; unfold downL
      rw [if_neg (by omega), hch, hl2]
      rfl)
     have R0 := HX.out.2.2.2.1
     clear hl2 hch
     go_wp2_with (first | (go_at_call 170; with_reducible refine (L2.out _ R0).mono ?_; rintro e w' ⟨rfl, q2, rfl⟩; have R2 := R0.drewN q2) | (go_at_call 173; with_reducible refine (SW.out _ R2).mono ?_; rintro e w2 ⟨rfl, hR2, hK2, hB2⟩))
     go_roundw
     case rel =>
      obtain ⟨x1, x2, x3, x4, x5, x6⟩ := HX.out
      exact ⟨2 * i + 1, c, swapL M i (2 * i + 1), by go_num, by omega, by rw [length_swapL]; omega, Lib.hid ⟨by rw [length_swapL]; exact x1, fun x hx => x2 x (mem_swapL (by omega) (by omega) hx), by rw [← x3, HE.out], hR2, (keep_drewN x5 q2).trans hK2 (.inl rfl), (pw_below_drewN x6 q2).trans hB2⟩⟩
     case measure => simp [intOf]; omega
  ·
   have d1 : decide (2 * (i : Int) + 1 ≥ (n : Int)) = true := decide_eq_true (by omega)
   have HE : Hid (downL T c M i n = M) := Lib.hid (by
    cases c with
    | zero => rfl
    | succ c =>
     unfold downL
     rw [if_pos (by omega)])
   go_wp2
   go_ret
   obtain ⟨_, _, x3, x4, x5, x6⟩ := HX.out
   rw [← x3, HE.out]
   exact ⟨_, rfl, x4, x5, x6⟩
end Go.Proofs.YtdjdfbfcjajlkaaDoor

namespace Go.Proofs.YtdjdfbfcjajlkaaDoor.PFnValidLog
open Go.RowKit Go.Proofs.YtdjdfbfcjajlkaaDoorW.PrintWords Go.Proofs.YtdjdfbfcjajlkaaDoorW.PrintLast Go.Proofs.YtdjdfbfcjajlkaaDoorW.PrintMore
attribute [local go_sem] max2_int min2_int max_two min_two max_three min_three max_four min_four
set_option linter.unusedVariables false
set_option linter.unusedSimpArgs false
def errW : Option Int → Value
  | none => .nilIface
  | some c => .iface 0 (.int .i64 c)
theorem errW_none : errW none = .nilIface := rfl
theorem errW_some (c : Int) : errW (some c) = .iface 0 (.int .i64 c) := rfl

theorem info3 : (Tryd.prog.info? 3).map (fun i => (i.zero, i.size, i.bytes)) = some (some (.int .i64 0), 1, 8) := by kernel_rfl
theorem info5 : (Tryd.prog.info? 5).map (fun i => (i.zero, i.size, i.bytes)) = some (some (.int .u8 0), 1, 1) := by kernel_rfl
theorem info58 : (Tryd.prog.info? 58).map (fun i => (i.zero, i.size, i.bytes)) = some (some (.agg #[(.int .i64 0), (.slice none 0 0), (.int .i64 0), (.int .i64 0)]), 4, 48) := by kernel_rfl
-- the values' own types
def rd_L1 (xs : List (List Int)) (i : Int) : (List Int) := xs.getD i.toNat ([] : List Int)
theorem at_L1 {w : World} {A : Option Addr} {n : Nat} {xs : List (List Int)} (h : Kd.C (Kd.slice 3 (Kd.int .i64)) w A n xs) (i : Int) (h0 : 0 ≤ i) (h1 : i < n) : ∃ ad A0 c0, A = some ad ∧ w.cell? (ad.add i.toNat) = some (.slice A0 (rd_L1 xs i).length c0) ∧ (rd_L1 xs i).length ≤ c0 ∧ (Kd.int .i64).C w A0 (rd_L1 xs i).length (rd_L1 xs i) := by
  obtain ⟨ad, c, e, _, hK, hc0⟩ := Kd.C_get h ([] : List Int) i h0 h1
  have hc : ∀ j u, c[j]? = some u → w.cell? (ad.add (i.toNat * 1 + j)) = some u := hc0
  obtain ⟨A0, c0, rfl, l0, g0⟩ := hK
  exact ⟨ad, A0, c0, e, by have hq := hc 0 _ rfl; rwa [Nat.mul_one, Nat.add_zero] at hq, l0, g0⟩

/-! #### struct type 41 -/
abbrev S41 := Tk
def z41 : S41 := ⟨(0 : Int), ([] : List Int), (0 : Int), (0 : Int)⟩
def k41 : Kd S41 := Kd.iso (Kd.pair (Kd.int .i64) (Kd.pair (Kd.slice 3 (Kd.int .i64)) (Kd.pair (Kd.int .i64) (Kd.int .i64)))) (fun x : S41 => (x.f0, x.f1, x.f2, x.f3))
theorem k41_open {w : World} {x : S41} {cs : List Value} (h : k41.K w x cs) : ∃ A1 c1, cs = [.int .i64 x.f0, .slice A1 x.f1.length c1, .int .i64 x.f2, .int .i64 x.f3] ∧ x.f1.length ≤ c1 ∧ (Kd.int .i64).C w A1 x.f1.length x.f1 := by
  obtain ⟨_, _, rfl, rfl, ⟨_, _, rfl, ⟨A1, c1, rfl, l1, g1⟩, ⟨_, _, rfl, rfl, rfl⟩⟩⟩ := h
  exact ⟨A1, c1, rfl, l1, g1⟩
theorem k41_openM {w : World} {base : Nat} {ok : Nat → Prop} {x : S41} {cs : List Value} (h : k41.M w base ok x cs) : ∃ v1, cs = [.int .i64 x.f0, v1, .int .i64 x.f2, .int .i64 x.f3] ∧ (Kd.int .i64).R 3 w base ok v1 x.f1 := by
  obtain ⟨_, _, rfl, rfl, ⟨_, _, rfl, ⟨v1, rfl, g1⟩, ⟨_, _, rfl, rfl, rfl⟩⟩⟩ := h
  exact ⟨v1, rfl, g1⟩
theorem k41_mk (w : World) (x : S41) {A1 : Option Addr} {c1 : Nat} (l1 : x.f1.length ≤ c1) (g1 : (Kd.int .i64).C w A1 x.f1.length x.f1) : k41.K w x [.int .i64 x.f0, .slice A1 x.f1.length c1, .int .i64 x.f2, .int .i64 x.f3] := ⟨[.int .i64 x.f0], [.slice A1 x.f1.length c1, .int .i64 x.f2, .int .i64 x.f3], rfl, rfl, ⟨[.slice A1 x.f1.length c1], [.int .i64 x.f2, .int .i64 x.f3], rfl, ⟨A1, c1, rfl, l1, g1⟩, ⟨[.int .i64 x.f2], [.int .i64 x.f3], rfl, rfl, rfl⟩⟩⟩
theorem k41_mkM (w : World) (base : Nat) (ok : Nat → Prop) (x : S41) {v1 : Value} (g1 : (Kd.int .i64).R 3 w base ok v1 x.f1) : k41.M w base ok x [.int .i64 x.f0, v1, .int .i64 x.f2, .int .i64 x.f3] := ⟨[.int .i64 x.f0], [v1, .int .i64 x.f2, .int .i64 x.f3], rfl, rfl, ⟨[v1], [.int .i64 x.f2, .int .i64 x.f3], rfl, ⟨v1, rfl, g1⟩, ⟨[.int .i64 x.f2], [.int .i64 x.f3], rfl, rfl, rfl⟩⟩⟩
theorem k41_openF {W : World} {ok : Nat → Prop} {x : S41} {cs : List Value} (h : Kd.FK k41 W ok x cs) : ∃ A1 c1, cs = [.int .i64 x.f0, .slice A1 x.f1.length c1, .int .i64 x.f2, .int .i64 x.f3] ∧ x.f1.length ≤ c1 ∧ Kd.F (Kd.int .i64) W ok A1 x.f1.length x.f1 := by
  obtain ⟨A1, c1, rfl, l1, _⟩ := k41_open (Kd.FK_now h)
  exact ⟨A1, c1, rfl, l1, (fun W' hW => by obtain ⟨A1_, c1_, he, l1_, g1_⟩ := k41_open (h W' hW); injection (Option.some.inj (show some (Value.slice A1 x.f1.length c1) = some (Value.slice A1_ x.f1.length c1_) from congrArg (fun l => l[1]?) he)) with ha_ _ _; rw [ha_]; exact g1_)⟩
theorem k41_mkF (W : World) (ok : Nat → Prop) (x : S41) {A1 : Option Addr} {c1 : Nat} (l1 : x.f1.length ≤ c1) (g1 : Kd.F (Kd.int .i64) W ok A1 x.f1.length x.f1) : Kd.FK k41 W ok x [.int .i64 x.f0, .slice A1 x.f1.length c1, .int .i64 x.f2, .int .i64 x.f3] := fun W2 hW => k41_mk W2 x l1 (g1 W2 hW)
def rd_T41 (xs : List S41) (i : Int) : S41 := xs.getD i.toNat z41
theorem at_T41 {w : World} {A : Option Addr} {n : Nat} {xs : List S41} (h : Kd.C k41 w A n xs) (i : Int) (h0 : 0 ≤ i) (h1 : i < n) : ∃ ad A1 c1, A = some ad ∧ w.cell? (ad.add (i.toNat * 4)) = some (.int .i64 (rd_T41 xs i).f0) ∧ w.cell? ⟨(ad.add (i.toNat * 4)).block, (ad.add (i.toNat * 4)).off + 1, none⟩ = some (.slice A1 (rd_T41 xs i).f1.length c1) ∧ w.cell? ⟨(ad.add (i.toNat * 4)).block, (ad.add (i.toNat * 4)).off + 2, none⟩ = some (.int .i64 (rd_T41 xs i).f2) ∧ w.cell? ⟨(ad.add (i.toNat * 4)).block, (ad.add (i.toNat * 4)).off + 3, none⟩ = some (.int .i64 (rd_T41 xs i).f3) ∧ (rd_T41 xs i).f1.length ≤ c1 ∧ (Kd.int .i64).C w A1 (rd_T41 xs i).f1.length (rd_T41 xs i).f1 := by
  obtain ⟨ad, c, e, _, hK, hc0⟩ := Kd.C_get h z41 i h0 h1
  have hc : ∀ j u, c[j]? = some u → w.cell? (ad.add (i.toNat * 4 + j)) = some u := hc0
  obtain ⟨A1, c1, rfl, l1, g1⟩ := k41_open hK
  exact ⟨ad, A1, c1, e, hc 0 _ rfl, by rw [← add_field _ _ 1 (by omega)]; exact hc 1 _ rfl, by rw [← add_field _ _ 2 (by omega)]; exact hc 2 _ rfl, by rw [← add_field _ _ 3 (by omega)]; exact hc 3 _ rfl, l1, g1⟩

theorem od_ {p : Prop} [Decidable p] (h : decide p = true) : p := of_decide_eq_true h
theorem mk0 {p : Prop} (h : p) : Aside0 p := ⟨h⟩
theorem Ra_ {α : Type} {d : Kd α} {e base : Nat} {w : World} {ok : Nat → Prop} {v : Value} {xs : List α} (h : Kd.R d e w base ok v xs) (o : Obj) : Kd.R d e (w.alloc o) base ok v xs := Kd.R_alloc h o
theorem Rn_ {α : Type} {d : Kd α} {e base : Nat} {w : World} {ok : Nat → Prop} {v : Value} {xs : List α} (h : Kd.R d e w base ok v xs) (m : Nat) : Kd.R d e (w.drewN m) base ok v xs := Kd.R_drewN h m
theorem Rd_ {α : Type} {d : Kd α} {e base : Nat} {w : World} {ok : Nat → Prop} {v : Value} {xs : List α} (h : Kd.R d e w base ok v xs) : Kd.R d e w.drew base ok v xs := Kd.R_drew h
theorem Sa_ {α : Type} {d : Kd α} {e base : Nat} {w : World} {ok : Nat → Prop} {v : Value} {xs : List α} (h : Kd.S d e w base ok v xs) (o : Obj) : Kd.S d e (w.alloc o) base ok v xs := Kd.S_alloc h o
theorem Sn_ {α : Type} {d : Kd α} {e base : Nat} {w : World} {ok : Nat → Prop} {v : Value} {xs : List α} (h : Kd.S d e w base ok v xs) (m : Nat) : Kd.S d e (w.drewN m) base ok v xs := Kd.S_drewN h m
theorem Sd_ {α : Type} {d : Kd α} {e base : Nat} {w : World} {ok : Nat → Prop} {v : Value} {xs : List α} (h : Kd.S d e w base ok v xs) : Kd.S d e w.drew base ok v xs := Kd.S_drew h
theorem Na_ {α : Type} {d : Kd α} {e base : Nat} {w : World} {ok : Nat → Prop} {v : Value} {xs : List α} (h : Kd.N d e w base ok v xs) (o : Obj) : Kd.N d e (w.alloc o) base ok v xs := Kd.N_alloc h o
theorem Nn_ {α : Type} {d : Kd α} {e base : Nat} {w : World} {ok : Nat → Prop} {v : Value} {xs : List α} (h : Kd.N d e w base ok v xs) (m : Nat) : Kd.N d e (w.drewN m) base ok v xs := Kd.N_drewN h m
theorem Nd_ {α : Type} {d : Kd α} {e base : Nat} {w : World} {ok : Nat → Prop} {v : Value} {xs : List α} (h : Kd.N d e w base ok v xs) : Kd.N d e w.drew base ok v xs := Kd.N_drew h
theorem Qa_ {α : Type} {d : Kd α} {e base : Nat} {w : World} {ok : Nat → Prop} {v : Value} {xs : List α} (h : Kd.Q d e w base ok v xs) (o : Obj) : Kd.Q d e (w.alloc o) base ok v xs := Kd.Q_alloc h o
theorem Qn_ {α : Type} {d : Kd α} {e base : Nat} {w : World} {ok : Nat → Prop} {v : Value} {xs : List α} (h : Kd.Q d e w base ok v xs) (m : Nat) : Kd.Q d e (w.drewN m) base ok v xs := Kd.Q_drewN h m
theorem Qd_ {α : Type} {d : Kd α} {e base : Nat} {w : World} {ok : Nat → Prop} {v : Value} {xs : List α} (h : Kd.Q d e w base ok v xs) : Kd.Q d e w.drew base ok v xs := Kd.Q_drew h
theorem Va_ {α : Type} {d : Kd α} {e base : Nat} {w : World} {ok : Nat → Prop} {v : Value} {xs : List α} (h : Kd.V d e w base ok v xs) (o : Obj) : Kd.V d e (w.alloc o) base ok v xs := Kd.V_alloc h o
theorem Vn_ {α : Type} {d : Kd α} {e base : Nat} {w : World} {ok : Nat → Prop} {v : Value} {xs : List α} (h : Kd.V d e w base ok v xs) (m : Nat) : Kd.V d e (w.drewN m) base ok v xs := Kd.V_drewN h m
theorem Vd_ {α : Type} {d : Kd α} {e base : Nat} {w : World} {ok : Nat → Prop} {v : Value} {xs : List α} (h : Kd.V d e w base ok v xs) : Kd.V d e w.drew base ok v xs := Kd.V_drew h
theorem ba_ {w W : World} (h : Below w.heap.size w W) (o : Obj) : Below w.heap.size w (W.alloc o) := below_alloc h o
theorem bn_ {B : Nat} {w W : World} (h : Below B w W) (n : Nat) : Below B w (W.drewN n) := pw_below_drewN h n
theorem bd_ {base : Nat} {w W : World} (h : Below base w W) : Below base w W.drew := below_drew1 h
theorem kn_ {w W : World} {g : Nat} {row : Option Nat} (h : KeepBut w W g row) (m : Nat) : KeepBut w (W.drewN m) g row := keep_drewN h m
theorem kd_ {w W : World} {g : Nat} {row : Option Nat} (h : KeepBut w W g row) : KeepBut w W.drew g row := keep_drew h
theorem ka_ {w W : World} {g : Nat} (h : KeepBut w W g none) (o : Obj) : KeepBut w (W.alloc o) g none := keep_alloc h o
theorem ks_ {w W : World} {g : Nat} {row : Option Nat} (h : KeepBut w W g row) (j : Nat) (u : Value) : KeepBut w (W.setCell ⟨g, j, none⟩ u) g row := KeepBut.set_ h j u
theorem Ca_ {α : Type} {d : Kd α} {w : World} {A : Option Addr} {n : Nat} {xs : List α} (h : Kd.C d w A n xs) (o : Obj) : Kd.C d (w.alloc o) A n xs := Kd.C_alloc h o
theorem Cn_ {α : Type} {d : Kd α} {w : World} {A : Option Addr} {n : Nat} {xs : List α} (h : Kd.C d w A n xs) (m : Nat) : Kd.C d (w.drewN m) A n xs := Kd.C_drewN h m
theorem Cd_ {α : Type} {d : Kd α} {w : World} {A : Option Addr} {n : Nat} {xs : List α} (h : Kd.C d w A n xs) : Kd.C d w.drew A n xs := Kd.C_drew h
theorem bE_ {α β : Type} {o : Option α} {f : α → Option β} {r : β} (h : o.bind f = some r) : ∃ a, o = some a ∧ f a = some r := Option.bind_eq_some_iff.mp h
theorem nn_ {α : Type} {r : α} {P : Prop} (h : none = some r) : P := by cases h
end Go.Proofs.YtdjdfbfcjajlkaaDoor.PFnValidLog
