/- spec.admit, walked by hand; its plain function in the form that print.sh prints for this seat. -/
import Derived.Test.YtpmfghbjkampkaaDoorQ3
import Derived.Deep.QuietTactic
import Derived.BigQuiet
namespace Go.Proofs.YtpmfghbjkampkaaDoor.PFnValidLog
set_option linter.unusedVariables false
set_option linter.unusedSimpArgs false
open Go Go.RowKit Go.Shelf
open Go.Proofs.YtpmfghbjkampkaaDoorW.PrintWords Go.Proofs.YtpmfghbjkampkaaDoorW.PrintLast Go.Proofs.YtpmfghbjkampkaaDoorW.PrintMore
mutual
def spec_admit.l0 : Nat → List (S41) → List Int → List Int → Int → List Int → List Int → Int → Option (List Int)
 | 0, _, _, _, _, _, _, _ => none
 | k + 1, x0, x1, x3, x4, x11, x12, x13 => if x13 < (x3.length : Int) then (spec_admit.j1 k x0 x1 x3 x4 x11 x12 x13 (decide ((x12.length : Int) < x4))) else (spec_admit.j1 k x0 x1 x3 x4 x11 x12 x13 false)
def spec_admit.j1 : Nat → List (S41) → List Int → List Int → Int → List Int → List Int → Int → Bool → Option (List Int)
 | 0, _, _, _, _, _, _, _, _ => none
 | k + 1, x0, x1, x3, x4, x11, x12, x13, x27 => if x27 = true then (if 0 ≤ x13 then (if x13 < (x3.length : Int) then (if 0 ≤ (rd x3 x13) then (if (rd x3 x13) < (x0.length : Int) then ((spec_used.f k x0 x12 ((rd_T41 x0 (rd x3 x13)).f2)).bind fun t328 => (if 0 ≤ ((rd_T41 x0 (rd x3 x13)).f2) then (if ((rd_T41 x0 (rd x3 x13)).f2) < (x1.length : Int) then (if (wrap64 (t328 + ((rd_T41 x0 (rd x3 x13)).f3))) ≤ (rd x1 ((rd_T41 x0 (rd x3 x13)).f2)) then (if x11.length < 17592186044416 then (if x12.length < 17592186044416 then (spec_admit.l0 k x0 x1 x3 x4 (x11 ++ [rd x3 x13]) (x12 ++ [rd x3 x13]) (wrap64 (x13 + 1))) else (none)) else (none)) else (spec_admit.l0 k x0 x1 x3 x4 x11 x12 (wrap64 (x13 + 1)))) else (none)) else (none))) else (none)) else (none)) else (none)) else (none)) else (some x11)
end
def spec_admit.f (k : Nat) (l0 : List (S41)) (l1 : List Int) (l2 : List Int) (l3 : List Int) (a4 : Int) : Option (List Int) := (spec_copyInts.f l2).bind fun t322 => (spec_admit.l0 k l0 l1 l3 a4 (([] : List Int)) t322 0)
theorem if_some {β : Type} {c : Prop} [Decidable c] {x : Option β} {r : β} (h : (if c then x else none) = some r) : c ∧ x = some r := by
 split at h
 ·
  exact ⟨by assumption, h⟩
 ·
  cases h
section
variable {ops : Array Oper} {o : Oper} {rest : List Oper} {a : Act} {Q : Exit → Act → World → Prop} {w0 W : World}
theorem ap_long (base : Nat) (hgd : o.guard = none) (s x : Operand) (ho : o.op = .call { callee := .builtin .append, args := #[s, x], argTypes := #[23, 23] })
  (v : Value) (xs : List Int) (y : Int) (hs : a.eval s = v) {N : Nat} (hx : a.eval x = .slice (some ⟨N, 0, none⟩) 1 1) (hN : N = W.heap.size)
  (HO : Kd.R (Kd.int .i64) 3 W base (fun _ => True) v xs) (HB : Below base w0 W) (hbase : base ≤ W.heap.size) (hl : xs.length < 17592186044416)
  (h : ∀ v1 w1, Kd.R (Kd.int .i64) 3 w1 base (fun _ => True) v1 (xs ++ [y]) → Below base w0 w1 → W.grownBy w1 v.ownBlock → (v1.ownBlock = v.ownBlock ∨ ∃ b, v1.ownBlock = some b ∧ W.heap.size ≤ b) → wpList Tryd.prog ops Q rest (a.put o.dst v1) w1) :
  wpList Tryd.prog ops Q (o :: rest) a (W.alloc (.cells #[.int .i64 y] 3)) :=
 print_append_num base hgd s x 23 3 .i64 8 ho Tryd.underlying23 infoInt (by decide) v xs y hs (hN ▸ hx) (Kd.own_of_R HO) HB hbase (by omega)
  fun v1 w1 hown hB hg hat => h v1 w1 (Kd.R_of_own hown (fun _ _ => trivial)) hB hg hat
end
theorem keep_row {W w1 : World} {base : Nat} {u v : Value} {xs : List Int} (h : Kd.R (Kd.int .i64) 3 W base (fun _ => True) u xs) (hg : W.grownBy w1 v.ownBlock) (hne : v.ownBlock ≠ u.ownBlock) : Kd.R (Kd.int .i64) 3 w1 base (fun _ => True) u xs :=
 Kd.R_mono (Kd.R_grown (Kd.R_tight rfl h) hg fun _ hk e => hne (e.symm.trans hk)) fun _ _ => trivial
theorem keep_apart {W : World} {base : Nat} {u v v1 : Value} {xs : List Int} (h : Kd.R (Kd.int .i64) 3 W base (fun _ => True) u xs) (hat : v1.ownBlock = v.ownBlock ∨ ∃ b, v1.ownBlock = some b ∧ W.heap.size ≤ b) (hne : v.ownBlock ≠ u.ownBlock) : v1.ownBlock ≠ u.ownBlock := by
 rcases hat with e | ⟨b, e, hb⟩
 ·
  rw [e]
  exact hne
 ·
  intro e2
  rw [e] at e2
  have := Kd.R_lt h b e2.symm
  omega
theorem at_again {w W : World} {ad : Addr} {n : Nat} {xs : List Int} (h : (Kd.int .i64).C w (some ad) n xs) (hb : Below w.heap.size w W) (j : Nat) (hj : j < n) : W.cell? (ad.add j) = some (.int .i64 (xs.getD j 0)) := by
 obtain ⟨ad', e, hc⟩ := at_num (Kd.C_below h hb) j hj
 cases e
 exact hc
set_option maxHeartbeats 8000000 in
set_option maxRecDepth 100000 in
theorem spec_admit.calls (k : Nat) (A0 : Option Addr) (c0 : Nat) (l0 : List (S41)) (A1 : Option Addr) (c1 : Nat) (l1 : List Int) (A2 : Option Addr) (c2 : Nat) (l2 : List Int) (A3 : Option Addr) (c3 : Nat) (l3 : List Int) (a4 : Int) (r : List Int) (w : World) (hr0 : Kd.C k41 w A0 l0.length l0) (hc0 : l0.length ≤ c0) (hr1 : Kd.C (Kd.int .i64) w A1 l1.length l1) (hc1 : l1.length ≤ c1) (hr2 : Kd.C (Kd.int .i64) w A2 l2.length l2) (hc2 : l2.length ≤ c2) (hr3 : Kd.C (Kd.int .i64) w A3 l3.length l3) (hc3 : l3.length ≤ c3) (h : spec_admit.f k l0 l1 l2 l3 a4 = some r) :
  Calls Tryd.prog 87 #[.slice A0 l0.length c0, .slice A1 l1.length c1, .slice A2 l2.length c2, .slice A3 l3.length c3, .int .i64 a4] w fun e w' => ∃ v0_ : Value, e = .returned (v0_) ∧ Kd.R (Kd.int .i64) 3 w' w.heap.size (fun _ => True) v0_ r ∧ Below w.heap.size w w' := by
 have hl3 := (C_len hr3).2
 have HR0 := Lib.hid hr0
 have HR1 := Lib.hid hr1
 have HR2 := Lib.hid hr2
 have HR3 := Lib.hid hr3
 have HC0 := Lib.hid hc0
 unfold spec_admit.f at h
 obtain ⟨nl, hcp, h⟩ := Option.bind_eq_some_iff.1 h
 have HCP := Lib.hid hcp
 have H := Lib.hid h
 have HC2 := Lib.hid hc2
 clear hr0 hr1 hr2 hr3 hcp h hc0 hc1 hc2 hc3
 go_enter Tryd.func87, Tryd.ntmps87
 go_wp2_with (go_at_call 105; refine (spec_copyInts.calls A2 c2 l2 nl _ (Kd.C_below HR2.out ((Below.refl _ w).alloc (Nat.le_refl _) _)) HC2.out HCP.out).mono ?_; rintro e w1 ⟨vn, rfl, hN, hB1⟩)
 have hO0 : Kd.R (Kd.int .i64) 3 (w.alloc (.cells #[] 3)) w.heap.size (fun _ => True) (.slice (some ⟨w.heap.size, 0, none⟩) 0 0) [] := Kd.R_of_own (World.ownsRow_lit (base := w.heap.size) (size := 1) w #[] 0 (Nat.le_refl _) (by simp [maxLen]) rfl) (fun _ _ => trivial)
 have hO := Kd.R_below hO0 hB1
 have hNB := Kd.R_base hN
 have hN2 := Kd.R_lower hN (show w.heap.size ≤ (w.alloc (.cells #[] 3)).heap.size by simp)
 have hB : Below w.heap.size w w1 := ((Below.refl _ w).alloc (Nat.le_refl _) _).trans (hB1.mono (by simp))
 have hap : (Value.slice (some ⟨w.heap.size, 0, none⟩) 0 0).ownBlock ≠ vn.ownBlock := fun e => by
  have := hNB w.heap.size (by rw [← e]; simp [Value.ownBlock])
  simp at this
  omega
 clear hO0 hNB hN hB1
 go_loopw [11, 12, 13] (fun o n i wr => ∃ (kk : Nat) (out now : List Int) (j : Nat), j ≤ l3.length ∧ i = .int .i64 j ∧ Hid (spec_admit.l0 kk l0 l1 l3 a4 out now j = some r) ∧ Kd.R (Kd.int .i64) 3 wr w.heap.size (fun _ => True) o out ∧ Kd.R (Kd.int .i64) 3 wr w.heap.size (fun _ => True) n now ∧ o.ownBlock ≠ n.ownBlock ∧ Below w.heap.size w wr) (fun _ _ i _ => l3.length - (intOf i).toNat)
 case atStart => exact ⟨k, [], nl, 0, Nat.zero_le _, rfl, H, hO, hN2, hap, hB⟩
 case round =>
  clear hO hN2 hap hB
  obtain ⟨kk, out, now, j, hj, rfl, HK, hO, hN, hap, hB⟩ := hrel
  have H := HK.out
  clear HK
  cases kk with
  | zero => cases H
  | succ kk =>
  rw [spec_admit.l0] at H
  obtain ⟨An, cn, rfl, hcn, hCn⟩ := Kd.R_reads hN
  cases kk with
  | zero => split at H <;> cases H
  | succ kk =>
  by_cases hjl : j < l3.length
  ·
   rw [if_pos (by omega)] at H
   by_cases hnw : (now.length : Int) < a4
   ·
    rw [decide_eq_true hnw, spec_admit.j1, if_pos rfl] at H
    obtain ⟨_, H⟩ := if_some H
    obtain ⟨_, H⟩ := if_some H
    obtain ⟨g1, H⟩ := if_some H
    obtain ⟨g2, H⟩ := if_some H
    obtain ⟨u, hu, H⟩ := Option.bind_eq_some_iff.1 H
    obtain ⟨g3, H⟩ := if_some H
    obtain ⟨g4, H⟩ := if_some H
    have HU := Lib.hid hu
    have H := Lib.hid H
    clear hu
    have dn : decide ((now.length : Int) < a4) = true := decide_eq_true hnw
    obtain ⟨ad, rfl, cx⟩ := at_num (Kd.C_below HR3.out hB) j hjl
    have er : rd l3 (j : Int) = l3.getD j 0 := rfl
    rw [er] at g1 g2 HU g3 g4 H
    have HXM : Hid (l3.getD j 0 = l3.getD j 0) := Lib.hid rfl
    generalize hxm : l3.getD j 0 = x at cx g1 g2 HU g3 g4 H
    clear HXM
    obtain ⟨m, rfl⟩ := Int.eq_ofNat_of_zero_le g1
    have HXM := Lib.hid hxm
    clear hxm er
    have hm : m < l0.length := by omega
    obtain ⟨ad0, B1, d1, rfl, hx0, hx1, hx2, hx3, hl1, hC1⟩ := at_Tk (Kd.C_below HR0.out hB) m hm
    have et : rd_T41 l0 (m : Int) = rdTk l0 m := rfl
    rw [et] at HU g3 g4 H
    generalize rdTk l0 m = t at *
    obtain ⟨t0, t1, t2, t3⟩ := t
    dsimp only at HU g3 g4 H hx0 hx1 hx2 hx3 hl1 hC1
    obtain ⟨p, rfl⟩ := Int.eq_ofNat_of_zero_le g3
    have hpl : p < l1.length := by omega
    obtain ⟨ad1, rfl, cr⟩ := at_num (Kd.C_below HR1.out hB) p hpl
    have er1 : rd l1 (p : Int) = l1.getD p 0 := rfl
    rw [er1] at H
    generalize hzm : l1.getD p 0 = z at cr H
    have HZM := Lib.hid hzm
    clear hzm
    have hjl' : (j : Int) < (l3.length : Int) := by omega
    have hpl' : (p : Int) < (l1.length : Int) := by omega
    have hw1 : IntKind.i64.wrap ((j : Int) + 1) = (j : Int) + 1 := IntWalk.i64_in _ (by omega)
    have hwj : wrap64 ((j : Int) + 1) = (j : Int) + 1 := by have q := hw1; rw [IntKind.wrap_i64] at q; unfold wrap64; exact q
    have HCC := Lib.hid hcn
    have HG := Lib.hid (And.intro hO (And.intro hN (And.intro hap hB)))
    have hd64 : ∀ n : Int, wrap64 n = IntKind.i64.wrap n := fun n => by unfold wrap64; rw [IntKind.wrap_i64]
    have hc2 : wr.cell? ⟨(ad0.add (m * 4)).block, (ad0.add (m * 4)).off + 2, none⟩ = some (.int .i64 (p : Int)) := hx2
    clear hO hN hap hCn hcn hC1 hl1 g1 et er1 hc2
    by_cases hle : wrap64 (u + t3) ≤ z
    ·
     have H := H.out
     rw [if_pos hle] at H
     obtain ⟨g5, H⟩ := if_some H
     obtain ⟨g6, H⟩ := if_some H
     rw [hwj] at H
     have HF := Lib.hid H
     have hle2 : decide (IntKind.i64.wrap (u + t3) ≤ z) = true := by rw [← hd64]; exact decide_eq_true hle
     have hle3 : decide (wrap64 (u + t3) ≤ z) = true := decide_eq_true hle
     have hle4 : (wrap64 (u + t3) ≤ z) = True := eq_true hle
     clear H hle hd64 hwj
     go_wp2
     obtain ⟨w3, hw3⟩ : ∃ w3, w3 = wr.alloc (.cells #[.int .i64 t0, .slice B1 t1.length d1, .int .i64 (p : Int), .int .i64 t3] 58) := ⟨_, rfl⟩
     have hB3' : Below wr.heap.size wr w3 := by rw [hw3]; exact (Below.refl _ wr).alloc (Nat.le_refl _) _
     have b2 : w3.cell? ⟨wr.heap.size, 2, none⟩ = some (.int .i64 (p : Int)) := by rw [hw3]; simp
     have b3 : w3.cell? ⟨wr.heap.size, 3, none⟩ = some (.int .i64 t3) := by rw [hw3]; simp
     rw [← hw3]
     clear hw3
     have hB3 : Below w.heap.size w w3 := hB.trans (hB3'.mono hB.size)
     have cr3 := at_again HR1.out hB3 p hpl
     have cx3 := at_again HR3.out hB3 j hjl
     rw [HXM.out] at cx3
     rw [HZM.out] at cr3
     have hCN := (Kd.R_reads' (Kd.R_below HG.out.2.1 hB3')).2.2
     have HB3' := Lib.hid hB3'
     go_quiet ((go_at_call 113; exact Calls.quiet_of ((spec_used.calls kk _ _ l0 _ _ now (p : Int) u _ (Kd.C_drewN (Kd.C_below HR0.out hB3) _) HC0.out (Kd.C_drewN hCN _) HCC.out HU.out).mono fun e w' h => ⟨h.1, h.2.out⟩)))
     have hO4 := Kd.R_drewN (Kd.R_below HG.out.1 HB3'.out) nq
     have hN4 := Kd.R_drewN (Kd.R_below HG.out.2.1 HB3'.out) nq
     have hB4 := pw_below_drewN hB3 nq
     have HR3' := Lib.hid (fun (W : World) (hW : Below w.heap.size w W) => at_again HR3.out hW j hjl)
     rw [HXM.out] at HR3'
     go_wp2_with (at_builtin; first | (refine ap_long (w0 := w) w.heap.size rfl _ _ rfl u11 out (m : Int) rfl rfl rfl hO4 hB4 hB4.size g5 ?_; intro v1 w5 hO5 hB5 hg5 hat5; have hN5 := keep_row hN4 hg5 HG.out.2.2.1; have hap5 := keep_apart hN4 hat5 HG.out.2.2.1; have cx5 := HR3'.out _ hB5) | (refine ap_long (w0 := w) w.heap.size rfl _ _ rfl (.slice An now.length cn) now (m : Int) rfl rfl rfl hN5 hB5 hB5.size g6 ?_; intro v2 w6 hN6 hB6 hg6 hat6))
     go_roundw
     case rel => exact ⟨kk, out ++ [(m : Int)], now ++ [(m : Int)], j + 1, by omega, by go_num, HF, keep_row hO5 hg6 (fun e => hap5 e.symm), hN6, fun e => keep_apart hO5 hat6 (fun e => hap5 e.symm) e.symm, hB6⟩
     case measure => simp [intOf]; omega
    ·
     have H := H.out
     rw [if_neg hle] at H
     rw [hwj] at H
     have HF := Lib.hid H
     have hle2 : decide (IntKind.i64.wrap (u + t3) ≤ z) = false := by rw [← hd64]; exact decide_eq_false hle
     have hle3 : decide (wrap64 (u + t3) ≤ z) = false := decide_eq_false hle
     have hle4 : (wrap64 (u + t3) ≤ z) = False := eq_false hle
     clear H hle hd64 hwj
     go_wp2
     obtain ⟨w3, hw3⟩ : ∃ w3, w3 = wr.alloc (.cells #[.int .i64 t0, .slice B1 t1.length d1, .int .i64 (p : Int), .int .i64 t3] 58) := ⟨_, rfl⟩
     have hB3' : Below wr.heap.size wr w3 := by rw [hw3]; exact (Below.refl _ wr).alloc (Nat.le_refl _) _
     have b2 : w3.cell? ⟨wr.heap.size, 2, none⟩ = some (.int .i64 (p : Int)) := by rw [hw3]; simp
     have b3 : w3.cell? ⟨wr.heap.size, 3, none⟩ = some (.int .i64 t3) := by rw [hw3]; simp
     rw [← hw3]
     clear hw3
     have hB3 : Below w.heap.size w w3 := hB.trans (hB3'.mono hB.size)
     have cr3 := at_again HR1.out hB3 p hpl
     have cx3 := at_again HR3.out hB3 j hjl
     rw [HXM.out] at cx3
     rw [HZM.out] at cr3
     have hCN := (Kd.R_reads' (Kd.R_below HG.out.2.1 hB3')).2.2
     have HB3' := Lib.hid hB3'
     go_quiet ((go_at_call 113; exact Calls.quiet_of ((spec_used.calls kk _ _ l0 _ _ now (p : Int) u _ (Kd.C_drewN (Kd.C_below HR0.out hB3) _) HC0.out (Kd.C_drewN hCN _) HCC.out HU.out).mono fun e w' h => ⟨h.1, h.2.out⟩)))
     go_wp2
     go_roundw
     case rel => exact ⟨kk, out, now, j + 1, by omega, by go_num, HF, Kd.R_drewN (Kd.R_below HG.out.1 HB3'.out) _, Kd.R_drewN (Kd.R_below HG.out.2.1 HB3'.out) _, HG.out.2.2.1, pw_below_drewN hB3 _⟩
     case measure => simp [intOf]; omega
   ·
    have dn : decide ((now.length : Int) < a4) = false := decide_eq_false hnw
    rw [dn, spec_admit.j1, if_neg (by simp)] at H
    obtain rfl := Option.some.inj H
    go_wp2
    go_ret
    exact ⟨_, rfl, hO, hB⟩
  ·
   rw [if_neg (by omega), spec_admit.j1, if_neg (by simp)] at H
   obtain rfl := Option.some.inj H
   have dj : decide ((j : Int) < (l3.length : Int)) = false := decide_eq_false (by omega)
   go_wp2
   go_ret
   exact ⟨_, rfl, hO, hB⟩
end Go.Proofs.YtpmfghbjkampkaaDoor.PFnValidLog
