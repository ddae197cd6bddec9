/- Parts of the proof, laid as one text by a program of mine. -/
import Derived.Test.YtlapphhcficbjaaGreatDoorKhc6
import Derived.Test.YtlapphhcficbjaaGreatDoorKhc8
import Derived.Test.YtlapphhcficbjaaGreatDoorKhc5
import Derived.Test.YtlapphhcficbjaaGreatDoorKhc4
import Derived.Test.YtlapphhcficbjaaGreatDoorKhc2
import Derived.BigRegion
namespace Go.Proofs.YtlapphhcficbjaaGreatDoor
set_option linter.unusedVariables false
set_option linter.unusedSimpArgs false
open Go.RowKit Go.Shelf Bits
open Go.Proofs.YtlapphhcficbjaaGreatDoorW.PrintWords Go.Proofs.YtlapphhcficbjaaGreatDoorW.PrintLast Go.Proofs.YtlapphhcficbjaaGreatDoorW.PrintMore
open PFnValidLog
theorem admN_cnt {g : List Tk} (hg : TOk g) (rm : List Int) (wk : Int) (r : List Nat) (l : List Nat) : ∀ j, j ≤ l.length → (admN g rm wk (cnt g r) (l.take j)).1 = cnt g (r ++ (admN g rm wk (cnt g r) (l.take j)).2)
 | 0, _ => by simp [admN]
 | j + 1, hj => by
  have h1 := admN_cnt hg rm wk r l j (by omega)
  rw [List.take_succ_eq_append_getElem (by omega), admN_snoc]
  generalize admN g rm wk (cnt g r) (l.take j) = st at h1
  unfold admStep
  split
  ·
   show st.1.add _ _ 1 = cnt g (r ++ (st.2 ++ [l[j]]))
   rw [← List.append_assoc, cnt_snoc (p := (rdTk g l[j]).f2.toNat) _ (by have := hg.2.2.1 l[j]; omega), h1]
  ·
   exact h1
theorem admFold_full {g : List Tk} (rm : List Int) {wk : Int} {st : Ct × List Nat} (h : wk ≤ st.1.t) : ∀ l : List Nat, l.foldl (admStep g rm wk) st = st
 | [] => rfl
 | i :: l => by
  have e : admStep g rm wk st i = st := by
   unfold admStep Ct.can
   rw [decide_eq_false (by omega), Bool.false_and]
   rfl
  rw [List.foldl_cons, e]
  exact admFold_full rm h l
theorem admN_full {g : List Tk} (rm : List Int) {wk : Int} (c : Ct) (l : List Nat) (j : Nat) (h : wk ≤ (admN g rm wk c (l.take j)).1.t) : admN g rm wk c l = admN g rm wk c (l.take j) := by
 conv => lhs; rw [← List.take_append_drop j l]
 unfold admN at h ⊢
 rw [List.foldl_append]
 exact admFold_full rm h _
theorem admN_sub (g : List Tk) (rm : List Int) (wk : Int) (c : Ct) (l : List Nat) : ∀ j, j ≤ l.length → ∀ i ∈ (admN g rm wk c (l.take j)).2, i ∈ l
 | 0, _ => by simp [admN]
 | j + 1, hj => by
  have h1 := admN_sub g rm wk c l j (by omega)
  rw [List.take_succ_eq_append_getElem (by omega), admN_snoc]
  unfold admStep
  split
  ·
   intro i hi
   rcases List.mem_append.1 hi with h | h
   ·
    exact h1 i h
   ·
    rw [List.mem_singleton] at h
    rw [h]
    exact List.getElem_mem _
  ·
   exact h1
theorem cnt_small100 {g : List Tk} (hg : TOk g) {l : List Nat} (hl : l.length ≤ 50) : (cnt g l).small 100 := by
 refine ⟨⟨?_, ?_⟩, fun j => ?_⟩
 ·
  show -100 ≤ (l.length : Int)
  omega
 ·
  show (l.length : Int) ≤ 100
  omega
 ·
  have := usedS_bound hg j l
  show -(1000 * 100) ≤ usedS g l j ∧ usedS g l j ≤ 1000 * 100
  omega
structure Two (W : World) (base : Nat) (u v : Value) (xs ys : List Int) : Prop where
 a : Kd.R (Kd.int .i64) 3 W base (fun _ => True) u xs
 b : Kd.R (Kd.int .i64) 3 W base (fun _ => True) v ys
 ne : ∀ k, u.ownBlock = some k → v.ownBlock ≠ some k
theorem Two.below {W W' : World} {base : Nat} {u v : Value} {xs ys : List Int} (h : Two W base u v xs ys) (hb : Below W.heap.size W W') : Two W' base u v xs ys := ⟨Kd.R_below h.a hb, Kd.R_below h.b hb, h.ne⟩
theorem Two.swap {W : World} {base : Nat} {u v : Value} {xs ys : List Int} (h : Two W base u v xs ys) : Two W base v u ys xs := ⟨h.b, h.a, fun k h1 h2 => h.ne k h2 h1⟩
theorem R_lt {W : World} {base : Nat} {u : Value} {xs : List Int} (h : Kd.R (Kd.int .i64) 3 W base (fun _ => True) u xs) {k : Nat} (hk : u.ownBlock = some k) : k < W.heap.size := ((Kd.R_bound h).1 k hk).2.2.1
theorem Two.grow {W W1 : World} {base : Nat} {u v u1 : Value} {xs ys xs1 : List Int} (h : Two W base u v xs ys) (h1 : Kd.R (Kd.int .i64) 3 W1 base (fun _ => True) u1 xs1) (hg : W.grownBy W1 u.ownBlock) (hat : u1.ownBlock = u.ownBlock ∨ ∃ b, u1.ownBlock = some b ∧ W.heap.size ≤ b) : Two W1 base u1 v xs1 ys := by
 refine ⟨h1, Kd.R_mono (Kd.R_grown (Kd.R_of_own (ok := fun k => v.ownBlock = some k) (Kd.own_of_R h.b) (fun k hk => hk)) hg (fun k hk e => h.ne k e.symm hk)) (fun _ _ => trivial), fun k hk hv => ?_⟩
 rcases hat with e | ⟨b, e, hb⟩
 ·
  exact h.ne k (e ▸ hk) hv
 ·
  rw [e] at hk
  cases hk
  have := R_lt h.b hv
  omega
set_option maxRecDepth 1000000 in
set_option maxHeartbeats 4000000 in
theorem admit_calls (A : Option Addr) (c : Nat) (g : List Tk) (A1 : Option Addr) (c1 : Nat) (rm : List Int) (A2 : Option Addr) (c2 : Nat) (run : List Nat) (A3 : Option Addr) (c3 : Nat) (l : List Nat) (wk : Int) (hg : TOk g) (hrm : rm.length = 3) (hrn : run.length ≤ 50) (hrg : ∀ i ∈ run, i < g.length) (hl : l.length ≤ 16) (hlt : ∀ i ∈ l, i < g.length) (w : World) (hr : kTk.C w A g.length g) (hr1 : (Kd.int .i64).C w A1 rm.length rm) (hr2 : (Kd.int .i64).C w A2 run.length (ints run)) (hc2 : run.length ≤ c2) (hr3 : (Kd.int .i64).C w A3 l.length (ints l)) :
  Calls Tryz.prog 142 #[.slice A g.length c, .slice A1 rm.length c1, .slice A2 run.length c2, .slice A3 l.length c3, .int .i64 wk] w fun e w' => ∃ v, e = .returned v ∧ Kd.R (Kd.int .i64) 3 w' w.heap.size (fun _ => True) v (ints (admN g rm wk (cnt g run) l).2) ∧ Below w.heap.size w w' := by
 have HR := Lib.hid hr
 have HR1 := Lib.hid hr1
 have HR3 := Lib.hid hr3
 have HG := Lib.hid hg
 have HRM := Lib.hid hrm
 have HRG := Lib.hid hrg
 have HLT := Lib.hid hlt
 have HF := Lib.hid (admN_facts hg rm wk (c := cnt g run) (cnt_small100 hg hrn) l)
 have HCN := Lib.hid (admN_cnt hg rm wk run l)
 have HSUB : Hid (∀ j, j ≤ l.length → ∀ i ∈ (admN g rm wk (cnt g run) (l.take j)).2, i < g.length) := Lib.hid (fun j hj i hi => hlt i (admN_sub g rm wk (cnt g run) l j hj i hi))
 have hBw : Below w.heap.size w (w.alloc (.cells #[] 3)) := (Below.refl _ _).alloc (Nat.le_refl _) _
 have hcp := spec_copyInts.calls A2 c2 (ints run) (ints run) (w.alloc (.cells #[] 3)) (by rw [ints_length]; exact Kd.C_below hr2 hBw) (by rw [ints_length]; exact hc2) (copyInts_some _ (by rw [ints_length]; omega))
 rw [ints_length] at hcp
 have HCP := Lib.hid hcp
 clear hr hr1 hr2 hr3 hg hrm hrg hlt hcp
 go_enter Tryz.func142, Tryz.ntmps142
 go_wp2_with (go_at_call 77; refine HCP.out.mono ?_; rintro e w2 ⟨v0, rfl, hv0, hB2⟩)
 have HO : Kd.R (Kd.int .i64) 3 (w.alloc (.cells #[] 3)) w.heap.size (fun _ => True) (.slice (some ⟨w.heap.size, 0, none⟩) 0 0) (ints []) := Kd.R_of_own (World.ownsRow_lit (base := w.heap.size) (size := 1) w #[] 0 (Nat.le_refl _) (by simp [maxLen]) rfl) (fun _ _ => trivial)
 have HT2 : Two w2 w.heap.size (.slice (some ⟨w.heap.size, 0, none⟩) 0 0) v0 (ints []) (ints run) := ⟨Kd.R_below HO hB2, Kd.R_lower hv0 (by simp), fun k h1 h2 => by
  have h3 := ((Kd.R_bound hv0).1 k h2).2.1
  simp [Value.ownBlock] at h1
  simp at h3
  omega⟩
 have HBW : Below w.heap.size w w2 := hBw.trans (hB2.mono (by simp))
 clear HO hv0 hB2 hBw
 go_loopw [11, 12, 13] (fun out now i wr => ∃ j, j ≤ l.length ∧ i = .int .i64 (j : Nat) ∧ Two wr w.heap.size out now (ints (admN g rm wk (cnt g run) (l.take j)).2) (ints (run ++ (admN g rm wk (cnt g run) (l.take j)).2)) ∧ Below w.heap.size w wr) (fun _ _ i _ => l.length - (intOf i).toNat)
 case atStart => exact ⟨0, Nat.zero_le _, rfl, by simpa [admN] using HT2, HBW⟩
 case round =>
  clear HT2 HBW
  obtain ⟨j, hj, rfl, hT, hB⟩ := hrel
  by_cases hjl : j < l.length
  ·
   have hjj : decide ((j : Int) < (l.length : Int)) = true := decide_eq_true (by omega)
   have hji : (j : Int) < (l.length : Int) := by omega
   obtain ⟨hsm, hln⟩ := HF.out j (by omega)
   have hcn := HCN.out j (by omega)
   have hsub := HSUB.out j (by omega)
   have HSN : Hid (admN g rm wk (cnt g run) (l.take (j + 1)) = admStep g rm wk (admN g rm wk (cnt g run) (l.take j)) (l.getD j 0)) := Lib.hid (by
    rw [List.take_succ_eq_append_getElem hjl, admN_snoc, List.getD_eq_getElem?_getD, List.getElem?_eq_getElem hjl]
    rfl)
   have HFULL := Lib.hid (admN_full rm (g := g) (wk := wk) (cnt g run) l j)
   generalize admN g rm wk (cnt g run) (l.take j) = st at hT hsm hln hcn hsub HSN HFULL
   obtain ⟨cc, out⟩ := st
   have hln : out.length ≤ j := hln
   have hcn : cc = cnt g (run ++ out) := hcn
   subst hcn
   obtain ⟨nw, hnw⟩ : ∃ nw, nw = run ++ out := ⟨_, rfl⟩
   have hnl : nw.length ≤ 80 := by rw [hnw, List.length_append]; omega
   have hnm : ∀ i ∈ nw, i < g.length := fun i hi => by
    rw [hnw] at hi
    rcases List.mem_append.1 hi with h | h
    ·
     exact HRG.out i h
    ·
     exact hsub i h
   have HNM := Lib.hid hnm
   have HNW := Lib.hid hnw
   rw [← hnw] at hT HSN HFULL
   clear hnw hsm hsub hnm
   obtain ⟨An, cnn, rfl, hcap, hCn⟩ := Kd.R_reads hT.b
   rw [ints_length] at hT hCn ⊢
   by_cases hwk : (nw.length : Int) < wk
   ·
    have dwk : decide ((nw.length : Int) < wk) = true := decide_eq_true hwk
    obtain ⟨ad, rfl, cx⟩ := at_set (Kd.C_below HR3.out hB) j hjl
    have hxg : l.getD j 0 < g.length := by
     apply HLT.out
     rw [List.getD_eq_getElem?_getD, List.getElem?_eq_getElem hjl]
     exact List.getElem_mem _
    generalize hxe : l.getD j 0 = x at cx hxg HSN
    have HXE := Lib.hid hxe
    clear hxe
    obtain ⟨adg, A4, c4, rfl, hx0, hx1, hx2, hx3, _⟩ := at_Tk (Kd.C_below HR.out hB) x hxg
    have hxi : (x : Int) < (g.length : Int) := by omega
    obtain ⟨p, hp⟩ : ∃ p : Nat, (rdTk g x).f2 = (p : Int) := ⟨(rdTk g x).f2.toNat, by have := HG.out.2.2.1 x; omega⟩
    have hp3 : p < 3 := by have := HG.out.2.2.1 x; omega
    have hx3b := HG.out.2.2.2.1 x
    have HSN2 : Hid (admN g rm wk (cnt g run) (l.take (j + 1)) = if (cnt g nw).can p (rdTk g x).f3 rm wk then ((cnt g nw).add p (rdTk g x).f3 1, out ++ [x]) else (cnt g nw, out)) := Lib.hid (by rw [HSN.out]; unfold admStep; rw [hp]; rfl)
    rw [hp] at hx2
    go_upto_region 7 with (fail)
    obtain ⟨W1, hW1⟩ : ∃ W1, W1 = wr.alloc (.cells #[.int .i64 (rdTk g x).f0, .slice A4 (rdTk g x).f1.length c4, .int .i64 p, .int .i64 (rdTk g x).f3] 49) := ⟨_, rfl⟩
    have hBa : Below wr.heap.size wr W1 := by rw [hW1]; exact (Below.refl _ _).alloc (Nat.le_refl _) _
    have bb : W1.heap[wr.heap.size]? = some (.cells #[.int .i64 (rdTk g x).f0, .slice A4 (rdTk g x).f1.length c4, .int .i64 p, .int .i64 (rdTk g x).f3] 49 (0, 0)) := by rw [hW1]; exact World.alloc_heap_new _ _
    have b2 : W1.cell? ⟨wr.heap.size, 2, none⟩ = some (.int .i64 p) := (blk_cell bb 2).trans (by simp)
    have b3 : W1.cell? ⟨wr.heap.size, 3, none⟩ = some (.int .i64 (rdTk g x).f3) := (blk_cell bb 3).trans (by simp)
    have HBA := Lib.hid (hB.trans (hBa.mono hB.size))
    have HT1 := Lib.hid (hT.below hBa)
    rw [← hW1]
    obtain ⟨adr, rfl, cr⟩ := at_num (Kd.C_below HR1.out HBA.out) p (by rw [HRM.out]; omega)
    obtain ⟨ad2, e2, cx1⟩ := at_set (Kd.C_below HR3.out HBA.out) j hjl
    cases e2
    rw [HXE.out] at cx1
    have hpr : (p : Int) < (rm.length : Int) := by rw [HRM.out]; omega
    have hub := usedS_bound HG.out p nw
    have HCG := Lib.hid (Kd.C_below HR.out HBA.out)
    obtain ⟨An2, cn2, e2, _, hCn1⟩ := Kd.R_reads HT1.out.b
    rw [ints_length] at e2 hCn1
    cases e2
    have HCN1 := Lib.hid hCn1
    have HCAN : Hid ((cnt g nw).can p (rdTk g x).f3 rm wk = (decide ((nw.length : Int) < wk) && decide (usedS g nw p + (rdTk g x).f3 ≤ rm.getD p 0))) := Lib.hid rfl
    clear hW1 hBa bb hCn1 hCn hT hB hx0 hx1 hx2 hx3 cx hp
    generalize hU : usedS g nw p = U at hub HCAN
    have HU := Lib.hid hU
    generalize (rdTk g x).f3 = f3 at hx3b b3 HCAN HSN2
    generalize rm.getD p 0 = rp at cr HCAN
    clear hU
    have hnl2 : nw.length ≤ 100 := by omega
    have hws : IntKind.i64.wrap (U + f3) = U + f3 := IntWalk.i64_in _ (by omega)
    have hol : (ints out).length < 1000000 := by rw [ints_length]; omega
    have hnl3 : (ints nw).length < 1000000 := by rw [ints_length]; omega
    by_cases hfit : U + f3 ≤ rp
    ·
     have dfit : decide (U + f3 ≤ rp) = true := decide_eq_true hfit
     rw [dwk, dfit] at HCAN
     rw [HCAN.out, Bool.true_and, if_pos rfl] at HSN2
     clear hfit hwk
     go_wp2
     go_quiet ((go_at_call 107; exact Calls.quiet_of_same (used_is U _ _ g _ _ nw p HU HG.out hnl2 HNM.out _ (Kd.C_drewN HCG.out _) (Kd.C_drewN HCN1.out _))))
     clear hws
     have hT2 := HT1.out.below (pw_below_drewN (Below.refl _ _) nq)
     have hB2 := pw_below_drewN HBA.out nq
     go_wp2_with (first
      | (at_builtin; refine ap_int (w0 := w) w.heap.size rfl _ _ rfl u11 (ints out) (x : Int) rfl rfl rfl hT2.a hB2 hB2.size hol ?_; intro v1 w3 hO3 hB3 hg3 hat3; have hT3 := hT2.grow hO3 hg3 hat3; obtain ⟨ad2, e2, cx3⟩ := at_set (Kd.C_below HR3.out hB3) j hjl; cases e2; rw [HXE.out] at cx3)
      | (at_builtin; refine ap_int (w0 := w) w.heap.size rfl _ _ rfl (.slice An nw.length cnn) (ints nw) (x : Int) rfl rfl rfl hT3.b hB3 hB3.size hnl3 ?_; intro v2 w4 hO4 hB4 hg4 hat4; have hT4 := (hT3.swap.grow hO4 hg4 hat4).swap))
     go_roundw
     case rel => exact ⟨j + 1, by omega, by go_num, by rw [HSN2.out]; show Two _ _ _ _ (ints (out ++ [x])) (ints (run ++ (out ++ [x]))); rw [← List.append_assoc, ← HNW.out]; simpa [ints] using hT4, hB4⟩
     case measure => simp [intOf]; omega
    ·
     have dfit : decide (U + f3 ≤ rp) = false := decide_eq_false hfit
     rw [dwk, dfit] at HCAN
     rw [HCAN.out, Bool.true_and, if_neg (by simp)] at HSN2
     clear hfit hwk
     go_wp2
     go_quiet ((go_at_call 107; exact Calls.quiet_of_same (used_is U _ _ g _ _ nw p HU HG.out hnl2 HNM.out _ (Kd.C_drewN HCG.out _) (Kd.C_drewN HCN1.out _))))
     clear hws
     go_wp2
     go_roundw
     case rel => exact ⟨j + 1, by omega, by go_num, by rw [HSN2.out]; show Two _ _ _ _ (ints out) (ints (run ++ out)); rw [← HNW.out]; exact (HT1.out.below (pw_below_drewN (Below.refl _ _) nq)), pw_below_drewN HBA.out nq⟩
     case measure => simp [intOf]; omega
   ·
    have dwk : decide ((nw.length : Int) < wk) = false := decide_eq_false hwk
    have HE : Hid (admN g rm wk (cnt g run) l = (cnt g nw, out)) := Lib.hid (HFULL.out (by show wk ≤ (nw.length : Int); omega))
    go_wp2
    go_ret
    exact ⟨_, rfl, by rw [HE.out]; exact hT.a, hB⟩
  ·
   obtain rfl : j = l.length := by omega
   have hjj : decide ((l.length : Int) < (l.length : Int)) = false := decide_eq_false (by omega)
   rw [List.take_length] at hT
   go_wp2
   go_ret
   exact ⟨_, rfl, hT.a, hB⟩
end Go.Proofs.YtlapphhcficbjaaGreatDoor

namespace Go.Proofs.YtlapphhcficbjaaGreatDoor
set_option linter.unusedVariables false
set_option linter.unusedSimpArgs false
open Go.RowKit Go.Shelf Bits
open Go.Proofs.YtlapphhcficbjaaGreatDoorW.PrintWords Go.Proofs.YtlapphhcficbjaaGreatDoorW.PrintLast Go.Proofs.YtlapphhcficbjaaGreatDoorW.PrintMore
def mostS (g : List Tk) (o : List Int) (i : Nat) : Nat → Int
 | 0 => 0
 | k + 1 => if decide ((i : Int) ∈ (rdTk g k).f1) then max (mostS g o i k) (o.getD k 0) else mostS g o i k
def sStep (g : List Tk) (o : List Int) (i : Nat) : List Int := o.set i (mostS g o i g.length + (rdTk g i).f0)
def tailsSL (g : List Tk) (pre : List Nat) : List Int := pre.foldl (fun o p => sStep g o ((topL g).getD p 0)) (List.replicate g.length 0)
def tailsS (g : List Tk) : List Int := tailsSL g (backL (topL g).length (topL g).length)
theorem mostS_span {g : List Tk} {o : List Int} {n : Nat} {b : Int} (h : Span o n b) (i : Nat) (hb : 0 ≤ b) : ∀ k, 0 ≤ mostS g o i k ∧ mostS g o i k ≤ b
 | 0 => ⟨Int.le_refl _, hb⟩
 | k + 1 => by
  have ih := mostS_span (g := g) h i hb k
  have := h.2 k
  unfold mostS
  split <;> omega
theorem tailsSL_snoc (g : List Tk) (pre : List Nat) (p : Nat) : tailsSL g (pre ++ [p]) = sStep g (tailsSL g pre) ((topL g).getD p 0) := by
 unfold tailsSL
 rw [List.foldl_append]
 rfl
theorem span_zero (n : Nat) : Span (List.replicate n 0) n 0 := ⟨by simp, fun j => by
 rw [List.getD_eq_getElem?_getD, List.getElem?_replicate]
 split <;> simp⟩
theorem tailsSL_span {g : List Tk} (htm : ∀ i, 0 ≤ (rdTk g i).f0 ∧ (rdTk g i).f0 ≤ 20) (pre : List Nat) : Span (tailsSL g pre) g.length (20 * pre.length) := by
 have key : ∀ (pre : List Nat) (o : List Int) (b : Int), 0 ≤ b → Span o g.length b → Span (pre.foldl (fun o p => sStep g o ((topL g).getD p 0)) o) g.length (b + 20 * pre.length) := by
  intro pre
  induction pre with
  | nil =>
   intro o b _ h
   simpa using h
  | cons p pre ih =>
   intro o b hb h
   have h1 := mostS_span (g := g) h ((topL g).getD p 0) hb g.length
   have h2 := htm ((topL g).getD p 0)
   have h4 := ih _ (b + 20) (by omega) (h.set (b' := b + 20) (by omega) (x := mostS g o ((topL g).getD p 0) g.length + (rdTk g ((topL g).getD p 0)).f0) (by omega) ((topL g).getD p 0))
   rw [List.length_cons]
   have e : b + 20 + 20 * (pre.length : Int) = b + 20 * ((pre.length + 1 : Nat) : Int) := by omega
   rw [← e]
   exact h4
 have := key pre (List.replicate g.length 0) 0 (Int.le_refl _) (span_zero _)
 simpa [tailsSL] using this
set_option maxRecDepth 100000 in
set_option maxHeartbeats 8000000 in
theorem stails_calls (A : Option Addr) (c : Nat) (g : List Tk) (hv : specValid g = true) (w : World) (hr : kTk.C w A g.length g) :
  Calls Tryz.prog 149 #[.slice A g.length c] w fun e w' => ∃ v, e = .returned v ∧ Kd.R (Kd.int .i64) 3 w' w.heap.size (fun _ => True) v (tailsS g) ∧ Below w.heap.size w w' := by
 have htm := specValid_time hv
 have h8 : g.length ≤ 8 := by
  unfold specValid tasksFineB at hv
  simp at hv
  exact hv.1.2
 have HR := Lib.hid hr
 have HTM := Lib.hid htm
 have hmk := run_makeI g.length (by omega)
 clear hr htm hv
 go_enter Tryz.func149, Tryz.ntmps149
 go_wp2_with (go_at_call 105; refine (topOrder_calls _ _ _ h8 _ (Kd.C_below HR.out ((Below.refl _ w).alloc (Nat.le_refl _) _))).mono ?_; rintro e w2 ⟨v2, rfl, hR2, hB2⟩; have HR2 := Lib.hid hR2; obtain ⟨A2, c2, rfl, hl2, hC2⟩ := Kd.R_reads hR2; rw [ints_length] at hl2; rw [ints_length] at HR2; rw [ints_length] at hC2; rw [ints_length]; have HC2 := Lib.hid hC2; have HB2 := Lib.hid hB2; clear hR2 hC2 hB2)
 have hz1 : (w.alloc (.cells (zeroI g.length) 3)).heap.size = w.heap.size + 1 := by simp
 have hB2 := HB2.out
 rw [hz1] at hB2
 have hB : Below w.heap.size w w2 := ((Below.refl _ w).alloc (Nat.le_refl _) (.cells (zeroI g.length) 3)).trans (hB2.mono (by omega))
 have hI0 : IRow w2 w.heap.size (List.replicate g.length 0) := (hB2.block w.heap.size (by omega)).trans (World.alloc_heap_new w _)
 have hL := topN_le g g.length
 have hin := (topN_facts g g.length).2.1
 have hA2 : ∀ ad, A2 = some ad → 0 < (topL g).length → ad.block ≠ w.heap.size := fun ad e hl => by
  have := R_blk HR2.out (by rw [ints_length]; exact hl) ad e
  rw [hz1] at this
  omega
 have HA2 := Lib.hid hA2
 have HIN := Lib.hid hin
 clear hA2 hin hmk hz1 hB2
 replace hL : (topL g).length ≤ g.length := hL
 go_loopw [5, 6, 7, 8] (fun i at_ mo k wr => ∃ m, m ≤ (topL g).length ∧ i = .int .i64 (((topL g).length : Int) - 1 - (m : Nat)) ∧ IRow wr w.heap.size (tailsSL g (backL (topL g).length m)) ∧ Below w.heap.size w wr ∧ (Kd.int .i64).C wr A2 (topL g).length (ints (topL g))) (fun i _ _ _ _ => (intOf i + 1).toNat)
 case atStart => exact ⟨0, Nat.zero_le _, by simp; unfold wrap64; omega, hI0, hB, HC2.out⟩
 case round =>
  clear hI0 hB
  obtain ⟨m, hm, rfl, hI, hB, hC⟩ := hrel
  by_cases hml : m < (topL g).length
  ·
   obtain ⟨p, hp⟩ : ∃ p : Nat, p = (topL g).length - 1 - m := ⟨_, rfl⟩
   have ep : ((topL g).length : Int) - 1 - (m : Nat) = (p : Int) := by omega
   have hpl : p < (topL g).length := by omega
   have HSN : Hid (tailsSL g (backL (topL g).length (m + 1)) = sStep g (tailsSL g (backL (topL g).length m)) ((topL g).getD p 0)) := Lib.hid (by rw [backL_succ, tailsSL_snoc, ← hp])
   have HP := Lib.hid hp
   have hat : (topL g).getD p 0 < g.length := by
    apply HIN.out
    rw [List.getD_eq_getElem?_getD, List.getElem?_eq_getElem hpl]
    exact List.getElem_mem _
   have hsp := tailsSL_span HTM.out (backL (topL g).length m)
   rw [backL_length] at hsp
   obtain ⟨ad2, rfl, hc2⟩ := at_set hC p hpl
   rw [ep]
   have HC := Lib.hid hC
   clear hp ep hC
   generalize tailsSL g (backL (topL g).length m) = o at hI HSN hsp
   have HCI : Hid (∀ k : Nat, k < g.length → ∃ ad A1 c1, A = some ad ∧ wr.cell? ⟨(ad.add (k * 4)).block, (ad.add (k * 4)).off + 1, none⟩ = some (.slice A1 (rdTk g k).f1.length c1) ∧ (Kd.int .i64).C wr A1 (rdTk g k).f1.length (rdTk g k).f1) := Lib.hid fun k hk => by
    obtain ⟨ad, A1, c1, e, _, h1, _, _, _, h2⟩ := at_Tk (Kd.C_below HR.out hB) k hk
    exact ⟨ad, A1, c1, e, h1, h2⟩
   generalize hae : (topL g).getD p 0 = at_ at hc2 hat HSN
   have HAE := Lib.hid hae
   clear hae
   go_wp2
   obtain ⟨wo, rfl⟩ : ∃ wo : World, wo = wr := ⟨_, rfl⟩
   go_loopw [7, 8] (fun mo k wi => ∃ j, j ≤ g.length ∧ k = .int .i64 (j : Nat) ∧ mo = .int .i64 (mostS g o at_ j) ∧ wi = wo) (fun _ k _ => g.length - (intOf k).toNat)
   case atStart => exact ⟨0, Nat.zero_le _, rfl, rfl, rfl⟩
   case round =>
    obtain ⟨j, hj, rfl, rfl, rfl⟩ := hrel
    have hms := mostS_span (g := g) hsp at_ (by omega) j
    have HMS : Hid (mostS g o at_ (j + 1) = if decide ((at_ : Int) ∈ (rdTk g j).f1) then max (mostS g o at_ j) (o.getD j 0) else mostS g o at_ j) := Lib.hid rfl
    by_cases hjl : j < g.length
    ·
     obtain ⟨ad, A1, c1, rfl, hc1, hC1⟩ := HCI.out j hjl
     have hjj : decide ((j : Int) < (g.length : Int)) = true := decide_eq_true (by omega)
     have hoj := hsp.2 j
     have cR := hI.cell j (by have := hsp.1; omega)
     generalize mostS g o at_ j = mj at hms HMS
     generalize o.getD j 0 = oj at hoj cR HMS
     cases hm : decide ((at_ : Int) ∈ (rdTk g j).f1)
     ·
      have HM := Lib.hid hm
      rw [hm] at HMS
      clear hm
      generalize rdTk g j = t at hc1 hC1 HM
      go_wp2_with (go_at_call 112; with_reducible refine (isIn_is _ _ _ _ _ HM _ hC1).mono ?_; rintro e w' ⟨rfl, rfl⟩)
      go_roundw
      case rel => exact ⟨j + 1, by omega, by go_num, by rw [HMS.out]; rfl, trivial⟩
      case measure => simp [intOf]; omega
     ·
      have HM := Lib.hid hm
      rw [hm] at HMS
      clear hm
      generalize rdTk g j = t at hc1 hC1 HM
      go_wp2_with (go_at_call 112; with_reducible refine (isIn_is _ _ _ _ _ HM _ hC1).mono ?_; rintro e w' ⟨rfl, rfl⟩)
      all_goals
       go_roundw
       case rel => exact ⟨j + 1, by omega, by go_num, by rw [HMS.out]; simp only [if_true]; congr 1; first | omega | (split <;> omega), trivial⟩
       case measure => simp [intOf]; omega
    ·
     obtain rfl : j = g.length := by omega
     have hjj : decide ((g.length : Int) < (g.length : Int)) = false := decide_eq_false (by omega)
     obtain ⟨adg, A1, c1, rfl, hx0, _⟩ := at_Tk (Kd.C_below HR.out hB) at_ hat
     have htt := HTM.out at_
     have hol := hsp.1
     have HSS : Hid (sStep g o at_ = o.set at_ (mostS g o at_ g.length + (rdTk g at_).f0)) := Lib.hid rfl
     have fR := hI.frozen at_
     have cR := hI.cell at_ (by omega)
     generalize mostS g o at_ g.length = mj at hms HSS
     generalize (rdTk g at_).f0 = tm at hx0 htt HSS
     generalize o.getD at_ 0 = ov at cR
     have hatl : (at_ : Int) < (g.length : Int) := by omega
     clear HMS
     go_wp2
     go_roundw
     case rel =>
      refine ⟨m + 1, by omega, ?_, ?_, hB.setCell (p := ⟨w.heap.size, at_, none⟩) (Nat.le_refl _) _, C_block HC.out fun ad e hn => heap_far _ _ _ _ (HA2.out ad e hn)⟩
      ·
       have := HP.out
       congr 1
       omega
      ·
       rw [HSN.out, HSS.out]
       exact hI.set at_ (mj + tm)
     case measure => first | (simp [intOf]; done) | (simp [intOf]; omega)
  ·
   obtain rfl : m = (topL g).length := by omega
   have ep : ((topL g).length : Int) - 1 - ((topL g).length : Nat) = -1 := by omega
   rw [ep]
   have hlen := (tailsSL_span HTM.out (backL (topL g).length (topL g).length)).1
   go_wp2
   go_ret
   refine ⟨_, rfl, ?_, hB⟩
   have hown := hI.own (base := w.heap.size) (Nat.le_refl _) (by rw [hlen]; omega)
   rw [hlen] at hown
   exact hown
end Go.Proofs.YtlapphhcficbjaaGreatDoor

namespace Go.Proofs.YtlapphhcficbjaaGreatDoor
set_option linter.unusedVariables false
set_option linter.unusedSimpArgs false
open Go.RowKit Go.Shelf Bits
open Go.Proofs.YtlapphhcficbjaaGreatDoorW.PrintWords Go.Proofs.YtlapphhcficbjaaGreatDoorW.PrintLast Go.Proofs.YtlapphhcficbjaaGreatDoorW.PrintMore
attribute [local go_sem] Oper.semAt_some
def needsIn (ns : List Nat) (s i : Nat) : Bool := decide (diff (ns.getD i 0) s = 0)
def closedN (ns : List Nat) (s : Nat) : Bool := (elems s).all (needsIn ns s)
def doneN (g : List Tk) (l : List Int) : Option (List Nat × Nat) := (graphN g).bind fun ns => (setOfN l g.length).bind fun s => if closedN ns s then some (ns, s) else none
def doneRet (C s : Nat) : Bool → Value
 | true => .tuple #[.pointer (some ⟨C, 0, none⟩), .int .u16 (s : Nat), .bool true]
 | false => .tuple #[.pointer none, .int .u16 0, .bool false]
theorem below3 (w : World) (o1 o2 o3 : Obj) : Below w.heap.size w (((w.alloc o1).alloc o2).alloc o3) := (((Below.refl _ w).alloc (Nat.le_refl _) _).alloc (by simp) _).alloc (by simp; omega) _
theorem three_sets {W : World} {B : Nat} {t4 t5 t6 : TypeId} {v4 v5 v6 : Value} (b4 : Boxed W B t4 v4) (b5 : Boxed W (B + 1) t5 v5) (b6 : Boxed W (B + 1 + 1) t6 v6) (x y z : Value) :
  ∃ W', ((W.setCell ⟨B, 0, none⟩ x).setCell ⟨B + 1, 0, none⟩ y).setCell ⟨B + 1 + 1, 0, none⟩ z = W' ∧ Boxed W' B t4 x ∧ Boxed W' (B + 1) t5 y ∧ Boxed W' (B + 1 + 1) t6 z ∧ KeepsOthers W W' ∧ Below B W W' ∧ ∀ k, B + 1 + 1 < k → W'.heap[k]? = W.heap[k]? :=
 ⟨_, rfl, blk_far (blk_far (b4.set x) (by simp) _) (by simp; omega) _, blk_far ((show Boxed (W.setCell ⟨B, 0, none⟩ x) _ _ _ from blk_far b5 (by simp) _).set y) (by simp) _,
  (show Boxed ((W.setCell ⟨B, 0, none⟩ x).setCell ⟨B + 1, 0, none⟩ y) _ _ _ from blk_far (blk_far b6 (by simp; omega) _) (by simp) _).set z,
  ((KeepsOthers.setCell _ _ _).trans (KeepsOthers.setCell _ _ _)).trans (KeepsOthers.setCell _ _ _),
  (((Below.refl _ W).setCell (p := ⟨B, 0, none⟩) (by simp) _).setCell (p := ⟨B + 1, 0, none⟩) (by simp) _).setCell (p := ⟨B + 1 + 1, 0, none⟩) (by simp; omega) _,
  fun k hk => (Below.heap_setCell _ _ _ _ (by simp; omega)).trans ((Below.heap_setCell _ _ _ _ (by simp; omega)).trans (Below.heap_setCell _ _ _ _ (by simp; omega)))⟩
def Three (W : World) (B : Nat) : Prop := (∃ x, W.cell? ⟨B, 0, none⟩ = some x) ∧ (∃ x, W.cell? ⟨B + 1, 0, none⟩ = some x) ∧ (∃ x, W.cell? ⟨B + 1 + 1, 0, none⟩ = some x) ∧ W.frozen? ⟨B, 0, none⟩ = false ∧ W.frozen? ⟨B + 1, 0, none⟩ = false ∧ W.frozen? ⟨B + 1 + 1, 0, none⟩ = false
theorem three_facts {W : World} {B : Nat} {t4 t5 t6 : TypeId} {v4 v5 v6 : Value} (b4 : Boxed W B t4 v4) (b5 : Boxed W (B + 1) t5 v5) (b6 : Boxed W (B + 1 + 1) t6 v6) : Three W B := ⟨⟨_, b4.cell⟩, ⟨_, b5.cell⟩, ⟨_, b6.cell⟩, b4.frozen, b5.frozen, b6.frozen⟩
structure P3 (W0 : World) (B : Nat) (t4 t5 t6 : TypeId) (x y z : Value) (W : World) : Prop where
 b4 : Boxed W B t4 x
 b5 : Boxed W (B + 1) t5 y
 b6 : Boxed W (B + 1 + 1) t6 z
 below : Below B W0 W
 up : ∀ k, B + 1 + 1 < k → W.heap[k]? = W0.heap[k]?
section
variable {W0 W : World} {B : Nat} {t4 t5 t6 : TypeId} {x y z v : Value}
theorem P3.set4 (h : P3 W0 B t4 t5 t6 v y z W) : P3 W0 B t4 t5 t6 x y z (W.setCell ⟨B, 0, none⟩ x) :=
 ⟨h.b4.set x, blk_far h.b5 (by simp) _, blk_far h.b6 (by simp; omega) _, h.below.setCell (p := ⟨B, 0, none⟩) (by simp) _, fun k hk => (Below.heap_setCell _ _ _ _ (by simp; omega)).trans (h.up k hk)⟩
theorem P3.set5 (h : P3 W0 B t4 t5 t6 x v z W) : P3 W0 B t4 t5 t6 x y z (W.setCell ⟨B + 1, 0, none⟩ y) :=
 ⟨blk_far h.b4 (by simp) _, h.b5.set y, blk_far h.b6 (by simp) _, h.below.setCell (p := ⟨B + 1, 0, none⟩) (by simp) _, fun k hk => (Below.heap_setCell _ _ _ _ (by simp; omega)).trans (h.up k hk)⟩
theorem P3.set6 (h : P3 W0 B t4 t5 t6 x y v W) : P3 W0 B t4 t5 t6 x y z (W.setCell ⟨B + 1 + 1, 0, none⟩ z) :=
 ⟨blk_far h.b4 (by simp; omega) _, blk_far h.b5 (by simp) _, h.b6.set z, h.below.setCell (p := ⟨B + 1 + 1, 0, none⟩) (by simp; omega) _, fun k hk => (Below.heap_setCell _ _ _ _ (by simp; omega)).trans (h.up k hk)⟩
theorem P3.drew (h : P3 W0 B t4 t5 t6 x y z W) : P3 W0 B t4 t5 t6 x y z W.drew := ⟨h.b4, h.b5, h.b6, h.below.drew, h.up⟩
end
theorem three_allocs (w : World) (t4 t5 t6 : TypeId) (x y z : Value) : Boxed (((w.alloc (.cells #[x] t4)).alloc (.cells #[y] t5)).alloc (.cells #[z] t6)) w.heap.size t4 x ∧ Boxed (((w.alloc (.cells #[x] t4)).alloc (.cells #[y] t5)).alloc (.cells #[z] t6)) (w.heap.size + 1) t5 y ∧
  Boxed (((w.alloc (.cells #[x] t4)).alloc (.cells #[y] t5)).alloc (.cells #[z] t6)) (w.heap.size + 1 + 1) t6 z ∧ Below w.heap.size w (((w.alloc (.cells #[x] t4)).alloc (.cells #[y] t5)).alloc (.cells #[z] t6)) ∧ (((w.alloc (.cells #[x] t4)).alloc (.cells #[y] t5)).alloc (.cells #[z] t6)).heap.size = w.heap.size + 1 + 1 + 1 := by
 have h5 := (Boxed.new (w.alloc (.cells #[x] t4)) t5 y).alloc (.cells #[z] t6)
 have h6 := Boxed.new ((w.alloc (.cells #[x] t4)).alloc (.cells #[y] t5)) t6 z
 rw [World.size_alloc] at h5
 rw [World.size_alloc, World.size_alloc] at h6
 exact ⟨((Boxed.new w _ _).alloc _).alloc _, h5, h6, below3 _ _ _ _, by simp⟩
theorem graph_some_lt {g : List Tk} {l : List Int} {ns : List Nat} {s : Nat} (hg : graphN g = some ns) (hs : setOfN l g.length = some s) : doneN g l = if closedN ns s then some (ns, s) else none := by
 unfold doneN
 rw [hg]
 show ((setOfN l g.length).bind _) = _
 rw [hs]
 rfl
end Go.Proofs.YtlapphhcficbjaaGreatDoor

namespace Go.Proofs.YtlapphhcficbjaaGreatDoor
set_option linter.unusedVariables false
set_option linter.unusedSimpArgs false
def lessB (T : List Int) (a b : Nat) : Bool := if T.getD a 0 ≠ T.getD b 0 then decide (T.getD a 0 > T.getD b 0) else decide (a < b)
def leT (T : List Int) (a b : Nat) : Prop := T.getD b 0 < T.getD a 0 ∨ (T.getD a 0 = T.getD b 0 ∧ a ≤ b)
theorem less_false {T : List Int} {a b : Nat} : lessB T a b = false ↔ leT T b a := by
 unfold lessB leT
 split
 ·
  rw [decide_eq_false_iff_not]
  omega
 ·
  rw [decide_eq_false_iff_not]
  omega
theorem less_true {T : List Int} {a b : Nat} (h : lessB T a b = true) : leT T a b := by
 unfold lessB at h
 unfold leT
 split at h
 ·
  rw [decide_eq_true_eq] at h
  omega
 ·
  rw [decide_eq_true_eq] at h
  omega
theorem leT.trans {T : List Int} {a b c : Nat} (h : leT T a b) (k : leT T b c) : leT T a c := by
 unfold leT at *
 omega
theorem leT.refl (T : List Int) (a : Nat) : leT T a a := .inr ⟨rfl, Nat.le_refl _⟩
theorem leT.antisymm {T : List Int} {a b : Nat} (h : leT T a b) (k : leT T b a) : a = b := by
 unfold leT at *
 omega
def swapL (L : List Nat) (i k : Nat) : List Nat := (L.set i (L.getD k 0)).set k (L.getD i 0)
theorem length_swapL (L : List Nat) (i k : Nat) : (swapL L i k).length = L.length := by simp [swapL]
theorem getD_swap {L : List Nat} {i k : Nat} (hi : i < L.length) (hk : k < L.length) (j : Nat) : (swapL L i k).getD j 0 = if j = k then L.getD i 0 else if j = i then L.getD k 0 else L.getD j 0 := by
 unfold swapL
 simp only [List.getD_eq_getElem?_getD, List.getElem?_set, List.length_set]
 by_cases h1 : k = j
 ·
  subst h1
  simp [hk]
 ·
  have h1' : ¬ j = k := fun e => h1 e.symm
  rw [if_neg h1, if_neg h1']
  by_cases h2 : i = j
  ·
   subst h2
   simp [hi]
  ·
   have h2' : ¬ j = i := fun e => h2 e.symm
   rw [if_neg h2, if_neg h2']
theorem swapL_perm {L : List Nat} {i k : Nat} (hi : i < L.length) (hk : k < L.length) : (swapL L i k).Perm L := by
 unfold swapL
 rw [List.getD_eq_getElem?_getD, List.getD_eq_getElem?_getD, List.getElem?_eq_getElem hi, List.getElem?_eq_getElem hk]
 exact List.set_set_perm hi hk
theorem mem_swapL {L : List Nat} {i k : Nat} (hi : i < L.length) (hk : k < L.length) {x : Nat} (hx : x ∈ swapL L i k) : x ∈ L := (swapL_perm hi hk).mem_iff.1 hx
def upL (T : List Int) : Nat → List Nat → Nat → List Nat
 | 0, L, _ => L
 | c + 1, L, j => if (j - 1) / 2 = j ∨ lessB T (L.getD j 0) (L.getD ((j - 1) / 2) 0) = false then L else upL T c (swapL L ((j - 1) / 2) j) ((j - 1) / 2)
def childL (T : List Int) (L : List Nat) (i n : Nat) : Nat := if 2 * i + 2 < n ∧ lessB T (L.getD (2 * i + 2) 0) (L.getD (2 * i + 1) 0) = true then 2 * i + 2 else 2 * i + 1
def downL (T : List Int) : Nat → List Nat → Nat → Nat → List Nat
 | 0, L, _, _ => L
 | c + 1, L, i, n => if n ≤ 2 * i + 1 then L else if lessB T (L.getD (childL T L i n) 0) (L.getD i 0) = false then L else downL T c (swapL L i (childL T L i n)) (childL T L i n) n
def pushL (T : List Int) (L : List Nat) (x : Nat) : List Nat := upL T (L.length + 1) (L ++ [x]) L.length
def popL (T : List Int) (L : List Nat) : List Nat := downL T L.length (swapL L 0 (L.length - 1)) 0 (L.length - 1)
def buildL (T : List Int) (xs : List Nat) : List Nat := xs.foldl (pushL T) []
def drainL (T : List Int) : Nat → List Nat → List Nat
 | 0, _ => []
 | c + 1, L => if L.length = 0 then [] else (popL T L).getD (L.length - 1) 0 :: drainL T c ((popL T L).take (L.length - 1))
def HP (T : List Int) (L : List Nat) (n : Nat) : Prop := ∀ i, 0 < i → i < n → leT T (L.getD ((i - 1) / 2) 0) (L.getD i 0)
def UpI (T : List Int) (L : List Nat) (j : Nat) : Prop := (∀ i, 0 < i → i < L.length → i ≠ j → leT T (L.getD ((i - 1) / 2) 0) (L.getD i 0)) ∧ (0 < j → ∀ i, 0 < i → i < L.length → (i - 1) / 2 = j → leT T (L.getD ((j - 1) / 2) 0) (L.getD i 0))
def DownI (T : List Int) (L : List Nat) (i n : Nat) : Prop := (∀ k, 0 < k → k < n → (k - 1) / 2 ≠ i → leT T (L.getD ((k - 1) / 2) 0) (L.getD k 0)) ∧ (0 < i → ∀ k, 0 < k → k < n → (k - 1) / 2 = i → leT T (L.getD ((i - 1) / 2) 0) (L.getD k 0))
theorem up_heap (T : List Int) : ∀ (c : Nat) (L : List Nat) (j : Nat), j < c → j < L.length → UpI T L j → HP T (upL T c L j) L.length ∧ (upL T c L j).Perm L
 | 0, L, j, hc, _, _ => absurd hc (Nat.not_lt_zero _)
 | c + 1, L, j, hc, hj, hU => by
  unfold upL
  split
  ·
   rename_i h
   refine ⟨fun i h0 h1 => ?_, List.Perm.refl _⟩
   by_cases he : i = j
   ·
    subst he
    rcases h with h | h
    ·
     omega
    ·
     exact less_false.1 h
   ·
    exact hU.1 i h0 h1 he
  ·
   rename_i h
   have h1 : ¬ (j - 1) / 2 = j := fun e => h (.inl e)
   have h2 : lessB T (L.getD j 0) (L.getD ((j - 1) / 2) 0) = true := by
    cases hb : lessB T (L.getD j 0) (L.getD ((j - 1) / 2) 0) with
    | true => rfl
    | false => exact absurd (.inr hb) h
   have hx := less_true h2
   generalize hp : (j - 1) / 2 = p at *
   have hpj : p < j := by omega
   have hpl : p < L.length := by omega
   have hg := getD_swap hpl hj
   have ih := up_heap T c (swapL L p j) p (by omega) (by rw [length_swapL]; exact hpl) ⟨fun i i0 i1 i2 => ?_, fun p0 i i0 i1 i2 => ?_⟩
   ·
    rw [length_swapL] at ih
    exact ⟨ih.1, ih.2.trans (swapL_perm hpl hj)⟩
   ·
    rw [length_swapL] at i1
    rw [hg, hg]
    by_cases e1 : i = j
    ·
     subst e1
     rw [if_pos rfl, hp, if_neg (by omega), if_pos rfl]
     exact hx
    ·
     rw [if_neg e1, if_neg i2]
     by_cases e2 : (i - 1) / 2 = j
     ·
      rw [if_pos e2]
      have := hU.2 (by omega) i i0 i1 e2
      rwa [hp] at this
     ·
      rw [if_neg e2]
      by_cases e3 : (i - 1) / 2 = p
      ·
       rw [if_pos e3]
       have := hU.1 i i0 i1 e1
       rw [e3] at this
       exact hx.trans this
      ·
       rw [if_neg e3]
       exact hU.1 i i0 i1 e1
   ·
    rw [length_swapL] at i1
    have h3 := hU.1 p p0 hpl (by omega)
    rw [hg, hg, if_neg (by omega), if_neg (by omega)]
    by_cases e1 : i = j
    ·
     rw [if_pos e1]
     exact h3
    ·
     rw [if_neg e1, if_neg (by omega)]
     have := hU.1 i i0 i1 e1
     rw [i2] at this
     exact h3.trans this
theorem down_heap (T : List Int) : ∀ (c : Nat) (L : List Nat) (i n : Nat), n ≤ i + c → n ≤ L.length → i < L.length → DownI T L i n → HP T (downL T c L i n) n ∧ (downL T c L i n).Perm L ∧ (∀ k, n ≤ k → i < k → (downL T c L i n).getD k 0 = L.getD k 0) ∧ (downL T c L i n).length = L.length
 | 0, L, i, n, hc, hn, hi, hD => ⟨fun k h0 h1 => hD.1 k h0 h1 (by omega), List.Perm.refl _, fun _ _ _ => rfl, rfl⟩
 | c + 1, L, i, n, hc, hn, hi, hD => by
  unfold downL
  split
  ·
   exact ⟨fun k h0 h1 => hD.1 k h0 h1 (by omega), List.Perm.refl _, fun _ _ _ => rfl, rfl⟩
  ·
   rename_i hn1
   have hch : (childL T L i n = 2 * i + 1 ∨ childL T L i n = 2 * i + 2) ∧ childL T L i n < n ∧ ∀ k, 0 < k → k < n → (k - 1) / 2 = i → leT T (L.getD (childL T L i n) 0) (L.getD k 0) := by
    unfold childL
    split
    ·
     rename_i h
     refine ⟨.inr rfl, h.1, fun k k0 k1 k2 => ?_⟩
     have : k = 2 * i + 1 ∨ k = 2 * i + 2 := by omega
     rcases this with rfl | rfl
     ·
      exact less_true h.2
     ·
      exact leT.refl _ _
    ·
     rename_i h
     refine ⟨.inl rfl, by omega, fun k k0 k1 k2 => ?_⟩
     have : k = 2 * i + 1 ∨ k = 2 * i + 2 := by omega
     rcases this with rfl | rfl
     ·
      exact leT.refl _ _
     ·
      refine less_false.1 ?_
      cases hb : lessB T (L.getD (2 * i + 2) 0) (L.getD (2 * i + 1) 0) with
      | false => rfl
      | true => exact absurd ⟨k1, hb⟩ h
   generalize childL T L i n = j at hch ⊢
   obtain ⟨hj, hjn, hmin⟩ := hch
   split
   ·
    rename_i h
    have hle := less_false.1 h
    refine ⟨fun k k0 k1 => ?_, List.Perm.refl _, fun _ _ _ => rfl, rfl⟩
    by_cases e : (k - 1) / 2 = i
    ·
     rw [e]
     exact hle.trans (hmin k k0 k1 e)
    ·
     exact hD.1 k k0 k1 e
   ·
    rename_i h
    have hx : leT T (L.getD j 0) (L.getD i 0) := less_true (by
     cases hb : lessB T (L.getD j 0) (L.getD i 0) with
     | true => rfl
     | false => exact absurd hb h)
    have hjl : j < L.length := by omega
    have hg := getD_swap hi hjl
    have ih := down_heap T c (swapL L i j) j n (by omega) (by rw [length_swapL]; exact hn) (by rw [length_swapL]; exact hjl) ⟨fun k k0 k1 k2 => ?_, fun _ k k0 k1 k2 => ?_⟩
    ·
     refine ⟨ih.1, ih.2.1.trans (swapL_perm hi hjl), fun k k1 k2 => ?_, by rw [ih.2.2.2, length_swapL]⟩
     rw [ih.2.2.1 k k1 (by omega), hg, if_neg (by omega), if_neg (by omega)]
    ·
     rw [hg, hg]
     rw [if_neg k2]
     by_cases e1 : k = j
     ·
      have e2 : (k - 1) / 2 = i := by omega
      rw [if_pos e1, if_pos e2]
      exact hx
     ·
      rw [if_neg e1]
      by_cases e2 : (k - 1) / 2 = i
      ·
       rw [if_pos e2, if_neg (by omega)]
       exact hmin k k0 k1 e2
      ·
       rw [if_neg e2]
       by_cases e3 : k = i
       ·
        subst e3
        rw [if_pos rfl]
        exact hD.2 (by omega) j (by omega) hjn (by omega)
       ·
        rw [if_neg e3]
        exact hD.1 k k0 k1 e2
    ·
     have e : (j - 1) / 2 = i := by omega
     rw [hg, hg, e, if_neg (by omega), if_pos rfl, if_neg (by omega), if_neg (by omega)]
     have := hD.1 k k0 k1 (by omega)
     rwa [k2] at this
theorem push_heap {T : List Int} {L : List Nat} (h : HP T L L.length) (x : Nat) : HP T (pushL T L x) (L.length + 1) ∧ (pushL T L x).Perm (L ++ [x]) ∧ (pushL T L x).length = L.length + 1 := by
 unfold pushL
 have hlen : (L ++ [x]).length = L.length + 1 := by simp
 have hu := up_heap T (L.length + 1) (L ++ [x]) L.length (by omega) (by omega) ⟨fun i i0 i1 i2 => ?_, fun _ i i0 i1 i2 => by omega⟩
 ·
  rw [hlen] at hu
  exact ⟨hu.1, hu.2, hu.2.length_eq.trans hlen⟩
 ·
  have hi : i < L.length := by omega
  have := h i i0 hi
  simp only [List.getD_eq_getElem?_getD] at this ⊢
  rwa [List.getElem?_append_left (by omega), List.getElem?_append_left hi]
theorem build_heap {T : List Int} : ∀ (xs L : List Nat), HP T L L.length → HP T (xs.foldl (pushL T) L) (xs.foldl (pushL T) L).length ∧ (xs.foldl (pushL T) L).Perm (L ++ xs)
 | [], L, h => ⟨h, by simp⟩
 | x :: xs, L, h => by
  obtain ⟨p1, p2, p3⟩ := push_heap h x
  obtain ⟨q1, q2⟩ := build_heap xs (pushL T L x) (by rw [p3]; exact p1)
  refine ⟨q1, q2.trans ?_⟩
  have := p2.append_right xs
  simpa using this
theorem heap_min {T : List Int} {L : List Nat} {n : Nat} (h : HP T L n) : ∀ (m i : Nat), i ≤ m → i < n → leT T (L.getD 0 0) (L.getD i 0)
 | 0, i, h0, _ => by
  obtain rfl : i = 0 := by omega
  exact leT.refl _ _
 | m + 1, i, h0, h1 => by
  by_cases e : i = 0
  ·
   subst e
   exact leT.refl _ _
  ·
   exact (heap_min h m ((i - 1) / 2) (by omega) (by omega)).trans (h i (by omega) h1)
theorem pop_heap {T : List Int} {L : List Nat} (hL : 0 < L.length) (h : HP T L L.length) :
  (popL T L).length = L.length ∧ (popL T L).getD (L.length - 1) 0 = L.getD 0 0 ∧ HP T ((popL T L).take (L.length - 1)) (L.length - 1) ∧ L.Perm (L.getD 0 0 :: (popL T L).take (L.length - 1)) := by
 unfold popL
 have hn : L.length - 1 < L.length := by omega
 have hg := getD_swap hL hn
 have hd := down_heap T L.length (swapL L 0 (L.length - 1)) 0 (L.length - 1) (by omega) (by rw [length_swapL]; omega) (by rw [length_swapL]; exact hL) ⟨fun k k0 k1 k2 => ?_, fun h0 => absurd h0 (Nat.lt_irrefl _)⟩
 ·
  obtain ⟨d1, d2, d3, d4⟩ := hd
  rw [length_swapL] at d4
  generalize downL T L.length (swapL L 0 (L.length - 1)) 0 (L.length - 1) = M at *
  have hlast : M.getD (L.length - 1) 0 = L.getD 0 0 := by
   by_cases e : 0 < L.length - 1
   ·
    rw [d3 _ (Nat.le_refl _) e, hg, if_pos rfl]
   ·
    have e1 : L.length = 1 := by omega
    have p := d2.trans (swapL_perm hL hn)
    match L, M, e1, d4, p with
    | [a], [b], _, _, p =>
     have := List.singleton_perm_singleton.1 p
     simp [this]
  refine ⟨d4, hlast, fun i i0 i1 => ?_, ?_⟩
  ·
   have := d1 i i0 i1
   simp only [List.getD_eq_getElem?_getD] at this ⊢
   rwa [List.getElem?_take_of_lt (by omega), List.getElem?_take_of_lt i1]
  ·
   have hm : M = M.take (L.length - 1) ++ [M.getD (L.length - 1) 0] := by
    conv => lhs; rw [← List.take_append_drop (L.length - 1) M]
    congr 1
    rw [List.drop_eq_getElem_cons (by omega), List.drop_eq_nil_of_le (by omega), List.getD_eq_getElem?_getD, List.getElem?_eq_getElem (by omega)]
    rfl
   have p := (d2.trans (swapL_perm hL hn)).symm
   rw [hm, hlast] at p
   exact p.trans List.perm_append_comm
 ·
  rw [hg, hg, if_neg (by omega), if_neg k2, if_neg (by omega), if_neg (by omega)]
  exact h k k0 (by omega)
theorem drain_sorted {T : List Int} : ∀ (c : Nat) (L : List Nat), L.length ≤ c → HP T L L.length → (drainL T c L).Pairwise (leT T) ∧ (drainL T c L).Perm L
 | 0, L, hc, _ => by
  obtain rfl : L = [] := List.eq_nil_of_length_eq_zero (by omega)
  exact ⟨List.Pairwise.nil, List.Perm.refl _⟩
 | c + 1, L, hc, h => by
  unfold drainL
  split
  ·
   rename_i h0
   obtain rfl := List.eq_nil_of_length_eq_zero h0
   exact ⟨List.Pairwise.nil, List.Perm.refl _⟩
  ·
   rename_i h0
   obtain ⟨p1, p2, p3, p4⟩ := pop_heap (by omega) h
   have hl : ((popL T L).take (L.length - 1)).length = L.length - 1 := by rw [List.length_take]; omega
   obtain ⟨q1, q2⟩ := drain_sorted c ((popL T L).take (L.length - 1)) (by omega) (by rw [hl]; exact p3)
   rw [p2]
   refine ⟨List.pairwise_cons.2 ⟨fun x hx => ?_, q1⟩, (q2.cons _).trans p4.symm⟩
   have hx2 : x ∈ L := p4.mem_iff.2 (List.mem_cons_of_mem _ (q2.mem_iff.1 hx))
   obtain ⟨i, hi, rfl⟩ := List.getElem_of_mem hx2
   have := heap_min h i i (Nat.le_refl _) hi
   rwa [List.getD_eq_getElem?_getD (i := i), List.getElem?_eq_getElem hi] at this
def rankL (T : List Int) (xs : List Nat) : List Nat := drainL T (buildL T xs).length (buildL T xs)
theorem rank_sorted (T : List Int) (xs : List Nat) : (rankL T xs).Pairwise (leT T) ∧ (rankL T xs).Perm xs := by
 obtain ⟨b1, b2⟩ := build_heap (T := T) xs [] (fun i _ h => absurd h (Nat.not_lt_zero _))
 obtain ⟨d1, d2⟩ := drain_sorted _ (buildL T xs) (Nat.le_refl _) b1
 exact ⟨d1, d2.trans (show (buildL T xs).Perm xs from b2)⟩
theorem rank_unique {T : List Int} {l m : List Nat} (hl : l.Pairwise (leT T)) (hm : m.Pairwise (leT T)) (h : l.Perm m) : l = m := h.eq_of_pairwise (fun _ _ _ _ => leT.antisymm) hl hm
end Go.Proofs.YtlapphhcficbjaaGreatDoor

namespace Go.Proofs.YtlapphhcficbjaaGreatDoor
set_option linter.unusedVariables false
set_option linter.unusedSimpArgs false
open Go.RowKit Go.Shelf Bits
open Go.Proofs.YtlapphhcficbjaaGreatDoorW.PrintWords Go.Proofs.YtlapphhcficbjaaGreatDoorW.PrintLast Go.Proofs.YtlapphhcficbjaaGreatDoorW.PrintMore
def RankAt (W : World) (h : Nat) (B : Option Nat) (T : List Int) (L : List Nat) : Prop :=
 ∃ At ct v, W.heap[h]? = some (.cells #[.slice At T.length ct, v] 161 (0, 0)) ∧ (Kd.int .i64).C W At T.length T ∧ (∀ ad, At = some ad → 0 < T.length → ad.block < h) ∧
  Kd.R (Kd.int .i64) 3 W (h + 1) (fun _ => True) v (ints L) ∧ v.ownBlock = B
theorem RankAt.move {w w' : World} {h : Nat} {B : Option Nat} {T : List Int} {L : List Nat} (hR : RankAt w h B T L) (hm : ∀ k, k < w.heap.size → k ≤ h ∨ some k = B → w'.heap[k]? = w.heap[k]?) : RankAt w' h B T L := by
 obtain ⟨At, ct, v, h1, h3, h4, h5, h6⟩ := hR
 refine ⟨At, ct, v, (hm h (blk_lt h1) (.inl (Nat.le_refl _))).trans h1, C_block h3 fun ad e hn => hm _ ?_ (.inl (Nat.le_of_lt (h4 ad e hn))), h4, Kd.R_mono (Kd.R_step (Kd.R_tight rfl h5) fun k hk hlt => hm k hlt (.inr (hk.trans h6))) (fun _ _ => trivial), h6⟩
 exact Nat.lt_trans (h4 ad e hn) (blk_lt h1)
theorem RankAt.drewN {W : World} {h : Nat} {B : Option Nat} {T : List Int} {L : List Nat} (hR : RankAt W h B T L) (q : Nat) : RankAt (W.drewN q) h B T L := hR.move fun _ _ _ => rfl
theorem RankAt.below {w w' : World} {h : Nat} {B : Option Nat} {T : List Int} {L : List Nat} (hR : RankAt w h B T L) (hb : Below w.heap.size w w') : RankAt w' h B T L := hR.move fun k hk _ => hb.block k hk
theorem RankAt.lt {w : World} {h : Nat} {B : Option Nat} {T : List Int} {L : List Nat} (hR : RankAt w h B T L) : h < w.heap.size := by
 obtain ⟨At, ct, v, h1, _⟩ := hR
 exact blk_lt h1
theorem rd_ints (L : List Nat) (i : Nat) : rdOf (0 : Int) (ints L) (i : Int) = ((L.getD i 0 : Nat) : Int) := by
 unfold rdOf
 rw [Int.toNat_natCast, ints_getD]
theorem drew3 (w : World) (a b c : Nat) : ∃ q, ((w.drewN a).drewN b).drewN c = w.drewN q := ⟨a + b + c, by rw [World.drewN_drewN, World.drewN_drewN, Nat.add_assoc]⟩
set_option maxRecDepth 1000000 in
set_option maxHeartbeats 2000000 in
theorem Less_calls (h : Nat) (B : Option Nat) (T : List Int) (L : List Nat) (i k : Nat) (hi : i < L.length) (hk : k < L.length) (hT : ∀ x ∈ L, x < T.length) (w : World) (hR : RankAt w h B T L) :
  Calls Tryz.prog 171 #[.pointer (some ⟨h, 0, none⟩), .int .i64 i, .int .i64 k] w fun e w' => e = .returned (.bool (lessB T (L.getD i 0) (L.getD k 0))) ∧ ∃ q, w' = w.drewN q := by
 obtain ⟨At, ct, v, hB, hCT, hAT, hRL, hvB⟩ := hR
 obtain ⟨b, cap, rfl, _, _, _⟩ := Kd.R_form hRL (by rw [ints_length]; omega)
 have ci := (Kd.R_cell (0 : Int) hRL i (by omega) (by rw [ints_length]; omega)).1
 have ck := (Kd.R_cell (0 : Int) hRL k (by omega) (by rw [ints_length]; omega)).1
 rw [rd_ints, Int.toNat_natCast] at ci ck
 have hl := ints_length L
 have h0 := blk_cell hB 0
 have h1 := blk_cell hB 1
 simp at h0 h1
 have ha : L.getD i 0 < T.length := hT _ (by rw [List.getD_eq_getElem?_getD, List.getElem?_eq_getElem hi]; exact List.getElem_mem _)
 have hb : L.getD k 0 < T.length := hT _ (by rw [List.getD_eq_getElem?_getD, List.getElem?_eq_getElem hk]; exact List.getElem_mem _)
 have HE : Hid (∀ a b, lessB T a b = if T.getD a 0 ≠ T.getD b 0 then decide (T.getD a 0 > T.getD b 0) else decide (a < b)) := Lib.hid fun _ _ => rfl
 generalize L.getD i 0 = x at ci ha ⊢
 generalize L.getD k 0 = y at ck hb ⊢
 obtain ⟨ad, rfl, cx⟩ := at_num hCT x ha
 obtain ⟨ad', e', cy⟩ := at_num hCT y hb
 obtain rfl : ad = ad' := Option.some.inj e'
 have HE2 := Lib.hid (HE.out x y)
 generalize T.getD x 0 = p at cx HE2
 generalize T.getD y 0 = q at cy HE2
 rw [hl] at h1
 generalize L.length = n at hi hk h1
 generalize T.length = m at ha hb h0
 have hi' : (i : Int) < n := by omega
 have hk' : (k : Int) < n := by omega
 have hx' : (x : Int) < m := by omega
 have hy' : (y : Int) < m := by omega
 generalize lessB T x y = r at HE2 ⊢
 clear hB hCT hAT hRL hvB hT hl HE e' hi hk ha hb
 by_cases hpq : p = q
 ·
  have hd : (p != q) = false := by rw [hpq]; simp
  have HR2 : Hid (decide (x < y) = r) := Lib.hid (by rw [HE2.out, if_neg (by simp [hpq])])
  clear HE2 hpq
  go_enter Tryz.func171, Tryz.ntmps171
  go_wp2
  go_quiet (fail)
  go_wp2
  go_quiet (fail)
  go_wp2
  go_ret
  exact ⟨ret_bool HR2.out, _, rfl⟩
 ·
  have hd : (p != q) = true := by simp [hpq]
  have HR2 : Hid (decide (p > q) = r) := Lib.hid (by rw [HE2.out, if_pos hpq])
  clear HE2 hpq
  go_enter Tryz.func171, Tryz.ntmps171
  go_wp2
  go_quiet (fail)
  go_wp2
  go_quiet (fail)
  go_wp2
  go_quiet (fail)
  go_wp2
  go_ret
  exact ⟨ret_bool HR2.out, drew3 _ _ _ _⟩
theorem ints_set (L : List Nat) (i x : Nat) : ints (L.set i x) = (ints L).set i (x : Int) := by simp [ints, List.map_set]
set_option maxRecDepth 1000000 in
set_option maxHeartbeats 4000000 in
theorem Swap_cells (h b cap n : Nat) (vt : Value) (x y : Int) (i k : Nat) (hi : i < n) (hk : k < n) (w : World) (hB : w.heap[h]? = some (.cells #[vt, .slice (some ⟨b, 0, none⟩) n cap] 161 (0, 0)))
  (ci : w.cell? ⟨b, i, none⟩ = some (.int .i64 x)) (ck : w.cell? ⟨b, k, none⟩ = some (.int .i64 y)) (fi : w.frozen? ⟨b, i, none⟩ = false) (fk : w.frozen? ⟨b, k, none⟩ = false) (hhb : h ≠ b) :
  Calls Tryz.prog 174 #[.pointer (some ⟨h, 0, none⟩), .int .i64 i, .int .i64 k] w fun e w' => e = .returned (.tuple #[]) ∧ ∃ q, w' = ((w.setCell ⟨b, i, none⟩ (.int .i64 y)).setCell ⟨b, k, none⟩ (.int .i64 x)).drewN q := by
 obtain ⟨v', hy'⟩ := cell?_setCell_some (w := w) (p := ⟨b, i, none⟩) (x := .int .i64 y) (q := ⟨b, k, none⟩) ck
 have h1 := blk_cell hB 1
 simp at h1
 have hi' : (i : Int) < n := by omega
 have hk' : (k : Int) < n := by omega
 clear hB hi hk
 go_enter Tryz.func174, Tryz.ntmps174
 go_wp2
 go_region
 all_goals (try go_wp2)
 all_goals go_end0
 all_goals exact ⟨rfl, 1, rfl⟩
theorem Swap_calls (h : Nat) (B : Option Nat) (T : List Int) (L : List Nat) (i k : Nat) (hi : i < L.length) (hk : k < L.length) (w : World) (hR : RankAt w h B T L) :
  Calls Tryz.prog 174 #[.pointer (some ⟨h, 0, none⟩), .int .i64 i, .int .i64 k] w fun e w' => e = .returned (.tuple #[]) ∧ RankAt w' h B T (swapL L i k) ∧ KeepBut w w' h B ∧ Below h w w' := by
 obtain ⟨At, ct, v, hB, hCT, hAT, hRL, hvB⟩ := hR
 have hl := ints_length L
 obtain ⟨b, cap, rfl, hb1, hb2, _⟩ := Kd.R_form hRL (by omega)
 obtain ⟨ci, fi⟩ := Kd.R_cell (0 : Int) hRL i (by omega) (by omega)
 obtain ⟨ck, fk⟩ := Kd.R_cell (0 : Int) hRL k (by omega) (by omega)
 rw [rd_ints, Int.toNat_natCast] at ci ck
 rw [Int.toNat_natCast] at fi fk
 have hbB : B = some b := by rw [← hvB]; simp [Value.ownBlock]
 have hhb : h ≠ b := by omega
 refine (Swap_cells h b cap (ints L).length _ _ _ i k (by omega) (by omega) w hB ci ck fi fk hhb).mono ?_
 rintro e w' ⟨rfl, q, rfl⟩
 obtain ⟨p1, g1⟩ := Kd.R_put hRL (i : Int) ((L.getD k 0 : Nat) : Int)
 rw [Int.toNat_natCast] at p1 g1
 have e1 : (ints L).length = ((ints L).set i ((L.getD k 0 : Nat) : Int)).length := by simp
 rw [e1] at p1
 obtain ⟨p2, g2⟩ := Kd.R_put p1 (k : Int) ((L.getD i 0 : Nat) : Int)
 rw [Int.toNat_natCast] at p2 g2
 refine ⟨rfl, ⟨At, ct, _, blk_far (blk_far hB hhb _) hhb _, C_block hCT fun ad e hn => ?_, hAT, ?_, hvB⟩, ?_, ?_⟩
 ·
  have := hAT ad e hn
  exact (Below.heap_setCell _ _ _ _ (by simp; omega)).trans (Below.heap_setCell _ _ _ _ (by simp; omega))
 ·
  unfold swapL
  rw [ints_set, ints_set]
  rw [← e1] at p2
  exact Kd.R_drewN p2 q
 ·
  rw [hbB]
  exact (KeepBut.of_grown g1 h).trans (KeepBut.of_grown g2 h) (.inl rfl)
 ·
  exact pw_below_drewN (((Below.refl h w).setCell (p := ⟨b, i, none⟩) (by simp; omega) _).setCell (p := ⟨b, k, none⟩) (by simp; omega) _) q
theorem mLess (h : Nat) : ∀ w, Sem.run Tryz.prog (method 315 159 (.pointer (some ⟨h, 0, none⟩)) "Less") w = .ok (171, .pointer (some ⟨h, 0, none⟩)) w := fun _ => by kernel_rfl
theorem mSwap (h : Nat) : ∀ w, Sem.run Tryz.prog (method 315 159 (.pointer (some ⟨h, 0, none⟩)) "Swap") w = .ok (174, .pointer (some ⟨h, 0, none⟩)) w := fun _ => by kernel_rfl
set_option maxRecDepth 1000000 in
set_option maxHeartbeats 4000000 in
theorem up_calls (h : Nat) (B : Option Nat) (T : List Int) (L : List Nat) (j : Nat) (hj : j < L.length) (h16 : L.length ≤ 1000) (hT : ∀ x ∈ L, x < T.length) (w : World) (hR : RankAt w h B T L) :
  Calls Tryz.prog 129 #[.iface 159 (.pointer (some ⟨h, 0, none⟩)), .int .i64 j] w fun e w' => e = .returned (.tuple #[]) ∧ RankAt w' h B T (upL T (j + 1) L j) ∧ KeepBut w w' h B ∧ Below h w w' := by
 have mL := mLess h
 have mS := mSwap h
 have HT := Lib.hid hT
 have HJ := Lib.hid hj
 have HRR := Lib.hid hR
 clear hR hT hj
 go_enter Tryz.func129, Tryz.ntmps129
 go_wp2
 go_loopw [1] (fun v wr => ∃ (i c : Nat) (M : List Nat), v = .int .i64 i ∧ i < c ∧ i < M.length ∧ Hid (M.length = L.length ∧ (∀ x ∈ M, x < T.length) ∧ upL T c M i = upL T (j + 1) L j ∧ RankAt wr h B T M ∧ KeepBut w wr h B ∧ Below h w wr)) (fun v _ => (intOf v).toNat)
 case atStart => exact ⟨j, j + 1, L, rfl, by omega, HJ.out, Lib.hid ⟨rfl, HT.out, rfl, HRR.out, KeepBut.refl _ _ _, Below.refl _ _⟩⟩
 case round =>
  obtain ⟨i, c, M, rfl, hic, hiM, HX⟩ := hrel
  obtain ⟨c, rfl⟩ : ∃ c', c = c' + 1 := ⟨c - 1, by omega⟩
  have hM := HX.out.1
  have hq : ((i : Int) - 1).tdiv 2 = (((i - 1) / 2 : Nat) : Int) := by
   cases i with
   | zero => rfl
   | succ n =>
    rw [show ((n + 1 : Nat) : Int) - 1 = ((n : Nat) : Int) by omega]
    rfl
  by_cases h0 : (i - 1) / 2 = i
  ·
   obtain rfl : i = 0 := by omega
   go_wp2
   go_end0
   have hE : upL T (c + 1) M 0 = M := by unfold upL; rw [if_pos (.inl rfl)]
   obtain ⟨_, _, e, hR, hK, hB⟩ := HX.out
   rw [← e, hE]
   exact ⟨rfl, hR, hK, hB⟩
  ·
   have hi0 : 0 < i := by omega
   have hpi : (i - 1) / 2 < i := by omega
   have hne : ((((i - 1) / 2 : Nat) : Int) == (i : Int)) = false := by rw [beq_eq_false_iff_ne]; omega
   generalize hp : (i - 1) / 2 = p at *
   have HLess := Lib.hid (fun (W : World) (hW : RankAt W h B T M) => Less_calls h B T M i p hiM (by omega) HX.out.2.1 W hW)
   cases hl : lessB T (M.getD i 0) (M.getD p 0) with
   | false =>
    rw [hl] at HLess
    go_wp2_with (go_at_call 171; refine (HLess.out _ HX.out.2.2.2.1).mono ?_; rintro e w' ⟨rfl, q, rfl⟩)
    go_end0
    have hE : upL T (c + 1) M i = M := by unfold upL; rw [hp, if_pos (.inr hl)]
    obtain ⟨_, _, e, hR, hK, hB⟩ := HX.out
    rw [← e, hE]
    exact ⟨rfl, hR.drewN _, keep_drewN hK _, pw_below_drewN hB _⟩
   | true =>
    rw [hl] at HLess
    have HSwap := Lib.hid (fun (W : World) (hW : RankAt W h B T M) => Swap_calls h B T M p i (by omega) hiM W hW)
    have hE : upL T (c + 1) M i = upL T c (swapL M p i) p := by
     conv => lhs; unfold upL
     rw [hp, hl, if_neg (fun h => h.elim (fun h => absurd h (by omega)) (fun h => by cases h))]
    have HE := Lib.hid hE
    clear hE hl
    go_wp2_with (first | (go_at_call 171; refine (HLess.out _ HX.out.2.2.2.1).mono ?_; rintro e w' ⟨rfl, q, rfl⟩) | (go_at_call 174; refine (HSwap.out _ (HX.out.2.2.2.1.drewN q)).mono ?_; rintro e w2 ⟨rfl, hR2, hK2, hB2⟩))
    go_roundw
    case rel =>
     obtain ⟨x1, x2, x3, x4, x5, x6⟩ := HX.out
     exact ⟨p, c, swapL M p i, rfl, by omega, by rw [length_swapL]; omega, Lib.hid ⟨by rw [length_swapL]; exact x1, fun x hx => x2 x (mem_swapL (by omega) hiM hx), by rw [← x3, HE.out], hR2, (keep_drewN x5 q).trans hK2 (.inl rfl), (pw_below_drewN x6 q).trans hB2⟩⟩
    case measure => simp [intOf]; omega
end Go.Proofs.YtlapphhcficbjaaGreatDoor
