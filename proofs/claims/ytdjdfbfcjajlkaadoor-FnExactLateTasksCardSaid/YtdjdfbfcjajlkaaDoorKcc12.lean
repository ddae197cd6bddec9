/- Parts of the proof, laid as one text by a program of mine. -/
import Derived.Test.YtdjdfbfcjajlkaaDoorKcc7
import Derived.Test.YtdjdfbfcjajlkaaDoorKcc11
import Derived.Test.YtdjdfbfcjajlkaaDoorKcc6
import Derived.Test.YtdjdfbfcjajlkaaDoorKcc8
import Derived.Deep.QuietTactic
import Derived.BigQuiet
namespace Go.Proofs.YtdjdfbfcjajlkaaDoor
set_option linter.unusedVariables false
set_option linter.unusedSimpArgs false
open Go.RowKit Go.Shelf Bits
open Go.Proofs.YtdjdfbfcjajlkaaDoorW.PrintWords Go.Proofs.YtdjdfbfcjajlkaaDoorW.PrintLast Go.Proofs.YtdjdfbfcjajlkaaDoorW.PrintMore
open PFnValidLog
theorem admN_cnt {g : List Tk} (hg : TOk g) (rm : List Int) (wk : Int) (r : List Nat) (l : List Nat) : ∀ j, j ≤ l.length → (admN g rm wk (cnt g r) (l.take j)).1 = cnt g (r ++ (admN g rm wk (cnt g r) (l.take j)).2)
 | 0, _ => by simp [admN]
 | j + 1, hj => by
  have h1 := admN_cnt hg rm wk r l j (by omega)
  rw [List.take_succ_eq_append_getElem (by omega), admN_snoc]
  generalize admN g rm wk (cnt g r) (l.take j) = st at h1
  unfold admStep
  split
  ·
   show st.1.add _ _ 1 = cnt g (r ++ (st.2 ++ [l[j]]))
   rw [← List.append_assoc, cnt_snoc (p := (rdTk g l[j]).f2.toNat) _ (by have := hg.2.2.1 l[j]; omega), h1]
  ·
   exact h1
theorem admFold_full {g : List Tk} (rm : List Int) {wk : Int} {st : Ct × List Nat} (h : wk ≤ st.1.t) : ∀ l : List Nat, l.foldl (admStep g rm wk) st = st
 | [] => rfl
 | i :: l => by
  have e : admStep g rm wk st i = st := by
   unfold admStep Ct.can
   rw [decide_eq_false (by omega), Bool.false_and]
   rfl
  rw [List.foldl_cons, e]
  exact admFold_full rm h l
theorem admN_full {g : List Tk} (rm : List Int) {wk : Int} (c : Ct) (l : List Nat) (j : Nat) (h : wk ≤ (admN g rm wk c (l.take j)).1.t) : admN g rm wk c l = admN g rm wk c (l.take j) := by
 conv => lhs; rw [← List.take_append_drop j l]
 unfold admN at h ⊢
 rw [List.foldl_append]
 exact admFold_full rm h _
theorem admN_sub (g : List Tk) (rm : List Int) (wk : Int) (c : Ct) (l : List Nat) : ∀ j, j ≤ l.length → ∀ i ∈ (admN g rm wk c (l.take j)).2, i ∈ l
 | 0, _ => by simp [admN]
 | j + 1, hj => by
  have h1 := admN_sub g rm wk c l j (by omega)
  rw [List.take_succ_eq_append_getElem (by omega), admN_snoc]
  unfold admStep
  split
  ·
   intro i hi
   rcases List.mem_append.1 hi with h | h
   ·
    exact h1 i h
   ·
    rw [List.mem_singleton] at h
    rw [h]
    exact List.getElem_mem _
  ·
   exact h1
theorem cnt_small100 {g : List Tk} (hg : TOk g) {l : List Nat} (hl : l.length ≤ 50) : (cnt g l).small 100 := by
 refine ⟨⟨?_, ?_⟩, fun j => ?_⟩
 ·
  show -100 ≤ (l.length : Int)
  omega
 ·
  show (l.length : Int) ≤ 100
  omega
 ·
  have := usedS_bound hg j l
  show -(1000 * 100) ≤ usedS g l j ∧ usedS g l j ≤ 1000 * 100
  omega
structure Two (W : World) (base : Nat) (u v : Value) (xs ys : List Int) : Prop where
 a : Kd.R (Kd.int .i64) 3 W base (fun _ => True) u xs
 b : Kd.R (Kd.int .i64) 3 W base (fun _ => True) v ys
 ne : ∀ k, u.ownBlock = some k → v.ownBlock ≠ some k
theorem Two.below {W W' : World} {base : Nat} {u v : Value} {xs ys : List Int} (h : Two W base u v xs ys) (hb : Below W.heap.size W W') : Two W' base u v xs ys := ⟨Kd.R_below h.a hb, Kd.R_below h.b hb, h.ne⟩
theorem Two.swap {W : World} {base : Nat} {u v : Value} {xs ys : List Int} (h : Two W base u v xs ys) : Two W base v u ys xs := ⟨h.b, h.a, fun k h1 h2 => h.ne k h2 h1⟩
theorem R_lt {W : World} {base : Nat} {u : Value} {xs : List Int} (h : Kd.R (Kd.int .i64) 3 W base (fun _ => True) u xs) {k : Nat} (hk : u.ownBlock = some k) : k < W.heap.size := ((Kd.R_bound h).1 k hk).2.2.1
theorem Two.grow {W W1 : World} {base : Nat} {u v u1 : Value} {xs ys xs1 : List Int} (h : Two W base u v xs ys) (h1 : Kd.R (Kd.int .i64) 3 W1 base (fun _ => True) u1 xs1) (hg : W.grownBy W1 u.ownBlock) (hat : u1.ownBlock = u.ownBlock ∨ ∃ b, u1.ownBlock = some b ∧ W.heap.size ≤ b) : Two W1 base u1 v xs1 ys := by
 refine ⟨h1, Kd.R_mono (Kd.R_grown (Kd.R_of_own (ok := fun k => v.ownBlock = some k) (Kd.own_of_R h.b) (fun k hk => hk)) hg (fun k hk e => h.ne k e.symm hk)) (fun _ _ => trivial), fun k hk hv => ?_⟩
 rcases hat with e | ⟨b, e, hb⟩
 ·
  exact h.ne k (e ▸ hk) hv
 ·
  rw [e] at hk
  cases hk
  have := R_lt h.b hv
  omega
set_option maxRecDepth 1000000 in
set_option maxHeartbeats 4000000 in
theorem admit_calls (A : Option Addr) (c : Nat) (g : List Tk) (A1 : Option Addr) (c1 : Nat) (rm : List Int) (A2 : Option Addr) (c2 : Nat) (run : List Nat) (A3 : Option Addr) (c3 : Nat) (l : List Nat) (wk : Int) (hg : TOk g) (hrm : rm.length = 3) (hrn : run.length ≤ 50) (hrg : ∀ i ∈ run, i < g.length) (hl : l.length ≤ 16) (hlt : ∀ i ∈ l, i < g.length) (w : World) (hr : kTk.C w A g.length g) (hr1 : (Kd.int .i64).C w A1 rm.length rm) (hr2 : (Kd.int .i64).C w A2 run.length (ints run)) (hc2 : run.length ≤ c2) (hr3 : (Kd.int .i64).C w A3 l.length (ints l)) :
  Calls Tryd.prog 84 #[.slice A g.length c, .slice A1 rm.length c1, .slice A2 run.length c2, .slice A3 l.length c3, .int .i64 wk] w fun e w' => ∃ v, e = .returned v ∧ Kd.R (Kd.int .i64) 3 w' w.heap.size (fun _ => True) v (ints (admN g rm wk (cnt g run) l).2) ∧ Below w.heap.size w w' := by
 have HR := Lib.hid hr
 have HR1 := Lib.hid hr1
 have HR3 := Lib.hid hr3
 have HG := Lib.hid hg
 have HRM := Lib.hid hrm
 have HRG := Lib.hid hrg
 have HLT := Lib.hid hlt
 have HF := Lib.hid (admN_facts hg rm wk (c := cnt g run) (cnt_small100 hg hrn) l)
 have HCN := Lib.hid (admN_cnt hg rm wk run l)
 have HSUB : Hid (∀ j, j ≤ l.length → ∀ i ∈ (admN g rm wk (cnt g run) (l.take j)).2, i < g.length) := Lib.hid (fun j hj i hi => hlt i (admN_sub g rm wk (cnt g run) l j hj i hi))
 have hBw : Below w.heap.size w (w.alloc (.cells #[] 3)) := (Below.refl _ _).alloc (Nat.le_refl _) _
 have hcp := spec_copyInts.calls A2 c2 (ints run) (ints run) (w.alloc (.cells #[] 3)) (by rw [ints_length]; exact Kd.C_below hr2 hBw) (by rw [ints_length]; exact hc2) (copyInts_some _ (by rw [ints_length]; omega))
 rw [ints_length] at hcp
 have HCP := Lib.hid hcp
 clear hr hr1 hr2 hr3 hg hrm hrg hlt hcp
 go_enter Tryd.func84, Tryd.ntmps84
 go_wp2_with (go_at_call 112; refine HCP.out.mono ?_; rintro e w2 ⟨v0, rfl, hv0, hB2⟩)
 have HO : Kd.R (Kd.int .i64) 3 (w.alloc (.cells #[] 3)) w.heap.size (fun _ => True) (.slice (some ⟨w.heap.size, 0, none⟩) 0 0) (ints []) := Kd.R_of_own (World.ownsRow_lit (base := w.heap.size) (size := 1) w #[] 0 (Nat.le_refl _) (by simp [maxLen]) rfl) (fun _ _ => trivial)
 have HT2 : Two w2 w.heap.size (.slice (some ⟨w.heap.size, 0, none⟩) 0 0) v0 (ints []) (ints run) := ⟨Kd.R_below HO hB2, Kd.R_lower hv0 (by simp), fun k h1 h2 => by
  have h3 := ((Kd.R_bound hv0).1 k h2).2.1
  simp [Value.ownBlock] at h1
  simp at h3
  omega⟩
 have HBW : Below w.heap.size w w2 := hBw.trans (hB2.mono (by simp))
 clear HO hv0 hB2 hBw
 go_loopw [11, 12, 13] (fun out now i wr => ∃ j, j ≤ l.length ∧ i = .int .i64 (j : Nat) ∧ Two wr w.heap.size out now (ints (admN g rm wk (cnt g run) (l.take j)).2) (ints (run ++ (admN g rm wk (cnt g run) (l.take j)).2)) ∧ Below w.heap.size w wr) (fun _ _ i _ => l.length - (intOf i).toNat)
 case atStart => exact ⟨0, Nat.zero_le _, rfl, by simpa [admN] using HT2, HBW⟩
 case round =>
  clear HT2 HBW
  obtain ⟨j, hj, rfl, hT, hB⟩ := hrel
  by_cases hjl : j < l.length
  ·
   have hjj : decide ((j : Int) < (l.length : Int)) = true := decide_eq_true (by omega)
   have hji : (j : Int) < (l.length : Int) := by omega
   obtain ⟨hsm, hln⟩ := HF.out j (by omega)
   have hcn := HCN.out j (by omega)
   have hsub := HSUB.out j (by omega)
   have HSN : Hid (admN g rm wk (cnt g run) (l.take (j + 1)) = admStep g rm wk (admN g rm wk (cnt g run) (l.take j)) (l.getD j 0)) := Lib.hid (by
    rw [List.take_succ_eq_append_getElem hjl, admN_snoc, List.getD_eq_getElem?_getD, List.getElem?_eq_getElem hjl]
    rfl)
   have HFULL := Lib.hid (admN_full rm (g := g) (wk := wk) (cnt g run) l j)
   generalize admN g rm wk (cnt g run) (l.take j) = st at hT hsm hln hcn hsub HSN HFULL
   obtain ⟨cc, out⟩ := st
   have hln : out.length ≤ j := hln
   have hcn : cc = cnt g (run ++ out) := hcn
   subst hcn
   obtain ⟨nw, hnw⟩ : ∃ nw, nw = run ++ out := ⟨_, rfl⟩
   have hnl : nw.length ≤ 80 := by rw [hnw, List.length_append]; omega
   have hnm : ∀ i ∈ nw, i < g.length := fun i hi => by
    rw [hnw] at hi
    rcases List.mem_append.1 hi with h | h
    ·
     exact HRG.out i h
    ·
     exact hsub i h
   have HNM := Lib.hid hnm
   have HNW := Lib.hid hnw
   rw [← hnw] at hT HSN HFULL
   clear hnw hsm hsub hnm
   obtain ⟨An, cnn, rfl, hcap, hCn⟩ := Kd.R_reads hT.b
   rw [ints_length] at hT hCn ⊢
   by_cases hwk : (nw.length : Int) < wk
   ·
    have dwk : decide ((nw.length : Int) < wk) = true := decide_eq_true hwk
    obtain ⟨ad, rfl, cx⟩ := at_set (Kd.C_below HR3.out hB) j hjl
    have hxg : l.getD j 0 < g.length := by
     apply HLT.out
     rw [List.getD_eq_getElem?_getD, List.getElem?_eq_getElem hjl]
     exact List.getElem_mem _
    generalize hxe : l.getD j 0 = x at cx hxg HSN
    have HXE := Lib.hid hxe
    clear hxe
    obtain ⟨adg, A4, c4, rfl, hx0, hx1, hx2, hx3, _⟩ := at_Tk (Kd.C_below HR.out hB) x hxg
    have hxi : (x : Int) < (g.length : Int) := by omega
    obtain ⟨p, hp⟩ : ∃ p : Nat, (rdTk g x).f2 = (p : Int) := ⟨(rdTk g x).f2.toNat, by have := HG.out.2.2.1 x; omega⟩
    have hp3 : p < 3 := by have := HG.out.2.2.1 x; omega
    have hx3b := HG.out.2.2.2.1 x
    have HSN2 : Hid (admN g rm wk (cnt g run) (l.take (j + 1)) = if (cnt g nw).can p (rdTk g x).f3 rm wk then ((cnt g nw).add p (rdTk g x).f3 1, out ++ [x]) else (cnt g nw, out)) := Lib.hid (by rw [HSN.out]; unfold admStep; rw [hp]; rfl)
    rw [hp] at hx2
    go_upto_region 7 with (fail)
    obtain ⟨W1, hW1⟩ : ∃ W1, W1 = wr.alloc (.cells #[.int .i64 (rdTk g x).f0, .slice A4 (rdTk g x).f1.length c4, .int .i64 p, .int .i64 (rdTk g x).f3] 58) := ⟨_, rfl⟩
    have hBa : Below wr.heap.size wr W1 := by rw [hW1]; exact (Below.refl _ _).alloc (Nat.le_refl _) _
    have bb : W1.heap[wr.heap.size]? = some (.cells #[.int .i64 (rdTk g x).f0, .slice A4 (rdTk g x).f1.length c4, .int .i64 p, .int .i64 (rdTk g x).f3] 58 (0, 0)) := by rw [hW1]; exact World.alloc_heap_new _ _
    have b2 : W1.cell? ⟨wr.heap.size, 2, none⟩ = some (.int .i64 p) := (blk_cell bb 2).trans (by simp)
    have b3 : W1.cell? ⟨wr.heap.size, 3, none⟩ = some (.int .i64 (rdTk g x).f3) := (blk_cell bb 3).trans (by simp)
    have HBA := Lib.hid (hB.trans (hBa.mono hB.size))
    have HT1 := Lib.hid (hT.below hBa)
    rw [← hW1]
    obtain ⟨adr, rfl, cr⟩ := at_num (Kd.C_below HR1.out HBA.out) p (by rw [HRM.out]; omega)
    obtain ⟨ad2, e2, cx1⟩ := at_set (Kd.C_below HR3.out HBA.out) j hjl
    cases e2
    rw [HXE.out] at cx1
    have hpr : (p : Int) < (rm.length : Int) := by rw [HRM.out]; omega
    have hub := usedS_bound HG.out p nw
    have HCG := Lib.hid (Kd.C_below HR.out HBA.out)
    obtain ⟨An2, cn2, e2, _, hCn1⟩ := Kd.R_reads HT1.out.b
    rw [ints_length] at e2 hCn1
    cases e2
    have HCN1 := Lib.hid hCn1
    have HCAN : Hid ((cnt g nw).can p (rdTk g x).f3 rm wk = (decide ((nw.length : Int) < wk) && decide (usedS g nw p + (rdTk g x).f3 ≤ rm.getD p 0))) := Lib.hid rfl
    clear hW1 hBa bb hCn1 hCn hT hB hx0 hx1 hx2 hx3 cx hp
    generalize hU : usedS g nw p = U at hub HCAN
    have HU := Lib.hid hU
    generalize (rdTk g x).f3 = f3 at hx3b b3 HCAN HSN2
    generalize rm.getD p 0 = rp at cr HCAN
    clear hU
    have hnl2 : nw.length ≤ 100 := by omega
    have hws : IntKind.i64.wrap (U + f3) = U + f3 := IntWalk.i64_in _ (by omega)
    have hol : (ints out).length < 1000000 := by rw [ints_length]; omega
    have hnl3 : (ints nw).length < 1000000 := by rw [ints_length]; omega
    by_cases hfit : U + f3 ≤ rp
    ·
     have dfit : decide (U + f3 ≤ rp) = true := decide_eq_true hfit
     rw [dwk, dfit] at HCAN
     rw [HCAN.out, Bool.true_and, if_pos rfl] at HSN2
     clear hfit hwk
     go_wp2
     go_quiet ((go_at_call 113; exact Calls.quiet_of_same (used_is U _ _ g _ _ nw p HU HG.out hnl2 HNM.out _ (Kd.C_drewN HCG.out _) (Kd.C_drewN HCN1.out _))))
     clear hws
     have hT2 := HT1.out.below (pw_below_drewN (Below.refl _ _) nq)
     have hB2 := pw_below_drewN HBA.out nq
     go_wp2_with (first
      | (at_builtin; refine ap_int (w0 := w) w.heap.size rfl _ _ rfl u11 (ints out) (x : Int) rfl rfl rfl hT2.a hB2 hB2.size hol ?_; intro v1 w3 hO3 hB3 hg3 hat3; have hT3 := hT2.grow hO3 hg3 hat3; obtain ⟨ad2, e2, cx3⟩ := at_set (Kd.C_below HR3.out hB3) j hjl; cases e2; rw [HXE.out] at cx3)
      | (at_builtin; refine ap_int (w0 := w) w.heap.size rfl _ _ rfl (.slice An nw.length cnn) (ints nw) (x : Int) rfl rfl rfl hT3.b hB3 hB3.size hnl3 ?_; intro v2 w4 hO4 hB4 hg4 hat4; have hT4 := (hT3.swap.grow hO4 hg4 hat4).swap))
     go_roundw
     case rel => exact ⟨j + 1, by omega, by go_num, by rw [HSN2.out]; show Two _ _ _ _ (ints (out ++ [x])) (ints (run ++ (out ++ [x]))); rw [← List.append_assoc, ← HNW.out]; simpa [ints] using hT4, hB4⟩
     case measure => simp [intOf]; omega
    ·
     have dfit : decide (U + f3 ≤ rp) = false := decide_eq_false hfit
     rw [dwk, dfit] at HCAN
     rw [HCAN.out, Bool.true_and, if_neg (by simp)] at HSN2
     clear hfit hwk
     go_wp2
     go_quiet ((go_at_call 113; exact Calls.quiet_of_same (used_is U _ _ g _ _ nw p HU HG.out hnl2 HNM.out _ (Kd.C_drewN HCG.out _) (Kd.C_drewN HCN1.out _))))
     clear hws
     go_wp2
     go_roundw
     case rel => exact ⟨j + 1, by omega, by go_num, by rw [HSN2.out]; show Two _ _ _ _ (ints out) (ints (run ++ out)); rw [← HNW.out]; exact (HT1.out.below (pw_below_drewN (Below.refl _ _) nq)), pw_below_drewN HBA.out nq⟩
     case measure => simp [intOf]; omega
   ·
    have dwk : decide ((nw.length : Int) < wk) = false := decide_eq_false hwk
    have HE : Hid (admN g rm wk (cnt g run) l = (cnt g nw, out)) := Lib.hid (HFULL.out (by show wk ≤ (nw.length : Int); omega))
    go_wp2
    go_ret
    exact ⟨_, rfl, by rw [HE.out]; exact hT.a, hB⟩
  ·
   obtain rfl : j = l.length := by omega
   have hjj : decide ((l.length : Int) < (l.length : Int)) = false := decide_eq_false (by omega)
   rw [List.take_length] at hT
   go_wp2
   go_ret
   exact ⟨_, rfl, hT.a, hB⟩
end Go.Proofs.YtdjdfbfcjajlkaaDoor

namespace Go.Proofs.YtdjdfbfcjajlkaaDoor
set_option linter.unusedVariables false
set_option linter.unusedSimpArgs false
open Go.RowKit Go.Shelf Bits
open Go.Proofs.YtdjdfbfcjajlkaaDoorW.PrintWords Go.Proofs.YtdjdfbfcjajlkaaDoorW.PrintLast Go.Proofs.YtdjdfbfcjajlkaaDoorW.PrintMore
def mostS (g : List Tk) (o : List Int) (i : Nat) : Nat → Int
 | 0 => 0
 | k + 1 => if decide ((i : Int) ∈ (rdTk g k).f1) then max (mostS g o i k) (o.getD k 0) else mostS g o i k
def sStep (g : List Tk) (o : List Int) (i : Nat) : List Int := o.set i (mostS g o i g.length + (rdTk g i).f0)
def tailsSL (g : List Tk) (pre : List Nat) : List Int := pre.foldl (fun o p => sStep g o ((topL g).getD p 0)) (List.replicate g.length 0)
def tailsS (g : List Tk) : List Int := tailsSL g (backL (topL g).length (topL g).length)
theorem mostS_span {g : List Tk} {o : List Int} {n : Nat} {b : Int} (h : Span o n b) (i : Nat) (hb : 0 ≤ b) : ∀ k, 0 ≤ mostS g o i k ∧ mostS g o i k ≤ b
 | 0 => ⟨Int.le_refl _, hb⟩
 | k + 1 => by
  have ih := mostS_span (g := g) h i hb k
  have := h.2 k
  unfold mostS
  split <;> omega
theorem tailsSL_snoc (g : List Tk) (pre : List Nat) (p : Nat) : tailsSL g (pre ++ [p]) = sStep g (tailsSL g pre) ((topL g).getD p 0) := by
 unfold tailsSL
 rw [List.foldl_append]
 rfl
theorem span_zero (n : Nat) : Span (List.replicate n 0) n 0 := ⟨by simp, fun j => by
 rw [List.getD_eq_getElem?_getD, List.getElem?_replicate]
 split <;> simp⟩
theorem tailsSL_span {g : List Tk} (htm : ∀ i, 0 ≤ (rdTk g i).f0 ∧ (rdTk g i).f0 ≤ 20) (pre : List Nat) : Span (tailsSL g pre) g.length (20 * pre.length) := by
 have key : ∀ (pre : List Nat) (o : List Int) (b : Int), 0 ≤ b → Span o g.length b → Span (pre.foldl (fun o p => sStep g o ((topL g).getD p 0)) o) g.length (b + 20 * pre.length) := by
  intro pre
  induction pre with
  | nil =>
   intro o b _ h
   simpa using h
  | cons p pre ih =>
   intro o b hb h
   have h1 := mostS_span (g := g) h ((topL g).getD p 0) hb g.length
   have h2 := htm ((topL g).getD p 0)
   have h4 := ih _ (b + 20) (by omega) (h.set (b' := b + 20) (by omega) (x := mostS g o ((topL g).getD p 0) g.length + (rdTk g ((topL g).getD p 0)).f0) (by omega) ((topL g).getD p 0))
   rw [List.length_cons]
   have e : b + 20 + 20 * (pre.length : Int) = b + 20 * ((pre.length + 1 : Nat) : Int) := by omega
   rw [← e]
   exact h4
 have := key pre (List.replicate g.length 0) 0 (Int.le_refl _) (span_zero _)
 simpa [tailsSL] using this
set_option maxRecDepth 100000 in
set_option maxHeartbeats 8000000 in
theorem stails_calls (A : Option Addr) (c : Nat) (g : List Tk) (hv : specValid g = true) (w : World) (hr : kTk.C w A g.length g) :
  Calls Tryd.prog 101 #[.slice A g.length c] w fun e w' => ∃ v, e = .returned v ∧ Kd.R (Kd.int .i64) 3 w' w.heap.size (fun _ => True) v (tailsS g) ∧ Below w.heap.size w w' := by
 have htm := specValid_time hv
 have h8 : g.length ≤ 8 := by
  unfold specValid tasksFineB at hv
  simp at hv
  exact hv.1.2
 have HR := Lib.hid hr
 have HTM := Lib.hid htm
 have hmk := run_makeI g.length (by omega)
 clear hr htm hv
 go_enter Tryd.func101, Tryd.ntmps101
 go_wp2_with (go_at_call 81; refine (topOrder_calls _ _ _ h8 _ (Kd.C_below HR.out ((Below.refl _ w).alloc (Nat.le_refl _) _))).mono ?_; rintro e w2 ⟨v2, rfl, hR2, hB2⟩; have HR2 := Lib.hid hR2; obtain ⟨A2, c2, rfl, hl2, hC2⟩ := Kd.R_reads hR2; rw [ints_length] at hl2; rw [ints_length] at HR2; rw [ints_length] at hC2; rw [ints_length]; have HC2 := Lib.hid hC2; have HB2 := Lib.hid hB2; clear hR2 hC2 hB2)
 have hz1 : (w.alloc (.cells (zeroI g.length) 3)).heap.size = w.heap.size + 1 := by simp
 have hB2 := HB2.out
 rw [hz1] at hB2
 have hB : Below w.heap.size w w2 := ((Below.refl _ w).alloc (Nat.le_refl _) (.cells (zeroI g.length) 3)).trans (hB2.mono (by omega))
 have hI0 : IRow w2 w.heap.size (List.replicate g.length 0) := (hB2.block w.heap.size (by omega)).trans (World.alloc_heap_new w _)
 have hL := topN_le g g.length
 have hin := (topN_facts g g.length).2.1
 have hA2 : ∀ ad, A2 = some ad → 0 < (topL g).length → ad.block ≠ w.heap.size := fun ad e hl => by
  have := R_blk HR2.out (by rw [ints_length]; exact hl) ad e
  rw [hz1] at this
  omega
 have HA2 := Lib.hid hA2
 have HIN := Lib.hid hin
 clear hA2 hin hmk hz1 hB2
 replace hL : (topL g).length ≤ g.length := hL
 go_loopw [5, 6, 7, 8] (fun i at_ mo k wr => ∃ m, m ≤ (topL g).length ∧ i = .int .i64 (((topL g).length : Int) - 1 - (m : Nat)) ∧ IRow wr w.heap.size (tailsSL g (backL (topL g).length m)) ∧ Below w.heap.size w wr ∧ (Kd.int .i64).C wr A2 (topL g).length (ints (topL g))) (fun i _ _ _ _ => (intOf i + 1).toNat)
 case atStart => exact ⟨0, Nat.zero_le _, by simp; unfold wrap64; omega, hI0, hB, HC2.out⟩
 case round =>
  clear hI0 hB
  obtain ⟨m, hm, rfl, hI, hB, hC⟩ := hrel
  by_cases hml : m < (topL g).length
  ·
   obtain ⟨p, hp⟩ : ∃ p : Nat, p = (topL g).length - 1 - m := ⟨_, rfl⟩
   have ep : ((topL g).length : Int) - 1 - (m : Nat) = (p : Int) := by omega
   have hpl : p < (topL g).length := by omega
   have HSN : Hid (tailsSL g (backL (topL g).length (m + 1)) = sStep g (tailsSL g (backL (topL g).length m)) ((topL g).getD p 0)) := Lib.hid (by rw [backL_succ, tailsSL_snoc, ← hp])
   have HP := Lib.hid hp
   have hat : (topL g).getD p 0 < g.length := by
    apply HIN.out
    rw [List.getD_eq_getElem?_getD, List.getElem?_eq_getElem hpl]
    exact List.getElem_mem _
   have hsp := tailsSL_span HTM.out (backL (topL g).length m)
   rw [backL_length] at hsp
   obtain ⟨ad2, rfl, hc2⟩ := at_set hC p hpl
   rw [ep]
   have HC := Lib.hid hC
   clear hp ep hC
   generalize tailsSL g (backL (topL g).length m) = o at hI HSN hsp
   have HCI : Hid (∀ k : Nat, k < g.length → ∃ ad A1 c1, A = some ad ∧ wr.cell? ⟨(ad.add (k * 4)).block, (ad.add (k * 4)).off + 1, none⟩ = some (.slice A1 (rdTk g k).f1.length c1) ∧ (Kd.int .i64).C wr A1 (rdTk g k).f1.length (rdTk g k).f1) := Lib.hid fun k hk => by
    obtain ⟨ad, A1, c1, e, _, h1, _, _, _, h2⟩ := at_Tk (Kd.C_below HR.out hB) k hk
    exact ⟨ad, A1, c1, e, h1, h2⟩
   generalize hae : (topL g).getD p 0 = at_ at hc2 hat HSN
   have HAE := Lib.hid hae
   clear hae
   go_wp2
   obtain ⟨wo, rfl⟩ : ∃ wo : World, wo = wr := ⟨_, rfl⟩
   go_loopw [7, 8] (fun mo k wi => ∃ j, j ≤ g.length ∧ k = .int .i64 (j : Nat) ∧ mo = .int .i64 (mostS g o at_ j) ∧ wi = wo) (fun _ k _ => g.length - (intOf k).toNat)
   case atStart => exact ⟨0, Nat.zero_le _, rfl, rfl, rfl⟩
   case round =>
    obtain ⟨j, hj, rfl, rfl, rfl⟩ := hrel
    have hms := mostS_span (g := g) hsp at_ (by omega) j
    have HMS : Hid (mostS g o at_ (j + 1) = if decide ((at_ : Int) ∈ (rdTk g j).f1) then max (mostS g o at_ j) (o.getD j 0) else mostS g o at_ j) := Lib.hid rfl
    by_cases hjl : j < g.length
    ·
     obtain ⟨ad, A1, c1, rfl, hc1, hC1⟩ := HCI.out j hjl
     have hjj : decide ((j : Int) < (g.length : Int)) = true := decide_eq_true (by omega)
     have hoj := hsp.2 j
     have cR := hI.cell j (by have := hsp.1; omega)
     generalize mostS g o at_ j = mj at hms HMS
     generalize o.getD j 0 = oj at hoj cR HMS
     cases hm : decide ((at_ : Int) ∈ (rdTk g j).f1)
     ·
      have HM := Lib.hid hm
      rw [hm] at HMS
      clear hm
      generalize rdTk g j = t at hc1 hC1 HM
      go_wp2_with (go_at_call 110; with_reducible refine (isIn_is _ _ _ _ _ HM _ hC1).mono ?_; rintro e w' ⟨rfl, rfl⟩)
      go_roundw
      case rel => exact ⟨j + 1, by omega, by go_num, by rw [HMS.out]; rfl, trivial⟩
      case measure => simp [intOf]; omega
     ·
      have HM := Lib.hid hm
      rw [hm] at HMS
      clear hm
      generalize rdTk g j = t at hc1 hC1 HM
      go_wp2_with (go_at_call 110; with_reducible refine (isIn_is _ _ _ _ _ HM _ hC1).mono ?_; rintro e w' ⟨rfl, rfl⟩)
      all_goals
       go_roundw
       case rel => exact ⟨j + 1, by omega, by go_num, by rw [HMS.out]; simp only [if_true]; congr 1; first | omega | (split <;> omega), trivial⟩
       case measure => simp [intOf]; omega
    ·
     obtain rfl : j = g.length := by omega
     have hjj : decide ((g.length : Int) < (g.length : Int)) = false := decide_eq_false (by omega)
     obtain ⟨adg, A1, c1, rfl, hx0, _⟩ := at_Tk (Kd.C_below HR.out hB) at_ hat
     have htt := HTM.out at_
     have hol := hsp.1
     have HSS : Hid (sStep g o at_ = o.set at_ (mostS g o at_ g.length + (rdTk g at_).f0)) := Lib.hid rfl
     have fR := hI.frozen at_
     have cR := hI.cell at_ (by omega)
     generalize mostS g o at_ g.length = mj at hms HSS
     generalize (rdTk g at_).f0 = tm at hx0 htt HSS
     generalize o.getD at_ 0 = ov at cR
     have hatl : (at_ : Int) < (g.length : Int) := by omega
     clear HMS
     go_wp2
     go_roundw
     case rel =>
      refine ⟨m + 1, by omega, ?_, ?_, hB.setCell (p := ⟨w.heap.size, at_, none⟩) (Nat.le_refl _) _, C_block HC.out fun ad e hn => heap_far _ _ _ _ (HA2.out ad e hn)⟩
      ·
       have := HP.out
       congr 1
       omega
      ·
       rw [HSN.out, HSS.out]
       exact hI.set at_ (mj + tm)
     case measure => first | (simp [intOf]; done) | (simp [intOf]; omega)
  ·
   obtain rfl : m = (topL g).length := by omega
   have ep : ((topL g).length : Int) - 1 - ((topL g).length : Nat) = -1 := by omega
   rw [ep]
   have hlen := (tailsSL_span HTM.out (backL (topL g).length (topL g).length)).1
   go_wp2
   go_ret
   refine ⟨_, rfl, ?_, hB⟩
   have hown := hI.own (base := w.heap.size) (Nat.le_refl _) (by rw [hlen]; omega)
   rw [hlen] at hown
   exact hown
end Go.Proofs.YtdjdfbfcjajlkaaDoor

namespace Go.Proofs.YtdjdfbfcjajlkaaDoor
set_option linter.unusedVariables false
set_option linter.unusedSimpArgs false
open Go.RowKit Go.Shelf Bits
open Go.Proofs.YtdjdfbfcjajlkaaDoorW.PrintWords Go.Proofs.YtdjdfbfcjajlkaaDoorW.PrintLast Go.Proofs.YtdjdfbfcjajlkaaDoorW.PrintMore
set_option maxRecDepth 1000000 in
set_option maxHeartbeats 2000000 in
theorem sooner_calls (A : Option Addr) (c : Nat) (T : List Int) (a b : Nat) (ha : a < T.length) (hb : b < T.length) (w : World) (hr : (Kd.int .i64).C w A T.length T) :
  Calls Tryd.prog 114 #[.slice A T.length c, .int .i64 a, .int .i64 b] w fun e w' => e = .returned (.bool (lessB T a b)) ∧ ∃ q, w' = w.drewN q := by
 obtain ⟨ad, rfl, ca⟩ := at_num hr a ha
 obtain ⟨ad', e', cb⟩ := at_num hr b hb
 obtain rfl : ad = ad' := Option.some.inj e'
 have HE : Hid (lessB T a b = if T.getD a 0 ≠ T.getD b 0 then decide (T.getD a 0 > T.getD b 0) else decide (a < b)) := Lib.hid rfl
 generalize T.getD a 0 = x at ca HE
 generalize T.getD b 0 = y at cb HE
 generalize T.length = n at ha hb
 have ha' : (a : Int) < n := by omega
 have hb' : (b : Int) < n := by omega
 clear hr e'
 by_cases h1 : y < x
 ·
  have d1 : decide (y < x) = true := decide_eq_true h1
  have HL : Hid (lessB T a b = true) := Lib.hid (by rw [HE.out, if_pos (by omega)]; exact decide_eq_true h1)
  clear h1
  go_enter Tryd.func114, Tryd.ntmps114
  go_wp2
  go_quiet (fail)
  go_wp2
  go_ret
  exact ⟨ret_bool HL.out.symm, ⟨_, rfl⟩⟩
 ·
  have d1 : decide (y < x) = false := decide_eq_false h1
  by_cases h2 : x = y
  ·
   have d2 : (x == y) = true := beq_iff_eq.2 h2
   have HL : Hid (lessB T a b = decide (a < b)) := Lib.hid (by rw [HE.out, if_neg (by omega)])
   clear h1 h2 HE
   go_enter Tryd.func114, Tryd.ntmps114
   go_wp2
   go_quiet (fail)
   go_wp2
   go_ret
   exact ⟨ret_bool (by rw [HL.out]), ⟨_, rfl⟩⟩
  ·
   have d2 : (x == y) = false := by rw [beq_eq_false_iff_ne]; exact h2
   have HL : Hid (lessB T a b = false) := Lib.hid (by rw [HE.out, if_pos h2]; exact decide_eq_false h1)
   clear h1 h2 HE
   go_enter Tryd.func114, Tryd.ntmps114
   go_wp2
   go_quiet (fail)
   go_wp2
   go_ret
   exact ⟨ret_bool HL.out.symm, ⟨_, rfl⟩⟩
theorem sooner_is (r : Bool) (A : Option Addr) (c : Nat) (T : List Int) (a b : Nat) (h : Hid (lessB T a b = r)) (ha : a < T.length) (hb : b < T.length) (w : World) (hr : (Kd.int .i64).C w A T.length T) :
  Calls Tryd.prog 114 #[.slice A T.length c, .int .i64 a, .int .i64 b] w fun e w' => e = .returned (.bool r) ∧ ∃ q, w' = w.drewN q :=
 (sooner_calls A c T a b ha hb w hr).mono fun e w' ⟨he, hw⟩ => ⟨by rw [he, h.out], hw⟩
theorem R_get {W : World} {base g n cap : Nat} {L : List Nat} (h : Kd.R (Kd.int .i64) 3 W base (fun _ => True) (.slice (some ⟨g, 0, none⟩) n cap) (ints L)) (i : Nat) (hi : i < n) : W.cell? ⟨g, i, none⟩ = some (.int .i64 ((L.getD i 0 : Nat) : Int)) ∧ W.frozen? ⟨g, i, none⟩ = false := by
 have := Kd.R_celln (0 : Int) h (i : Int) (by omega) (by omega)
 rw [rd_ints, Int.toNat_natCast] at this
 exact this
theorem R_set {W : World} {base g n cap : Nat} {L : List Nat} (h : Kd.R (Kd.int .i64) 3 W base (fun _ => True) (.slice (some ⟨g, 0, none⟩) n cap) (ints L)) (i x : Nat) : Kd.R (Kd.int .i64) 3 (W.setCell ⟨g, i, none⟩ (.int .i64 (x : Int))) base (fun _ => True) (.slice (some ⟨g, 0, none⟩) n cap) (ints (L.set i x)) := by
 have := Kd.R_putn h (i : Int) (x : Int)
 rw [Int.toNat_natCast] at this
 rw [show ints (L.set i x) = (ints L).set i (x : Int) by simp [ints, List.map_set]]
 exact this
theorem length_ints_R {W : World} {base : Nat} {A : Option Addr} {n cap : Nat} {L : List Nat} (h : Kd.R (Kd.int .i64) 3 W base (fun _ => True) (.slice A n cap) (ints L)) : n = L.length := by
 have := (Kd.R_reads' h).1
 rwa [ints_length] at this
def bubL (T : List Int) : Nat → List Nat → List Nat
 | 0, L => L
 | k + 1, L => if lessB T (L.getD (k + 1) 0) (L.getD k 0) then bubL T k (swapL L k (k + 1)) else L
def insL (T : List Int) (xs : List Nat) : List Nat := xs.foldl (fun out x => bubL T out.length (out ++ [x])) []
theorem insL_snoc (T : List Int) (l : List Nat) (x : Nat) : insL T (l ++ [x]) = bubL T (insL T l).length (insL T l ++ [x]) := by
 unfold insL
 rw [List.foldl_append]
 rfl
theorem bubL_perm (T : List Int) : ∀ (k : Nat) (L : List Nat), k < L.length → (bubL T k L).Perm L
 | 0, L, _ => List.Perm.refl _
 | k + 1, L, h => by
  unfold bubL
  split
  ·
   exact (bubL_perm T k _ (by rw [length_swapL]; omega)).trans (swapL_perm (by omega) h)
  ·
   exact List.Perm.refl _
theorem insL_permA (T : List Int) : ∀ (xs acc : List Nat), (xs.foldl (fun out x => bubL T out.length (out ++ [x])) acc).Perm (acc ++ xs)
 | [], acc => by simp
 | x :: xs, acc => by
  refine (insL_permA T xs _).trans ?_
  rw [show acc ++ x :: xs = (acc ++ [x]) ++ xs by simp]
  exact (bubL_perm T _ _ (by simp)).append_right xs
theorem insL_perm (T : List Int) (xs : List Nat) : (insL T xs).Perm xs := by simpa [insL] using insL_permA T xs []
structure BHeap (w : World) (A2 : Option Addr) (T : List Int) (v : Value) (L : List Nat) (W : World) : Prop where
 hO : Kd.R (Kd.int .i64) 3 W w.heap.size (fun _ => True) v (ints L)
 hB : Below w.heap.size w W
 hC : (Kd.int .i64).C W A2 T.length T
 hA : ∀ ad, A2 = some ad → 0 < T.length → ad.block < W.heap.size ∧ some ad.block ≠ v.ownBlock
 hT : ∀ x ∈ L, x < T.length
theorem BHeap.drewN {w : World} {A2 : Option Addr} {T : List Int} {v : Value} {L : List Nat} {W : World} (h : BHeap w A2 T v L W) (q : Nat) : BHeap w A2 T v L (W.drewN q) := ⟨Kd.R_drewN h.hO q, pw_below_drewN h.hB q, Kd.C_drewN h.hC q, h.hA, h.hT⟩
theorem BHeap.put {w : World} {A2 : Option Addr} {T : List Int} {g n cap : Nat} {L : List Nat} {W : World} (h : BHeap w A2 T (.slice (some ⟨g, 0, none⟩) n cap) L W) (i x : Nat) (hx : x < T.length) (hp : 0 < L.length) : BHeap w A2 T (.slice (some ⟨g, 0, none⟩) n cap) (L.set i x) (W.setCell ⟨g, i, none⟩ (.int .i64 (x : Int))) := by
 have hg : w.heap.size ≤ g := Kd.R_base h.hO g (by simp [Value.ownBlock])
 refine ⟨R_set h.hO i x, h.hB.setCell (p := ⟨g, i, none⟩) hg _, C_block h.hC fun ad e hn => heap_far _ _ _ _ (fun e2 => (h.hA ad e hn).2 (by rw [e2]; simp [Value.ownBlock])), fun ad e hn => ⟨by have := (h.hA ad e hn).1; simpa [World.setCell] using this, (h.hA ad e hn).2⟩, fun y hy => ?_⟩
 rcases List.mem_or_eq_of_mem_set hy with hy | rfl
 ·
  exact h.hT y hy
 ·
  exact hx
theorem BHeap.push {w : World} {A2 : Option Addr} {T : List Int} {v v1 : Value} {L : List Nat} {W W' : World} (h : BHeap w A2 T v L W) (x : Nat) (hx : x < T.length) (hO : Kd.R (Kd.int .i64) 3 W' w.heap.size (fun _ => True) v1 (ints L ++ [(x : Int)])) (hB : Below w.heap.size w W') (hg : W.grownBy W' v.ownBlock) (hat : v1.ownBlock = v.ownBlock ∨ ∃ b, v1.ownBlock = some b ∧ W.heap.size ≤ b) : BHeap w A2 T v1 (L ++ [x]) W' := by
 refine ⟨by rw [show ints (L ++ [x]) = ints L ++ [(x : Int)] by simp [ints]]; exact hO, hB, C_block h.hC fun ad e hn => hg.block _ (h.hA ad e hn).1 (h.hA ad e hn).2, fun ad e hn => ⟨Nat.lt_of_lt_of_le (h.hA ad e hn).1 hg.size, fun e2 => ?_⟩, fun y hy => ?_⟩
 ·
  have h1 := h.hA ad e hn
  rcases hat with hat | ⟨b, hb, hb2⟩
  ·
   rw [hat] at e2
   exact h1.2 e2
  ·
   rw [hb] at e2
   cases e2
   omega
 ·
  rcases List.mem_append.1 hy with hy | hy
  ·
   exact h.hT y hy
  ·
   rw [List.mem_singleton.1 hy]
   exact hx
set_option maxRecDepth 1000000 in
set_option maxHeartbeats 8000000 in
theorem byTail_calls (A : Option Addr) (c : Nat) (g : List Tk) (hv : specValid g = true) (A' : Option Addr) (c' : Nat) (xs : List Nat) (hxs : ∀ x ∈ xs, x < g.length) (hxl : xs.length ≤ 100) (w : World) (hr : kTk.C w A g.length g) (hr' : (Kd.int .i64).C w A' xs.length (ints xs)) :
  Calls Tryd.prog 85 #[.slice A g.length c, .slice A' xs.length c'] w fun e w' => ∃ v, e = .returned v ∧ Kd.R (Kd.int .i64) 3 w' w.heap.size (fun _ => True) v (ints (insL (tailsS g) xs)) ∧ Below w.heap.size w w' := by
 have hTl : (tailsS g).length = g.length := (tailsSL_span (specValid_time hv) _).1
 have HST := Lib.hid (fun (W : World) (h : kTk.C W A g.length g) => stails_calls A c g hv W h)
 have HR := Lib.hid hr
 have HR' := Lib.hid hr'
 have HXS := Lib.hid hxs
 have HTL := Lib.hid hTl
 clear hr hr' hxs hTl hv
 go_enter Tryd.func85, Tryd.ntmps85
 go_wp2_with (go_at_call 101; refine (HST.out _ (Kd.C_below HR.out ((Below.refl _ w).alloc (Nat.le_refl _) _))).mono ?_; rintro e w2 ⟨v2, rfl, hR2, hB2⟩; have HR2 := Lib.hid hR2; obtain ⟨A2, c2, rfl, hl2, hC2⟩ := Kd.R_reads hR2; have HC2 := Lib.hid hC2; have HB2 := Lib.hid hB2; clear hR2 hC2 hB2)
 have HTL2 := Lib.hid HTL.out
 generalize hTE : tailsS g = T at HTL HR2 HC2 hl2 HST
 have HTE := Lib.hid hTE
 clear hTE
 have hBH : BHeap w A2 T (.slice (some ⟨w.heap.size, 0, none⟩) 0 0) [] w2 := by
  have hB1 : Below w.heap.size w (w.alloc (.cells #[] 3)) := (Below.refl _ _).alloc (Nat.le_refl _) _
  have hz1 : (w.alloc (.cells #[] 3)).heap.size = w.heap.size + 1 := by simp
  have hO0 : Kd.R (Kd.int .i64) 3 (w.alloc (.cells #[] 3)) w.heap.size (fun _ => True) (.slice (some ⟨w.heap.size, 0, none⟩) 0 0) (ints []) := Kd.R_of_own (World.ownsRow_lit (base := w.heap.size) (size := 1) w #[] 0 (Nat.le_refl _) (by simp [maxLen]) rfl) (fun _ _ => trivial)
  refine ⟨Kd.R_below hO0 HB2.out, hB1.trans (HB2.out.mono (by omega)), HC2.out, fun ad e hn => ?_, fun x hx => by cases hx⟩
  have := R_blk HR2.out hn ad e
  rw [hz1] at this
  exact ⟨this.2, fun e2 => by simp [Value.ownBlock] at e2; omega⟩
 have hxi := ints_length xs
 go_loopw [5, 7] (fun v i wr => ∃ j, j ≤ xs.length ∧ i = .int .i64 (j : Nat) ∧ BHeap w A2 T v (insL T (xs.take j)) wr) (fun _ i _ => xs.length - (intOf i).toNat)
 case atStart => exact ⟨0, Nat.zero_le _, rfl, hBH⟩
 case round =>
  clear hBH
  obtain ⟨j, hj, rfl, hH⟩ := hrel
  by_cases hjl : j < xs.length
  ·
   obtain ⟨ad', rfl, hx⟩ := at_set (Kd.C_below HR'.out hH.hB) j hjl
   have hjj : decide ((j : Int) < (xs.length : Int)) = true := decide_eq_true (by omega)
   have hxg : xs.getD j 0 < T.length := by
    rw [HTL.out]
    apply HXS.out
    rw [List.getD_eq_getElem?_getD, List.getElem?_eq_getElem hjl]
    exact List.getElem_mem _
   have HSN : Hid (insL T (xs.take (j + 1)) = bubL T (insL T (xs.take j)).length (insL T (xs.take j) ++ [xs.getD j 0])) := Lib.hid (by
    rw [List.take_succ_eq_append_getElem hjl, insL_snoc, List.getD_eq_getElem?_getD, List.getElem?_eq_getElem hjl]
    rfl)
   have hil : (insL T (xs.take j)).length ≤ 100 := by
    have := (insL_perm T (xs.take j)).length_eq
    rw [List.length_take] at this
    omega
   generalize xs.getD j 0 = x at hx hxg HSN
   generalize insL T (xs.take j) = L at hH HSN hil
   have HH := Lib.hid hH
   have hO := hH.hO
   have hB := hH.hB
   clear hH
   have HPU := Lib.hid (fun v1 w4 (hO4 : Kd.R (Kd.int .i64) 3 w4 w.heap.size (fun _ => True) v1 (ints L ++ [(x : Int)])) (hB4 : Below w.heap.size w w4) (hg4 : wr.grownBy w4 u5.ownBlock) hat4 => HH.out.push x hxg hO4 hB4 hg4 hat4)
   go_wp2_with (at_builtin; refine ap_int (w0 := w) w.heap.size rfl _ _ rfl u5 (ints L) (x : Int) rfl rfl rfl hO hB hB.size (by rw [ints_length]; omega) ?_; intro v1 w4 hO4 hB4 hg4 hat4; have HH4 := Lib.hid (HPU.out v1 w4 hO4 hB4 hg4 hat4); have HF4 := Lib.hid (Kd.R_form hO4 (by simp)); clear hO4 hB4 hg4 hat4; obtain ⟨g4, cap4, rfl, _⟩ := HF4.out; have hl4 : (ints L ++ [(x : Int)]).length = L.length + 1 := (by rw [List.length_append, ints_length]; rfl); clear HF4; rw [hl4] at HH4; rw [hl4]; clear hl4)
   have HG := Lib.hid (And.intro hO hB)
   clear hO hB hx
   go_loopw [8] (fun k wi => ∃ (q : Nat) (M : List Nat), k = .int .i64 (q : Nat) ∧ q < M.length ∧ Hid (M.length = L.length + 1 ∧ bubL T q M = bubL T L.length (L ++ [x]) ∧ BHeap w A2 T (.slice (some ⟨g4, 0, none⟩) (L.length + 1) cap4) M wi)) (fun k _ => (intOf k).toNat)
   case atStart => exact ⟨L.length, L ++ [x], by simp, by simp, Lib.hid ⟨by simp, rfl, HH4.out⟩⟩
   case round =>
    obtain ⟨q, M, rfl, hqM, HM⟩ := hrel
    obtain ⟨hMl, hbub, hMH⟩ := HM.out
    have HMH := Lib.hid (And.intro hMl (And.intro hbub hMH))
    clear HM
    by_cases hq0 : q = 0
    ·
     subst hq0
     have d0 : decide ((0 : Int) < ((0 : Nat) : Int)) = false := rfl
     clear hMl hbub hMH
     go_wp2
     go_quiet (fail)
     go_wp2
     refine ⟨⟨j + 1, by omega, by go_num, ?_⟩, by simp [intOf]; omega⟩
     rw [HSN.out, ← HMH.out.2.1]
     exact HMH.out.2.2.drewN _
    ·
     obtain ⟨p, hp⟩ : ∃ p, q = p + 1 := ⟨q - 1, by omega⟩
     have d0 : decide ((0 : Int) < (q : Int)) = true := decide_eq_true (by omega)
     have d0' : decide (0 < q) = true := decide_eq_true (by omega)
     have hO := hMH.hO
     obtain ⟨cq, fq⟩ := R_get hO q (by omega)
     obtain ⟨cp, fp⟩ := R_get hO p (by omega)
     have hmem : ∀ i, i < M.length → M.getD i 0 < T.length := fun i hi => by
      apply hMH.hT
      rw [List.getD_eq_getElem?_getD, List.getElem?_eq_getElem hi]
      exact List.getElem_mem _
     have h1 := hmem q hqM
     have h2 := hmem p (by omega)
     have hC := hMH.hC
     have HBU : Hid (bubL T q M = if lessB T (M.getD q 0) (M.getD p 0) then bubL T p (swapL M p q) else M) := Lib.hid (by subst hp; rfl)
     have HSW : Hid (swapL M p q = (M.set q (M.getD p 0)).set p (M.getD q 0)) := Lib.hid (by unfold swapL; rw [List.set_comm _ _ (by omega)])
     have HGQ : Hid (M.getD q 0 = M.getD q 0) := Lib.hid rfl
     generalize M.getD q 0 = y at cq h1 HBU HSW
     generalize M.getD p 0 = z at cp h2 HBU HSW
     have hwr : IntKind.i64.wrap ((q : Int) - 1) = (p : Int) := by rw [show (q : Int) - 1 = p by omega]; exact IntWalk.i64_in _ (by omega)
     have hp0 : (0 : Int) ≤ (p : Int) := by omega
     have hpl : (p : Int) < ((L.length + 1 : Nat) : Int) := by omega
     have hql : (q : Int) < ((L.length + 1 : Nat) : Int) := by omega
     have HP := Lib.hid hp
     have HO := Lib.hid (And.intro hO hC)
     clear hMl hbub hMH hmem hO hC HGQ hp hq0
     have e1 : (p : Int).toNat = p := rfl
     cases hls : lessB T y z
     ·
      have HL := Lib.hid hls
      rw [hls] at HBU
      clear hls
      go_wp2
      go_quiet ((go_at_call 114; exact Calls.quiet_of (sooner_is _ _ _ T y z HL h1 h2 _ (Kd.C_drewN HO.out.2 _))))
      clear hwr
      go_wp2
      refine ⟨⟨j + 1, by omega, by go_num, ?_⟩, by simp [intOf]; omega⟩
      have hb : bubL T q M = M := by rw [HBU.out]; rfl
      rw [HSN.out, ← HMH.out.2.1, hb]
      exact HMH.out.2.2.drewN _
     ·
      have HL := Lib.hid hls
      rw [hls] at HBU
      clear hls
      go_wp2
      go_quiet ((go_at_call 114; exact Calls.quiet_of (sooner_is _ _ _ T y z HL h1 h2 _ (Kd.C_drewN HO.out.2 _))))
      clear hwr
      have eq1 : q - 1 = p := by have := HP.out; omega
      have cp2 : wr.cell? ⟨g4, q - 1, none⟩ = some (.int .i64 (z : Int)) := by rw [eq1]; exact cp
      have fp2 : wr.frozen? ⟨g4, q - 1, none⟩ = false := by rw [eq1]; exact fp
      have hqi : (1 : Int) ≤ (q : Int) := by have := HP.out; omega
      have hqi2 : (q : Int) - 1 < (L.length : Int) + 1 := by omega
      have hne : q ≠ q - 1 := by omega
      clear cp fp hp0 hpl e1
      have EQ1 := Lib.hid eq1
      clear eq1
      go_wp2
      have hpq := HP.out
      refine ⟨⟨p, (M.set q z).set p y, by congr 1; omega, by simp; omega, Lib.hid ⟨by simpa using HMH.out.1, ?_, ?_⟩⟩, by simp [intOf]; omega⟩
      ·
       rw [← HMH.out.2.1, HBU.out, HSW.out]
       rfl
      ·
       rw [EQ1.out]
       have h3 := (HMH.out.2.2.drewN nq).put q z h2 (by omega)
       exact h3.put p y h1 (by simp; omega)
  ·
   obtain rfl : j = xs.length := by omega
   have hjj : decide ((xs.length : Int) < (xs.length : Int)) = false := decide_eq_false (by omega)
   have HO := Lib.hid hH.hO
   have hB := hH.hB
   clear hH
   go_wp2
   go_ret
   refine ⟨_, rfl, ?_, hB⟩
   have := HO.out
   rw [List.take_length] at this
   rw [HTE.out]
   exact this
end Go.Proofs.YtdjdfbfcjajlkaaDoor
