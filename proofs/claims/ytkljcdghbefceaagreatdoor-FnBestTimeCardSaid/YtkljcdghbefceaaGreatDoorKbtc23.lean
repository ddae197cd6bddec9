/- Parts of the proof, laid as one text by a program of mine. -/
import Derived.Shelf.SlSortCmp.NoneTotal
import Derived.Test.YtkljcdghbefceaaGreatDoorProg
import Derived.Test.YtkljcdghbefceaaGreatDoorKbtc22
import Derived.StillTailTactics
import Derived.Deep.RegionHeld3
import Derived.Test.YtkljcdghbefceaaGreatDoorKbtc13
import Derived.Test.YtkljcdghbefceaaGreatDoorKbtc11
import Derived.Test.YtkljcdghbefceaaGreatDoorKbtc15
import Derived.Test.YtkljcdghbefceaaGreatDoorKbtc12
import Derived.Test.YtkljcdghbefceaaGreatDoorKbtc6
namespace Go.Proofs
open Go.Shelf
def Tryz.sortCh_ren : Go.Shelf.Ren := ⟨fun | 6 => 68 | 15 => 84 | 14 => 83 | 28 => 98 | 29 => 99 | 20 => 90 | 21 => 91 | 22 => 92 | 23 => 93 | 24 => 94 | 25 => 95 | 26 => 96 | 27 => 97 | 46 => 100 | 47 => 101 | 48 => 102 | 49 => 103 | 50 => 104 | 57 => 105 | n => n, fun | 22 => 71 | 24 => 74 | 25 => 103 | 3 => 3 | 39 => 120 | 0 => 0 | 53 => 124 | 55 => 142 | 4 => 4 | 46 => 134 | 45 => 133 | 50 => 138 | 5 => 5 | 9 => 9 | 66 => 143 | 70 => 147 | 76 => 149 | 77 => 150 | n => n, fun | n => n⟩
theorem Tryz.sortCh : Go.Proofs.SlLaysF0.n6 Tryz.prog Tryz.sortCh_ren := {
  mixed := by kernel_rfl
  f6 := ⟨Tryz.f68.name, by decide, Tryz.func68.trans (congrArg some (by kernel_rfl))⟩
  f14 := ⟨Tryz.f83.name, by decide, Tryz.func83.trans (congrArg some (by kernel_rfl))⟩
  f15 := Tryz.func84.trans (congrArg some (by kernel_rfl))
  f20 := ⟨Tryz.f90.name, by decide, Tryz.func90.trans (congrArg some (by kernel_rfl))⟩
  f21 := ⟨Tryz.f91.name, by decide, Tryz.func91.trans (congrArg some (by kernel_rfl))⟩
  f22 := ⟨Tryz.f92.name, by decide, Tryz.func92.trans (congrArg some (by kernel_rfl))⟩
  f23 := ⟨Tryz.f93.name, by decide, Tryz.func93.trans (congrArg some (by kernel_rfl))⟩
  f24 := ⟨Tryz.f94.name, by decide, Tryz.func94.trans (congrArg some (by kernel_rfl))⟩
  f25 := ⟨Tryz.f95.name, by decide, Tryz.func95.trans (congrArg some (by kernel_rfl))⟩
  f26 := ⟨Tryz.f96.name, by decide, Tryz.func96.trans (congrArg some (by kernel_rfl))⟩
  f27 := ⟨Tryz.f97.name, by decide, Tryz.func97.trans (congrArg some (by kernel_rfl))⟩
  f28 := Tryz.func98.trans (congrArg some (by kernel_rfl))
  f29 := Tryz.func99.trans (congrArg some (by kernel_rfl))
  f46 := ⟨Tryz.f100.name, by decide, Tryz.func100.trans (congrArg some (by kernel_rfl))⟩
  f47 := Tryz.func101.trans (congrArg some (by kernel_rfl))
  f48 := Tryz.func102.trans (congrArg some (by kernel_rfl))
  f49 := ⟨Tryz.f103.name, by decide, Tryz.func103.trans (congrArg some (by kernel_rfl))⟩
  f50 := ⟨Tryz.f104.name, by decide, Tryz.func104.trans (congrArg some (by kernel_rfl))⟩
  f57 := ⟨Tryz.f105.name, by decide, Tryz.func105.trans (congrArg some (by kernel_rfl))⟩
  t0 := Tryz.underlying0
  a0 := Tryz.isAgg0
  z0 := Tryz.sizeOf0
  v0 := Tryz.zeroValue0
  t3 := Tryz.underlying3
  a3 := Tryz.isAgg3
  z3 := Tryz.sizeOf3
  v3 := Tryz.zeroValue3
  t4 := Tryz.underlying4
  a4 := Tryz.isAgg4
  z4 := Tryz.sizeOf4
  v4 := Tryz.zeroValue4
  t5 := Tryz.underlying5
  a5 := Tryz.isAgg5
  z5 := Tryz.sizeOf5
  v5 := Tryz.zeroValue5
  t9 := Tryz.underlying9
  a9 := Tryz.isAgg9
  z9 := Tryz.sizeOf9
  v9 := Tryz.zeroValue9
  t22 := Tryz.underlying71
  a22 := Tryz.isAgg71
  z22 := Tryz.sizeOf71
  v22 := Tryz.zeroValue71
  t25 := Tryz.underlying103
  a25 := Tryz.isAgg103
  z25 := Tryz.sizeOf103
  v25 := Tryz.zeroValue103
  t39 := Tryz.underlying120
  a39 := Tryz.isAgg120
  z39 := Tryz.sizeOf120
  v39 := Tryz.zeroValue120
  t45 := Tryz.underlying133
  a45 := Tryz.isAgg133
  z45 := Tryz.sizeOf133
  v45 := Tryz.zeroValue133
  t46 := Tryz.underlying134
  a46 := Tryz.isAgg134
  z46 := Tryz.sizeOf134
  v46 := Tryz.zeroValue134
  t50 := Tryz.underlying138
  a50 := Tryz.isAgg138
  z50 := Tryz.sizeOf138
  v50 := Tryz.zeroValue138
  t53 := Tryz.underlying124
  a53 := Tryz.isAgg124
  z53 := Tryz.sizeOf124
  v53 := Tryz.zeroValue124
  t55 := Tryz.underlying142
  a55 := Tryz.isAgg142
  z55 := Tryz.sizeOf142
  v55 := Tryz.zeroValue142
  t66 := Tryz.underlying143
  a66 := Tryz.isAgg143
  z66 := Tryz.sizeOf143
  v66 := Tryz.zeroValue143
  t70 := Tryz.underlying147
  a70 := Tryz.isAgg147
  z70 := Tryz.sizeOf147
  v70 := Tryz.zeroValue147
  t76 := Tryz.underlying149
  a76 := Tryz.isAgg149
  z76 := Tryz.sizeOf149
  v76 := Tryz.zeroValue149
  t77 := Tryz.underlying150
  a77 := Tryz.isAgg150
  z77 := Tryz.sizeOf150
  v77 := Tryz.zeroValue150 }
end Go.Proofs

namespace Go.Proofs.YtkljcdghbefceaaGreatDoor
set_option linter.unusedVariables false
set_option linter.unusedSimpArgs false
open Go.RowKit Go.Shelf Bits Go.Sort
open Go.Proofs.YtkljcdghbefceaaGreatDoorW.PrintWords Go.Proofs.YtkljcdghbefceaaGreatDoorW.PrintLast Go.Proofs.YtkljcdghbefceaaGreatDoorW.PrintMore
attribute [local go_sem] Oper.semAt_some
set_option maxRecDepth 1000000 in
set_option maxHeartbeats 4000000 in
theorem sortCh_calls (W0 W : World) (base : Nat) (A : Option Addr) (c : Nat) (d : List Ev) (hR : Kd.R kEv 74 W base (fun _ => True) (.slice A d.length c) d) (hl : d.length ≤ 1000) (hB : Below base W0 W) (hbs : base ≤ W.heap.size) :
  Calls Tryz.prog 68 #[.slice A d.length c, .func (.func 69) #[] #[]] W fun e w' => e = .returned (.tuple #[]) ∧ ChR w' base A (d.mergeSort fun x y => !ltEB y x) ∧ Below base W0 w' := by
 by_cases h0 : d.length = 0
 ·
  obtain rfl : d = [] := List.eq_nil_of_length_eq_zero h0
  have hcon := AnyF.slices_SortFunc_none Tryz.sortCh A c (.func (.func 69) #[] #[]) W
  change Calls Tryz.prog 68 _ _ _ at hcon
  refine hcon.mono ?_
  rintro e w' ⟨rfl, rfl⟩
  refine ⟨rfl, fun W' _ _ => ?_, hB⟩
  rw [List.mergeSort_nil]
  exact ⟨rfl, by simp, fun hn => absurd hn (by simp)⟩
 ·
  obtain ⟨b, cap, e, hb, hlt, cells, hc⟩ := Kd.R_form hR (by omega)
  cases e
  have hC := (Kd.R_reads' hR).2.2
  have eg : ∀ args w, (callFunc 69 args).run Tryz.prog w = .ok (.enter 69 args) w := enters_of Tryz.func69 (by kernel_rfl) rfl
  have hcon := AnyQ.slices_SortFunc_total Tryz.sortCh 3 Tryz.isAgg74 Tryz.sizeOf74 encE (fun _ => rfl) (fun x v hv => by simp [encE] at hv; rcases hv with rfl | rfl | rfl <;> rfl) cmpE swoE 69 #[] b 0 c d.toArray W eg (fun _ _ _ _ x y => chgCmp_calls x y _) (holds_of_C hC (fun j => blk_frozen hc j)) hlt (by simp; omega) ltE_anti
  change Calls Tryz.prog 68 _ _ _ at hcon
  rw [ltOf_cmpE, List.size_toArray, List.toList_toArray] at hcon
  refine hcon.mono ?_
  rintro e w' ⟨rfl, n, os, rfl⟩
  have hp := List.mergeSort_perm d (fun x y => !ltEB y x)
  have hll : (d.mergeSort fun x y => !ltEB y x).length = d.length := hp.length_eq
  refine ⟨rfl, fun W' h1 h2 => ?_, sorted_below n _ os hB hb hbs⟩
  have hH := holdsK_grow encE 3 (putRowK encE 3 (Sort.ahead W n) b 0 (d.mergeSort fun x y => !ltEB y x).toArray) os b 0 (d.mergeSort fun x y => !ltEB y x).toArray (by unfold putRowK putRow mapBlock Sort.ahead; simpa using hlt) (holdsK_putRowK encE 3 (Sort.ahead W n) b 0 d.toArray _ (holdsK_ahead encE 3 W n b 0 _ (holds_of_C hC (fun j => blk_frozen hc j))) (by simp [hll]))
  have hC' := C_of_holds hH (by omega)
  have hsz := sorted_size W b n (d.mergeSort fun x y => !ltEB y x) os
  refine C_step_ev hC' (h2 b hb (by omega))
set_option maxRecDepth 1000000 in
set_option maxHeartbeats 4000000 in
theorem changes_calls (C : Nat) (g : List Tk) (ns : List Nat) (A' : Option Addr) (c' : Nat) (st : List Int) (hg : TOk g) (hs : SOk st) (hl : st.length = g.length) (w : World) (hG : IsGraph w C g ns) (hr' : (Kd.int .i64).C w A' st.length st) :
  Calls Tryz.prog 40 #[.pointer (some ⟨C, 0, none⟩), .slice A' st.length c'] w fun e w' => ∃ A c, e = .returned (.slice A (chgS g st).length c) ∧ ChR w' w.heap.size A (chgS g st) ∧ Below w.heap.size w w' := by
 obtain ⟨i0, hi, hz0, hz1, hz2⟩ := info_parts infoCh
 have HG := Lib.hid hG
 have HR' := Lib.hid hr'
 have HOK := Lib.hid hg
 have HS := Lib.hid hs
 have HL := Lib.hid hl
 have h8 := hg.1
 have hl8 : st.length ≤ 8 := by omega
 have hw2 : IntKind.i64.wrap (2 * (g.length : Int)) = ((2 * g.length : Nat) : Int) := by rw [show 2 * (g.length : Int) = ((2 * g.length : Nat) : Int) by omega]; exact IntWalk.i64_in _ (by omega)
 clear hG hr' hg hs hl
 go_enter Tryz.func40, Tryz.ntmps40
 go_wp2_with (first | (go_at_call 25; refine (size_calls _ C g ns HG.out).mono ?_; rintro e w' ⟨rfl, h⟩; obtain rfl : w = w' := h.symm) | (at_make; refine wpList_make_own _ rfl _ _ 71 rfl w.heap.size 74 i0 (.agg #[(.int .i64 0), (.int .i64 0), (.bool false)]) 3 Tryz.underlying71 hi hz0 hz1 .i64 .i64 _ (2 * g.length) rfl rfl rfl (by rw [hz2]; omega) (by simp only [maxLen]; omega) (Nat.le_refl _) ?_; intro w1 hown hg1))
 clear hw2
 have HB1 : Below w.heap.size w w1 := (Below.refl _ _).grown hg1 (Nat.le_refl _) (fun k e => by cases e)
 have HO : Kd.R kEv 74 w1 w.heap.size (fun _ => True) (.slice (some ⟨w.heap.size, 0, none⟩) 0 (2 * g.length)) [] := ⟨fun _ _ => trivial, [], hown, Reps.none _ _⟩
 clear hown hg1
 go_loopw [5, 14] (fun q i wr => ∃ j, j ≤ st.length ∧ i = .int .i64 (j : Nat) ∧ Kd.R kEv 74 wr w.heap.size (fun _ => True) q (chgN g st j) ∧ Below w.heap.size w wr) (fun _ i _ => st.length - (intOf i).toNat)
 case atStart => exact ⟨0, Nat.zero_le _, rfl, HO, HB1⟩
 case round =>
  clear HO HB1
  obtain ⟨j, hj, rfl, hO, hB⟩ := hrel
  by_cases hjl : j < st.length
  ·
   have hjj : decide ((j : Int) < (st.length : Int)) = true := decide_eq_true (by omega)
   have hji : (j : Int) < (st.length : Int) := by omega
   have hjg : j < g.length := by have := HL.out; omega
   have hjgi : (j : Int) < (g.length : Int) := by omega
   obtain ⟨Ag, cg, An, cn, Ao, co, vb, va, h1, h2, _, _⟩ := HG.out.below hB
   have cC := blk_cell h1 0
   simp at cC
   obtain ⟨ad, A3, c3, rfl, hx0, _⟩ := at_Tk h2 j hjg
   obtain ⟨ads, rfl, cs⟩ := at_num (Kd.C_below HR'.out hB) j hjl
   have HC : Hid (chgN g st (j + 1) = chgN g st j ++ [⟨st.getD j 0, (j : Int), false⟩, ⟨st.getD j 0 + (rdTk g j).f0, (j : Int), true⟩]) := Lib.hid rfl
   have hcl := chgN_len g st j
   have hsj := HS.out j
   have htj := HOK.out.2.1 j
   generalize chgN g st j = cl at hO HC hcl
   generalize st.getD j 0 = s at cs hsj HC
   generalize (rdTk g j).f0 = tm at hx0 htj HC
   have hcl6 : cl.length < 1000000 := by omega
   have hwr : IntKind.i64.wrap (s + tm) = s + tm := IntWalk.i64_in _ (by omega)
   clear h1 h2
   go_wp2_with (at_builtin; refine ap_ch2 (w0 := w) w.heap.size rfl _ _ rfl u5 cl ⟨s, (j : Int), false⟩ ⟨s + tm, (j : Int), true⟩ rfl rfl rfl hO hB hB.size hcl6 ?_; intro v1 w2 hO3 hB3)
   clear hwr
   go_roundw
   case rel => exact ⟨j + 1, by omega, by go_num, by rw [HC.out]; exact hO3, hB3⟩
   case measure => simp [intOf]; omega
  ·
   obtain rfl : j = st.length := by omega
   have hjj : decide ((st.length : Int) < (st.length : Int)) = false := decide_eq_false (by omega)
   obtain ⟨A9, c9, rfl, _, _⟩ := Kd.R_reads hO
   have hcl := chgN_len g st st.length
   have HE : Hid (chgN g st st.length = chgN g st g.length) := Lib.hid (by rw [HL.out])
   have HSC := Lib.hid (sortCh_calls w wr w.heap.size A9 c9 (chgN g st st.length) hO (by omega) hB hB.size)
   have HLN : Hid ((chgN g st st.length).length = (chgS g st).length) := Lib.hid (by rw [chgS_len, chgN_len, HL.out])
   have HSS : Hid ((chgN g st st.length).mergeSort (fun x y => !ltEB y x) = chgS g st) := Lib.hid (by rw [HE.out]; rfl)
   clear hO hB hcl
   generalize chgN g st st.length = cl at HSC HLN HSS
   go_wp2_with (go_at_call 68; refine HSC.out.mono ?_; rintro e w3 ⟨rfl, hR3, hB3⟩)
   go_ret
   exact ⟨A9, c9, by rw [HLN.out]; rfl, by rw [← HSS.out]; exact hR3, hB3⟩
end Go.Proofs.YtkljcdghbefceaaGreatDoor

namespace Go.Proofs.YtkljcdghbefceaaGreatDoor
set_option linter.unusedVariables false
set_option linter.unusedSimpArgs false
open Go.RowKit Go.Shelf Bits
open Go.Proofs.YtkljcdghbefceaaGreatDoorW.PrintWords Go.Proofs.YtkljcdghbefceaaGreatDoorW.PrintLast Go.Proofs.YtkljcdghbefceaaGreatDoorW.PrintMore
attribute [local go_sem] Oper.semAt_some
theorem below_has {w w' : World} (h : Below w.heap.size w w') {a : Addr} {v : Value} (hc : w.cell? a = some v) : w'.cell? a = some v := by
 refine (h.cell ?_).trans hc
 apply Classical.byContradiction
 intro hn
 unfold World.cell? at hc
 rw [Array.getElem?_eq_none (by omega)] at hc
 cases hc
theorem kept_cell {w w' : World} {b : Nat} (h : KeepBut w w' b none) {a : Addr} {v : Value} (hc : w.cell? a = some v) (hn : a.block ≠ b) : w'.cell? a = some v := by
 refine (World.cell?_of_block (h.2 a.block ?_ hn (by simp))).trans hc
 apply Classical.byContradiction
 intro hn
 unfold World.cell? at hc
 rw [Array.getElem?_eq_none (by omega)] at hc
 cases hc
theorem all_not_at {g : List Tk} {ns : List Nat} {rm : List Int} {wk : Int} {cl : List Ev} {j : Nat} (h : okE g ns rm wk (cl.take j) (rdEv cl j) = false) (hj : j < cl.length) : okAllB g ns rm wk cl = false := by
 unfold okAllB
 rw [List.all_eq_false]
 exact ⟨j, List.mem_range.2 hj, by rw [h]; simp⟩
theorem sum_abs {f : Ev → Int} {b : Int} (hf : ∀ e, -b ≤ f e ∧ f e ≤ b) (hb : 0 ≤ b) : ∀ l : List Ev, -(b * l.length) ≤ (l.map f).sum ∧ (l.map f).sum ≤ b * l.length
 | [] => by simp
 | e :: l => by
  have ih := sum_abs hf hb l
  have h := hf e
  rw [List.map_cons, List.sum_cons, List.length_cons, show ((l.length + 1 : Nat) : Int) = (l.length : Int) + 1 from by omega, Int.mul_add, Int.mul_one]
  omega
theorem cOf_small {g : List Tk} (hok : TOk g) {l : List Ev} (hl : l.length ≤ 20) : (cOf g l).small 1000 := by
 refine ⟨?_, fun j => ?_⟩
 ·
  have := sum_abs (f := sgn) (b := 1) (fun e => by unfold sgn; split <;> omega) (by omega) l
  show -1000 ≤ (l.map sgn).sum ∧ (l.map sgn).sum ≤ 1000
  omega
 ·
  have := sum_abs (f := unU g (j : Int)) (b := 4) (fun e => by
   have := hok.2.2.2.1 e.f1.toNat
   unfold unU sgn
   split
   ·
    split <;> omega
   ·
    omega) (by omega) l
  show -(1000 * 1000) ≤ (l.map (unU g (j : Int))).sum ∧ (l.map (unU g (j : Int))).sum ≤ 1000 * 1000
  omega
theorem dOf_lt {n : Nat} : ∀ (l : List Ev) (d : Nat), d < 2 ^ n → (∀ e ∈ l, e.f1.toNat < n) → l.foldl dStep d < 2 ^ n
 | [], _, h, _ => h
 | e :: l, d, h, hl => by
  refine dOf_lt l (dStep d e) ?_ (fun x hx => hl x (List.mem_cons_of_mem _ hx))
  unfold dStep
  split
  ·
   exact Nat.or_lt_two_pow h (Nat.pow_lt_pow_right (by decide) (hl e List.mem_cons_self))
  ·
   exact h
def StPost (g : List Tk) (rm : List Int) (wk : Int) (st : List Int) (w : World) (e : Ending) (w' : World) : Prop :=
 (stN g rm wk st = true ∧ ∃ C ns, e = .returned (.tuple #[.pointer (some ⟨C, 0, none⟩), .bool true]) ∧ graphN g = some ns ∧ IsGraph w' C g ns ∧ Below w.heap.size w w') ∨
 (stN g rm wk st = false ∧ e = .returned (.tuple #[.pointer none, .bool false]) ∧ Below w.heap.size w w')
set_option maxRecDepth 1000000 in
set_option maxHeartbeats 8000000 in
theorem startsIn_calls (A : Option Addr) (c : Nat) (g : List Tk) (A1 : Option Addr) (c1 : Nat) (rm : List Int) (wk : Int) (A2 : Option Addr) (c2 : Nat) (st : List Int) (w : World) (hr : kTk.C w A g.length g) (hr1 : (Kd.int .i64).C w A1 rm.length rm) (hr2 : (Kd.int .i64).C w A2 st.length st) (hT : Tab w) :
  Calls Tryz.prog 16 #[.slice A g.length c, .slice A1 rm.length c1, .int .i64 wk, .slice A2 st.length c2] w (StPost g rm wk st w) := by
 have hgl := (C_len hr).2
 have hsl := (C_len hr2).2
 by_cases hp : ∃ ns, graphN g = some ns ∧ placeB rm wk = true
 ·
  obtain ⟨ns, hg, hp⟩ := hp
  have HP := Lib.hid (placeIn_yes A c g ns A1 c1 rm wk hp w hr hT hg hr1)
  have HR1 := Lib.hid hr1
  have HR2 := Lib.hid hr2
  have HGR := Lib.hid hg
  have HOK := Lib.hid (specValid_TOk (graphN_spec hg))
  have h8 := (specValid_TOk (graphN_spec hg)).1
  have HRM := Lib.hid (roomB_facts (placeB_facts hp).1).1
  have HNL := Lib.hid (graphN_all hg).2.1
  have HNS := Lib.hid (needsN_lt (graphN_some hg).1)
  by_cases h4 : st.length = g.length
  ·
   have d4 : ((st.length : Int) != (g.length : Int)) = false := by rw [bne_eq_false_iff_eq]; omega
   have HL := Lib.hid h4
   have HE : Hid (stN g rm wk st = (allInB st 0 200 && startsB g ns rm wk st)) := Lib.hid (by
    unfold stN
    rw [hg]
    show (placeB rm wk && (decide (st.length = g.length) && (allInB st 0 200 && startsB g ns rm wk st))) = _
    rw [hp, decide_eq_true h4, Bool.true_and, Bool.true_and])
   clear hr hr1 hr2 hT hg hp h4
   go_enter Tryz.func16, Tryz.ntmps16
   go_wp2_with (go_at_call 18; refine HP.out.mono ?_; rintro e w1 ⟨C, rfl, hG1, hB1⟩; have HG1 := Lib.hid hG1; have HB1 := Lib.hid hB1; clear hG1 hB1)
   go_loop [37] (fun i => ∃ (k : Nat), k ≤ st.length ∧ i = .int .i64 k ∧ Hid (∀ j, j < k → inB (st.getD j 0) 0 200 = true)) (fun i => st.length - (intOf i).toNat)
   case atStart => exact ⟨0, Nat.zero_le _, rfl, Lib.hid fun j h => absurd h (Nat.not_lt_zero _)⟩
   case round =>
    obtain ⟨k, hk, rfl, HS⟩ := hrel
    by_cases hlt : k < st.length
    ·
     have hjj : decide ((k : Int) < (st.length : Int)) = true := decide_eq_true (by omega)
     have hji : (k : Int) < (st.length : Int) := by omega
     obtain ⟨ad, rfl, hc⟩ := at_num (Kd.C_below HR2.out HB1.out) k hlt
     cases hb : inB (st.getD k 0) 0 200
     ·
      have HF : Hid (stN g rm wk st = false) := Lib.hid (by
       rw [HE.out, show allInB st 0 200 = false by
        unfold allInB
        exact all_not 0 hlt hb]
       rfl)
      have HW := Lib.hid hb
      clear hb
      generalize st.getD k 0 = x at hc HW
      go_wp2_with (go_at_call 39; refine (within_is _ _ _ _ HW _).mono ?_; rintro e w2 ⟨rfl, rfl⟩)
      go_ret2
      exact .inr ⟨HF.out, rfl, HB1.out⟩
     ·
      have HN : Hid (∀ j, j < k + 1 → inB (st.getD j 0) 0 200 = true) := Lib.hid (fun j hj => by
       by_cases e : j = k
       ·
        rw [e]; exact hb
       ·
        exact HS.out j (by omega))
      have HW := Lib.hid hb
      clear hb
      generalize st.getD k 0 = x at hc HW
      go_wp2_with (go_at_call 39; refine (within_is _ _ _ _ HW _).mono ?_; rintro e w2 ⟨rfl, rfl⟩)
      go_round
      case rel => exact ⟨k + 1, by omega, by go_num, HN⟩
      case measure => simp [intOf]; omega
    ·
     have hjj : decide ((k : Int) < (st.length : Int)) = false := decide_eq_false (by omega)
     have HAI : Hid (allInB st 0 200 = true) := Lib.hid (by
      unfold allInB
      exact all_take 0 (fun j hj => HS.out j (by omega)))
     have HSOK := Lib.hid (allIn_sok HAI.out)
     have HE2 : Hid (stN g rm wk st = okAllB g ns rm wk (chgS g st)) := Lib.hid (by rw [HE.out, HAI.out, Bool.true_and]; rfl)
     have HBa : Hid (Below w1.heap.size w1 (w1.alloc (.cells #[.int .i64 0, .int .i64 0, .int .i64 0, .int .i64 0] 70))) := Lib.hid ((Below.refl _ _).alloc (Nat.le_refl _) _)
     have HCH := Lib.hid (changes_calls C g ns A2 c2 st HOK.out HSOK.out HL.out _ (HG1.out.below HBa.out) (Kd.C_below HR2.out (HB1.out.trans (HBa.out.mono HB1.out.size))))
     have HCA : Hid (CAt (w1.alloc (.cells #[.int .i64 0, .int .i64 0, .int .i64 0, .int .i64 0] 70)) w1.heap.size (cOf g [])) := Lib.hid (World.alloc_heap_new w1 _)
     have HMEM := Lib.hid (fun (x : Ev) (hx : x ∈ chgS g st) => mem_chgS.1 hx)
     have hcl : (chgS g st).length ≤ 16 := by rw [chgS_len]; omega
     generalize chgS g st = cl at HE2 HCH HMEM hcl
     go_wp2_with (go_at_call 40; refine HCH.out.mono ?_; rintro e w3 ⟨A3, c3, rfl, hR3, hB3⟩; have HR3 := Lib.hid hR3; have HB3 := Lib.hid hB3; clear hR3 hB3)
     have HK3 := Lib.hid (keep_below w1.heap.size HB3.out)
     have HCA3 := Lib.hid (HCA.out.below HB3.out)
     have HB13 := Lib.hid (HBa.out.trans (HB3.out.mono HBa.out.size))
     have hb3 := HCA3.out.lt
     go_loopw [15, 49] (fun d i wr => ∃ j, j ≤ cl.length ∧ i = .int .i64 (j : Nat) ∧ d = .int .u16 (dOf (cl.take j) : Nat) ∧ Hid (∀ q, q < j → okE g ns rm wk (cl.take q) (rdEv cl q) = true) ∧ CAt wr w1.heap.size (cOf g (cl.take j)) ∧ KeepBut w3 wr w1.heap.size none ∧ Below w1.heap.size w1 wr) (fun _ i _ => cl.length - (intOf i).toNat)
     case atStart => exact ⟨0, Nat.zero_le _, rfl, rfl, Lib.hid fun q h => absurd h (Nat.not_lt_zero _), HCA3.out, KeepBut.refl _ _ _, HB13.out⟩
     case round =>
      obtain ⟨j, hj, rfl, rfl, HQ, hCA, hK, hB⟩ := hrel
      by_cases hjl : j < cl.length
      ·
       have hjj : decide ((j : Int) < (cl.length : Int)) = true := decide_eq_true (by omega)
       have hji : (j : Int) < (cl.length : Int) := by omega
       have hCR : kEv.C wr A3 cl.length cl := HR3.out wr hK.1 (fun q hq hql => hK.2 q hql (by simp at hq; omega) (by simp))
       obtain ⟨ad, rfl, x0, x1, x2⟩ := at_Ev hCR j hjl
       have hmem : rdEv cl j ∈ cl := by
        unfold rdEv
        rw [List.getD_eq_getElem?_getD, List.getElem?_eq_getElem hjl]
        exact List.getElem_mem _
       have HTK : Hid (cl.take (j + 1) = cl.take j ++ [rdEv cl j]) := Lib.hid (by
        rw [List.take_succ_eq_append_getElem hjl]
        unfold rdEv
        rw [List.getD_eq_getElem?_getD, List.getElem?_eq_getElem hjl]
        rfl)
       have hdl : dOf (cl.take j) < 2 ^ g.length := dOf_lt _ 0 (Nat.two_pow_pos _) (fun e he => by
        obtain ⟨q, hq, hh⟩ := HMEM.out e (List.mem_of_mem_take he)
        rcases hh with rfl | rfl
        ·
         simpa [chB] using hq
        ·
         simpa [chO] using hq)
       have hd16 : dOf (cl.take j) < 65536 := Nat.lt_of_lt_of_le hdl (Nat.le_trans (Nat.pow_le_pow_right (by omega) h8) (by decide))
       have HCS : Hid ((cOf g (cl.take j)).small 1000) := Lib.hid (cOf_small HOK.out (by rw [List.length_take]; omega))
       have HOE : Hid (okE g ns rm wk (cl.take j) (rdEv cl j) = ((rdEv cl j).f2 || (decide (diff (ns.getD (rdEv cl j).f1.toNat 0) (dOf (cl.take j)) = 0) && (cOf g (cl.take j)).can (rdTk g (rdEv cl j).f1.toNat).f2.toNat (rdTk g (rdEv cl j).f1.toNat).f3 rm wk))) := Lib.hid rfl
       have HSN := Lib.hid (fun (p : Nat) (hp : (rdTk g (rdEv cl j).f1.toNat).f2 = (p : Int)) => (cOf_snoc (g := g) (l := cl.take j) (e := rdEv cl j) hp))
       have HDN := Lib.hid (dOf_snoc (cl.take j) (rdEv cl j))
       rw [← HTK.out] at HSN HDN
       obtain ⟨i, hig, hev⟩ := HMEM.out _ hmem
       have hf1 : (rdEv cl j).f1 = (i : Int) := by rcases hev with e | e <;> (rw [e]; rfl)
       have htn : (rdEv cl j).f1.toNat = i := by rw [hf1, Int.toNat_natCast]
       have HFL : Hid (∃ b, b = (rdEv cl j).f2) := Lib.hid ⟨_, rfl⟩
       obtain ⟨bo, hbo⟩ := HFL.out
       have HSG : Hid (sgn (rdEv cl j) = if bo then -1 else 1) := Lib.hid (by unfold sgn; rw [hbo])
       have HDS : Hid (dStep (dOf (cl.take j)) (rdEv cl j) = if bo then dOf (cl.take j) ||| 2 ^ i else dOf (cl.take j)) := Lib.hid (by unfold dStep; rw [htn, hbo])
       rw [htn, ← hbo] at HOE
       rw [htn] at HSN
       rw [hf1] at x1
       rw [← hbo] at x2
       clear hf1 htn hbo hev HFL hmem hCR
       generalize (rdEv cl j).f0 = at0 at x0
       have hi16 : i < 16 := by omega
       -- the graph and the event, boxed
       have HCA := Lib.hid hCA
       have HK := Lib.hid hK
       have HBB := Lib.hid hB
       have hbr : w1.heap.size < wr.heap.size := hCA.lt
       clear hCA hK hB
       go_upto_region 15 with (fail)
       obtain ⟨W1, hW1⟩ : ∃ W1, W1 = wr.alloc (.cells #[.int .i64 at0, .int .i64 (i : Nat), .bool bo] 74) := ⟨_, rfl⟩
       have hsz1 : W1.heap.size = wr.heap.size + 1 := by rw [hW1]; simp
       have hBE : Below wr.heap.size wr W1 := by rw [hW1]; exact (Below.refl _ _).alloc (Nat.le_refl _) _
       have hEb : W1.heap[wr.heap.size]? = some (.cells #[.int .i64 at0, .int .i64 (i : Nat), .bool bo] 74 (0, 0)) := by rw [hW1]; exact World.alloc_heap_new _ _
       rw [← hW1]
       clear hW1 x0 x1 x2
       have HB11 := Lib.hid (HBB.out.trans (hBE.mono HBB.out.size))
       have HCA1 := Lib.hid (HCA.out.below hBE)
       have HK1 := Lib.hid (keep_trans HK.out (keep_below w1.heap.size hBE))
       have e1 : W1.cell? ⟨wr.heap.size, 1, none⟩ = some (.int .i64 (i : Nat)) := (blk_cell hEb 1).trans (by simp)
       obtain ⟨Ag, cg, An, cn, Ao, co, vb, va, h1, h2, h3, _⟩ := HG1.out.below HB11.out
       have cC := blk_cell h1 0
       simp at cC
       obtain ⟨adt, A4, c4, rfl, hx0, hx1, hx2, hx3, _, _⟩ := at_Tk h2 i hig
       obtain ⟨p, hp⟩ : ∃ p : Nat, (rdTk g i).f2 = (p : Int) := ⟨(rdTk g i).f2.toNat, by have := HOK.out.2.2.1 i; omega⟩
       have hp3 : p < 3 := by have := HOK.out.2.2.1 i; omega
       have hu4 := HOK.out.2.2.2.1 i
       have HSN2 : Hid (cOf g (cl.take (j + 1)) = (cOf g (cl.take j)).add p (rdTk g i).f3 (sgn (rdEv cl j))) := Lib.hid (HSN.out p hp)
       rw [hp] at hx2 HOE
       rw [Int.toNat_natCast] at HOE
       have HEB := Lib.hid hEb
       clear HSN hp h1 h2 h3 hBE hEb
       generalize (rdTk g i).f0 = f0 at hx0
       generalize (rdTk g i).f1.length = n1 at hx1
       generalize (rdTk g i).f3 = f3 at hx3 hu4 HSN2 HOE
       generalize cOf g (cl.take j) = ct at HCA1 HCS HOE HSN2
       generalize dOf (cl.take j) = dn at hdl hd16 HOE HDN HDS
       have hii : (i : Int) < (g.length : Int) := by omega
       have HKEEP : Hid (∀ W, Below W1.heap.size W1 W → (W.cell? ⟨wr.heap.size, 1, none⟩ = some (.int .i64 (i : Nat)) ∧ W.cell? ⟨C, 0, none⟩ = some (.slice (some adt) g.length cg) ∧ W.cell? (adt.add (i * 4)) = some (.int .i64 f0) ∧ W.cell? ⟨(adt.add (i * 4)).block, (adt.add (i * 4)).off + 1, none⟩ = some (.slice A4 n1 c4) ∧ W.cell? ⟨(adt.add (i * 4)).block, (adt.add (i * 4)).off + 2, none⟩ = some (.int .i64 (p : Nat)) ∧ W.cell? ⟨(adt.add (i * 4)).block, (adt.add (i * 4)).off + 3, none⟩ = some (.int .i64 f3) ∧ Below W1.heap.size W1 W)) := Lib.hid (fun W hW => ⟨below_has hW e1, below_has hW cC, below_has hW hx0, below_has hW hx1, below_has hW hx2, below_has hW hx3, hW⟩)
       go_region_held3 (fun W => W.cell? ⟨wr.heap.size, 1, none⟩ = some (.int .i64 (i : Nat)) ∧ W.cell? ⟨C, 0, none⟩ = some (.slice (some adt) g.length cg) ∧ W.cell? (adt.add (i * 4)) = some (.int .i64 f0) ∧ W.cell? ⟨(adt.add (i * 4)).block, (adt.add (i * 4)).off + 1, none⟩ = some (.slice A4 n1 c4) ∧ W.cell? ⟨(adt.add (i * 4)).block, (adt.add (i * 4)).off + 2, none⟩ = some (.int .i64 (p : Nat)) ∧ W.cell? ⟨(adt.add (i * 4)).block, (adt.add (i * 4)).off + 3, none⟩ = some (.int .i64 f3) ∧ Below W1.heap.size W1 W) (first | (refine HKEEP.out _ ?_; repeat (first | exact Below.refl _ _ | apply below_alloc | apply pw_below_drewN | apply below_drew1))) (fail)
       obtain ⟨W2, hW2⟩ : ∃ W2, W2 = (W1.alloc (.cells #[.int .i64 f0, .slice A4 n1 c4, .int .i64 (p : Nat), .int .i64 f3] 63)).drew := ⟨_, rfl⟩
       have HB2 : Hid (Below W1.heap.size W1 W2) := Lib.hid (by rw [hW2]; exact below_drew1 ((Below.refl _ _).alloc (Nat.le_refl _) _))
       have hTb : W2.heap[W1.heap.size]? = some (.cells #[.int .i64 f0, .slice A4 n1 c4, .int .i64 (p : Nat), .int .i64 f3] 63 (0, 0)) := by rw [hW2]; exact World.alloc_heap_new W1 _
       rw [hsz1] at hTb
       rw [← hW2]
       have e2 : W1.cell? ⟨wr.heap.size, 2, none⟩ = some (.bool bo) := (blk_cell HEB.out 2).trans (by simp)
       have HB12 := Lib.hid (HB11.out.trans (HB2.out.mono HB11.out.size))
       have HCA2 := Lib.hid (HCA1.out.below HB2.out)
       have HK2 := Lib.hid (keep_trans HK1.out (keep_below w1.heap.size HB2.out))
       replace e1 := below_has HB2.out e1
       replace e2 := below_has HB2.out e2
       have b0 : W2.cell? ⟨wr.heap.size + 1, 0, none⟩ = some (.int .i64 f0) := (blk_cell hTb 0).trans (by simp)
       have b1 : W2.cell? ⟨wr.heap.size + 1, 1, none⟩ = some (.slice A4 n1 c4) := (blk_cell hTb 1).trans (by simp)
       have b2 : W2.cell? ⟨wr.heap.size + 1, 2, none⟩ = some (.int .i64 (p : Nat)) := (blk_cell hTb 2).trans (by simp)
       have b3 : W2.cell? ⟨wr.heap.size + 1, 3, none⟩ = some (.int .i64 f3) := (blk_cell hTb 3).trans (by simp)
       clear hW2 hTb HKEEP hx0 hx1 hx2 hx3 cC HEB HCA1 HK1 hsz1
       cases bo
       ·
        rw [HSG.out, if_neg (by simp)] at HSN2
        rw [HDS.out, if_neg (by simp)] at HDN
        obtain ⟨Ag', cg', An, cn, Ao, co, vb, va, h1, h2, h3, _⟩ := HG1.out.below HB12.out
        have cN := blk_cell h1 1
        simp at cN
        obtain ⟨adn, rfl, cn1⟩ := at_set h3 i (by rw [HNL.out]; exact hig)
        rw [HNL.out] at cN
        have hn16 := HNS.out i
        rw [Bool.false_or] at HOE
        generalize ns.getD i 0 = nd at cn1 hn16 HOE
        have hbd : bits BinOp.andNot IntKind.u16 (nd : Int) (dn : Int) = ((diff nd dn : Nat) : Int) := bits_andNot_u16 _ _ hn16
        clear HSG HDS h1 h2 h3
        by_cases hdf : diff nd dn = 0
        ·
         have hdz : (((diff nd dn : Nat) : Int) != 0) = false := by rw [hdf]; rfl
         rw [decide_eq_true hdf, Bool.true_and] at HOE
         have HTK := Lib.hid (fun W hW => takes_calls w1.heap.size ct f0 (.slice A4 n1 c4) p f3 A1 c1 rm wk hp3 ⟨by omega, by omega⟩ HCS.out HRM.out W (HCA2.out.below hW) (Kd.C_below HR1.out (HB1.out.trans ((HB12.out.trans (hW.mono HB12.out.size)).mono HB1.out.size))))
         have HB5 : ∀ {w5 : World}, Below w1.heap.size W2.drew w5 → Below w1.heap.size W2 w5 := fun h => (Below.refl _ _).drew.trans h
         clear hdf
         generalize diff nd dn = dd at hbd hdz
         cases hcan : ct.can p f3 rm wk
         ·
          rw [hcan] at HTK HOE
          have HFL2 : Hid (stN g rm wk st = false) := Lib.hid (by rw [HE2.out]; exact all_not_at HOE.out hjl)
          go_upto_region 19 with (fail)
          go_still_tail 15, mixed
          repeat still_step
          try refine wpStill_nil ?_
          change wpList _ _ _ _ _ W2.drew
          go_wp2_with (go_at_call 43; refine (HTK.out _ (Below.refl _ _).drew).mono ?_; rintro e w5 ⟨rfl, hC5, hK5, hB5⟩)
          go_ret2
          exact .inr ⟨HFL2.out, rfl, HB1.out.trans ((HB12.out.trans (HB5 hB5)).mono HB1.out.size)⟩
         ·
          rw [hcan] at HTK HOE
          have HQ2 : Hid (∀ q, q < j + 1 → okE g ns rm wk (cl.take q) (rdEv cl q) = true) := Lib.hid (fun q hq => by
           by_cases e : q = j
           ·
            rw [e]; exact HOE.out
           ·
            exact HQ.out q (by omega))
          go_upto_region 19 with (fail)
          go_still_tail 15, mixed
          repeat still_step
          try refine wpStill_nil ?_
          change wpList _ _ _ _ _ W2.drew
          go_wp2_with (go_at_call 43; refine (HTK.out _ (Below.refl _ _).drew).mono ?_; rintro e w5 ⟨rfl, hC5, hK5, hB5⟩)
          replace hC5 : CAt w5 w1.heap.size (ct.add p f3 1) := by simpa using hC5
          go_roundw
          case rel => exact ⟨j + 1, by omega, by go_num, by rw [HDN.out], HQ2, by rw [HSN2.out]; exact hC5, keep_trans HK2.out ((keep_below w1.heap.size (Below.refl _ _).drew).trans hK5 (.inl rfl)), HB12.out.trans (HB5 hB5)⟩
          case measure => simp [intOf]; omega
        ·
         have hdz : (((diff nd dn : Nat) : Int) != 0) = true := bne_iff_ne.2 (by omega)
         rw [decide_eq_false hdf, Bool.false_and] at HOE
         have HFL2 : Hid (stN g rm wk st = false) := Lib.hid (by rw [HE2.out]; exact all_not_at HOE.out hjl)
         clear hdf
         generalize diff nd dn = dd at hbd hdz
         go_upto_region 19 with (fail)
         go_quiet (fail)
         go_wp2
         go_ret2
         exact .inr ⟨HFL2.out, rfl, HB1.out.trans (((pw_below_drewN HB12.out _)).mono HB1.out.size)⟩
       ·
        have HOE2 : Hid (okE g ns rm wk (cl.take j) (rdEv cl j) = true) := Lib.hid (by rw [HOE.out]; rfl)
        have HQ2 : Hid (∀ q, q < j + 1 → okE g ns rm wk (cl.take q) (rdEv cl q) = true) := Lib.hid (fun q hq => by
         by_cases e : q = j
         ·
          rw [e]; exact HOE2.out
         ·
          exact HQ.out q (by omega))
        have HADD := Lib.hid (add_calls w1.heap.size ct f0 (.slice A4 n1 c4) p f3 (-1) hp3 ⟨by omega, by omega⟩ (.inr rfl) HCS.out W2 HCA2.out)
        rw [HSG.out, if_pos rfl] at HSN2
        rw [HDS.out, if_pos rfl] at HDN
        clear HOE HOE2 HSG HDS
        go_wp2_with (first | (go_at_call 41; refine HADD.out.mono ?_; rintro e w5 ⟨rfl, hC5, hK5, hB5⟩; have e5 := kept_cell hK5 e1 (Nat.ne_of_gt hbr)) | (go_at_call 42; refine (with_calls dn i hd16 hi16 _).mono ?_; rintro e w6 ⟨rfl, rfl⟩))
        go_roundw
        case rel => exact ⟨j + 1, by omega, by go_num, by rw [HDN.out], HQ2, by rw [HSN2.out]; exact hC5, keep_trans HK2.out hK5, HB12.out.trans hB5⟩
        case measure => simp [intOf]; omega
      ·
       obtain rfl : j = cl.length := by omega
       have hjj : decide ((cl.length : Int) < (cl.length : Int)) = false := decide_eq_false (by omega)
       have HTR : Hid (stN g rm wk st = true) := Lib.hid (by
        rw [HE2.out]
        unfold okAllB
        rw [List.all_eq_true]
        exact fun q hq => HQ.out q (List.mem_range.1 hq))
       go_wp2
       go_ret2
       exact .inl ⟨HTR.out, C, ns, rfl, HGR.out, HG1.out.below hB, HB1.out.trans (hB.mono HB1.out.size)⟩
  ·
   have HF : Hid (stN g rm wk st = false) := Lib.hid (by
    unfold stN
    rw [hg]
    show (placeB rm wk && (decide (st.length = g.length) && (allInB st 0 200 && startsB g ns rm wk st))) = _
    rw [decide_eq_false h4, Bool.false_and, Bool.and_false])
   have d4 : ((st.length : Int) != (g.length : Int)) = true := bne_iff_ne.2 (by omega)
   clear hr hr1 hr2 hT hg hp h4
   go_enter Tryz.func16, Tryz.ntmps16
   go_wp2_with (go_at_call 18; refine HP.out.mono ?_; rintro e w1 ⟨C, rfl, hG1, hB1⟩)
   go_ret2
   exact .inr ⟨HF.out, rfl, hB1⟩
 ·
  have HF : Hid (stN g rm wk st = false) := Lib.hid (by
   unfold stN
   cases hg : graphN g with
   | none => rfl
   | some ns =>
    show (placeB rm wk && (decide (st.length = g.length) && (allInB st 0 200 && startsB g ns rm wk st))) = _
    cases hpb : placeB rm wk with
    | false => rfl
    | true => exact absurd ⟨ns, hg, hpb⟩ hp)
  have HP := Lib.hid (placeIn_no A c g A1 c1 rm wk (fun ns hg => by
   cases hpb : placeB rm wk with
   | false => rfl
   | true => exact absurd ⟨ns, hg, hpb⟩ hp) w hr hT hr1)
  clear hp hr hr1 hr2 hT
  go_enter Tryz.func16, Tryz.ntmps16
  go_wp2_with (go_at_call 18; refine HP.out.mono ?_; rintro e w1 ⟨rfl, hB1⟩)
  go_ret2
  exact .inr ⟨HF.out, rfl, hB1⟩
end Go.Proofs.YtkljcdghbefceaaGreatDoor

namespace Go.Proofs.YtkljcdghbefceaaGreatDoor
set_option linter.unusedVariables false
set_option linter.unusedSimpArgs false
open Go.RowKit Go.Shelf Bits
open Go.Proofs.YtkljcdghbefceaaGreatDoorW.PrintWords Go.Proofs.YtkljcdghbefceaaGreatDoorW.PrintLast Go.Proofs.YtkljcdghbefceaaGreatDoorW.PrintMore
attribute [local go_sem] Oper.semAt_some
def maskN (P : Nat → Bool) : Nat → Nat
 | 0 => 0
 | n + 1 => if P n then maskN P n ||| 2 ^ n else maskN P n
theorem maskN_lt (P : Nat → Bool) : ∀ n, maskN P n < 2 ^ n
 | 0 => by simp [maskN]
 | n + 1 => by
  have ih := maskN_lt P n
  have h2 : maskN P n < 2 ^ (n + 1) := Nat.lt_of_lt_of_le ih (Nat.pow_le_pow_right (by omega) (Nat.le_succ n))
  unfold maskN
  split
  ·
   exact Nat.or_lt_two_pow h2 (Nat.pow_lt_pow_right (by omega) (by omega))
  ·
   exact h2
theorem maskN_bit (P : Nat → Bool) : ∀ n j, j < n → (maskN P n).testBit j = P j
 | n + 1, j, hj => by
  unfold maskN
  by_cases h : j = n
  ·
   subst h
   have h0 : (maskN P j).testBit j = false := bit_far (maskN_lt P j) (Nat.le_refl _)
   cases hp : P j with
   | true => rw [if_pos rfl, or_bit]; simp
   | false => rw [if_neg (by simp)]; exact h0
  ·
   have ih := maskN_bit P n j (by omega)
   split
   ·
    rw [or_bit, ih]; simp [show n ≠ j from fun e => h e.symm]
   ·
    exact ih
theorem els_mask (P : Nat → Bool) {n : Nat} (hn : n ≤ 16) : els (maskN P n) = ints ((List.range n).filter P) := by
 unfold els
 rw [elems_eq hn (maskN_lt P n) P (fun j hj => maskN_bit P n j hj)]
 rfl
theorem maskN_u16 (P : Nat → Bool) {n : Nat} (hn : n ≤ 16) : maskN P n < 65536 := Nat.lt_of_lt_of_le (maskN_lt P n) (Nat.le_trans (Nat.pow_le_pow_right (by omega) hn) (by decide))
theorem startsIn_yes (A : Option Addr) (c : Nat) (g : List Tk) (A1 : Option Addr) (c1 : Nat) (rm : List Int) (wk : Int) (A2 : Option Addr) (c2 : Nat) (st : List Int) (h : vStB g rm wk st = true) (w : World) (hr : kTk.C w A g.length g) (hr1 : (Kd.int .i64).C w A1 rm.length rm) (hr2 : (Kd.int .i64).C w A2 st.length st) (hT : Tab w) :
  Calls Tryz.prog 16 #[.slice A g.length c, .slice A1 rm.length c1, .int .i64 wk, .slice A2 st.length c2] w fun e w' => ∃ C ns, e = .returned (.tuple #[.pointer (some ⟨C, 0, none⟩), .bool true]) ∧ graphN g = some ns ∧ IsGraph w' C g ns ∧ Below w.heap.size w w' := by
 refine (startsIn_calls A c g A1 c1 rm wk A2 c2 st w hr hr1 hr2 hT).mono ?_
 rintro e w' (⟨_, hC⟩ | ⟨h2, _⟩)
 ·
  obtain ⟨C, ns, h1, h2, h3, h4⟩ := hC
  exact ⟨C, ns, h1, h2, h3, h4⟩
 ·
  rw [st_eq, h] at h2
  cases h2
theorem startsIn_no (A : Option Addr) (c : Nat) (g : List Tk) (A1 : Option Addr) (c1 : Nat) (rm : List Int) (wk : Int) (A2 : Option Addr) (c2 : Nat) (st : List Int) (h : vStB g rm wk st = false) (w : World) (hr : kTk.C w A g.length g) (hr1 : (Kd.int .i64).C w A1 rm.length rm) (hr2 : (Kd.int .i64).C w A2 st.length st) (hT : Tab w) :
  Calls Tryz.prog 16 #[.slice A g.length c, .slice A1 rm.length c1, .int .i64 wk, .slice A2 st.length c2] w fun e w' => e = .returned (.tuple #[.pointer none, .bool false]) ∧ Below w.heap.size w w' := by
 refine (startsIn_calls A c g A1 c1 rm wk A2 c2 st w hr hr1 hr2 hT).mono ?_
 rintro e w' (⟨h2, _⟩ | ⟨_, hC⟩)
 ·
  rw [st_eq, h] at h2
  cases h2
 ·
  exact hC
set_option maxRecDepth 100000 in
theorem EndTime_impl (A : Option Addr) (c : Nat) (g : List Tk) (A1 : Option Addr) (c1 : Nat) (rm : List Int) (wk : Int) (A2 : Option Addr) (c2 : Nat) (st : List Int) (w : World) (hr : kTk.C w A g.length g) (hr1 : (Kd.int .i64).C w A1 rm.length rm) (hr2 : (Kd.int .i64).C w A2 st.length st) (hT : Tab w) :
  Calls Tryz.prog 7 #[.slice A g.length c, .slice A1 rm.length c1, .int .i64 wk, .slice A2 st.length c2] w fun e w' => e = .returned (.int .i64 (etS g rm wk st)) ∧ Below w.heap.size w w' := by
 cases h : vStB g rm wk st with
 | true =>
  have HF : Hid (etS g rm wk st = endS g st g.length) := Lib.hid (by unfold etS; rw [if_pos h])
  have HP := Lib.hid (startsIn_yes A c g A1 c1 rm wk A2 c2 st h w hr hr1 hr2 hT)
  have HV := Lib.hid (vSt_valid h)
  have HR2 := Lib.hid hr2
  clear hr hr1 hr2 hT h
  go_enter Tryz.func7, Tryz.ntmps7
  go_wp2_with (first | (go_at_call 16; refine HP.out.mono ?_; rintro e w1 ⟨C, ns, rfl, hg, hG, hB1⟩; have HG := Lib.hid hG; have HB1 := Lib.hid hB1; clear hg hG hB1) | (go_at_call 17; refine (iend_calls C g ns A2 c2 st HV.out.ok HV.out.sok HV.out.len _ HG.out (Kd.C_below HR2.out HB1.out)).mono ?_; rintro e w2 ⟨rfl, rfl⟩))
  go_ret
  exact ⟨ret_int HF.out.symm, HB1.out⟩
 | false =>
  have HF : Hid (etS g rm wk st = -1) := Lib.hid (by unfold etS; rw [h]; rfl)
  have HP := Lib.hid (startsIn_no A c g A1 c1 rm wk A2 c2 st h w hr hr1 hr2 hT)
  clear hr hr1 hr2 hT h
  go_enter Tryz.func7, Tryz.ntmps7
  go_wp2_with (go_at_call 16; refine HP.out.mono ?_; rintro e w1 ⟨rfl, hB1⟩)
  go_ret
  exact ⟨ret_int HF.out.symm, hB1⟩
end Go.Proofs.YtkljcdghbefceaaGreatDoor

namespace Go.Proofs.YtkljcdghbefceaaGreatDoor
set_option linter.unusedVariables false
set_option linter.unusedSimpArgs false
open Go.RowKit Go.Shelf Bits
open Go.Proofs.YtkljcdghbefceaaGreatDoorW.PrintWords Go.Proofs.YtkljcdghbefceaaGreatDoorW.PrintLast Go.Proofs.YtkljcdghbefceaaGreatDoorW.PrintMore
theorem C_nilI (w : World) : (Kd.int .i64).C w none 0 [] := ⟨rfl, by simp, fun hn => absurd hn (by simp)⟩
theorem ValidGraph_is (b : Bool) (A : Option Addr) (c : Nat) (g : List Tk) (h : Hid (specValid g = b)) (w : World) (hr : kTk.C w A g.length g) (hT : Tab w) :
  Calls Tryz.prog 53 #[.slice A g.length c] w fun e w' => e = .returned (.bool b) ∧ Below w.heap.size w w' := by
 have hv := h.out
 rw [specValid_eq] at hv
 cases hg : graphN g with
 | none =>
  rw [hg] at hv
  obtain rfl : b = false := hv.symm
  have HP := Lib.hid (graphOf_no A c g w hr hg)
  clear hr hT hg h hv
  go_enter Tryz.func53, Tryz.ntmps53
  go_wp2_with (go_at_call 44; refine HP.out.mono ?_; rintro e w1 ⟨rfl, hB1⟩)
  go_ret
  exact ⟨rfl, hB1⟩
 | some ns =>
  rw [hg] at hv
  obtain rfl : b = true := hv.symm
  have HP := Lib.hid (graphOf_yes A c g ns w hr hT hg)
  clear hr hT hg h hv
  go_enter Tryz.func53, Tryz.ntmps53
  go_wp2_with (go_at_call 44; refine HP.out.mono ?_; rintro e w1 ⟨C, rfl, hG, hB1⟩)
  go_ret
  exact ⟨rfl, hB1⟩
end Go.Proofs.YtkljcdghbefceaaGreatDoor

namespace Go.Proofs.YtkljcdghbefceaaGreatDoor
set_option linter.unusedVariables false
set_option linter.unusedSimpArgs false
open Go.RowKit Go.Shelf Bits
open Go.Proofs.YtkljcdghbefceaaGreatDoorW.PrintWords Go.Proofs.YtkljcdghbefceaaGreatDoorW.PrintLast Go.Proofs.YtkljcdghbefceaaGreatDoorW.PrintMore
def mostB (g : List Tk) (log : List Ev) : Int := match replayB g log with
 | some p => p.2
 | none => -1
section
variable (A : Option Addr) (c : Nat) (g : List Tk) (A' : Option Addr) (c' : Nat) (log : List Ev) (w : World)
end
end Go.Proofs.YtkljcdghbefceaaGreatDoor

namespace Go.Proofs.YtkljcdghbefceaaGreatDoor
set_option linter.unusedVariables false
set_option linter.unusedSimpArgs false
open Go.RowKit Go.Shelf Bits
def sumN (log : List Ev) : Nat → Int
 | 0 => 0
 | k + 1 => sumN log k + 1 - 2 * (if (rdEv log k).f2 = true then 1 else 0)
def mostN (log : List Ev) : Nat → Int
 | 0 => 0
 | k + 1 => if lastOf log k then max (mostN log k) (sumN log (k + 1)) else mostN log k
theorem sumN_bound (log : List Ev) : ∀ k : Nat, -(k : Int) ≤ sumN log k ∧ sumN log k ≤ k
 | 0 => ⟨by show (0 : Int) ≥ _; omega, by show (0 : Int) ≤ _; omega⟩
 | k + 1 => by
  have := sumN_bound log k
  unfold sumN
  split <;> omega
theorem elems_cnt (s : Nat) : (elems s).length = cntW 16 s := by
 unfold elems
 have h : ∀ n, ((List.range n).filter s.testBit).length = cntW n s := by
  intro n
  induction n with
  | zero => rfl
  | succ n ih =>
   rw [List.range_succ, List.filter_append, List.length_append, ih]
   have h1 : ([n].filter s.testBit).length = if s.testBit n = true then 1 else 0 := by
    cases hb : s.testBit n with
    | true => rw [List.filter_cons_of_pos hb]; rfl
    | false => rw [List.filter_cons_of_neg (by rw [hb]; simp)]; rfl
   rw [h1]
   rfl
 exact h 16
theorem cnt_least {s m : Nat} (h : ∀ i, s.testBit i = true → i < m) : ∀ n, cntW n s ≤ m
 | 0 => Nat.zero_le _
 | n + 1 => by
  have ih := cnt_least h n
  have hn : cntW n s ≤ n := by
   clear ih
   induction n with
   | zero => exact Nat.le_refl _
   | succ n ih => unfold cntW; split <;> omega
  unfold cntW
  split
  ·
   rename_i hb
   have := h n hb
   omega
  ·
   omega
structure Kept (g : List Tk) (log : List Ev) (k : Nat) (M : Mach) (most : Int) : Prop where
 sub : ∀ i, M.o.testBit i = true → M.b.testBit i = true
 lt : ∀ i, M.b.testBit i = true → i < g.length
 run : running M = sumN log k
 mst : most = mostN log k
 le : most ≤ g.length
 ge : 0 ≤ most
theorem run_le {g : List Tk} {M : Mach} (h : ∀ i, M.b.testBit i = true → i < g.length) : running M ≤ g.length := by
 unfold running
 rw [elems_cnt]
 have := cnt_least (s := diff M.b M.o) (m := g.length) (fun i hi => h i (by rw [diff_bit, Bool.and_eq_true] at hi; exact hi.1)) 16
 omega
theorem Kept.step {g : List Tk} {ns : List Nat} {log : List Ev} {k : Nat} {M M' : Mach} {most : Int} (hg8 : g.length ≤ 8) (h : Kept g log k M most) (hs : stepM g ns M (rdEv log k) = some M') :
  Kept g log (k + 1) M' (if lastOf log k then max most (running M') else most) := by
 obtain ⟨hin, hst⟩ := stepM_some hs
 obtain ⟨_, hi, hlt⟩ := evIn_num hin
 generalize he : rdEv log k = e at *
 have key : (∀ i, M'.o.testBit i = true → M'.b.testBit i = true) ∧ (∀ i, M'.b.testBit i = true → i < g.length) ∧ running M' = sumN log (k + 1) := by
  rcases hst with ⟨h2, hm, rfl⟩ | ⟨h2, hm, rfl⟩
  ·
   unfold mayBegin at hm
   simp only [Bool.and_eq_true, Bool.not_eq_true'] at hm
   have ho : M.o.testBit e.i = false := by
    cases hx : M.o.testBit e.i with
    | false => rfl
    | true => rw [h.sub _ hx] at hm; exact absurd hm.1 (by simp)
   refine ⟨fun i hx => ?_, fun i hx => ?_, ?_⟩
   ·
    show (M.b ||| 2 ^ e.i).testBit i = true
    rw [or_bit, h.sub i hx]; rfl
   ·
    have hx : (M.b ||| 2 ^ e.i).testBit i = true := hx
    rw [or_bit, Bool.or_eq_true, decide_eq_true_eq] at hx
    rcases hx with hx | rfl
    ·
     exact h.lt i hx
    ·
     exact hlt
   ·
    have hd : diff (M.b ||| 2 ^ e.i) M.o = diff M.b M.o ||| 2 ^ e.i := by
     apply Nat.eq_of_testBit_eq
     intro j
     rw [diff_bit, or_bit, or_bit, diff_bit]
     by_cases hj : e.i = j
     ·
      subst hj; rw [ho]; simp
     ·
      simp [hj]
    have hr := h.run
    unfold running at hr ⊢
    show (((elems (diff (M.b ||| 2 ^ e.i) M.o)).length : Nat) : Int) = _
    rw [hd, elems_cnt, cntW_step (by rw [diff_bit, hm.1]; rfl) 16 (by omega)]
    rw [elems_cnt] at hr
    unfold sumN
    rw [he, h2, ← hr]
    simp only [Bool.false_eq_true, if_false]
    omega
  ·
   unfold mayEnd at hm
   simp only [Bool.and_eq_true, Bool.not_eq_true'] at hm
   refine ⟨fun i hx => ?_, fun i hx => h.lt i hx, ?_⟩
   ·
    have hx : (M.o ||| 2 ^ e.i).testBit i = true := hx
    rw [or_bit, Bool.or_eq_true, decide_eq_true_eq] at hx
    rcases hx with hx | rfl
    ·
     exact h.sub i hx
    ·
     exact hm.1.1
   ·
    have hd : diff M.b M.o = diff M.b (M.o ||| 2 ^ e.i) ||| 2 ^ e.i := by
     apply Nat.eq_of_testBit_eq
     intro j
     rw [diff_bit, or_bit, diff_bit, or_bit]
     by_cases hj : e.i = j
     ·
      subst hj; rw [hm.1.1, hm.1.2]; simp
     ·
      simp [hj]
    have hr := h.run
    unfold running at hr ⊢
    show (((elems (diff M.b (M.o ||| 2 ^ e.i))).length : Nat) : Int) = _
    rw [hd, elems_cnt, cntW_step (by rw [diff_bit, or_bit]; simp) 16 (by omega)] at hr
    rw [elems_cnt]
    unfold sumN
    rw [he, h2, ← hr]
    simp only [if_true]
    omega
 obtain ⟨k1, k2, k3⟩ := key
 have hle := run_le k2
 refine ⟨k1, k2, k3, ?_, ?_, ?_⟩
 ·
  unfold mostN
  rw [h.mst, k3]
 ·
  have := h.le
  split
  ·
   exact Int.max_le.2 ⟨this, hle⟩
  ·
   exact this
 ·
  have := h.ge
  split
  ·
   exact Int.le_trans this (Int.le_max_left _ _)
  ·
   exact this
theorem replay_kept {g : List Tk} {ns : List Nat} {log : List Ev} (hg8 : g.length ≤ 8) : ∀ (k : Nat) (p : Mach × Int), replayN g ns log k = some p → Kept g log k p.1 p.2
 | 0, p, h => by
  obtain rfl : (Mach.zero, (0 : Int)) = p := Option.some.inj h
  exact ⟨fun i hi => by simp [Mach.zero] at hi, fun i hi => by simp [Mach.zero] at hi, by unfold running; rw [elems_cnt]; simp [Mach.zero, diff, cnt_zero, sumN], rfl, by show (0 : Int) ≤ _; omega, Int.le_refl _⟩
 | k + 1, p, h => by
  unfold replayN at h
  obtain ⟨q, hq, h⟩ := Option.bind_eq_some_iff.1 h
  split at h
  ·
   cases h
  ·
   obtain ⟨M', hM, rfl⟩ := Option.map_eq_some_iff.1 h
   exact (replay_kept hg8 k q hq).step hg8 hM
structure Early (g : List Tk) (log : List Ev) (k : Nat) (M : Mach) : Prop where
 sum : sumN log k = k
 at_ : ∀ j, j < k → (rdEv log j).f0 = (rdEv log 0).f0
 bg : ∀ i, M.b.testBit i = true → 0 < k ∧ M.bg i = (rdEv log 0).f0
 last : ∀ j, j < k → lastOf log j = false
theorem most_mono {log : List Ev} {k : Nat} (h : 1 ≤ mostN log k) : 1 ≤ mostN log (k + 1) := by
 unfold mostN
 split
 ·
  exact Int.le_trans h (Int.le_max_left _ _)
 ·
  exact h
theorem replay_early {g : List Tk} {ns : List Nat} {log : List Ev} (hgt : ∀ i, i < g.length → 1 ≤ (rdTk g i).f0) : ∀ (k : Nat) (p : Mach × Int), k ≤ log.length → replayN g ns log k = some p → 1 ≤ mostN log k ∨ Early g log k p.1
 | 0, p, _, h => by
  obtain rfl : (Mach.zero, (0 : Int)) = p := Option.some.inj h
  exact Or.inr ⟨rfl, fun j hj => by omega, fun i hi => by simp [Mach.zero] at hi, fun j hj => by omega⟩
 | k + 1, p, hk, h => by
  unfold replayN at h
  obtain ⟨q, hq, h⟩ := Option.bind_eq_some_iff.1 h
  split at h
  ·
   cases h
  ·
   rename_i hord
   obtain ⟨M', hM, rfl⟩ := Option.map_eq_some_iff.1 h
   rcases replay_early hgt k q (by omega) hq with h1 | h1
   ·
    exact Or.inl (most_mono h1)
   ·
    obtain ⟨hin, hst⟩ := stepM_some hM
    obtain ⟨_, hi, hlt⟩ := evIn_num hin
    have hat : (rdEv log k).f0 = (rdEv log 0).f0 := by
     rcases Nat.eq_zero_or_pos k with rfl | hp
     ·
      rfl
     ·
      have hl := h1.last (k - 1) (by omega)
      have ha := h1.at_ (k - 1) (by omega)
      unfold lastOf at hl
      unfold inOrder at hord
      rw [show k - 1 + 1 = k by omega] at hl
      simp only [Bool.or_eq_false_iff, decide_eq_false_iff_not, Bool.not_eq_false, Bool.not_eq_true', Bool.and_eq_false_iff] at hl hord
      omega
    rcases hst with ⟨h2, hm, rfl⟩ | ⟨h2, hm, rfl⟩
    ·
     have hsum : sumN log (k + 1) = (k : Int) + 1 := by
      unfold sumN
      rw [h1.sum, h2]
      simp
     by_cases hlast : lastOf log k = true
     ·
      left
      unfold mostN
      rw [if_pos hlast, hsum]
      have := Int.le_max_right (mostN log k) ((k : Int) + 1)
      omega
     ·
      right
      refine ⟨by rw [hsum]; rfl, fun j hj => ?_, fun i hx => ⟨Nat.succ_pos _, ?_⟩, fun j hj => ?_⟩
      ·
       rcases Nat.lt_succ_iff_lt_or_eq.1 hj with hj | rfl
       ·
        exact h1.at_ j hj
       ·
        exact hat
      ·
       show (if i = (rdEv log k).i then (rdEv log k).f0 else q.1.bg i) = _
       split
       ·
        exact hat
       ·
        rename_i hne
        have hx : (q.1.b ||| 2 ^ (rdEv log k).i).testBit i = true := hx
        rw [or_bit, Bool.or_eq_true, decide_eq_true_eq] at hx
        rcases hx with hx | hx
        ·
         exact (h1.bg i hx).2
        ·
         exact absurd hx.symm hne
      ·
       rcases Nat.lt_succ_iff_lt_or_eq.1 hj with hj | rfl
       ·
        exact h1.last j hj
       ·
        simpa using hlast
    ·
     exfalso
     unfold mayEnd at hm
     simp only [Bool.and_eq_true, Bool.not_eq_true', decide_eq_true_eq] at hm
     have := (h1.bg _ hm.1.1).2
     have := hgt _ hlt
     omega
theorem most_pos {g : List Tk} {ns : List Nat} {log : List Ev} (hgt : ∀ i, i < g.length → 1 ≤ (rdTk g i).f0) (p : Mach × Int) (h : replayN g ns log log.length = some p) (hn : 0 < log.length) : 1 ≤ mostN log log.length := by
 rcases replay_early hgt log.length p (Nat.le_refl _) h with h1 | h1
 ·
  exact h1
 ·
  have := h1.last (log.length - 1) (by omega)
  unfold lastOf at this
  simp only [Bool.or_eq_false_iff, decide_eq_false_iff_not] at this
  omega
end Go.Proofs.YtkljcdghbefceaaGreatDoor

namespace Go.Proofs.YtkljcdghbefceaaGreatDoor
set_option linter.unusedVariables false
set_option linter.unusedSimpArgs false
open Go.RowKit Go.Shelf Bits
open Go.Proofs.YtkljcdghbefceaaGreatDoorW.PrintWords Go.Proofs.YtkljcdghbefceaaGreatDoorW.PrintLast Go.Proofs.YtkljcdghbefceaaGreatDoorW.PrintMore
attribute [local go_sem] Oper.semAt_some
def sumT (g : List Tk) (l : List Nat) : Int := (l.map fun i => (rdTk g i).f0).sum
theorem sumT_snoc (g : List Tk) (l : List Nat) (i : Nat) : sumT g (l ++ [i]) = sumT g l + (rdTk g i).f0 := by
 unfold sumT
 rw [List.map_append, List.sum_append]
 simp
theorem sumT_bound {g : List Tk} (htm : ∀ i, 0 ≤ (rdTk g i).f0 ∧ (rdTk g i).f0 ≤ 20) : ∀ l : List Nat, 0 ≤ sumT g l ∧ sumT g l ≤ 20 * l.length
 | [] => ⟨Int.le_refl _, by show (0 : Int) ≤ _; simp⟩
 | i :: l => by
  have ih := sumT_bound htm l
  have h := htm i
  have e : sumT g (i :: l) = (rdTk g i).f0 + sumT g l := by unfold sumT; simp
  rw [e, List.length_cons]
  omega
set_option maxRecDepth 100000 in
set_option maxHeartbeats 2000000 in
theorem total_calls (C : Nat) (g : List Tk) (ns : List Nat) (s : Nat) (h8 : g.length ≤ 8) (hs : s < 2 ^ g.length) (htm : ∀ i, 0 ≤ (rdTk g i).f0 ∧ (rdTk g i).f0 ≤ 20) (w : World) (hG : IsGraph w C g ns) (hT : Tab w) :
  Calls Tryz.prog 23 #[.pointer (some ⟨C, 0, none⟩), .int .u16 s] w fun e W' => e = .returned (.int .i64 (sumT g (elems s))) ∧ Below w.heap.size w W' := by
 have hs16 : s < 65536 := Nat.lt_of_lt_of_le hs (Nat.le_trans (Nat.pow_le_pow_right (by omega) h8) (by decide))
 have hCl : C < w.heap.size := by obtain ⟨Ag, cg, An, cn, Ao, co, vb, va, h1, _⟩ := hG; exact blk_lt h1
 have HG := Lib.hid hG
 have HTM := Lib.hid htm
 clear hG htm
 refine calls_of_wp_marks Tryz.func23 rfl ?_
 simp only [Tryz.ntmps23, List.size_toArray, List.length_cons, List.length_nil, Nat.reduceAdd, Nat.reduceSub, Array.replicate_succ, Array.replicate_zero, List.push_toArray, List.append_toArray, List.nil_append, List.cons_append]
 go_wp2_with (go_at_call 47; refine (all_calls s _).mono ?_; rintro e w' ⟨rfl, rfl⟩)
 obtain ⟨W0, hW0⟩ : ∃ W0, W0 = (w.alloc (.cells #[.pointer (some ⟨C, 0, none⟩)] 36)).alloc (.cells #[.int .i64 0] 3) := ⟨_, rfl⟩
 have hB0 : Below w.heap.size w W0 := by rw [hW0]; exact ((Below.refl _ w).alloc (Nat.le_refl _) _).alloc (by simp) _
 have hz0' : W0.heap.size = w.heap.size + 1 + 1 := by rw [hW0]; simp
 have hb0 : Boxed W0 (w.heap.size + 1) 3 (.int .i64 0) := by rw [hW0]; have := Boxed.new (w.alloc (.cells #[.pointer (some ⟨C, 0, none⟩)] 36)) 3 (.int .i64 0); rwa [World.size_alloc] at this
 have hb1 : Boxed W0 w.heap.size 36 (.pointer (some ⟨C, 0, none⟩)) := by rw [hW0]; exact (Boxed.new w 36 (.pointer (some ⟨C, 0, none⟩))).alloc _
 rw [← hW0]
 clear hW0
 have htl := hT.lt
 have hT0 := hT.keep htl hB0
 have hBox := Boxed.new W0 46 (.int .u16 s)
 rw [hz0'] at hBox
 refine wp_rangeSet1 s (w.heap.size + 1 + 1) w.heap.size hs16 rfl (by simp [hz0']) hBox.cell (hT0.keep hT0.lt ((Below.refl _ _).alloc (Nat.le_refl _) _)) (by simp [hz0']; omega) htl
  (fun pre W => Boxed W (w.heap.size + 1) 3 (.int .i64 (sumT g (pre.map (·.1)))) ∧ Boxed W w.heap.size 36 (.pointer (some ⟨C, 0, none⟩)) ∧ Below w.heap.size w W) (fun _ _ _ => False)
  ((Own.from (boxed_own (w.heap.size + 1) 3 (fun pre : List (El s) => Value.int .i64 (sumT g (pre.map (·.1))))) _).and ((Own.from (boxed_own w.heap.size 36 (fun _ => _)) _).and (ownFrom_below (Nat.le_refl _) (by simp [hz0']; omega))))
  (fun _ _ _ _ _ h _ _ => h)
  ⟨hb0.alloc _, hb1.alloc _, hB0.alloc hB0.size _⟩
  (fun x => { tmps := #[.pointer (some ⟨C, 0, none⟩), .int .u16 s, .pointer (some ⟨w.heap.size, 0, none⟩), undef, .int .i64 0, .pointer (some ⟨w.heap.size + 1, 0, none⟩), .int .i64 (x.1 : Nat), .int .u16 s, .func (.func 74) #[] #[.pointer (some ⟨w.heap.size + 1 + 1, 0, none⟩)], .int .i64 (x.1 : Nat), undef, undef, undef, undef, undef, undef, undef, undef, undef, undef, undef], defers := [] }) ?assign ?body ?done ?stop
 case assign =>
  intro l x W K hK
  gi_wp2
  exact hK
 case body =>
  rintro l pre x W ⟨hb, hb2, hB⟩ hlt
  have hel := elems_length s
  have hxn : x.1 < g.length := elems_below hs x.2
  obtain ⟨Ag, cg, An, cn, Ao, co, vb, va, h1, h2, _, _⟩ := HG.out.below hB
  have cC := blk_cell h1 0
  simp at cC
  obtain ⟨ad, A1, c1, rfl, hx0, _⟩ := at_Tk h2 x.1 hxn
  have hsn := sumT_snoc g (pre.map (·.1)) x.1
  have hsb := sumT_bound HTM.out (pre.map (·.1))
  have htx := HTM.out x.1
  rw [List.length_map] at hsb
  have hI : ∀ W', Boxed W' (w.heap.size + 1) 3 (.int .i64 (sumT g (pre.map (·.1)) + (rdTk g x.1).f0)) → Boxed W' (w.heap.size + 1) 3 (.int .i64 (sumT g ((pre ++ [x]).map (·.1)))) := by
   intro W' h
   rw [List.map_append, List.map_cons, List.map_nil, hsn]
   exact h
  have HI := Lib.hid hI
  clear hI hsn h1 h2
  generalize sumT g (pre.map (·.1)) = S at hb hsb HI
  generalize (rdTk g x.1).f0 = tm at hx0 htx HI
  have hwr : IntKind.i64.wrap (S + tm) = S + tm := IntWalk.i64_in _ (by omega)
  have hxi : ((x.1 : Nat) : Int) < (g.length : Int) := by clear hwr; omega
  have hc := hb.cell
  have hf := hb.frozen
  have hc2 := hb2.cell
  gi_wp2
  refine wpIn_region_still_tail 10 mixed (by kernel_rfl) (by kernel_rfl) (fun ⟨_, _, h⟩ => h) ?_
  simp only [List.take_succ_cons, List.take_zero, List.drop_succ_cons, List.drop_zero]
  repeat (with_reducible refine wpStill_step (fun K hK => ?_); go_simp; with_reducible refine hK _ ?_; clear hK K)
  with_reducible refine wpStill_nil ?_
  clear hwr
  go_wp2
  have hBs := hB.size
  exact ⟨((KeepsOthers.setCell _ _ _).trans (KeepsOthers.drew _)).from _, ((Below.refl _ _).setCell (p := ⟨w.heap.size + 1, 0, none⟩) (by simp) _).drew, HI.out _ (hb.set _), blk_far hb2 (by simp) _, (hB.setCell (p := ⟨w.heap.size + 1, 0, none⟩) (by simp) _).drew⟩
 case stop =>
  rintro D c pre W _ _ h _
  exact h.elim
 case done =>
  rintro D ys W hD hys ⟨hb, hb2, hB⟩ hK
  have hc := hb.cell
  rw [hys] at hc
  have HE := Lib.hid hc
  go_wp2
  refine leave_one hK (results_tmp rfl _ _ _) ⟨rfl, ?_⟩
  exact hB.trans (belowK_b (w := w) (Nat.le_refl _) W D _ _ (by simp [hz0'] at hD; omega) hK rfl rfl)
def busyB (g : List Tk) (log : List Ev) : Int := match replayB g log with
 | some p => sumT g (elems p.1.o)
 | none => -1
theorem lt_pow_of_bits {s n : Nat} (h : ∀ i, s.testBit i = true → i < n) : s < 2 ^ n := Nat.lt_pow_two_of_testBit s fun i hi => by
 cases hb : s.testBit i with
 | false => rfl
 | true => have := h i hb; omega
theorem replayB_facts {g : List Tk} {log : List Ev} {p : Mach × Int} (h : replayB g log = some p) : ∃ ns, graphN g = some ns ∧ replayN g ns log log.length = some p ∧ g.length ≤ 8 ∧ p.1.o < 2 ^ g.length ∧ ∀ i, 0 ≤ (rdTk g i).f0 ∧ (rdTk g i).f0 ≤ 20 := by
 unfold replayB at h
 obtain ⟨ns, hns, hp⟩ := Option.bind_eq_some_iff.1 h
 split at hp
 ·
  have h8 := (graphN_all hns).1
  have hk := replay_kept h8 _ p hp
  exact ⟨ns, hns, hp, h8, lt_pow_of_bits fun i hi => hk.lt i (hk.sub i hi), graphN_time hns⟩
 ·
  cases hp
end Go.Proofs.YtkljcdghbefceaaGreatDoor
