/- impl DoneBy: the tasks that a log has over by a time. -/
import Derived.Test.YtpmfghbjkampkaaDoorBusy
import Derived.Test.YtpmfghbjkampkaaDoorSmall
import Derived.Test.YtpmfghbjkampkaaDoorBridge
namespace Go.Proofs.YtpmfghbjkampkaaDoor
set_option linter.unusedVariables false
set_option linter.unusedSimpArgs false
open Go.RowKit Go.Shelf Bits
open Go.Proofs.YtpmfghbjkampkaaDoorW.PrintWords Go.Proofs.YtpmfghbjkampkaaDoorW.PrintLast Go.Proofs.YtpmfghbjkampkaaDoorW.PrintMore
attribute [local go_sem] Oper.semAt_some
def accN (cl : Nat → Int) (now : Int) (l : List Nat) : Nat := l.foldl (fun s i => if cl i ≤ now then s ||| 2 ^ i else s) 0
theorem accN_snoc (cl : Nat → Int) (now : Int) (l : List Nat) (i : Nat) : accN cl now (l ++ [i]) = if cl i ≤ now then accN cl now l ||| 2 ^ i else accN cl now l := by
 unfold accN
 rw [List.foldl_append]
 rfl
theorem accN_bits (cl : Nat → Int) (now : Int) (j : Nat) : ∀ (l : List Nat) (s : Nat), (l.foldl (fun s i => if cl i ≤ now then s ||| 2 ^ i else s) s).testBit j = (s.testBit j || decide (j ∈ l ∧ cl j ≤ now))
 | [], s => by simp
 | i :: l, s => by
  rw [List.foldl_cons, accN_bits cl now j l]
  by_cases hc : cl i ≤ now
  ·
   rw [if_pos hc, or_bit]
   by_cases hj : i = j
   ·
    subst hj
    simp [hc]
   ·
    have : ¬ j = i := fun e => hj e.symm
    simp [hj, this]
  ·
   rw [if_neg hc]
   by_cases hj : i = j
   ·
    subst hj
    simp [hc]
   ·
    have : ¬ j = i := fun e => hj e.symm
    simp [this]
theorem accN_bit (cl : Nat → Int) (now : Int) (l : List Nat) (j : Nat) : (accN cl now l).testBit j = decide (j ∈ l ∧ cl j ≤ now) := by
 unfold accN
 rw [accN_bits]
 simp
theorem accN_lt {cl : Nat → Int} {now : Int} {l : List Nat} (h : ∀ i ∈ l, i < 16) : accN cl now l < 65536 :=
 lt_pow_of_bits (n := 16) fun i hi => by
  rw [accN_bit, decide_eq_true_eq] at hi
  exact h i hi.1
def doneL (M : Mach) (now : Int) : List Nat := (elems M.o).filter fun i => decide (M.cl i ≤ now)
theorem elems_acc (M : Mach) (now : Int) : elems (accN M.cl now (elems M.o)) = doneL M now := by
 unfold doneL
 conv => lhs; unfold elems
 conv => rhs; unfold elems
 rw [List.filter_filter]
 apply List.filter_congr
 intro j hj
 have hj := List.mem_range.1 hj
 have hm : j ∈ List.filter M.o.testBit (List.range 16) ↔ M.o.testBit j = true := by
  rw [List.mem_filter]
  exact ⟨fun h => h.2, fun h => ⟨List.mem_range.2 hj, h⟩⟩
 rw [accN_bit]
 by_cases h2 : M.cl j ≤ now
 ·
  rw [decide_eq_true h2, Bool.true_and]
  by_cases h1 : M.o.testBit j = true
  ·
   rw [decide_eq_true ⟨hm.2 h1, h2⟩, h1]
  ·
   rw [decide_eq_false (fun h => h1 (hm.1 h.1))]
   simpa using h1
 ·
  rw [decide_eq_false h2, decide_eq_false (fun h => h2 h.2)]
  rfl
def doneB (g : List Tk) (log : List Ev) (now : Int) : List Int := match replayB g log with
 | some p => ints (doneL p.1 now)
 | none => []
set_option maxRecDepth 100000 in
set_option maxHeartbeats 2000000 in
theorem DoneBy_hit (A : Option Addr) (c : Nat) (g : List Tk) (A' : Option Addr) (c' : Nat) (log : List Ev) (now : Int) (w : World) (hr : kTk.C w A g.length g) (hr' : kEv.C w A' log.length log) (hT : Tab w) (p : Mach × Int) (hb : replayB g log = some p) :
  Calls Tryd.prog 24 #[.slice A g.length c, .slice A' log.length c', .int .i64 now] w fun e W' => ∃ v, e = .returned v ∧ Kd.R (Kd.int .i64) 3 W' w.heap.size (fun _ => True) v (ints (doneL p.1 now)) ∧ Below w.heap.size w W' := by
 obtain ⟨ns, _, _, h8, ho, htm⟩ := replayB_facts hb
 have ho16 : p.1.o < 65536 := Nat.lt_of_lt_of_le ho (Nat.le_trans (Nat.pow_le_pow_right (by omega) h8) (by decide))
 have HP := Lib.hid (fun (W : World) (hB : Below w.heap.size w W) => replay_hit A c g A' c' log W (Kd.C_below hr hB) (Kd.C_below hr' hB) (hT.keep hT.lt hB) p hb)
 clear hr hr' hb htm
 refine calls_of_wp_marks Tryd.func24 rfl ?_
 simp only [Tryd.ntmps24, List.size_toArray, List.length_cons, List.length_nil, Nat.reduceAdd, Nat.reduceSub, Array.replicate_succ, Array.replicate_zero, List.push_toArray, List.append_toArray, List.nil_append, List.cons_append]
 go_wp2_with (first | (go_at_call 58; refine (HP.out _ ((Below.refl _ w).alloc (Nat.le_refl _) _)).mono ?_; rintro e w1 ⟨h, C, ns, hg, rfl, hM, hG, hI, hB1⟩; have hM1 := hM; obtain ⟨hm0, hm1, hm2, hm3, hm4, hm5, hm6⟩ := hM) | (go_at_call 59; refine (all_calls p.1.o _).mono ?_; rintro e w' ⟨rfl, rfl⟩))
 have hBw : Below w.heap.size w w1 := ((Below.refl _ w).alloc (Nat.le_refl _) _).trans (hB1.mono (by simp))
 have hnow : w1.cell? ⟨w.heap.size, 0, none⟩ = some (.int .i64 now) := (hB1.cell (p := ⟨w.heap.size, 0, none⟩) (by simp)).trans (Boxed.new w 3 (.int .i64 now)).cell
 have hnl : w.heap.size < w1.heap.size := World.block_lt_of_cell? w1 ⟨w.heap.size, 0, none⟩ hnow
 have HBW := Lib.hid hBw
 have HNOW := Lib.hid hnow
 have HM := Lib.hid hM1
 have HH := Lib.hid hm6
 clear hM1 hm0 hm1 hm2 hm3 hm4 hm5 hm6 hG hI hg hB1 hBw hnow
 obtain ⟨W0, hW0⟩ : ∃ W0, W0 = (w1.alloc (.cells #[.pointer (some ⟨h, 0, none⟩)] 76)).alloc (.cells #[.int .u16 0] 80) := ⟨_, rfl⟩
 have hB0 : Below w1.heap.size w1 W0 := by rw [hW0]; exact ((Below.refl _ w1).alloc (Nat.le_refl _) _).alloc (by simp) _
 have hz0' : W0.heap.size = w1.heap.size + 1 + 1 := by rw [hW0]; simp
 have hb0 : Boxed W0 (w1.heap.size + 1) 80 (.int .u16 0) := by rw [hW0]; have := Boxed.new (w1.alloc (.cells #[.pointer (some ⟨h, 0, none⟩)] 76)) 80 (.int .u16 0); rwa [World.size_alloc] at this
 have hb1 : Boxed W0 w1.heap.size 76 (.pointer (some ⟨h, 0, none⟩)) := by rw [hW0]; exact (Boxed.new w1 76 (.pointer (some ⟨h, 0, none⟩))).alloc _
 rw [← hW0]
 clear hW0
 have hT1 := hT.keep hT.lt HBW.out
 have htl := hT1.lt
 have hT0 := hT1.keep htl hB0
 have hBox := Boxed.new W0 80 (.int .u16 p.1.o)
 rw [hz0'] at hBox
 refine wp_rangeSet1 p.1.o (w1.heap.size + 1 + 1) w1.heap.size ho16 rfl (by simp [hz0']) hBox.cell (hT0.keep hT0.lt ((Below.refl _ _).alloc (Nat.le_refl _) _)) (by simp [hz0']; omega) htl
  (fun pre W => Boxed W (w1.heap.size + 1) 80 (.int .u16 (accN p.1.cl now (pre.map (·.1)) : Nat)) ∧ Boxed W w1.heap.size 76 (.pointer (some ⟨h, 0, none⟩)) ∧ Below w1.heap.size w1 W) (fun _ _ _ => False)
  ((Own.from (boxed_own (w1.heap.size + 1) 80 (fun pre : List (El p.1.o) => Value.int .u16 (accN p.1.cl now (pre.map (·.1)) : Nat))) _).and ((Own.from (boxed_own w1.heap.size 76 (fun _ => _)) _).and (ownFrom_below (Nat.le_refl _) (by simp [hz0']; omega))))
  (fun _ _ _ _ _ h _ _ => h)
  ⟨hb0.alloc _, hb1.alloc _, hB0.alloc hB0.size _⟩
  (fun x => { tmps := #[.slice A g.length c, .slice A' log.length c', .int .i64 now, undef, undef, .pointer (some ⟨w.heap.size, 0, none⟩), .slice none 0 0, .pointer (some ⟨w1.heap.size, 0, none⟩), .int .i64 p.2, .bool true, .pointer (some ⟨w1.heap.size + 1, 0, none⟩), .int .i64 (x.1 : Nat),
   .tuple #[.pointer (some ⟨h, 0, none⟩), .int .i64 p.2, .bool true], .slice A g.length c, .slice A' log.length c', .tuple #[.pointer (some ⟨h, 0, none⟩), .int .i64 p.2, .bool true], .pointer (some ⟨h, 0, none⟩), .int .i64 p.2, .bool true, .bool true, .bool false, .pointer (some ⟨h, 0, none⟩), .pointer (some ⟨h, 0, none⟩), .pointer (some ⟨h, 2, none⟩), .int .u16 p.1.o,
   .func (.func 98) #[] #[.pointer (some ⟨w1.heap.size + 1 + 1, 0, none⟩)], .int .i64 (x.1 : Nat), undef, undef, undef, undef, undef, undef, undef, undef, undef, undef, undef, undef, undef], defers := [] }) ?assign ?body ?done ?stop
 case assign =>
  intro l x W K hK
  gi_wp2
  exact hK
 case body =>
  rintro l pre x W ⟨hb, hb2, hB⟩ hlt
  have hx8 : x.1 < 8 := Nat.lt_of_lt_of_le (elems_below ho x.2) h8
  have hall : ∀ i ∈ pre.map (·.1), i < 16 := by
   intro i hi
   obtain ⟨y, _, rfl⟩ := List.mem_map.1 hi
   exact elems_lt y.2
  have hacc := accN_lt (cl := p.1.cl) (now := now) hall
  have hsn := accN_snoc p.1.cl now (pre.map (·.1)) x.1
  have hI : ∀ (W' : World) (r : Nat), (if p.1.cl x.1 ≤ now then accN p.1.cl now (pre.map (·.1)) ||| 2 ^ x.1 else accN p.1.cl now (pre.map (·.1))) = r → Boxed W' (w1.heap.size + 1) 80 (.int .u16 (r : Nat)) → Boxed W' (w1.heap.size + 1) 80 (.int .u16 (accN p.1.cl now ((pre ++ [x]).map (·.1)) : Nat)) := by
   intro W' r hr h
   rw [List.map_append, List.map_cons, List.map_nil, hsn, hr]
   exact h
  have HI := Lib.hid hI
  obtain ⟨_, _, _, _, hm4, _⟩ := HM.out.below hB
  have hcl := hm4 x.1 hx8
  have hnow := (hB.cell (p := ⟨w.heap.size, 0, none⟩) hnl).trans HNOW.out
  have HBB := Lib.hid hB
  clear hI hsn hm4 hall
  generalize accN p.1.cl now (pre.map (·.1)) = S at hb hacc HI
  generalize p.1.cl x.1 = z at hcl HI
  have hxi : ((x.1 : Nat) : Int) < 8 := by omega
  have hx16 : x.1 < 16 := by omega
  have hc := hb.cell
  have hf := hb.frozen
  have hc2 := hb2.cell
  by_cases hz : z ≤ now
  ·
   have dz : decide (z ≤ now) = true := decide_eq_true hz
   have HZ := Lib.hid (if_pos hz : (if z ≤ now then S ||| 2 ^ x.1 else S) = S ||| 2 ^ x.1)
   clear hz
   gi_wp2
   refine wpIn_region_still_tail 7 mixed (by kernel_rfl) (by kernel_rfl) (fun ⟨_, _, h⟩ => h) ?_
   simp only [List.take_succ_cons, List.take_zero, List.drop_succ_cons, List.drop_zero]
   repeat (with_reducible refine wpStill_step (fun K hK => ?_); go_simp; with_reducible refine hK _ ?_; clear hK K)
   with_reducible refine wpStill_nil ?_
   go_wp2
   gi_wp2_with (refine ⟨trivial, ?_⟩; gi_at_call 60; refine CallsIn.mono (CallsIn.inRound l (callsIn_wide.2 (with_calls S x.1 hacc hx16 _))) ?_; rintro e w' ⟨rfl, rfl⟩)
   have hB := HBB.out
   exact ⟨((KeepsOthers.drew _).trans (KeepsOthers.setCell _ _ _)).from _, ((Below.refl _ _).drew).setCell (p := ⟨w1.heap.size + 1, 0, none⟩) (by simp) _, HI.out _ _ HZ.out ((show Boxed W.drew _ _ _ from hb).set _), blk_far (show Boxed W.drew _ _ _ from hb2) (by simp) _, (hB.drew).setCell (p := ⟨w1.heap.size + 1, 0, none⟩) (by simp) _⟩
  ·
   have dz : decide (z ≤ now) = false := decide_eq_false hz
   have HZ := Lib.hid (if_neg hz : (if z ≤ now then S ||| 2 ^ x.1 else S) = S)
   clear hz
   gi_wp2
   refine wpIn_region_still_tail 7 mixed (by kernel_rfl) (by kernel_rfl) (fun ⟨_, _, h⟩ => h) ?_
   simp only [List.take_succ_cons, List.take_zero, List.drop_succ_cons, List.drop_zero]
   repeat (with_reducible refine wpStill_step (fun K hK => ?_); go_simp; with_reducible refine hK _ ?_; clear hK K)
   with_reducible refine wpStill_nil ?_
   go_wp2
   gi_wp2
   have hB := HBB.out
   exact ⟨(KeepsOthers.drew _).from _, (Below.refl _ _).drew, HI.out _ _ HZ.out hb, hb2, hB.drew⟩
 case stop =>
  rintro D c pre W _ _ h _
  exact h.elim
 case done =>
  rintro D ys W hD hys ⟨hb, hb2, hB⟩ hK
  have hc := hb.cell
  rw [hys] at hc
  have hacc := accN_lt (cl := p.1.cl) (now := now) (l := elems p.1.o) (fun i hi => elems_lt hi)
  have hTW := hT1.keep htl hB
  have HE : Hid (els (accN p.1.cl now (elems p.1.o)) = ints (doneL p.1 now)) := Lib.hid (by unfold els ints; rw [elems_acc])
  have HBB := Lib.hid hB
  clear hb hb2 hB
  generalize accN p.1.cl now (elems p.1.o) = S at hc hacc HE
  go_wp2_with (go_at_call 61; refine (list_calls S hacc _ hTW).mono ?_; rintro e w3 ⟨v, rfl, hR, hB3⟩)
  have hDW : D < W.heap.size := (Array.getElem?_eq_some_iff.1 hK).1
  have hK1 : w3.heap[D]? = some (.deferred (some [])) := (hB3.block D hDW).trans hK
  have hsz := HBB.out.size
  have hsw := HBW.out.size
  have hR2 : Kd.R (Kd.int .i64) 3 w3 w.heap.size (fun _ => True) v (ints (doneL p.1 now)) := by rw [← HE.out]; exact Kd.R_lower hR (by omega)
  refine leave_one hK1 (results_tmp rfl _ _ _) ⟨v, rfl, R_grownNC hR2 (grownBy_putObj' _ D (.deferred none)) (fun r e => by cases e; exact ⟨_, hK1, rfl⟩), ?_⟩
  have hB4 : Below w.heap.size w w3 := HBW.out.trans ((HBB.out.mono hsw).trans (hB3.mono (by omega)))
  exact hB4.trans (belowK_b (w := w) (Nat.le_refl _) w3 D _ _ (by simp [hz0'] at hD; omega) hK1 rfl rfl)
set_option maxRecDepth 100000 in
theorem DoneBy_miss (A : Option Addr) (c : Nat) (g : List Tk) (A' : Option Addr) (c' : Nat) (log : List Ev) (now : Int) (w : World) (hr : kTk.C w A g.length g) (hr' : kEv.C w A' log.length log) (hT : Tab w) (hb : replayB g log = none) :
  Calls Tryd.prog 24 #[.slice A g.length c, .slice A' log.length c', .int .i64 now] w fun e W' => e = .returned (.slice none 0 0) ∧ Below w.heap.size w W' := by
 have HP := Lib.hid (fun (W : World) (hB : Below w.heap.size w W) => replay_miss A c g A' c' log W (Kd.C_below hr hB) (Kd.C_below hr' hB) (hT.keep hT.lt hB) hb)
 clear hr hr' hb hT
 refine calls_of_wp_marks Tryd.func24 rfl ?_
 simp only [Tryd.ntmps24, List.size_toArray, List.length_cons, List.length_nil, Nat.reduceAdd, Nat.reduceSub, Array.replicate_succ, Array.replicate_zero, List.push_toArray, List.append_toArray, List.nil_append, List.cons_append]
 go_wp2_with (go_at_call 58; refine (HP.out _ ((Below.refl _ w).alloc (Nat.le_refl _) _)).mono ?_; rintro e w1 ⟨rfl, hB1⟩)
 have hBw : Below w.heap.size w w1 := ((Below.refl _ w).alloc (Nat.le_refl _) _).trans (hB1.mono (by simp))
 exact leave_marks (B := w.heap.size) (v := .slice none 0 0) [] _ (Marks.nil _) (fun D h => by cases h) (fun w' hs => ⟨results_tmp (t := 6) rfl _ _ _, rfl, (hBw.alloc hBw.size _).trans hs.below⟩)
theorem DoneBy_impl (A : Option Addr) (c : Nat) (g : List Tk) (A' : Option Addr) (c' : Nat) (log : List Ev) (now : Int) (w : World) (hr : kTk.C w A g.length g) (hr' : kEv.C w A' log.length log) (hT : Tab w) :
  Calls Tryd.prog 24 #[.slice A g.length c, .slice A' log.length c', .int .i64 now] w fun e W' => ∃ v, e = .returned v ∧ Kd.R (Kd.int .i64) 3 W' w.heap.size (fun _ => True) v (doneB g log now) ∧ Below w.heap.size w W' := by
 cases hb : replayB g log with
 | none =>
  refine (DoneBy_miss A c g A' c' log now w hr hr' hT hb).mono fun e W' h => ⟨_, h.1, ?_, h.2⟩
  unfold doneB
  rw [hb]
  exact Kd.R_nil _ _ _ _ _
 | some p =>
  refine (DoneBy_hit A c g A' c' log now w hr hr' hT p hb).mono fun e W' h => ?_
  unfold doneB
  rw [hb]
  exact h
end Go.Proofs.YtpmfghbjkampkaaDoor
