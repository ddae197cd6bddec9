/- Parts of the proof, laid as one text by a program of mine. -/
import Derived.Test.YtifbjnhicnfdoaaDoorKac24
import Derived.Test.YtifbjnhicnfdoaaDoorKac2
import Derived.Test.YtifbjnhicnfdoaaDoorKac9
import Derived.Test.YtifbjnhicnfdoaaDoorKac23
import Derived.Test.YtifbjnhicnfdoaaDoorKac17
namespace Go.Proofs.YtifbjnhicnfdoaaDoor
set_option linter.unusedVariables false
set_option linter.unusedSimpArgs false
open Go.RowKit Go.Shelf Bits
open Go.Proofs.YtifbjnhicnfdoaaDoorW.PrintWords Go.Proofs.YtifbjnhicnfdoaaDoorW.PrintLast Go.Proofs.YtifbjnhicnfdoaaDoorW.PrintMore
attribute [local go_sem] Oper.semAt_some
def accN (cl : Nat → Int) (now : Int) (l : List Nat) : Nat := l.foldl (fun s i => if cl i ≤ now then s ||| 2 ^ i else s) 0
theorem accN_snoc (cl : Nat → Int) (now : Int) (l : List Nat) (i : Nat) : accN cl now (l ++ [i]) = if cl i ≤ now then accN cl now l ||| 2 ^ i else accN cl now l := by
 unfold accN
 rw [List.foldl_append]
 rfl
theorem accN_bits (cl : Nat → Int) (now : Int) (j : Nat) : ∀ (l : List Nat) (s : Nat), (l.foldl (fun s i => if cl i ≤ now then s ||| 2 ^ i else s) s).testBit j = (s.testBit j || decide (j ∈ l ∧ cl j ≤ now))
 | [], s => by simp
 | i :: l, s => by
  rw [List.foldl_cons, accN_bits cl now j l]
  by_cases hc : cl i ≤ now
  ·
   rw [if_pos hc, or_bit]
   by_cases hj : i = j
   ·
    subst hj
    simp [hc]
   ·
    have : ¬ j = i := fun e => hj e.symm
    simp [hj, this]
  ·
   rw [if_neg hc]
   by_cases hj : i = j
   ·
    subst hj
    simp [hc]
   ·
    have : ¬ j = i := fun e => hj e.symm
    simp [this]
theorem accN_bit (cl : Nat → Int) (now : Int) (l : List Nat) (j : Nat) : (accN cl now l).testBit j = decide (j ∈ l ∧ cl j ≤ now) := by
 unfold accN
 rw [accN_bits]
 simp
theorem accN_lt {cl : Nat → Int} {now : Int} {l : List Nat} (h : ∀ i ∈ l, i < 16) : accN cl now l < 65536 :=
 lt_pow_of_bits (n := 16) fun i hi => by
  rw [accN_bit, decide_eq_true_eq] at hi
  exact h i hi.1
def doneL (M : Mach) (now : Int) : List Nat := (elems M.o).filter fun i => decide (M.cl i ≤ now)
theorem elems_acc (M : Mach) (now : Int) : elems (accN M.cl now (elems M.o)) = doneL M now := by
 unfold doneL
 conv => lhs; unfold elems
 conv => rhs; unfold elems
 rw [List.filter_filter]
 apply List.filter_congr
 intro j hj
 have hj := List.mem_range.1 hj
 have hm : j ∈ List.filter M.o.testBit (List.range 16) ↔ M.o.testBit j = true := by
  rw [List.mem_filter]
  exact ⟨fun h => h.2, fun h => ⟨List.mem_range.2 hj, h⟩⟩
 rw [accN_bit]
 by_cases h2 : M.cl j ≤ now
 ·
  rw [decide_eq_true h2, Bool.true_and]
  by_cases h1 : M.o.testBit j = true
  ·
   rw [decide_eq_true ⟨hm.2 h1, h2⟩, h1]
  ·
   rw [decide_eq_false (fun h => h1 (hm.1 h.1))]
   simpa using h1
 ·
  rw [decide_eq_false h2, decide_eq_false (fun h => h2 h.2)]
  rfl
def doneB (g : List Tk) (log : List Ev) (now : Int) : List Int := match replayB g log with
 | some p => ints (doneL p.1 now)
 | none => []
set_option maxRecDepth 100000 in
set_option maxHeartbeats 2000000 in
theorem DoneBy_hit (A : Option Addr) (c : Nat) (g : List Tk) (A' : Option Addr) (c' : Nat) (log : List Ev) (now : Int) (w : World) (hr : kTk.C w A g.length g) (hr' : kEv.C w A' log.length log) (hT : Tab w) (p : Mach × Int) (hb : replayB g log = some p) :
  Calls Tryd.prog 34 #[.slice A g.length c, .slice A' log.length c', .int .i64 now] w fun e W' => ∃ v, e = .returned v ∧ Kd.R (Kd.int .i64) 3 W' w.heap.size (fun _ => True) v (ints (doneL p.1 now)) ∧ Below w.heap.size w W' := by
 obtain ⟨ns, _, _, h8, ho, htm⟩ := replayB_facts hb
 have ho16 : p.1.o < 65536 := Nat.lt_of_lt_of_le ho (Nat.le_trans (Nat.pow_le_pow_right (by omega) h8) (by decide))
 have HP := Lib.hid (fun (W : World) (hB : Below w.heap.size w W) => replay_hit A c g A' c' log W (Kd.C_below hr hB) (Kd.C_below hr' hB) (hT.keep hT.lt hB) p hb)
 clear hr hr' hb htm
 refine calls_of_wp_marks Tryd.func34 rfl ?_
 simp only [Tryd.ntmps34, List.size_toArray, List.length_cons, List.length_nil, Nat.reduceAdd, Nat.reduceSub, Array.replicate_succ, Array.replicate_zero, List.push_toArray, List.append_toArray, List.nil_append, List.cons_append]
 go_wp2_with (first | (go_at_call 49; refine (HP.out _ ((Below.refl _ w).alloc (Nat.le_refl _) _)).mono ?_; rintro e w1 ⟨h, C, ns, hg, rfl, hM, hG, hI, hB1⟩; have hM1 := hM; obtain ⟨hm0, hm1, hm2, hm3, hm4, hm5, hm6⟩ := hM) | (go_at_call 62; refine (all_calls p.1.o _).mono ?_; rintro e w' ⟨rfl, rfl⟩))
 have hBw : Below w.heap.size w w1 := ((Below.refl _ w).alloc (Nat.le_refl _) _).trans (hB1.mono (by simp))
 have hnow : w1.cell? ⟨w.heap.size, 0, none⟩ = some (.int .i64 now) := (hB1.cell (p := ⟨w.heap.size, 0, none⟩) (by simp)).trans (Boxed.new w 3 (.int .i64 now)).cell
 have hnl : w.heap.size < w1.heap.size := World.block_lt_of_cell? w1 ⟨w.heap.size, 0, none⟩ hnow
 have HBW := Lib.hid hBw
 have HNOW := Lib.hid hnow
 have HM := Lib.hid hM1
 have HH := Lib.hid hm6
 clear hM1 hm0 hm1 hm2 hm3 hm4 hm5 hm6 hG hI hg hB1 hBw hnow
 obtain ⟨W0, hW0⟩ : ∃ W0, W0 = (w1.alloc (.cells #[.pointer (some ⟨h, 0, none⟩)] 60)).alloc (.cells #[.int .u16 0] 68) := ⟨_, rfl⟩
 have hB0 : Below w1.heap.size w1 W0 := by rw [hW0]; exact ((Below.refl _ w1).alloc (Nat.le_refl _) _).alloc (by simp) _
 have hz0' : W0.heap.size = w1.heap.size + 1 + 1 := by rw [hW0]; simp
 have hb0 : Boxed W0 (w1.heap.size + 1) 68 (.int .u16 0) := by rw [hW0]; have := Boxed.new (w1.alloc (.cells #[.pointer (some ⟨h, 0, none⟩)] 60)) 68 (.int .u16 0); rwa [World.size_alloc] at this
 have hb1 : Boxed W0 w1.heap.size 60 (.pointer (some ⟨h, 0, none⟩)) := by rw [hW0]; exact (Boxed.new w1 60 (.pointer (some ⟨h, 0, none⟩))).alloc _
 rw [← hW0]
 clear hW0
 have hT1 := hT.keep hT.lt HBW.out
 have htl := hT1.lt
 have hT0 := hT1.keep htl hB0
 have hBox := Boxed.new W0 68 (.int .u16 p.1.o)
 rw [hz0'] at hBox
 refine wp_rangeSet1 p.1.o (w1.heap.size + 1 + 1) w1.heap.size ho16 rfl (by simp [hz0']) hBox.cell (hT0.keep hT0.lt ((Below.refl _ _).alloc (Nat.le_refl _) _)) (by simp [hz0']; omega) htl
  (fun pre W => Boxed W (w1.heap.size + 1) 68 (.int .u16 (accN p.1.cl now (pre.map (·.1)) : Nat)) ∧ Boxed W w1.heap.size 60 (.pointer (some ⟨h, 0, none⟩)) ∧ Below w1.heap.size w1 W) (fun _ _ _ => False)
  ((Own.from (boxed_own (w1.heap.size + 1) 68 (fun pre : List (El p.1.o) => Value.int .u16 (accN p.1.cl now (pre.map (·.1)) : Nat))) _).and ((Own.from (boxed_own w1.heap.size 60 (fun _ => _)) _).and (ownFrom_below (Nat.le_refl _) (by simp [hz0']; omega))))
  (fun _ _ _ _ _ h _ _ => h)
  ⟨hb0.alloc _, hb1.alloc _, hB0.alloc hB0.size _⟩
  (fun x => { tmps := #[.slice A g.length c, .slice A' log.length c', .int .i64 now, undef, undef, .pointer (some ⟨w.heap.size, 0, none⟩), .slice none 0 0, .pointer (some ⟨w1.heap.size, 0, none⟩), .int .i64 p.2, .bool true, .pointer (some ⟨w1.heap.size + 1, 0, none⟩), .int .i64 (x.1 : Nat),
   .tuple #[.pointer (some ⟨h, 0, none⟩), .int .i64 p.2, .bool true], .slice A g.length c, .slice A' log.length c', .tuple #[.pointer (some ⟨h, 0, none⟩), .int .i64 p.2, .bool true], .pointer (some ⟨h, 0, none⟩), .int .i64 p.2, .bool true, .bool true, .bool false, .pointer (some ⟨h, 0, none⟩), .pointer (some ⟨h, 0, none⟩), .pointer (some ⟨h, 2, none⟩), .int .u16 p.1.o,
   .func (.func 91) #[] #[.pointer (some ⟨w1.heap.size + 1 + 1, 0, none⟩)], .int .i64 (x.1 : Nat), undef, undef, undef, undef, undef, undef, undef, undef, undef, undef, undef, undef, undef], defers := [] }) ?assign ?body ?done ?stop
 case assign =>
  intro l x W K hK
  gi_wp2
  exact hK
 case body =>
  rintro l pre x W ⟨hb, hb2, hB⟩ hlt
  have hx8 : x.1 < 8 := Nat.lt_of_lt_of_le (elems_below ho x.2) h8
  have hall : ∀ i ∈ pre.map (·.1), i < 16 := by
   intro i hi
   obtain ⟨y, _, rfl⟩ := List.mem_map.1 hi
   exact elems_lt y.2
  have hacc := accN_lt (cl := p.1.cl) (now := now) hall
  have hsn := accN_snoc p.1.cl now (pre.map (·.1)) x.1
  have hI : ∀ (W' : World) (r : Nat), (if p.1.cl x.1 ≤ now then accN p.1.cl now (pre.map (·.1)) ||| 2 ^ x.1 else accN p.1.cl now (pre.map (·.1))) = r → Boxed W' (w1.heap.size + 1) 68 (.int .u16 (r : Nat)) → Boxed W' (w1.heap.size + 1) 68 (.int .u16 (accN p.1.cl now ((pre ++ [x]).map (·.1)) : Nat)) := by
   intro W' r hr h
   rw [List.map_append, List.map_cons, List.map_nil, hsn, hr]
   exact h
  have HI := Lib.hid hI
  obtain ⟨_, _, _, _, hm4, _⟩ := HM.out.below hB
  have hcl := hm4 x.1 hx8
  have hnow := (hB.cell (p := ⟨w.heap.size, 0, none⟩) hnl).trans HNOW.out
  have HBB := Lib.hid hB
  clear hI hsn hm4 hall
  generalize accN p.1.cl now (pre.map (·.1)) = S at hb hacc HI
  generalize p.1.cl x.1 = z at hcl HI
  have hxi : ((x.1 : Nat) : Int) < 8 := by omega
  have hx16 : x.1 < 16 := by omega
  have hc := hb.cell
  have hf := hb.frozen
  have hc2 := hb2.cell
  by_cases hz : z ≤ now
  ·
   have dz : decide (z ≤ now) = true := decide_eq_true hz
   have HZ := Lib.hid (if_pos hz : (if z ≤ now then S ||| 2 ^ x.1 else S) = S ||| 2 ^ x.1)
   clear hz
   gi_wp2
   refine wpIn_region_still_tail 7 mixed (by kernel_rfl) (by kernel_rfl) (fun ⟨_, _, h⟩ => h) ?_
   simp only [List.take_succ_cons, List.take_zero, List.drop_succ_cons, List.drop_zero]
   repeat (with_reducible refine wpStill_step (fun K hK => ?_); go_simp; with_reducible refine hK _ ?_; clear hK K)
   with_reducible refine wpStill_nil ?_
   go_wp2
   gi_wp2_with (refine ⟨trivial, ?_⟩; gi_at_call 54; refine CallsIn.mono (CallsIn.inRound l (callsIn_wide.2 (with_calls S x.1 hacc hx16 _))) ?_; rintro e w' ⟨rfl, rfl⟩)
   have hB := HBB.out
   exact ⟨((KeepsOthers.drew _).trans (KeepsOthers.setCell _ _ _)).from _, ((Below.refl _ _).drew).setCell (p := ⟨w1.heap.size + 1, 0, none⟩) (by simp) _, HI.out _ _ HZ.out ((show Boxed W.drew _ _ _ from hb).set _), blk_far (show Boxed W.drew _ _ _ from hb2) (by simp) _, (hB.drew).setCell (p := ⟨w1.heap.size + 1, 0, none⟩) (by simp) _⟩
  ·
   have dz : decide (z ≤ now) = false := decide_eq_false hz
   have HZ := Lib.hid (if_neg hz : (if z ≤ now then S ||| 2 ^ x.1 else S) = S)
   clear hz
   gi_wp2
   refine wpIn_region_still_tail 7 mixed (by kernel_rfl) (by kernel_rfl) (fun ⟨_, _, h⟩ => h) ?_
   simp only [List.take_succ_cons, List.take_zero, List.drop_succ_cons, List.drop_zero]
   repeat (with_reducible refine wpStill_step (fun K hK => ?_); go_simp; with_reducible refine hK _ ?_; clear hK K)
   with_reducible refine wpStill_nil ?_
   go_wp2
   gi_wp2
   have hB := HBB.out
   exact ⟨(KeepsOthers.drew _).from _, (Below.refl _ _).drew, HI.out _ _ HZ.out hb, hb2, hB.drew⟩
 case stop =>
  rintro D c pre W _ _ h _
  exact h.elim
 case done =>
  rintro D ys W hD hys ⟨hb, hb2, hB⟩ hK
  have hc := hb.cell
  rw [hys] at hc
  have hacc := accN_lt (cl := p.1.cl) (now := now) (l := elems p.1.o) (fun i hi => elems_lt hi)
  have hTW := hT1.keep htl hB
  have HE : Hid (els (accN p.1.cl now (elems p.1.o)) = ints (doneL p.1 now)) := Lib.hid (by unfold els ints; rw [elems_acc])
  have HBB := Lib.hid hB
  clear hb hb2 hB
  generalize accN p.1.cl now (elems p.1.o) = S at hc hacc HE
  go_wp2_with (go_at_call 55; refine (list_calls S hacc _ hTW).mono ?_; rintro e w3 ⟨v, rfl, hR, hB3⟩)
  have hDW : D < W.heap.size := (Array.getElem?_eq_some_iff.1 hK).1
  have hK1 : w3.heap[D]? = some (.deferred (some [])) := (hB3.block D hDW).trans hK
  have hsz := HBB.out.size
  have hsw := HBW.out.size
  have hR2 : Kd.R (Kd.int .i64) 3 w3 w.heap.size (fun _ => True) v (ints (doneL p.1 now)) := by rw [← HE.out]; exact Kd.R_lower hR (by omega)
  refine leave_one hK1 (results_tmp rfl _ _ _) ⟨v, rfl, R_grownNC hR2 (grownBy_putObj' _ D (.deferred none)) (fun r e => by cases e; exact ⟨_, hK1, rfl⟩), ?_⟩
  have hB4 : Below w.heap.size w w3 := HBW.out.trans ((HBB.out.mono hsw).trans (hB3.mono (by omega)))
  exact hB4.trans (belowK_b (w := w) (Nat.le_refl _) w3 D _ _ (by simp [hz0'] at hD; omega) hK1 rfl rfl)
set_option maxRecDepth 100000 in
theorem DoneBy_miss (A : Option Addr) (c : Nat) (g : List Tk) (A' : Option Addr) (c' : Nat) (log : List Ev) (now : Int) (w : World) (hr : kTk.C w A g.length g) (hr' : kEv.C w A' log.length log) (hT : Tab w) (hb : replayB g log = none) :
  Calls Tryd.prog 34 #[.slice A g.length c, .slice A' log.length c', .int .i64 now] w fun e W' => e = .returned (.slice none 0 0) ∧ Below w.heap.size w W' := by
 have HP := Lib.hid (fun (W : World) (hB : Below w.heap.size w W) => replay_miss A c g A' c' log W (Kd.C_below hr hB) (Kd.C_below hr' hB) (hT.keep hT.lt hB) hb)
 clear hr hr' hb hT
 refine calls_of_wp_marks Tryd.func34 rfl ?_
 simp only [Tryd.ntmps34, List.size_toArray, List.length_cons, List.length_nil, Nat.reduceAdd, Nat.reduceSub, Array.replicate_succ, Array.replicate_zero, List.push_toArray, List.append_toArray, List.nil_append, List.cons_append]
 go_wp2_with (go_at_call 49; refine (HP.out _ ((Below.refl _ w).alloc (Nat.le_refl _) _)).mono ?_; rintro e w1 ⟨rfl, hB1⟩)
 have hBw : Below w.heap.size w w1 := ((Below.refl _ w).alloc (Nat.le_refl _) _).trans (hB1.mono (by simp))
 exact leave_marks (B := w.heap.size) (v := .slice none 0 0) [] _ (Marks.nil _) (fun D h => by cases h) (fun w' hs => ⟨results_tmp (t := 6) rfl _ _ _, rfl, (hBw.alloc hBw.size _).trans hs.below⟩)
theorem DoneBy_impl (A : Option Addr) (c : Nat) (g : List Tk) (A' : Option Addr) (c' : Nat) (log : List Ev) (now : Int) (w : World) (hr : kTk.C w A g.length g) (hr' : kEv.C w A' log.length log) (hT : Tab w) :
  Calls Tryd.prog 34 #[.slice A g.length c, .slice A' log.length c', .int .i64 now] w fun e W' => ∃ v, e = .returned v ∧ Kd.R (Kd.int .i64) 3 W' w.heap.size (fun _ => True) v (doneB g log now) ∧ Below w.heap.size w W' := by
 cases hb : replayB g log with
 | none =>
  refine (DoneBy_miss A c g A' c' log now w hr hr' hT hb).mono fun e W' h => ⟨_, h.1, ?_, h.2⟩
  unfold doneB
  rw [hb]
  exact Kd.R_nil _ _ _ _ _
 | some p =>
  refine (DoneBy_hit A c g A' c' log now w hr hr' hT p hb).mono fun e W' h => ?_
  unfold doneB
  rw [hb]
  exact h
end Go.Proofs.YtifbjnhicnfdoaaDoor

namespace Go.Proofs.YtifbjnhicnfdoaaDoor
set_option linter.unusedVariables false
set_option linter.unusedSimpArgs false
open Go.RowKit Go.Shelf Bits
def hits (log : List Ev) (t : Nat) (now : Int) : Nat → List Int
 | 0 => []
 | k + 1 => if (rdEv log k).f1 = (t : Int) ∧ (rdEv log k).f2 = true ∧ (rdEv log k).f0 ≤ now then hits log t now k ++ [(t : Int)] else hits log t now k
def doneS (log : List Ev) (now : Int) : Nat → List Int
 | 0 => []
 | t + 1 => doneS log now t ++ hits log t now log.length
structure Hist (g : List Tk) (ns : List Nat) (log : List Ev) (k : Nat) (M : Mach) : Prop where
 hit : ∀ t now, hits log t now k = if M.o.testBit t = true ∧ M.cl t ≤ now then [(t : Int)] else []
 sub : ∀ i, M.o.testBit i = true → M.b.testBit i = true
 lt : ∀ i, M.b.testBit i = true → i < g.length
 tim : ∀ i, M.b.testBit i = true → 0 < k ∧ 0 ≤ M.bg i ∧ M.bg i ≤ (rdEv log (k - 1)).f0
 clt : ∀ i, M.o.testBit i = true → M.bg i ≤ M.cl i ∧ M.cl i ≤ (rdEv log (k - 1)).f0
 ned : ∀ i, M.b.testBit i = true → ∀ q, (ns.getD i 0).testBit q = true → M.o.testBit q = true ∧ M.cl q ≤ M.bg i
theorem Hist.step {g : List Tk} {ns : List Nat} {log : List Ev} {k : Nat} {M M' : Mach} (htm : ∀ i, 0 ≤ (rdTk g i).f0) (h : Hist g ns log k M) (ho : inOrder log k = true) (hs : stepM g ns M (rdEv log k) = some M') : Hist g ns log (k + 1) M' := by
 obtain ⟨hin, hst⟩ := stepM_some hs
 obtain ⟨e0, e1, e2⟩ := evIn_num hin
 have e0 := inB_true.1 e0
 have hle : 0 < k → (rdEv log (k - 1)).f0 ≤ (rdEv log k).f0 := fun hk => by
  unfold inOrder at ho
  rw [decide_eq_true hk] at ho
  simpa using ho
 have hbt : ∀ i, M.b.testBit i = true → 0 ≤ M.bg i ∧ M.bg i ≤ (rdEv log k).f0 := fun i hi => by
  obtain ⟨a, b, c⟩ := h.tim i hi
  have := hle a
  exact ⟨b, by omega⟩
 have hct : ∀ i, M.o.testBit i = true → M.bg i ≤ M.cl i ∧ M.cl i ≤ (rdEv log k).f0 := fun i hi => by
  obtain ⟨a, _, _⟩ := h.tim i (h.sub i hi)
  obtain ⟨b, c⟩ := h.clt i hi
  have := hle a
  exact ⟨b, by omega⟩
 rcases hst with ⟨f2, hm, rfl⟩ | ⟨f2, hm, rfl⟩
 ·
  unfold mayBegin at hm
  simp only [Bool.and_eq_true, Bool.not_eq_true', decide_eq_true_eq] at hm
  obtain ⟨m1, m2⟩ := hm
  have hnb : ∀ i, M.b.testBit i = true → i ≠ (rdEv log k).i := fun i hi e => by rw [e, m1] at hi; cases hi
  refine ⟨fun t now => ?_, fun i hi => ?_, fun i hi => ?_, fun i hi => ?_, fun i hi => ?_, fun i hi q hq => ?_⟩
  ·
   unfold hits
   rw [if_neg (by rw [f2]; simp)]
   exact h.hit t now
  ·
   show (M.b ||| 2 ^ (rdEv log k).i).testBit i = true
   rw [or_bit, h.sub i hi]
   rfl
  ·
   have hi : (M.b ||| 2 ^ (rdEv log k).i).testBit i = true := hi
   rw [or_bit, Bool.or_eq_true, decide_eq_true_eq] at hi
   rcases hi with hi | hi
   ·
    exact h.lt i hi
   ·
    omega
  ·
   have hi : (M.b ||| 2 ^ (rdEv log k).i).testBit i = true := hi
   rw [or_bit, Bool.or_eq_true, decide_eq_true_eq] at hi
   show 0 < k + 1 ∧ 0 ≤ (if i = (rdEv log k).i then (rdEv log k).f0 else M.bg i) ∧ (if i = (rdEv log k).i then (rdEv log k).f0 else M.bg i) ≤ (rdEv log k).f0
   by_cases he : i = (rdEv log k).i
   ·
    rw [if_pos he]
    omega
   ·
    rw [if_neg he]
    obtain ⟨a, b⟩ := hbt i (hi.resolve_right fun e => he e.symm)
    omega
  ·
   have hi : M.o.testBit i = true := hi
   show (if i = (rdEv log k).i then (rdEv log k).f0 else M.bg i) ≤ M.cl i ∧ M.cl i ≤ (rdEv log k).f0
   rw [if_neg (hnb i (h.sub i hi))]
   exact hct i hi
  ·
   have hi : (M.b ||| 2 ^ (rdEv log k).i).testBit i = true := hi
   rw [or_bit, Bool.or_eq_true, decide_eq_true_eq] at hi
   show M.o.testBit q = true ∧ M.cl q ≤ (if i = (rdEv log k).i then (rdEv log k).f0 else M.bg i)
   by_cases he : i = (rdEv log k).i
   ·
    rw [if_pos he]
    rw [he] at hq
    have hoq := diff_zero.1 m2 q hq
    exact ⟨hoq, (hct q hoq).2⟩
   ·
    rw [if_neg he]
    exact h.ned i (hi.resolve_right fun e => he e.symm) q hq
 ·
  unfold mayEnd at hm
  simp only [Bool.and_eq_true, Bool.not_eq_true', decide_eq_true_eq] at hm
  obtain ⟨⟨m1, m2⟩, m3⟩ := hm
  have hno : ∀ i, M.o.testBit i = true → i ≠ (rdEv log k).i := fun i hi e => by rw [e, m2] at hi; cases hi
  refine ⟨fun t now => ?_, fun i hi => ?_, h.lt, fun i hi => ?_, fun i hi => ?_, fun i hi q hq => ?_⟩
  ·
   show _ = if (M.o ||| 2 ^ (rdEv log k).i).testBit t = true ∧ (if t = (rdEv log k).i then (rdEv log k).f0 else M.cl t) ≤ now then _ else _
   unfold hits
   rw [h.hit t now, or_bit, e1, f2]
   by_cases he : t = (rdEv log k).i
   ·
    have h2 : M.o.testBit t = false := by rw [he]; exact m2
    rw [h2, if_neg (show ¬ (false = true ∧ M.cl t ≤ now) by simp), he]
    simp
   ·
    have h2 : ¬ (((rdEv log k).i : Nat) : Int) = (t : Int) := by omega
    have h3 : ¬ (rdEv log k).i = t := fun e => he e.symm
    simp [he, h2, h3]
  ·
   have hi : (M.o ||| 2 ^ (rdEv log k).i).testBit i = true := hi
   rw [or_bit, Bool.or_eq_true, decide_eq_true_eq] at hi
   rcases hi with hi | hi
   ·
    exact h.sub i hi
   ·
    rw [← hi]
    exact m1
  ·
   show 0 < k + 1 ∧ 0 ≤ M.bg i ∧ M.bg i ≤ (rdEv log k).f0
   obtain ⟨a, b⟩ := hbt i hi
   omega
  ·
   have hi : (M.o ||| 2 ^ (rdEv log k).i).testBit i = true := hi
   rw [or_bit, Bool.or_eq_true, decide_eq_true_eq] at hi
   show M.bg i ≤ (if i = (rdEv log k).i then (rdEv log k).f0 else M.cl i) ∧ (if i = (rdEv log k).i then (rdEv log k).f0 else M.cl i) ≤ (rdEv log k).f0
   by_cases he : i = (rdEv log k).i
   ·
    rw [if_pos he, he]
    have := htm (rdEv log k).i
    omega
   ·
    rw [if_neg he]
    exact hct i (hi.resolve_right fun e => he e.symm)
  ·
   show (M.o ||| 2 ^ (rdEv log k).i).testBit q = true ∧ (if q = (rdEv log k).i then (rdEv log k).f0 else M.cl q) ≤ M.bg i
   obtain ⟨a, b⟩ := h.ned i hi q hq
   rw [or_bit, a, if_neg (hno q a)]
   exact ⟨rfl, b⟩
theorem replay_hist {g : List Tk} {ns : List Nat} {log : List Ev} (htm : ∀ i, 0 ≤ (rdTk g i).f0) : ∀ (k : Nat) (p : Mach × Int), replayN g ns log k = some p → Hist g ns log k p.1
 | 0, p, h => by
  obtain rfl : (Mach.zero, (0 : Int)) = p := Option.some.inj h
  refine ⟨fun t now => ?_, fun i hi => ?_, fun i hi => ?_, fun i hi => ?_, fun i hi => ?_, fun i hi => ?_⟩
  ·
   simp [hits, Mach.zero]
  all_goals (exfalso; simp [Mach.zero] at hi)
 | k + 1, p, h => by
  unfold replayN at h
  obtain ⟨q, hq, h⟩ := Option.bind_eq_some_iff.1 h
  have ih := replay_hist htm k q hq
  split at h
  ·
   cases h
  ·
   rename_i ho
   obtain ⟨M', hM, rfl⟩ := Option.map_eq_some_iff.1 h
   exact ih.step htm (by simpa using ho) hM
theorem filter_range {P : Nat → Bool} {n : Nat} (h : ∀ i, P i = true → i < n) : ∀ d, (List.range (n + d)).filter P = (List.range n).filter P
 | 0 => rfl
 | d + 1 => by
  rw [← Nat.add_assoc, List.range_succ, List.filter_append, filter_range h d]
  have : P (n + d) = false := by
   cases hp : P (n + d) with
   | false => rfl
   | true => have := h _ hp; omega
  simp [this]
def doneP (M : Mach) (now : Int) (i : Nat) : Bool := M.o.testBit i && decide (M.cl i ≤ now)
theorem doneL_range {M : Mach} {n : Nat} (hn : n ≤ 16) (h : ∀ i, M.o.testBit i = true → i < n) (now : Int) : doneL M now = (List.range n).filter (doneP M now) := by
 unfold doneL elems
 rw [List.filter_filter, ← filter_range (P := doneP M now) (n := n) (fun i hi => h i (by unfold doneP at hi; rw [Bool.and_eq_true] at hi; exact hi.1)) (16 - n), show n + (16 - n) = 16 by omega]
 apply List.filter_congr
 intro i _
 unfold doneP
 rw [Bool.and_comm]
theorem doneS_eq {g : List Tk} {ns : List Nat} {log : List Ev} {M : Mach} (h : Hist g ns log log.length M) (now : Int) : ∀ t, doneS log now t = ints ((List.range t).filter (doneP M now))
 | 0 => rfl
 | t + 1 => by
  unfold doneS
  rw [doneS_eq h now t, h.hit t now, List.range_succ, List.filter_append]
  unfold ints
  rw [List.map_append]
  congr 1
  unfold doneP
  by_cases hc : M.o.testBit t = true ∧ M.cl t ≤ now
  ·
   rw [if_pos hc]
   simp [hc.1, hc.2]
  ·
   rw [if_neg hc]
   have : (M.o.testBit t && decide (M.cl t ≤ now)) = false := by
    cases hb : M.o.testBit t with
    | false => rfl
    | true => simp; exact Int.not_le.1 fun h2 => hc ⟨hb, h2⟩
   simp [this]
theorem ascB_ints {L : List Nat} (h : L.Pairwise (· < ·)) : ascB (ints L) = true := by
 unfold ascB
 rw [List.all_eq_true]
 intro j hj
 have hj := List.mem_range.1 hj
 rw [ints_length] at hj
 rw [decide_eq_true_eq, ints_getD, ints_getD, List.getD_eq_getElem?_getD, List.getD_eq_getElem?_getD, List.getElem?_eq_getElem (show j < L.length by omega), List.getElem?_eq_getElem (show j + 1 < L.length by omega)]
 have := List.pairwise_iff_getElem.1 h j (j + 1) (by omega) (by omega) (by omega)
 simp only [Option.getD_some]
 omega
theorem allInB_ints {L : List Nat} {n : Nat} (h : ∀ i ∈ L, i < n) : allInB (ints L) 0 ((n : Int) - 1) = true := by
 unfold allInB ints
 rw [List.all_map, List.all_eq_true]
 intro i hi
 have := h i hi
 exact inB_true.2 ⟨by simp, by simp; omega⟩
theorem doneN_ok {g : List Tk} {ns : List Nat} {log : List Ev} {M : Mach} (hg : graphN g = some ns) (h : Hist g ns log log.length M) (now : Int) : (doneN g (ints ((List.range g.length).filter (doneP M now)))).isSome = true := by
 generalize hL : (List.range g.length).filter (doneP M now) = L
 have hm : ∀ i, i ∈ L ↔ i < g.length ∧ doneP M now i = true := fun i => by rw [← hL, List.mem_filter, List.mem_range]
 have hp : L.Pairwise (· < ·) := by rw [← hL]; exact List.pairwise_lt_range.filter _
 have hs : (setOfN (ints L) g.length).isSome = true := by rw [setOfN_isSome, ascB_ints hp, allInB_ints fun i hi => ((hm i).1 hi).1]; rfl
 obtain ⟨s, hs⟩ := Option.isSome_iff_exists.1 hs
 have hb : ∀ j, s.testBit j = true ↔ j ∈ L := fun j => by rw [setOfN_bits hs, decide_eq_true_eq, mem_intsN]
 have hc : closedN ns s = true := by
  unfold closedN
  rw [List.all_eq_true]
  intro i hi
  unfold needsIn
  rw [decide_eq_true_eq, diff_zero]
  intro q hq
  obtain ⟨i1, i2⟩ := (hm i).1 ((hb i).1 (elems_bit hi))
  unfold doneP at i2
  rw [Bool.and_eq_true, decide_eq_true_eq] at i2
  obtain ⟨q1, q2⟩ := h.ned i (h.sub i i2.1) q hq
  have q3 := (h.clt i i2.1).1
  refine (hb q).2 ((hm q).2 ⟨h.lt q (h.sub q q1), ?_⟩)
  unfold doneP
  rw [q1, decide_eq_true (show M.cl q ≤ now by omega)]
  rfl
 rw [graph_some_lt hg hs, if_pos hc]
 rfl
end Go.Proofs.YtifbjnhicnfdoaaDoor

namespace Go.Proofs.YtifbjnhicnfdoaaDoor
set_option linter.unusedVariables false
set_option linter.unusedSimpArgs false
open Go.RowKit Go.Shelf Bits
theorem begunL_is {t v : Int} : ∀ (l : List Ev) (b : Int), (∀ e ∈ l, e.f2 = false → e.f1 = t → e.f0 = v) → begunL t l b = if (∃ e ∈ l, e.f2 = false ∧ e.f1 = t) then v else b
 | [], b, _ => by simp [begunL]
 | e :: r, b, h => by
  have ih := begunL_is (t := t) (v := v) r (if e.f2 then b else if e.f1 = t then e.f0 else b) (fun x hx => h x (List.mem_cons_of_mem _ hx))
  unfold begunL
  rw [ih]
  by_cases h1 : ∃ x ∈ r, x.f2 = false ∧ x.f1 = t
  ·
   rw [if_pos h1, if_pos]
   obtain ⟨x, hx, h2⟩ := h1
   exact ⟨x, List.mem_cons_of_mem _ hx, h2⟩
  ·
   rw [if_neg h1]
   by_cases h2 : e.f2 = false ∧ e.f1 = t
   ·
    have hex : ∃ x ∈ e :: r, x.f2 = false ∧ x.f1 = t := ⟨e, List.mem_cons_self, h2⟩
    rw [if_neg (show ¬ e.f2 = true by rw [h2.1]; simp), if_pos h2.2, if_pos hex]
    exact h e List.mem_cons_self h2.1 h2.2
   ·
    have hno : ¬ ∃ x ∈ e :: r, x.f2 = false ∧ x.f1 = t := by
     rintro ⟨x, hx, h4⟩
     rcases List.mem_cons.1 hx with rfl | hx
     ·
      exact h2 h4
     ·
      exact h1 ⟨x, hx, h4⟩
    by_cases h3 : e.f2 = true
    ·
     rw [if_pos h3, if_neg hno]
    ·
     rw [if_neg h3, if_neg (fun h4 => h2 ⟨by simpa using h3, h4⟩), if_neg hno]
theorem mem_overL {l : List Ev} {t : Int} : t ∈ overL l ↔ ∃ e ∈ l, e.f2 = true ∧ e.f1 = t := by
 unfold overL
 rw [List.mem_map]
 constructor
 ·
  rintro ⟨e, h1, h2⟩
  obtain ⟨h3, h4⟩ := List.mem_filter.1 h1
  exact ⟨e, h3, h4, h2⟩
 ·
  rintro ⟨e, h1, h2, h3⟩
  exact ⟨e, List.mem_filter.2 ⟨h1, h2⟩, h3⟩
theorem chg_begin {g : List Tk} {st : List Int} {e : Ev} (h : e ∈ chgS g st) (h2 : e.f2 = false) {i : Nat} (hi : e.f1 = i) : e = chB st i := by
 obtain ⟨j, hj, rfl | rfl⟩ := mem_chgS.1 h
 ·
  have : (j : Int) = i := hi
  obtain rfl : j = i := by omega
  rfl
 ·
  cases h2
theorem chg_over {g : List Tk} {st : List Int} {e : Ev} (h : e ∈ chgS g st) (h2 : e.f2 = true) {i : Nat} (hi : e.f1 = i) : e = chO g st i := by
 obtain ⟨j, hj, rfl | rfl⟩ := mem_chgS.1 h
 ·
  cases h2
 ·
  have : (j : Int) = i := hi
  obtain rfl : j = i := by omega
  rfl
theorem mem_ahead {g : List Tk} {st : List Int} {k : Nat} (hk : k < (chgS g st).length) {x : Ev} : x ∈ (chgS g st).take k ↔ x ∈ chgS g st ∧ ltE x (rdEv (chgS g st) k) := by
 rw [← ahead_of (rdEv_of hk) (chgS_sorted g st) (chgS_nodup g st), List.mem_filter]
 unfold ltEB
 rw [decide_eq_true_iff]
theorem rdEv_get {l : List Ev} {q : Nat} (hq : q < l.length) : rdEv l q = l[q] := by
 unfold rdEv
 rw [List.getD_eq_getElem?_getD, List.getElem?_eq_getElem hq]
 rfl
theorem rdEv_mem {l : List Ev} {q : Nat} (hq : q < l.length) : rdEv l q ∈ l := by
 rw [rdEv_get hq]
 exact List.getElem_mem hq
theorem lt_OO {g : List Tk} {st : List Int} {i k : Nat} : ltE (chB st i) (chO g st i) ↔ 1 ≤ (rdTk g i).f0 := by
 unfold ltE chB chO
 constructor
 ·
  rintro (h | ⟨h, ⟨h1, h2⟩ | ⟨h1, h2⟩⟩)
  ·
   have h : st.getD i 0 < st.getD i 0 + (rdTk g i).f0 := h
   omega
  ·
   cases h1
  ·
   cases h1
 ·
  intro h
  refine .inl ?_
  show st.getD i 0 < st.getD i 0 + (rdTk g i).f0
  omega
theorem log_fits {g : List Tk} {rm : List Int} {wk : Int} {st : List Int} (h : Valid g rm wk st) {k : Nat} (hk : k < (chgS g st).length) : eventFitsB g (chgS g st) k = true := by
 unfold eventFitsB
 have hmem := rdEv_mem hk
 have hpre : ∀ x ∈ (chgS g st).take k, x ∈ chgS g st := fun x hx => List.mem_of_mem_take hx
 obtain ⟨i, hi, he⟩ := mem_chgS.1 hmem
 have hb : ∀ b, begunL (i : Int) ((chgS g st).take k) b = if (∃ e ∈ (chgS g st).take k, e.f2 = false ∧ e.f1 = (i : Int)) then st.getD i 0 else b := fun b => begunL_is _ b (fun e hm h2 h1 => by
  rw [chg_begin (hpre e hm) h2 h1]
  rfl)
 have hin : (chB st i ∈ (chgS g st).take k) ↔ (∃ e ∈ (chgS g st).take k, e.f2 = false ∧ e.f1 = (i : Int)) := by
  constructor
  ·
   intro hc
   exact ⟨_, hc, rfl, rfl⟩
  ·
   rintro ⟨e, hm, h2, h1⟩
   rw [← chg_begin (hpre e hm) h2 h1]
   exact hm
 rcases he with he | he
 ·
  have hno : ¬ chB st i ∈ (chgS g st).take k := fun hc => by
   have := (mem_ahead hk).1 hc
   rw [he] at this
   exact ltE_irrefl _ this.2
  rw [hin] at hno
  rw [he]
  unfold evFit
  have e0 : (chB st i).f2 = false := rfl
  have e1 : (chB st i).f1 = (i : Int) := rfl
  rw [e0, e1, hb, if_neg hno, Int.toNat_natCast, if_neg (by simp)]
  rw [Bool.and_eq_true]
  refine ⟨rfl, ?_⟩
  unfold allDoneB
  rw [List.all_eq_true]
  intro x hx
  apply decide_eq_true
  have hx0 := spec_needs_in h.v i hi x hx
  obtain ⟨q, hq⟩ : ∃ q : Nat, x = q := ⟨x.toNat, by omega⟩
  subst hq
  rw [mem_overL]
  refine ⟨chO g st q, (mem_ahead hk).2 ⟨mem_chgS.2 ⟨q, by omega, .inr rfl⟩, ?_⟩, rfl, rfl⟩
  rw [he]
  exact lt_OB.2 (h.needs i hi q hx)
 ·
  have hyes : chB st i ∈ (chgS g st).take k := (mem_ahead hk).2 ⟨mem_chgS.2 ⟨i, hi, .inl rfl⟩, by rw [he]; exact (lt_OO (k := i)).2 (h.ok.2.2.2.2 i hi).1⟩
  rw [hin] at hyes
  have hnov : ¬ (i : Int) ∈ overL ((chgS g st).take k) := fun hc => by
   obtain ⟨e, hm, h2, h1⟩ := mem_overL.1 hc
   have h3 := (mem_ahead hk).1 hm
   rw [chg_over h3.1 h2 h1, he] at h3
   exact ltE_irrefl _ h3.2
  rw [he]
  unfold evFit
  have e0 : (chO g st i).f2 = true := rfl
  have e1 : (chO g st i).f1 = (i : Int) := rfl
  have e2 : (chO g st i).f0 = st.getD i 0 + (rdTk g i).f0 := rfl
  rw [e0, e1, hb, if_pos hyes, Int.toNat_natCast, if_pos rfl, e2]
  rw [Bool.and_eq_true, Bool.and_eq_true]
  exact ⟨decide_eq_true (h.b i hi).1, by rw [decide_eq_false hnov]; rfl, decide_eq_true rfl⟩
theorem chg_order (g : List Tk) (st : List Int) {k : Nat} (hk : k < (chgS g st).length) (h0 : 0 < k) : (rdEv (chgS g st) (k - 1)).f0 ≤ (rdEv (chgS g st) k).f0 := by
 rw [rdEv_get hk, rdEv_get (show k - 1 < (chgS g st).length by omega)]
 have := List.pairwise_iff_getElem.1 (chgS_strict g st) (k - 1) k (by omega) hk (by omega)
 rcases this with h | ⟨h, _⟩ <;> omega
theorem log_valid {g : List Tk} {rm : List Int} {wk : Int} {st : List Int} (h : Valid g rm wk st) (he : ∀ i, i < g.length → st.getD i 0 + (rdTk g i).f0 ≤ 200) : validLogB g (chgS g st) = true := by
 unfold validLogB
 have h8 := h.ok.1
 rw [h.v, decide_eq_true (show (chgS g st).length ≤ 16 by rw [chgS_len]; omega), Bool.true_and, Bool.true_and, List.all_eq_true]
 intro k hk
 have hk := List.mem_range.1 hk
 unfold eventOkB
 rw [log_fits h hk, Bool.and_true]
 obtain ⟨i, hi, hx⟩ := mem_chgS.1 (rdEv_mem hk)
 have hb := h.b i hi
 have ht := (h.ok.2.2.2.2 i hi).1
 have hei := he i hi
 have hord : (!(decide (0 < k) && decide ((rdEv (chgS g st) k).f0 < (rdEv (chgS g st) (k - 1)).f0))) = true := by
  by_cases h0 : 0 < k
  ·
   have := chg_order g st hk h0
   rw [decide_eq_false (show ¬ (rdEv (chgS g st) k).f0 < (rdEv (chgS g st) (k - 1)).f0 by omega), Bool.and_false]
   rfl
  ·
   rw [decide_eq_false h0]
   rfl
 rw [hord, Bool.and_true, Bool.and_eq_true]
 have e1 : (rdEv (chgS g st) k).f1 = (i : Int) := by rcases hx with hx | hx <;> rw [hx] <;> rfl
 refine ⟨inB_true.2 ?_, inB_true.2 (by rw [e1]; omega)⟩
 rcases hx with hx | hx <;> rw [hx]
 ·
  show 0 ≤ st.getD i 0 ∧ st.getD i 0 ≤ 200
  omega
 ·
  show 0 ≤ st.getD i 0 + (rdTk g i).f0 ∧ st.getD i 0 + (rdTk g i).f0 ≤ 200
  omega
theorem log_clock {g : List Tk} {st : List Int} (h : validLogB g (chgS g st) = true) {i : Nat} (hi : i < g.length) : st.getD i 0 + (rdTk g i).f0 ≤ 200 := by
 unfold validLogB at h
 rw [Bool.and_eq_true, List.all_eq_true] at h
 have hm : chO g st i ∈ chgS g st := mem_chgS.2 ⟨i, hi, .inr rfl⟩
 obtain ⟨k, hk, e⟩ := List.getElem_of_mem hm
 have h2 := h.2 k (List.mem_range.2 hk)
 unfold eventOkB at h2
 simp only [Bool.and_eq_true] at h2
 have h3 := (inB_true.1 h2.1.1.1).2
 rw [rdEv_get hk, e] at h3
 exact h3
theorem sumN_sgn (l : List Ev) : ∀ k, k ≤ l.length → sumN l k = ((l.take k).map sgn).sum
 | 0, _ => by simp [sumN]
 | k + 1, hk => by
  have ih := sumN_sgn l k (by omega)
  unfold sumN
  rw [take_snocE (by omega), List.map_append, List.sum_append, ih]
  simp only [List.map_cons, List.map_nil, List.sum_cons, List.sum_nil]
  unfold sgn
  split <;> omega
theorem take_last {g : List Tk} {st : List Int} {k : Nat} (hk : k < (chgS g st).length) (hl : lastOf (chgS g st) k = true) : (chgS g st).take (k + 1) = (chgS g st).filter (fun x => decide (x.f0 ≤ (rdEv (chgS g st) k).f0)) := by
 have hC := List.take_append_drop (k + 1) (chgS g st)
 have e : (chgS g st).filter (fun x => decide (x.f0 ≤ (rdEv (chgS g st) k).f0)) = ((chgS g st).take (k + 1) ++ (chgS g st).drop (k + 1)).filter (fun x => decide (x.f0 ≤ (rdEv (chgS g st) k).f0)) := by rw [hC]
 have hs := chgS_strict g st
 have h1 : ((chgS g st).take (k + 1)).filter (fun x => decide (x.f0 ≤ (rdEv (chgS g st) k).f0)) = (chgS g st).take (k + 1) := by
  rw [List.filter_eq_self]
  intro x hx
  apply decide_eq_true
  obtain ⟨q, hq, e⟩ := List.getElem_of_mem hx
  rw [List.getElem_take] at e
  rw [List.length_take] at hq
  rw [← e, rdEv_get hk]
  by_cases hqk : q = k
  ·
   subst hqk
   exact Int.le_refl _
  ·
   have := List.pairwise_iff_getElem.1 hs q k (by omega) hk (by omega)
   rcases this with h | ⟨h, _⟩ <;> omega
 have h2 : ((chgS g st).drop (k + 1)).filter (fun x => decide (x.f0 ≤ (rdEv (chgS g st) k).f0)) = [] := by
  rw [List.filter_eq_nil_iff]
  intro x hx
  obtain ⟨q, hq, e⟩ := List.getElem_of_mem hx
  rw [List.getElem_drop] at e
  rw [List.length_drop] at hq
  have hk1 : k + 1 < (chgS g st).length := by omega
  unfold lastOf at hl
  have hgt : (rdEv (chgS g st) (k + 1)).f0 > (rdEv (chgS g st) k).f0 := by
   rw [Bool.or_eq_true] at hl
   rcases hl with hl | hl
   ·
    have := of_decide_eq_true hl
    omega
   ·
    exact of_decide_eq_true hl
  rw [rdEv_get hk1, rdEv_get hk] at hgt
  rw [rdEv_get hk, ← e]
  have : (chgS g st)[k + 1].f0 ≤ (chgS g st)[k + 1 + q].f0 := by
   by_cases hq0 : q = 0
   ·
    subst hq0
    exact Int.le_refl _
   ·
    have := List.pairwise_iff_getElem.1 hs (k + 1) (k + 1 + q) (by omega) (by omega) (by omega)
    rcases this with h | ⟨h, _⟩ <;> omega
  simp only [decide_eq_true_iff]
  omega
 rw [e, List.filter_append, h1, h2, List.append_nil]
theorem sum_time {g : List Tk} (hok : TOk g) {st : List Int} (t : Int) : (((chgS g st).filter (fun x => decide (x.f0 ≤ t))).map sgn).sum = ((runS g st t).length : Nat) := by
 have hp : ((chgS g st).filter (fun x => decide (x.f0 ≤ t))).Perm ((chgN g st g.length).filter (fun x => decide (x.f0 ≤ t))) := (chgS_perm g st).filter _
 rw [perm_sum (hp.map sgn), filt_sum]
 unfold runS
 rw [← sumTo_count]
 refine sumTo_congr _ (fun i hi => ?_)
 have ht := (hok.2.2.2.2 i hi).1
 unfold sumF
 have e1 : (chB st i).f0 = st.getD i 0 := rfl
 have e2 : (chO g st i).f0 = st.getD i 0 + (rdTk g i).f0 := rfl
 have s1 : sgn (chB st i) = 1 := rfl
 have s2 : sgn (chO g st i) = -1 := rfl
 show ((if decide ((chB st i).f0 ≤ t) = true then sgn (chB st i) else 0) + if decide ((chO g st i).f0 ≤ t) = true then sgn (chO g st i) else 0) = _
 rw [e1, e2, s1, s2]
 by_cases h1 : st.getD i 0 ≤ t
 ·
  by_cases h2 : st.getD i 0 + (rdTk g i).f0 ≤ t
  ·
   rw [if_pos (decide_eq_true h1), if_pos (decide_eq_true h2), if_neg (fun h => by have := runB_iff.1 h; omega)]
   rfl
  ·
   rw [if_pos (decide_eq_true h1), if_neg (by simp only [decide_eq_true_iff]; exact h2), if_pos (runB_iff.2 ⟨h1, by omega⟩)]
   rfl
 ·
  rw [if_neg (by simp only [decide_eq_true_iff]; exact h1), if_neg (by simp only [decide_eq_true_iff]; omega), if_neg (fun h => by have := runB_iff.1 h; omega)]
  rfl
theorem sum_last {g : List Tk} (hok : TOk g) {st : List Int} {k : Nat} (hk : k < (chgS g st).length) (hl : lastOf (chgS g st) k = true) : sumN (chgS g st) (k + 1) = ((runS g st (rdEv (chgS g st) k).f0).length : Nat) := by
 rw [sumN_sgn _ _ (by omega), take_last hk hl, sum_time hok]
end Go.Proofs.YtifbjnhicnfdoaaDoor

namespace Go.Proofs.YtifbjnhicnfdoaaDoor
set_option linter.unusedVariables false
set_option linter.unusedSimpArgs false
open Go.RowKit Go.Shelf Bits
def mxR (g : List Tk) (st : List Int) : Nat → Int
 | 0 => 0
 | j + 1 => max (mxR g st j) ((runS g st (st.getD j 0)).length : Nat)
theorem mxR_nonneg (g : List Tk) (st : List Int) : ∀ n, 0 ≤ mxR g st n
 | 0 => Int.le_refl _
 | n + 1 => by
  have := mxR_nonneg g st n
  unfold mxR
  omega
theorem mxR_ge (g : List Tk) (st : List Int) {i : Nat} : ∀ n, i < n → ((runS g st (st.getD i 0)).length : Int) ≤ mxR g st n
 | 0, h => absurd h (Nat.not_lt_zero _)
 | n + 1, h => by
  unfold mxR
  by_cases e : i = n
  ·
   subst e
   omega
  ·
   have := mxR_ge g st (i := i) n (by omega)
   omega
theorem mxR_le {g : List Tk} {st : List Int} {B : Int} (hB : 0 ≤ B) : ∀ n, (∀ i, i < n → ((runS g st (st.getD i 0)).length : Int) ≤ B) → mxR g st n ≤ B
 | 0, _ => hB
 | n + 1, h => by
  have h1 := mxR_le hB n (fun i hi => h i (by omega))
  have h2 := h n (by omega)
  unfold mxR
  omega
theorem mostN_le {log : List Ev} {B : Int} (hB : 0 ≤ B) (h : ∀ k, k < log.length → lastOf log k = true → sumN log (k + 1) ≤ B) : ∀ k, k ≤ log.length → mostN log k ≤ B
 | 0, _ => hB
 | k + 1, hk => by
  have ih := mostN_le hB h k (by omega)
  unfold mostN
  split
  ·
   rename_i hl
   have := h k (by omega) hl
   omega
  ·
   exact ih
theorem mostN_ge {log : List Ev} {k : Nat} (hl : lastOf log k = true) : ∀ m, k < m → sumN log (k + 1) ≤ mostN log m
 | 0, h => absurd h (Nat.not_lt_zero _)
 | m + 1, h => by
  unfold mostN
  by_cases e : k = m
  ·
   subst e
   rw [if_pos hl]
   omega
  ·
   have ih := mostN_ge hl m (by omega)
   split
   ·
    omega
   ·
    exact ih
theorem last_at {g : List Tk} {st : List Int} {t : Int} : ∀ d k, d + k + 1 = (chgS g st).length → (rdEv (chgS g st) k).f0 = t → ∃ m, m < (chgS g st).length ∧ lastOf (chgS g st) m = true ∧ (rdEv (chgS g st) m).f0 = t
 | 0, k, hd, ht => ⟨k, by omega, by unfold lastOf; rw [decide_eq_true (show k + 1 = (chgS g st).length by omega), Bool.true_or], ht⟩
 | d + 1, k, hd, ht => by
  by_cases hgt : (rdEv (chgS g st) (k + 1)).f0 > (rdEv (chgS g st) k).f0
  ·
   exact ⟨k, by omega, by unfold lastOf; rw [decide_eq_true hgt, Bool.or_true], ht⟩
  ·
   have := chg_order g st (k := k + 1) (by omega) (by omega)
   rw [Nat.add_sub_cancel] at this
   exact last_at d (k + 1) (by omega) (by omega)
theorem most_log {g : List Tk} (hok : TOk g) {st : List Int} : mostN (chgS g st) (chgS g st).length = mxR g st g.length := by
 apply Int.le_antisymm
 ·
  refine mostN_le (mxR_nonneg _ _ _) (fun k hk hl => ?_) _ (Nat.le_refl _)
  rw [sum_last hok hk hl]
  generalize (rdEv (chgS g st) k).f0 = t
  by_cases hex : ∃ i, i < g.length ∧ runB g st t i = true
  ·
   obtain ⟨j, hj, h1, h2⟩ := last_of (st := st) g.length hex
   have h3 := runB_iff.1 h1
   have h4 : (runS g st t).length ≤ (runS g st (st.getD j 0)).length := filter_len_le g.length (fun q hq hr => by
    have h5 := h2 q hq hr
    have h6 := runB_iff.1 hr
    exact runB_iff.2 ⟨by rcases h5 with h | ⟨h, _⟩ <;> omega, by omega⟩)
   have h7 := mxR_ge g st (i := j) g.length hj
   omega
  ·
   have : runS g st t = [] := by
    unfold runS
    rw [List.filter_eq_nil_iff]
    intro i hi hr
    exact hex ⟨i, List.mem_range.1 hi, hr⟩
   rw [this]
   exact mxR_nonneg _ _ _
 ·
  refine mxR_le ?_ _ (fun i hi => ?_)
  ·
   have h0 : ∀ m, 0 ≤ mostN (chgS g st) m := by
    intro m
    induction m with
    | zero => exact Int.le_refl _
    | succ m ih => unfold mostN; split <;> omega
   exact h0 _
  ·
   have hm : chB st i ∈ chgS g st := mem_chgS.2 ⟨i, hi, .inl rfl⟩
   obtain ⟨k, hk, e⟩ := List.getElem_of_mem hm
   obtain ⟨m, hm1, hm2, hm3⟩ := last_at (g := g) (st := st) (t := st.getD i 0) ((chgS g st).length - 1 - k) k (by omega) (by rw [rdEv_get hk, e]; rfl)
   have := mostN_ge hm2 (chgS g st).length hm1
   rw [sum_last hok hm1 hm2, hm3] at this
   exact this
theorem mxR_workers {g : List Tk} {rm : List Int} {wk : Int} {st : List Int} (h : Valid g rm wk st) : mxR g st g.length ≤ wk := by
 have := (placeB_facts h.p).2.1
 exact mxR_le (by omega) _ (fun i _ => (h.runs _).1)
theorem mostB_log {g : List Tk} {st : List Int} (hv : validLogB g (chgS g st) = true) : mostB g (chgS g st) = mxR g st g.length := by
 have hs := hv
 rw [validLog_eq] at hs
 obtain ⟨p, hp⟩ := Option.isSome_iff_exists.1 hs
 unfold mostB
 rw [hp]
 obtain ⟨ns, hg, hr, h8, _⟩ := replayB_facts hp
 show p.2 = _
 rw [(replay_kept h8 _ p hr).mst]
 refine most_log (specValid_TOk ?_)
 rw [specValid_eq, hg]
 rfl
theorem hits_ne {log : List Ev} {t : Nat} {now : Int} : ∀ m, hits log t now m ≠ [] ↔ ∃ k, k < m ∧ (rdEv log k).f1 = (t : Int) ∧ (rdEv log k).f2 = true ∧ (rdEv log k).f0 ≤ now
 | 0 => by simp [hits]
 | m + 1 => by
  have ih := hits_ne (log := log) (t := t) (now := now) m
  unfold hits
  split
  ·
   rename_i h
   constructor
   ·
    intro _
    exact ⟨m, by omega, h⟩
   ·
    intro _
    simp
  ·
   rename_i h
   rw [ih]
   constructor
   ·
    rintro ⟨k, hk, h1⟩
    exact ⟨k, by omega, h1⟩
   ·
    rintro ⟨k, hk, h1⟩
    by_cases e : k = m
    ·
     subst e
     exact absurd h1 h
    ·
     exact ⟨k, by omega, h1⟩
theorem hits_log {g : List Tk} {st : List Int} {t : Nat} {now : Int} : hits (chgS g st) t now (chgS g st).length ≠ [] ↔ t < g.length ∧ st.getD t 0 + (rdTk g t).f0 ≤ now := by
 rw [hits_ne]
 constructor
 ·
  rintro ⟨k, hk, h1, h2, h3⟩
  obtain ⟨i, hi, _⟩ := mem_chgS.1 (rdEv_mem hk)
  have he := chg_over (rdEv_mem hk) h2 h1
  rw [he] at h3
  refine ⟨?_, h3⟩
  obtain ⟨j, hj, e | e⟩ := mem_chgS.1 (rdEv_mem hk)
  ·
   rw [e] at h2
   cases h2
  ·
   have h4 : (rdEv (chgS g st) k).f1 = (j : Int) := by rw [e]; rfl
   rw [h1] at h4
   omega
 ·
  rintro ⟨ht, h1⟩
  have hm : chO g st t ∈ chgS g st := mem_chgS.2 ⟨t, ht, .inr rfl⟩
  obtain ⟨k, hk, e⟩ := List.getElem_of_mem hm
  refine ⟨k, hk, ?_⟩
  rw [rdEv_get hk, e]
  exact ⟨rfl, rfl, h1⟩
theorem doneB_log {g : List Tk} {st : List Int} (hv : validLogB g (chgS g st) = true) (now : Int) : doneB g (chgS g st) now = ints ((List.range g.length).filter fun i => decide (st.getD i 0 + (rdTk g i).f0 ≤ now)) := by
 have hs := hv
 rw [validLog_eq] at hs
 obtain ⟨p, hp⟩ := Option.isSome_iff_exists.1 hs
 obtain ⟨ns, hg, hr, h8, _, htm⟩ := replayB_facts hp
 have hh := replay_hist (fun i => (htm i).1) _ p hr
 unfold doneB
 rw [hp]
 show ints (doneL p.1 now) = _
 rw [doneL_range (n := g.length) (by omega) (fun i hi => hh.lt i (hh.sub i hi)) now]
 congr 1
 refine List.filter_congr (fun i hi => ?_)
 have hi := List.mem_range.1 hi
 have h1 := hh.hit i now
 have h2 := hits_log (g := g) (st := st) (t := i) (now := now)
 unfold doneP
 rw [Bool.eq_iff_iff, Bool.and_eq_true, decide_eq_true_iff, decide_eq_true_iff]
 constructor
 ·
  intro h3
  rw [if_pos h3] at h1
  exact (h2.1 (by rw [h1]; simp)).2
 ·
  intro h3
  have h4 := h2.2 ⟨hi, h3⟩
  by_cases h5 : p.1.o.testBit i = true ∧ p.1.cl i ≤ now
  ·
   exact h5
  ·
   rw [if_neg h5] at h1
   exact absurd h1 h4
def tmE (g : List Tk) (e : Ev) : Int := if e.f2 then (rdTk g e.f1.toNat).f0 else 0
theorem busyS_sum (g : List Tk) (l : List Ev) : ∀ k, k ≤ l.length → busyS g l k = ((l.take k).map (tmE g)).sum
 | 0, _ => by simp [busyS]
 | k + 1, hk => by
  have ih := busyS_sum g l k (by omega)
  rw [busyS_succ, take_snocE (by omega), List.map_append, List.sum_append, ih]
  simp only [List.map_cons, List.map_nil, List.sum_cons, List.sum_nil]
  unfold tmE
  split <;> omega
theorem busyB_log {g : List Tk} {st : List Int} (hv : validLogB g (chgS g st) = true) : busyB g (chgS g st) = timeS g := by
 rw [busyB_eq, if_pos hv, busyS_sum _ _ _ (Nat.le_refl _), List.take_length, perm_sum ((chgS_perm g st).map (tmE g))]
 have h := filt_sum (tmE g) (fun _ => true) g st g.length
 rw [List.filter_eq_self.2 (fun _ _ => rfl)] at h
 rw [h]
 unfold timeS
 refine sumTo_congr _ (fun i hi => ?_)
 unfold sumF
 rw [if_pos rfl, if_pos rfl]
 show tmE g (chB st i) + tmE g (chO g st i) = _
 have e1 : tmE g (chB st i) = 0 := rfl
 have e2 : tmE g (chO g st i) = (rdTk g i).f0 := rfl
 omega
theorem lg_is {g : List Tk} {rm : List Int} {wk : Int} {st : List Int} (h : Valid g rm wk st) : lgS g rm wk st = chgS g st := by
 unfold lgS
 rw [valid_vSt h, if_pos rfl]
theorem lg_yes {g : List Tk} {rm : List Int} {wk : Int} {st : List Int} (h : ¬ (lgS g rm wk st).length = 0) : Valid g rm wk st ∧ (lgS g rm wk st).length = 2 * g.length := by
 cases hv : vStB g rm wk st with
 | false =>
  exfalso
  apply h
  unfold lgS
  rw [hv]
  rfl
 | true =>
  have hV := vSt_valid hv
  exact ⟨hV, by rw [lg_is hV, chgS_len]⟩
theorem lg_replay {g : List Tk} {rm : List Int} {wk : Int} {st : List Int} (h : Valid g rm wk st) (he : ∀ i, i < g.length → st.getD i 0 + (rdTk g i).f0 ≤ 200) : (replayB g (lgS g rm wk st)).isSome = true := by
 rw [lg_is h, ← validLog_eq]
 exact log_valid h he
theorem lg_most {g : List Tk} {rm : List Int} {wk : Int} {st : List Int} (h : Valid g rm wk st) (hy : (replayB g (lgS g rm wk st)).isSome = true) : mostB g (lgS g rm wk st) = mxR g st g.length := by
 rw [lg_is h, ← validLog_eq] at hy
 rw [lg_is h]
 exact mostB_log hy
theorem lg_doneB {g : List Tk} {rm : List Int} {wk : Int} {st : List Int} (h : Valid g rm wk st) (hy : (replayB g (lgS g rm wk st)).isSome = true) (now : Int) : doneB g (lgS g rm wk st) now = ints ((List.range g.length).filter fun i => decide (st.getD i 0 + (rdTk g i).f0 ≤ now)) := by
 rw [lg_is h, ← validLog_eq] at hy
 rw [lg_is h]
 exact doneB_log hy now
theorem lg_done {g : List Tk} {rm : List Int} {wk : Int} {st : List Int} (h : Valid g rm wk st) (hn : 0 < g.length) (hy : (replayB g (lgS g rm wk st)).isSome = true) : (doneB g (lgS g rm wk st) (etS g rm wk st)).length = g.length ∧ (doneB g (lgS g rm wk st) (etS g rm wk st - 1)).length < g.length ∧ busyB g (lgS g rm wk st) = timeS g := by
 rw [lg_doneB h hy, lg_doneB h hy, ints_length, ints_length]
 refine ⟨?_, ?_, ?_⟩
 ·
  rw [List.filter_eq_self.2 (fun i hi => decide_eq_true (etS_ge h (List.mem_range.1 hi))), List.length_range]
 ·
  obtain ⟨i, hi, he⟩ := h.end_some hn
  rw [← etS_valid h] at he
  have : ((List.range g.length).filter fun i => decide (st.getD i 0 + (rdTk g i).f0 ≤ etS g rm wk st - 1)).length < (List.range g.length).length := by
   rw [List.length_filter_lt_length_iff_exists]
   exact ⟨i, List.mem_range.2 hi, by simp only [decide_eq_true_iff]; omega⟩
  rwa [List.length_range] at this
 ·
  rw [lg_is h, ← validLog_eq] at hy
  rw [lg_is h]
  exact busyB_log hy
end Go.Proofs.YtifbjnhicnfdoaaDoor

namespace Go.Proofs.YtifbjnhicnfdoaaDoor
set_option linter.unusedVariables false
set_option linter.unusedSimpArgs false
open Go.RowKit Go.Shelf Bits
open Go.Proofs.YtifbjnhicnfdoaaDoorW.PrintWords Go.Proofs.YtifbjnhicnfdoaaDoorW.PrintLast Go.Proofs.YtifbjnhicnfdoaaDoorW.PrintMore
set_option maxRecDepth 100000 in
set_option maxHeartbeats 2000000 in
theorem equalEvents_same (A : Option Addr) (c : Nat) (a : List Ev) (B : Option Addr) (d : Nat) (w : World) (hr : kEv.C w A a.length a) (hr' : kEv.C w B a.length a) :
  Calls Tryd.prog 18 #[.slice A a.length c, .slice B a.length d] w fun e w' => e = .returned (.bool true) ∧ Below w.heap.size w w' := by
 have HR := Lib.hid hr
 have HR' := Lib.hid hr'
 have hla := (C_len hr).2
 clear hr hr'
 have dl : ((a.length : Int) != (a.length : Int)) = false := bne_self_eq_false _
 go_enter Tryd.func18, Tryd.ntmps18
 go_wp2
 go_loopw [5] (fun i wr => ∃ j, j ≤ a.length ∧ i = .int .i64 (j : Nat) ∧ Below w.heap.size w wr) (fun i _ => a.length - (intOf i).toNat)
 case atStart => exact ⟨0, Nat.zero_le _, rfl, Below.refl _ _⟩
 case round =>
  obtain ⟨j, hj, rfl, hB⟩ := hrel
  by_cases hjl : j < a.length
  ·
   have hjj : decide ((j : Int) < (a.length : Int)) = true := decide_eq_true (by omega)
   have hja : (j : Int) < (a.length : Int) := by omega
   obtain ⟨ad, rfl, cx0, cx1, cx2⟩ := at_Ev (Kd.C_below HR.out hB) j hjl
   obtain ⟨bd, rfl, cy0, cy1, cy2⟩ := at_Ev (Kd.C_below HR'.out hB) j hjl
   generalize rdEv a j = e at cx0 cx1 cx2 cy0 cy1 cy2
   obtain ⟨x, y, z⟩ := e
   have HB := Lib.hid hB
   clear hB
   go_wp2
   (try go_quiet (fail))
   (try go_wp2)
   go_roundw
   case rel => exact ⟨j + 1, by omega, by go_num, by repeat (first | exact HB.out | apply pw_below_drewN)⟩
   case measure => simp [intOf]; omega
  ·
   obtain rfl : j = a.length := by omega
   have hjj : decide ((a.length : Int) < (a.length : Int)) = false := decide_eq_false (by omega)
   go_wp2
   go_ret
   exact ⟨rfl, hB⟩
end Go.Proofs.YtifbjnhicnfdoaaDoor
