/- impl total and BusyTime: the sum of the times of the tasks that are over. -/
import Derived.Test.YtlcdffhhimbbmaaDoorPMost0
import Derived.Test.YtlcdffhhimbbmaaDoorList
namespace Go.Proofs.YtlcdffhhimbbmaaDoor
set_option linter.unusedVariables false
set_option linter.unusedSimpArgs false
open Go.RowKit Go.Shelf Bits
open Go.Proofs.YtlcdffhhimbbmaaDoorW.PrintWords Go.Proofs.YtlcdffhhimbbmaaDoorW.PrintLast Go.Proofs.YtlcdffhhimbbmaaDoorW.PrintMore

attribute [local go_sem] Oper.semAt_some
/-- The sum of the times of some tasks. -/
def sumT (g : List Tk) (l : List Nat) : Int := (l.map fun i => (rdTk g i).f0).sum
theorem sumT_snoc (g : List Tk) (l : List Nat) (i : Nat) : sumT g (l ++ [i]) = sumT g l + (rdTk g i).f0 := by
  unfold sumT
  rw [List.map_append, List.sum_append]
  simp
theorem sumT_bound {g : List Tk} (htm : ∀ i, 0 ≤ (rdTk g i).f0 ∧ (rdTk g i).f0 ≤ 20) : ∀ l : List Nat, 0 ≤ sumT g l ∧ sumT g l ≤ 20 * l.length
  | [] => ⟨Int.le_refl _, by show (0 : Int) ≤ _; simp⟩
  | i :: l => by
    have ih := sumT_bound htm l
    have h := htm i
    have e : sumT g (i :: l) = (rdTk g i).f0 + sumT g l := by unfold sumT; simp
    rw [e, List.length_cons]
    omega

set_option maxRecDepth 100000 in
set_option maxHeartbeats 2000000 in
theorem total_calls (C : Nat) (g : List Tk) (ns : List Nat) (s : Nat) (h8 : g.length ≤ 8) (hs : s < 2 ^ g.length) (htm : ∀ i, 0 ≤ (rdTk g i).f0 ∧ (rdTk g i).f0 ≤ 20) (w : World) (hG : IsGraph w C g ns) (hT : Tab w) :
    Calls Tryd.prog 42 #[.pointer (some ⟨C, 0, none⟩), .int .u16 s] w fun e W' => e = .returned (.int .i64 (sumT g (elems s))) ∧ Below w.heap.size w W' := by
  have hs16 : s < 65536 := Nat.lt_of_lt_of_le hs (Nat.le_trans (Nat.pow_le_pow_right (by omega) h8) (by decide))
  have hCl : C < w.heap.size := by obtain ⟨Ag, cg, An, cn, Ao, co, vb, va, h1, _⟩ := hG; exact blk_lt h1
  have HG := Lib.hid hG
  have HTM := Lib.hid htm
  clear hG htm
  refine calls_of_wp_marks Tryd.func42 rfl ?_
  simp only [Tryd.ntmps42, List.size_toArray, List.length_cons, List.length_nil, Nat.reduceAdd, Nat.reduceSub, Array.replicate_succ, Array.replicate_zero, List.push_toArray, List.append_toArray, List.nil_append, List.cons_append]
  go_wp2_with (go_at_call 44; refine (all_calls s _).mono ?_; rintro e w' ⟨rfl, rfl⟩)
  obtain ⟨W0, hW0⟩ : ∃ W0, W0 = (w.alloc (.cells #[.pointer (some ⟨C, 0, none⟩)] 50)).alloc (.cells #[.int .i64 0] 3) := ⟨_, rfl⟩
  have hB0 : Below w.heap.size w W0 := by rw [hW0]; exact ((Below.refl _ w).alloc (Nat.le_refl _) _).alloc (by simp) _
  have hz0' : W0.heap.size = w.heap.size + 1 + 1 := by rw [hW0]; simp
  have hb0 : Boxed W0 (w.heap.size + 1) 3 (.int .i64 0) := by rw [hW0]; have := Boxed.new (w.alloc (.cells #[.pointer (some ⟨C, 0, none⟩)] 50)) 3 (.int .i64 0); rwa [World.size_alloc] at this
  have hb1 : Boxed W0 w.heap.size 50 (.pointer (some ⟨C, 0, none⟩)) := by rw [hW0]; exact (Boxed.new w 50 (.pointer (some ⟨C, 0, none⟩))).alloc _
  rw [← hW0]
  clear hW0
  have htl := hT.lt
  have hT0 := hT.keep htl hB0
  have hBox := Boxed.new W0 52 (.int .u16 s)
  rw [hz0'] at hBox
  refine wp_rangeSet1 s (w.heap.size + 1 + 1) w.heap.size hs16 rfl (by simp [hz0']) hBox.cell (hT0.keep hT0.lt ((Below.refl _ _).alloc (Nat.le_refl _) _)) (by simp [hz0']; omega) htl
    (fun pre W => Boxed W (w.heap.size + 1) 3 (.int .i64 (sumT g (pre.map (·.1)))) ∧ Boxed W w.heap.size 50 (.pointer (some ⟨C, 0, none⟩)) ∧ Below w.heap.size w W) (fun _ _ _ => False)
    ((Own.from (boxed_own (w.heap.size + 1) 3 (fun pre : List (El s) => Value.int .i64 (sumT g (pre.map (·.1))))) _).and ((Own.from (boxed_own w.heap.size 50 (fun _ => _)) _).and (ownFrom_below (Nat.le_refl _) (by simp [hz0']; omega))))
    (fun _ _ _ _ _ h _ _ => h)
    ⟨hb0.alloc _, hb1.alloc _, hB0.alloc hB0.size _⟩
    (fun x => { tmps := #[.pointer (some ⟨C, 0, none⟩), .int .u16 s, .pointer (some ⟨w.heap.size, 0, none⟩), undef, .int .i64 0, .pointer (some ⟨w.heap.size + 1, 0, none⟩), .int .i64 (x.1 : Nat), .int .u16 s, .func (.func 73) #[] #[.pointer (some ⟨w.heap.size + 1 + 1, 0, none⟩)], .int .i64 (x.1 : Nat), undef, undef, undef, undef, undef, undef, undef, undef, undef, undef, undef], defers := [] }) ?assign ?body ?done ?stop
  case assign =>
    intro l x W K hK
    gi_wp2
    exact hK
  case body =>
    rintro l pre x W ⟨hb, hb2, hB⟩ hlt
    have hel := elems_length s
    have hxn : x.1 < g.length := elems_below hs x.2
    obtain ⟨Ag, cg, An, cn, Ao, co, vb, va, h1, h2, _, _⟩ := HG.out.below hB
    have cC := blk_cell h1 0
    simp at cC
    obtain ⟨ad, A1, c1, rfl, hx0, _⟩ := at_Tk h2 x.1 hxn
    have hsn := sumT_snoc g (pre.map (·.1)) x.1
    have hsb := sumT_bound HTM.out (pre.map (·.1))
    have htx := HTM.out x.1
    rw [List.length_map] at hsb
    have hI : ∀ W', Boxed W' (w.heap.size + 1) 3 (.int .i64 (sumT g (pre.map (·.1)) + (rdTk g x.1).f0)) → Boxed W' (w.heap.size + 1) 3 (.int .i64 (sumT g ((pre ++ [x]).map (·.1)))) := by
      intro W' h
      rw [List.map_append, List.map_cons, List.map_nil, hsn]
      exact h
    have HI := Lib.hid hI
    clear hI hsn h1 h2
    generalize sumT g (pre.map (·.1)) = S at hb hsb HI
    generalize (rdTk g x.1).f0 = tm at hx0 htx HI
    have hwr : IntKind.i64.wrap (S + tm) = S + tm := IntWalk.i64_in _ (by omega)
    have hxi : ((x.1 : Nat) : Int) < (g.length : Int) := by clear hwr; omega
    have hc := hb.cell
    have hf := hb.frozen
    have hc2 := hb2.cell
    gi_wp2
    refine wpIn_region_still_tail 10 mixed (by kernel_rfl) (by kernel_rfl) (fun ⟨_, _, h⟩ => h) ?_
    simp only [List.take_succ_cons, List.take_zero, List.drop_succ_cons, List.drop_zero]
    repeat (with_reducible refine wpStill_step (fun K hK => ?_); go_simp; with_reducible refine hK _ ?_; clear hK K)
    with_reducible refine wpStill_nil ?_
    clear hwr
    go_wp2
    have hBs := hB.size
    exact ⟨((KeepsOthers.setCell _ _ _).trans (KeepsOthers.drew _)).from _, ((Below.refl _ _).setCell (p := ⟨w.heap.size + 1, 0, none⟩) (by simp) _).drew, HI.out _ (hb.set _), blk_far hb2 (by simp) _, (hB.setCell (p := ⟨w.heap.size + 1, 0, none⟩) (by simp) _).drew⟩
  case stop =>
    rintro D c pre W _ _ h _
    exact h.elim
  case done =>
    rintro D ys W hD hys ⟨hb, hb2, hB⟩ hK
    have hc := hb.cell
    rw [hys] at hc
    have HE := Lib.hid hc
    go_wp2
    refine leave_one hK (results_tmp rfl _ _ _) ⟨rfl, ?_⟩
    exact hB.trans (belowK_b (w := w) (Nat.le_refl _) W D _ _ (by simp [hz0'] at hD; omega) hK rfl rfl)

/-- The reference's word on how busy a log is, by the plain replay. -/
def busyB (g : List Tk) (log : List Ev) : Int := match replayB g log with
  | some p => sumT g (elems p.1.o)
  | none => -1
theorem lt_pow_of_bits {s n : Nat} (h : ∀ i, s.testBit i = true → i < n) : s < 2 ^ n := Nat.lt_pow_two_of_testBit s fun i hi => by
  cases hb : s.testBit i with
  | false => rfl
  | true => have := h i hb; omega
theorem replayB_facts {g : List Tk} {log : List Ev} {p : Mach × Int} (h : replayB g log = some p) : ∃ ns, graphN g = some ns ∧ replayN g ns log log.length = some p ∧ g.length ≤ 8 ∧ p.1.o < 2 ^ g.length ∧ ∀ i, 0 ≤ (rdTk g i).f0 ∧ (rdTk g i).f0 ≤ 20 := by
  unfold replayB at h
  obtain ⟨ns, hns, hp⟩ := Option.bind_eq_some_iff.1 h
  split at hp
  · have h8 := (graphN_all hns).1
    have hk := replay_kept h8 _ p hp
    exact ⟨ns, hns, hp, h8, lt_pow_of_bits fun i hi => hk.lt i (hk.sub i hi), graphN_time hns⟩
  · cases hp

set_option maxRecDepth 100000 in
theorem BusyTime_impl (A : Option Addr) (c : Nat) (g : List Tk) (A' : Option Addr) (c' : Nat) (log : List Ev) (w : World) (hr : kTk.C w A g.length g) (hr' : kEv.C w A' log.length log) (hT : Tab w) :
    Calls Tryd.prog 20 #[.slice A g.length c, .slice A' log.length c'] w fun e w' => e = .returned (.int .i64 (busyB g log)) ∧ Below w.heap.size w w' := by
  cases hb : replayB g log with
  | none =>
    have HP := Lib.hid (replay_miss A c g A' c' log w hr hr' hT hb)
    have HF : Hid (busyB g log = -1) := Lib.hid (by unfold busyB; rw [hb])
    clear hr hr' hT hb
    go_enter Tryd.func20, Tryd.ntmps20
    go_wp2_with (go_at_call 30; refine HP.out.mono ?_; rintro e w1 ⟨rfl, hB1⟩)
    go_ret
    exact ⟨ret_int HF.out.symm, hB1⟩
  | some p =>
    obtain ⟨ns, _, _, h8, ho, htm⟩ := replayB_facts hb
    have HP := Lib.hid (replay_hit A c g A' c' log w hr hr' hT p hb)
    have HF : Hid (busyB g log = sumT g (elems p.1.o)) := Lib.hid (by unfold busyB; rw [hb])
    have HTC : Hid (∀ (C : Nat) (ns : List Nat) (w : World), IsGraph w C g ns → Tab w → Calls Tryd.prog 42 #[.pointer (some ⟨C, 0, none⟩), .int .u16 p.1.o] w fun e W' => e = .returned (.int .i64 (sumT g (elems p.1.o))) ∧ Below w.heap.size w W') :=
      Lib.hid (fun C ns w hG hT => total_calls C g ns p.1.o h8 ho htm w hG hT)
    have HT := Lib.hid hT
    clear hr hr' hT hb h8 ho htm
    go_enter Tryd.func20, Tryd.ntmps20
    go_wp2_with (go_at_call 30; refine HP.out.mono ?_; rintro e w1 ⟨h, C, ns, hg, rfl, hM, hG, hI, hB1⟩)
    obtain ⟨hm0, hm1, hm2, _⟩ := hM
    have HG := Lib.hid hG
    have HB := Lib.hid hB1
    clear hG hI hg hm1 hB1
    go_still_tail 8, mixed
    go_wp2_with (go_at_call 42; refine (HTC.out C ns _ (HG.out.below (Below.refl _ _).drew) (HT.out.keep HT.out.lt HB.out.drew)).mono ?_; rintro e w2 ⟨rfl, hB2⟩)
    go_ret
    exact ⟨ret_int HF.out.symm, HB.out.drew.trans (hB2.mono HB.out.size)⟩
end Go.Proofs.YtlcdffhhimbbmaaDoor
