/- Parts of the proof, laid as one text by a program of mine. -/
import Derived.Test.YtlcdffhhimbbmaaDoorKRO5
import Derived.Test.YtlcdffhhimbbmaaDoorKRO2
import Derived.Test.YtlcdffhhimbbmaaDoorKRO4
namespace Go.Proofs.YtlcdffhhimbbmaaDoor
set_option linter.unusedVariables false
set_option linter.unusedSimpArgs false
open Go.RowKit Go.Shelf Bits
open Go.Proofs.YtlcdffhhimbbmaaDoorW.PrintWords Go.Proofs.YtlcdffhhimbbmaaDoorW.PrintLast Go.Proofs.YtlcdffhhimbbmaaDoorW.PrintMore
def mostS (g : List Tk) (o : List Int) (i : Nat) : Nat → Int
 | 0 => 0
 | k + 1 => if decide ((i : Int) ∈ (rdTk g k).f1) then max (mostS g o i k) (o.getD k 0) else mostS g o i k
def sStep (g : List Tk) (o : List Int) (i : Nat) : List Int := o.set i (mostS g o i g.length + (rdTk g i).f0)
def tailsSL (g : List Tk) (pre : List Nat) : List Int := pre.foldl (fun o p => sStep g o ((topL g).getD p 0)) (List.replicate g.length 0)
def tailsS (g : List Tk) : List Int := tailsSL g (backL (topL g).length (topL g).length)
theorem mostS_span {g : List Tk} {o : List Int} {n : Nat} {b : Int} (h : Span o n b) (i : Nat) (hb : 0 ≤ b) : ∀ k, 0 ≤ mostS g o i k ∧ mostS g o i k ≤ b
 | 0 => ⟨Int.le_refl _, hb⟩
 | k + 1 => by
  have ih := mostS_span (g := g) h i hb k
  have := h.2 k
  unfold mostS
  split <;> omega
theorem tailsSL_snoc (g : List Tk) (pre : List Nat) (p : Nat) : tailsSL g (pre ++ [p]) = sStep g (tailsSL g pre) ((topL g).getD p 0) := by
 unfold tailsSL
 rw [List.foldl_append]
 rfl
theorem span_zero (n : Nat) : Span (List.replicate n 0) n 0 := ⟨by simp, fun j => by
 rw [List.getD_eq_getElem?_getD, List.getElem?_replicate]
 split <;> simp⟩
theorem tailsSL_span {g : List Tk} (htm : ∀ i, 0 ≤ (rdTk g i).f0 ∧ (rdTk g i).f0 ≤ 20) (pre : List Nat) : Span (tailsSL g pre) g.length (20 * pre.length) := by
 have key : ∀ (pre : List Nat) (o : List Int) (b : Int), 0 ≤ b → Span o g.length b → Span (pre.foldl (fun o p => sStep g o ((topL g).getD p 0)) o) g.length (b + 20 * pre.length) := by
  intro pre
  induction pre with
  | nil =>
   intro o b _ h
   simpa using h
  | cons p pre ih =>
   intro o b hb h
   have h1 := mostS_span (g := g) h ((topL g).getD p 0) hb g.length
   have h2 := htm ((topL g).getD p 0)
   have h4 := ih _ (b + 20) (by omega) (h.set (b' := b + 20) (by omega) (x := mostS g o ((topL g).getD p 0) g.length + (rdTk g ((topL g).getD p 0)).f0) (by omega) ((topL g).getD p 0))
   rw [List.length_cons]
   have e : b + 20 + 20 * (pre.length : Int) = b + 20 * ((pre.length + 1 : Nat) : Int) := by omega
   rw [← e]
   exact h4
 have := key pre (List.replicate g.length 0) 0 (Int.le_refl _) (span_zero _)
 simpa [tailsSL] using this
set_option maxRecDepth 100000 in
set_option maxHeartbeats 8000000 in
theorem stails_calls (A : Option Addr) (c : Nat) (g : List Tk) (hv : specValid g = true) (w : World) (hr : kTk.C w A g.length g) :
  Calls Tryd.prog 66 #[.slice A g.length c] w fun e w' => ∃ v, e = .returned v ∧ Kd.R (Kd.int .i64) 3 w' w.heap.size (fun _ => True) v (tailsS g) ∧ Below w.heap.size w w' := by
 have htm := specValid_time hv
 have h8 : g.length ≤ 8 := by
  unfold specValid tasksFineB at hv
  simp at hv
  exact hv.1.2
 have HR := Lib.hid hr
 have HTM := Lib.hid htm
 have hmk := run_makeI g.length (by omega)
 clear hr htm hv
 go_enter Tryd.func66, Tryd.ntmps66
 go_wp2_with (go_at_call 83; refine (topOrder_calls _ _ _ h8 _ (Kd.C_below HR.out ((Below.refl _ w).alloc (Nat.le_refl _) _))).mono ?_; rintro e w2 ⟨v2, rfl, hR2, hB2⟩; have HR2 := Lib.hid hR2; obtain ⟨A2, c2, rfl, hl2, hC2⟩ := Kd.R_reads hR2; rw [ints_length] at hl2; rw [ints_length] at HR2; rw [ints_length] at hC2; rw [ints_length]; have HC2 := Lib.hid hC2; have HB2 := Lib.hid hB2; clear hR2 hC2 hB2)
 have hz1 : (w.alloc (.cells (zeroI g.length) 3)).heap.size = w.heap.size + 1 := by simp
 have hB2 := HB2.out
 rw [hz1] at hB2
 have hB : Below w.heap.size w w2 := ((Below.refl _ w).alloc (Nat.le_refl _) (.cells (zeroI g.length) 3)).trans (hB2.mono (by omega))
 have hI0 : IRow w2 w.heap.size (List.replicate g.length 0) := (hB2.block w.heap.size (by omega)).trans (World.alloc_heap_new w _)
 have hL := topN_le g g.length
 have hin := (topN_facts g g.length).2.1
 have hA2 : ∀ ad, A2 = some ad → 0 < (topL g).length → ad.block ≠ w.heap.size := fun ad e hl => by
  have := R_blk HR2.out (by rw [ints_length]; exact hl) ad e
  rw [hz1] at this
  omega
 have HA2 := Lib.hid hA2
 have HIN := Lib.hid hin
 clear hA2 hin hmk hz1 hB2
 replace hL : (topL g).length ≤ g.length := hL
 go_loopw [5, 6, 7, 8] (fun i at_ mo k wr => ∃ m, m ≤ (topL g).length ∧ i = .int .i64 (((topL g).length : Int) - 1 - (m : Nat)) ∧ IRow wr w.heap.size (tailsSL g (backL (topL g).length m)) ∧ Below w.heap.size w wr ∧ (Kd.int .i64).C wr A2 (topL g).length (ints (topL g))) (fun i _ _ _ _ => (intOf i + 1).toNat)
 case atStart => exact ⟨0, Nat.zero_le _, by simp; unfold wrap64; omega, hI0, hB, HC2.out⟩
 case round =>
  clear hI0 hB
  obtain ⟨m, hm, rfl, hI, hB, hC⟩ := hrel
  by_cases hml : m < (topL g).length
  ·
   obtain ⟨p, hp⟩ : ∃ p : Nat, p = (topL g).length - 1 - m := ⟨_, rfl⟩
   have ep : ((topL g).length : Int) - 1 - (m : Nat) = (p : Int) := by omega
   have hpl : p < (topL g).length := by omega
   have HSN : Hid (tailsSL g (backL (topL g).length (m + 1)) = sStep g (tailsSL g (backL (topL g).length m)) ((topL g).getD p 0)) := Lib.hid (by rw [backL_succ, tailsSL_snoc, ← hp])
   have HP := Lib.hid hp
   have hat : (topL g).getD p 0 < g.length := by
    apply HIN.out
    rw [List.getD_eq_getElem?_getD, List.getElem?_eq_getElem hpl]
    exact List.getElem_mem _
   have hsp := tailsSL_span HTM.out (backL (topL g).length m)
   rw [backL_length] at hsp
   obtain ⟨ad2, rfl, hc2⟩ := at_set hC p hpl
   rw [ep]
   have HC := Lib.hid hC
   clear hp ep hC
   generalize tailsSL g (backL (topL g).length m) = o at hI HSN hsp
   have HCI : Hid (∀ k : Nat, k < g.length → ∃ ad A1 c1, A = some ad ∧ wr.cell? ⟨(ad.add (k * 4)).block, (ad.add (k * 4)).off + 1, none⟩ = some (.slice A1 (rdTk g k).f1.length c1) ∧ (Kd.int .i64).C wr A1 (rdTk g k).f1.length (rdTk g k).f1) := Lib.hid fun k hk => by
    obtain ⟨ad, A1, c1, e, _, h1, _, _, _, h2⟩ := at_Tk (Kd.C_below HR.out hB) k hk
    exact ⟨ad, A1, c1, e, h1, h2⟩
   generalize hae : (topL g).getD p 0 = at_ at hc2 hat HSN
   have HAE := Lib.hid hae
   clear hae
   go_wp2
   obtain ⟨wo, rfl⟩ : ∃ wo : World, wo = wr := ⟨_, rfl⟩
   go_loopw [7, 8] (fun mo k wi => ∃ j, j ≤ g.length ∧ k = .int .i64 (j : Nat) ∧ mo = .int .i64 (mostS g o at_ j) ∧ wi = wo) (fun _ k _ => g.length - (intOf k).toNat)
   case atStart => exact ⟨0, Nat.zero_le _, rfl, rfl, rfl⟩
   case round =>
    obtain ⟨j, hj, rfl, rfl, rfl⟩ := hrel
    have hms := mostS_span (g := g) hsp at_ (by omega) j
    have HMS : Hid (mostS g o at_ (j + 1) = if decide ((at_ : Int) ∈ (rdTk g j).f1) then max (mostS g o at_ j) (o.getD j 0) else mostS g o at_ j) := Lib.hid rfl
    by_cases hjl : j < g.length
    ·
     obtain ⟨ad, A1, c1, rfl, hc1, hC1⟩ := HCI.out j hjl
     have hjj : decide ((j : Int) < (g.length : Int)) = true := decide_eq_true (by omega)
     have hoj := hsp.2 j
     have cR := hI.cell j (by have := hsp.1; omega)
     generalize mostS g o at_ j = mj at hms HMS
     generalize o.getD j 0 = oj at hoj cR HMS
     cases hm : decide ((at_ : Int) ∈ (rdTk g j).f1)
     ·
      have HM := Lib.hid hm
      rw [hm] at HMS
      clear hm
      generalize rdTk g j = t at hc1 hC1 HM
      go_wp2_with (go_at_call 68; with_reducible refine (isIn_is _ _ _ _ _ HM _ hC1).mono ?_; rintro e w' ⟨rfl, rfl⟩)
      go_roundw
      case rel => exact ⟨j + 1, by omega, by go_num, by rw [HMS.out]; rfl, trivial⟩
      case measure => simp [intOf]; omega
     ·
      have HM := Lib.hid hm
      rw [hm] at HMS
      clear hm
      generalize rdTk g j = t at hc1 hC1 HM
      go_wp2_with (go_at_call 68; with_reducible refine (isIn_is _ _ _ _ _ HM _ hC1).mono ?_; rintro e w' ⟨rfl, rfl⟩)
      all_goals
       go_roundw
       case rel => exact ⟨j + 1, by omega, by go_num, by rw [HMS.out]; simp only [if_true]; congr 1; first | omega | (split <;> omega), trivial⟩
       case measure => simp [intOf]; omega
    ·
     obtain rfl : j = g.length := by omega
     have hjj : decide ((g.length : Int) < (g.length : Int)) = false := decide_eq_false (by omega)
     obtain ⟨adg, A1, c1, rfl, hx0, _⟩ := at_Tk (Kd.C_below HR.out hB) at_ hat
     have htt := HTM.out at_
     have hol := hsp.1
     have HSS : Hid (sStep g o at_ = o.set at_ (mostS g o at_ g.length + (rdTk g at_).f0)) := Lib.hid rfl
     have fR := hI.frozen at_
     have cR := hI.cell at_ (by omega)
     generalize mostS g o at_ g.length = mj at hms HSS
     generalize (rdTk g at_).f0 = tm at hx0 htt HSS
     generalize o.getD at_ 0 = ov at cR
     have hatl : (at_ : Int) < (g.length : Int) := by omega
     clear HMS
     go_wp2
     go_roundw
     case rel =>
      refine ⟨m + 1, by omega, ?_, ?_, hB.setCell (p := ⟨w.heap.size, at_, none⟩) (Nat.le_refl _) _, C_block HC.out fun ad e hn => heap_far _ _ _ _ (HA2.out ad e hn)⟩
      ·
       have := HP.out
       congr 1
       omega
      ·
       rw [HSN.out, HSS.out]
       exact hI.set at_ (mj + tm)
     case measure => first | (simp [intOf]; done) | (simp [intOf]; omega)
  ·
   obtain rfl : m = (topL g).length := by omega
   have ep : ((topL g).length : Int) - 1 - ((topL g).length : Nat) = -1 := by omega
   rw [ep]
   have hlen := (tailsSL_span HTM.out (backL (topL g).length (topL g).length)).1
   go_wp2
   go_ret
   refine ⟨_, rfl, ?_, hB⟩
   have hown := hI.own (base := w.heap.size) (Nat.le_refl _) (by rw [hlen]; omega)
   rw [hlen] at hown
   exact hown
end Go.Proofs.YtlcdffhhimbbmaaDoor

namespace Go.Proofs.YtlcdffhhimbbmaaDoor
set_option linter.unusedVariables false
set_option linter.unusedSimpArgs false
open Go.RowKit Go.Shelf Bits
open Go.Proofs.YtlcdffhhimbbmaaDoorW.PrintWords Go.Proofs.YtlcdffhhimbbmaaDoorW.PrintLast Go.Proofs.YtlcdffhhimbbmaaDoorW.PrintMore
attribute [local go_sem] Oper.semAt_some
def els (s : Nat) : List Int := (elems s).map Int.ofNat
theorem els_of {s : Nat} {ys : List (El s)} (h : ys.map (·.1) = elems s) : ys.map (fun x => Int.ofNat x.1) = els s := by
 have := congrArg (List.map Int.ofNat) h
 rwa [List.map_map] at this
theorem len_of {s : Nat} {ys : List (El s)} (h : ys.map (·.1) = elems s) : ys.length = (els s).length := by
 have := congrArg List.length h
 simpa [els] using this
theorem els_length (s : Nat) : (els s).length ≤ 16 := by have := elems_length s; simpa [els] using this
set_option maxRecDepth 100000 in
set_option maxHeartbeats 2000000 in
theorem list_calls (s : Nat) (hs : s < 65536) (w : World) (hT : Tab w) :
  Calls Tryd.prog 39 #[.int .u16 s] w fun e W' => ∃ v, e = .returned v ∧ Kd.R (Kd.int .i64) 3 W' w.heap.size (fun _ => True) v (els s) ∧ Below w.heap.size w W' := by
 obtain ⟨i0, hi, hz0, hz1, hz2⟩ := info_parts infoInt
 have hmk : ∀ w, (Instr.makeSlice 31 (Value.int IntKind.i64 0) (Value.int IntKind.i64 8)).run Tryd.prog w = .ok (.slice (some ⟨w.heap.size, 0, none⟩) 0 8) (w.alloc (.cells #[.int .i64 0, .int .i64 0, .int .i64 0, .int .i64 0, .int .i64 0, .int .i64 0, .int .i64 0, .int .i64 0] 3)) := fun _ => by kernel_rfl
 refine calls_of_wp_marks Tryd.func39 rfl ?_
 simp only [Tryd.ntmps39, List.size_toArray, List.length_cons, List.length_nil, Nat.reduceAdd, Nat.reduceSub, Array.replicate_succ, Array.replicate_zero, List.push_toArray, List.append_toArray, List.nil_append, List.cons_append]
 go_wp2_with (go_at_call 44; refine (all_calls s _).mono ?_; rintro e w' ⟨rfl, rfl⟩)
 obtain ⟨W0, hW0⟩ : ∃ W0, W0 = (w.alloc (.cells #[.int .i64 0, .int .i64 0, .int .i64 0, .int .i64 0, .int .i64 0, .int .i64 0, .int .i64 0, .int .i64 0] 3)).alloc (.cells #[.slice (some ⟨w.heap.size, 0, none⟩) 0 8] 31) := ⟨_, rfl⟩
 have hB0 : Below w.heap.size w W0 := by rw [hW0]; exact ((Below.refl _ w).alloc (Nat.le_refl _) _).alloc (by simp) _
 have hz0' : W0.heap.size = w.heap.size + 1 + 1 := by rw [hW0]; simp
 have hO0 : W0.ownsRow w.heap.size 3 1 (.slice (some ⟨w.heap.size, 0, none⟩) 0 8) 0 [] := by rw [hW0]; exact (World.ownsRow_made (base := w.heap.size) w _ 8 (Nat.le_refl _) (by simp [maxLen]) rfl).alloc _
 have hb0 : Boxed W0 (w.heap.size + 1) 31 (.slice (some ⟨w.heap.size, 0, none⟩) 0 8) := by rw [hW0]; have := Boxed.new (w.alloc (.cells #[.int .i64 0, .int .i64 0, .int .i64 0, .int .i64 0, .int .i64 0, .int .i64 0, .int .i64 0, .int .i64 0] 3)) 31 (.slice (some ⟨w.heap.size, 0, none⟩) 0 8); rwa [World.size_alloc] at this
 rw [← hW0]
 clear hW0
 have htl := hT.lt
 have hT0 := hT.keep htl hB0
 have hBox := Boxed.new W0 52 (.int .u16 s)
 rw [hz0'] at hBox
 refine wp_rangeSet1 s (w.heap.size + 1 + 1) w.heap.size hs rfl (by simp [hz0']) hBox.cell (hT0.keep hT0.lt ((Below.refl _ _).alloc (Nat.le_refl _) _)) (by simp [hz0']; omega) htl
  (fun pre W => (∃ v, Boxed W (w.heap.size + 1) 31 v ∧ W.ownsRow w.heap.size 3 1 v pre.length (nums .i64 (pre.map fun x => Int.ofNat x.1)) ∧ True) ∧ Below w.heap.size w W) (fun _ _ _ => False)
  (OwnFrom.and (Own.from (holdsRow_own w.heap.size (w.heap.size + 1) 31 3 1 (fun pre : List (El s) => pre.length) (fun pre => nums .i64 (pre.map fun x => Int.ofNat x.1)) (fun _ _ => True)) _) (ownFrom_below (Nat.le_refl _) (by simp [hz0']; omega)))
  (fun _ _ _ _ _ h _ _ => h)
  ⟨⟨_, hb0.alloc _, hO0.alloc _, trivial⟩, hB0.alloc hB0.size _⟩
  (fun x => { tmps := #[.int .u16 s, undef, .slice none 0 0, .pointer (some ⟨w.heap.size + 1, 0, none⟩), .int .i64 (x.1 : Nat), .slice (some ⟨w.heap.size, 0, none⟩) 0 8, .int .u16 s, .func (.func 73) #[] #[.pointer (some ⟨w.heap.size + 1 + 1, 0, none⟩)], .int .i64 (x.1 : Nat), undef, undef, undef, undef, undef, undef, undef], defers := [] }) ?assign ?body ?done ?stop
 case assign =>
  intro l x W K hK
  gi_wp2
  exact hK
 case body =>
  rintro l pre x W ⟨⟨v, hv, hrow, -⟩, hB⟩ hlt
  have hc := hv.cell
  have hel := elems_length s
  gi_wp2_with (gi_at_builtin; refine wpListIn_append_own _ rfl _ _ 31 rfl w.heap.size 3 i0 (.int .i64 0) 1 8 Tryd.underlying31 hi hz0 hz1 hz2 rfl (by decide) _ _ _ rfl (hrow.alloc _) ⟨W.heap.size, 0, none⟩ 1 1 [.int .i64 (x.1 : Nat)] rfl rfl (cell_one_new _ _ _) (by simp [Value.oneCell']) (by simp only [maxLen]; omega) (by omega) (by have := hB.size; simp; omega) ?_; intro v' w1 hown' hgrow _; obtain ⟨g', cap', rfl⟩ := ownsRow_succ hown'; obtain ⟨hv1, hv2, hr2, hk2, hb2⟩ := hv.appended (by decide) hrow hB.size (by omega) hown' hgrow; have hc1 := hv1.cell; have hf1 := hv1.frozen)
  exact ⟨hk2.from _, hb2, ⟨_, hv2, by simpa [nums] using hr2, trivial⟩, hB.trans hb2⟩
 case stop =>
  rintro D c pre W _ _ h _
  exact h.elim
 case done =>
  rintro D ys W hD hys ⟨⟨v, hv, hrow, -⟩, hB⟩ hK
  have hc := hv.cell
  rw [els_of hys, len_of hys] at hrow
  have hR : Kd.R (Kd.int .i64) 3 W w.heap.size (fun _ => True) v (els s) := Kd.R_of_own hrow (fun _ _ => trivial)
  obtain ⟨A, c, rfl, hlc, hC⟩ := Kd.R_reads hR
  have hel := els_length s
  have hBW := hB.size
  have hvl := hv.lt
  go_wp2_with (at_builtin; refine Kd.R_append_row (Value.int .i64) (0 : Int) (h1 := fun _ => rfl) (w0 := w) w.heap.size rfl _ _ 31 3 (.int .i64 0) 8 rfl Tryd.underlying31 infoInt rfl (by decide) _ [] (els s) _ _ _ (fun _ => True) rfl rfl (fun _ _ => trivial) ?c1 ?c2 ?c3 ?c4 ?c5 ?_; (case c1 => exact Kd.R_of_own (World.ownsRow_lit (base := w.heap.size) (size := 1) W #[] 0 hB.size (by simp [maxLen]) rfl) (fun _ _ => trivial)); (case c2 => exact Kd.C_below hC ((Below.refl _ _).alloc (Nat.le_refl _) _)); (case c3 => exact hB.alloc hB.size _); (case c4 => (have := hB.size; simp; omega)); (case c5 => (simp; omega)); intro v1 w1 hR1 hB1 hg1 _)
  rw [List.nil_append] at hR1
  have hR2 : Kd.R (Kd.int .i64) 3 w1 w.heap.size (fun _ => True) v1 (els s) := hR1
  have hDW : D < W.heap.size := (Array.getElem?_eq_some_iff.1 hK).1
  have hK1 : w1.heap[D]? = some (.deferred (some [])) := (hg1.block D (by simp; omega) (fun e => by have e2 : D = W.heap.size := Option.some.inj e; omega)).trans ((Below.heap_alloc _ _ _ hDW).trans hK)
  refine leave_one hK1 (results_tmp rfl _ _ _) ⟨v1, rfl, R_grownNC hR2 (grownBy_putObj' _ D (.deferred none)) (fun r e => by cases e; exact ⟨_, hK1, rfl⟩), ?_⟩
  exact hB1.trans (belowK_b (w := w) (Nat.le_refl _) w1 D _ _ (by simp [hz0'] at hD; omega) hK1 rfl rfl)
end Go.Proofs.YtlcdffhhimbbmaaDoor

namespace Go.Proofs.YtlcdffhhimbbmaaDoor
set_option linter.unusedVariables false
set_option linter.unusedSimpArgs false
open Go.RowKit Go.Shelf Bits
open Go.Proofs.YtlcdffhhimbbmaaDoorW.PrintWords Go.Proofs.YtlcdffhhimbbmaaDoorW.PrintLast Go.Proofs.YtlcdffhhimbbmaaDoorW.PrintMore
set_option maxRecDepth 100000 in
set_option maxHeartbeats 8000000 in
theorem take_no1 (C h : Nat) (g : List Tk) (ns : List Nat) (M : Mach) (f0 f1 : Int) (f2 : Bool) (w : World) (hG : IsGraph w C g ns) (hgl : g.length ≤ 8) (hnl : ns.length = g.length) (hM : MAt h C M w) (hs : inB f0 0 200 = false) :
  Calls Tryd.prog 52 #[.pointer (some ⟨h, 0, none⟩), .agg #[.int .i64 f0, .int .i64 f1, .bool f2]] w fun r w' => r = .returned (.bool false) ∧ Below w.heap.size w w' := by
 have H0 := Lib.hid hs
 clear hs
 go_enter Tryd.func52, Tryd.ntmps52
 go_wp2
 obtain ⟨w1, hw1⟩ : ∃ w1, w1 = w.alloc (.cells #[.int .i64 f0, .int .i64 f1, .bool f2] 30) := ⟨_, rfl⟩
 have hB1 : Below w.heap.size w w1 := by rw [hw1]; exact (Below.refl _ w).alloc (Nat.le_refl _) _
 have hx0 : w1.cell? ⟨w.heap.size, 0, none⟩ = some (.int .i64 f0) := by rw [hw1]; simp
 have hx1 : w1.cell? ⟨w.heap.size, 1, none⟩ = some (.int .i64 f1) := by rw [hw1]; simp
 have hx2 : w1.cell? ⟨w.heap.size, 2, none⟩ = some (.bool f2) := by rw [hw1]; simp
 rw [← hw1]
 have HM1 := hM.below hB1
 have HGr : Hid (∀ n, IsGraph (w1.drewN n) C g ns) := Lib.hid fun n => (hG.below hB1).below (pw_below_drewN (Below.refl _ w1) n)
 clear hw1
 clear HGr HM1
 go_quiet (first | (go_at_call 81; with_reducible exact Calls.quiet_of_same (within_is _ _ _ _ H0 _)))
 go_wp2
 go_ret
 exact ⟨rfl, pw_below_drewN hB1 _⟩
set_option maxRecDepth 100000 in
set_option maxHeartbeats 8000000 in
theorem take_no2 (C h : Nat) (g : List Tk) (ns : List Nat) (M : Mach) (f0 f1 : Int) (f2 : Bool) (w : World) (hG : IsGraph w C g ns) (hgl : g.length ≤ 8) (hnl : ns.length = g.length) (hM : MAt h C M w) (hs : inB f0 0 200 = true) (hs1 : inB f1 0 (g.length - 1) = false) :
  Calls Tryd.prog 52 #[.pointer (some ⟨h, 0, none⟩), .agg #[.int .i64 f0, .int .i64 f1, .bool f2]] w fun r w' => r = .returned (.bool false) ∧ Below w.heap.size w w' := by
 have H0 := Lib.hid hs
 have H1 := Lib.hid hs1
 clear hs hs1
 go_enter Tryd.func52, Tryd.ntmps52
 go_wp2
 obtain ⟨w1, hw1⟩ : ∃ w1, w1 = w.alloc (.cells #[.int .i64 f0, .int .i64 f1, .bool f2] 30) := ⟨_, rfl⟩
 have hB1 : Below w.heap.size w w1 := by rw [hw1]; exact (Below.refl _ w).alloc (Nat.le_refl _) _
 have hx0 : w1.cell? ⟨w.heap.size, 0, none⟩ = some (.int .i64 f0) := by rw [hw1]; simp
 have hx1 : w1.cell? ⟨w.heap.size, 1, none⟩ = some (.int .i64 f1) := by rw [hw1]; simp
 have hx2 : w1.cell? ⟨w.heap.size, 2, none⟩ = some (.bool f2) := by rw [hw1]; simp
 rw [← hw1]
 have HM1 := hM.below hB1
 have HGr : Hid (∀ n, IsGraph (w1.drewN n) C g ns) := Lib.hid fun n => (hG.below hB1).below (pw_below_drewN (Below.refl _ w1) n)
 clear hw1
 have hm0 := HM1.1
 clear HM1
 have hwg : IntKind.i64.wrap ((g.length : Int) - 1) = (g.length : Int) - 1 := IntWalk.i64_in _ (by omega)
 go_quiet (first | (go_at_call 81; with_reducible exact Calls.quiet_of_same (within_is _ _ _ _ H0 _)) | (go_at_call 81; with_reducible exact Calls.quiet_of_same (within_is _ _ _ _ H1 _)) | (go_at_call 58; with_reducible exact Calls.quiet_of_same (size_calls _ _ _ _ (HGr.out _))))
 go_wp2
 go_ret
 exact ⟨rfl, pw_below_drewN hB1 _⟩
set_option maxRecDepth 100000 in
set_option maxHeartbeats 8000000 in
theorem take_no3 (C h : Nat) (g : List Tk) (ns : List Nat) (M : Mach) (f0 : Int) (i : Nat) (w : World) (hG : IsGraph w C g ns) (hgl : g.length ≤ 8) (hnl : ns.length = g.length) (hM : MAt h C M w) (hs : inB f0 0 200 = true) (hi : i < g.length) (hb : M.b.testBit i = true) :
  Calls Tryd.prog 52 #[.pointer (some ⟨h, 0, none⟩), .agg #[.int .i64 f0, .int .i64 (i : Nat), .bool false]] w fun r w' => r = .returned (.bool false) ∧ Below w.heap.size w w' := by
 have H0 := Lib.hid hs
 have H1 : Hid (inB (i : Nat) 0 (g.length - 1) = true) := Lib.hid (inB_true.2 (by omega))
 have HI16 : Hid (i < 16) := Lib.hid (by omega)
 clear hs
 have HBb := Lib.hid hb
 clear hb
 go_enter Tryd.func52, Tryd.ntmps52
 go_wp2
 obtain ⟨w1, hw1⟩ : ∃ w1, w1 = w.alloc (.cells #[.int .i64 f0, .int .i64 (i : Nat), .bool false] 30) := ⟨_, rfl⟩
 have hB1 : Below w.heap.size w w1 := by rw [hw1]; exact (Below.refl _ w).alloc (Nat.le_refl _) _
 have hx0 : w1.cell? ⟨w.heap.size, 0, none⟩ = some (.int .i64 f0) := by rw [hw1]; simp
 have hx1 : w1.cell? ⟨w.heap.size, 1, none⟩ = some (.int .i64 (i : Nat)) := by rw [hw1]; simp
 have hx2 : w1.cell? ⟨w.heap.size, 2, none⟩ = some (.bool false) := by rw [hw1]; simp
 rw [← hw1]
 have HM1 := hM.below hB1
 have HGr : Hid (∀ n, IsGraph (w1.drewN n) C g ns) := Lib.hid fun n => (hG.below hB1).below (pw_below_drewN (Below.refl _ w1) n)
 clear hw1
 obtain ⟨hm0, hm1, hm2, hmb, hmc, hmf, hlb, hlo, hhx⟩ := HM1
 have HLb := Lib.hid hlb
 have HLo := Lib.hid hlo
 clear hlb hlo hhx
 have hwg : IntKind.i64.wrap ((g.length : Int) - 1) = (g.length : Int) - 1 := IntWalk.i64_in _ (by omega)
 go_quiet (first | (go_at_call 81; with_reducible exact Calls.quiet_of_same (within_is _ _ _ _ H0 _)) | (go_at_call 81; with_reducible exact Calls.quiet_of_same (within_is _ _ _ _ H1 _)) | (go_at_call 58; with_reducible exact Calls.quiet_of_same (size_calls _ _ _ _ (HGr.out _))))
 clear hwg
 go_wp2
 generalize hw2 : w1.drewN _ = w2
 have e2 : ∀ a, w2.cell? a = w1.cell? a := fun a => by rw [← hw2, World.cell?_drewN]
 have f2 : ∀ a, w2.frozen? a = w1.frozen? a := fun a => by rw [← hw2, World.frozen?_drewN]
 replace hB1 : Below w.heap.size w w2 := by rw [← hw2]; exact pw_below_drewN hB1 _
 replace HGr : Hid (IsGraph w2 C g ns) := Lib.hid (by rw [← hw2]; exact HGr.out _)
 rw [← e2] at hx0 hx1 hx2 hm0 hm1 hm2
 simp only [← e2] at hmb hmc
 simp only [← f2] at hmf
 clear hw2 e2 f2
 go_quiet (first | (go_at_call 62; with_reducible exact Calls.quiet_of_same (has_is _ _ _ HBb HLb.out HI16.out _)))
 go_wp2
 go_ret
 exact ⟨rfl, pw_below_drewN hB1 _⟩
set_option maxRecDepth 100000 in
set_option maxHeartbeats 8000000 in
theorem take_no4 (C h : Nat) (g : List Tk) (ns : List Nat) (M : Mach) (f0 : Int) (i : Nat) (w : World) (hG : IsGraph w C g ns) (hgl : g.length ≤ 8) (hnl : ns.length = g.length) (hM : MAt h C M w) (hs : inB f0 0 200 = true) (hi : i < g.length) (hx : ns.getD i 0 < 65536) (hb : M.b.testBit i = false) (hd : diff (ns.getD i 0) M.o ≠ 0) :
  Calls Tryd.prog 52 #[.pointer (some ⟨h, 0, none⟩), .agg #[.int .i64 f0, .int .i64 (i : Nat), .bool false]] w fun r w' => r = .returned (.bool false) ∧ Below w.heap.size w w' := by
 have H0 := Lib.hid hs
 have H1 : Hid (inB (i : Nat) 0 (g.length - 1) = true) := Lib.hid (inB_true.2 (by omega))
 have HI16 : Hid (i < 16) := Lib.hid (by omega)
 clear hs
 have HBb := Lib.hid hb
 have HX := Lib.hid hx
 have HD := Lib.hid hd
 clear hb hx hd
 go_enter Tryd.func52, Tryd.ntmps52
 go_wp2
 obtain ⟨w1, hw1⟩ : ∃ w1, w1 = w.alloc (.cells #[.int .i64 f0, .int .i64 (i : Nat), .bool false] 30) := ⟨_, rfl⟩
 have hB1 : Below w.heap.size w w1 := by rw [hw1]; exact (Below.refl _ w).alloc (Nat.le_refl _) _
 have hx0 : w1.cell? ⟨w.heap.size, 0, none⟩ = some (.int .i64 f0) := by rw [hw1]; simp
 have hx1 : w1.cell? ⟨w.heap.size, 1, none⟩ = some (.int .i64 (i : Nat)) := by rw [hw1]; simp
 have hx2 : w1.cell? ⟨w.heap.size, 2, none⟩ = some (.bool false) := by rw [hw1]; simp
 rw [← hw1]
 have HM1 := hM.below hB1
 have HGr : Hid (∀ n, IsGraph (w1.drewN n) C g ns) := Lib.hid fun n => (hG.below hB1).below (pw_below_drewN (Below.refl _ w1) n)
 clear hw1
 obtain ⟨hm0, hm1, hm2, hmb, hmc, hmf, hlb, hlo, hhx⟩ := HM1
 have HLb := Lib.hid hlb
 have HLo := Lib.hid hlo
 clear hlb hlo hhx
 have hwg : IntKind.i64.wrap ((g.length : Int) - 1) = (g.length : Int) - 1 := IntWalk.i64_in _ (by omega)
 go_quiet (first | (go_at_call 81; with_reducible exact Calls.quiet_of_same (within_is _ _ _ _ H0 _)) | (go_at_call 81; with_reducible exact Calls.quiet_of_same (within_is _ _ _ _ H1 _)) | (go_at_call 58; with_reducible exact Calls.quiet_of_same (size_calls _ _ _ _ (HGr.out _))))
 clear hwg
 go_wp2
 generalize hw2 : w1.drewN _ = w2
 have e2 : ∀ a, w2.cell? a = w1.cell? a := fun a => by rw [← hw2, World.cell?_drewN]
 have f2 : ∀ a, w2.frozen? a = w1.frozen? a := fun a => by rw [← hw2, World.frozen?_drewN]
 replace hB1 : Below w.heap.size w w2 := by rw [← hw2]; exact pw_below_drewN hB1 _
 replace HGr : Hid (IsGraph w2 C g ns) := Lib.hid (by rw [← hw2]; exact HGr.out _)
 rw [← e2] at hx0 hx1 hx2 hm0 hm1 hm2
 simp only [← e2] at hmb hmc
 simp only [← f2] at hmf
 clear hw2 e2 f2
 obtain ⟨Ag, cg, An, cn, Ao, co, vb, va, hC, hT, hN, hO⟩ := HGr.out
 have hc0 : w2.cell? ⟨C, 0, none⟩ = some (.slice Ag g.length cg) := by simp [World.cell?, hC]
 have hc1 : w2.cell? ⟨C, 1, none⟩ = some (.slice An ns.length cn) := by simp [World.cell?, hC]
 obtain ⟨an, rfl, hnc⟩ := at_set hN i (by omega)
 obtain ⟨ag, A1, c1, rfl, htc, _, _, _⟩ := at_Tk hT i hi
 clear hC hO hN hT
 have hbc := hmb i (by omega)
 clear hmb hmc hmf
 have hd : (bits BinOp.andNot IntKind.u16 ((ns.getD i 0 : Nat) : Int) (M.o : Int) == 0) = false := by
  rw [bits_andNot_u16 _ M.o HX.out]
  have := HD.out
  simp only [beq_eq_false_iff_ne, ne_eq]
  omega
 clear HD HX
 generalize ns.getD i 0 = nd at *
 go_quiet (first | (go_at_call 62; with_reducible exact Calls.quiet_of_same (has_is _ _ _ HBb HLb.out HI16.out _)))
 go_wp2
 go_ret
 exact ⟨rfl, pw_below_drewN hB1 _⟩
set_option maxRecDepth 100000 in
set_option maxHeartbeats 8000000 in
theorem take_no5 (C h : Nat) (g : List Tk) (ns : List Nat) (M : Mach) (f0 : Int) (i : Nat) (w : World) (hG : IsGraph w C g ns) (hgl : g.length ≤ 8) (hnl : ns.length = g.length) (hM : MAt h C M w) (hs : inB f0 0 200 = true) (hi : i < g.length) (hb : M.b.testBit i = false) :
  Calls Tryd.prog 52 #[.pointer (some ⟨h, 0, none⟩), .agg #[.int .i64 f0, .int .i64 (i : Nat), .bool true]] w fun r w' => r = .returned (.bool false) ∧ Below w.heap.size w w' := by
 have H0 := Lib.hid hs
 have H1 : Hid (inB (i : Nat) 0 (g.length - 1) = true) := Lib.hid (inB_true.2 (by omega))
 have HI16 : Hid (i < 16) := Lib.hid (by omega)
 clear hs
 have HBb := Lib.hid hb
 clear hb
 go_enter Tryd.func52, Tryd.ntmps52
 go_wp2
 obtain ⟨w1, hw1⟩ : ∃ w1, w1 = w.alloc (.cells #[.int .i64 f0, .int .i64 (i : Nat), .bool true] 30) := ⟨_, rfl⟩
 have hB1 : Below w.heap.size w w1 := by rw [hw1]; exact (Below.refl _ w).alloc (Nat.le_refl _) _
 have hx0 : w1.cell? ⟨w.heap.size, 0, none⟩ = some (.int .i64 f0) := by rw [hw1]; simp
 have hx1 : w1.cell? ⟨w.heap.size, 1, none⟩ = some (.int .i64 (i : Nat)) := by rw [hw1]; simp
 have hx2 : w1.cell? ⟨w.heap.size, 2, none⟩ = some (.bool true) := by rw [hw1]; simp
 rw [← hw1]
 have HM1 := hM.below hB1
 have HGr : Hid (∀ n, IsGraph (w1.drewN n) C g ns) := Lib.hid fun n => (hG.below hB1).below (pw_below_drewN (Below.refl _ w1) n)
 clear hw1
 obtain ⟨hm0, hm1, hm2, hmb, hmc, hmf, hlb, hlo, hhx⟩ := HM1
 have HLb := Lib.hid hlb
 have HLo := Lib.hid hlo
 clear hlb hlo hhx
 have hwg : IntKind.i64.wrap ((g.length : Int) - 1) = (g.length : Int) - 1 := IntWalk.i64_in _ (by omega)
 go_quiet (first | (go_at_call 81; with_reducible exact Calls.quiet_of_same (within_is _ _ _ _ H0 _)) | (go_at_call 81; with_reducible exact Calls.quiet_of_same (within_is _ _ _ _ H1 _)) | (go_at_call 58; with_reducible exact Calls.quiet_of_same (size_calls _ _ _ _ (HGr.out _))))
 clear hwg
 go_wp2
 generalize hw2 : w1.drewN _ = w2
 have e2 : ∀ a, w2.cell? a = w1.cell? a := fun a => by rw [← hw2, World.cell?_drewN]
 have f2 : ∀ a, w2.frozen? a = w1.frozen? a := fun a => by rw [← hw2, World.frozen?_drewN]
 replace hB1 : Below w.heap.size w w2 := by rw [← hw2]; exact pw_below_drewN hB1 _
 replace HGr : Hid (IsGraph w2 C g ns) := Lib.hid (by rw [← hw2]; exact HGr.out _)
 rw [← e2] at hx0 hx1 hx2 hm0 hm1 hm2
 simp only [← e2] at hmb hmc
 simp only [← f2] at hmf
 clear hw2 e2 f2
 go_quiet (first | (go_at_call 62; with_reducible exact Calls.quiet_of_same (has_is _ _ _ HBb HLb.out HI16.out _)))
 go_wp2
 go_ret
 exact ⟨rfl, pw_below_drewN hB1 _⟩
set_option maxRecDepth 100000 in
set_option maxHeartbeats 8000000 in
theorem take_no6 (C h : Nat) (g : List Tk) (ns : List Nat) (M : Mach) (f0 : Int) (i : Nat) (w : World) (hG : IsGraph w C g ns) (hgl : g.length ≤ 8) (hnl : ns.length = g.length) (hM : MAt h C M w) (hs : inB f0 0 200 = true) (hi : i < g.length) (hb : M.b.testBit i = true) (ho : M.o.testBit i = true) :
  Calls Tryd.prog 52 #[.pointer (some ⟨h, 0, none⟩), .agg #[.int .i64 f0, .int .i64 (i : Nat), .bool true]] w fun r w' => r = .returned (.bool false) ∧ Below w.heap.size w w' := by
 have H0 := Lib.hid hs
 have H1 : Hid (inB (i : Nat) 0 (g.length - 1) = true) := Lib.hid (inB_true.2 (by omega))
 have HI16 : Hid (i < 16) := Lib.hid (by omega)
 clear hs
 have HBb := Lib.hid hb
 have HOb := Lib.hid ho
 clear hb ho
 go_enter Tryd.func52, Tryd.ntmps52
 go_wp2
 obtain ⟨w1, hw1⟩ : ∃ w1, w1 = w.alloc (.cells #[.int .i64 f0, .int .i64 (i : Nat), .bool true] 30) := ⟨_, rfl⟩
 have hB1 : Below w.heap.size w w1 := by rw [hw1]; exact (Below.refl _ w).alloc (Nat.le_refl _) _
 have hx0 : w1.cell? ⟨w.heap.size, 0, none⟩ = some (.int .i64 f0) := by rw [hw1]; simp
 have hx1 : w1.cell? ⟨w.heap.size, 1, none⟩ = some (.int .i64 (i : Nat)) := by rw [hw1]; simp
 have hx2 : w1.cell? ⟨w.heap.size, 2, none⟩ = some (.bool true) := by rw [hw1]; simp
 rw [← hw1]
 have HM1 := hM.below hB1
 have HGr : Hid (∀ n, IsGraph (w1.drewN n) C g ns) := Lib.hid fun n => (hG.below hB1).below (pw_below_drewN (Below.refl _ w1) n)
 clear hw1
 obtain ⟨hm0, hm1, hm2, hmb, hmc, hmf, hlb, hlo, hhx⟩ := HM1
 have HLb := Lib.hid hlb
 have HLo := Lib.hid hlo
 clear hlb hlo hhx
 have hwg : IntKind.i64.wrap ((g.length : Int) - 1) = (g.length : Int) - 1 := IntWalk.i64_in _ (by omega)
 go_quiet (first | (go_at_call 81; with_reducible exact Calls.quiet_of_same (within_is _ _ _ _ H0 _)) | (go_at_call 81; with_reducible exact Calls.quiet_of_same (within_is _ _ _ _ H1 _)) | (go_at_call 58; with_reducible exact Calls.quiet_of_same (size_calls _ _ _ _ (HGr.out _))))
 clear hwg
 go_wp2
 generalize hw2 : w1.drewN _ = w2
 have e2 : ∀ a, w2.cell? a = w1.cell? a := fun a => by rw [← hw2, World.cell?_drewN]
 have f2 : ∀ a, w2.frozen? a = w1.frozen? a := fun a => by rw [← hw2, World.frozen?_drewN]
 replace hB1 : Below w.heap.size w w2 := by rw [← hw2]; exact pw_below_drewN hB1 _
 replace HGr : Hid (IsGraph w2 C g ns) := Lib.hid (by rw [← hw2]; exact HGr.out _)
 rw [← e2] at hx0 hx1 hx2 hm0 hm1 hm2
 simp only [← e2] at hmb hmc
 simp only [← f2] at hmf
 clear hw2 e2 f2
 go_quiet (first | (go_at_call 62; with_reducible exact Calls.quiet_of_same (has_is _ _ _ HBb HLb.out HI16.out _)) | (go_at_call 62; with_reducible exact Calls.quiet_of_same (has_is _ _ _ HOb HLo.out HI16.out _)))
 go_wp2
 go_ret
 exact ⟨rfl, pw_below_drewN hB1 _⟩
set_option maxRecDepth 100000 in
set_option maxHeartbeats 8000000 in
theorem take_no7 (C h : Nat) (g : List Tk) (ns : List Nat) (M : Mach) (f0 : Int) (i : Nat) (w : World) (hG : IsGraph w C g ns) (hgl : g.length ≤ 8) (hnl : ns.length = g.length) (hM : MAt h C M w) (hs : inB f0 0 200 = true) (hi : i < g.length) (hb : M.b.testBit i = true) (ho : M.o.testBit i = false) (hq : 0 ≤ M.bg i ∧ M.bg i ≤ 200) (ht : 0 ≤ (rdTk g i).f0 ∧ (rdTk g i).f0 ≤ 20) (hne : f0 ≠ M.bg i + (rdTk g i).f0) :
  Calls Tryd.prog 52 #[.pointer (some ⟨h, 0, none⟩), .agg #[.int .i64 f0, .int .i64 (i : Nat), .bool true]] w fun r w' => r = .returned (.bool false) ∧ Below w.heap.size w w' := by
 have H0 := Lib.hid hs
 have H1 : Hid (inB (i : Nat) 0 (g.length - 1) = true) := Lib.hid (inB_true.2 (by omega))
 have HI16 : Hid (i < 16) := Lib.hid (by omega)
 clear hs
 have HBb := Lib.hid hb
 have HOb := Lib.hid ho
 have HQ := Lib.hid hq
 have HT := Lib.hid ht
 have HNE := Lib.hid hne
 clear hb ho hq ht hne
 go_enter Tryd.func52, Tryd.ntmps52
 go_wp2
 obtain ⟨w1, hw1⟩ : ∃ w1, w1 = w.alloc (.cells #[.int .i64 f0, .int .i64 (i : Nat), .bool true] 30) := ⟨_, rfl⟩
 have hB1 : Below w.heap.size w w1 := by rw [hw1]; exact (Below.refl _ w).alloc (Nat.le_refl _) _
 have hx0 : w1.cell? ⟨w.heap.size, 0, none⟩ = some (.int .i64 f0) := by rw [hw1]; simp
 have hx1 : w1.cell? ⟨w.heap.size, 1, none⟩ = some (.int .i64 (i : Nat)) := by rw [hw1]; simp
 have hx2 : w1.cell? ⟨w.heap.size, 2, none⟩ = some (.bool true) := by rw [hw1]; simp
 rw [← hw1]
 have HM1 := hM.below hB1
 have HGr : Hid (∀ n, IsGraph (w1.drewN n) C g ns) := Lib.hid fun n => (hG.below hB1).below (pw_below_drewN (Below.refl _ w1) n)
 clear hw1
 obtain ⟨hm0, hm1, hm2, hmb, hmc, hmf, hlb, hlo, hhx⟩ := HM1
 have HLb := Lib.hid hlb
 have HLo := Lib.hid hlo
 clear hlb hlo hhx
 have hwg : IntKind.i64.wrap ((g.length : Int) - 1) = (g.length : Int) - 1 := IntWalk.i64_in _ (by omega)
 go_quiet (first | (go_at_call 81; with_reducible exact Calls.quiet_of_same (within_is _ _ _ _ H0 _)) | (go_at_call 81; with_reducible exact Calls.quiet_of_same (within_is _ _ _ _ H1 _)) | (go_at_call 58; with_reducible exact Calls.quiet_of_same (size_calls _ _ _ _ (HGr.out _))))
 clear hwg
 go_wp2
 generalize hw2 : w1.drewN _ = w2
 have e2 : ∀ a, w2.cell? a = w1.cell? a := fun a => by rw [← hw2, World.cell?_drewN]
 have f2 : ∀ a, w2.frozen? a = w1.frozen? a := fun a => by rw [← hw2, World.frozen?_drewN]
 replace hB1 : Below w.heap.size w w2 := by rw [← hw2]; exact pw_below_drewN hB1 _
 replace HGr : Hid (IsGraph w2 C g ns) := Lib.hid (by rw [← hw2]; exact HGr.out _)
 rw [← e2] at hx0 hx1 hx2 hm0 hm1 hm2
 simp only [← e2] at hmb hmc
 simp only [← f2] at hmf
 clear hw2 e2 f2
 obtain ⟨Ag, cg, An, cn, Ao, co, vb, va, hC, hT, hN, hO⟩ := HGr.out
 have hc0 : w2.cell? ⟨C, 0, none⟩ = some (.slice Ag g.length cg) := by simp [World.cell?, hC]
 have hc1 : w2.cell? ⟨C, 1, none⟩ = some (.slice An ns.length cn) := by simp [World.cell?, hC]
 obtain ⟨an, rfl, hnc⟩ := at_set hN i (by omega)
 obtain ⟨ag, A1, c1, rfl, htc, _, _, _⟩ := at_Tk hT i hi
 clear hC hO hN hT
 have hbc := hmb i (by omega)
 clear hmb hmc hmf
 generalize M.bg i = p at *
 generalize (rdTk g i).f0 = tm at *
 have hne : (f0 == p + tm) = false := beq_eq_false_iff_ne.2 HNE.out
 have hw : IntKind.i64.wrap (p + tm) = p + tm := IntWalk.i64_in _ (by have := HQ.out; have := HT.out; omega)
 go_quiet (first | (go_at_call 62; with_reducible exact Calls.quiet_of_same (has_is _ _ _ HBb HLb.out HI16.out _)) | (go_at_call 62; with_reducible exact Calls.quiet_of_same (has_is _ _ _ HOb HLo.out HI16.out _)))
 clear hw
 go_wp2
 go_ret
 exact ⟨rfl, pw_below_drewN hB1 _⟩
end Go.Proofs.YtlcdffhhimbbmaaDoor

namespace Go.Proofs.YtlcdffhhimbbmaaDoor
set_option linter.unusedVariables false
set_option linter.unusedSimpArgs false
open Go.RowKit Go.Shelf Bits
open Go.Proofs.YtlcdffhhimbbmaaDoorW.PrintWords Go.Proofs.YtlcdffhhimbbmaaDoorW.PrintLast Go.Proofs.YtlcdffhhimbbmaaDoorW.PrintMore
set_option maxRecDepth 100000 in
set_option maxHeartbeats 8000000 in
theorem take_begin (C h : Nat) (g : List Tk) (ns : List Nat) (M : Mach) (f0 : Int) (i : Nat) (w : World) (hG : IsGraph w C g ns) (hgl : g.length ≤ 8) (hnl : ns.length = g.length) (hM : MAt h C M w) (hs : inB f0 0 200 = true) (hi : i < g.length) (hhw : h < w.heap.size) (hx : ns.getD i 0 < 65536) (hb : M.b.testBit i = false) (hd : diff (ns.getD i 0) M.o = 0) :
  Calls Tryd.prog 52 #[.pointer (some ⟨h, 0, none⟩), .agg #[.int .i64 f0, .int .i64 (i : Nat), .bool false]] w fun r w' => r = .returned (.bool true) ∧ MAt h C (M.begin ⟨f0, i, false⟩) w' ∧ Below h w w' ∧ Others h w w' := by
 have HM0 := Lib.hid hM
 have H0 := Lib.hid hs
 have H1 : Hid (inB (i : Nat) 0 (g.length - 1) = true) := Lib.hid (inB_true.2 (by omega))
 have HI16 : Hid (i < 16) := Lib.hid (by omega)
 clear hs
 have HBb := Lib.hid hb
 have HX := Lib.hid hx
 have HD := Lib.hid hd
 clear hb hx hd
 have HHX := Lib.hid hhw
 go_enter Tryd.func52, Tryd.ntmps52
 go_wp2
 obtain ⟨w1, hw1⟩ : ∃ w1, w1 = w.alloc (.cells #[.int .i64 f0, .int .i64 (i : Nat), .bool false] 30) := ⟨_, rfl⟩
 have hB1 : Below w.heap.size w w1 := by rw [hw1]; exact (Below.refl _ w).alloc (Nat.le_refl _) _
 have hx0 : w1.cell? ⟨w.heap.size, 0, none⟩ = some (.int .i64 f0) := by rw [hw1]; simp
 have hx1 : w1.cell? ⟨w.heap.size, 1, none⟩ = some (.int .i64 (i : Nat)) := by rw [hw1]; simp
 have hx2 : w1.cell? ⟨w.heap.size, 2, none⟩ = some (.bool false) := by rw [hw1]; simp
 rw [← hw1]
 have HM1 := hM.below hB1
 have HGr : Hid (∀ n, IsGraph (w1.drewN n) C g ns) := Lib.hid fun n => (hG.below hB1).below (pw_below_drewN (Below.refl _ w1) n)
 clear hw1
 obtain ⟨hm0, hm1, hm2, hmb, hmc, hmf, hlb, hlo, hhx⟩ := HM1
 have HM1 : Hid (MAt h C M w1) := Lib.hid ⟨hm0, hm1, hm2, hmb, hmc, hmf, hlb, hlo, hhx⟩
 have HLb := Lib.hid hlb
 have HLo := Lib.hid hlo
 clear hlb hlo hhx
 have hwg : IntKind.i64.wrap ((g.length : Int) - 1) = (g.length : Int) - 1 := IntWalk.i64_in _ (by omega)
 go_quiet (first | (go_at_call 81; with_reducible exact Calls.quiet_of_same (within_is _ _ _ _ H0 _)) | (go_at_call 81; with_reducible exact Calls.quiet_of_same (within_is _ _ _ _ H1 _)) | (go_at_call 58; with_reducible exact Calls.quiet_of_same (size_calls _ _ _ _ (HGr.out _))))
 clear hwg
 go_wp2
 generalize hw2 : w1.drewN _ = w2
 have e2 : ∀ a, w2.cell? a = w1.cell? a := fun a => by rw [← hw2, World.cell?_drewN]
 have f2 : ∀ a, w2.frozen? a = w1.frozen? a := fun a => by rw [← hw2, World.frozen?_drewN]
 replace hB1 : Below w.heap.size w w2 := by rw [← hw2]; exact pw_below_drewN hB1 _
 replace HGr : Hid (IsGraph w2 C g ns) := Lib.hid (by rw [← hw2]; exact HGr.out _)
 rw [← e2] at hx0 hx1 hx2 hm0 hm1 hm2
 simp only [← e2] at hmb hmc
 simp only [← f2] at hmf
 have HM2 : Hid (MAt h C M w2) := Lib.hid (by rw [← hw2]; exact HM1.out.below (pw_below_drewN (Below.refl _ w1) _))
 clear HM1
 clear hw2 e2 f2
 obtain ⟨Ag, cg, An, cn, Ao, co, vb, va, hC, hT, hN, hO⟩ := HGr.out
 have hc0 : w2.cell? ⟨C, 0, none⟩ = some (.slice Ag g.length cg) := by simp [World.cell?, hC]
 have hc1 : w2.cell? ⟨C, 1, none⟩ = some (.slice An ns.length cn) := by simp [World.cell?, hC]
 obtain ⟨an, rfl, hnc⟩ := at_set hN i (by omega)
 obtain ⟨ag, A1, c1, rfl, htc, _, _, _⟩ := at_Tk hT i hi
 clear hC hO hN hT
 have hbc := hmb i (by omega)
 have hfb := hmf 1 (by omega)
 clear hmb hmc hmf
 have hd : (bits BinOp.andNot IntKind.u16 ((ns.getD i 0 : Nat) : Int) (M.o : Int) == 0) = true := by
  rw [bits_andNot_u16 _ M.o HX.out, HD.out]; rfl
 clear HD HX
 generalize ns.getD i 0 = nd at *
 go_quiet (first | (go_at_call 62; with_reducible exact Calls.quiet_of_same (has_is _ _ _ HBb HLb.out HI16.out _)))
 go_wp2
 generalize hw3 : w2.drewN _ = w3
 have e2 : ∀ a, w3.cell? a = w2.cell? a := fun a => by rw [← hw3, World.cell?_drewN]
 have f2 : ∀ a, w3.frozen? a = w2.frozen? a := fun a => by rw [← hw3, World.frozen?_drewN]
 replace hB1 : Below w.heap.size w w3 := by rw [← hw3]; exact pw_below_drewN hB1 _
 replace HM2 : Hid (MAt h C M w3) := Lib.hid (by rw [← hw3]; exact HM2.out.below (pw_below_drewN (Below.refl _ w2) _))
 rw [← e2] at hx0 hx1 hx2 hm0 hm1 hm2
 rw [← f2] at hfb
 clear hw3 e2 f2
 clear hc0 hc1 hnc htc hbc hd
 go_still_tail 10, mixed
 (with_reducible refine wpStill_step (fun K hK => ?_); go_simp; refine ⟨_, (with_calls _ _ HLb.out HI16.out _), ?_⟩; with_reducible refine hK _ ?_; clear hK K)
 repeat (with_reducible refine wpStill_step (fun K hK => ?_); go_simp; with_reducible refine hK _ ?_; clear hK K)
 with_reducible refine wpStill_nil ?_
 go_wp2
 have hlb := or_lt _ _ HLb.out (pow_u16 i HI16.out).2
 generalize hw4 : (w3.setCell _ _).drew = w4
 have HM4 : Hid (MAt h C { M with b := M.b ||| 2 ^ i } w4) := Lib.hid (by rw [← hw4]; exact (HM2.out.setB _ hlb).drew)
 have HB4 : Hid (Below h w w4) := Lib.hid (by rw [← hw4]; exact ((hB1.mono (Nat.le_of_lt HHX.out)).setCell (Nat.le_refl _) _).drew)
 have HO4 : Hid (Others h w w4) := Lib.hid (by rw [← hw4]; exact ((Others.of_below hB1).setCell _ _).drew)
 have HI8 : Hid (i < 8) := Lib.hid (by omega)
 have hne : h ≠ w.heap.size := Nat.ne_of_lt HHX.out
 replace hx0 : w4.cell? ⟨w.heap.size, 0, none⟩ = some (.int .i64 f0) := by rw [← hw4, World.cell?_drew, World.cell?_setCell_far _ _ _ _ hne]; exact hx0
 replace hx1 : w4.cell? ⟨w.heap.size, 1, none⟩ = some (.int .i64 (i : Nat)) := by rw [← hw4, World.cell?_drew, World.cell?_setCell_far _ _ _ _ hne]; exact hx1
 clear hw4 hx2 hm0 hm1 hm2 hfb hB1 hlb hne
 have hi8 : ((i : Nat) : Int) < 8 := by have := HI8.out; omega
 have hcell := HM4.out.2.2.2.1 i HI8.out
 have hfz := HM4.out.2.2.2.2.2.1 (3 + i) (by omega)
 go_still_tail 8, mixed
 go_wp2
 go_ret
 exact ⟨rfl, (HM4.out.setBg i (by have := HI8.out; omega) f0).drew, (HB4.out.setCell (Nat.le_refl _) _).drew, (HO4.out.setCell _ _).drew⟩
set_option maxRecDepth 100000 in
set_option maxHeartbeats 8000000 in
theorem take_end (C h : Nat) (g : List Tk) (ns : List Nat) (M : Mach) (f0 : Int) (i : Nat) (w : World) (hG : IsGraph w C g ns) (hgl : g.length ≤ 8) (hnl : ns.length = g.length) (hM : MAt h C M w) (hs : inB f0 0 200 = true) (hi : i < g.length) (hhw : h < w.heap.size) (hb : M.b.testBit i = true) (ho : M.o.testBit i = false) (hq : 0 ≤ M.bg i ∧ M.bg i ≤ 200) (ht : 0 ≤ (rdTk g i).f0 ∧ (rdTk g i).f0 ≤ 20) (he : f0 = M.bg i + (rdTk g i).f0) :
  Calls Tryd.prog 52 #[.pointer (some ⟨h, 0, none⟩), .agg #[.int .i64 f0, .int .i64 (i : Nat), .bool true]] w fun r w' => r = .returned (.bool true) ∧ MAt h C (M.finish ⟨f0, i, true⟩) w' ∧ Below h w w' ∧ Others h w w' := by
 have HM0 := Lib.hid hM
 have H0 := Lib.hid hs
 have H1 : Hid (inB (i : Nat) 0 (g.length - 1) = true) := Lib.hid (inB_true.2 (by omega))
 have HI16 : Hid (i < 16) := Lib.hid (by omega)
 clear hs
 have HBb := Lib.hid hb
 have HOb := Lib.hid ho
 have HQ := Lib.hid hq
 have HT := Lib.hid ht
 have HE := Lib.hid he
 clear hb ho hq ht he
 have HHX := Lib.hid hhw
 go_enter Tryd.func52, Tryd.ntmps52
 go_wp2
 obtain ⟨w1, hw1⟩ : ∃ w1, w1 = w.alloc (.cells #[.int .i64 f0, .int .i64 (i : Nat), .bool true] 30) := ⟨_, rfl⟩
 have hB1 : Below w.heap.size w w1 := by rw [hw1]; exact (Below.refl _ w).alloc (Nat.le_refl _) _
 have hx0 : w1.cell? ⟨w.heap.size, 0, none⟩ = some (.int .i64 f0) := by rw [hw1]; simp
 have hx1 : w1.cell? ⟨w.heap.size, 1, none⟩ = some (.int .i64 (i : Nat)) := by rw [hw1]; simp
 have hx2 : w1.cell? ⟨w.heap.size, 2, none⟩ = some (.bool true) := by rw [hw1]; simp
 rw [← hw1]
 have HM1 := hM.below hB1
 have HGr : Hid (∀ n, IsGraph (w1.drewN n) C g ns) := Lib.hid fun n => (hG.below hB1).below (pw_below_drewN (Below.refl _ w1) n)
 clear hw1
 obtain ⟨hm0, hm1, hm2, hmb, hmc, hmf, hlb, hlo, hhx⟩ := HM1
 have HM1 : Hid (MAt h C M w1) := Lib.hid ⟨hm0, hm1, hm2, hmb, hmc, hmf, hlb, hlo, hhx⟩
 have HLb := Lib.hid hlb
 have HLo := Lib.hid hlo
 clear hlb hlo hhx
 have hwg : IntKind.i64.wrap ((g.length : Int) - 1) = (g.length : Int) - 1 := IntWalk.i64_in _ (by omega)
 go_quiet (first | (go_at_call 81; with_reducible exact Calls.quiet_of_same (within_is _ _ _ _ H0 _)) | (go_at_call 81; with_reducible exact Calls.quiet_of_same (within_is _ _ _ _ H1 _)) | (go_at_call 58; with_reducible exact Calls.quiet_of_same (size_calls _ _ _ _ (HGr.out _))))
 clear hwg
 go_wp2
 generalize hw2 : w1.drewN _ = w2
 have e2 : ∀ a, w2.cell? a = w1.cell? a := fun a => by rw [← hw2, World.cell?_drewN]
 have f2 : ∀ a, w2.frozen? a = w1.frozen? a := fun a => by rw [← hw2, World.frozen?_drewN]
 replace hB1 : Below w.heap.size w w2 := by rw [← hw2]; exact pw_below_drewN hB1 _
 replace HGr : Hid (IsGraph w2 C g ns) := Lib.hid (by rw [← hw2]; exact HGr.out _)
 rw [← e2] at hx0 hx1 hx2 hm0 hm1 hm2
 simp only [← e2] at hmb hmc
 simp only [← f2] at hmf
 have HM2 : Hid (MAt h C M w2) := Lib.hid (by rw [← hw2]; exact HM1.out.below (pw_below_drewN (Below.refl _ w1) _))
 clear HM1
 clear hw2 e2 f2
 obtain ⟨Ag, cg, An, cn, Ao, co, vb, va, hC, hT, hN, hO⟩ := HGr.out
 have hc0 : w2.cell? ⟨C, 0, none⟩ = some (.slice Ag g.length cg) := by simp [World.cell?, hC]
 have hc1 : w2.cell? ⟨C, 1, none⟩ = some (.slice An ns.length cn) := by simp [World.cell?, hC]
 obtain ⟨an, rfl, hnc⟩ := at_set hN i (by omega)
 obtain ⟨ag, A1, c1, rfl, htc, _, _, _⟩ := at_Tk hT i hi
 clear hC hO hN hT
 have hbc := hmb i (by omega)
 have hfb := hmf 2 (by omega)
 clear hmb hmc hmf
 have hp := hbc
 have HW : Hid (IntKind.i64.wrap (M.bg i + (rdTk g i).f0) = M.bg i + (rdTk g i).f0) := Lib.hid (IntWalk.i64_in _ (by have := HQ.out; have := HT.out; omega))
 have HE2 : Hid ((f0 == M.bg i + (rdTk g i).f0) = true) := Lib.hid (beq_iff_eq.2 HE.out)
 clear hp
 generalize hpp : M.bg i = p at hbc HW HE2
 generalize htt : (rdTk g i).f0 = tm at htc HW HE2
 clear HQ HT HE hpp htt
 have hne := HE2.out
 have hw := HW.out
 go_quiet (first | (go_at_call 62; with_reducible exact Calls.quiet_of_same (has_is _ _ _ HBb HLb.out HI16.out _)) | (go_at_call 62; with_reducible exact Calls.quiet_of_same (has_is _ _ _ HOb HLo.out HI16.out _)))
 go_wp2
 generalize hw3 : w2.drewN _ = w3
 have e2 : ∀ a, w3.cell? a = w2.cell? a := fun a => by rw [← hw3, World.cell?_drewN]
 have f2 : ∀ a, w3.frozen? a = w2.frozen? a := fun a => by rw [← hw3, World.frozen?_drewN]
 replace hB1 : Below w.heap.size w w3 := by rw [← hw3]; exact pw_below_drewN hB1 _
 clear hw
 replace HM2 : Hid (MAt h C M w3) := Lib.hid (by rw [← hw3]; exact HM2.out.below (pw_below_drewN (Below.refl _ w2) _))
 rw [← e2] at hx0 hx1 hx2 hm0 hm1 hm2
 rw [← f2] at hfb
 clear hw3 e2 f2
 clear hc0 hc1 hnc htc hbc hne
 go_still_tail 10, mixed
 (with_reducible refine wpStill_step (fun K hK => ?_); go_simp; refine ⟨_, (with_calls _ _ HLo.out HI16.out _), ?_⟩; with_reducible refine hK _ ?_; clear hK K)
 repeat (with_reducible refine wpStill_step (fun K hK => ?_); go_simp; with_reducible refine hK _ ?_; clear hK K)
 with_reducible refine wpStill_nil ?_
 go_wp2
 have hlb := or_lt _ _ HLo.out (pow_u16 i HI16.out).2
 generalize hw4 : (w3.setCell _ _).drew = w4
 have HM4 : Hid (MAt h C { M with o := M.o ||| 2 ^ i } w4) := Lib.hid (by rw [← hw4]; exact (HM2.out.setO _ hlb).drew)
 have HB4 : Hid (Below h w w4) := Lib.hid (by rw [← hw4]; exact ((hB1.mono (Nat.le_of_lt HHX.out)).setCell (Nat.le_refl _) _).drew)
 have HO4 : Hid (Others h w w4) := Lib.hid (by rw [← hw4]; exact ((Others.of_below hB1).setCell _ _).drew)
 have HI8 : Hid (i < 8) := Lib.hid (by omega)
 have hne : h ≠ w.heap.size := Nat.ne_of_lt HHX.out
 replace hx0 : w4.cell? ⟨w.heap.size, 0, none⟩ = some (.int .i64 f0) := by rw [← hw4, World.cell?_drew, World.cell?_setCell_far _ _ _ _ hne]; exact hx0
 replace hx1 : w4.cell? ⟨w.heap.size, 1, none⟩ = some (.int .i64 (i : Nat)) := by rw [← hw4, World.cell?_drew, World.cell?_setCell_far _ _ _ _ hne]; exact hx1
 clear hw4 hx2 hm0 hm1 hm2 hfb hB1 hlb hne
 have hi8 : ((i : Nat) : Int) < 8 := by have := HI8.out; omega
 have hcell := HM4.out.2.2.2.2.1 i HI8.out
 have hfz := HM4.out.2.2.2.2.2.1 (11 + i) (by omega)
 go_still_tail 8, mixed
 go_wp2
 go_ret
 exact ⟨rfl, (HM4.out.setCl i (by have := HI8.out; omega) f0).drew, (HB4.out.setCell (Nat.le_refl _) _).drew, (HO4.out.setCell _ _).drew⟩
end Go.Proofs.YtlcdffhhimbbmaaDoor

namespace Go.Proofs.YtlcdffhhimbbmaaDoor
set_option linter.unusedVariables false
set_option linter.unusedSimpArgs false
open Go.RowKit Go.Shelf Bits
open Go.Proofs.YtlcdffhhimbbmaaDoorW.PrintWords Go.Proofs.YtlcdffhhimbbmaaDoorW.PrintLast Go.Proofs.YtlcdffhhimbbmaaDoorW.PrintMore
def MInv (M : Mach) : Prop := ∀ i, 0 ≤ M.bg i ∧ M.bg i ≤ 200
theorem MInv.zero : MInv Mach.zero := fun _ => by simp [Mach.zero]
theorem stepM_some {g : List Tk} {ns : List Nat} {M M' : Mach} {e : Ev} (h : stepM g ns M e = some M') :
  evIn g e = true ∧ ((e.f2 = false ∧ mayBegin ns M e = true ∧ M' = M.begin e) ∨ (e.f2 = true ∧ mayEnd g M e = true ∧ M' = M.finish e)) := by
 unfold stepM at h
 split at h
 ·
  cases h
 ·
  rename_i h1
  refine ⟨by simpa using h1, ?_⟩
  split at h
  ·
   rename_i h2
   split at h
   ·
    cases h; exact Or.inl ⟨h2, by assumption, rfl⟩
   ·
    cases h
  ·
   rename_i h2
   split at h
   ·
    cases h; exact Or.inr ⟨by simpa using h2, by assumption, rfl⟩
   ·
    cases h
theorem evIn_num {g : List Tk} {e : Ev} (h : evIn g e = true) : inB e.f0 0 200 = true ∧ e.f1 = ((e.i : Nat) : Int) ∧ e.i < g.length := by
 unfold evIn at h
 rw [Bool.and_eq_true] at h
 have h2 := inB_true.1 h.2
 unfold Ev.i
 refine ⟨h.1, ?_, ?_⟩ <;> omega
theorem MInv.step {g : List Tk} {ns : List Nat} {M M' : Mach} {e : Ev} (hM : MInv M) (h : stepM g ns M e = some M') : MInv M' := by
 obtain ⟨h1, ⟨_, _, rfl⟩ | ⟨_, _, rfl⟩⟩ := stepM_some h
 ·
  intro i
  simp only [Mach.begin]
  split
  ·
   exact inB_true.1 (evIn_num h1).1
  ·
   exact hM i
 ·
  exact fun i => hM i
section
variable (C h : Nat) (g : List Tk) (ns : List Nat) (M : Mach) (e : Ev) (w : World) (hG : IsGraph w C g ns) (hgl : g.length ≤ 8) (hnl : ns.length = g.length) (hM : MAt h C M w)
 (hI : MInv M) (ht : ∀ i, 0 ≤ (rdTk g i).f0 ∧ (rdTk g i).f0 ≤ 20) (hx : ∀ i, ns.getD i 0 < 65536)
include hG hgl hnl hM hI ht hx
theorem take_none (hs : stepM g ns M e = none) :
  Calls Tryd.prog 52 #[.pointer (some ⟨h, 0, none⟩), .agg #[.int .i64 e.f0, .int .i64 e.f1, .bool e.f2]] w fun r w' => r = .returned (.bool false) ∧ Below w.heap.size w w' := by
 cases h0 : evIn g e
 ·
  unfold evIn at h0
  cases h1 : inB e.f0 0 200
  ·
   exact take_no1 C h g ns M e.f0 e.f1 e.f2 w hG hgl hnl hM h1
  ·
   rw [h1, Bool.true_and] at h0
   exact take_no2 C h g ns M e.f0 e.f1 e.f2 w hG hgl hnl hM h1 h0
 ·
  obtain ⟨h1, h2, h3⟩ := evIn_num h0
  unfold stepM at hs
  rw [if_neg (by rw [h0]; simp)] at hs
  rw [h2]
  cases h4 : e.f2
  ·
   rw [if_pos h4] at hs
   have hs : mayBegin ns M e = false := by
    cases hb : mayBegin ns M e
    ·
     rfl
    ·
     rw [hb] at hs; cases hs
   unfold mayBegin at hs
   cases h5 : M.b.testBit e.i
   ·
    rw [h5] at hs
    have h6 : diff (ns.getD e.i 0) M.o ≠ 0 := by simpa using hs
    exact take_no4 C h g ns M e.f0 e.i w hG hgl hnl hM h1 h3 (hx _) h5 h6
   ·
    exact take_no3 C h g ns M e.f0 e.i w hG hgl hnl hM h1 h3 h5
  ·
   rw [if_neg (by rw [h4]; simp)] at hs
   have hs : mayEnd g M e = false := by
    cases hb : mayEnd g M e
    ·
     rfl
    ·
     rw [hb] at hs; cases hs
   unfold mayEnd at hs
   cases h5 : M.b.testBit e.i
   ·
    exact take_no5 C h g ns M e.f0 e.i w hG hgl hnl hM h1 h3 h5
   ·
    cases h6 : M.o.testBit e.i
    ·
     rw [h5, h6] at hs
     exact take_no7 C h g ns M e.f0 e.i w hG hgl hnl hM h1 h3 h5 h6 (hI _) (ht _) (by simpa using hs)
    ·
     exact take_no6 C h g ns M e.f0 e.i w hG hgl hnl hM h1 h3 h5 h6
theorem take_some (M' : Mach) (hhw : h < w.heap.size) (hs : stepM g ns M e = some M') :
  Calls Tryd.prog 52 #[.pointer (some ⟨h, 0, none⟩), .agg #[.int .i64 e.f0, .int .i64 e.f1, .bool e.f2]] w fun r w' => r = .returned (.bool true) ∧ MAt h C M' w' ∧ Below h w w' ∧ Others h w w' := by
 obtain ⟨h0, hor⟩ := stepM_some hs
 obtain ⟨h1, h2, h3⟩ := evIn_num h0
 rw [h2]
 obtain ⟨h4, h5, rfl⟩ | ⟨h4, h5, rfl⟩ := hor
 ·
  unfold mayBegin at h5
  simp only [Bool.and_eq_true, Bool.not_eq_true', decide_eq_true_eq] at h5
  rw [h4]
  exact take_begin C h g ns M e.f0 e.i w hG hgl hnl hM h1 h3 hhw (hx _) h5.1 h5.2
 ·
  unfold mayEnd at h5
  simp only [Bool.and_eq_true, Bool.not_eq_true', decide_eq_true_eq] at h5
  rw [h4]
  exact take_end C h g ns M e.f0 e.i w hG hgl hnl hM h1 h3 hhw h5.1.1 h5.1.2 (hI _) (ht _) h5.2
end
end Go.Proofs.YtlcdffhhimbbmaaDoor
