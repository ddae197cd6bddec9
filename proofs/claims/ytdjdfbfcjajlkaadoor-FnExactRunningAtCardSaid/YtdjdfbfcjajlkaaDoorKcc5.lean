/- Parts of the proof, laid as one text by a program of mine. -/
import Derived.Test.YtdjdfbfcjajlkaaDoorKcc4
import Derived.StillTailTactics
import Derived.Test.YtdjdfbfcjajlkaaDoorKcc3
import Derived.Deep.QuietTactic
import Derived.BigQuiet
namespace Go.Proofs.YtdjdfbfcjajlkaaDoor
set_option linter.unusedVariables false
set_option linter.unusedSimpArgs false
open Go.RowKit Go.Shelf Bits
open Go.Proofs.YtdjdfbfcjajlkaaDoorW.PrintWords Go.Proofs.YtdjdfbfcjajlkaaDoorW.PrintLast Go.Proofs.YtdjdfbfcjajlkaaDoorW.PrintMore
attribute [local go_sem] Oper.semAt_some
def zT (q : Nat) : Value := if q % 4 = 1 then .slice none 0 0 else .int .i64 0
theorem madeT (n : Nat) : madeCells #[Value.int .i64 0, .slice none 0 0, .int .i64 0, .int .i64 0] n = ((List.range n).map zT).toArray := by
 apply Array.ext
 ·
  simp [madeCells]
 ·
  intro i h1 h2
  have h4 : i % 4 = 0 ∨ i % 4 = 1 ∨ i % 4 = 2 ∨ i % 4 = 3 := by omega
  rcases h4 with h | h | h | h <;> simp [madeCells, zT, h]
theorem infoTaskX : (Tryd.prog.info? 58).map (fun i => (i.zero, i.size, i.bytes)) = some (some (.agg #[.int .i64 0, .slice none 0 0, .int .i64 0, .int .i64 0]), 4, 48) := by kernel_rfl
theorem run_makeT (n : Nat) (hn : n ≤ 2000000) (W : World) : (Instr.makeSlice 26 (Value.int IntKind.i64 (n : Int)) (Value.int IntKind.i64 (n : Int))).run Tryd.prog W = .ok (.slice (some ⟨W.heap.size, 0, none⟩) n n) (W.alloc (.cells ((List.range (n * 4)).map zT).toArray 58)) := by
 obtain ⟨i0, hi, hz0, hz1, hz2⟩ := info_parts infoTaskX
 rw [← madeT]
 have := run_make (P := Tryd.prog) W 26 58 i0 (.agg #[.int .i64 0, .slice none 0 0, .int .i64 0, .int .i64 0]) Tryd.underlying26 hi hz0 .i64 .i64 (n : Int) (n : Int) (by omega) (by omega) (by rw [hz2]; omega) (by omega)
 simpa [hz1, Value.cells] using this
def cpyT (g : List Tk) (vs : Nat → Value) (j q : Nat) : Value := if q < j * 4 then cellT g vs q else zT q
theorem cpyT_end (g : List Tk) (vs : Nat → Value) (q : Nat) (h : q < g.length * 4) : cpyT g vs g.length q = cellT g vs q := if_pos h
theorem cpyT_step (g : List Tk) (vs : Nat → Value) (v : Value) (j q : Nat) : (if q = j * 4 + 3 then Value.int .i64 (rdTk g j).f3 else if q = j * 4 + 2 then .int .i64 (rdTk g j).f2 else if q = j * 4 + 1 then v else if q = j * 4 then .int .i64 (rdTk g j).f0 else cpyT g vs j q) = cpyT g (fun x => if x = j then v else vs x) (j + 1) q := by
 obtain ⟨a0, a1, a2, a3⟩ := cellT_at g (fun x => if x = j then v else vs x) j
 unfold cpyT
 by_cases h3 : q = j * 4 + 3
 ·
  rw [if_pos h3, if_pos (by omega), h3, a3]
 rw [if_neg h3]
 by_cases h2 : q = j * 4 + 2
 ·
  rw [if_pos h2, if_pos (by omega), h2, a2]
 rw [if_neg h2]
 by_cases h1 : q = j * 4 + 1
 ·
  rw [if_pos h1, if_pos (by omega), h1, a1, if_pos rfl]
 rw [if_neg h1]
 by_cases h0 : q = j * 4
 ·
  rw [if_pos h0, if_pos (by omega), h0, a0]
 rw [if_neg h0]
 by_cases hl : q < j * 4
 ·
  have e : cellT g vs q = cellT g (fun x => if x = j then v else vs x) q := by
   unfold cellT
   have e1 : (if q / 4 = j then v else vs (q / 4)) = vs (q / 4) := if_neg (by omega)
   show _ = (if q % 4 = 0 then Value.int .i64 (rdTk g (q / 4)).f0 else if q % 4 = 1 then (if q / 4 = j then v else vs (q / 4)) else if q % 4 = 2 then .int .i64 (rdTk g (q / 4)).f2 else .int .i64 (rdTk g (q / 4)).f3)
   rw [e1]
  rw [if_pos hl, if_pos (show q < (j + 1) * 4 by omega), e]
 ·
  rw [if_neg hl, if_neg (show ¬ q < (j + 1) * 4 by omega)]
def NRow (W : World) (lo b : Nat) (g : List Tk) (vs : Nat → Value) (j : Nat) : Prop := ∀ i, i < j → ∃ n, vs i = .slice (some ⟨n, 0, none⟩) (rdTk g i).f1.length (rdTk g i).f1.length ∧ lo ≤ n ∧ n ≠ b ∧ IRow W n (rdTk g i).f1
theorem NRow.keep {W W' : World} {lo b : Nat} {g : List Tk} {vs : Nat → Value} {j : Nat} (h : NRow W lo b g vs j) (hk : ∀ n, n ≠ b → n < W.heap.size → W'.heap[n]? = W.heap[n]?) : NRow W' lo b g vs j := fun i hi => by
 obtain ⟨n, h1, h2, h3, h4⟩ := h i hi
 exact ⟨n, h1, h2, h3, (hk n h3 (blk_lt h4)).trans h4⟩
set_option maxRecDepth 100000 in
set_option maxHeartbeats 4000000 in
theorem toTaskS_calls (A : Option Addr) (c : Nat) (g : List Tk) (hl : g.length ≤ 1048576) (hn : ∀ i, (rdTk g i).f1.length ≤ 1048576) (w : World) (hr : kTk.C w A g.length g) :
  Calls Tryd.prog 16 #[.slice A g.length c] w fun e w' => ∃ b vs, e = .returned (.slice (some ⟨b, 0, none⟩) g.length g.length) ∧ w.heap.size ≤ b ∧ RowV w' b (g.length * 4) 58 (cellT g vs) ∧ NRow w' w.heap.size b g vs g.length ∧ Below w.heap.size w w' := by
 have HR := Lib.hid hr
 have HN := Lib.hid hn
 have hmk := run_makeT g.length (by omega)
 clear hr hn
 go_enter Tryd.func16, Tryd.ntmps16
 go_wp2
 clear hmk
 have hI0 : RowV (w.alloc (.cells ((List.range (g.length * 4)).map zT).toArray 58)) w.heap.size (g.length * 4) 58 (cpyT g (fun _ => .bool false) 0) := by
  have : RowV (w.alloc (.cells ((List.range (g.length * 4)).map zT).toArray 58)) w.heap.size (g.length * 4) 58 zT := World.alloc_heap_new w _
  exact this.congr (fun q _ => (if_neg (by omega)).symm)
 have hB0 : Below w.heap.size w (w.alloc (.cells ((List.range (g.length * 4)).map zT).toArray 58)) := (Below.refl _ _).alloc (Nat.le_refl _) _
 go_loopw [4] (fun i wr => ∃ j vs, j ≤ g.length ∧ i = .int .i64 (j : Nat) ∧ RowV wr w.heap.size (g.length * 4) 58 (cpyT g vs j) ∧ NRow wr w.heap.size w.heap.size g vs j ∧ Below w.heap.size w wr) (fun i _ => g.length - (intOf i).toNat)
 case atStart => exact ⟨0, _, Nat.zero_le _, rfl, hI0, fun i hi => absurd hi (by omega), hB0⟩
 case round =>
  clear hI0 hB0
  obtain ⟨j, vs, hj, rfl, hI, hN, hB⟩ := hrel
  by_cases hjl : j < g.length
  ·
   obtain ⟨ad, A1, c1, rfl, hc0, hc1, hc2, hc3, hlc, hC⟩ := at_Tk (Kd.C_below HR.out hB) j hjl
   have hjj : decide ((j : Int) < (g.length : Int)) = true := decide_eq_true (by omega)
   have hji : (j : Int) < (g.length : Int) := by omega
   have HTT := Lib.hid (fun W (h : Below wr.heap.size wr W) => toTask_calls (rdTk g j).f0 (rdTk g j).f1 (rdTk g j).f2 (rdTk g j).f3 A1 c1 (HN.out j) W (Kd.C_below hC h))
   have HX := Lib.hid (And.intro hI (And.intro hN hB))
   have HST := Lib.hid (cpyT_step g vs)
   generalize hf0 : (rdTk g j).f0 = f0 at hc0 HTT
   generalize hf1 : (rdTk g j).f1 = f1 at hc1 HTT
   generalize hf2 : (rdTk g j).f2 = f2 at hc2 HTT
   generalize hf3 : (rdTk g j).f3 = f3 at hc3 HTT
   have HF := Lib.hid (And.intro hf0 (And.intro hf1 (And.intro hf2 hf3)))
   clear hI hN hB hlc hC hf0 hf1 hf2 hf3
   go_wp2_with (go_at_call 53; refine (HTT.out _ (Below.refl _ _)).mono ?_; rintro e w3 ⟨b, rfl, hb, hI3, hB3⟩; have r3 := blk_frozen (blk_below HX.out.1 hB3); have k0 := (HX.out.1.below hB3).cell (q := j * 4) (by omega); have k1 := (HX.out.1.below hB3).cell (q := j * 4 + 1) (by omega); have k2 := (HX.out.1.below hB3).cell (q := j * 4 + 2) (by omega); have k3 := (HX.out.1.below hB3).cell (q := j * 4 + 3) (by omega); have HY := Lib.hid (And.intro hb (And.intro hI3 hB3)); clear hb hI3 hB3)
   go_roundw
   case rel =>
    obtain ⟨hI, hN, hB⟩ := HX.out
    obtain ⟨hb, hI3, hB3⟩ := HY.out
    obtain ⟨rfl, rfl, rfl, rfl⟩ := HF.out
    have hlt := hI.lt
    have hsz := hB.size
    have hne : b ≠ w.heap.size := by omega
    refine ⟨j + 1, fun x => if x = j then .slice (some ⟨b, 0, none⟩) (rdTk g j).f1.length (rdTk g j).f1.length else vs x, by omega, by go_num, ?_, ?_, ?_⟩
    ·
     exact (((((hI.below hB3).set (j * 4) _).set (j * 4 + 1) _).set (j * 4 + 2) _).set (j * 4 + 3) _).congr (fun q _ => cpyT_step g vs _ j q)
    ·
     intro i hi
     by_cases e : i = j
     ·
      subst e
      exact ⟨b, if_pos rfl, by omega, hne, (((hI3.far (p := ⟨w.heap.size, i * 4, none⟩) hne _).far (p := ⟨w.heap.size, i * 4 + 1, none⟩) hne _).far (p := ⟨w.heap.size, i * 4 + 2, none⟩) hne _).far (p := ⟨w.heap.size, i * 4 + 3, none⟩) hne _⟩
     ·
      obtain ⟨n, h1, h2, h3, h4⟩ := hN i (by omega)
      have h5 : IRow w3 n (rdTk g i).f1 := blk_below h4 hB3
      exact ⟨n, (if_neg e).trans h1, h2, h3, (((h5.far (p := ⟨w.heap.size, j * 4, none⟩) h3 _).far (p := ⟨w.heap.size, j * 4 + 1, none⟩) h3 _).far (p := ⟨w.heap.size, j * 4 + 2, none⟩) h3 _).far (p := ⟨w.heap.size, j * 4 + 3, none⟩) h3 _⟩
    ·
     have h0 := hB.trans (hB3.mono hsz)
     exact (((h0.setCell (p := ⟨w.heap.size, j * 4, none⟩) (Nat.le_refl _) _).setCell (p := ⟨w.heap.size, j * 4 + 1, none⟩) (Nat.le_refl _) _).setCell (p := ⟨w.heap.size, j * 4 + 2, none⟩) (Nat.le_refl _) _).setCell (p := ⟨w.heap.size, j * 4 + 3, none⟩) (Nat.le_refl _) _
   case measure => simp [intOf]; omega
  ·
   obtain rfl : j = g.length := by omega
   have hjj : decide ((g.length : Int) < (g.length : Int)) = false := decide_eq_false (by omega)
   go_wp2
   go_ret
   exact ⟨_, vs, rfl, Nat.le_refl _, hI.congr (fun q hq => cpyT_end g vs q hq), hN, hB⟩
theorem toTaskS_C (A : Option Addr) (c : Nat) (g : List Tk) (hl : g.length ≤ 1048576) (hn : ∀ i, (rdTk g i).f1.length ≤ 1048576) (w : World) (hr : kTk.C w A g.length g) :
  Calls Tryd.prog 16 #[.slice A g.length c] w fun e w' => ∃ b, e = .returned (.slice (some ⟨b, 0, none⟩) g.length g.length) ∧ kTk.C w' (some ⟨b, 0, none⟩) g.length g ∧ Below w.heap.size w w' :=
 (toTaskS_calls A c g hl hn w hr).mono fun e w' ⟨b, vs, h1, h2, h3, h4, h5⟩ => ⟨b, h1, C_of_RowV h3 (by omega) (fun i hi => by
  obtain ⟨n, e1, _, _, e2⟩ := h4 i hi
  exact ⟨_, _, e1, Nat.le_refl _, e2.C (by have := hn i; omega)⟩), h5⟩
theorem toIntS_C (A : Option Addr) (c : Nat) (l : List Int) (hl : l.length ≤ 1048576) (w : World) (hr : (Kd.int .i64).C w A l.length l) :
  Calls Tryd.prog 17 #[.slice A l.length c] w fun e w' => ∃ b, e = .returned (.slice (some ⟨b, 0, none⟩) l.length l.length) ∧ (Kd.int .i64).C w' (some ⟨b, 0, none⟩) l.length l ∧ Below w.heap.size w w' :=
 (toIntS_calls A c l hl w hr).mono fun e w' ⟨b, h1, h2, h3, h4⟩ => ⟨b, h1, h3.C (by omega), h4⟩
def szF (g : List Tk) : Nat → Int
 | 0 => szI 1048576 g.length
 | j + 1 => if szF g j < 0 then -1 else szI (szF g j) (rdTk g j).f1.length
theorem szI_cases (L : Int) (n : Nat) (h0 : 0 ≤ L) : szI L n = -1 ∨ (szI L n = L - n ∧ (n : Int) ≤ L) := by
 unfold szI
 by_cases h : L < (n : Int)
 ·
  exact .inl (if_pos h)
 ·
  exact .inr ⟨if_neg h, by omega⟩
theorem szF_max (g : List Tk) : ∀ j, szF g j ≤ 1048576
 | 0 => by
  rcases szI_cases 1048576 g.length (by omega) with h | h <;> (unfold szF; omega)
 | j + 1 => by
  have ih := szF_max g j
  unfold szF
  by_cases hn : szF g j < 0
  ·
   rw [if_pos hn]; omega
  ·
   rw [if_neg hn]
   rcases szI_cases (szF g j) (rdTk g j).f1.length (by omega) with h | h <;> omega
theorem szF_neg {g : List Tk} {j : Nat} (h : szF g j < 0) : szF g j = -1 := by
 cases j with
 | zero =>
  unfold szF at h ⊢
  rcases szI_cases 1048576 g.length (by omega) with e | e <;> omega
 | succ j =>
  unfold szF at h ⊢
  by_cases hn : szF g j < 0
  ·
   rw [if_pos hn]
  ·
   rw [if_neg hn] at h ⊢
   rcases szI_cases (szF g j) (rdTk g j).f1.length (by omega) with e | e <;> omega
theorem szF_after {g : List Tk} {j : Nat} (h : szF g j < 0) : ∀ d, szF g (j + d) = -1
 | 0 => szF_neg h
 | d + 1 => by
  have := szF_after h d
  show (if szF g (j + d) < 0 then -1 else szI (szF g (j + d)) (rdTk g (j + d)).f1.length) = -1
  rw [if_pos (by omega)]
theorem szF_step {g : List Tk} {j : Nat} (h : 0 ≤ szF g (j + 1)) : 0 ≤ szF g j ∧ ((rdTk g j).f1.length : Int) ≤ szF g j := by
 have h2 := h
 unfold szF at h2
 by_cases hn : szF g j < 0
 ·
  rw [if_pos hn] at h2; omega
 ·
  rw [if_neg hn] at h2
  rcases szI_cases (szF g j) (rdTk g j).f1.length (by omega) with e | e <;> omega
theorem szF_le {g : List Tk} : ∀ j, 0 ≤ szF g j → ∀ i, i < j → 0 ≤ szF g i ∧ ((rdTk g i).f1.length : Int) ≤ 1048576
 | 0, _, i, hi => absurd hi (by omega)
 | j + 1, h, i, hi => by
  have hs := szF_step h
  by_cases e : i = j
  ·
   rw [e]
   have := szF_max g j
   exact ⟨hs.1, by omega⟩
  ·
   exact szF_le j hs.1 i (by omega)
theorem szF_small {g : List Tk} (h : 0 ≤ szF g g.length) : g.length ≤ 1048576 ∧ ∀ i, (rdTk g i).f1.length ≤ 1048576 := by
 constructor
 ·
  have h0 : 0 ≤ szF g 0 := by
   by_cases e : g.length = 0
   ·
    rw [e] at h; exact h
   ·
    exact (szF_le g.length h 0 (by omega)).1
  unfold szF at h0
  rcases szI_cases 1048576 g.length (by omega) with e | e <;> omega
 ·
  intro i
  by_cases hi : i < g.length
  ·
   have := (szF_le g.length h i hi).2
   omega
  ·
   have : rdTk g i = zTk := by
    unfold rdTk
    rw [List.getD_eq_getElem?_getD, List.getElem?_eq_none (by omega)]
    rfl
   rw [this]
   exact Nat.zero_le _
theorem szTask_calls (f0 : Int) (f1 : List Int) (f2 f3 : Int) (A : Option Addr) (c : Nat) (L : Int) (h0 : 0 ≤ L ∧ L ≤ 1048576) (hl : f1.length ≤ 9223372036854775807) (w : World) :
  Calls Tryd.prog 47 #[.agg #[.int .i64 f0, .slice A f1.length c, .int .i64 f2, .int .i64 f3], .int .i64 L] w fun e w' => e = .returned (.int .i64 (szI L f1.length)) ∧ Below w.heap.size w w' := by
 have HSZ := Lib.hid (fun (W : World) => szIntS_calls A c f1 L h0 hl W)
 have hc := szI_cases L f1.length h0.1
 have hcase : szI L f1.length = -1 ∨ 0 ≤ szI L f1.length := by omega
 generalize szI L f1.length = r at HSZ hcase
 have hB0 : Below w.heap.size w (w.alloc (.cells #[.int .i64 f0, .slice A f1.length c, .int .i64 f2, .int .i64 f3] 53)) := (Below.refl _ _).alloc (Nat.le_refl _) _
 have HB0 := Lib.hid hB0
 clear h0 hl hc hB0
 rcases hcase with rfl | hr
 ·
  go_enter Tryd.func47, Tryd.ntmps47
  go_wp2_with (go_at_call 79; refine (HSZ.out _).mono ?_; rintro e w' ⟨rfl, rfl⟩)
  go_ret
  exact ⟨rfl, HB0.out⟩
 ·
  have dn : decide (r < 0) = false := decide_eq_false (by omega)
  clear hr
  go_enter Tryd.func47, Tryd.ntmps47
  go_wp2_with (go_at_call 79; refine (HSZ.out _).mono ?_; rintro e w' ⟨rfl, rfl⟩)
  go_ret
  exact ⟨rfl, HB0.out⟩
set_option maxRecDepth 100000 in
set_option maxHeartbeats 4000000 in
theorem szTaskS_calls (A : Option Addr) (c : Nat) (g : List Tk) (w : World) (hr : kTk.C w A g.length g) :
  Calls Tryd.prog 14 #[.slice A g.length c, .int .i64 1048576] w fun e w' => e = .returned (.int .i64 (szF g g.length)) ∧ Below w.heap.size w w' := by
 have hgm := (C_len hr).2
 have hwr : IntKind.i64.wrap ((1048576 : Int) - (g.length : Int)) = 1048576 - g.length := IntWalk.i64_in _ (by omega)
 by_cases hn : szF g 0 < 0
 ·
  have HF : Hid (szF g g.length = -1) := Lib.hid (by have := szF_after hn g.length; rw [Nat.zero_add] at this; exact this)
  have dn : decide ((1048576 : Int) - (g.length : Int) < 0) = true := by
   apply decide_eq_true
   unfold szF at hn
   rcases szI_cases 1048576 g.length (by omega) with e | e
   ·
    unfold szI at e
    by_cases h : (1048576 : Int) < (g.length : Int)
    ·
     omega
    ·
     rw [if_neg h] at e; omega
   ·
    omega
  clear hn hr hgm
  go_enter Tryd.func14, Tryd.ntmps14
  go_wp2
  go_ret
  exact ⟨ret_int HF.out.symm, Below.refl _ _⟩
 ·
  have h0 : szF g 0 = 1048576 - g.length ∧ (g.length : Int) ≤ 1048576 := by
   unfold szF at hn ⊢
   rcases szI_cases 1048576 g.length (by omega) with e | e
   ·
    omega
   ·
    exact e
  have dn : decide ((1048576 : Int) - (g.length : Int) < 0) = false := decide_eq_false (by omega)
  have HR := Lib.hid hr
  have HS0 := Lib.hid h0.1
  have HN0 := Lib.hid hn
  have hgl := h0.2
  clear hn hr hgm h0
  go_enter Tryd.func14, Tryd.ntmps14
  go_wp2
  clear hwr dn
  go_loopw [1, 5] (fun L i wr => ∃ (j : Nat), j ≤ g.length ∧ i = .int .i64 j ∧ L = .int .i64 (szF g j) ∧ 0 ≤ szF g j ∧ Below w.heap.size w wr) (fun _ i _ => g.length - (intOf i).toNat)
  case atStart => exact ⟨0, Nat.zero_le _, rfl, by rw [HS0.out], by have := HN0.out; omega, Below.refl _ _⟩
  case round =>
   obtain ⟨j, hj, rfl, rfl, hs0, hB⟩ := hrel
   by_cases hjl : j < g.length
   ·
    obtain ⟨ad, A1, c1, rfl, hc0, hc1, hc2, hc3, hlc, hC⟩ := at_Tk (Kd.C_below HR.out hB) j hjl
    have hjj : decide ((j : Int) < (g.length : Int)) = true := decide_eq_true (by omega)
    have hji : (j : Int) < (g.length : Int) := by omega
    have hmx := szF_max g j
    have HE : Hid (szF g (j + 1) = szI (szF g j) (rdTk g j).f1.length) := Lib.hid (if_neg (by omega))
    have HAF := Lib.hid (fun (h : szF g (j + 1) < 0) => szF_after h (g.length - (j + 1)))
    have hfin : j + 1 + (g.length - (j + 1)) = g.length := by omega
    rw [hfin] at HAF
    have HST := Lib.hid (fun (W : World) => szTask_calls (rdTk g j).f0 (rdTk g j).f1 (rdTk g j).f2 (rdTk g j).f3 A1 c1 (szF g j) ⟨hs0, hmx⟩ (C_len hC).2 W)
    rw [← HE.out] at HST
    have hcase : szF g (j + 1) = -1 ∨ 0 ≤ szF g (j + 1) := by
     by_cases h : szF g (j + 1) < 0
     ·
      exact .inl (szF_neg h)
     ·
      exact .inr (by omega)
    generalize hq : szF g (j + 1) = r at HST HAF hcase
    have HQ := Lib.hid hq
    have HB := Lib.hid hB
    generalize (rdTk g j).f0 = f0 at hc0 HST
    generalize (rdTk g j).f1 = f1 at hc1 HST
    generalize (rdTk g j).f2 = f2 at hc2 HST
    generalize (rdTk g j).f3 = f3 at hc3 HST
    generalize szF g j = L at HST ⊢
    clear hq hB hs0 hmx hlc hC hfin
    rcases hcase with rfl | hr0
    ·
     have HFF : Hid (szF g g.length = -1) := Lib.hid (HAF.out (by omega))
     go_wp2_with (go_at_call 47; refine (HST.out _).mono ?_; rintro e w3 ⟨rfl, hB3⟩; have HB := Lib.hid (HB.out.trans (hB3.mono HB.out.size)); clear hB3)
     go_ret
     exact ⟨ret_int HFF.out.symm, HB.out⟩
    ·
     have dn : decide (r < 0) = false := decide_eq_false (by omega)
     have HR0 := Lib.hid hr0
     clear hr0
     go_wp2_with (go_at_call 47; refine (HST.out _).mono ?_; rintro e w3 ⟨rfl, hB3⟩; have HB := Lib.hid (HB.out.trans (hB3.mono HB.out.size)); clear hB3)
     go_roundw
     case rel => exact ⟨j + 1, by omega, by go_num, by rw [HQ.out], by rw [HQ.out]; exact HR0.out, HB.out⟩
     case measure => simp [intOf]; omega
   ·
    obtain rfl : j = g.length := by omega
    have hjj : decide ((g.length : Int) < (g.length : Int)) = false := decide_eq_false (by omega)
    obtain ⟨r, hr⟩ : ∃ r, r = szF g g.length := ⟨_, rfl⟩
    have HF := Lib.hid hr
    rw [← hr]
    clear hs0 hr
    go_wp2
    go_ret
    exact ⟨ret_int HF.out, hB⟩
set_option maxRecDepth 100000 in
set_option maxHeartbeats 4000000 in
theorem eqTask_same (f0 : Int) (f1 : List Int) (f2 f3 : Int) (A : Option Addr) (c : Nat) (B : Option Addr) (d : Nat) (w : World) (hr : (Kd.int .i64).C w A f1.length f1) (hr' : (Kd.int .i64).C w B f1.length f1) :
  Calls Tryd.prog 58 #[.agg #[.int .i64 f0, .slice A f1.length c, .int .i64 f2, .int .i64 f3], .agg #[.int .i64 f0, .slice B f1.length d, .int .i64 f2, .int .i64 f3]] w fun e w' => e = .returned (.bool true) ∧ Below w.heap.size w w' := by
 have HE := Lib.hid (fun (W : World) (hW : Below w.heap.size w W) => eqIntS_same A c f1 B d W (Kd.C_below hr hW) (Kd.C_below hr' hW))
 have d0 : (f0 != f0) = false := bne_self_eq_false _
 have d2 : (f2 != f2) = false := bne_self_eq_false _
 have d3 : (f3 != f3) = false := bne_self_eq_false _
 clear hr hr'
 go_enter Tryd.func58, Tryd.ntmps58
 go_upto_region 3 with (fail)
 generalize hW0 : ((w.alloc (.cells #[.int .i64 f0, .slice A f1.length c, .int .i64 f2, .int .i64 f3] 58)).alloc (.cells #[.int .i64 f0, .slice B f1.length d, .int .i64 f2, .int .i64 f3] 58) : World) = W0
 have b1 : W0.heap[w.heap.size]? = some (.cells #[.int .i64 f0, .slice A f1.length c, .int .i64 f2, .int .i64 f3] 58 (0, 0)) := by
  rw [← hW0]
  exact blk_alloc (World.alloc_heap_new w _) _
 have b2 : W0.heap[w.heap.size + 1]? = some (.cells #[.int .i64 f0, .slice B f1.length d, .int .i64 f2, .int .i64 f3] 58 (0, 0)) := by
  rw [← hW0]
  have h := World.alloc_heap_new (w.alloc (.cells #[.int .i64 f0, .slice A f1.length c, .int .i64 f2, .int .i64 f3] 58)) (.cells #[.int .i64 f0, .slice B f1.length d, .int .i64 f2, .int .i64 f3] 58)
  rw [World.size_alloc] at h
  exact h
 have hB0 : Below w.heap.size w W0 := by
  rw [← hW0]
  exact ((Below.refl _ w).alloc (Nat.le_refl _) _).alloc (by simp) _
 clear hW0
 have HB0 := Lib.hid hB0
 have HE2 := Lib.hid (HE.out W0 hB0)
 have k11 : W0.cell? ⟨w.heap.size, 1, none⟩ = some (.slice A f1.length c) := (blk_cell b1 1).trans rfl
 have k21 : W0.cell? ⟨w.heap.size + 1, 1, none⟩ = some (.slice B f1.length d) := (blk_cell b2 1).trans rfl
 have HBL := Lib.hid (And.intro b1 b2)
 clear b1 b2 hB0
 go_wp2_with (go_at_call 20; refine HE2.out.mono ?_; rintro e w3 ⟨rfl, hB3⟩; have k12 := (blk_cell (blk_below HBL.out.1 hB3) 2).trans rfl; have k13 := (blk_cell (blk_below HBL.out.1 hB3) 3).trans rfl; have k22 := (blk_cell (blk_below HBL.out.2 hB3) 2).trans rfl; have k23 := (blk_cell (blk_below HBL.out.2 hB3) 3).trans rfl; have HB3 := Lib.hid (HB0.out.trans (hB3.mono HB0.out.size)); clear hB3)
 go_ret
 exact ⟨rfl, HB3.out⟩
set_option maxRecDepth 100000 in
set_option maxHeartbeats 4000000 in
theorem eqTaskS_same (A : Option Addr) (c : Nat) (g : List Tk) (B : Option Addr) (d : Nat) (w : World) (hr : kTk.C w A g.length g) (hr' : kTk.C w B g.length g) :
  Calls Tryd.prog 19 #[.slice A g.length c, .slice B g.length d] w fun e w' => e = .returned (.bool true) ∧ Below w.heap.size w w' := by
 have HR := Lib.hid hr
 have HR' := Lib.hid hr'
 have hla := (C_len hr).2
 clear hr hr'
 have dl : ((g.length : Int) != (g.length : Int)) = false := bne_self_eq_false _
 go_enter Tryd.func19, Tryd.ntmps19
 go_wp2
 clear dl
 go_loopw [5] (fun i wr => ∃ j, j ≤ g.length ∧ i = .int .i64 (j : Nat) ∧ Below w.heap.size w wr) (fun i _ => g.length - (intOf i).toNat)
 case atStart => exact ⟨0, Nat.zero_le _, rfl, Below.refl _ _⟩
 case round =>
  obtain ⟨j, hj, rfl, hB⟩ := hrel
  by_cases hjl : j < g.length
  ·
   have hjj : decide ((j : Int) < (g.length : Int)) = true := decide_eq_true (by omega)
   have hji : (j : Int) < (g.length : Int) := by omega
   obtain ⟨ad, A1, c1, rfl, hc0, hc1, hc2, hc3, _, hC⟩ := at_Tk (Kd.C_below HR.out hB) j hjl
   obtain ⟨bd, B1, e1, rfl, hd0, hd1, hd2, hd3, _, hD⟩ := at_Tk (Kd.C_below HR'.out hB) j hjl
   have HE := Lib.hid (fun (W : World) (hW : Below wr.heap.size wr W) => eqTask_same (rdTk g j).f0 (rdTk g j).f1 (rdTk g j).f2 (rdTk g j).f3 A1 c1 B1 e1 W (Kd.C_below hC hW) (Kd.C_below hD hW))
   generalize (rdTk g j).f0 = f0 at hc0 hd0 HE
   generalize (rdTk g j).f1 = f1 at hc1 hd1 HE
   generalize (rdTk g j).f2 = f2 at hc2 hd2 HE
   generalize (rdTk g j).f3 = f3 at hc3 hd3 HE
   have HB := Lib.hid hB
   clear hB hC hD
   go_wp2
   go_still_tail 8, mixed
   go_wp2_with (go_at_call 58; refine (HE.out wr.drew (Below.refl _ _).drew).mono ?_; rintro e w3 ⟨rfl, hB3⟩; have HB := Lib.hid (HB.out.drew.trans (hB3.mono HB.out.size)); clear hB3)
   go_roundw
   case rel => exact ⟨j + 1, by omega, by go_num, by repeat (first | exact HB.out | apply pw_below_drewN)⟩
   case measure => simp [intOf]; omega
  ·
   obtain rfl : j = g.length := by omega
   have hjj : decide ((g.length : Int) < (g.length : Int)) = false := decide_eq_false (by omega)
   go_wp2
   go_ret
   exact ⟨rfl, hB⟩
end Go.Proofs.YtdjdfbfcjajlkaaDoor

namespace Go.Proofs.YtdjdfbfcjajlkaaDoor
set_option linter.unusedVariables false
set_option linter.unusedSimpArgs false
open Go.RowKit Go.Shelf Bits
open Go.Proofs.YtdjdfbfcjajlkaaDoorW.PrintWords Go.Proofs.YtdjdfbfcjajlkaaDoorW.PrintLast Go.Proofs.YtdjdfbfcjajlkaaDoorW.PrintMore
attribute [local go_sem] Oper.semAt_some
structure OnlyP (P : Nat → Prop) (w w' : World) : Prop where
 os : w'.os = w.os
 tape : w'.tape = w.tape
 output : w'.output = w.output
 size : w'.heap.size = w.heap.size
 block : ∀ q, ¬ P q → w'.heap[q]? = w.heap[q]?
 shape : ∀ (q : Nat) (cells : Array Value) (T : TypeId), w.heap[q]? = some (Obj.cells cells T (0, 0)) → ∃ cells' : Array Value, w'.heap[q]? = some (Obj.cells cells' T (0, 0)) ∧ cells'.size = cells.size
theorem OnlyP.refl (P : Nat → Prop) (w : World) : OnlyP P w w := ⟨rfl, rfl, rfl, rfl, fun _ _ => rfl, fun _ cells _ h => ⟨cells, h, rfl⟩⟩
theorem OnlyP.trans {P : Nat → Prop} {a b c : World} (h : OnlyP P a b) (k : OnlyP P b c) : OnlyP P a c :=
 ⟨k.os.trans h.os, k.tape.trans h.tape, k.output.trans h.output, k.size.trans h.size, fun q hq => (k.block q hq).trans (h.block q hq), fun q cells T hq => by
  obtain ⟨c1, h1, h2⟩ := h.shape q cells T hq
  obtain ⟨c2, k1, k2⟩ := k.shape q c1 T h1
  exact ⟨c2, k1, k2.trans h2⟩⟩
theorem OnlyP.mono {P Q : Nat → Prop} {a b : World} (h : OnlyP P a b) (hPQ : ∀ q, P q → Q q) : OnlyP Q a b :=
 ⟨h.os, h.tape, h.output, h.size, fun q hq => h.block q (fun hp => hq (hPQ q hp)), h.shape⟩
theorem OnlyP.below {P : Nat → Prop} {a b : World} (h : OnlyP P a b) {B : Nat} (hB : ∀ q, P q → B ≤ q) : Below B a b :=
 ⟨h.os, h.tape, h.output, by rw [h.size]; exact Nat.le_refl _, fun q hq => h.block q (fun hp => by have := hB q hp; omega)⟩
theorem OnlyP.set {P : Nat → Prop} {a b : World} (h : OnlyP P a b) {q : Nat} (hq : P q) (i : Nat) (v : Value) : OnlyP P a (b.setCell ⟨q, i, none⟩ v) :=
 h.trans ⟨rfl, rfl, rfl, by simp [World.setCell], fun r hr => Below.heap_setCell _ _ _ _ (by intro e; exact hr (by rw [e]; exact hq)), fun r cells T hr => by
  by_cases e : r = q
  ·
   subst e
   exact ⟨_, blk_set hr i v, by simp⟩
  ·
   exact ⟨cells, blk_far hr (p := ⟨q, i, none⟩) e v, rfl⟩⟩
theorem OnlyP.drew {P : Nat → Prop} {a b : World} (h : OnlyP P a b) : OnlyP P a b.drew := ⟨h.os, h.tape, h.output, h.size, h.block, h.shape⟩
def MRow (W : World) (A : Option Addr) (n sz lo hi : Nat) (T : TypeId) : Prop := n = 0 ∨ ∃ b cells, A = some ⟨b, 0, none⟩ ∧ lo ≤ b ∧ b < hi ∧ W.heap[b]? = some (.cells cells T (0, 0)) ∧ n * sz ≤ cells.size
theorem MRow.only {W W' : World} {A : Option Addr} {n sz lo hi : Nat} {T : TypeId} (h : MRow W A n sz lo hi T) {P : Nat → Prop} (hp : OnlyP P W W') : MRow W' A n sz lo hi T := by
 rcases h with h | ⟨b, cells, h1, h2, h3, h4, h5⟩
 ·
  exact .inl h
 ·
  obtain ⟨c', k1, k2⟩ := hp.shape b cells T h4
  exact .inr ⟨b, c', h1, h2, h3, k1, by omega⟩
theorem MRow.below {W W' : World} {A : Option Addr} {n sz lo hi : Nat} {T : TypeId} (h : MRow W A n sz lo hi T) (hb : Below W.heap.size W W') : MRow W' A n sz lo hi T := by
 rcases h with h | ⟨b, cells, h1, h2, h3, h4, h5⟩
 ·
  exact .inl h
 ·
  exact .inr ⟨b, cells, h1, h2, h3, blk_below h4 hb, h5⟩
theorem MRow.wide {W : World} {A : Option Addr} {n sz lo hi lo' hi' : Nat} {T : TypeId} (h : MRow W A n sz lo hi T) (h1 : lo' ≤ lo) (h2 : hi ≤ hi') : MRow W A n sz lo' hi' T := by
 rcases h with h | ⟨b, cells, k1, k2, k3, k4, k5⟩
 ·
  exact .inl h
 ·
  exact .inr ⟨b, cells, k1, by omega, by omega, k4, k5⟩
theorem MRow.of_IRow {W : World} {b : Nat} {xs : List Int} (h : IRow W b xs) {lo : Nat} (hl : lo ≤ b) : MRow W (some ⟨b, 0, none⟩) xs.length 1 lo W.heap.size 3 :=
 .inr ⟨b, _, rfl, hl, blk_lt h, h, by simp⟩
theorem MRow.of_own {W : World} {base : Nat} {T : TypeId} {sz : Nat} {A : Option Addr} {n c : Nat} {xs : List Value} (h : W.ownsRow base T sz (.slice A n c) n xs) : MRow W A n sz base W.heap.size T := by
 obtain ⟨_, h | ⟨g, cap, cur, e, hb, hh, h1, h2, h3, h4⟩⟩ := h
 ·
  exact .inl h.2
 ·
  injection e with e1 e2 e3
  exact .inr ⟨g, cur, e1, hb, blk_lt hh, hh, by rw [h3]; exact Nat.mul_le_mul_right _ h1⟩
def HeldI (W : World) (A : Option Addr) (k : Int) (n : Nat) : Prop := n = 0 ∨ ∃ b cells, A = some ⟨b, 0, none⟩ ∧ W.heap[b]? = some (.cells cells 3 (0, 0)) ∧ ∀ i, i < n → cells[i]? = some (.int .i64 (k + (i : Nat)))
theorem HeldI.below {W W' : World} {A : Option Addr} {k : Int} {n : Nat} (h : HeldI W A k n) (hb : Below W.heap.size W W') : HeldI W' A k n := by
 rcases h with h | ⟨b, cells, h1, h2, h3⟩
 ·
  exact .inl h
 ·
  exact .inr ⟨b, cells, h1, blk_below h2 hb, h3⟩
set_option maxRecDepth 100000 in
set_option maxHeartbeats 2000000 in
theorem markIntS_calls (A : Option Addr) (n c : Nat) (k : Int) (lo hi : Nat) (w : World) (h : MRow w A n 1 lo hi 3) (hk : 0 ≤ k ∧ k + n ≤ 9000000000000000000) :
  Calls Tryd.prog 24 #[.slice A n c, .int .i64 k] w fun e w' => e = .returned (.int .i64 (k + n)) ∧ HeldI w' A k n ∧ OnlyP (fun q => ∃ a, A = some a ∧ q = a.block ∧ lo ≤ q ∧ q < hi) w w' := by
 rcases h with rfl | ⟨b, cells, rfl, hlo, hhi, hb, hsz⟩
 ·
  have d0 : decide (((0 : Nat) : Int) < ((0 : Nat) : Int)) = false := by decide
  clear hk
  go_enter Tryd.func24, Tryd.ntmps24
  go_wp2
  go_loopw [1, 5] (fun K i wr => K = .int .i64 k ∧ i = .int .i64 0 ∧ wr = w) (fun _ _ _ => 0)
  case atStart => exact ⟨rfl, rfl, rfl⟩
  case round =>
   obtain ⟨rfl, rfl, rfl⟩ := hrel
   go_wp2
   go_ret
   exact ⟨by simp, .inl rfl, OnlyP.refl _ _⟩
 ·
  have hsz' : n ≤ cells.size := by omega
  have HB := Lib.hid hb
  have HP := Lib.hid (And.intro hlo hhi)
  clear hlo hhi hb hsz
  go_enter Tryd.func24, Tryd.ntmps24
  go_wp2
  go_loopw [1, 5] (fun K i wr => ∃ (j : Nat) (cl : Array Value), j ≤ n ∧ i = .int .i64 j ∧ K = .int .i64 (k + (j : Nat)) ∧ wr.heap[b]? = some (.cells cl 3 (0, 0)) ∧ cl.size = cells.size ∧ (∀ i, i < j → cl[i]? = some (.int .i64 (k + (i : Nat)))) ∧ OnlyP (fun q => q = b) w wr) (fun _ i _ => n - (intOf i).toNat)
  case atStart => exact ⟨0, cells, Nat.zero_le _, rfl, by simp, HB.out, rfl, fun i hi => absurd hi (by omega), OnlyP.refl _ _⟩
  case round =>
   obtain ⟨j, cl, hj, rfl, rfl, hb, hcs, hcl, hO⟩ := hrel
   by_cases hjl : j < n
   ·
    have hjj : decide ((j : Int) < (n : Int)) = true := decide_eq_true (by omega)
    have hji : (j : Int) < (n : Int) := by omega
    have hjs : j < cl.size := by omega
    have cr : wr.cell? ⟨b, j, none⟩ = some (cl[j]'hjs) := (blk_cell hb j).trans (by simp [hjs])
    have fr := blk_frozen hb j
    generalize cl[j]'hjs = old at cr
    have HX := Lib.hid (And.intro hb (And.intro hcs (And.intro hcl hO)))
    clear hb hcs hcl hO
    obtain ⟨kj, hkj⟩ : ∃ kj, kj = k + (j : Nat) := ⟨_, rfl⟩
    rw [← hkj]
    have HKJ := Lib.hid hkj
    have hwr : IntKind.i64.wrap (kj + 1) = kj + 1 := IntWalk.i64_in _ (by omega)
    clear hkj
    go_wp2
    clear hwr
    go_roundw
    case rel =>
     obtain ⟨hb, hcs, hcl, hO⟩ := HX.out
     have hkj := HKJ.out
     have hs := blk_set hb j (.int .i64 kj)
     refine ⟨j + 1, _, by omega, by go_num, by rw [hkj]; congr 1; push_cast; omega, hs, by simpa using hcs, fun i hi => ?_, hO.set rfl j _⟩
     by_cases e : i = j
     ·
      subst e
      rw [hkj]
      simp [hjs]
     ·
      have := hcl i (by omega)
      rw [← this]
      simp [Array.getElem?_setIfInBounds, Ne.symm e]
    case measure => simp [intOf]; omega
   ·
    obtain rfl : j = n := by omega
    have hjj : decide ((j : Int) < (j : Int)) = false := decide_eq_false (by omega)
    have HX := Lib.hid (And.intro hb (And.intro hcl hO))
    clear hb hcs hcl hO
    go_wp2
    go_ret
    obtain ⟨hb, hcl, hO⟩ := HX.out
    exact ⟨rfl, .inr ⟨b, cl, rfl, hb, hcl⟩, hO.mono (fun q hq => ⟨_, rfl, hq, by rw [hq]; exact HP.out.1, by rw [hq]; exact HP.out.2⟩)⟩
set_option maxRecDepth 100000 in
set_option maxHeartbeats 2000000 in
theorem heldIntS_calls (A : Option Addr) (n c : Nat) (k : Int) (w : World) (h : HeldI w A k n) (hk : 0 ≤ k ∧ k + n ≤ 9000000000000000000) :
  Calls Tryd.prog 25 #[.slice A n c, .int .i64 k] w fun e w' => e = .returned (.int .i64 (k + n)) ∧ Below w.heap.size w w' := by
 rcases h with rfl | ⟨b, cells, rfl, hb, hcl⟩
 ·
  have d0 : decide (((0 : Nat) : Int) < ((0 : Nat) : Int)) = false := by decide
  clear hk
  go_enter Tryd.func25, Tryd.ntmps25
  go_wp2
  go_loopw [1, 5] (fun K i wr => K = .int .i64 k ∧ i = .int .i64 0 ∧ wr = w) (fun _ _ _ => 0)
  case atStart => exact ⟨rfl, rfl, rfl⟩
  case round =>
   obtain ⟨rfl, rfl, rfl⟩ := hrel
   go_wp2
   go_ret
   exact ⟨by simp, Below.refl _ _⟩
 ·
  have HX := Lib.hid (And.intro hb hcl)
  clear hb hcl
  go_enter Tryd.func25, Tryd.ntmps25
  go_wp2
  go_loopw [1, 5] (fun K i wr => ∃ (j : Nat), j ≤ n ∧ i = .int .i64 j ∧ K = .int .i64 (k + (j : Nat)) ∧ Below w.heap.size w wr) (fun _ i _ => n - (intOf i).toNat)
  case atStart => exact ⟨0, Nat.zero_le _, rfl, by simp, Below.refl _ _⟩
  case round =>
   obtain ⟨j, hj, rfl, rfl, hB⟩ := hrel
   by_cases hjl : j < n
   ·
    have hjj : decide ((j : Int) < (n : Int)) = true := decide_eq_true (by omega)
    have hji : (j : Int) < (n : Int) := by omega
    have cr : wr.cell? ⟨b, j, none⟩ = some (.int .i64 (k + (j : Nat))) := (blk_cell (blk_below HX.out.1 hB) j).trans (HX.out.2 j hjl)
    have HB := Lib.hid hB
    obtain ⟨kj, hkj⟩ : ∃ kj, kj = k + (j : Nat) := ⟨_, rfl⟩
    rw [← hkj] at cr ⊢
    have HKJ := Lib.hid hkj
    have hwr : IntKind.i64.wrap (kj + 1) = kj + 1 := IntWalk.i64_in _ (by omega)
    have dn : (kj != kj) = false := bne_self_eq_false _
    clear hkj hB
    go_wp2
    clear hwr
    go_roundw
    case rel => exact ⟨j + 1, by omega, by go_num, by rw [HKJ.out]; congr 1; push_cast; omega, by repeat (first | exact HB.out | apply pw_below_drewN)⟩
    case measure => simp [intOf]; omega
   ·
    obtain rfl : j = n := by omega
    have hjj : decide ((j : Int) < (j : Int)) = false := decide_eq_false (by omega)
    go_wp2
    go_ret
    exact ⟨rfl, hB⟩
end Go.Proofs.YtdjdfbfcjajlkaaDoor

namespace Go.Proofs.YtdjdfbfcjajlkaaDoor
set_option linter.unusedVariables false
set_option linter.unusedSimpArgs false
open Go.RowKit Go.Shelf Bits
open Go.Proofs.YtdjdfbfcjajlkaaDoorW.PrintWords Go.Proofs.YtdjdfbfcjajlkaaDoorW.PrintLast Go.Proofs.YtdjdfbfcjajlkaaDoorW.PrintMore
attribute [local go_sem] Oper.semAt_some
def TNeeds (W : World) (b n lo hi : Nat) (f : Nat → Value) : Prop := ∀ i, i < n → ∃ A' c L, f (i * 4 + 1) = .slice A' L c ∧ L ≤ 1048576 ∧ MRow W A' L 1 lo hi 3 ∧ ∀ a, A' = some a → a.block ≠ b
def TOwn (W : World) (A : Option Addr) (n lo hi : Nat) : Prop := ∃ b f, A = some ⟨b, 0, none⟩ ∧ lo ≤ b ∧ b < hi ∧ RowV W b (n * 4) 58 f ∧ TNeeds W b n lo hi f
theorem TOwn.below {W W' : World} {A : Option Addr} {n lo hi : Nat} (h : TOwn W A n lo hi) (hb : Below W.heap.size W W') : TOwn W' A n lo hi := by
 obtain ⟨b, f, h1, h2, h3, h4, h5⟩ := h
 refine ⟨b, f, h1, h2, h3, h4.below hb, fun i hi => ?_⟩
 obtain ⟨A', c, L, k1, k2, k3, k4⟩ := h5 i hi
 exact ⟨A', c, L, k1, k2, k3.below hb, k4⟩
theorem TOwn.wide {W : World} {A : Option Addr} {n lo hi lo' hi' : Nat} (h : TOwn W A n lo hi) (h1 : lo' ≤ lo) (h2 : hi ≤ hi') : TOwn W A n lo' hi' := by
 obtain ⟨b, f, k1, k2, k3, k4, k5⟩ := h
 refine ⟨b, f, k1, by omega, by omega, k4, fun i hi => ?_⟩
 obtain ⟨A', c, L, j1, j2, j3, j4⟩ := k5 i hi
 exact ⟨A', c, L, j1, j2, j3.wide h1 h2, j4⟩
theorem TOwn.of_copy {W : World} {b lo : Nat} {g : List Tk} {vs : Nat → Value} (h : RowV W b (g.length * 4) 58 (cellT g vs)) (hn : NRow W lo b g vs g.length) (hlo : lo ≤ b) (hl : ∀ i, (rdTk g i).f1.length ≤ 1048576) : TOwn W (some ⟨b, 0, none⟩) g.length lo W.heap.size := by
 refine ⟨b, _, rfl, hlo, h.lt, h, fun i hi => ?_⟩
 obtain ⟨n, h1, h2, h3, h4⟩ := hn i hi
 refine ⟨_, _, _, (cellT_at g vs i).2.1.trans h1, hl i, MRow.of_IRow h4 h2, fun a ha => ?_⟩
 injection ha with ha
 rw [← ha]
 exact h3
set_option maxRecDepth 100000 in
set_option maxHeartbeats 4000000 in
theorem markTaskS_calls (A : Option Addr) (n c : Nat) (k : Int) (lo hi : Nat) (w : World) (h : TOwn w A n lo hi) (hn : n ≤ 1048576) (hk : 0 ≤ k ∧ k ≤ 3000000) :
  Calls Tryd.prog 23 #[.slice A n c, .int .i64 k] w fun e w' => ∃ K : Int, e = .returned (.int .i64 K) ∧ (0 ≤ K ∧ K ≤ 9000000000000) ∧ OnlyP (fun q => lo ≤ q ∧ q < hi) w w' := by
 obtain ⟨b, f, rfl, hlo, hhi, hR, hN⟩ := h
 have HX0 := Lib.hid (And.intro hR (And.intro hN (And.intro hlo hhi)))
 clear hR hN hlo hhi
 go_enter Tryd.func23, Tryd.ntmps23
 go_wp2
 go_loopw [1, 5] (fun K i wr => ∃ (j : Nat) (k : Int) (f : Nat → Value), j ≤ n ∧ i = .int .i64 j ∧ K = .int .i64 k ∧ (0 ≤ k ∧ k ≤ 3000000 + 3000000 * (j : Nat)) ∧ RowV wr b (n * 4) 58 f ∧ TNeeds wr b n lo hi f ∧ OnlyP (fun q => lo ≤ q ∧ q < hi) w wr) (fun _ i _ => n - (intOf i).toNat)
 case atStart => exact ⟨0, k, f, Nat.zero_le _, rfl, rfl, by omega, HX0.out.1, HX0.out.2.1, OnlyP.refl _ _⟩
 case round =>
  clear hk k
  obtain ⟨j, k, f, hj, rfl, rfl, hk, hR, hN, hO⟩ := hrel
  by_cases hjl : j < n
  ·
   have hjj : decide ((j : Int) < (n : Int)) = true := decide_eq_true (by omega)
   have hji : (j : Int) < (n : Int) := by omega
   obtain ⟨A1, c1, L, e1, hL, hM, hne⟩ := hN j hjl
   have hPb : lo ≤ b ∧ b < hi := HX0.out.2.2
   have c0 := hR.cell (q := j * 4) (by omega)
   have r0 := hR.frozen
   have hR1 := hR.set (j * 4) (.int .i64 k)
   have hO1 : OnlyP (fun q => lo ≤ q ∧ q < hi) w (wr.setCell ⟨b, j * 4, none⟩ (.int .i64 k)) := hO.set hPb _ _
   have hOs : OnlyP (fun q => lo ≤ q ∧ q < hi) wr (wr.setCell ⟨b, j * 4, none⟩ (.int .i64 k)) := (OnlyP.refl _ wr).set hPb _ _
   have hM1 := hM.only hOs
   have k1 : (wr.setCell ⟨b, j * 4, none⟩ (.int .i64 k)).cell? ⟨b, j * 4 + 1, none⟩ = some (.slice A1 L c1) := by
    rw [hR1.cell (q := j * 4 + 1) (by omega)]
    exact congrArg some ((if_neg (by omega)).trans e1)
   obtain ⟨K1, hK1⟩ : ∃ K1 : Int, K1 = k + 1 + (L : Nat) := ⟨_, rfl⟩
   have HMK := Lib.hid (markIntS_calls A1 L c1 (k + 1) lo hi _ hM1 (by omega))
   rw [← hK1] at HMK
   have HK1 := Lib.hid hK1
   have HX := Lib.hid (And.intro hR1 (And.intro hN (And.intro hO1 (And.intro hOs hne))))
   have hw1 : IntKind.i64.wrap (k + 1) = k + 1 := IntWalk.i64_in _ (by clear hK1; omega)
   have hw2 : IntKind.i64.wrap (K1 + 1) = K1 + 1 := IntWalk.i64_in _ (by clear hw1; omega)
   have hw3 : IntKind.i64.wrap (K1 + 1 + 1) = K1 + 1 + 1 := IntWalk.i64_in _ (by clear hw1 hw2; omega)
   clear hR1 hN hO1 hOs hne hM hM1 hO hR hK1 e1 hPb
   generalize f (j * 4) = old at c0
   go_wp2_with (go_at_call 24; refine HMK.out.mono ?_; rintro e W2 ⟨rfl, hH, hO2⟩; have hR2 : RowV W2 b (n * 4) 58 _ := HX.out.1.block (hO2.block b (fun ⟨a, ha, hb, _⟩ => HX.out.2.2.2.2 a ha hb.symm)); have c2 := hR2.cell (q := j * 4 + 2) (by omega); have r2 := hR2.frozen; have hR3 := hR2.set (j * 4 + 2) (.int .i64 (K1)); have c3 := hR3.cell (q := j * 4 + 3) (by omega); have r3 := hR3.frozen; have HY := Lib.hid (And.intro hR3 hO2); clear hR2 hR3 hH hO2)
   go_roundw
   case rel =>
    obtain ⟨hR1, hN, hO1, hOs, hne⟩ := HX.out
    obtain ⟨hR3, hO2⟩ := HY.out
    have hPb : lo ≤ b ∧ b < hi := HX0.out.2.2
    have hk1 := HK1.out
    have hO2' : OnlyP (fun q => lo ≤ q ∧ q < hi) (wr.setCell ⟨b, j * 4, none⟩ (.int .i64 k)) W2 := hO2.mono (fun q ⟨a, _, _, h1, h2⟩ => ⟨h1, h2⟩)
    have hO4 : OnlyP (fun q => lo ≤ q ∧ q < hi) wr ((W2.setCell ⟨b, j * 4 + 2, none⟩ (.int .i64 K1)).setCell ⟨b, j * 4 + 3, none⟩ (.int .i64 (K1 + 1))) := ((hOs.trans hO2').set hPb _ _).set hPb _ _
    clear hw1 hw2 hw3
    refine ⟨j + 1, K1 + 1 + 1, _, by omega, by go_num, rfl, by push_cast; omega, hR3.set (j * 4 + 3) (.int .i64 (K1 + 1)), ?_, ((hO1.trans hO2').set hPb _ _).set hPb _ _⟩
    intro i hi
    obtain ⟨A', c, L', e1, hL', hM, hne'⟩ := hN i hi
    refine ⟨A', c, L', ?_, hL', hM.only hO4, hne'⟩
    show (if i * 4 + 1 = j * 4 + 3 then _ else if i * 4 + 1 = j * 4 + 2 then _ else if i * 4 + 1 = j * 4 then _ else f (i * 4 + 1)) = _
    rw [if_neg (by omega), if_neg (by omega), if_neg (by omega)]
    exact e1
   case measure => clear hw1 hw2 hw3; simp [intOf]; omega
  ·
   obtain rfl : j = n := by omega
   have hjj : decide ((j : Int) < (j : Int)) = false := decide_eq_false (by omega)
   go_wp2
   go_ret
   exact ⟨k, rfl, by omega, hO⟩
theorem toTaskS_T (A : Option Addr) (c : Nat) (g : List Tk) (hl : g.length ≤ 1048576) (hn : ∀ i, (rdTk g i).f1.length ≤ 1048576) (w : World) (hr : kTk.C w A g.length g) :
  Calls Tryd.prog 16 #[.slice A g.length c] w fun e w' => ∃ b, e = .returned (.slice (some ⟨b, 0, none⟩) g.length g.length) ∧ kTk.C w' (some ⟨b, 0, none⟩) g.length g ∧ TOwn w' (some ⟨b, 0, none⟩) g.length w.heap.size w'.heap.size ∧ Below w.heap.size w w' :=
 (toTaskS_calls A c g hl hn w hr).mono fun e w' ⟨b, vs, h1, h2, h3, h4, h5⟩ => ⟨b, h1, C_of_RowV h3 (by omega) (fun i hi => by
  obtain ⟨n, e1, _, _, e2⟩ := h4 i hi
  exact ⟨_, _, e1, Nat.le_refl _, e2.C (by have := hn i; omega)⟩), TOwn.of_copy h3 h4 h2 hn, h5⟩
theorem toIntS_T (A : Option Addr) (c : Nat) (l : List Int) (hl : l.length ≤ 1048576) (w : World) (hr : (Kd.int .i64).C w A l.length l) :
  Calls Tryd.prog 17 #[.slice A l.length c] w fun e w' => ∃ b, e = .returned (.slice (some ⟨b, 0, none⟩) l.length l.length) ∧ (Kd.int .i64).C w' (some ⟨b, 0, none⟩) l.length l ∧ MRow w' (some ⟨b, 0, none⟩) l.length 1 w.heap.size w'.heap.size 3 ∧ Below w.heap.size w w' :=
 (toIntS_calls A c l hl w hr).mono fun e w' ⟨b, h1, h2, h3, h4⟩ => ⟨b, h1, h3.C (by omega), MRow.of_IRow h3 h2, h4⟩
theorem R_ge {α : Type} {d : Kd α} {e base : Nat} {ok : Nat → Prop} {w : World} {v : Value} {xs : List α} (h : d.R e w base ok v xs) : d.R e w base (fun k => base ≤ k) v xs := Kd.R_mono (Kd.R_bound h) (fun _ hk => hk.2.1)
theorem R_only {α : Type} {d : Kd α} {e base : Nat} {w w' : World} {v : Value} {xs : List α} {P : Nat → Prop} (h : d.R e w base (fun k => base ≤ k) v xs) (ho : OnlyP P w w') (hP : ∀ q, P q → q < base) : d.R e w' base (fun k => base ≤ k) v xs :=
 Kd.R_step h (fun k hk _ => ho.block k (fun hp => by have := hP k hp; omega))
theorem MRow.of_R {e base : Nat} {ok : Nat → Prop} {w : World} {A : Option Addr} {n c : Nat} {xs : List Int} (h : (Kd.int .i64).R e w base ok (.slice A n c) xs) : MRow w A n 1 base w.heap.size e := by
 obtain ⟨hn, _, _⟩ := Kd.R_reads' h
 obtain ⟨inner, ho⟩ := Kd.R_own h
 rw [← hn] at ho
 exact MRow.of_own ho
end Go.Proofs.YtdjdfbfcjajlkaaDoor

namespace Go.Proofs.YtdjdfbfcjajlkaaDoor
set_option linter.unusedVariables false
set_option linter.unusedSimpArgs false
open Go.RowKit Go.Shelf Bits
open Go.Proofs.YtdjdfbfcjajlkaaDoorW.PrintWords Go.Proofs.YtdjdfbfcjajlkaaDoorW.PrintLast Go.Proofs.YtdjdfbfcjajlkaaDoorW.PrintMore
attribute [local go_sem] Oper.semAt_some
structure Ct where
 t : Int
 u : Nat → Int
def Ct.zero : Ct := ⟨0, fun _ => 0⟩
def Ct.add (c : Ct) (p : Nat) (x s : Int) : Ct := ⟨c.t + s, fun j => if j = p then c.u j + s * x else c.u j⟩
def CAt (W : World) (b : Nat) (c : Ct) : Prop := W.heap[b]? = some (.cells #[.int .i64 c.t, .int .i64 (c.u 0), .int .i64 (c.u 1), .int .i64 (c.u 2)] 101 (0, 0))
theorem CAt.lt {W : World} {b : Nat} {c : Ct} (h : CAt W b c) : b < W.heap.size := blk_lt h
theorem CAt.below {W W' : World} {b : Nat} {c : Ct} (h : CAt W b c) (hb : Below W.heap.size W W') : CAt W' b c := (hb.block b h.lt).trans h
theorem CAt.cell {W : World} {b : Nat} {c : Ct} (h : CAt W b c) (p : Nat) (hp : p < 3) : W.cell? ⟨b, 1 + p, none⟩ = some (.int .i64 (c.u p)) := by
 rw [blk_cell h]
 rcases p with _ | _ | _ | p
 ·
  simp
 ·
  simp
 ·
  simp
 ·
  omega
theorem CAt.setT {W : World} {b : Nat} {c : Ct} (h : CAt W b c) (v : Int) : CAt (W.setCell ⟨b, 0, none⟩ (.int .i64 v)) b ⟨v, c.u⟩ := by
 have h1 := blk_set h 0 (.int .i64 v)
 unfold CAt
 rw [h1]
 simp
theorem CAt.setU {W : World} {b : Nat} {c : Ct} (h : CAt W b c) (p : Nat) (hp : p < 3) (v : Int) : CAt (W.setCell ⟨b, 1 + p, none⟩ (.int .i64 v)) b ⟨c.t, fun j => if j = p then v else c.u j⟩ := by
 have h2 := blk_set h (1 + p) (.int .i64 v)
 unfold CAt
 rw [h2]
 rcases p with _ | _ | _ | p
 ·
  simp
 ·
  simp
 ·
  simp
 ·
  omega
def Ct.small (c : Ct) (n : Int) : Prop := (-n ≤ c.t ∧ c.t ≤ n) ∧ ∀ j, -(1000 * n) ≤ c.u j ∧ c.u j ≤ 1000 * n
set_option maxRecDepth 100000 in
set_option maxHeartbeats 4000000 in
theorem add_calls (b : Nat) (c : Ct) (f0 : Int) (fv : Value) (p : Nat) (x s : Int) (hp : p < 3) (hx : 0 ≤ x ∧ x ≤ 1000) (hs : s = 1 ∨ s = -1) (hc : c.small 1000) (w : World) (hC : CAt w b c) :
  Calls Tryd.prog 95 #[.pointer (some ⟨b, 0, none⟩), .agg #[.int .i64 f0, fv, .int .i64 p, .int .i64 x], .int .i64 s] w fun e w' => e = .returned (.tuple #[]) ∧ CAt w' b (c.add p x s) ∧ KeepBut w w' b none ∧ Below b w w' := by
 have hlt := hC.lt
 obtain ⟨⟨t1, t2⟩, hu⟩ := hc
 have hup := hu p
 have c0 := blk_cell hC 0
 simp at c0
 have f0' := blk_frozen hC 0
 have hne : b ≠ w.heap.size := by omega
 have hct : IntKind.i64.wrap (c.t + s) = c.t + s := IntWalk.i64_in _ (by rcases hs with rfl | rfl <;> omega)
 have hsb : -1 ≤ s ∧ s ≤ 1 := by rcases hs with rfl | rfl <;> omega
 have hsx : IntKind.i64.wrap (s * x) = s * x := IntWalk.i64_in _ (by rcases hs with rfl | rfl <;> omega)
 have hsu : IntKind.i64.wrap (c.u p + s * x) = c.u p + s * x := IntWalk.i64_in _ (by rcases hs with rfl | rfl <;> omega)
 have HSX := Lib.hid (And.intro hsx hsu)
 have HC := Lib.hid hC
 clear hC hu hs hup hct hsx hsu
 generalize hctq : c.t = ct at c0 t1 t2
 have HCT := Lib.hid hctq
 clear hctq
 go_enter Tryd.func95, Tryd.ntmps95
 go_upto_region 2 with (fail)
 obtain ⟨W1, hW1⟩ : ∃ W1, W1 = (w.setCell ⟨b, 0, none⟩ (.int .i64 (ct + s))).alloc (.cells #[.int .i64 f0, fv, .int .i64 p, .int .i64 x] 58) := ⟨_, rfl⟩
 have hsz : (w.setCell ⟨b, 0, none⟩ (.int .i64 (ct + s))).heap.size = w.heap.size := by simp [World.setCell]
 have hBa : Below (w.setCell ⟨b, 0, none⟩ (.int .i64 (ct + s))).heap.size (w.setCell ⟨b, 0, none⟩ (.int .i64 (ct + s))) W1 := by rw [hW1]; exact (Below.refl _ _).alloc (Nat.le_refl _) _
 have bb : W1.heap[w.heap.size]? = some (.cells #[.int .i64 f0, fv, .int .i64 p, .int .i64 x] 58 (0, 0)) := by rw [hW1, ← hsz]; exact World.alloc_heap_new _ _
 have b2 : W1.cell? ⟨w.heap.size, 2, none⟩ = some (.int .i64 p) := (blk_cell bb 2).trans (by simp)
 have b3 : W1.cell? ⟨w.heap.size, 3, none⟩ = some (.int .i64 x) := (blk_cell bb 3).trans (by simp)
 clear bb
 have HC1 := Lib.hid ((HC.out.setT (ct + s)).below hBa)
 have HB1 : Hid (Below b w W1) := Lib.hid (((Below.refl b w).setCell (p := ⟨b, 0, none⟩) (Nat.le_refl _) _).trans (hBa.mono (by rw [hsz]; omega)))
 have HK1 : Hid (KeepBut w W1 b none) := Lib.hid (((KeepBut.refl w b none).set_ 0 _).trans (KeepBut.of_below hBa b none) (.inl rfl))
 rw [← hW1]
 clear hW1 hBa hsz
 have cp := HC1.out.cell p hp
 have fp := blk_frozen HC1.out (1 + p)
 have hpi : (p : Int) < 3 := by omega
 have hsx := HSX.out.1
 have hsu := HSX.out.2
 change W1.cell? ⟨b, 1 + p, none⟩ = some (.int .i64 (c.u p)) at cp
 generalize hq : c.u p = cu at cp hsu
 have HQ := Lib.hid hq
 clear hq c0 f0'
 go_still_tail 15, mixed
 go_wp2
 refine bodyPost_end (results_none rfl _ _ _) rfl ?_
 have hend : CAt (W1.setCell ⟨b, 1 + p, none⟩ (.int .i64 (cu + s * x))) b (c.add p x s) := by
  have h := HC1.out.setU p hp (cu + s * x)
  unfold Ct.add
  rw [HCT.out, ← HQ.out] 
  rw [← HQ.out] at h
  have e : (fun j => if j = p then c.u j + s * x else c.u j) = fun j => if j = p then c.u p + s * x else c.u j := by
   funext j
   by_cases hj : j = p
   ·
    rw [if_pos hj, if_pos hj, hj]
   ·
    rw [if_neg hj, if_neg hj]
  rw [e]
  exact h
 have hBb : Below b W1 (W1.setCell ⟨b, 1 + p, none⟩ (.int .i64 (cu + s * x))) := (Below.refl b W1).setCell (p := ⟨b, 1 + p, none⟩) (Nat.le_refl _) _
 exact ⟨rfl, hend.below (Below.refl _ _).drew, (KeepBut.set_ HK1.out (1 + p) _).trans (KeepBut.of_below (Below.refl _ _).drew b none) (.inl rfl), (HB1.out.trans hBb).drew⟩
def Ct.can (c : Ct) (p : Nat) (x : Int) (rm : List Int) (wk : Int) : Bool := decide (c.t < wk) && decide (c.u p + x ≤ rm.getD p 0)
set_option maxRecDepth 100000 in
set_option maxHeartbeats 4000000 in
theorem takes_calls (b : Nat) (c : Ct) (f0 : Int) (fv : Value) (p : Nat) (x : Int) (A : Option Addr) (k : Nat) (rm : List Int) (wk : Int) (hp : p < 3) (hx : 0 ≤ x ∧ x ≤ 1000) (hc : c.small 1000) (hrm : rm.length = 3) (w : World) (hC : CAt w b c) (hr : (Kd.int .i64).C w A rm.length rm) :
  Calls Tryd.prog 96 #[.pointer (some ⟨b, 0, none⟩), .agg #[.int .i64 f0, fv, .int .i64 p, .int .i64 x], .slice A rm.length k, .int .i64 wk] w fun e w' => e = .returned (.bool (c.can p x rm wk)) ∧ CAt w' b (if c.can p x rm wk then c.add p x 1 else c) ∧ KeepBut w w' b none ∧ Below b w w' := by
 have hlt := hC.lt
 have hup := hc.2 p
 have HS := Lib.hid hc
 have HR := Lib.hid hr
 clear hc hr
 have hne : b ≠ w.heap.size := by omega
 obtain ⟨W1, hW1⟩ : ∃ W1, W1 = w.alloc (.cells #[.int .i64 f0, fv, .int .i64 p, .int .i64 x] 58) := ⟨_, rfl⟩
 have hBa : Below w.heap.size w W1 := by rw [hW1]; exact (Below.refl _ _).alloc (Nat.le_refl _) _
 have bb : W1.heap[w.heap.size]? = some (.cells #[.int .i64 f0, fv, .int .i64 p, .int .i64 x] 58 (0, 0)) := by rw [hW1]; exact World.alloc_heap_new _ _
 have b0 : W1.cell? ⟨w.heap.size, 0, none⟩ = some (.int .i64 f0) := (blk_cell bb 0).trans (by simp)
 have b1 : W1.cell? ⟨w.heap.size, 1, none⟩ = some fv := (blk_cell bb 1).trans (by simp)
 have b2 : W1.cell? ⟨w.heap.size, 2, none⟩ = some (.int .i64 p) := (blk_cell bb 2).trans (by simp)
 have b3 : W1.cell? ⟨w.heap.size, 3, none⟩ = some (.int .i64 x) := (blk_cell bb 3).trans (by simp)
 have HC1 := Lib.hid (hC.below hBa)
 have HBa := Lib.hid hBa
 have HC0 := Lib.hid hC
 have c0 := blk_cell (hC.below hBa) 0
 simp at c0
 have cp := (hC.below hBa).cell p hp
 obtain ⟨ad, rfl, cr⟩ := at_num (Kd.C_below HR.out hBa) p (by omega)
 clear bb hBa hC
 have hpi : (p : Int) < 3 := by omega
 have hpr : (p : Int) < (rm.length : Int) := by omega
 have hsu : IntKind.i64.wrap (c.u p + x) = c.u p + x := IntWalk.i64_in _ (by omega)
 have HCAN : Hid (c.can p x rm wk = (decide (c.t < wk) && decide (c.u p + x ≤ rm.getD p 0))) := Lib.hid rfl
 have HADD := fun W hC => add_calls b c f0 fv p x 1 hp hx (.inl rfl) HS.out W hC
 generalize c.can p x rm wk = cb at HCAN ⊢
 generalize hce : (if cb then c.add p x 1 else c) = c' 
 have HCE := Lib.hid hce
 clear hce
 generalize c.u p = cu at cp hsu hup HCAN
 generalize c.t = ct at c0 HCAN
 generalize rm.getD p 0 = rp at cr HCAN
 go_enter Tryd.func96, Tryd.ntmps96
 go_upto_region 1 with (fail)
 rw [← hW1]
 clear hW1
 by_cases h1 : ct < wk
 ·
  have g1 : decide (ct ≥ wk) = false := decide_eq_false (by omega)
  have g1' : decide (wk ≤ ct) = false := decide_eq_false (by omega)
  have e1 : decide (ct < wk) = true := decide_eq_true h1
  by_cases h2 : cu + x ≤ rp
  ·
   have g2 : decide (cu + x > rp) = false := decide_eq_false (by omega)
   have g2' : decide (rp < cu + x) = false := decide_eq_false (by omega)
   have e2 : decide (cu + x ≤ rp) = true := decide_eq_true h2
   rw [e1, e2] at HCAN
   clear h1 h2 e1 e2
   go_wp2
   go_quiet (fail)
   have hBq : Below w.heap.size w (W1.drewN nq) := pw_below_drewN HBa.out nq
   have hCq := HC0.out.below hBq
   go_wp2_with (go_at_call 95; refine (HADD _ hCq).mono ?_; rintro e w2 ⟨rfl, hC2, hK2, hB2⟩)
   go_ret
   have hc' : c' = c.add p x 1 := by rw [← HCE.out, HCAN.out]; rfl
   refine ⟨ret_bool HCAN.out.symm, ?_, (KeepBut.of_below hBq b none).trans hK2 (.inl rfl), (hBq.mono (by omega)).trans hB2⟩
   rw [hc']
   exact hC2
  ·
   have g2 : decide (cu + x > rp) = true := decide_eq_true (by omega)
   have g2' : decide (rp < cu + x) = true := decide_eq_true (by omega)
   have e2 : decide (cu + x ≤ rp) = false := decide_eq_false h2
   rw [e1, e2] at HCAN
   clear h1 h2 e1 e2
   go_wp2
   go_quiet (fail)
   go_wp2
   go_ret
   have hc' : c' = c := by rw [← HCE.out, HCAN.out]; rfl
   refine ⟨ret_bool HCAN.out.symm, ?_, (KeepBut.of_below HBa.out b none |> fun h => h.trans (KeepBut.of_below (pw_below_drewN (Below.refl _ _) nq) b none) (.inl rfl)), (pw_below_drewN HBa.out nq).mono (by omega)⟩
   rw [hc']
   exact HC1.out.below (pw_below_drewN (Below.refl _ _) nq)
 ·
  have g1 : decide (ct ≥ wk) = true := decide_eq_true (by omega)
  have g1' : decide (wk ≤ ct) = true := decide_eq_true (by omega)
  have e1 : decide (ct < wk) = false := decide_eq_false h1
  rw [e1, Bool.false_and] at HCAN
  clear h1 e1
  go_wp2
  go_quiet (fail)
  go_wp2
  go_ret
  have hc' : c' = c := by rw [← HCE.out, HCAN.out]; rfl
  refine ⟨ret_bool HCAN.out.symm, ?_, (KeepBut.of_below HBa.out b none |> fun h => h.trans (KeepBut.of_below (pw_below_drewN (Below.refl _ _) nq) b none) (.inl rfl)), (pw_below_drewN HBa.out nq).mono (by omega)⟩
  rw [hc']
  exact HC1.out.below (pw_below_drewN (Below.refl _ _) nq)
end Go.Proofs.YtdjdfbfcjajlkaaDoor
