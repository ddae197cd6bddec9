/- Parts of the proof, laid as one text by a program of mine. -/
import Derived.Test.YtdjdfbfcjajlkaaDoorKac4
import Derived.StillTailTactics
import Derived.Test.YtdjdfbfcjajlkaaDoorKac3
import Derived.Deep.QuietTactic
import Derived.BigQuiet
namespace Go.Proofs.YtdjdfbfcjajlkaaDoor
set_option linter.unusedVariables false
set_option linter.unusedSimpArgs false
open Go.RowKit Go.Shelf Bits
open Go.Proofs.YtdjdfbfcjajlkaaDoorW.PrintWords Go.Proofs.YtdjdfbfcjajlkaaDoorW.PrintLast Go.Proofs.YtdjdfbfcjajlkaaDoorW.PrintMore
attribute [local go_sem] Oper.semAt_some
def zT (q : Nat) : Value := if q % 4 = 1 then .slice none 0 0 else .int .i64 0
theorem madeT (n : Nat) : madeCells #[Value.int .i64 0, .slice none 0 0, .int .i64 0, .int .i64 0] n = ((List.range n).map zT).toArray := by
 apply Array.ext
 ·
  simp [madeCells]
 ·
  intro i h1 h2
  have h4 : i % 4 = 0 ∨ i % 4 = 1 ∨ i % 4 = 2 ∨ i % 4 = 3 := by omega
  rcases h4 with h | h | h | h <;> simp [madeCells, zT, h]
theorem infoTaskX : (Tryd.prog.info? 58).map (fun i => (i.zero, i.size, i.bytes)) = some (some (.agg #[.int .i64 0, .slice none 0 0, .int .i64 0, .int .i64 0]), 4, 48) := by kernel_rfl
theorem run_makeT (n : Nat) (hn : n ≤ 2000000) (W : World) : (Instr.makeSlice 26 (Value.int IntKind.i64 (n : Int)) (Value.int IntKind.i64 (n : Int))).run Tryd.prog W = .ok (.slice (some ⟨W.heap.size, 0, none⟩) n n) (W.alloc (.cells ((List.range (n * 4)).map zT).toArray 58)) := by
 obtain ⟨i0, hi, hz0, hz1, hz2⟩ := info_parts infoTaskX
 rw [← madeT]
 have := run_make (P := Tryd.prog) W 26 58 i0 (.agg #[.int .i64 0, .slice none 0 0, .int .i64 0, .int .i64 0]) Tryd.underlying26 hi hz0 .i64 .i64 (n : Int) (n : Int) (by omega) (by omega) (by rw [hz2]; omega) (by omega)
 simpa [hz1, Value.cells] using this
def cpyT (g : List Tk) (vs : Nat → Value) (j q : Nat) : Value := if q < j * 4 then cellT g vs q else zT q
theorem cpyT_end (g : List Tk) (vs : Nat → Value) (q : Nat) (h : q < g.length * 4) : cpyT g vs g.length q = cellT g vs q := if_pos h
theorem cpyT_step (g : List Tk) (vs : Nat → Value) (v : Value) (j q : Nat) : (if q = j * 4 + 3 then Value.int .i64 (rdTk g j).f3 else if q = j * 4 + 2 then .int .i64 (rdTk g j).f2 else if q = j * 4 + 1 then v else if q = j * 4 then .int .i64 (rdTk g j).f0 else cpyT g vs j q) = cpyT g (fun x => if x = j then v else vs x) (j + 1) q := by
 obtain ⟨a0, a1, a2, a3⟩ := cellT_at g (fun x => if x = j then v else vs x) j
 unfold cpyT
 by_cases h3 : q = j * 4 + 3
 ·
  rw [if_pos h3, if_pos (by omega), h3, a3]
 rw [if_neg h3]
 by_cases h2 : q = j * 4 + 2
 ·
  rw [if_pos h2, if_pos (by omega), h2, a2]
 rw [if_neg h2]
 by_cases h1 : q = j * 4 + 1
 ·
  rw [if_pos h1, if_pos (by omega), h1, a1, if_pos rfl]
 rw [if_neg h1]
 by_cases h0 : q = j * 4
 ·
  rw [if_pos h0, if_pos (by omega), h0, a0]
 rw [if_neg h0]
 by_cases hl : q < j * 4
 ·
  have e : cellT g vs q = cellT g (fun x => if x = j then v else vs x) q := by
   unfold cellT
   have e1 : (if q / 4 = j then v else vs (q / 4)) = vs (q / 4) := if_neg (by omega)
   show _ = (if q % 4 = 0 then Value.int .i64 (rdTk g (q / 4)).f0 else if q % 4 = 1 then (if q / 4 = j then v else vs (q / 4)) else if q % 4 = 2 then .int .i64 (rdTk g (q / 4)).f2 else .int .i64 (rdTk g (q / 4)).f3)
   rw [e1]
  rw [if_pos hl, if_pos (show q < (j + 1) * 4 by omega), e]
 ·
  rw [if_neg hl, if_neg (show ¬ q < (j + 1) * 4 by omega)]
def NRow (W : World) (lo b : Nat) (g : List Tk) (vs : Nat → Value) (j : Nat) : Prop := ∀ i, i < j → ∃ n, vs i = .slice (some ⟨n, 0, none⟩) (rdTk g i).f1.length (rdTk g i).f1.length ∧ lo ≤ n ∧ n ≠ b ∧ IRow W n (rdTk g i).f1
theorem NRow.keep {W W' : World} {lo b : Nat} {g : List Tk} {vs : Nat → Value} {j : Nat} (h : NRow W lo b g vs j) (hk : ∀ n, n ≠ b → n < W.heap.size → W'.heap[n]? = W.heap[n]?) : NRow W' lo b g vs j := fun i hi => by
 obtain ⟨n, h1, h2, h3, h4⟩ := h i hi
 exact ⟨n, h1, h2, h3, (hk n h3 (blk_lt h4)).trans h4⟩
set_option maxRecDepth 100000 in
set_option maxHeartbeats 4000000 in
theorem toTaskS_calls (A : Option Addr) (c : Nat) (g : List Tk) (hl : g.length ≤ 1048576) (hn : ∀ i, (rdTk g i).f1.length ≤ 1048576) (w : World) (hr : kTk.C w A g.length g) :
  Calls Tryd.prog 16 #[.slice A g.length c] w fun e w' => ∃ b vs, e = .returned (.slice (some ⟨b, 0, none⟩) g.length g.length) ∧ w.heap.size ≤ b ∧ RowV w' b (g.length * 4) 58 (cellT g vs) ∧ NRow w' w.heap.size b g vs g.length ∧ Below w.heap.size w w' := by
 have HR := Lib.hid hr
 have HN := Lib.hid hn
 have hmk := run_makeT g.length (by omega)
 clear hr hn
 go_enter Tryd.func16, Tryd.ntmps16
 go_wp2
 clear hmk
 have hI0 : RowV (w.alloc (.cells ((List.range (g.length * 4)).map zT).toArray 58)) w.heap.size (g.length * 4) 58 (cpyT g (fun _ => .bool false) 0) := by
  have : RowV (w.alloc (.cells ((List.range (g.length * 4)).map zT).toArray 58)) w.heap.size (g.length * 4) 58 zT := World.alloc_heap_new w _
  exact this.congr (fun q _ => (if_neg (by omega)).symm)
 have hB0 : Below w.heap.size w (w.alloc (.cells ((List.range (g.length * 4)).map zT).toArray 58)) := (Below.refl _ _).alloc (Nat.le_refl _) _
 go_loopw [4] (fun i wr => ∃ j vs, j ≤ g.length ∧ i = .int .i64 (j : Nat) ∧ RowV wr w.heap.size (g.length * 4) 58 (cpyT g vs j) ∧ NRow wr w.heap.size w.heap.size g vs j ∧ Below w.heap.size w wr) (fun i _ => g.length - (intOf i).toNat)
 case atStart => exact ⟨0, _, Nat.zero_le _, rfl, hI0, fun i hi => absurd hi (by omega), hB0⟩
 case round =>
  clear hI0 hB0
  obtain ⟨j, vs, hj, rfl, hI, hN, hB⟩ := hrel
  by_cases hjl : j < g.length
  ·
   obtain ⟨ad, A1, c1, rfl, hc0, hc1, hc2, hc3, hlc, hC⟩ := at_Tk (Kd.C_below HR.out hB) j hjl
   have hjj : decide ((j : Int) < (g.length : Int)) = true := decide_eq_true (by omega)
   have hji : (j : Int) < (g.length : Int) := by omega
   have HTT := Lib.hid (fun W (h : Below wr.heap.size wr W) => toTask_calls (rdTk g j).f0 (rdTk g j).f1 (rdTk g j).f2 (rdTk g j).f3 A1 c1 (HN.out j) W (Kd.C_below hC h))
   have HX := Lib.hid (And.intro hI (And.intro hN hB))
   have HST := Lib.hid (cpyT_step g vs)
   generalize hf0 : (rdTk g j).f0 = f0 at hc0 HTT
   generalize hf1 : (rdTk g j).f1 = f1 at hc1 HTT
   generalize hf2 : (rdTk g j).f2 = f2 at hc2 HTT
   generalize hf3 : (rdTk g j).f3 = f3 at hc3 HTT
   have HF := Lib.hid (And.intro hf0 (And.intro hf1 (And.intro hf2 hf3)))
   clear hI hN hB hlc hC hf0 hf1 hf2 hf3
   go_wp2_with (go_at_call 53; refine (HTT.out _ (Below.refl _ _)).mono ?_; rintro e w3 ⟨b, rfl, hb, hI3, hB3⟩; have r3 := blk_frozen (blk_below HX.out.1 hB3); have k0 := (HX.out.1.below hB3).cell (q := j * 4) (by omega); have k1 := (HX.out.1.below hB3).cell (q := j * 4 + 1) (by omega); have k2 := (HX.out.1.below hB3).cell (q := j * 4 + 2) (by omega); have k3 := (HX.out.1.below hB3).cell (q := j * 4 + 3) (by omega); have HY := Lib.hid (And.intro hb (And.intro hI3 hB3)); clear hb hI3 hB3)
   go_roundw
   case rel =>
    obtain ⟨hI, hN, hB⟩ := HX.out
    obtain ⟨hb, hI3, hB3⟩ := HY.out
    obtain ⟨rfl, rfl, rfl, rfl⟩ := HF.out
    have hlt := hI.lt
    have hsz := hB.size
    have hne : b ≠ w.heap.size := by omega
    refine ⟨j + 1, fun x => if x = j then .slice (some ⟨b, 0, none⟩) (rdTk g j).f1.length (rdTk g j).f1.length else vs x, by omega, by go_num, ?_, ?_, ?_⟩
    ·
     exact (((((hI.below hB3).set (j * 4) _).set (j * 4 + 1) _).set (j * 4 + 2) _).set (j * 4 + 3) _).congr (fun q _ => cpyT_step g vs _ j q)
    ·
     intro i hi
     by_cases e : i = j
     ·
      subst e
      exact ⟨b, if_pos rfl, by omega, hne, (((hI3.far (p := ⟨w.heap.size, i * 4, none⟩) hne _).far (p := ⟨w.heap.size, i * 4 + 1, none⟩) hne _).far (p := ⟨w.heap.size, i * 4 + 2, none⟩) hne _).far (p := ⟨w.heap.size, i * 4 + 3, none⟩) hne _⟩
     ·
      obtain ⟨n, h1, h2, h3, h4⟩ := hN i (by omega)
      have h5 : IRow w3 n (rdTk g i).f1 := blk_below h4 hB3
      exact ⟨n, (if_neg e).trans h1, h2, h3, (((h5.far (p := ⟨w.heap.size, j * 4, none⟩) h3 _).far (p := ⟨w.heap.size, j * 4 + 1, none⟩) h3 _).far (p := ⟨w.heap.size, j * 4 + 2, none⟩) h3 _).far (p := ⟨w.heap.size, j * 4 + 3, none⟩) h3 _⟩
    ·
     have h0 := hB.trans (hB3.mono hsz)
     exact (((h0.setCell (p := ⟨w.heap.size, j * 4, none⟩) (Nat.le_refl _) _).setCell (p := ⟨w.heap.size, j * 4 + 1, none⟩) (Nat.le_refl _) _).setCell (p := ⟨w.heap.size, j * 4 + 2, none⟩) (Nat.le_refl _) _).setCell (p := ⟨w.heap.size, j * 4 + 3, none⟩) (Nat.le_refl _) _
   case measure => simp [intOf]; omega
  ·
   obtain rfl : j = g.length := by omega
   have hjj : decide ((g.length : Int) < (g.length : Int)) = false := decide_eq_false (by omega)
   go_wp2
   go_ret
   exact ⟨_, vs, rfl, Nat.le_refl _, hI.congr (fun q hq => cpyT_end g vs q hq), hN, hB⟩
theorem toTaskS_C (A : Option Addr) (c : Nat) (g : List Tk) (hl : g.length ≤ 1048576) (hn : ∀ i, (rdTk g i).f1.length ≤ 1048576) (w : World) (hr : kTk.C w A g.length g) :
  Calls Tryd.prog 16 #[.slice A g.length c] w fun e w' => ∃ b, e = .returned (.slice (some ⟨b, 0, none⟩) g.length g.length) ∧ kTk.C w' (some ⟨b, 0, none⟩) g.length g ∧ Below w.heap.size w w' :=
 (toTaskS_calls A c g hl hn w hr).mono fun e w' ⟨b, vs, h1, h2, h3, h4, h5⟩ => ⟨b, h1, C_of_RowV h3 (by omega) (fun i hi => by
  obtain ⟨n, e1, _, _, e2⟩ := h4 i hi
  exact ⟨_, _, e1, Nat.le_refl _, e2.C (by have := hn i; omega)⟩), h5⟩
theorem toIntS_C (A : Option Addr) (c : Nat) (l : List Int) (hl : l.length ≤ 1048576) (w : World) (hr : (Kd.int .i64).C w A l.length l) :
  Calls Tryd.prog 17 #[.slice A l.length c] w fun e w' => ∃ b, e = .returned (.slice (some ⟨b, 0, none⟩) l.length l.length) ∧ (Kd.int .i64).C w' (some ⟨b, 0, none⟩) l.length l ∧ Below w.heap.size w w' :=
 (toIntS_calls A c l hl w hr).mono fun e w' ⟨b, h1, h2, h3, h4⟩ => ⟨b, h1, h3.C (by omega), h4⟩
def szF (g : List Tk) : Nat → Int
 | 0 => szI 1048576 g.length
 | j + 1 => if szF g j < 0 then -1 else szI (szF g j) (rdTk g j).f1.length
theorem szI_cases (L : Int) (n : Nat) (h0 : 0 ≤ L) : szI L n = -1 ∨ (szI L n = L - n ∧ (n : Int) ≤ L) := by
 unfold szI
 by_cases h : L < (n : Int)
 ·
  exact .inl (if_pos h)
 ·
  exact .inr ⟨if_neg h, by omega⟩
theorem szF_max (g : List Tk) : ∀ j, szF g j ≤ 1048576
 | 0 => by
  rcases szI_cases 1048576 g.length (by omega) with h | h <;> (unfold szF; omega)
 | j + 1 => by
  have ih := szF_max g j
  unfold szF
  by_cases hn : szF g j < 0
  ·
   rw [if_pos hn]; omega
  ·
   rw [if_neg hn]
   rcases szI_cases (szF g j) (rdTk g j).f1.length (by omega) with h | h <;> omega
theorem szF_neg {g : List Tk} {j : Nat} (h : szF g j < 0) : szF g j = -1 := by
 cases j with
 | zero =>
  unfold szF at h ⊢
  rcases szI_cases 1048576 g.length (by omega) with e | e <;> omega
 | succ j =>
  unfold szF at h ⊢
  by_cases hn : szF g j < 0
  ·
   rw [if_pos hn]
  ·
   rw [if_neg hn] at h ⊢
   rcases szI_cases (szF g j) (rdTk g j).f1.length (by omega) with e | e <;> omega
theorem szF_after {g : List Tk} {j : Nat} (h : szF g j < 0) : ∀ d, szF g (j + d) = -1
 | 0 => szF_neg h
 | d + 1 => by
  have := szF_after h d
  show (if szF g (j + d) < 0 then -1 else szI (szF g (j + d)) (rdTk g (j + d)).f1.length) = -1
  rw [if_pos (by omega)]
theorem szF_step {g : List Tk} {j : Nat} (h : 0 ≤ szF g (j + 1)) : 0 ≤ szF g j ∧ ((rdTk g j).f1.length : Int) ≤ szF g j := by
 have h2 := h
 unfold szF at h2
 by_cases hn : szF g j < 0
 ·
  rw [if_pos hn] at h2; omega
 ·
  rw [if_neg hn] at h2
  rcases szI_cases (szF g j) (rdTk g j).f1.length (by omega) with e | e <;> omega
theorem szF_le {g : List Tk} : ∀ j, 0 ≤ szF g j → ∀ i, i < j → 0 ≤ szF g i ∧ ((rdTk g i).f1.length : Int) ≤ 1048576
 | 0, _, i, hi => absurd hi (by omega)
 | j + 1, h, i, hi => by
  have hs := szF_step h
  by_cases e : i = j
  ·
   rw [e]
   have := szF_max g j
   exact ⟨hs.1, by omega⟩
  ·
   exact szF_le j hs.1 i (by omega)
theorem szF_small {g : List Tk} (h : 0 ≤ szF g g.length) : g.length ≤ 1048576 ∧ ∀ i, (rdTk g i).f1.length ≤ 1048576 := by
 constructor
 ·
  have h0 : 0 ≤ szF g 0 := by
   by_cases e : g.length = 0
   ·
    rw [e] at h; exact h
   ·
    exact (szF_le g.length h 0 (by omega)).1
  unfold szF at h0
  rcases szI_cases 1048576 g.length (by omega) with e | e <;> omega
 ·
  intro i
  by_cases hi : i < g.length
  ·
   have := (szF_le g.length h i hi).2
   omega
  ·
   have : rdTk g i = zTk := by
    unfold rdTk
    rw [List.getD_eq_getElem?_getD, List.getElem?_eq_none (by omega)]
    rfl
   rw [this]
   exact Nat.zero_le _
theorem szTask_calls (f0 : Int) (f1 : List Int) (f2 f3 : Int) (A : Option Addr) (c : Nat) (L : Int) (h0 : 0 ≤ L ∧ L ≤ 1048576) (hl : f1.length ≤ 9223372036854775807) (w : World) :
  Calls Tryd.prog 47 #[.agg #[.int .i64 f0, .slice A f1.length c, .int .i64 f2, .int .i64 f3], .int .i64 L] w fun e w' => e = .returned (.int .i64 (szI L f1.length)) ∧ Below w.heap.size w w' := by
 have HSZ := Lib.hid (fun (W : World) => szIntS_calls A c f1 L h0 hl W)
 have hc := szI_cases L f1.length h0.1
 have hcase : szI L f1.length = -1 ∨ 0 ≤ szI L f1.length := by omega
 generalize szI L f1.length = r at HSZ hcase
 have hB0 : Below w.heap.size w (w.alloc (.cells #[.int .i64 f0, .slice A f1.length c, .int .i64 f2, .int .i64 f3] 53)) := (Below.refl _ _).alloc (Nat.le_refl _) _
 have HB0 := Lib.hid hB0
 clear h0 hl hc hB0
 rcases hcase with rfl | hr
 ·
  go_enter Tryd.func47, Tryd.ntmps47
  go_wp2_with (go_at_call 79; refine (HSZ.out _).mono ?_; rintro e w' ⟨rfl, rfl⟩)
  go_ret
  exact ⟨rfl, HB0.out⟩
 ·
  have dn : decide (r < 0) = false := decide_eq_false (by omega)
  clear hr
  go_enter Tryd.func47, Tryd.ntmps47
  go_wp2_with (go_at_call 79; refine (HSZ.out _).mono ?_; rintro e w' ⟨rfl, rfl⟩)
  go_ret
  exact ⟨rfl, HB0.out⟩
set_option maxRecDepth 100000 in
set_option maxHeartbeats 4000000 in
theorem szTaskS_calls (A : Option Addr) (c : Nat) (g : List Tk) (w : World) (hr : kTk.C w A g.length g) :
  Calls Tryd.prog 14 #[.slice A g.length c, .int .i64 1048576] w fun e w' => e = .returned (.int .i64 (szF g g.length)) ∧ Below w.heap.size w w' := by
 have hgm := (C_len hr).2
 have hwr : IntKind.i64.wrap ((1048576 : Int) - (g.length : Int)) = 1048576 - g.length := IntWalk.i64_in _ (by omega)
 by_cases hn : szF g 0 < 0
 ·
  have HF : Hid (szF g g.length = -1) := Lib.hid (by have := szF_after hn g.length; rw [Nat.zero_add] at this; exact this)
  have dn : decide ((1048576 : Int) - (g.length : Int) < 0) = true := by
   apply decide_eq_true
   unfold szF at hn
   rcases szI_cases 1048576 g.length (by omega) with e | e
   ·
    unfold szI at e
    by_cases h : (1048576 : Int) < (g.length : Int)
    ·
     omega
    ·
     rw [if_neg h] at e; omega
   ·
    omega
  clear hn hr hgm
  go_enter Tryd.func14, Tryd.ntmps14
  go_wp2
  go_ret
  exact ⟨ret_int HF.out.symm, Below.refl _ _⟩
 ·
  have h0 : szF g 0 = 1048576 - g.length ∧ (g.length : Int) ≤ 1048576 := by
   unfold szF at hn ⊢
   rcases szI_cases 1048576 g.length (by omega) with e | e
   ·
    omega
   ·
    exact e
  have dn : decide ((1048576 : Int) - (g.length : Int) < 0) = false := decide_eq_false (by omega)
  have HR := Lib.hid hr
  have HS0 := Lib.hid h0.1
  have HN0 := Lib.hid hn
  have hgl := h0.2
  clear hn hr hgm h0
  go_enter Tryd.func14, Tryd.ntmps14
  go_wp2
  clear hwr dn
  go_loopw [1, 5] (fun L i wr => ∃ (j : Nat), j ≤ g.length ∧ i = .int .i64 j ∧ L = .int .i64 (szF g j) ∧ 0 ≤ szF g j ∧ Below w.heap.size w wr) (fun _ i _ => g.length - (intOf i).toNat)
  case atStart => exact ⟨0, Nat.zero_le _, rfl, by rw [HS0.out], by have := HN0.out; omega, Below.refl _ _⟩
  case round =>
   obtain ⟨j, hj, rfl, rfl, hs0, hB⟩ := hrel
   by_cases hjl : j < g.length
   ·
    obtain ⟨ad, A1, c1, rfl, hc0, hc1, hc2, hc3, hlc, hC⟩ := at_Tk (Kd.C_below HR.out hB) j hjl
    have hjj : decide ((j : Int) < (g.length : Int)) = true := decide_eq_true (by omega)
    have hji : (j : Int) < (g.length : Int) := by omega
    have hmx := szF_max g j
    have HE : Hid (szF g (j + 1) = szI (szF g j) (rdTk g j).f1.length) := Lib.hid (if_neg (by omega))
    have HAF := Lib.hid (fun (h : szF g (j + 1) < 0) => szF_after h (g.length - (j + 1)))
    have hfin : j + 1 + (g.length - (j + 1)) = g.length := by omega
    rw [hfin] at HAF
    have HST := Lib.hid (fun (W : World) => szTask_calls (rdTk g j).f0 (rdTk g j).f1 (rdTk g j).f2 (rdTk g j).f3 A1 c1 (szF g j) ⟨hs0, hmx⟩ (C_len hC).2 W)
    rw [← HE.out] at HST
    have hcase : szF g (j + 1) = -1 ∨ 0 ≤ szF g (j + 1) := by
     by_cases h : szF g (j + 1) < 0
     ·
      exact .inl (szF_neg h)
     ·
      exact .inr (by omega)
    generalize hq : szF g (j + 1) = r at HST HAF hcase
    have HQ := Lib.hid hq
    have HB := Lib.hid hB
    generalize (rdTk g j).f0 = f0 at hc0 HST
    generalize (rdTk g j).f1 = f1 at hc1 HST
    generalize (rdTk g j).f2 = f2 at hc2 HST
    generalize (rdTk g j).f3 = f3 at hc3 HST
    generalize szF g j = L at HST ⊢
    clear hq hB hs0 hmx hlc hC hfin
    rcases hcase with rfl | hr0
    ·
     have HFF : Hid (szF g g.length = -1) := Lib.hid (HAF.out (by omega))
     go_wp2_with (go_at_call 47; refine (HST.out _).mono ?_; rintro e w3 ⟨rfl, hB3⟩; have HB := Lib.hid (HB.out.trans (hB3.mono HB.out.size)); clear hB3)
     go_ret
     exact ⟨ret_int HFF.out.symm, HB.out⟩
    ·
     have dn : decide (r < 0) = false := decide_eq_false (by omega)
     have HR0 := Lib.hid hr0
     clear hr0
     go_wp2_with (go_at_call 47; refine (HST.out _).mono ?_; rintro e w3 ⟨rfl, hB3⟩; have HB := Lib.hid (HB.out.trans (hB3.mono HB.out.size)); clear hB3)
     go_roundw
     case rel => exact ⟨j + 1, by omega, by go_num, by rw [HQ.out], by rw [HQ.out]; exact HR0.out, HB.out⟩
     case measure => simp [intOf]; omega
   ·
    obtain rfl : j = g.length := by omega
    have hjj : decide ((g.length : Int) < (g.length : Int)) = false := decide_eq_false (by omega)
    obtain ⟨r, hr⟩ : ∃ r, r = szF g g.length := ⟨_, rfl⟩
    have HF := Lib.hid hr
    rw [← hr]
    clear hs0 hr
    go_wp2
    go_ret
    exact ⟨ret_int HF.out, hB⟩
set_option maxRecDepth 100000 in
set_option maxHeartbeats 4000000 in
theorem eqTask_same (f0 : Int) (f1 : List Int) (f2 f3 : Int) (A : Option Addr) (c : Nat) (B : Option Addr) (d : Nat) (w : World) (hr : (Kd.int .i64).C w A f1.length f1) (hr' : (Kd.int .i64).C w B f1.length f1) :
  Calls Tryd.prog 58 #[.agg #[.int .i64 f0, .slice A f1.length c, .int .i64 f2, .int .i64 f3], .agg #[.int .i64 f0, .slice B f1.length d, .int .i64 f2, .int .i64 f3]] w fun e w' => e = .returned (.bool true) ∧ Below w.heap.size w w' := by
 have HE := Lib.hid (fun (W : World) (hW : Below w.heap.size w W) => eqIntS_same A c f1 B d W (Kd.C_below hr hW) (Kd.C_below hr' hW))
 have d0 : (f0 != f0) = false := bne_self_eq_false _
 have d2 : (f2 != f2) = false := bne_self_eq_false _
 have d3 : (f3 != f3) = false := bne_self_eq_false _
 clear hr hr'
 go_enter Tryd.func58, Tryd.ntmps58
 go_upto_region 3 with (fail)
 generalize hW0 : ((w.alloc (.cells #[.int .i64 f0, .slice A f1.length c, .int .i64 f2, .int .i64 f3] 58)).alloc (.cells #[.int .i64 f0, .slice B f1.length d, .int .i64 f2, .int .i64 f3] 58) : World) = W0
 have b1 : W0.heap[w.heap.size]? = some (.cells #[.int .i64 f0, .slice A f1.length c, .int .i64 f2, .int .i64 f3] 58 (0, 0)) := by
  rw [← hW0]
  exact blk_alloc (World.alloc_heap_new w _) _
 have b2 : W0.heap[w.heap.size + 1]? = some (.cells #[.int .i64 f0, .slice B f1.length d, .int .i64 f2, .int .i64 f3] 58 (0, 0)) := by
  rw [← hW0]
  have h := World.alloc_heap_new (w.alloc (.cells #[.int .i64 f0, .slice A f1.length c, .int .i64 f2, .int .i64 f3] 58)) (.cells #[.int .i64 f0, .slice B f1.length d, .int .i64 f2, .int .i64 f3] 58)
  rw [World.size_alloc] at h
  exact h
 have hB0 : Below w.heap.size w W0 := by
  rw [← hW0]
  exact ((Below.refl _ w).alloc (Nat.le_refl _) _).alloc (by simp) _
 clear hW0
 have HB0 := Lib.hid hB0
 have HE2 := Lib.hid (HE.out W0 hB0)
 have k11 : W0.cell? ⟨w.heap.size, 1, none⟩ = some (.slice A f1.length c) := (blk_cell b1 1).trans rfl
 have k21 : W0.cell? ⟨w.heap.size + 1, 1, none⟩ = some (.slice B f1.length d) := (blk_cell b2 1).trans rfl
 have HBL := Lib.hid (And.intro b1 b2)
 clear b1 b2 hB0
 go_wp2_with (go_at_call 20; refine HE2.out.mono ?_; rintro e w3 ⟨rfl, hB3⟩; have k12 := (blk_cell (blk_below HBL.out.1 hB3) 2).trans rfl; have k13 := (blk_cell (blk_below HBL.out.1 hB3) 3).trans rfl; have k22 := (blk_cell (blk_below HBL.out.2 hB3) 2).trans rfl; have k23 := (blk_cell (blk_below HBL.out.2 hB3) 3).trans rfl; have HB3 := Lib.hid (HB0.out.trans (hB3.mono HB0.out.size)); clear hB3)
 go_ret
 exact ⟨rfl, HB3.out⟩
set_option maxRecDepth 100000 in
set_option maxHeartbeats 4000000 in
theorem eqTaskS_same (A : Option Addr) (c : Nat) (g : List Tk) (B : Option Addr) (d : Nat) (w : World) (hr : kTk.C w A g.length g) (hr' : kTk.C w B g.length g) :
  Calls Tryd.prog 19 #[.slice A g.length c, .slice B g.length d] w fun e w' => e = .returned (.bool true) ∧ Below w.heap.size w w' := by
 have HR := Lib.hid hr
 have HR' := Lib.hid hr'
 have hla := (C_len hr).2
 clear hr hr'
 have dl : ((g.length : Int) != (g.length : Int)) = false := bne_self_eq_false _
 go_enter Tryd.func19, Tryd.ntmps19
 go_wp2
 clear dl
 go_loopw [5] (fun i wr => ∃ j, j ≤ g.length ∧ i = .int .i64 (j : Nat) ∧ Below w.heap.size w wr) (fun i _ => g.length - (intOf i).toNat)
 case atStart => exact ⟨0, Nat.zero_le _, rfl, Below.refl _ _⟩
 case round =>
  obtain ⟨j, hj, rfl, hB⟩ := hrel
  by_cases hjl : j < g.length
  ·
   have hjj : decide ((j : Int) < (g.length : Int)) = true := decide_eq_true (by omega)
   have hji : (j : Int) < (g.length : Int) := by omega
   obtain ⟨ad, A1, c1, rfl, hc0, hc1, hc2, hc3, _, hC⟩ := at_Tk (Kd.C_below HR.out hB) j hjl
   obtain ⟨bd, B1, e1, rfl, hd0, hd1, hd2, hd3, _, hD⟩ := at_Tk (Kd.C_below HR'.out hB) j hjl
   have HE := Lib.hid (fun (W : World) (hW : Below wr.heap.size wr W) => eqTask_same (rdTk g j).f0 (rdTk g j).f1 (rdTk g j).f2 (rdTk g j).f3 A1 c1 B1 e1 W (Kd.C_below hC hW) (Kd.C_below hD hW))
   generalize (rdTk g j).f0 = f0 at hc0 hd0 HE
   generalize (rdTk g j).f1 = f1 at hc1 hd1 HE
   generalize (rdTk g j).f2 = f2 at hc2 hd2 HE
   generalize (rdTk g j).f3 = f3 at hc3 hd3 HE
   have HB := Lib.hid hB
   clear hB hC hD
   go_wp2
   go_still_tail 8, mixed
   go_wp2_with (go_at_call 58; refine (HE.out wr.drew (Below.refl _ _).drew).mono ?_; rintro e w3 ⟨rfl, hB3⟩; have HB := Lib.hid (HB.out.drew.trans (hB3.mono HB.out.size)); clear hB3)
   go_roundw
   case rel => exact ⟨j + 1, by omega, by go_num, by repeat (first | exact HB.out | apply pw_below_drewN)⟩
   case measure => simp [intOf]; omega
  ·
   obtain rfl : j = g.length := by omega
   have hjj : decide ((g.length : Int) < (g.length : Int)) = false := decide_eq_false (by omega)
   go_wp2
   go_ret
   exact ⟨rfl, hB⟩
end Go.Proofs.YtdjdfbfcjajlkaaDoor

namespace Go.Proofs.YtdjdfbfcjajlkaaDoor
set_option linter.unusedVariables false
set_option linter.unusedSimpArgs false
open Go.RowKit Go.Shelf Bits
open Go.Proofs.YtdjdfbfcjajlkaaDoorW.PrintWords Go.Proofs.YtdjdfbfcjajlkaaDoorW.PrintLast Go.Proofs.YtdjdfbfcjajlkaaDoorW.PrintMore
attribute [local go_sem] Oper.semAt_some
structure Ct where
 t : Int
 u : Nat → Int
def Ct.zero : Ct := ⟨0, fun _ => 0⟩
def Ct.add (c : Ct) (p : Nat) (x s : Int) : Ct := ⟨c.t + s, fun j => if j = p then c.u j + s * x else c.u j⟩
def CAt (W : World) (b : Nat) (c : Ct) : Prop := W.heap[b]? = some (.cells #[.int .i64 c.t, .int .i64 (c.u 0), .int .i64 (c.u 1), .int .i64 (c.u 2)] 101 (0, 0))
theorem CAt.lt {W : World} {b : Nat} {c : Ct} (h : CAt W b c) : b < W.heap.size := blk_lt h
theorem CAt.below {W W' : World} {b : Nat} {c : Ct} (h : CAt W b c) (hb : Below W.heap.size W W') : CAt W' b c := (hb.block b h.lt).trans h
theorem CAt.cell {W : World} {b : Nat} {c : Ct} (h : CAt W b c) (p : Nat) (hp : p < 3) : W.cell? ⟨b, 1 + p, none⟩ = some (.int .i64 (c.u p)) := by
 rw [blk_cell h]
 rcases p with _ | _ | _ | p
 ·
  simp
 ·
  simp
 ·
  simp
 ·
  omega
theorem CAt.setT {W : World} {b : Nat} {c : Ct} (h : CAt W b c) (v : Int) : CAt (W.setCell ⟨b, 0, none⟩ (.int .i64 v)) b ⟨v, c.u⟩ := by
 have h1 := blk_set h 0 (.int .i64 v)
 unfold CAt
 rw [h1]
 simp
theorem CAt.setU {W : World} {b : Nat} {c : Ct} (h : CAt W b c) (p : Nat) (hp : p < 3) (v : Int) : CAt (W.setCell ⟨b, 1 + p, none⟩ (.int .i64 v)) b ⟨c.t, fun j => if j = p then v else c.u j⟩ := by
 have h2 := blk_set h (1 + p) (.int .i64 v)
 unfold CAt
 rw [h2]
 rcases p with _ | _ | _ | p
 ·
  simp
 ·
  simp
 ·
  simp
 ·
  omega
def Ct.small (c : Ct) (n : Int) : Prop := (-n ≤ c.t ∧ c.t ≤ n) ∧ ∀ j, -(1000 * n) ≤ c.u j ∧ c.u j ≤ 1000 * n
set_option maxRecDepth 100000 in
set_option maxHeartbeats 4000000 in
theorem add_calls (b : Nat) (c : Ct) (f0 : Int) (fv : Value) (p : Nat) (x s : Int) (hp : p < 3) (hx : 0 ≤ x ∧ x ≤ 1000) (hs : s = 1 ∨ s = -1) (hc : c.small 1000) (w : World) (hC : CAt w b c) :
  Calls Tryd.prog 95 #[.pointer (some ⟨b, 0, none⟩), .agg #[.int .i64 f0, fv, .int .i64 p, .int .i64 x], .int .i64 s] w fun e w' => e = .returned (.tuple #[]) ∧ CAt w' b (c.add p x s) ∧ KeepBut w w' b none ∧ Below b w w' := by
 have hlt := hC.lt
 obtain ⟨⟨t1, t2⟩, hu⟩ := hc
 have hup := hu p
 have c0 := blk_cell hC 0
 simp at c0
 have f0' := blk_frozen hC 0
 have hne : b ≠ w.heap.size := by omega
 have hct : IntKind.i64.wrap (c.t + s) = c.t + s := IntWalk.i64_in _ (by rcases hs with rfl | rfl <;> omega)
 have hsb : -1 ≤ s ∧ s ≤ 1 := by rcases hs with rfl | rfl <;> omega
 have hsx : IntKind.i64.wrap (s * x) = s * x := IntWalk.i64_in _ (by rcases hs with rfl | rfl <;> omega)
 have hsu : IntKind.i64.wrap (c.u p + s * x) = c.u p + s * x := IntWalk.i64_in _ (by rcases hs with rfl | rfl <;> omega)
 have HSX := Lib.hid (And.intro hsx hsu)
 have HC := Lib.hid hC
 clear hC hu hs hup hct hsx hsu
 generalize hctq : c.t = ct at c0 t1 t2
 have HCT := Lib.hid hctq
 clear hctq
 go_enter Tryd.func95, Tryd.ntmps95
 go_upto_region 2 with (fail)
 obtain ⟨W1, hW1⟩ : ∃ W1, W1 = (w.setCell ⟨b, 0, none⟩ (.int .i64 (ct + s))).alloc (.cells #[.int .i64 f0, fv, .int .i64 p, .int .i64 x] 58) := ⟨_, rfl⟩
 have hsz : (w.setCell ⟨b, 0, none⟩ (.int .i64 (ct + s))).heap.size = w.heap.size := by simp [World.setCell]
 have hBa : Below (w.setCell ⟨b, 0, none⟩ (.int .i64 (ct + s))).heap.size (w.setCell ⟨b, 0, none⟩ (.int .i64 (ct + s))) W1 := by rw [hW1]; exact (Below.refl _ _).alloc (Nat.le_refl _) _
 have bb : W1.heap[w.heap.size]? = some (.cells #[.int .i64 f0, fv, .int .i64 p, .int .i64 x] 58 (0, 0)) := by rw [hW1, ← hsz]; exact World.alloc_heap_new _ _
 have b2 : W1.cell? ⟨w.heap.size, 2, none⟩ = some (.int .i64 p) := (blk_cell bb 2).trans (by simp)
 have b3 : W1.cell? ⟨w.heap.size, 3, none⟩ = some (.int .i64 x) := (blk_cell bb 3).trans (by simp)
 clear bb
 have HC1 := Lib.hid ((HC.out.setT (ct + s)).below hBa)
 have HB1 : Hid (Below b w W1) := Lib.hid (((Below.refl b w).setCell (p := ⟨b, 0, none⟩) (Nat.le_refl _) _).trans (hBa.mono (by rw [hsz]; omega)))
 have HK1 : Hid (KeepBut w W1 b none) := Lib.hid (((KeepBut.refl w b none).set_ 0 _).trans (KeepBut.of_below hBa b none) (.inl rfl))
 rw [← hW1]
 clear hW1 hBa hsz
 have cp := HC1.out.cell p hp
 have fp := blk_frozen HC1.out (1 + p)
 have hpi : (p : Int) < 3 := by omega
 have hsx := HSX.out.1
 have hsu := HSX.out.2
 change W1.cell? ⟨b, 1 + p, none⟩ = some (.int .i64 (c.u p)) at cp
 generalize hq : c.u p = cu at cp hsu
 have HQ := Lib.hid hq
 clear hq c0 f0'
 go_still_tail 15, mixed
 go_wp2
 refine bodyPost_end (results_none rfl _ _ _) rfl ?_
 have hend : CAt (W1.setCell ⟨b, 1 + p, none⟩ (.int .i64 (cu + s * x))) b (c.add p x s) := by
  have h := HC1.out.setU p hp (cu + s * x)
  unfold Ct.add
  rw [HCT.out, ← HQ.out] 
  rw [← HQ.out] at h
  have e : (fun j => if j = p then c.u j + s * x else c.u j) = fun j => if j = p then c.u p + s * x else c.u j := by
   funext j
   by_cases hj : j = p
   ·
    rw [if_pos hj, if_pos hj, hj]
   ·
    rw [if_neg hj, if_neg hj]
  rw [e]
  exact h
 have hBb : Below b W1 (W1.setCell ⟨b, 1 + p, none⟩ (.int .i64 (cu + s * x))) := (Below.refl b W1).setCell (p := ⟨b, 1 + p, none⟩) (Nat.le_refl _) _
 exact ⟨rfl, hend.below (Below.refl _ _).drew, (KeepBut.set_ HK1.out (1 + p) _).trans (KeepBut.of_below (Below.refl _ _).drew b none) (.inl rfl), (HB1.out.trans hBb).drew⟩
def Ct.can (c : Ct) (p : Nat) (x : Int) (rm : List Int) (wk : Int) : Bool := decide (c.t < wk) && decide (c.u p + x ≤ rm.getD p 0)
set_option maxRecDepth 100000 in
set_option maxHeartbeats 4000000 in
theorem takes_calls (b : Nat) (c : Ct) (f0 : Int) (fv : Value) (p : Nat) (x : Int) (A : Option Addr) (k : Nat) (rm : List Int) (wk : Int) (hp : p < 3) (hx : 0 ≤ x ∧ x ≤ 1000) (hc : c.small 1000) (hrm : rm.length = 3) (w : World) (hC : CAt w b c) (hr : (Kd.int .i64).C w A rm.length rm) :
  Calls Tryd.prog 96 #[.pointer (some ⟨b, 0, none⟩), .agg #[.int .i64 f0, fv, .int .i64 p, .int .i64 x], .slice A rm.length k, .int .i64 wk] w fun e w' => e = .returned (.bool (c.can p x rm wk)) ∧ CAt w' b (if c.can p x rm wk then c.add p x 1 else c) ∧ KeepBut w w' b none ∧ Below b w w' := by
 have hlt := hC.lt
 have hup := hc.2 p
 have HS := Lib.hid hc
 have HR := Lib.hid hr
 clear hc hr
 have hne : b ≠ w.heap.size := by omega
 obtain ⟨W1, hW1⟩ : ∃ W1, W1 = w.alloc (.cells #[.int .i64 f0, fv, .int .i64 p, .int .i64 x] 58) := ⟨_, rfl⟩
 have hBa : Below w.heap.size w W1 := by rw [hW1]; exact (Below.refl _ _).alloc (Nat.le_refl _) _
 have bb : W1.heap[w.heap.size]? = some (.cells #[.int .i64 f0, fv, .int .i64 p, .int .i64 x] 58 (0, 0)) := by rw [hW1]; exact World.alloc_heap_new _ _
 have b0 : W1.cell? ⟨w.heap.size, 0, none⟩ = some (.int .i64 f0) := (blk_cell bb 0).trans (by simp)
 have b1 : W1.cell? ⟨w.heap.size, 1, none⟩ = some fv := (blk_cell bb 1).trans (by simp)
 have b2 : W1.cell? ⟨w.heap.size, 2, none⟩ = some (.int .i64 p) := (blk_cell bb 2).trans (by simp)
 have b3 : W1.cell? ⟨w.heap.size, 3, none⟩ = some (.int .i64 x) := (blk_cell bb 3).trans (by simp)
 have HC1 := Lib.hid (hC.below hBa)
 have HBa := Lib.hid hBa
 have HC0 := Lib.hid hC
 have c0 := blk_cell (hC.below hBa) 0
 simp at c0
 have cp := (hC.below hBa).cell p hp
 obtain ⟨ad, rfl, cr⟩ := at_num (Kd.C_below HR.out hBa) p (by omega)
 clear bb hBa hC
 have hpi : (p : Int) < 3 := by omega
 have hpr : (p : Int) < (rm.length : Int) := by omega
 have hsu : IntKind.i64.wrap (c.u p + x) = c.u p + x := IntWalk.i64_in _ (by omega)
 have HCAN : Hid (c.can p x rm wk = (decide (c.t < wk) && decide (c.u p + x ≤ rm.getD p 0))) := Lib.hid rfl
 have HADD := fun W hC => add_calls b c f0 fv p x 1 hp hx (.inl rfl) HS.out W hC
 generalize c.can p x rm wk = cb at HCAN ⊢
 generalize hce : (if cb then c.add p x 1 else c) = c' 
 have HCE := Lib.hid hce
 clear hce
 generalize c.u p = cu at cp hsu hup HCAN
 generalize c.t = ct at c0 HCAN
 generalize rm.getD p 0 = rp at cr HCAN
 go_enter Tryd.func96, Tryd.ntmps96
 go_upto_region 1 with (fail)
 rw [← hW1]
 clear hW1
 by_cases h1 : ct < wk
 ·
  have g1 : decide (ct ≥ wk) = false := decide_eq_false (by omega)
  have g1' : decide (wk ≤ ct) = false := decide_eq_false (by omega)
  have e1 : decide (ct < wk) = true := decide_eq_true h1
  by_cases h2 : cu + x ≤ rp
  ·
   have g2 : decide (cu + x > rp) = false := decide_eq_false (by omega)
   have g2' : decide (rp < cu + x) = false := decide_eq_false (by omega)
   have e2 : decide (cu + x ≤ rp) = true := decide_eq_true h2
   rw [e1, e2] at HCAN
   clear h1 h2 e1 e2
   go_wp2
   go_quiet (fail)
   have hBq : Below w.heap.size w (W1.drewN nq) := pw_below_drewN HBa.out nq
   have hCq := HC0.out.below hBq
   go_wp2_with (go_at_call 95; refine (HADD _ hCq).mono ?_; rintro e w2 ⟨rfl, hC2, hK2, hB2⟩)
   go_ret
   have hc' : c' = c.add p x 1 := by rw [← HCE.out, HCAN.out]; rfl
   refine ⟨ret_bool HCAN.out.symm, ?_, (KeepBut.of_below hBq b none).trans hK2 (.inl rfl), (hBq.mono (by omega)).trans hB2⟩
   rw [hc']
   exact hC2
  ·
   have g2 : decide (cu + x > rp) = true := decide_eq_true (by omega)
   have g2' : decide (rp < cu + x) = true := decide_eq_true (by omega)
   have e2 : decide (cu + x ≤ rp) = false := decide_eq_false h2
   rw [e1, e2] at HCAN
   clear h1 h2 e1 e2
   go_wp2
   go_quiet (fail)
   go_wp2
   go_ret
   have hc' : c' = c := by rw [← HCE.out, HCAN.out]; rfl
   refine ⟨ret_bool HCAN.out.symm, ?_, (KeepBut.of_below HBa.out b none |> fun h => h.trans (KeepBut.of_below (pw_below_drewN (Below.refl _ _) nq) b none) (.inl rfl)), (pw_below_drewN HBa.out nq).mono (by omega)⟩
   rw [hc']
   exact HC1.out.below (pw_below_drewN (Below.refl _ _) nq)
 ·
  have g1 : decide (ct ≥ wk) = true := decide_eq_true (by omega)
  have g1' : decide (wk ≤ ct) = true := decide_eq_true (by omega)
  have e1 : decide (ct < wk) = false := decide_eq_false h1
  rw [e1, Bool.false_and] at HCAN
  clear h1 e1
  go_wp2
  go_quiet (fail)
  go_wp2
  go_ret
  have hc' : c' = c := by rw [← HCE.out, HCAN.out]; rfl
  refine ⟨ret_bool HCAN.out.symm, ?_, (KeepBut.of_below HBa.out b none |> fun h => h.trans (KeepBut.of_below (pw_below_drewN (Below.refl _ _) nq) b none) (.inl rfl)), (pw_below_drewN HBa.out nq).mono (by omega)⟩
  rw [hc']
  exact HC1.out.below (pw_below_drewN (Below.refl _ _) nq)
end Go.Proofs.YtdjdfbfcjajlkaaDoor

namespace Go.Proofs.YtdjdfbfcjajlkaaDoor
set_option linter.unusedVariables false
set_option linter.unusedSimpArgs false
open Go.RowKit Go.Shelf Bits
open Go.Proofs.YtdjdfbfcjajlkaaDoorW.PrintWords Go.Proofs.YtdjdfbfcjajlkaaDoorW.PrintLast Go.Proofs.YtdjdfbfcjajlkaaDoorW.PrintMore
theorem allIn_is (b : Bool) (A : Option Addr) (c : Nat) (l : List Int) (lo hi : Int) (h : Hid (allInB l lo hi = b)) (w : World) (hr : (Kd.int .i64).C w A l.length l) :
  Calls Tryd.prog 82 #[.slice A l.length c, .int .i64 lo, .int .i64 hi] w fun e w' => e = .returned (.bool b) ∧ w' = w :=
 (allIn_calls A c l lo hi w hr).mono fun e w' ⟨he, hw⟩ => ⟨by rw [he, h.out], hw⟩
theorem ascends_is (b : Bool) (A : Option Addr) (c : Nat) (l : List Int) (h : Hid (ascB l = b)) (w : World) (hr : (Kd.int .i64).C w A l.length l) :
  Calls Tryd.prog 123 #[.slice A l.length c] w fun e w' => e = .returned (.bool b) ∧ Below w.heap.size w w' :=
 (ascends_calls A c l w hr).mono fun e w' ⟨he, hw⟩ => ⟨by rw [he, h.out], hw⟩
def taskFineB (n : Int) (t : Tk) : Bool := inB t.f0 1 20 && inB t.f2 0 2 && inB t.f3 1 4 && allInB t.f1 0 (n - 1) && ascB t.f1
def tkVal (t : Tk) (v : Value) : Value := .agg #[.int .i64 t.f0, v, .int .i64 t.f2, .int .i64 t.f3]
set_option maxRecDepth 100000 in
set_option maxHeartbeats 2000000 in
theorem validTask_calls (t : Tk) (A : Option Addr) (c : Nat) (n : Int) (hn0 : 0 ≤ n) (hn : n ≤ 9223372036854775807) (w : World) (hC : (Kd.int .i64).C w A t.f1.length t.f1) :
  Calls Tryd.prog 109 #[.agg #[.int .i64 t.f0, .slice A t.f1.length c, .int .i64 t.f2, .int .i64 t.f3], .int .i64 n] w fun e w' => e = .returned (.bool (taskFineB n t)) ∧ Below w.heap.size w w' := by
 cases b0 : inB t.f0 1 20
 ·
  have H0 := Lib.hid b0
  clear b0
  go_enter Tryd.func109, Tryd.ntmps109
  go_wp2_with (first | (go_at_call 50; with_reducible refine (inRange_is _ _ _ _ H0 _).mono ?_; rintro e w' ⟨rfl, rfl⟩))
  go_ret
  exact ⟨ret_bool (by simp only [taskFineB, H0.out]; rfl), below_alloc (Below.refl _ _) _⟩
 ·
  have H0 := Lib.hid b0
  clear b0
  cases b1 : inB t.f2 0 2
  ·
   have H1 := Lib.hid b1
   clear b1
   go_enter Tryd.func109, Tryd.ntmps109
   go_wp2_with (first | (go_at_call 50; with_reducible refine (inRange_is _ _ _ _ H0 _).mono ?_; rintro e w' ⟨rfl, rfl⟩) | (go_at_call 50; with_reducible refine (inRange_is _ _ _ _ H1 _).mono ?_; rintro e w' ⟨rfl, rfl⟩))
   go_ret
   exact ⟨ret_bool (by simp only [taskFineB, H0.out, H1.out]; rfl), below_alloc (Below.refl _ _) _⟩
  ·
   have H1 := Lib.hid b1
   clear b1
   cases b2 : inB t.f3 1 4
   ·
    have H2 := Lib.hid b2
    clear b2
    go_enter Tryd.func109, Tryd.ntmps109
    go_wp2_with (first | (go_at_call 50; with_reducible refine (inRange_is _ _ _ _ H0 _).mono ?_; rintro e w' ⟨rfl, rfl⟩) | (go_at_call 50; with_reducible refine (inRange_is _ _ _ _ H1 _).mono ?_; rintro e w' ⟨rfl, rfl⟩) | (go_at_call 50; with_reducible refine (inRange_is _ _ _ _ H2 _).mono ?_; rintro e w' ⟨rfl, rfl⟩))
    go_ret
    exact ⟨ret_bool (by simp only [taskFineB, H0.out, H1.out, H2.out]; rfl), below_alloc (Below.refl _ _) _⟩
   ·
    have H2 := Lib.hid b2
    clear b2
    cases b3 : allInB t.f1 0 (n - 1)
    ·
     have H3 := Lib.hid b3
     clear b3
     go_enter Tryd.func109, Tryd.ntmps109
     go_wp2_with (first | (go_at_call 50; with_reducible refine (inRange_is _ _ _ _ H0 _).mono ?_; rintro e w' ⟨rfl, rfl⟩) | (go_at_call 50; with_reducible refine (inRange_is _ _ _ _ H1 _).mono ?_; rintro e w' ⟨rfl, rfl⟩) | (go_at_call 50; with_reducible refine (inRange_is _ _ _ _ H2 _).mono ?_; rintro e w' ⟨rfl, rfl⟩) | (go_at_call 82; refine (allIn_is _ _ _ _ _ _ H3 _ (Kd.C_below hC (below_alloc (Below.refl _ _) _))).mono ?_; rintro e w' ⟨rfl, rfl⟩))
     go_ret
     exact ⟨ret_bool (by simp only [taskFineB, H0.out, H1.out, H2.out, H3.out]; rfl), below_alloc (Below.refl _ _) _⟩
    ·
     have H3 := Lib.hid b3
     clear b3
     cases b4 : ascB t.f1
     ·
      have H4 := Lib.hid b4
      clear b4
      go_enter Tryd.func109, Tryd.ntmps109
      go_wp2_with (first | (go_at_call 50; with_reducible refine (inRange_is _ _ _ _ H0 _).mono ?_; rintro e w' ⟨rfl, rfl⟩) | (go_at_call 50; with_reducible refine (inRange_is _ _ _ _ H1 _).mono ?_; rintro e w' ⟨rfl, rfl⟩) | (go_at_call 50; with_reducible refine (inRange_is _ _ _ _ H2 _).mono ?_; rintro e w' ⟨rfl, rfl⟩) | (go_at_call 82; refine (allIn_is _ _ _ _ _ _ H3 _ (Kd.C_below hC (below_alloc (Below.refl _ _) _))).mono ?_; rintro e w' ⟨rfl, rfl⟩) | (go_at_call 123; refine (ascends_is _ _ _ _ H4 _ (Kd.C_below hC (below_alloc (Below.refl _ _) _))).mono ?_; rintro e w1 ⟨rfl, hB1⟩))
      go_ret
      exact ⟨ret_bool (by simp only [taskFineB, H0.out, H1.out, H2.out, H3.out, H4.out]; rfl), below_step (below_alloc (Below.refl _ _) _) hB1⟩
     ·
      have H4 := Lib.hid b4
      clear b4
      go_enter Tryd.func109, Tryd.ntmps109
      go_wp2_with (first | (go_at_call 50; with_reducible refine (inRange_is _ _ _ _ H0 _).mono ?_; rintro e w' ⟨rfl, rfl⟩) | (go_at_call 50; with_reducible refine (inRange_is _ _ _ _ H1 _).mono ?_; rintro e w' ⟨rfl, rfl⟩) | (go_at_call 50; with_reducible refine (inRange_is _ _ _ _ H2 _).mono ?_; rintro e w' ⟨rfl, rfl⟩) | (go_at_call 82; refine (allIn_is _ _ _ _ _ _ H3 _ (Kd.C_below hC (below_alloc (Below.refl _ _) _))).mono ?_; rintro e w' ⟨rfl, rfl⟩) | (go_at_call 123; refine (ascends_is _ _ _ _ H4 _ (Kd.C_below hC (below_alloc (Below.refl _ _) _))).mono ?_; rintro e w1 ⟨rfl, hB1⟩))
      go_ret
      exact ⟨ret_bool (by simp only [taskFineB, H0.out, H1.out, H2.out, H3.out, H4.out]; rfl), below_step (below_alloc (Below.refl _ _) _) hB1⟩
theorem validTask_is (b : Bool) (t : Tk) (A : Option Addr) (c : Nat) (n : Int) (h : Hid (taskFineB n t = b)) (hn0 : 0 ≤ n) (hn : n ≤ 9223372036854775807) (w : World) (hC : (Kd.int .i64).C w A t.f1.length t.f1) :
  Calls Tryd.prog 109 #[.agg #[.int .i64 t.f0, .slice A t.f1.length c, .int .i64 t.f2, .int .i64 t.f3], .int .i64 n] w fun e w' => e = .returned (.bool b) ∧ Below w.heap.size w w' :=
 (validTask_calls t A c n hn0 hn w hC).mono fun e w' ⟨he, hw⟩ => ⟨by rw [he, h.out], hw⟩
def tasksFineB (g : List Tk) : Bool := g.all (taskFineB g.length) && decide (g.length ≤ 8)
set_option maxRecDepth 100000 in
set_option maxHeartbeats 2000000 in
theorem tasksFine_calls (A : Option Addr) (c : Nat) (g : List Tk) (w : World) (hr : kTk.C w A g.length g) :
  Calls Tryd.prog 80 #[.slice A g.length c] w fun e w' => e = .returned (.bool (tasksFineB g)) ∧ Below w.heap.size w w' := by
 have hl := (C_len hr).2
 have HR := Lib.hid hr
 clear hr
 go_enter Tryd.func80, Tryd.ntmps80
 go_wp2
 go_loopw [3] (fun i wr => ∃ (k : Nat), k ≤ g.length ∧ i = .int .i64 k ∧ Hid (∀ j, j < k → taskFineB g.length (g.getD j zTk) = true) ∧ Below w.heap.size w wr) (fun i _ => g.length - (intOf i).toNat)
 case atStart => exact ⟨0, Nat.zero_le _, rfl, Lib.hid fun j h => absurd h (Nat.not_lt_zero _), Below.refl _ _⟩
 case round =>
  obtain ⟨k, hk, rfl, HS, HB⟩ := hrel
  by_cases hlt : k < g.length
  ·
   obtain ⟨ad, A1, c1, rfl, hc0, hc1, hc2, hc3, hl1, hC1⟩ := at_Tk (Kd.C_below HR.out HB) k hlt
   cases hb : taskFineB g.length (rdTk g k)
   ·
    have HX := Lib.hid hb
    have HF : Hid (tasksFineB g = false) := Lib.hid (by unfold tasksFineB; rw [all_not (p := taskFineB g.length) zTk hlt hb]; rfl)
    clear hb
    generalize rdTk g k = t at *
    go_wp2_with (go_at_call 109; refine (validTask_is _ t _ _ _ HX (by omega) (by omega) _ hC1).mono ?_; rintro e w1 ⟨rfl, hB1⟩)
    go_ret
    exact ⟨ret_bool HF.out.symm, below_step HB hB1⟩
   ·
    have HX := Lib.hid hb
    have HN := step_lt HS hb
    clear hb
    generalize rdTk g k = t at *
    go_wp2_with (go_at_call 109; refine (validTask_is _ t _ _ _ HX (by omega) (by omega) _ hC1).mono ?_; rintro e w1 ⟨rfl, hB1⟩)
    go_roundw
    case rel => exact ⟨k + 1, by omega, by go_num, HN, below_step HB hB1⟩
    case measure => simp [intOf]; omega
  ·
   have HF : Hid (tasksFineB g = decide (g.length ≤ 8)) := Lib.hid (by unfold tasksFineB; rw [all_take (p := taskFineB g.length) (l := g) zTk fun j hj => HS.out j (by omega)]; rfl)
   go_wp2
   go_ret
   exact ⟨ret_bool (by rw [HF.out, decide_eq_decide]; omega), HB⟩
theorem tasksFine_is (b : Bool) (A : Option Addr) (c : Nat) (g : List Tk) (h : Hid (tasksFineB g = b)) (w : World) (hr : kTk.C w A g.length g) :
  Calls Tryd.prog 80 #[.slice A g.length c] w fun e w' => e = .returned (.bool b) ∧ Below w.heap.size w w' :=
 (tasksFine_calls A c g w hr).mono fun e w' ⟨he, hw⟩ => ⟨by rw [he, h.out], hw⟩
end Go.Proofs.YtdjdfbfcjajlkaaDoor

namespace Go.Proofs.YtdjdfbfcjajlkaaDoor
set_option linter.unusedVariables false
set_option linter.unusedSimpArgs false
open Go.RowKit Go.Shelf Bits
open Go.Proofs.YtdjdfbfcjajlkaaDoorW.PrintWords Go.Proofs.YtdjdfbfcjajlkaaDoorW.PrintLast Go.Proofs.YtdjdfbfcjajlkaaDoorW.PrintMore
def specReady (g : List Tk) (out : List Nat) (i : Nat) : Bool := !decide ((i : Int) ∈ ints out) && allDoneB (rdTk g i).f1 (ints out)
def topFirst (g : List Tk) (out : List Nat) : Option Nat := (List.range g.length).find? (specReady g out)
def topStep (g : List Tk) (out : List Nat) : List Nat := match topFirst g out with
 | some i => out ++ [i]
 | none => out
def topN (g : List Tk) : Nat → List Nat
 | 0 => []
 | k + 1 => topStep g (topN g k)
theorem topFirst_some {g : List Tk} {out : List Nat} {k : Nat} (h : k < g.length) (hp : specReady g out k = true) (hlow : ∀ j, j < k → specReady g out j = false) : topFirst g out = some k := find_range h hp hlow
theorem topFirst_none {g : List Tk} {out : List Nat} (hlow : ∀ j, j < g.length → specReady g out j = false) : topFirst g out = none := by
 unfold topFirst
 rw [List.find?_eq_none]
 intro j hj
 rw [hlow j (List.mem_range.1 hj)]; simp
theorem mem_ints {i : Nat} {l : List Nat} : ((i : Int) ∈ ints l) ↔ i ∈ l := by
 simp only [ints, List.mem_map]
 constructor
 ·
  rintro ⟨j, hj, e⟩
  have : j = i := Int.ofNat.inj e
  exact this ▸ hj
 ·
  exact fun h => ⟨i, h, rfl⟩
theorem topFirst_spec {g : List Tk} {out : List Nat} {k : Nat} (h : topFirst g out = some k) : k < g.length ∧ ¬ k ∈ out ∧ specReady g out k = true := by
 unfold topFirst at h
 have h2 := List.find?_some h
 refine ⟨List.mem_range.1 (List.mem_of_find?_eq_some h), fun hm => ?_, h2⟩
 unfold specReady at h2
 rw [decide_eq_true (mem_ints.2 hm)] at h2
 simp at h2
theorem topN_facts (g : List Tk) : ∀ k, (topN g k).Nodup ∧ (∀ i ∈ topN g k, i < g.length) ∧ (topN g k).length ≤ k
 | 0 => ⟨List.nodup_nil, by intro i h; simp [topN] at h, Nat.le_refl _⟩
 | k + 1 => by
  obtain ⟨h1, h2, h3⟩ := topN_facts g k
  show (topStep g (topN g k)).Nodup ∧ (∀ i ∈ topStep g (topN g k), _) ∧ (topStep g (topN g k)).length ≤ _
  unfold topStep
  cases hf : topFirst g (topN g k) with
  | none => exact ⟨h1, h2, Nat.le_succ_of_le h3⟩
  | some i =>
   obtain ⟨hi, hn, _⟩ := topFirst_spec hf
   refine ⟨?_, fun j hj => ?_, by simp; omega⟩
   ·
    rw [List.nodup_append]
    exact ⟨h1, List.nodup_cons.2 ⟨by simp, List.nodup_nil⟩, fun a ha b hb => by rw [List.mem_singleton.1 hb]; exact fun e => hn (e ▸ ha)⟩
   ·
    rcases List.mem_append.1 hj with hj | hj
    ·
     exact h2 j hj
    ·
     rw [List.mem_singleton.1 hj]; exact hi
def lenOf : Value → Nat
 | .slice _ n _ => n
 | _ => 0
theorem nodup_below : ∀ {n : Nat} {l : List Nat}, l.Nodup → (∀ i ∈ l, i < n) → l.length ≤ n
 | 0, l, _, hb => by
  cases l with
  | nil => exact Nat.le_refl _
  | cons x r => exact absurd (hb x (List.mem_cons_self ..)) (Nat.not_lt_zero _)
 | n + 1, l, h, hb => by
  by_cases hm : n ∈ l
  ·
   have h1 := List.length_erase_of_mem hm
   have h2 : (l.erase n).length ≤ n := nodup_below (h.erase n) fun i hi => by
    have := (h.mem_erase_iff).1 hi
    have := hb i this.2
    omega
   omega
  ·
   have : l.length ≤ n := nodup_below h fun i hi => by
    have := hb i hi
    have : i ≠ n := fun e => hm (e ▸ hi)
    omega
   omega
theorem topN_le (g : List Tk) (k : Nat) : (topN g k).length ≤ g.length := nodup_below (topN_facts g k).1 (topN_facts g k).2.1
theorem topN_stop {g : List Tk} {k : Nat} (h : topFirst g (topN g k) = none) : ∀ j, topN g (k + j) = topN g k
 | 0 => rfl
 | j + 1 => by
  show topStep g (topN g (k + j)) = _
  rw [topN_stop h j]
  unfold topStep
  rw [h]
def topL (g : List Tk) : List Nat := topN g g.length
set_option maxRecDepth 100000 in
set_option maxHeartbeats 4000000 in
theorem topOrder_calls (A : Option Addr) (c : Nat) (g : List Tk) (hlen : g.length ≤ 8) (w : World) (hr : kTk.C w A g.length g) :
  Calls Tryd.prog 81 #[.slice A g.length c] w fun e w' => ∃ v, e = .returned v ∧ Kd.R (Kd.int .i64) 3 w' w.heap.size (fun _ => True) v (ints (topL g)) ∧ Below w.heap.size w w' := by
 have HR := Lib.hid hr
 clear hr
 go_enter Tryd.func81, Tryd.ntmps81
 go_wp2
 have HB1 : Below w.heap.size w (w.alloc (.cells #[] 3)) := (Below.refl _ _).alloc (Nat.le_refl _) _
 have HO : Kd.R (Kd.int .i64) 3 (w.alloc (.cells #[] 3)) w.heap.size (fun _ => True) (.slice (some ⟨w.heap.size, 0, none⟩) 0 0) (ints []) := Kd.R_of_own (World.ownsRow_lit (base := w.heap.size) (size := 1) w #[] 0 (Nat.le_refl _) (by simp [maxLen]) rfl) (fun _ _ => trivial)
 go_loopw [3] (fun out wr => ∃ (l : List Nat), Hid (topN g l.length = l) ∧ Kd.R (Kd.int .i64) 3 wr w.heap.size (fun _ => True) out (ints l) ∧ Below w.heap.size w wr) (fun out _ => g.length + 1 - lenOf out)
 case atStart => exact ⟨[], Lib.hid rfl, HO, HB1⟩
 case round =>
  clear HO HB1
  obtain ⟨l, HS, HO, HB⟩ := hrel
  have hll : l.length ≤ g.length := by have := topN_le g l.length; rw [HS.out] at this; exact this
  obtain ⟨Al, cl, rfl, hcl, hCl⟩ := Kd.R_reads HO
  have HC := Lib.hid hCl
  clear hCl
  go_wp2
  obtain ⟨wo, rfl⟩ : ∃ wo : World, wo = wr := ⟨_, rfl⟩
  go_loopw [4, 5] (fun nx i wi => ∃ (j : Nat), j ≤ g.length ∧ i = .int .i64 j ∧ ((nx = .int .i64 (-1) ∧ Hid (∀ q, q < j → specReady g l q = false)) ∨ ∃ q : Nat, q < j ∧ nx = .int .i64 q ∧ Hid (topFirst g l = some q)) ∧ wi = wo) (fun nx i _ => g.length - (intOf i).toNat)
  case atStart => exact ⟨0, Nat.zero_le _, rfl, .inl ⟨rfl, Lib.hid fun q h => absurd h (Nat.not_lt_zero _)⟩, rfl⟩
  case round =>
   obtain ⟨j, hj, rfl, hnx, rfl⟩ := hrel
   rcases hnx with ⟨rfl, HL⟩ | ⟨q, hq, rfl, HF⟩
   ·
    by_cases hjl : j < g.length
    ·
     obtain ⟨ad, A1, c1, rfl, hc0, hc1, hc2, hc3, hl1, hC1⟩ := at_Tk (Kd.C_below HR.out HB) j hjl
     have hjj : decide ((j : Int) < (g.length : Int)) = true := decide_eq_true (by omega)
     cases hm : decide ((j : Int) ∈ ints l)
     ·
      have HM := Lib.hid hm
      cases hd : allDoneB (rdTk g j).f1 (ints l)
      ·
       have HD := Lib.hid hd
       have HN := step_lt HL (show specReady g l j = false by unfold specReady; rw [hm, hd]; rfl)
       clear hm hd
       generalize rdTk g j = t at *
       go_wp2_with (first | (go_at_call 110; with_reducible refine (isIn_is _ _ _ _ _ HM _ HC.out).mono ?_; rintro e w' ⟨rfl, rfl⟩) | (go_at_call 111; refine (allDone_is _ _ _ _ _ _ _ HD _ hC1 HC.out).mono ?_; rintro e w' ⟨rfl, rfl⟩))
       go_roundw
       case rel => exact ⟨j + 1, by omega, by go_num, .inl ⟨rfl, HN⟩, trivial⟩
       case measure => simp [intOf]; omega
      ·
       have HD := Lib.hid hd
       have HF := Lib.hid (topFirst_some hjl (show specReady g l j = true by unfold specReady; rw [hm, hd]; rfl) HL.out)
       clear hm hd
       generalize rdTk g j = t at *
       go_wp2_with (first | (go_at_call 110; with_reducible refine (isIn_is _ _ _ _ _ HM _ HC.out).mono ?_; rintro e w' ⟨rfl, rfl⟩) | (go_at_call 111; refine (allDone_is _ _ _ _ _ _ _ HD _ hC1 HC.out).mono ?_; rintro e w' ⟨rfl, rfl⟩))
       go_roundw
       case rel => exact ⟨j + 1, by omega, by go_num, .inr ⟨j, by omega, rfl, HF⟩, trivial⟩
       case measure => simp [intOf]; omega
     ·
      have HM := Lib.hid hm
      have HN := step_lt HL (show specReady g l j = false by unfold specReady; rw [hm]; rfl)
      clear hm
      generalize rdTk g j = t at *
      go_wp2_with (go_at_call 110; with_reducible refine (isIn_is _ _ _ _ _ HM _ HC.out).mono ?_; rintro e w' ⟨rfl, rfl⟩)
      go_roundw
      case rel => exact ⟨j + 1, by omega, by go_num, .inl ⟨rfl, HN⟩, trivial⟩
      case measure => simp [intOf]; omega
    ·
     have hjj : decide ((j : Int) < (g.length : Int)) = false := decide_eq_false (by omega)
     have hn : topFirst g l = none := topFirst_none fun q hq => HL.out q (by omega)
     have HT : Hid (topL g = l) := Lib.hid (by
      have h1 : topFirst g (topN g l.length) = none := by rw [HS.out]; exact hn
      have h2 := topN_stop h1 (g.length - l.length)
      rw [show l.length + (g.length - l.length) = g.length from by omega, HS.out] at h2
      exact h2)
     clear hn
     go_wp2
     go_ret
     exact ⟨_, rfl, by rw [HT.out]; exact HO, HB⟩
   ·
    have hqg : q < g.length := by omega
    have hgt : decide ((q : Int) < 0) = false := decide_eq_false (by omega)
    have HS2 : Hid (topN g (l ++ [q]).length = l ++ [q]) := Lib.hid (by
     rw [List.length_append]
     show topStep g (topN g l.length) = _
     rw [HS.out]
     unfold topStep
     rw [HF.out])
    have hl2 : (l ++ [q]).length ≤ g.length := by have := topN_le g (l ++ [q]).length; rw [HS2.out] at this; exact this
    simp at hl2
    by_cases hjl : j < g.length
    ·
     have hjj : decide ((j : Int) < (g.length : Int)) = true := decide_eq_true (by omega)
     go_wp2_with (at_builtin; refine ap_int (w0 := w) w.heap.size rfl _ _ rfl (.slice Al (ints l).length cl) (ints l) (q : Int) rfl rfl rfl HO HB HB.size (by rw [ints_length]; omega) ?_; intro v1 w2 hO2 hB2 _ _)
     obtain ⟨A', c', rfl, _, _⟩ := Kd.R_reads hO2
     refine ⟨⟨l ++ [q], HS2, by simpa [ints] using hO2, hB2⟩, ?_⟩
     simp only [lenOf, List.length_append, ints_length, List.length_singleton]
     omega
    ·
     have hjj : decide ((j : Int) < (g.length : Int)) = false := decide_eq_false (by omega)
     go_wp2_with (at_builtin; refine ap_int (w0 := w) w.heap.size rfl _ _ rfl (.slice Al (ints l).length cl) (ints l) (q : Int) rfl rfl rfl HO HB HB.size (by rw [ints_length]; omega) ?_; intro v1 w2 hO2 hB2 _ _)
     obtain ⟨A', c', rfl, _, _⟩ := Kd.R_reads hO2
     refine ⟨⟨l ++ [q], HS2, by simpa [ints] using hO2, hB2⟩, ?_⟩
     simp only [lenOf, List.length_append, ints_length, List.length_singleton]
     omega
def specValid (g : List Tk) : Bool := tasksFineB g && decide ((topL g).length = g.length)
set_option maxHeartbeats 2000000 in
theorem validGraph_calls (A : Option Addr) (c : Nat) (g : List Tk) (w : World) (hr : kTk.C w A g.length g) :
  Calls Tryd.prog 48 #[.slice A g.length c] w fun e w' => e = .returned (.bool (specValid g)) ∧ Below w.heap.size w w' := by
 have hl := (C_len hr).2
 have HR := Lib.hid hr
 clear hr
 cases hf : tasksFineB g
 ·
  have HF := Lib.hid hf
  clear hf
  go_enter Tryd.func48, Tryd.ntmps48
  go_wp2_with (go_at_call 80; refine (tasksFine_is _ _ _ _ HF _ HR.out).mono ?_; rintro e w1 ⟨rfl, hB1⟩)
  go_ret
  exact ⟨ret_bool (by rw [specValid, HF.out]; rfl), hB1⟩
 ·
  have HF := Lib.hid hf
  have hlen : g.length ≤ 8 := by
   unfold tasksFineB at hf
   simp at hf
   exact hf.2
  clear hf
  go_enter Tryd.func48, Tryd.ntmps48
  go_wp2_with (first | (go_at_call 80; refine (tasksFine_is _ _ _ _ HF _ HR.out).mono ?_; rintro e w1 ⟨rfl, hB1⟩) | (go_at_call 81; refine (topOrder_calls _ _ _ hlen _ (Kd.C_below HR.out hB1)).mono ?_; rintro e w2 ⟨v2, rfl, hR2, hB2⟩; obtain ⟨A2, c2, rfl, hl2, hC2⟩ := Kd.R_reads hR2; rw [ints_length]))
  go_ret
  refine ⟨ret_bool ?_, below_step hB1 hB2⟩
  rw [specValid, HF.out, Bool.true_and]
  rw [Bool.eq_iff_iff, beq_iff_eq, decide_eq_true_iff]
  omega
theorem validGraph_is (b : Bool) (A : Option Addr) (c : Nat) (g : List Tk) (h : Hid (specValid g = b)) (w : World) (hr : kTk.C w A g.length g) :
  Calls Tryd.prog 48 #[.slice A g.length c] w fun e w' => e = .returned (.bool b) ∧ Below w.heap.size w w' :=
 (validGraph_calls A c g w hr).mono fun e w' ⟨he, hw⟩ => ⟨by rw [he, h.out], hw⟩
end Go.Proofs.YtdjdfbfcjajlkaaDoor

namespace Go.Proofs.YtdjdfbfcjajlkaaDoor
set_option linter.unusedVariables false
set_option linter.unusedSimpArgs false
open Go.RowKit Go.Shelf Bits
open Go.Proofs.YtdjdfbfcjajlkaaDoorW.PrintWords Go.Proofs.YtdjdfbfcjajlkaaDoorW.PrintLast Go.Proofs.YtdjdfbfcjajlkaaDoorW.PrintMore
def rdB (g : List Tk) (d : List Int) (i : Nat) : Bool := !decide ((i : Int) ∈ d) && allDoneB (rdTk g i).f1 d
def readyS (g : List Tk) (d : List Int) : List Nat := (List.range g.length).filter (rdB g d)
theorem filter_snoc {p : Nat → Bool} (k : Nat) : (List.range (k + 1)).filter p = if p k then (List.range k).filter p ++ [k] else (List.range k).filter p := by
 rw [List.range_succ, List.filter_append]
 split
 ·
  rename_i h
  simp [h]
 ·
  rename_i h
  simp [h]
theorem filter_range_le (p : Nat → Bool) (k : Nat) : ((List.range k).filter p).length ≤ k := by
 have := List.length_filter_le p (List.range k)
 rwa [List.length_range] at this
set_option maxRecDepth 100000 in
set_option maxHeartbeats 4000000 in
theorem sready_calls (A : Option Addr) (c : Nat) (g : List Tk) (A' : Option Addr) (c' : Nat) (d : List Int) (hlen : g.length ≤ 8) (w : World) (hr : kTk.C w A g.length g) (hr' : (Kd.int .i64).C w A' d.length d) :
  Calls Tryd.prog 83 #[.slice A g.length c, .slice A' d.length c'] w fun e w' => ∃ v, e = .returned v ∧ Kd.R (Kd.int .i64) 3 w' w.heap.size (fun _ => True) v (ints (readyS g d)) ∧ Below w.heap.size w w' := by
 have HR := Lib.hid hr
 have HR' := Lib.hid hr'
 clear hr hr'
 go_enter Tryd.func83, Tryd.ntmps83
 go_wp2
 have HB1 : Below w.heap.size w (w.alloc (.cells #[] 3)) := (Below.refl _ _).alloc (Nat.le_refl _) _
 have HO : Kd.R (Kd.int .i64) 3 (w.alloc (.cells #[] 3)) w.heap.size (fun _ => True) (.slice (some ⟨w.heap.size, 0, none⟩) 0 0) (ints []) := Kd.R_of_own (World.ownsRow_lit (base := w.heap.size) (size := 1) w #[] 0 (Nat.le_refl _) (by simp [maxLen]) rfl) (fun _ _ => trivial)
 go_loopw [5, 6] (fun out i wr => ∃ j, j ≤ g.length ∧ i = .int .i64 (j : Nat) ∧ Kd.R (Kd.int .i64) 3 wr w.heap.size (fun _ => True) out (ints ((List.range j).filter (rdB g d))) ∧ Below w.heap.size w wr) (fun _ i _ => g.length - (intOf i).toNat)
 case atStart => exact ⟨0, Nat.zero_le _, rfl, HO, HB1⟩
 case round =>
  clear HO HB1
  obtain ⟨j, hj, rfl, hO, hB⟩ := hrel
  by_cases hjl : j < g.length
  ·
   obtain ⟨ad, A1, c1, rfl, hc0, hc1, hc2, hc3, hl1, hC1⟩ := at_Tk (Kd.C_below HR.out hB) j hjl
   have HD' := Lib.hid (Kd.C_below HR'.out hB)
   have HFS : Hid ((List.range (j + 1)).filter (rdB g d) = if rdB g d j then (List.range j).filter (rdB g d) ++ [j] else (List.range j).filter (rdB g d)) := Lib.hid (filter_snoc j)
   have hfl := filter_range_le (rdB g d) j
   have hjj : decide ((j : Int) < (g.length : Int)) = true := decide_eq_true (by omega)
   have HBD : Hid (rdB g d j = (!decide ((j : Int) ∈ d) && allDoneB (rdTk g j).f1 d)) := Lib.hid rfl
   generalize (List.range j).filter (rdB g d) = fl at hO HFS hfl
   cases hm : decide ((j : Int) ∈ d)
   ·
    have HM := Lib.hid hm
    cases hd : allDoneB (rdTk g j).f1 d
    ·
     have HD := Lib.hid hd
     rw [hm, hd] at HBD
     clear hm hd
     generalize rdTk g j = t at *
     go_wp2_with (first | (go_at_call 110; with_reducible refine (isIn_is _ _ _ _ _ HM _ HD'.out).mono ?_; rintro e w' ⟨rfl, rfl⟩) | (go_at_call 111; refine (allDone_is _ _ _ _ _ _ _ HD _ hC1 HD'.out).mono ?_; rintro e w' ⟨rfl, rfl⟩))
     go_roundw
     case rel => exact ⟨j + 1, by omega, by go_num, by rw [HFS.out, HBD.out]; exact hO, hB⟩
     case measure => simp [intOf]; omega
    ·
     have HD := Lib.hid hd
     rw [hm, hd] at HBD
     clear hm hd
     generalize rdTk g j = t at *
     go_wp2_with (first | (go_at_call 110; with_reducible refine (isIn_is _ _ _ _ _ HM _ HD'.out).mono ?_; rintro e w' ⟨rfl, rfl⟩) | (go_at_call 111; refine (allDone_is _ _ _ _ _ _ _ HD _ hC1 HD'.out).mono ?_; rintro e w' ⟨rfl, rfl⟩) | (at_builtin; refine ap_int (w0 := w) w.heap.size rfl _ _ rfl u5 (ints fl) (j : Int) rfl rfl rfl hO hB hB.size (by rw [ints_length]; omega) ?_; intro v1 w2 hO2 hB2 hg2 hat2; clear hg2 hat2))
     go_roundw
     case rel => exact ⟨j + 1, by omega, by go_num, by rw [HFS.out, HBD.out]; simpa [ints] using hO2, hB2⟩
     case measure => simp [intOf]; omega
   ·
    have HM := Lib.hid hm
    rw [hm] at HBD
    clear hm
    go_wp2_with (first | (go_at_call 110; with_reducible refine (isIn_is _ _ _ _ _ HM _ HD'.out).mono ?_; rintro e w' ⟨rfl, rfl⟩))
    go_roundw
    case rel => exact ⟨j + 1, by omega, by go_num, by rw [HFS.out, HBD.out]; exact hO, hB⟩
    case measure => simp [intOf]; omega
  ·
   obtain rfl : j = g.length := by omega
   have hjj : decide ((g.length : Int) < (g.length : Int)) = false := decide_eq_false (by omega)
   go_wp2
   go_ret
   exact ⟨_, rfl, hO, hB⟩
end Go.Proofs.YtdjdfbfcjajlkaaDoor
