/- Parts of the proof, laid as one text by a program of mine. -/
import Derived.Test.YtlapphhcficbjaaDoorKfmLawFnExactChartLinesa
import Derived.Test.YtlapphhcficbjaaDoorKfc19
namespace Go.Proofs.YtlapphhcficbjaaDoor
set_option linter.unusedVariables false
set_option linter.unusedSimpArgs false
open Go.RowKit Go.Shelf Bits
open Go.Proofs.YtlapphhcficbjaaDoorW.PrintWords Go.Proofs.YtlapphhcficbjaaDoorW.PrintLast Go.Proofs.YtlapphhcficbjaaDoorW.PrintMore
attribute [local go_sem] Oper.semAt_some
def mtGo : Nat → Nat → ByteArray → ByteArray
 | 0, _, o => o
 | f + 1, k, o => if k = 0 then o else mtGo f (k / 10) (⟨#[UInt8.ofNat (48 + k % 10)]⟩ ++ o)
def mtS (k : Nat) : ByteArray := ⟨#[109]⟩ ++ mtGo k k ⟨#[]⟩
theorem mtGo_zero (f : Nat) (o : ByteArray) : mtGo f 0 o = o := by
 cases f with
 | zero => rfl
 | succ f => exact if_pos rfl
theorem mtGo_step {f k : Nat} (h : 0 < k) (o : ByteArray) : mtGo (f + 1) k o = mtGo f (k / 10) (⟨#[UInt8.ofNat (48 + k % 10)]⟩ ++ o) := if_neg (by omega)
theorem digit_string (W : World) (r : Nat) (hr : r < 10) : (convert 22 9 (Value.slice (some ⟨W.heap.size, 0, none⟩) 1 1)).run Tryd.prog (W.alloc (.cells #[.int .u8 (48 + (r : Int))] 5)) = .ok (.string ⟨#[UInt8.ofNat (48 + r)]⟩) (W.alloc (.cells #[.int .u8 (48 + (r : Int))] 5)) := by
 have hl : (loadCells ⟨W.heap.size, 0, none⟩ 1).run Tryd.prog (W.alloc (.cells #[.int .u8 (48 + (r : Int))] 5)) = .ok ([(48 + (r : Int))].map (Value.int .u8)).toArray (W.alloc (.cells #[.int .u8 (48 + (r : Int))] 5)) :=
  run_loadCells_list (P := Tryd.prog) _ _ [Value.int .u8 (48 + (r : Int))] (fun j v hj => by
   rcases j with _ | j
   ·
    have hb := blk_cell (World.alloc_heap_new W (.cells #[.int .u8 (48 + (r : Int))] 5)) 0
    rw [plain_add, hb]
    exact hj
   ·
    simp at hj)
 rw [run_convert_bytes_string _ _ _ _ _ 1 1 Tryd.underlying22 Tryd.underlying5 Tryd.underlying9, run_bytesToString _ _ 1 1 _ hl, foldl_push_bytes]
 have h1 : ((48 : Int) + (r : Int)).toNat = 48 + r := by omega
 simp [h1, ByteArray.empty, ByteArray.emptyWithCapacity]
 rfl
set_option maxRecDepth 100000 in
set_option maxHeartbeats 2000000 in
theorem markText_calls (K : Int) (k : Nat) (hKk : K = (k : Nat)) (hk : 0 < k ∧ k ≤ 100000000) (w : World) :
  Calls Tryd.prog 75 #[.int .i64 K] w fun e w' => e = .returned (.string (mtS k)) ∧ Below w.heap.size w w' := by
 have d0 : decide (K ≤ 0) = false := decide_eq_false (by omega)
 have HF : Hid (mtS k = ⟨#[109]⟩ ++ mtGo k k ⟨#[]⟩) := Lib.hid rfl
 have HK := Lib.hid hk
 have HKK := Lib.hid hKk
 clear hk hKk
 go_enter Tryd.func75, Tryd.ntmps75
 go_wp2
 clear d0
 go_loopw [0, 3] (fun K o wr => ∃ (q : Int) (n f : Nat) (b : ByteArray), K = .int .i64 q ∧ o = .string b ∧ Hid (q = (n : Nat)) ∧ Hid (n ≤ f ∧ n ≤ k ∧ b.size + n ≤ k) ∧ Hid (mtGo f n b = mtGo k k ⟨#[]⟩) ∧ Below w.heap.size w wr) (fun K _ _ => (intOf K).toNat)
 case atStart => exact ⟨K, k, k, _, rfl, rfl, HKK, Lib.hid ⟨Nat.le_refl _, Nat.le_refl _, by show 0 + k ≤ k; omega⟩, Lib.hid rfl, Below.refl _ _⟩
 case round =>
  obtain ⟨q, n, f, b, rfl, rfl, HQ, HN, HG, hB⟩ := hrel
  have hq := HQ.out
  have hn := HN.out
  by_cases hq0 : 0 < q
  ·
   have dq : decide (0 < q) = true := decide_eq_true hq0
   obtain ⟨f, rfl⟩ : ∃ f', f = f' + 1 := ⟨f - 1, by omega⟩
   have HG2 : Hid (mtGo (f + 1) n b = mtGo f (n / 10) (⟨#[UInt8.ofNat (48 + n % 10)]⟩ ++ b)) := Lib.hid (mtGo_step (by omega) b)
   have HB := Lib.hid hB
   have HQ0 := Lib.hid hq0
   have hb0 : b.size ≤ 9223372036854775806 := by have := HK.out; omega
   have hb1 : 1 + b.size ≤ 9223372036854775807 := by omega
   have hb2 : b.size + 1 ≤ 9223372036854775807 := by omega
   obtain ⟨r, hr1, hr2⟩ : ∃ r : Nat, Int.tmod q 10 = (r : Int) ∧ r = n % 10 := ⟨n % 10, by rw [hq, Int.tmod_eq_emod_of_nonneg (by omega)]; omega, rfl⟩
   obtain ⟨q1, hq1, hq2⟩ : ∃ q1 : Int, Int.tdiv q 10 = q1 ∧ q1 = ((n / 10 : Nat) : Int) := ⟨_, rfl, by rw [hq, Int.tdiv_eq_ediv_of_nonneg (by omega)]; omega⟩
   have hr10 : r < 10 := by omega
   have hcv := digit_string wr r hr10
   have hw1 : IntKind.i64.wrap (48 + (r : Int)) = 48 + (r : Int) := IntWalk.i64_in _ (by omega)
   have hw2 : IntKind.i64.wrap q1 = q1 := IntWalk.i64_in _ (by have h0 := HK.out; clear hw1; omega)
   have hm : (48 + (r : Int)) % 256 = 48 + (r : Int) := by clear hw1 hw2; omega
   have hx1 : (⟨#[UInt8.ofNat (48 + r)]⟩ : ByteArray).size = 1 := rfl
   rw [← hr2] at HG2
   have HR := Lib.hid hr1
   have HQ2 := Lib.hid hq2
   have HBW := Lib.hid ((Below.refl wr.heap.size wr).alloc (Nat.le_refl _) (.cells #[.int .u8 (48 + (r : Int))] 5))
   generalize (⟨#[UInt8.ofNat (48 + r)]⟩ : ByteArray) = x at HG2 hcv hx1
   have hb3 : x.size + b.size ≤ 9223372036854775807 := by clear hw1 hw2; omega
   have HX1 := Lib.hid hx1
   clear hq hn hq0 hB hr2 hq2 hr10 hx1
   go_wp2
   clear hw1 hw2
   go_roundw
   case rel => exact ⟨q1, n / 10, f, x ++ b, rfl, rfl, HQ2, Lib.hid (by have h1 := HN.out; have h2 := HX1.out; have h3 := HQ.out; have h4 := HQ0.out; rw [ByteArray.size_append]; omega), Lib.hid (HG2.out.symm.trans HG.out), HB.out.trans (HBW.out.mono HB.out.size)⟩
   case measure =>
    have h1 := HQ2.out
    have h3 := HQ.out
    have h4 := HQ0.out
    simp only [intOf]
    omega
  ·
   have dq : decide (0 < q) = false := decide_eq_false hq0
   obtain rfl : n = 0 := by omega
   have HE : Hid (b = mtGo k k ⟨#[]⟩) := Lib.hid (by have := HG.out; rwa [mtGo_zero] at this)
   have hb1 : 1 + b.size ≤ 9223372036854775807 := by have := HK.out; omega
   have hb0 : b.size ≤ 9223372036854775806 := by omega
   clear hq hn hq0
   go_wp2
   go_ret
   exact ⟨by rw [HF.out, ← HE.out]; rfl, hB⟩
def HeldS (W : World) (A : Option Addr) (n : Nat) : Prop := n = 0 ∨ ∃ b cells, A = some ⟨b, 0, none⟩ ∧ W.heap[b]? = some (.cells cells 9 (0, 0)) ∧ ∀ i, i < n → cells[i]? = some (.string (mtS (i + 1)))
theorem HeldS.below {W W' : World} {A : Option Addr} {n : Nat} (h : HeldS W A n) (hb : Below W.heap.size W W') : HeldS W' A n := by
 rcases h with h | ⟨b, cells, h1, h2, h3⟩
 ·
  exact .inl h
 ·
  exact .inr ⟨b, cells, h1, blk_below h2 hb, h3⟩
theorem MRow.of_RS {e base : Nat} {ok : Nat → Prop} {w : World} {A : Option Addr} {n c : Nat} {xs : List ByteArray} (h : Kd.string.R e w base ok (.slice A n c) xs) : MRow w A n 1 base w.heap.size e := by
 obtain ⟨hn, _, _⟩ := Kd.R_reads' h
 obtain ⟨inner, ho⟩ := Kd.R_own h
 rw [← hn] at ho
 exact MRow.of_own ho
set_option maxRecDepth 100000 in
set_option maxHeartbeats 4000000 in
theorem markStringS_calls (A : Option Addr) (n c : Nat) (lo hi : Nat) (w : World) (h : MRow w A n 1 lo hi 9) (hn : n ≤ 10000000) :
  Calls Tryd.prog 38 #[.slice A n c, .int .i64 1] w fun e w' => e = .returned (.int .i64 (1 + n)) ∧ HeldS w' A n ∧ Below lo w w' := by
 rcases h with rfl | ⟨b, cells, rfl, hlo, hhi, hb, hsz⟩
 ·
  have d0 : decide (((0 : Nat) : Int) < ((0 : Nat) : Int)) = false := by decide
  clear hn
  go_enter Tryd.func38, Tryd.ntmps38
  go_wp2
  go_loopw [1, 5] (fun K i wr => K = .int .i64 1 ∧ i = .int .i64 0 ∧ wr = w) (fun _ _ _ => 0)
  case atStart => exact ⟨rfl, rfl, rfl⟩
  case round =>
   obtain ⟨rfl, rfl, rfl⟩ := hrel
   go_wp2
   go_ret
   exact ⟨by simp, .inl rfl, Below.refl _ _⟩
 ·
  have hsz' : n ≤ cells.size := by omega
  have HB := Lib.hid hb
  have HP := Lib.hid hlo
  have HBL := Lib.hid (blk_lt hb)
  clear hlo hhi hb hsz
  go_enter Tryd.func38, Tryd.ntmps38
  go_wp2
  go_loopw [1, 5] (fun K i wr => ∃ (j : Nat) (cl : Array Value), j ≤ n ∧ i = .int .i64 j ∧ K = .int .i64 (1 + (j : Nat)) ∧ wr.heap[b]? = some (.cells cl 9 (0, 0)) ∧ cl.size = cells.size ∧ (∀ i, i < j → cl[i]? = some (.string (mtS (i + 1)))) ∧ Below b w wr) (fun _ i _ => n - (intOf i).toNat)
  case atStart => exact ⟨0, cells, Nat.zero_le _, rfl, by simp, HB.out, rfl, fun i hi => absurd hi (by omega), Below.refl _ _⟩
  case round =>
   obtain ⟨j, cl, hj, rfl, rfl, hb, hcs, hcl, hO⟩ := hrel
   by_cases hjl : j < n
   ·
    have hjj : decide ((j : Int) < (n : Int)) = true := decide_eq_true (by omega)
    have hji : (j : Int) < (n : Int) := by omega
    have hjs : j < cl.size := by omega
    have cr : wr.cell? ⟨b, j, none⟩ = some (cl[j]'hjs) := (blk_cell hb j).trans (by simp [hjs])
    generalize cl[j]'hjs = old at cr
    have HX := Lib.hid (And.intro hb (And.intro hcs (And.intro hcl hO)))
    obtain ⟨kj, hkj⟩ : ∃ kj : Int, kj = 1 + (j : Nat) := ⟨_, rfl⟩
    rw [← hkj]
    have HKJ := Lib.hid hkj
    have HMT := Lib.hid (fun (W : World) => markText_calls kj (j + 1) (by rw [hkj]; push_cast; omega) (by omega) W)
    have hwr : IntKind.i64.wrap (kj + 1) = kj + 1 := IntWalk.i64_in _ (by omega)
    generalize hy : mtS (j + 1) = y at HMT
    have HY := Lib.hid hy
    have HCR := Lib.hid cr
    clear hkj hb hcs hcl hO cr hy
    go_wp2_with (go_at_call 75; refine (HMT.out _).mono ?_; rintro e W2 ⟨rfl, hB2⟩; have cr := pw_cell_below hB2 HCR.out; have fr := blk_frozen (blk_below HX.out.1 hB2); have HB2 := Lib.hid hB2; clear hB2)
    clear hwr
    go_roundw
    case rel =>
     obtain ⟨hb, hcs, hcl, hO⟩ := HX.out
     have hkj := HKJ.out
     have hs := blk_set (blk_below hb HB2.out) j (.string y)
     have hbw : b ≤ wr.heap.size := Nat.le_of_lt (blk_lt hb)
     refine ⟨j + 1, _, by omega, by go_num, by rw [hkj] <;> (congr 1 <;> omega), hs, by simpa using hcs, fun i hi => ?_, (hO.trans (HB2.out.mono hbw)).setCell (p := ⟨b, j, none⟩) (Nat.le_refl _) _⟩
     by_cases e : i = j
     ·
      subst e
      rw [HY.out]
      simp [hjs]
     ·
      have := hcl i (by omega)
      rw [← this]
      simp [Array.getElem?_setIfInBounds, Ne.symm e]
    case measure => simp [intOf]; omega
   ·
    obtain rfl : j = n := by omega
    have hjj : decide ((j : Int) < (j : Int)) = false := decide_eq_false (by omega)
    have HX := Lib.hid (And.intro hb (And.intro hcl hO))
    clear hb hcs hcl hO
    go_wp2
    go_ret
    obtain ⟨hb, hcl, hO⟩ := HX.out
    exact ⟨rfl, .inr ⟨b, cl, rfl, hb, hcl⟩, hO.mono HP.out⟩
set_option maxRecDepth 100000 in
set_option maxHeartbeats 4000000 in
theorem heldStringS_calls (A : Option Addr) (n c : Nat) (w : World) (h : HeldS w A n) (hn : n ≤ 10000000) :
  Calls Tryd.prog 39 #[.slice A n c, .int .i64 1] w fun e w' => e = .returned (.int .i64 (1 + n)) ∧ Below w.heap.size w w' := by
 rcases h with rfl | ⟨b, cells, rfl, hb, hcl⟩
 ·
  have d0 : decide (((0 : Nat) : Int) < ((0 : Nat) : Int)) = false := by decide
  clear hn
  go_enter Tryd.func39, Tryd.ntmps39
  go_wp2
  go_loopw [1, 5] (fun K i wr => K = .int .i64 1 ∧ i = .int .i64 0 ∧ wr = w) (fun _ _ _ => 0)
  case atStart => exact ⟨rfl, rfl, rfl⟩
  case round =>
   obtain ⟨rfl, rfl, rfl⟩ := hrel
   go_wp2
   go_ret
   exact ⟨by simp, Below.refl _ _⟩
 ·
  have HX := Lib.hid (And.intro hb hcl)
  clear hb hcl
  go_enter Tryd.func39, Tryd.ntmps39
  go_wp2
  go_loopw [1, 5] (fun K i wr => ∃ (j : Nat), j ≤ n ∧ i = .int .i64 j ∧ K = .int .i64 (1 + (j : Nat)) ∧ Below w.heap.size w wr) (fun _ i _ => n - (intOf i).toNat)
  case atStart => exact ⟨0, Nat.zero_le _, rfl, by simp, Below.refl _ _⟩
  case round =>
   obtain ⟨j, hj, rfl, rfl, hB⟩ := hrel
   by_cases hjl : j < n
   ·
    have hjj : decide ((j : Int) < (n : Int)) = true := decide_eq_true (by omega)
    have hji : (j : Int) < (n : Int) := by omega
    have cr : wr.cell? ⟨b, j, none⟩ = some (.string (mtS (j + 1))) := (blk_cell (blk_below HX.out.1 hB) j).trans (HX.out.2 j hjl)
    obtain ⟨kj, hkj⟩ : ∃ kj : Int, kj = 1 + (j : Nat) := ⟨_, rfl⟩
    rw [← hkj]
    have HKJ := Lib.hid hkj
    have HMT := Lib.hid (fun (W : World) => markText_calls kj (j + 1) (by rw [hkj]; push_cast; omega) (by omega) W)
    have hwr : IntKind.i64.wrap (kj + 1) = kj + 1 := IntWalk.i64_in _ (by omega)
    generalize mtS (j + 1) = y at HMT cr
    have HC : Hid (∀ W, (W.cell? ⟨b, j, none⟩ = some (.string y) ∧ Below wr.heap.size wr W) → Calls Tryd.prog 75 #[.int .i64 kj] W fun e w' => e = .returned (.string y) ∧ w'.cell? ⟨b, j, none⟩ = some (.string y) ∧ Below wr.heap.size wr w') := Lib.hid (by
     rintro W ⟨a1, a2⟩
     refine (HMT.out W).mono ?_
     rintro e w' ⟨he, hb⟩
     exact ⟨he, pw_cell_below hb a1, a2.trans (hb.mono a2.size)⟩)
    have dn := bytes_bne y
    have HB := Lib.hid hB
    have hpre : wr.drew.cell? ⟨b, j, none⟩ = some (.string y) ∧ Below wr.heap.size wr wr.drew := ⟨cr, (Below.refl _ wr).drew⟩
    have HPRE := Lib.hid hpre
    clear hkj hB hpre
    go_wp2
    go_region_held3 (fun w' => w'.cell? ⟨b, j, none⟩ = some (.string y) ∧ Below wr.heap.size wr w') (first | exact HPRE.out | go_keep | (trace_state; fail))
     (first | (go_at_call 75; with_reducible refine (HC.out _ ?_).mono ?_; (first | assumption | exact HPRE.out | (refine ⟨?_, ?_⟩ <;> assumption) | (trace_state; fail)); rintro e W9 ⟨rfl, hS1, hS2⟩) | fail)
    go_wp2
    clear hwr
    go_roundw
    case rel => exact ⟨j + 1, by omega, by go_num, by rw [HKJ.out] <;> (congr 1 <;> omega), HB.out.trans (hS2.mono HB.out.size)⟩
    case measure => simp [intOf]; omega
   ·
    obtain rfl : j = n := by omega
    have hjj : decide ((j : Int) < (j : Int)) = false := decide_eq_false (by omega)
    go_wp2
    go_ret
    exact ⟨rfl, hB⟩
end Go.Proofs.YtlapphhcficbjaaDoor

namespace Go.Proofs.YtlapphhcficbjaaDoor
set_option linter.unusedVariables false
set_option linter.unusedSimpArgs false
open Go.RowKit Go.Shelf Bits
open Go.Proofs.YtlapphhcficbjaaDoorW.PrintWords Go.Proofs.YtlapphhcficbjaaDoorW.PrintLast Go.Proofs.YtlapphhcficbjaaDoorW.PrintMore
attribute [local go_sem] Oper.semAt_some
set_option maxRecDepth 1000000 in
set_option maxHeartbeats 8000000 in
theorem FnExactChartLines_walk (A : Option Addr) (c : Nat) (g : List Tk) (A1 : Option Addr) (c1 : Nat) (rm : List Int) (wk : Int) (A2 : Option Addr) (c2 : Nat) (st : List Int) (w : World) (hT : Tab w) (hr : kTk.C w A g.length g) (hr1 : (Kd.int .i64).C w A1 rm.length rm) (hr2 : (Kd.int .i64).C w A2 st.length st) :
  Calls Tryd.prog 9 #[.slice A g.length c, .slice A1 rm.length c1, .int .i64 wk, .slice A2 st.length c2] w fun e w' => e = .returned (.bool true) ∧ Below w.heap.size w w' := by
 by_cases hb1 : ¬ rm.length ≤ 1048576
 ·
  have d : decide ((1048576 : Int) < (rm.length : Int)) = true := decide_eq_true (by omega)
  clear hb1 hr hr1 hr2 hT
  go_enter Tryd.func9, Tryd.ntmps9
  go_wp2
  go_ret
  exact ⟨rfl, by repeat (first | exact Below.refl _ _ | apply pw_below_drewN)⟩
 have hb1 : rm.length ≤ 1048576 := by omega
 have d1 : decide ((1048576 : Int) < (rm.length : Int)) = false := decide_eq_false (by omega)
 by_cases hb2 : ¬ st.length ≤ 1048576
 ·
  have d : decide ((1048576 : Int) < (st.length : Int)) = true := decide_eq_true (by omega)
  clear hb2 hr hr1 hr2 hT
  go_enter Tryd.func9, Tryd.ntmps9
  go_wp2
  go_ret
  exact ⟨rfl, by repeat (first | exact Below.refl _ _ | apply pw_below_drewN)⟩
 have hb2 : st.length ≤ 1048576 := by omega
 have d2 : decide ((1048576 : Int) < (st.length : Int)) = false := decide_eq_false (by omega)
 have HSZ := Lib.hid (fun (W : World) (hW : Below w.heap.size w W) => szTaskS_calls A c g W (Kd.C_below hr hW))
 by_cases hsz : szF g g.length < 0
 ·
  have dn : decide (szF g g.length < 0) = true := decide_eq_true hsz
  generalize szF g g.length = r at HSZ dn
  clear hb1 hr hr1 hT hsz hb2 hr2
  go_enter Tryd.func9, Tryd.ntmps9
  go_wp2_with (go_at_call 28; refine (HSZ.out _ (Below.refl _ _)).mono ?_; rintro e w1 ⟨rfl, hB⟩)
  go_ret
  exact ⟨rfl, hB⟩
 have dn : decide (szF g g.length < 0) = false := decide_eq_false hsz
 obtain ⟨hgl, hnl⟩ := szF_small (g := g) (by omega)
 have HKPG := Lib.hid (fun (W : World) (hW : Below w.heap.size w W) => toTaskS_C A c g hgl hnl W (Kd.C_below hr hW))
 have HKPR := Lib.hid (fun (W : World) (hW : Below w.heap.size w W) => toIntS_C A1 c1 rm hb1 W (Kd.C_below hr1 hW))
 have HKPS := Lib.hid (fun (W : World) (hW : Below w.heap.size w W) => toIntS_C A2 c2 st hb2 W (Kd.C_below hr2 hW))
 have HKXG := Lib.hid (fun (W : World) (hW : Below w.heap.size w W) => toTaskS_T A c g hgl hnl W (Kd.C_below hr hW))
 have HKXR := Lib.hid (fun (W : World) (hW : Below w.heap.size w W) => toIntS_T A1 c1 rm hb1 W (Kd.C_below hr1 hW))
 have HKXS := Lib.hid (fun (W : World) (hW : Below w.heap.size w W) => toIntS_T A2 c2 st hb2 W (Kd.C_below hr2 hW))
 have HKYG := Lib.hid (fun (W : World) (hW : Below w.heap.size w W) => toTaskS_C A c g hgl hnl W (Kd.C_below hr hW))
 have HKYR := Lib.hid (fun (W : World) (hW : Below w.heap.size w W) => toIntS_C A1 c1 rm hb1 W (Kd.C_below hr1 hW))
 have HKYS := Lib.hid (fun (W : World) (hW : Below w.heap.size w W) => toIntS_C A2 c2 st hb2 W (Kd.C_below hr2 hW))
 have HKQG := Lib.hid (fun (W : World) (hW : Below w.heap.size w W) => toTaskS_C A c g hgl hnl W (Kd.C_below hr hW))
 have HKQR := Lib.hid (fun (W : World) (hW : Below w.heap.size w W) => toIntS_C A1 c1 rm hb1 W (Kd.C_below hr1 hW))
 have HKQS := Lib.hid (fun (W : World) (hW : Below w.heap.size w W) => toIntS_C A2 c2 st hb2 W (Kd.C_below hr2 hW))
 have HTW := Lib.hid (fun (W : World) (hW : Below w.heap.size w W) => hT.keep hT.lt hW)
 have HW := Lib.hid (Below.refl w.heap.size w)
 have HS := Lib.hid (fun (BG : Option Addr) (kG : Nat) (BR : Option Addr) (kR : Nat) (BS : Option Addr) (kS : Nat) (W : World) (hG : kTk.C W BG g.length g) (hR : (Kd.int .i64).C W BR rm.length rm) (hS : (Kd.int .i64).C W BS st.length st) => sChartLines_calls BG kG g BR kR rm wk BS kS st W hG hR hS)
 have HI := Lib.hid (fun (BG : Option Addr) (kG : Nat) (BR : Option Addr) (kR : Nat) (BS : Option Addr) (kS : Nat) (W : World) (hG : kTk.C W BG g.length g) (hR : (Kd.int .i64).C W BR rm.length rm) (hS : (Kd.int .i64).C W BS st.length st) (hT : Tab W) => ChartLines_impl BG kG g BR kR rm wk BS kS st W hG hR hS hT)
 have hll : (chS g rm wk st).length ≤ 1048576 := Nat.le_trans (chS_len_le g rm wk st) hgl
 generalize chS g rm wk st = v at HS HI hll
 have HI2 := HI
 have dh : decide ((1 : Int) + (v.length : Int) < 0) = false := decide_eq_false (by omega)
 have dh2 : ((1 : Int) + (v.length : Int) != (1 : Int) + (v.length : Int)) = false := bne_self_eq_false _
 have HLL := Lib.hid hll
 have HGL := Lib.hid hgl
 have HB1 := Lib.hid hb1
 have HB2 := Lib.hid hb2
 generalize szF g g.length = r at HSZ dn hsz
 clear hr hr1 hT hsz hgl hnl hb1 hll hb2 hr2
 go_enter Tryd.func9, Tryd.ntmps9
 go_wp2_with (first | (go_at_call 30; with_reducible refine (HKPG.out _ HW.out).mono ?_; rintro e wPG ⟨bPG, rfl, hC, hB⟩; have HW := Lib.hid (HW.out.trans (hB.mono HW.out.size)); (try have HWS := Lib.hid (HWS.out.trans (hB.mono HWS.out.size))); (try have HCPG := Lib.hid (Kd.C_below HCPG.out hB)); (try have HCPR := Lib.hid (Kd.C_below HCPR.out hB)); (try have HCPS := Lib.hid (Kd.C_below HCPS.out hB)); (try have HCXG := Lib.hid (Kd.C_below HCXG.out hB)); (try have HCXR := Lib.hid (Kd.C_below HCXR.out hB)); (try have HCXS := Lib.hid (Kd.C_below HCXS.out hB)); (try have HCYG := Lib.hid (Kd.C_below HCYG.out hB)); (try have HCYR := Lib.hid (Kd.C_below HCYR.out hB)); (try have HCYS := Lib.hid (Kd.C_below HCYS.out hB)); (try have HCQG := Lib.hid (Kd.C_below HCQG.out hB)); (try have HCQR := Lib.hid (Kd.C_below HCQR.out hB)); (try have HCQS := Lib.hid (Kd.C_below HCQS.out hB)); (try have HMG := Lib.hid (HMG.out.below hB)); (try have HMR := Lib.hid (HMR.out.below hB)); (try have HMS := Lib.hid (HMS.out.below hB)); (try have HRG := Lib.hid (Kd.R_below HRG.out hB)); (try have HH := Lib.hid (HH.out.below hB)); (try have HC9 := Lib.hid (Kd.C_below HC9.out hB)); have HCPG := Lib.hid hC; clear HKPG hC hB) | (go_at_call 31; with_reducible refine (HKPR.out _ HW.out).mono ?_; rintro e wPR ⟨bPR, rfl, hC, hB⟩; have HW := Lib.hid (HW.out.trans (hB.mono HW.out.size)); (try have HWS := Lib.hid (HWS.out.trans (hB.mono HWS.out.size))); (try have HCPG := Lib.hid (Kd.C_below HCPG.out hB)); (try have HCPR := Lib.hid (Kd.C_below HCPR.out hB)); (try have HCPS := Lib.hid (Kd.C_below HCPS.out hB)); (try have HCXG := Lib.hid (Kd.C_below HCXG.out hB)); (try have HCXR := Lib.hid (Kd.C_below HCXR.out hB)); (try have HCXS := Lib.hid (Kd.C_below HCXS.out hB)); (try have HCYG := Lib.hid (Kd.C_below HCYG.out hB)); (try have HCYR := Lib.hid (Kd.C_below HCYR.out hB)); (try have HCYS := Lib.hid (Kd.C_below HCYS.out hB)); (try have HCQG := Lib.hid (Kd.C_below HCQG.out hB)); (try have HCQR := Lib.hid (Kd.C_below HCQR.out hB)); (try have HCQS := Lib.hid (Kd.C_below HCQS.out hB)); (try have HMG := Lib.hid (HMG.out.below hB)); (try have HMR := Lib.hid (HMR.out.below hB)); (try have HMS := Lib.hid (HMS.out.below hB)); (try have HRG := Lib.hid (Kd.R_below HRG.out hB)); (try have HH := Lib.hid (HH.out.below hB)); (try have HC9 := Lib.hid (Kd.C_below HC9.out hB)); have HCPR := Lib.hid hC; clear HKPR hC hB) | (go_at_call 31; with_reducible refine (HKPS.out _ HW.out).mono ?_; rintro e wPS ⟨bPS, rfl, hC, hB⟩; have HW := Lib.hid (HW.out.trans (hB.mono HW.out.size)); (try have HWS := Lib.hid (HWS.out.trans (hB.mono HWS.out.size))); (try have HCPG := Lib.hid (Kd.C_below HCPG.out hB)); (try have HCPR := Lib.hid (Kd.C_below HCPR.out hB)); (try have HCPS := Lib.hid (Kd.C_below HCPS.out hB)); (try have HCXG := Lib.hid (Kd.C_below HCXG.out hB)); (try have HCXR := Lib.hid (Kd.C_below HCXR.out hB)); (try have HCXS := Lib.hid (Kd.C_below HCXS.out hB)); (try have HCYG := Lib.hid (Kd.C_below HCYG.out hB)); (try have HCYR := Lib.hid (Kd.C_below HCYR.out hB)); (try have HCYS := Lib.hid (Kd.C_below HCYS.out hB)); (try have HCQG := Lib.hid (Kd.C_below HCQG.out hB)); (try have HCQR := Lib.hid (Kd.C_below HCQR.out hB)); (try have HCQS := Lib.hid (Kd.C_below HCQS.out hB)); (try have HMG := Lib.hid (HMG.out.below hB)); (try have HMR := Lib.hid (HMR.out.below hB)); (try have HMS := Lib.hid (HMS.out.below hB)); (try have HRG := Lib.hid (Kd.R_below HRG.out hB)); (try have HH := Lib.hid (HH.out.below hB)); (try have HC9 := Lib.hid (Kd.C_below HC9.out hB)); have HCPS := Lib.hid hC; clear HKPS hC hB) | (go_at_call 30; with_reducible refine (HKXG.out _ HW.out).mono ?_; have HWS0 := Lib.hid HWS.out.size; rintro e wXG ⟨bXG, rfl, hC, hM, hB⟩; have HW := Lib.hid (HW.out.trans (hB.mono HW.out.size)); (try have HWS := Lib.hid (HWS.out.trans (hB.mono HWS.out.size))); (try have HCPG := Lib.hid (Kd.C_below HCPG.out hB)); (try have HCPR := Lib.hid (Kd.C_below HCPR.out hB)); (try have HCPS := Lib.hid (Kd.C_below HCPS.out hB)); (try have HCXG := Lib.hid (Kd.C_below HCXG.out hB)); (try have HCXR := Lib.hid (Kd.C_below HCXR.out hB)); (try have HCXS := Lib.hid (Kd.C_below HCXS.out hB)); (try have HCYG := Lib.hid (Kd.C_below HCYG.out hB)); (try have HCYR := Lib.hid (Kd.C_below HCYR.out hB)); (try have HCYS := Lib.hid (Kd.C_below HCYS.out hB)); (try have HCQG := Lib.hid (Kd.C_below HCQG.out hB)); (try have HCQR := Lib.hid (Kd.C_below HCQR.out hB)); (try have HCQS := Lib.hid (Kd.C_below HCQS.out hB)); (try have HMG := Lib.hid ((HMG.out.below hB).wide (Nat.le_refl _) hB.size)); (try have HMR := Lib.hid ((HMR.out.below hB).wide (Nat.le_refl _) hB.size)); (try have HMS := Lib.hid ((HMS.out.below hB).wide (Nat.le_refl _) hB.size)); have HCXG := Lib.hid hC; have HMG := Lib.hid (hM.wide (lo' := wS.heap.size) (by have h0 := HWS0.out; exact h0) (Nat.le_refl _)); clear HWS0 HKXG hC hM hB) | (go_at_call 31; with_reducible refine (HKXR.out _ HW.out).mono ?_; have HWS0 := Lib.hid HWS.out.size; rintro e wXR ⟨bXR, rfl, hC, hM, hB⟩; have HW := Lib.hid (HW.out.trans (hB.mono HW.out.size)); (try have HWS := Lib.hid (HWS.out.trans (hB.mono HWS.out.size))); (try have HCPG := Lib.hid (Kd.C_below HCPG.out hB)); (try have HCPR := Lib.hid (Kd.C_below HCPR.out hB)); (try have HCPS := Lib.hid (Kd.C_below HCPS.out hB)); (try have HCXG := Lib.hid (Kd.C_below HCXG.out hB)); (try have HCXR := Lib.hid (Kd.C_below HCXR.out hB)); (try have HCXS := Lib.hid (Kd.C_below HCXS.out hB)); (try have HCYG := Lib.hid (Kd.C_below HCYG.out hB)); (try have HCYR := Lib.hid (Kd.C_below HCYR.out hB)); (try have HCYS := Lib.hid (Kd.C_below HCYS.out hB)); (try have HCQG := Lib.hid (Kd.C_below HCQG.out hB)); (try have HCQR := Lib.hid (Kd.C_below HCQR.out hB)); (try have HCQS := Lib.hid (Kd.C_below HCQS.out hB)); (try have HMG := Lib.hid ((HMG.out.below hB).wide (Nat.le_refl _) hB.size)); (try have HMR := Lib.hid ((HMR.out.below hB).wide (Nat.le_refl _) hB.size)); (try have HMS := Lib.hid ((HMS.out.below hB).wide (Nat.le_refl _) hB.size)); have HCXR := Lib.hid hC; have HMR := Lib.hid (hM.wide (lo' := wS.heap.size) (by have h0 := HWS0.out; exact h0) (Nat.le_refl _)); clear HWS0 HKXR hC hM hB) | (go_at_call 31; with_reducible refine (HKXS.out _ HW.out).mono ?_; have HWS0 := Lib.hid HWS.out.size; rintro e wXS ⟨bXS, rfl, hC, hM, hB⟩; have HW := Lib.hid (HW.out.trans (hB.mono HW.out.size)); (try have HWS := Lib.hid (HWS.out.trans (hB.mono HWS.out.size))); (try have HCPG := Lib.hid (Kd.C_below HCPG.out hB)); (try have HCPR := Lib.hid (Kd.C_below HCPR.out hB)); (try have HCPS := Lib.hid (Kd.C_below HCPS.out hB)); (try have HCXG := Lib.hid (Kd.C_below HCXG.out hB)); (try have HCXR := Lib.hid (Kd.C_below HCXR.out hB)); (try have HCXS := Lib.hid (Kd.C_below HCXS.out hB)); (try have HCYG := Lib.hid (Kd.C_below HCYG.out hB)); (try have HCYR := Lib.hid (Kd.C_below HCYR.out hB)); (try have HCYS := Lib.hid (Kd.C_below HCYS.out hB)); (try have HCQG := Lib.hid (Kd.C_below HCQG.out hB)); (try have HCQR := Lib.hid (Kd.C_below HCQR.out hB)); (try have HCQS := Lib.hid (Kd.C_below HCQS.out hB)); (try have HMG := Lib.hid ((HMG.out.below hB).wide (Nat.le_refl _) hB.size)); (try have HMR := Lib.hid ((HMR.out.below hB).wide (Nat.le_refl _) hB.size)); (try have HMS := Lib.hid ((HMS.out.below hB).wide (Nat.le_refl _) hB.size)); have HCXS := Lib.hid hC; have HMS := Lib.hid (hM.wide (lo' := wS.heap.size) (by have h0 := HWS0.out; exact h0) (Nat.le_refl _)); clear HWS0 HKXS hC hM hB) | (go_at_call 30; with_reducible refine (HKYG.out _ HW.out).mono ?_; rintro e wYG ⟨bYG, rfl, hC, hB⟩; have HW := Lib.hid (HW.out.trans (hB.mono HW.out.size)); (try have HWS := Lib.hid (HWS.out.trans (hB.mono HWS.out.size))); (try have HCPG := Lib.hid (Kd.C_below HCPG.out hB)); (try have HCPR := Lib.hid (Kd.C_below HCPR.out hB)); (try have HCPS := Lib.hid (Kd.C_below HCPS.out hB)); (try have HCXG := Lib.hid (Kd.C_below HCXG.out hB)); (try have HCXR := Lib.hid (Kd.C_below HCXR.out hB)); (try have HCXS := Lib.hid (Kd.C_below HCXS.out hB)); (try have HCYG := Lib.hid (Kd.C_below HCYG.out hB)); (try have HCYR := Lib.hid (Kd.C_below HCYR.out hB)); (try have HCYS := Lib.hid (Kd.C_below HCYS.out hB)); (try have HCQG := Lib.hid (Kd.C_below HCQG.out hB)); (try have HCQR := Lib.hid (Kd.C_below HCQR.out hB)); (try have HCQS := Lib.hid (Kd.C_below HCQS.out hB)); (try have HMG := Lib.hid (HMG.out.below hB)); (try have HMR := Lib.hid (HMR.out.below hB)); (try have HMS := Lib.hid (HMS.out.below hB)); (try have HRG := Lib.hid (Kd.R_below HRG.out hB)); (try have HH := Lib.hid (HH.out.below hB)); (try have HC9 := Lib.hid (Kd.C_below HC9.out hB)); have HCYG := Lib.hid hC; clear HKYG hC hB) | (go_at_call 31; with_reducible refine (HKYR.out _ HW.out).mono ?_; rintro e wYR ⟨bYR, rfl, hC, hB⟩; have HW := Lib.hid (HW.out.trans (hB.mono HW.out.size)); (try have HWS := Lib.hid (HWS.out.trans (hB.mono HWS.out.size))); (try have HCPG := Lib.hid (Kd.C_below HCPG.out hB)); (try have HCPR := Lib.hid (Kd.C_below HCPR.out hB)); (try have HCPS := Lib.hid (Kd.C_below HCPS.out hB)); (try have HCXG := Lib.hid (Kd.C_below HCXG.out hB)); (try have HCXR := Lib.hid (Kd.C_below HCXR.out hB)); (try have HCXS := Lib.hid (Kd.C_below HCXS.out hB)); (try have HCYG := Lib.hid (Kd.C_below HCYG.out hB)); (try have HCYR := Lib.hid (Kd.C_below HCYR.out hB)); (try have HCYS := Lib.hid (Kd.C_below HCYS.out hB)); (try have HCQG := Lib.hid (Kd.C_below HCQG.out hB)); (try have HCQR := Lib.hid (Kd.C_below HCQR.out hB)); (try have HCQS := Lib.hid (Kd.C_below HCQS.out hB)); (try have HMG := Lib.hid (HMG.out.below hB)); (try have HMR := Lib.hid (HMR.out.below hB)); (try have HMS := Lib.hid (HMS.out.below hB)); (try have HRG := Lib.hid (Kd.R_below HRG.out hB)); (try have HH := Lib.hid (HH.out.below hB)); (try have HC9 := Lib.hid (Kd.C_below HC9.out hB)); have HCYR := Lib.hid hC; clear HKYR hC hB) | (go_at_call 31; with_reducible refine (HKYS.out _ HW.out).mono ?_; rintro e wYS ⟨bYS, rfl, hC, hB⟩; have HW := Lib.hid (HW.out.trans (hB.mono HW.out.size)); (try have HWS := Lib.hid (HWS.out.trans (hB.mono HWS.out.size))); (try have HCPG := Lib.hid (Kd.C_below HCPG.out hB)); (try have HCPR := Lib.hid (Kd.C_below HCPR.out hB)); (try have HCPS := Lib.hid (Kd.C_below HCPS.out hB)); (try have HCXG := Lib.hid (Kd.C_below HCXG.out hB)); (try have HCXR := Lib.hid (Kd.C_below HCXR.out hB)); (try have HCXS := Lib.hid (Kd.C_below HCXS.out hB)); (try have HCYG := Lib.hid (Kd.C_below HCYG.out hB)); (try have HCYR := Lib.hid (Kd.C_below HCYR.out hB)); (try have HCYS := Lib.hid (Kd.C_below HCYS.out hB)); (try have HCQG := Lib.hid (Kd.C_below HCQG.out hB)); (try have HCQR := Lib.hid (Kd.C_below HCQR.out hB)); (try have HCQS := Lib.hid (Kd.C_below HCQS.out hB)); (try have HMG := Lib.hid (HMG.out.below hB)); (try have HMR := Lib.hid (HMR.out.below hB)); (try have HMS := Lib.hid (HMS.out.below hB)); (try have HRG := Lib.hid (Kd.R_below HRG.out hB)); (try have HH := Lib.hid (HH.out.below hB)); (try have HC9 := Lib.hid (Kd.C_below HC9.out hB)); have HCYS := Lib.hid hC; clear HKYS hC hB) | (go_at_call 30; with_reducible refine (HKQG.out _ HW.out).mono ?_; rintro e wQG ⟨bQG, rfl, hC, hB⟩; have HW := Lib.hid (HW.out.trans (hB.mono HW.out.size)); (try have HWS := Lib.hid (HWS.out.trans (hB.mono HWS.out.size))); (try have HCPG := Lib.hid (Kd.C_below HCPG.out hB)); (try have HCPR := Lib.hid (Kd.C_below HCPR.out hB)); (try have HCPS := Lib.hid (Kd.C_below HCPS.out hB)); (try have HCXG := Lib.hid (Kd.C_below HCXG.out hB)); (try have HCXR := Lib.hid (Kd.C_below HCXR.out hB)); (try have HCXS := Lib.hid (Kd.C_below HCXS.out hB)); (try have HCYG := Lib.hid (Kd.C_below HCYG.out hB)); (try have HCYR := Lib.hid (Kd.C_below HCYR.out hB)); (try have HCYS := Lib.hid (Kd.C_below HCYS.out hB)); (try have HCQG := Lib.hid (Kd.C_below HCQG.out hB)); (try have HCQR := Lib.hid (Kd.C_below HCQR.out hB)); (try have HCQS := Lib.hid (Kd.C_below HCQS.out hB)); (try have HMG := Lib.hid (HMG.out.below hB)); (try have HMR := Lib.hid (HMR.out.below hB)); (try have HMS := Lib.hid (HMS.out.below hB)); (try have HRG := Lib.hid (Kd.R_below HRG.out hB)); (try have HH := Lib.hid (HH.out.below hB)); (try have HC9 := Lib.hid (Kd.C_below HC9.out hB)); have HCQG := Lib.hid hC; clear HKQG hC hB) | (go_at_call 31; with_reducible refine (HKQR.out _ HW.out).mono ?_; rintro e wQR ⟨bQR, rfl, hC, hB⟩; have HW := Lib.hid (HW.out.trans (hB.mono HW.out.size)); (try have HWS := Lib.hid (HWS.out.trans (hB.mono HWS.out.size))); (try have HCPG := Lib.hid (Kd.C_below HCPG.out hB)); (try have HCPR := Lib.hid (Kd.C_below HCPR.out hB)); (try have HCPS := Lib.hid (Kd.C_below HCPS.out hB)); (try have HCXG := Lib.hid (Kd.C_below HCXG.out hB)); (try have HCXR := Lib.hid (Kd.C_below HCXR.out hB)); (try have HCXS := Lib.hid (Kd.C_below HCXS.out hB)); (try have HCYG := Lib.hid (Kd.C_below HCYG.out hB)); (try have HCYR := Lib.hid (Kd.C_below HCYR.out hB)); (try have HCYS := Lib.hid (Kd.C_below HCYS.out hB)); (try have HCQG := Lib.hid (Kd.C_below HCQG.out hB)); (try have HCQR := Lib.hid (Kd.C_below HCQR.out hB)); (try have HCQS := Lib.hid (Kd.C_below HCQS.out hB)); (try have HMG := Lib.hid (HMG.out.below hB)); (try have HMR := Lib.hid (HMR.out.below hB)); (try have HMS := Lib.hid (HMS.out.below hB)); (try have HRG := Lib.hid (Kd.R_below HRG.out hB)); (try have HH := Lib.hid (HH.out.below hB)); (try have HC9 := Lib.hid (Kd.C_below HC9.out hB)); have HCQR := Lib.hid hC; clear HKQR hC hB) | (go_at_call 31; with_reducible refine (HKQS.out _ HW.out).mono ?_; rintro e wQS ⟨bQS, rfl, hC, hB⟩; have HW := Lib.hid (HW.out.trans (hB.mono HW.out.size)); (try have HWS := Lib.hid (HWS.out.trans (hB.mono HWS.out.size))); (try have HCPG := Lib.hid (Kd.C_below HCPG.out hB)); (try have HCPR := Lib.hid (Kd.C_below HCPR.out hB)); (try have HCPS := Lib.hid (Kd.C_below HCPS.out hB)); (try have HCXG := Lib.hid (Kd.C_below HCXG.out hB)); (try have HCXR := Lib.hid (Kd.C_below HCXR.out hB)); (try have HCXS := Lib.hid (Kd.C_below HCXS.out hB)); (try have HCYG := Lib.hid (Kd.C_below HCYG.out hB)); (try have HCYR := Lib.hid (Kd.C_below HCYR.out hB)); (try have HCYS := Lib.hid (Kd.C_below HCYS.out hB)); (try have HCQG := Lib.hid (Kd.C_below HCQG.out hB)); (try have HCQR := Lib.hid (Kd.C_below HCQR.out hB)); (try have HCQS := Lib.hid (Kd.C_below HCQS.out hB)); (try have HMG := Lib.hid (HMG.out.below hB)); (try have HMR := Lib.hid (HMR.out.below hB)); (try have HMS := Lib.hid (HMS.out.below hB)); (try have HRG := Lib.hid (Kd.R_below HRG.out hB)); (try have HH := Lib.hid (HH.out.below hB)); (try have HC9 := Lib.hid (Kd.C_below HC9.out hB)); have HCQS := Lib.hid hC; clear HKQS hC hB) | (go_at_call 29; refine (HS.out _ _ _ _ _ _ _ HCPG.out HCPR.out HCPS.out).mono ?_; rintro e wS ⟨v0, rfl, hR, hB⟩; obtain ⟨A0, c0, rfl, _, hC⟩ := Kd.R_reads hR; have HW := Lib.hid (HW.out.trans (hB.mono HW.out.size)); (try have HWS := Lib.hid (HWS.out.trans (hB.mono HWS.out.size))); (try have HCPG := Lib.hid (Kd.C_below HCPG.out hB)); (try have HCPR := Lib.hid (Kd.C_below HCPR.out hB)); (try have HCPS := Lib.hid (Kd.C_below HCPS.out hB)); (try have HCXG := Lib.hid (Kd.C_below HCXG.out hB)); (try have HCXR := Lib.hid (Kd.C_below HCXR.out hB)); (try have HCXS := Lib.hid (Kd.C_below HCXS.out hB)); (try have HCYG := Lib.hid (Kd.C_below HCYG.out hB)); (try have HCYR := Lib.hid (Kd.C_below HCYR.out hB)); (try have HCYS := Lib.hid (Kd.C_below HCYS.out hB)); (try have HCQG := Lib.hid (Kd.C_below HCQG.out hB)); (try have HCQR := Lib.hid (Kd.C_below HCQR.out hB)); (try have HCQS := Lib.hid (Kd.C_below HCQS.out hB)); (try have HMG := Lib.hid (HMG.out.below hB)); (try have HMR := Lib.hid (HMR.out.below hB)); (try have HMS := Lib.hid (HMS.out.below hB)); (try have HRG := Lib.hid (Kd.R_below HRG.out hB)); (try have HH := Lib.hid (HH.out.below hB)); (try have HC9 := Lib.hid (Kd.C_below HC9.out hB)); have HWS := Lib.hid (Below.refl wS.heap.size wS); have HC0 := Lib.hid hC; have HLO := Lib.hid HW.out.size; clear HS hR hC hB) | (go_at_call 32; refine (HI.out _ _ _ _ _ _ _ HCXG.out HCXR.out HCXS.out (HTW.out _ HW.out)).mono ?_; rintro e wI ⟨vG, rfl, hR, hB⟩; obtain ⟨AG, cG, rfl, _, _⟩ := Kd.R_reads hR; have HLB := Lib.hid HWS.out.size; have HW := Lib.hid (HW.out.trans (hB.mono HW.out.size)); (try have HWS := Lib.hid (HWS.out.trans (hB.mono HWS.out.size))); (try have HCPG := Lib.hid (Kd.C_below HCPG.out hB)); (try have HCPR := Lib.hid (Kd.C_below HCPR.out hB)); (try have HCPS := Lib.hid (Kd.C_below HCPS.out hB)); (try have HCXG := Lib.hid (Kd.C_below HCXG.out hB)); (try have HCXR := Lib.hid (Kd.C_below HCXR.out hB)); (try have HCXS := Lib.hid (Kd.C_below HCXS.out hB)); (try have HCYG := Lib.hid (Kd.C_below HCYG.out hB)); (try have HCYR := Lib.hid (Kd.C_below HCYR.out hB)); (try have HCYS := Lib.hid (Kd.C_below HCYS.out hB)); (try have HCQG := Lib.hid (Kd.C_below HCQG.out hB)); (try have HCQR := Lib.hid (Kd.C_below HCQR.out hB)); (try have HCQS := Lib.hid (Kd.C_below HCQS.out hB)); (try have HMG := Lib.hid (HMG.out.below hB)); (try have HMR := Lib.hid (HMR.out.below hB)); (try have HMS := Lib.hid (HMS.out.below hB)); (try have HRG := Lib.hid (Kd.R_below HRG.out hB)); (try have HH := Lib.hid (HH.out.below hB)); (try have HC9 := Lib.hid (Kd.C_below HC9.out hB)); have HRG := Lib.hid (R_ge hR); clear HI hR hB) | (go_at_call 32; refine (HI2.out _ _ _ _ _ _ _ HCQG.out HCQR.out HCQS.out (HTW.out _ HW.out)).mono ?_; rintro e wJ ⟨vJ, rfl, hR, hB⟩; obtain ⟨AJ, cJ, rfl, _, hC⟩ := Kd.R_reads hR; have HW := Lib.hid (HW.out.trans (hB.mono HW.out.size)); (try have HWS := Lib.hid (HWS.out.trans (hB.mono HWS.out.size))); (try have HCPG := Lib.hid (Kd.C_below HCPG.out hB)); (try have HCPR := Lib.hid (Kd.C_below HCPR.out hB)); (try have HCPS := Lib.hid (Kd.C_below HCPS.out hB)); (try have HCXG := Lib.hid (Kd.C_below HCXG.out hB)); (try have HCXR := Lib.hid (Kd.C_below HCXR.out hB)); (try have HCXS := Lib.hid (Kd.C_below HCXS.out hB)); (try have HCYG := Lib.hid (Kd.C_below HCYG.out hB)); (try have HCYR := Lib.hid (Kd.C_below HCYR.out hB)); (try have HCYS := Lib.hid (Kd.C_below HCYS.out hB)); (try have HCQG := Lib.hid (Kd.C_below HCQG.out hB)); (try have HCQR := Lib.hid (Kd.C_below HCQR.out hB)); (try have HCQS := Lib.hid (Kd.C_below HCQS.out hB)); (try have HMG := Lib.hid (HMG.out.below hB)); (try have HMR := Lib.hid (HMR.out.below hB)); (try have HMS := Lib.hid (HMS.out.below hB)); (try have HRG := Lib.hid (Kd.R_below HRG.out hB)); (try have HH := Lib.hid (HH.out.below hB)); (try have HC9 := Lib.hid (Kd.C_below HC9.out hB)); have HC9 := Lib.hid hC; clear HI2 hR hB hC) | (go_at_call 33; with_reducible refine (eqStringS_same _ _ v _ _ _ (Kd.R_reads' HRG.out).2.2 (Kd.C_below HC0.out HWS.out)).mono ?_; rintro e wE ⟨rfl, hB⟩; have HW := Lib.hid (HW.out.trans (hB.mono HW.out.size)); (try have HWS := Lib.hid (HWS.out.trans (hB.mono HWS.out.size))); (try have HCPG := Lib.hid (Kd.C_below HCPG.out hB)); (try have HCPR := Lib.hid (Kd.C_below HCPR.out hB)); (try have HCPS := Lib.hid (Kd.C_below HCPS.out hB)); (try have HCXG := Lib.hid (Kd.C_below HCXG.out hB)); (try have HCXR := Lib.hid (Kd.C_below HCXR.out hB)); (try have HCXS := Lib.hid (Kd.C_below HCXS.out hB)); (try have HCYG := Lib.hid (Kd.C_below HCYG.out hB)); (try have HCYR := Lib.hid (Kd.C_below HCYR.out hB)); (try have HCYS := Lib.hid (Kd.C_below HCYS.out hB)); (try have HCQG := Lib.hid (Kd.C_below HCQG.out hB)); (try have HCQR := Lib.hid (Kd.C_below HCQR.out hB)); (try have HCQS := Lib.hid (Kd.C_below HCQS.out hB)); (try have HMG := Lib.hid (HMG.out.below hB)); (try have HMR := Lib.hid (HMR.out.below hB)); (try have HMS := Lib.hid (HMS.out.below hB)); (try have HRG := Lib.hid (Kd.R_below HRG.out hB)); (try have HH := Lib.hid (HH.out.below hB)); (try have HC9 := Lib.hid (Kd.C_below HC9.out hB)); clear hB) | (go_at_call 33; with_reducible refine (eqStringS_same _ _ v _ _ _ HC9.out (Kd.C_below HC0.out HWS.out)).mono ?_; rintro e wE ⟨rfl, hB⟩; have HW := Lib.hid (HW.out.trans (hB.mono HW.out.size)); (try have HWS := Lib.hid (HWS.out.trans (hB.mono HWS.out.size))); (try have HCPG := Lib.hid (Kd.C_below HCPG.out hB)); (try have HCPR := Lib.hid (Kd.C_below HCPR.out hB)); (try have HCPS := Lib.hid (Kd.C_below HCPS.out hB)); (try have HCXG := Lib.hid (Kd.C_below HCXG.out hB)); (try have HCXR := Lib.hid (Kd.C_below HCXR.out hB)); (try have HCXS := Lib.hid (Kd.C_below HCXS.out hB)); (try have HCYG := Lib.hid (Kd.C_below HCYG.out hB)); (try have HCYR := Lib.hid (Kd.C_below HCYR.out hB)); (try have HCYS := Lib.hid (Kd.C_below HCYS.out hB)); (try have HCQG := Lib.hid (Kd.C_below HCQG.out hB)); (try have HCQR := Lib.hid (Kd.C_below HCQR.out hB)); (try have HCQS := Lib.hid (Kd.C_below HCQS.out hB)); (try have HMG := Lib.hid (HMG.out.below hB)); (try have HMR := Lib.hid (HMR.out.below hB)); (try have HMS := Lib.hid (HMS.out.below hB)); (try have HRG := Lib.hid (Kd.R_below HRG.out hB)); (try have HH := Lib.hid (HH.out.below hB)); (try have HC9 := Lib.hid (Kd.C_below HC9.out hB)); clear hB) | (go_at_call 34; with_reducible refine (eqTaskS_same _ _ g _ _ _ HCXG.out HCYG.out).mono ?_; rintro e wE ⟨rfl, hB⟩; have HW := Lib.hid (HW.out.trans (hB.mono HW.out.size)); (try have HWS := Lib.hid (HWS.out.trans (hB.mono HWS.out.size))); (try have HCPG := Lib.hid (Kd.C_below HCPG.out hB)); (try have HCPR := Lib.hid (Kd.C_below HCPR.out hB)); (try have HCPS := Lib.hid (Kd.C_below HCPS.out hB)); (try have HCXG := Lib.hid (Kd.C_below HCXG.out hB)); (try have HCXR := Lib.hid (Kd.C_below HCXR.out hB)); (try have HCXS := Lib.hid (Kd.C_below HCXS.out hB)); (try have HCYG := Lib.hid (Kd.C_below HCYG.out hB)); (try have HCYR := Lib.hid (Kd.C_below HCYR.out hB)); (try have HCYS := Lib.hid (Kd.C_below HCYS.out hB)); (try have HCQG := Lib.hid (Kd.C_below HCQG.out hB)); (try have HCQR := Lib.hid (Kd.C_below HCQR.out hB)); (try have HCQS := Lib.hid (Kd.C_below HCQS.out hB)); (try have HMG := Lib.hid (HMG.out.below hB)); (try have HMR := Lib.hid (HMR.out.below hB)); (try have HMS := Lib.hid (HMS.out.below hB)); (try have HRG := Lib.hid (Kd.R_below HRG.out hB)); (try have HH := Lib.hid (HH.out.below hB)); (try have HC9 := Lib.hid (Kd.C_below HC9.out hB)); clear hB) | (go_at_call 35; with_reducible refine (eqIntS_same _ _ rm _ _ _ HCXR.out HCYR.out).mono ?_; rintro e wE ⟨rfl, hB⟩; have HW := Lib.hid (HW.out.trans (hB.mono HW.out.size)); (try have HWS := Lib.hid (HWS.out.trans (hB.mono HWS.out.size))); (try have HCPG := Lib.hid (Kd.C_below HCPG.out hB)); (try have HCPR := Lib.hid (Kd.C_below HCPR.out hB)); (try have HCPS := Lib.hid (Kd.C_below HCPS.out hB)); (try have HCXG := Lib.hid (Kd.C_below HCXG.out hB)); (try have HCXR := Lib.hid (Kd.C_below HCXR.out hB)); (try have HCXS := Lib.hid (Kd.C_below HCXS.out hB)); (try have HCYG := Lib.hid (Kd.C_below HCYG.out hB)); (try have HCYR := Lib.hid (Kd.C_below HCYR.out hB)); (try have HCYS := Lib.hid (Kd.C_below HCYS.out hB)); (try have HCQG := Lib.hid (Kd.C_below HCQG.out hB)); (try have HCQR := Lib.hid (Kd.C_below HCQR.out hB)); (try have HCQS := Lib.hid (Kd.C_below HCQS.out hB)); (try have HMG := Lib.hid (HMG.out.below hB)); (try have HMR := Lib.hid (HMR.out.below hB)); (try have HMS := Lib.hid (HMS.out.below hB)); (try have HRG := Lib.hid (Kd.R_below HRG.out hB)); (try have HH := Lib.hid (HH.out.below hB)); (try have HC9 := Lib.hid (Kd.C_below HC9.out hB)); clear hB) | (go_at_call 35; with_reducible refine (eqIntS_same _ _ st _ _ _ HCXS.out HCYS.out).mono ?_; rintro e wE ⟨rfl, hB⟩; have HW := Lib.hid (HW.out.trans (hB.mono HW.out.size)); (try have HWS := Lib.hid (HWS.out.trans (hB.mono HWS.out.size))); (try have HCPG := Lib.hid (Kd.C_below HCPG.out hB)); (try have HCPR := Lib.hid (Kd.C_below HCPR.out hB)); (try have HCPS := Lib.hid (Kd.C_below HCPS.out hB)); (try have HCXG := Lib.hid (Kd.C_below HCXG.out hB)); (try have HCXR := Lib.hid (Kd.C_below HCXR.out hB)); (try have HCXS := Lib.hid (Kd.C_below HCXS.out hB)); (try have HCYG := Lib.hid (Kd.C_below HCYG.out hB)); (try have HCYR := Lib.hid (Kd.C_below HCYR.out hB)); (try have HCYS := Lib.hid (Kd.C_below HCYS.out hB)); (try have HCQG := Lib.hid (Kd.C_below HCQG.out hB)); (try have HCQR := Lib.hid (Kd.C_below HCQR.out hB)); (try have HCQS := Lib.hid (Kd.C_below HCQS.out hB)); (try have HMG := Lib.hid (HMG.out.below hB)); (try have HMR := Lib.hid (HMR.out.below hB)); (try have HMS := Lib.hid (HMS.out.below hB)); (try have HRG := Lib.hid (Kd.R_below HRG.out hB)); (try have HH := Lib.hid (HH.out.below hB)); (try have HC9 := Lib.hid (Kd.C_below HC9.out hB)); clear hB) | (go_at_call 28; refine (HSZ.out _ HW.out).mono ?_; rintro e wZ ⟨rfl, hB⟩; have HW := Lib.hid (HW.out.trans (hB.mono HW.out.size)); clear HSZ hB) | (go_at_call 36; refine (markTaskS_calls _ _ _ 1 wS.heap.size wXS.heap.size _ HMG.out HGL.out ⟨by decide, by decide⟩).mono ?_; rintro e wMG ⟨K, rfl, hK, hO⟩; (try clear HCPG HCXG HCYG HCPR HCXR HCYR HCPS HCXS HCYS); have HW := Lib.hid (HW.out.trans (hO.below (fun q hq => Nat.le_trans HLO.out hq.1))); have HWS := Lib.hid (HWS.out.trans (hO.below (fun q hq => hq.1))); have HRG := Lib.hid (R_only HRG.out hO (fun q hq => hq.2)); have HMR := Lib.hid (HMR.out.only hO); have HMS := Lib.hid (HMS.out.only hO); have HK := Lib.hid hK; have dk : decide (K + (rm.length : Int) + (st.length : Int) < 0) = false := decide_eq_false (by have h1 := HB1.out; omega); clear HMG hO hK) | (go_at_call 37; with_reducible refine (markIntS_calls _ _ _ (K) wS.heap.size wXS.heap.size _ HMR.out ⟨by have h0 := HK.out; omega, by have h0 := HK.out; have h1 := HB1.out; have h2 := HB2.out; omega⟩).mono ?_; rintro e wMR ⟨rfl, _, hO⟩; have HW := Lib.hid (HW.out.trans (hO.below (fun q hq => Nat.le_trans HLO.out (by obtain ⟨_, _, _, h, _⟩ := hq; exact h)))); have HWS := Lib.hid (HWS.out.trans (hO.below (fun q hq => (by obtain ⟨_, _, _, h, _⟩ := hq; exact h)))); have HRG := Lib.hid (R_only HRG.out hO (fun q hq => by obtain ⟨_, _, _, _, h⟩ := hq; exact h)); have HMS := Lib.hid (HMS.out.only hO); clear HMR hO) | (go_at_call 37; with_reducible refine (markIntS_calls _ _ _ (K + (rm.length : Int)) wS.heap.size wXS.heap.size _ HMS.out ⟨by have h0 := HK.out; omega, by have h0 := HK.out; have h1 := HB1.out; have h2 := HB2.out; omega⟩).mono ?_; rintro e wMS ⟨rfl, _, hO⟩; have HW := Lib.hid (HW.out.trans (hO.below (fun q hq => Nat.le_trans HLO.out (by obtain ⟨_, _, _, h, _⟩ := hq; exact h)))); have HWS := Lib.hid (HWS.out.trans (hO.below (fun q hq => (by obtain ⟨_, _, _, h, _⟩ := hq; exact h)))); have HRG := Lib.hid (R_only HRG.out hO (fun q hq => by obtain ⟨_, _, _, _, h⟩ := hq; exact h)); clear HMS hO) | (go_at_call 38; with_reducible refine (markStringS_calls _ _ _ wXS.heap.size _ _ (MRow.of_RS HRG.out) (by have h0 := HLL.out; omega)).mono ?_; rintro e wMR ⟨rfl, hH, hL⟩; have HW := Lib.hid (HW.out.trans (hL.mono (Nat.le_trans HLO.out HLB.out))); have HWS := Lib.hid (HWS.out.trans (hL.mono HLB.out)); have HH := Lib.hid hH; clear HRG hL hH) | (go_at_call 39; refine (heldStringS_calls _ _ _ _ HH.out (by have h0 := HLL.out; omega)).mono ?_; rintro e wHD ⟨rfl, hB⟩; have HW := Lib.hid (HW.out.trans (hB.mono HW.out.size)); (try have HWS := Lib.hid (HWS.out.trans (hB.mono HWS.out.size))); (try have HCPG := Lib.hid (Kd.C_below HCPG.out hB)); (try have HCPR := Lib.hid (Kd.C_below HCPR.out hB)); (try have HCPS := Lib.hid (Kd.C_below HCPS.out hB)); (try have HCXG := Lib.hid (Kd.C_below HCXG.out hB)); (try have HCXR := Lib.hid (Kd.C_below HCXR.out hB)); (try have HCXS := Lib.hid (Kd.C_below HCXS.out hB)); (try have HCYG := Lib.hid (Kd.C_below HCYG.out hB)); (try have HCYR := Lib.hid (Kd.C_below HCYR.out hB)); (try have HCYS := Lib.hid (Kd.C_below HCYS.out hB)); (try have HCQG := Lib.hid (Kd.C_below HCQG.out hB)); (try have HCQR := Lib.hid (Kd.C_below HCQR.out hB)); (try have HCQS := Lib.hid (Kd.C_below HCQS.out hB)); (try have HMG := Lib.hid (HMG.out.below hB)); (try have HMR := Lib.hid (HMR.out.below hB)); (try have HMS := Lib.hid (HMS.out.below hB)); (try have HRG := Lib.hid (Kd.R_below HRG.out hB)); (try have HH := Lib.hid (HH.out.below hB)); (try have HC9 := Lib.hid (Kd.C_below HC9.out hB)); clear hB))
 go_ret
 exact ⟨rfl, HW.out⟩
end Go.Proofs.YtlapphhcficbjaaDoor
