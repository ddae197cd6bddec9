/- Parts of the proof, laid as one text by a program of mine. -/
import Derived.Test.YtdjdfbfcjajlkaaDoorKcc5
import Derived.Test.YtdjdfbfcjajlkaaDoorKcc20
import Derived.Test.YtdjdfbfcjajlkaaDoorKcc21
import Derived.Test.YtdjdfbfcjajlkaaDoorKcc19
namespace Go.Proofs.YtdjdfbfcjajlkaaDoor
set_option linter.unusedVariables false
set_option linter.unusedSimpArgs false
open Go.RowKit Go.Shelf Bits
open Go.Proofs.YtdjdfbfcjajlkaaDoorW.PrintWords Go.Proofs.YtdjdfbfcjajlkaaDoorW.PrintLast Go.Proofs.YtdjdfbfcjajlkaaDoorW.PrintMore
attribute [local go_sem] Oper.semAt_some
def HeldE (W : World) (A : Option Addr) (n : Nat) : Prop := n = 0 ∨ ∃ b cells, A = some ⟨b, 0, none⟩ ∧ W.heap[b]? = some (.cells cells 77 (0, 0)) ∧ ∀ i, i < n → cells[i * 3]? = some (.int .i64 (1 + 3 * (i : Nat))) ∧ cells[i * 3 + 1]? = some (.int .i64 (1 + 3 * (i : Nat) + 1)) ∧ cells[i * 3 + 2]? = some (.bool true)
theorem HeldE.below {W W' : World} {A : Option Addr} {n : Nat} (h : HeldE W A n) (hb : Below W.heap.size W W') : HeldE W' A n := by
 rcases h with h | ⟨b, cells, h1, h2, h3⟩
 ·
  exact .inl h
 ·
  exact .inr ⟨b, cells, h1, blk_below h2 hb, h3⟩
theorem rem3 (j : Nat) : Int.tmod (1 + 3 * (j : Int) + 1 + 1) 3 = 0 := by
 rw [show 1 + 3 * (j : Int) + 1 + 1 = 3 * ((j : Int) + 1) by omega]
 exact Int.mul_tmod_right _ _
theorem MRow.of_RE {e base : Nat} {ok : Nat → Prop} {w : World} {A : Option Addr} {n c : Nat} {xs : List Ev} (h : kEv.R e w base ok (.slice A n c) xs) : MRow w A n 3 base w.heap.size e := by
 obtain ⟨hn, _, _⟩ := Kd.R_reads' h
 obtain ⟨inner, ho⟩ := Kd.R_own h
 rw [← hn] at ho
 exact MRow.of_own ho
set_option maxRecDepth 100000 in
set_option maxHeartbeats 4000000 in
theorem markEventS_calls (A : Option Addr) (n c : Nat) (lo hi : Nat) (w : World) (h : MRow w A n 3 lo hi 77) (hn : n ≤ 100000000) :
  Calls Tryd.prog 39 #[.slice A n c, .int .i64 1] w fun e w' => e = .returned (.int .i64 (1 + 3 * n)) ∧ HeldE w' A n ∧ OnlyP (fun q => ∃ a, A = some a ∧ q = a.block ∧ lo ≤ q ∧ q < hi) w w' := by
 rcases h with rfl | ⟨b, cells, rfl, hlo, hhi, hb, hsz⟩
 ·
  have d0 : decide (((0 : Nat) : Int) < ((0 : Nat) : Int)) = false := by decide
  clear hn
  go_enter Tryd.func39, Tryd.ntmps39
  go_wp2
  go_loopw [1, 5] (fun K i wr => K = .int .i64 1 ∧ i = .int .i64 0 ∧ wr = w) (fun _ _ _ => 0)
  case atStart => exact ⟨rfl, rfl, rfl⟩
  case round =>
   obtain ⟨rfl, rfl, rfl⟩ := hrel
   go_wp2
   go_ret
   exact ⟨by simp, .inl rfl, OnlyP.refl _ _⟩
 ·
  have HB := Lib.hid hb
  have HP := Lib.hid (And.intro hlo hhi)
  have HSZ := Lib.hid hsz
  clear hlo hhi hb hsz
  go_enter Tryd.func39, Tryd.ntmps39
  go_wp2
  go_loopw [1, 5] (fun K i wr => ∃ (j : Nat) (cl : Array Value), j ≤ n ∧ i = .int .i64 j ∧ K = .int .i64 (1 + 3 * (j : Nat)) ∧ wr.heap[b]? = some (.cells cl 77 (0, 0)) ∧ cl.size = cells.size ∧ (∀ i, i < j → cl[i * 3]? = some (.int .i64 (1 + 3 * (i : Nat))) ∧ cl[i * 3 + 1]? = some (.int .i64 (1 + 3 * (i : Nat) + 1)) ∧ cl[i * 3 + 2]? = some (.bool true)) ∧ OnlyP (fun q => q = b) w wr) (fun _ i _ => n - (intOf i).toNat)
  case atStart => exact ⟨0, cells, Nat.zero_le _, rfl, by simp, HB.out, rfl, fun i hi => absurd hi (by omega), OnlyP.refl _ _⟩
  case round =>
   obtain ⟨j, cl, hj, rfl, rfl, hb, hcs, hcl, hO⟩ := hrel
   by_cases hjl : j < n
   ·
    have hjj : decide ((j : Int) < (n : Int)) = true := decide_eq_true (by omega)
    have hji : (j : Int) < (n : Int) := by omega
    have hsz := HSZ.out
    have hs0 : j * 3 < cl.size := by omega
    have hs1 : j * 3 + 1 < cl.size := by omega
    have hs2 : j * 3 + 2 < cl.size := by omega
    have hr3 := rem3 j
    obtain ⟨kj, hkj⟩ : ∃ kj : Int, kj = 1 + 3 * (j : Nat) := ⟨_, rfl⟩
    rw [← hkj] at hr3 ⊢
    have HKJ := Lib.hid hkj
    have c0 : wr.cell? ⟨b, j * 3, none⟩ = some (cl[j * 3]'hs0) := (blk_cell hb (j * 3)).trans (by simp [hs0])
    have f0 := blk_frozen hb
    have s1 := blk_set hb (j * 3) (.int .i64 kj)
    have c1 : (wr.setCell ⟨b, j * 3, none⟩ (.int .i64 kj)).cell? ⟨b, j * 3 + 1, none⟩ = some (cl[j * 3 + 1]'hs1) := (blk_cell s1 (j * 3 + 1)).trans (by rw [Array.getElem?_setIfInBounds, if_neg (by omega)]; simp [hs1])
    have f1 := blk_frozen s1
    have s2 := blk_set s1 (j * 3 + 1) (.int .i64 (kj + 1))
    have c2 : ((wr.setCell ⟨b, j * 3, none⟩ (.int .i64 kj)).setCell ⟨b, j * 3 + 1, none⟩ (.int .i64 (kj + 1))).cell? ⟨b, j * 3 + 2, none⟩ = some (cl[j * 3 + 2]'hs2) := (blk_cell s2 (j * 3 + 2)).trans (by rw [Array.getElem?_setIfInBounds, if_neg (by omega), Array.getElem?_setIfInBounds, if_neg (by omega)]; simp [hs2])
    have f2 := blk_frozen s2
    have s3 := blk_set s2 (j * 3 + 2) (.bool true)
    have hO3 := ((hO.set (q := b) rfl (j * 3) (.int .i64 kj)).set (q := b) rfl (j * 3 + 1) (.int .i64 (kj + 1))).set (q := b) rfl (j * 3 + 2) (.bool true)
    generalize cl[j * 3]'hs0 = o0 at c0
    generalize cl[j * 3 + 1]'hs1 = o1 at c1
    generalize cl[j * 3 + 2]'hs2 = o2 at c2
    have HX := Lib.hid (And.intro s3 (And.intro hcs (And.intro hcl hO3)))
    have HSS := Lib.hid (And.intro hs0 (And.intro hs1 hs2))
    have hw1 : IntKind.i64.wrap (kj + 1) = kj + 1 := IntWalk.i64_in _ (by clear hr3; omega)
    have hw2 : IntKind.i64.wrap (kj + 1 + 1) = kj + 1 + 1 := IntWalk.i64_in _ (by clear hr3 hw1; omega)
    have hw3 : IntKind.i64.wrap (kj + 1 + 1 + 1) = kj + 1 + 1 + 1 := IntWalk.i64_in _ (by clear hr3 hw1 hw2; omega)
    clear hb hcs hcl hO hO3 s1 s2 s3 hs0 hs1 hs2 hsz hkj
    go_wp2
    clear hw1 hw2 hw3 hr3
    go_roundw
    case rel =>
     obtain ⟨s3, hcs, hcl, hO3⟩ := HX.out
     obtain ⟨hs0, hs1, hs2⟩ := HSS.out
     have hkj := HKJ.out
     refine ⟨j + 1, _, by omega, by go_num, by rw [hkj] <;> (congr 1 <;> omega), s3, by simpa using hcs, fun i hi => ?_, hO3⟩
     by_cases e : i = j
     ·
      subst e
      rw [← hkj]
      refine ⟨?_, ?_, ?_⟩
      ·
       rw [Array.getElem?_setIfInBounds, if_neg (by omega), Array.getElem?_setIfInBounds, if_neg (by omega), Array.getElem?_setIfInBounds, if_pos rfl, if_pos hs0]
      ·
       rw [Array.getElem?_setIfInBounds, if_neg (by omega), Array.getElem?_setIfInBounds, if_pos rfl, if_pos (by simpa using hs1)]
      ·
       rw [Array.getElem?_setIfInBounds, if_pos rfl, if_pos (by simpa using hs2)]
     ·
      obtain ⟨a0, a1, a2⟩ := hcl i (by omega)
      refine ⟨?_, ?_, ?_⟩
      ·
       rw [Array.getElem?_setIfInBounds, if_neg (by omega), Array.getElem?_setIfInBounds, if_neg (by omega), Array.getElem?_setIfInBounds, if_neg (by omega), a0]
      ·
       rw [Array.getElem?_setIfInBounds, if_neg (by omega), Array.getElem?_setIfInBounds, if_neg (by omega), Array.getElem?_setIfInBounds, if_neg (by omega), a1]
      ·
       rw [Array.getElem?_setIfInBounds, if_neg (by omega), Array.getElem?_setIfInBounds, if_neg (by omega), Array.getElem?_setIfInBounds, if_neg (by omega), a2]
    case measure => simp [intOf]; omega
   ·
    obtain rfl : j = n := by omega
    have hjj : decide ((j : Int) < (j : Int)) = false := decide_eq_false (by omega)
    have HX := Lib.hid (And.intro hb (And.intro hcl hO))
    clear hb hcs hcl hO
    go_wp2
    go_ret
    obtain ⟨hb, hcl, hO⟩ := HX.out
    exact ⟨rfl, .inr ⟨b, cl, rfl, hb, hcl⟩, hO.mono (fun q hq => ⟨_, rfl, hq, by rw [hq]; exact HP.out.1, by rw [hq]; exact HP.out.2⟩)⟩
set_option maxRecDepth 100000 in
set_option maxHeartbeats 4000000 in
theorem heldEventS_calls (A : Option Addr) (n c : Nat) (w : World) (h : HeldE w A n) (hn : n ≤ 100000000) :
  Calls Tryd.prog 40 #[.slice A n c, .int .i64 1] w fun e w' => e = .returned (.int .i64 (1 + 3 * n)) ∧ Below w.heap.size w w' := by
 rcases h with rfl | ⟨b, cells, rfl, hb, hcl⟩
 ·
  have d0 : decide (((0 : Nat) : Int) < ((0 : Nat) : Int)) = false := by decide
  clear hn
  go_enter Tryd.func40, Tryd.ntmps40
  go_wp2
  go_loopw [1, 5] (fun K i wr => K = .int .i64 1 ∧ i = .int .i64 0 ∧ wr = w) (fun _ _ _ => 0)
  case atStart => exact ⟨rfl, rfl, rfl⟩
  case round =>
   obtain ⟨rfl, rfl, rfl⟩ := hrel
   go_wp2
   go_ret
   exact ⟨by simp, Below.refl _ _⟩
 ·
  have HX := Lib.hid (And.intro hb hcl)
  clear hb hcl
  go_enter Tryd.func40, Tryd.ntmps40
  go_wp2
  go_loopw [1, 5] (fun K i wr => ∃ (j : Nat), j ≤ n ∧ i = .int .i64 j ∧ K = .int .i64 (1 + 3 * (j : Nat)) ∧ Below w.heap.size w wr) (fun _ i _ => n - (intOf i).toNat)
  case atStart => exact ⟨0, Nat.zero_le _, rfl, by simp, Below.refl _ _⟩
  case round =>
   obtain ⟨j, hj, rfl, rfl, hB⟩ := hrel
   by_cases hjl : j < n
   ·
    have hjj : decide ((j : Int) < (n : Int)) = true := decide_eq_true (by omega)
    have hji : (j : Int) < (n : Int) := by omega
    obtain ⟨q0, q1, q2⟩ := HX.out.2 j hjl
    have c0 := (blk_cell (blk_below HX.out.1 hB) (j * 3)).trans q0
    have c1 := (blk_cell (blk_below HX.out.1 hB) (j * 3 + 1)).trans q1
    have c2 := (blk_cell (blk_below HX.out.1 hB) (j * 3 + 2)).trans q2
    have HB := Lib.hid hB
    have hr3 := rem3 j
    obtain ⟨kj, hkj⟩ : ∃ kj : Int, kj = 1 + 3 * (j : Nat) := ⟨_, rfl⟩
    rw [← hkj] at c0 c1 hr3 ⊢
    have HKJ := Lib.hid hkj
    have hw1 : IntKind.i64.wrap (kj + 1) = kj + 1 := IntWalk.i64_in _ (by clear hr3; omega)
    have hw2 : IntKind.i64.wrap (kj + 1 + 1) = kj + 1 + 1 := IntWalk.i64_in _ (by clear hr3 hw1; omega)
    have hw3 : IntKind.i64.wrap (kj + 1 + 1 + 1) = kj + 1 + 1 + 1 := IntWalk.i64_in _ (by clear hr3 hw1 hw2; omega)
    have dn : (kj != kj) = false := bne_self_eq_false _
    have dn1 : (kj + 1 != kj + 1) = false := bne_self_eq_false _
    clear hkj hB q0 q1 q2
    go_wp2
    clear hw1 hw2 hw3 hr3
    go_roundw
    case rel => exact ⟨j + 1, by omega, by go_num, by rw [HKJ.out] <;> (congr 1 <;> omega), by repeat (first | exact HB.out | apply pw_below_drewN)⟩
    case measure => simp [intOf]; omega
   ·
    obtain rfl : j = n := by omega
    have hjj : decide ((j : Int) < (j : Int)) = false := decide_eq_false (by omega)
    go_wp2
    go_ret
    exact ⟨rfl, hB⟩
theorem eqEvent_same (x y : Int) (z : Bool) (w : World) :
  Calls Tryd.prog 67 #[.agg #[.int .i64 x, .int .i64 y, .bool z], .agg #[.int .i64 x, .int .i64 y, .bool z]] w fun e w' => e = .returned (.bool true) ∧ Below w.heap.size w w' := by
 have dx : (x != x) = false := bne_self_eq_false _
 have dy : (y != y) = false := bne_self_eq_false _
 have dz : (z != z) = false := bne_self_eq_false _
 have HB := Lib.hid (((Below.refl w.heap.size w).alloc (Nat.le_refl _) (.cells #[.int .i64 x, .int .i64 y, .bool z] 77)).alloc (by simp) (.cells #[.int .i64 x, .int .i64 y, .bool z] 77))
 go_enter Tryd.func67, Tryd.ntmps67
 go_wp2
 go_ret
 exact ⟨rfl, HB.out⟩
set_option maxRecDepth 100000 in
set_option maxHeartbeats 4000000 in
theorem eqEventS_same (A : Option Addr) (c : Nat) (a : List Ev) (B : Option Addr) (d : Nat) (w : World) (hr : kEv.C w A a.length a) (hr' : kEv.C w B a.length a) :
  Calls Tryd.prog 38 #[.slice A a.length c, .slice B a.length d] w fun e w' => e = .returned (.bool true) ∧ Below w.heap.size w w' := by
 have HR := Lib.hid hr
 have HR' := Lib.hid hr'
 have hla := (C_len hr).2
 clear hr hr'
 have dl : ((a.length : Int) != (a.length : Int)) = false := bne_self_eq_false _
 go_enter Tryd.func38, Tryd.ntmps38
 go_wp2
 clear dl
 go_loopw [5] (fun i wr => ∃ j, j ≤ a.length ∧ i = .int .i64 (j : Nat) ∧ Below w.heap.size w wr) (fun i _ => a.length - (intOf i).toNat)
 case atStart => exact ⟨0, Nat.zero_le _, rfl, Below.refl _ _⟩
 case round =>
  obtain ⟨j, hj, rfl, hB⟩ := hrel
  by_cases hjl : j < a.length
  ·
   have hjj : decide ((j : Int) < (a.length : Int)) = true := decide_eq_true (by omega)
   have hja : (j : Int) < (a.length : Int) := by omega
   obtain ⟨ad, rfl, cx0, cx1, cx2⟩ := at_Ev (Kd.C_below HR.out hB) j hjl
   obtain ⟨bd, rfl, cy0, cy1, cy2⟩ := at_Ev (Kd.C_below HR'.out hB) j hjl
   generalize rdEv a j = e at cx0 cx1 cx2 cy0 cy1 cy2
   obtain ⟨x, y, z⟩ := e
   have HB := Lib.hid hB
   clear hB
   go_wp2
   go_still_tail 8, mixed
   go_wp2_with (go_at_call 67; refine (eqEvent_same x y z wr.drew).mono ?_; rintro e w3 ⟨rfl, hB3⟩; have HB := Lib.hid (HB.out.drew.trans (hB3.mono HB.out.size)); clear hB3)
   go_roundw
   case rel => exact ⟨j + 1, by omega, by go_num, by repeat (first | exact HB.out | apply pw_below_drewN)⟩
   case measure => simp [intOf]; omega
  ·
   obtain rfl : j = a.length := by omega
   have hjj : decide ((a.length : Int) < (a.length : Int)) = false := decide_eq_false (by omega)
   go_wp2
   go_ret
   exact ⟨rfl, hB⟩
end Go.Proofs.YtdjdfbfcjajlkaaDoor

namespace Go.Proofs.YtdjdfbfcjajlkaaDoor
set_option linter.unusedVariables false
set_option linter.unusedSimpArgs false
open Go.RowKit Go.Shelf Bits
def laterN (d : Int) (st : List Int) (j : Nat) : List Int := (st.take j).map fun x => x + d
theorem laterN_len {d : Int} {st : List Int} {j : Nat} (h : j ≤ st.length) : (laterN d st j).length = j := by
 unfold laterN
 rw [List.length_map, List.length_take]
 omega
theorem laterN_get {d : Int} {st : List Int} {i j : Nat} (hi : i < j) (hj : j ≤ st.length) : (laterN d st j).getD i 0 = st.getD i 0 + d := by
 unfold laterN
 rw [List.getD_eq_getElem?_getD, List.getElem?_map, List.getElem?_take_of_lt hi, List.getD_eq_getElem?_getD, List.getElem?_eq_getElem (by omega)]
 rfl
theorem laterN_snoc {d : Int} {st : List Int} {j : Nat} (hj : j < st.length) : laterN d st (j + 1) = laterN d st j ++ [st.getD j 0 + d] := by
 unfold laterN
 rw [List.take_succ_eq_append_getElem hj, List.map_append, List.getD_eq_getElem?_getD, List.getElem?_eq_getElem hj]
 rfl
theorem later_valid {g : List Tk} {rm : List Int} {wk : Int} {st : List Int} {d : Int} (h : Valid g rm wk st) (hd : 0 ≤ d) (hs : ∀ k, k < st.length → st.getD k 0 + d ≤ 200) : Valid g rm wk (laterN d st st.length) := by
 refine valid_shift (d := d) h (by rw [laterN_len (Nat.le_refl _)]; exact h.len) (fun i hi => laterN_get (by rw [h.len]; exact hi) (Nat.le_refl _)) (fun i hi => ?_)
 have hil : i < st.length := by rw [h.len]; exact hi
 rw [laterN_get hil (Nat.le_refl _)]
 have := h.b i hi
 have := hs i hil
 omega
theorem later_end {g : List Tk} {rm : List Int} {wk : Int} {st : List Int} {d : Int} (h : Valid g rm wk st) (hd : 0 ≤ d) (hs : ∀ k, k < st.length → st.getD k 0 + d ≤ 200) (hn : 0 < g.length) : etS g rm wk (laterN d st st.length) = etS g rm wk st + d := by
 have h' := later_valid h hd hs
 unfold etS
 rw [if_pos (valid_vSt h), if_pos (valid_vSt h')]
 exact end_shift h h' hn (fun i hi => laterN_get (by rw [h.len]; exact hi) (Nat.le_refl _))
theorem large_valid {g : List Tk} {rm : List Int} {wk : Int} {st : List Int} (h : Valid g rm wk st) : Valid g (List.replicate rm.length 8) 4 st := by
 obtain ⟨h1, h2, h3⟩ := placeB_facts h.p
 obtain ⟨h4, h5⟩ := roomB_facts h1
 rw [h4]
 refine valid_more h (by decide) h3 (fun p hp => ?_)
 have := (h5 p hp).2
 have e : (List.replicate 3 (8 : Int)).getD p 0 = 8 := by
  rcases p with _ | _ | _ | p
  ·
   rfl
  ·
   rfl
  ·
   rfl
  ·
   omega
 omega
theorem rep_snoc (n : Nat) (x : Int) : List.replicate (n + 1) x = List.replicate n x ++ [x] := List.replicate_succ'
theorem etS_valid {g : List Tk} {rm : List Int} {wk : Int} {st : List Int} (h : Valid g rm wk st) : etS g rm wk st = endS g st g.length := by
 unfold etS
 rw [if_pos (valid_vSt h)]
theorem etS_no {g : List Tk} {rm : List Int} {wk : Int} {st : List Int} (h : vStB g rm wk st = false) : etS g rm wk st = -1 := by
 unfold etS
 rw [h]
 rfl
theorem etS_cases (g : List Tk) (rm : List Int) (wk : Int) (st : List Int) : (etS g rm wk st = -1 ∧ vStB g rm wk st = false) ∨ (0 ≤ etS g rm wk st ∧ Valid g rm wk st) := by
 cases h : vStB g rm wk st with
 | false => exact .inl ⟨etS_no h, rfl⟩
 | true =>
  refine .inr ⟨?_, vSt_valid h⟩
  rw [etS_valid (vSt_valid h)]
  exact endS_nonneg _ _ _
theorem etS_bound (g : List Tk) (rm : List Int) (wk : Int) (st : List Int) : -1 ≤ etS g rm wk st ∧ etS g rm wk st ≤ 1020 := by
 cases h : vStB g rm wk st with
 | false => rw [etS_no h]; omega
 | true =>
  have hv := vSt_valid h
  rw [etS_valid hv]
  have := endS_bound hv.ok hv.sok g.length
  omega
def someEnd (g : List Tk) (st : List Int) (n : Int) (j : Nat) : Bool := (List.range j).any fun i => st.getD i 0 + (rdTk g i).f0 == n
theorem someEnd_snoc (g : List Tk) (st : List Int) (n : Int) (j : Nat) : someEnd g st n (j + 1) = (someEnd g st n j || (st.getD j 0 + (rdTk g j).f0 == n)) := by
 unfold someEnd
 rw [List.range_succ, List.any_append]
 simp
theorem someEnd_all {g : List Tk} {rm : List Int} {wk : Int} {st : List Int} (h : Valid g rm wk st) (hn : 0 < g.length) : someEnd g st (etS g rm wk st) g.length = true := by
 rw [etS_valid h]
 obtain ⟨i, hi, he⟩ := h.end_some hn
 unfold someEnd
 rw [List.any_eq_true]
 exact ⟨i, List.mem_range.2 hi, by rw [beq_iff_eq]; exact he⟩
theorem end_ge {g : List Tk} {st : List Int} : ∀ n i, i < n → st.getD i 0 + (rdTk g i).f0 ≤ endS g st n
 | n + 1, i, hi => by
  unfold endS
  by_cases h : i = n
  ·
   subst h
   exact Int.le_max_right _ _
  ·
   exact Int.le_trans (end_ge n i (by omega)) (Int.le_max_left _ _)
theorem etS_ge {g : List Tk} {rm : List Int} {wk : Int} {st : List Int} (h : Valid g rm wk st) {i : Nat} (hi : i < g.length) : st.getD i 0 + (rdTk g i).f0 ≤ etS g rm wk st := by
 rw [etS_valid h]
 exact end_ge _ i hi
theorem mdS_never {g : List Tk} {rm : List Int} {wk : Int} {st : List Int} (h : Valid g rm wk st) : mdS g rm wk st 0 = decide (g.length = 0) := by
 unfold mdS
 rw [valid_vSt h]
 by_cases hg : g.length = 0
 ·
  rw [hg, decide_eq_true rfl]
  rfl
 ·
  have := h.end_pos (by omega)
  rw [decide_eq_false hg, decide_eq_false (show ¬ endS g st g.length ≤ 0 by omega)]
  rfl
theorem mdS_is {g : List Tk} {rm : List Int} {wk : Int} {st : List Int} (h : Valid g rm wk st) {dl : Int} (hd : 0 ≤ dl ∧ dl ≤ 200) : mdS g rm wk st dl = decide (etS g rm wk st ≤ dl) := by
 unfold mdS
 rw [valid_vSt h, inB_true.2 hd, etS_valid h]
 rfl
theorem caS_no {g : List Tk} {rm : List Int} {wk : Int} {st : List Int} {now : Int} (h : (vStB g rm wk st && inB now 0 200) = false) : caS g rm wk st now = [] := by
 unfold caS
 rw [h]
 rfl
theorem caS_yes {g : List Tk} {rm : List Int} {wk : Int} {st : List Int} {now : Int} (h : Valid g rm wk st) (hn : 0 ≤ now ∧ now ≤ 200) : caS g rm wk st now = (List.range g.length).map (cancF g st now) := by
 unfold caS
 rw [valid_vSt h, inB_true.2 hn]
 rfl
theorem caS_cases (g : List Tk) (rm : List Int) (wk : Int) (st : List Int) (now : Int) : caS g rm wk st now = [] ∨ (Valid g rm wk st ∧ (0 ≤ now ∧ now ≤ 200) ∧ caS g rm wk st now = (List.range g.length).map (cancF g st now)) := by
 cases h : (vStB g rm wk st && inB now 0 200) with
 | false => exact .inl (caS_no h)
 | true =>
  rw [Bool.and_eq_true] at h
  exact .inr ⟨vSt_valid h.1, inB_true.1 h.2, caS_yes (vSt_valid h.1) (inB_true.1 h.2)⟩
theorem canc_len (F : Nat → Int) (n : Nat) : ((List.range n).map F).length = n := by simp
theorem cancF_bound (g : List Tk) (st : List Int) (now : Int) (i : Nat) : 0 ≤ cancF g st now i ∧ cancF g st now i ≤ 3 := by
 unfold cancF
 split
 ·
  omega
 ·
  split <;> omega
theorem canc_row_bound (g : List Tk) (st : List Int) (now : Int) (i : Nat) : 0 ≤ ((List.range g.length).map (cancF g st now)).getD i 0 ∧ ((List.range g.length).map (cancF g st now)).getD i 0 ≤ 1000 := by
 by_cases h : i < g.length
 ·
  rw [caS_get h]
  have := cancF_bound g st now i
  omega
 ·
  rw [getD_out (by rw [canc_len]; exact h)]
  omega
theorem canc_needs {g : List Tk} {rm : List Int} {wk : Int} {st : List Int} (h : Valid g rm wk st) {now : Int} {i : Nat} (hi : i < g.length) (hc : cancF g st now i ≠ 3) {x : Int} (hx : x ∈ (rdTk g i).f1) : cancF g st now x.toNat = 0 := by
 have hs : st.getD i 0 < now := by
  apply Classical.byContradiction
  intro hn
  exact hc ((canc_left h.ok hi).2 (by omega))
 have hx0 := spec_needs_in h.v i hi x hx
 have := h.needs i hi x.toNat (by rw [Int.toNat_of_nonneg hx0.1]; exact hx)
 exact canc_done.2 (by omega)
theorem canc_end {g : List Tk} {rm : List Int} {wk : Int} {st : List Int} (h : Valid g rm wk st) {i : Nat} (hi : i < g.length) : cancF g st (etS g rm wk st) i = 0 := canc_done.2 (etS_ge h hi)
theorem canc_zero {g : List Tk} {rm : List Int} {wk : Int} {st : List Int} (h : Valid g rm wk st) {i : Nat} (hi : i < g.length) : cancF g st 0 i = 3 := (canc_left h.ok hi).2 (h.b i hi).1
theorem canc_more {g : List Tk} (hok : TOk g) {st : List Int} {now : Int} {i : Nat} (hi : i < g.length) : (cancF g st now i = 0 → cancF g st (now + 1) i = 0) ∧ (cancF g st now i = 1 → cancF g st (now + 1) i ≠ 3) ∧ (cancF g st now i = 0 ∨ cancF g st now i = 1 ∨ cancF g st now i = 3) := by
 refine ⟨fun h => ?_, fun h => ?_, ?_⟩
 ·
  have := canc_done.1 h
  exact canc_done.2 (by omega)
 ·
  have := (canc_failed.1 h).1
  intro h3
  have := (canc_left hok hi).1 h3
  omega
 ·
  unfold cancF
  split
  ·
   exact .inl rfl
  ·
   split
   ·
    exact .inr (.inl rfl)
   ·
    exact .inr (.inr rfl)
end Go.Proofs.YtdjdfbfcjajlkaaDoor

namespace Go.Proofs.YtdjdfbfcjajlkaaDoor
set_option linter.unusedVariables false
set_option linter.unusedSimpArgs false
open Go.RowKit Go.Shelf Bits
def ovE (g : List Tk) (st : List Int) (t : Int) : Nat → List Ev
 | 0 => []
 | n + 1 => if st.getD n 0 + (rdTk g n).f0 = t then ovE g st t n ++ [⟨t, (n : Int), true⟩] else ovE g st t n
def bgE (st : List Int) (t : Int) : Nat → List Ev
 | 0 => []
 | n + 1 => if st.getD n 0 = t then bgE st t n ++ [⟨t, (n : Int), false⟩] else bgE st t n
def logL (g : List Tk) (st : List Int) : Nat → List Ev
 | 0 => []
 | t + 1 => logL g st t ++ (ovE g st (t : Nat) g.length ++ bgE st (t : Nat) g.length)
theorem mem_ovE {g : List Tk} {st : List Int} {t : Int} {x : Ev} : ∀ n, x ∈ ovE g st t n ↔ ∃ i, i < n ∧ st.getD i 0 + (rdTk g i).f0 = t ∧ x = chO g st i
 | 0 => by simp [ovE]
 | n + 1 => by
  have ih := mem_ovE (g := g) (st := st) (t := t) (x := x) n
  unfold ovE
  split
  ·
   rename_i h
   rw [List.mem_append, ih, List.mem_singleton]
   constructor
   ·
    rintro (⟨i, h1, h2⟩ | h1)
    ·
     exact ⟨i, by omega, h2⟩
    ·
     refine ⟨n, by omega, h, ?_⟩
     rw [h1]
     unfold chO
     rw [h]
   ·
    rintro ⟨i, h1, h2, h3⟩
    by_cases e : i = n
    ·
     subst e
     refine .inr ?_
     rw [h3]
     unfold chO
     rw [h]
    ·
     exact .inl ⟨i, by omega, h2, h3⟩
  ·
   rename_i h
   rw [ih]
   constructor
   ·
    rintro ⟨i, h1, h2⟩
    exact ⟨i, by omega, h2⟩
   ·
    rintro ⟨i, h1, h2, h3⟩
    by_cases e : i = n
    ·
     subst e
     exact absurd h2 h
    ·
     exact ⟨i, by omega, h2, h3⟩
theorem mem_bgE {st : List Int} {t : Int} {x : Ev} : ∀ n, x ∈ bgE st t n ↔ ∃ i, i < n ∧ st.getD i 0 = t ∧ x = chB st i
 | 0 => by simp [bgE]
 | n + 1 => by
  have ih := mem_bgE (st := st) (t := t) (x := x) n
  unfold bgE
  split
  ·
   rename_i h
   rw [List.mem_append, ih, List.mem_singleton]
   constructor
   ·
    rintro (⟨i, h1, h2⟩ | h1)
    ·
     exact ⟨i, by omega, h2⟩
    ·
     refine ⟨n, by omega, h, ?_⟩
     rw [h1]
     unfold chB
     rw [h]
   ·
    rintro ⟨i, h1, h2, h3⟩
    by_cases e : i = n
    ·
     subst e
     refine .inr ?_
     rw [h3]
     unfold chB
     rw [h]
    ·
     exact .inl ⟨i, by omega, h2, h3⟩
  ·
   rename_i h
   rw [ih]
   constructor
   ·
    rintro ⟨i, h1, h2⟩
    exact ⟨i, by omega, h2⟩
   ·
    rintro ⟨i, h1, h2, h3⟩
    by_cases e : i = n
    ·
     subst e
     exact absurd h2 h
    ·
     exact ⟨i, by omega, h2, h3⟩
theorem sort_ovE {g : List Tk} {st : List Int} {t : Int} : ∀ n, (ovE g st t n).Pairwise ltE
 | 0 => List.Pairwise.nil
 | n + 1 => by
  have ih := sort_ovE (g := g) (st := st) (t := t) n
  unfold ovE
  split
  ·
   refine List.pairwise_append.2 ⟨ih, List.pairwise_singleton _ _, fun a ha b hb => ?_⟩
   obtain ⟨i, h1, h2, rfl⟩ := (mem_ovE n).1 ha
   rw [List.mem_singleton] at hb
   subst hb
   exact .inr ⟨h2, .inr ⟨rfl, by show (i : Int) < (n : Int); omega⟩⟩
  ·
   exact ih
theorem sort_bgE {st : List Int} {t : Int} : ∀ n, (bgE st t n).Pairwise ltE
 | 0 => List.Pairwise.nil
 | n + 1 => by
  have ih := sort_bgE (st := st) (t := t) n
  unfold bgE
  split
  ·
   refine List.pairwise_append.2 ⟨ih, List.pairwise_singleton _ _, fun a ha b hb => ?_⟩
   obtain ⟨i, h1, h2, rfl⟩ := (mem_bgE n).1 ha
   rw [List.mem_singleton] at hb
   subst hb
   exact .inr ⟨h2, .inr ⟨rfl, by show (i : Int) < (n : Int); omega⟩⟩
  ·
   exact ih
theorem mem_logL {g : List Tk} {st : List Int} {x : Ev} : ∀ m : Nat, x ∈ logL g st m ↔ ∃ i, i < g.length ∧ 0 ≤ x.f0 ∧ x.f0 < m ∧ (x = chB st i ∨ x = chO g st i)
 | 0 => by
  simp only [logL, List.not_mem_nil, false_iff]
  rintro ⟨i, _, h1, h2, _⟩
  omega
 | m + 1 => by
  unfold logL
  rw [List.mem_append, List.mem_append, mem_logL m, mem_ovE, mem_bgE]
  constructor
  ·
   rintro (⟨i, h1, h2, h3, h4⟩ | ⟨i, h1, h2, rfl⟩ | ⟨i, h1, h2, rfl⟩)
   ·
    exact ⟨i, h1, h2, by omega, h4⟩
   ·
    have e : (chO g st i).f0 = (m : Int) := h2
    exact ⟨i, h1, by omega, by omega, .inr rfl⟩
   ·
    have e : (chB st i).f0 = (m : Int) := h2
    exact ⟨i, h1, by omega, by omega, .inl rfl⟩
  ·
   rintro ⟨i, h1, h2, h3, h4⟩
   by_cases e : x.f0 = (m : Int)
   ·
    rcases h4 with rfl | rfl
    ·
     exact .inr (.inr ⟨i, h1, e, rfl⟩)
    ·
     exact .inr (.inl ⟨i, h1, e, rfl⟩)
   ·
    exact .inl ⟨i, h1, h2, by omega, h4⟩
theorem sort_logL (g : List Tk) (st : List Int) : ∀ m : Nat, (logL g st m).Pairwise ltE
 | 0 => List.Pairwise.nil
 | m + 1 => by
  unfold logL
  refine List.pairwise_append.2 ⟨sort_logL g st m, List.pairwise_append.2 ⟨sort_ovE _, sort_bgE _, fun a ha b hb => ?_⟩, fun a ha b hb => ?_⟩
  ·
   obtain ⟨i, h1, h2, rfl⟩ := (mem_ovE _).1 ha
   obtain ⟨k, h3, h4, rfl⟩ := (mem_bgE _).1 hb
   exact .inr ⟨h2.trans h4.symm, .inl ⟨rfl, rfl⟩⟩
  ·
   obtain ⟨_, _, _, h3, _⟩ := (mem_logL m).1 ha
   have hb0 : b.f0 = (m : Int) := by
    rcases List.mem_append.1 hb with hb | hb
    ·
     obtain ⟨i, h1, h2, rfl⟩ := (mem_ovE _).1 hb
     exact h2
    ·
     obtain ⟨i, h1, h2, rfl⟩ := (mem_bgE _).1 hb
     exact h2
   exact .inl (by omega)
theorem chgS_strict (g : List Tk) (st : List Int) : (chgS g st).Pairwise ltE :=
 (List.Pairwise.and (chgS_sorted g st) (chgS_nodup g st)).imp (fun {a b} h => by
  by_cases hl : ltE a b
  ·
   exact hl
  ·
   exact absurd (ltE_total hl h.1) h.2)
theorem sorted_ext : ∀ {l1 l2 : List Ev}, l1.Pairwise ltE → l2.Pairwise ltE → (∀ x, x ∈ l1 ↔ x ∈ l2) → l1 = l2
 | [], [], _, _, _ => rfl
 | [], b :: t, _, _, h => absurd ((h b).2 List.mem_cons_self) (by simp)
 | a :: t, [], _, _, h => absurd ((h a).1 List.mem_cons_self) (by simp)
 | a :: t, b :: u, h1, h2, h => by
  obtain ⟨p1, p2⟩ := List.pairwise_cons.1 h1
  obtain ⟨q1, q2⟩ := List.pairwise_cons.1 h2
  have e : a = b := by
   rcases List.mem_cons.1 ((h a).1 List.mem_cons_self) with e | ha
   ·
    exact e
   ·
    rcases List.mem_cons.1 ((h b).2 List.mem_cons_self) with e | hb
    ·
     exact e.symm
    ·
     exact absurd (ltE_trans (p1 b hb) (q1 a ha)) (ltE_irrefl a)
  subst e
  rw [sorted_ext p2 q2 (fun x => ⟨fun hx => by
   rcases List.mem_cons.1 ((h x).1 (List.mem_cons_of_mem _ hx)) with e | hx2
   ·
    exact absurd (p1 x hx) (by rw [e]; exact ltE_irrefl _)
   ·
    exact hx2, fun hx => by
   rcases List.mem_cons.1 ((h x).2 (List.mem_cons_of_mem _ hx)) with e | hx2
   ·
    exact absurd (q1 x hx) (by rw [e]; exact ltE_irrefl _)
   ·
    exact hx2⟩)]
theorem log_eq {g : List Tk} {rm : List Int} {wk : Int} {st : List Int} (h : Valid g rm wk st) : logL g st 221 = chgS g st := by
 refine sorted_ext (sort_logL g st 221) (chgS_strict g st) (fun x => ?_)
 rw [mem_logL, mem_chgS]
 constructor
 ·
  rintro ⟨i, h1, _, _, h4⟩
  exact ⟨i, h1, h4⟩
 ·
  rintro ⟨i, h1, h2⟩
  have hb := h.b i h1
  have ht := h.ok.2.1 i
  have ht2 := h.ok
  refine ⟨i, h1, ?_, ?_, h2⟩
  ·
   rcases h2 with rfl | rfl
   ·
    exact hb.1
   ·
    show 0 ≤ st.getD i 0 + (rdTk g i).f0
    omega
  ·
   rcases h2 with rfl | rfl
   ·
    show st.getD i 0 < _
    omega
   ·
    show st.getD i 0 + (rdTk g i).f0 < _
    omega
theorem lgS_log {g : List Tk} {rm : List Int} {wk : Int} {st : List Int} (h : Valid g rm wk st) : lgS g rm wk st = logL g st 221 := by
 unfold lgS
 rw [valid_vSt h, if_pos rfl, log_eq h]
theorem log_times {g : List Tk} {rm : List Int} {wk : Int} {st : List Int} (h : Valid g rm wk st) : (lgS g rm wk st).length = 2 * g.length ∧ (∀ q, q < 2 * g.length → ∃ i : Nat, i < g.length ∧ (rdEv (lgS g rm wk st) q).f1 = (i : Int) ∧ ((rdEv (lgS g rm wk st) q).f2 = false → (rdEv (lgS g rm wk st) q).f0 = st.getD i 0) ∧ ((rdEv (lgS g rm wk st) q).f2 = true → (rdEv (lgS g rm wk st) q).f0 = st.getD i 0 + (rdTk g i).f0)) ∧ (∀ q, q + 1 < 2 * g.length → (rdEv (lgS g rm wk st) q).f0 ≤ (rdEv (lgS g rm wk st) (q + 1)).f0) := by
 have e : lgS g rm wk st = chgS g st := by unfold lgS; rw [valid_vSt h, if_pos rfl]
 rw [e]
 have hl := chgS_len g st
 have hg : ∀ q (hq : q < (chgS g st).length), rdEv (chgS g st) q = (chgS g st)[q] := fun q hq => by
  unfold rdEv
  rw [List.getD_eq_getElem?_getD, List.getElem?_eq_getElem hq]
  rfl
 refine ⟨hl, fun q hq => ?_, fun q hq => ?_⟩
 ·
  rw [hg q (by omega)]
  obtain ⟨i, hi, h2⟩ := mem_chgS.1 (List.getElem_mem (show q < (chgS g st).length by omega))
  rcases h2 with h2 | h2 <;> rw [h2]
  ·
   exact ⟨i, hi, rfl, fun _ => rfl, fun hh => by cases hh⟩
  ·
   exact ⟨i, hi, rfl, (fun hh => by cases hh), fun _ => rfl⟩
 ·
  rw [hg q (by omega), hg (q + 1) (by omega)]
  have := List.pairwise_iff_getElem.1 (chgS_strict g st) q (q + 1) (by omega) (by omega) (by omega)
  rcases this with h3 | ⟨h3, _⟩ <;> omega
theorem ovE_len (g : List Tk) (st : List Int) (t : Int) : ∀ n, (ovE g st t n).length ≤ n
 | 0 => Nat.le_refl _
 | n + 1 => by
  have ih := ovE_len g st t n
  unfold ovE
  split
  ·
   rw [List.length_append, List.length_singleton]
   omega
  ·
   omega
theorem bgE_len (st : List Int) (t : Int) : ∀ n, (bgE st t n).length ≤ n
 | 0 => Nat.le_refl _
 | n + 1 => by
  have ih := bgE_len st t n
  unfold bgE
  split
  ·
   rw [List.length_append, List.length_singleton]
   omega
  ·
   omega
theorem logL_len (g : List Tk) (st : List Int) (h8 : g.length ≤ 8) : ∀ m, (logL g st m).length ≤ 16 * m
 | 0 => Nat.le_refl _
 | m + 1 => by
  have ih := logL_len g st h8 m
  have h1 := ovE_len g st (m : Nat) g.length
  have h2 := bgE_len st (m : Nat) g.length
  unfold logL
  rw [List.length_append, List.length_append]
  omega
end Go.Proofs.YtdjdfbfcjajlkaaDoor

namespace Go.Proofs.YtdjdfbfcjajlkaaDoor
set_option linter.unusedVariables false
set_option linter.unusedSimpArgs false
open Go.RowKit Go.Shelf Bits
open Go.Proofs.YtdjdfbfcjajlkaaDoorW.PrintWords Go.Proofs.YtdjdfbfcjajlkaaDoorW.PrintLast Go.Proofs.YtdjdfbfcjajlkaaDoorW.PrintMore
attribute [local go_sem] Oper.semAt_some
theorem infoEv : (Tryd.prog.info? 77).map (fun i => (i.zero, i.size, i.bytes)) = some (some (.agg #[(.int .i64 0), (.int .i64 0), (.bool false)]), 3, 24) := by kernel_rfl
section
variable {ops : Array Oper} {o : Oper} {rest : List Oper} {a : Act} {Q : Exit → Act → World → Prop} {w0 W : World}
theorem ap_ev1 (base : Nat) (hgd : o.guard = none) (s x : Operand) (ho : o.op = .call { callee := .builtin .append, args := #[s, x], argTypes := #[41, 41] })
  (v : Value) (xs : List Ev) (y : Ev) (hs : a.eval s = v) {N : Nat} (hx : a.eval x = .slice (some ⟨N, 0, none⟩) 1 1) (hN : N = W.heap.size)
  (HO : Kd.R kEv 77 W base (fun _ => True) v xs) (HB : Below base w0 W) (hbase : base ≤ W.heap.size) (hl : xs.length < 1000000)
  (h : ∀ v1 w1, Kd.R kEv 77 w1 base (fun _ => True) v1 (xs ++ [y]) → Below base w0 w1 → (W.alloc (.cells #[.int .i64 y.f0, .int .i64 y.f1, .bool y.f2] 77)).grownBy w1 v.ownBlock → (v1.ownBlock = v.ownBlock ∨ ∃ b, v1.ownBlock = some b ∧ (W.alloc (.cells #[.int .i64 y.f0, .int .i64 y.f1, .bool y.f2] 77)).heap.size ≤ b) → wpList Tryd.prog ops Q rest (a.put o.dst v1) w1) :
  wpList Tryd.prog ops Q (o :: rest) a (W.alloc (.cells #[.int .i64 y.f0, .int .i64 y.f1, .bool y.f2] 77)) := by
 have hBa : Below W.heap.size W (W.alloc (.cells #[.int .i64 y.f0, .int .i64 y.f1, .bool y.f2] 77)) := (Below.refl _ _).alloc (Nat.le_refl _) _
 refine Kd.R_append_rows kEv base hgd s x 41 77 (.agg #[(.int .i64 0), (.int .i64 0), (.bool false)]) 24 ho Tryd.underlying41 infoEv rfl (by decide) (by decide)
  v xs [y] (some ⟨N, 0, none⟩) 1 1 (fun _ => True) (fun _ => False) hs hx (Kd.R_below HO hBa) (Rr := kEv.K (W.alloc (.cells #[.int .i64 y.f0, .int .i64 y.f1, .bool y.f2] 77))) ?_ (fun p cs hp => ?_) (fun _ hk => hk.elim) (fun _ _ => trivial) (HB.trans (hBa.mono hbase)) (by have := hBa.size; omega) (by omega) h
 ·
  subst hN
  refine ⟨rfl, by omega, fun _ => ⟨_, rfl, fun j p hj => ⟨[.int .i64 p.f0, .int .i64 p.f1, .bool p.f2], rfl, kEv.K_of_M (kEv_mkM _ 0 (fun _ => True) p), fun i u hu => ?_⟩⟩⟩
  have hblk := World.alloc_heap_new W (.cells #[.int .i64 y.f0, .int .i64 y.f1, .bool y.f2] 77)
  have e2 : ∀ q, (⟨W.heap.size, 0, none⟩ : Addr).add q = ⟨W.heap.size, q, none⟩ := fun q => by
   unfold Addr.add
   split <;> simp_all
  rw [e2]
  have hc := blk_cell hblk (j * kEv.sz + i)
  rw [hc]
  rcases j with _ | j
  ·
   cases hj
   rcases i with _ | _ | _ | i
   ·
    simpa using hu
   ·
    simpa using hu
   ·
    simpa using hu
   ·
    simp at hu
  ·
   simp at hj
 ·
  rw [kEv_open hp]
  exact kEv_mkM _ _ _ p
end
theorem take_snocE' {l : List Ev} {k : Nat} (h : k < l.length) : l.take (k + 1) = l.take k ++ [rdEv l k] := by
 rw [List.take_succ_eq_append_getElem h]
 unfold rdEv
 rw [List.getD_eq_getElem?_getD, List.getElem?_eq_getElem h]
 rfl
theorem R_nilE (w : World) (base : Nat) : Kd.R kEv 77 w base (fun _ => True) (.slice none 0 0) [] := ⟨fun _ _ => trivial, [], ⟨by simp, .inl ⟨rfl, rfl⟩⟩, Reps.none _ _⟩
set_option maxRecDepth 1000000 in
set_option maxHeartbeats 4000000 in
theorem LogOf_impl (A : Option Addr) (c : Nat) (g : List Tk) (A1 : Option Addr) (c1 : Nat) (rm : List Int) (wk : Int) (A2 : Option Addr) (c2 : Nat) (st : List Int) (w : World) (hr : kTk.C w A g.length g) (hr1 : (Kd.int .i64).C w A1 rm.length rm) (hr2 : (Kd.int .i64).C w A2 st.length st) (hT : Tab w) :
  Calls Tryd.prog 37 #[.slice A g.length c, .slice A1 rm.length c1, .int .i64 wk, .slice A2 st.length c2] w fun e w' => ∃ v, e = .returned v ∧ Kd.R kEv 77 w' w.heap.size (fun _ => True) v (lgS g rm wk st) ∧ Below w.heap.size w w' := by
 cases h : vStB g rm wk st with
 | true =>
  obtain ⟨i0, hi, hz0, hz1, hz2⟩ := info_parts infoEv
  have HP := Lib.hid (startsIn_yes A c g A1 c1 rm wk A2 c2 st h w hr hr1 hr2 hT)
  have HV := Lib.hid (vSt_valid h)
  have HR2 := Lib.hid hr2
  have h8 := HV.out.ok.1
  have hw2 : IntKind.i64.wrap (2 * (g.length : Int)) = ((2 * g.length : Nat) : Int) := by rw [show 2 * (g.length : Int) = ((2 * g.length : Nat) : Int) by omega]; exact IntWalk.i64_in _ (by omega)
  have HF : Hid (lgS g rm wk st = chgS g st) := Lib.hid (by unfold lgS; rw [h, if_pos rfl])
  have hCL := chgS_len g st
  have HCH := Lib.hid (fun (W : World) C ns (hG : IsGraph W C g ns) (hB : Below w.heap.size w W) => changes_calls C g ns A2 c2 st HV.out.ok HV.out.sok HV.out.len W hG (Kd.C_below hr2 hB))
  clear hr hr1 hr2 hT h
  generalize chgS g st = cl at HF hCL HCH
  have hcl16 : cl.length ≤ 16 := by omega
  clear hCL
  go_enter Tryd.func37, Tryd.ntmps37
  go_wp2_with (first | (go_at_call 60; refine HP.out.mono ?_; rintro e w1 ⟨C, ns, rfl, hg, hG, hB1⟩; have HB1 := Lib.hid hB1; have HG := Lib.hid hG; clear hg hB1 hG) | (go_at_call 65; refine (size_calls _ C g ns HG.out).mono ?_; rintro e w' ⟨rfl, h⟩; obtain rfl : w1 = w' := h.symm) | (at_make; refine wpList_make_own _ rfl _ _ 41 rfl w.heap.size 77 i0 (.agg #[(.int .i64 0), (.int .i64 0), (.bool false)]) 3 Tryd.underlying41 hi hz0 hz1 .i64 .i64 _ (2 * g.length) rfl rfl rfl (by rw [hz2]; omega) (by simp only [maxLen]; omega) HB1.out.size ?_; intro w2 hown hg2; have HB2 := Lib.hid ((Below.refl w1.heap.size w1).grown hg2 (Nat.le_refl _) (fun k e => by cases e))) | (go_at_call 66; refine (HCH.out _ C ns (HG.out.below HB2.out) (HB1.out.trans (HB2.out.mono HB1.out.size))).mono ?_; rintro e w3 ⟨A3, c3, rfl, hC3, hB3⟩; have HC3 := Lib.hid hC3; have HB3 := Lib.hid hB3; clear hC3 hB3))
  have hz1 := HB1.out.size
  have hz2 := HB2.out.size
  have hz3 := HB3.out.size
  have HO : Hid (Kd.R kEv 77 w3 w.heap.size (fun _ => True) (.slice (some ⟨w1.heap.size, 0, none⟩) 0 (2 * g.length)) (cl.take 0)) := Lib.hid (Kd.R_below ⟨fun _ _ => trivial, [], hown, Reps.none _ _⟩ HB3.out)
  have HBW := Lib.hid ((HB1.out.trans (HB2.out.mono HB1.out.size)).trans (HB3.out.mono (by omega)))
  have hlt2 : w1.heap.size < w2.heap.size := by
   have := own_lt hown w1.heap.size rfl
   omega
  clear hown hg2 hw2
  go_loopw [11, 32] (fun out i wr => ∃ j, j ≤ cl.length ∧ i = .int .i64 (j : Nat) ∧ Kd.R kEv 77 wr w.heap.size (fun _ => True) out (cl.take j) ∧ Below w.heap.size w wr ∧ w3.heap.size ≤ wr.heap.size ∧ Hid (∀ k, w2.heap.size ≤ k → k < w3.heap.size → wr.heap[k]? = w3.heap[k]?) ∧ Hid (∀ k, out.ownBlock = some k → k < w2.heap.size ∨ w3.heap.size ≤ k)) (fun _ i _ => cl.length - (intOf i).toNat)
  case atStart => exact ⟨0, Nat.zero_le _, rfl, HO.out, HBW.out, Nat.le_refl _, Lib.hid (fun _ _ _ => rfl), Lib.hid (fun k hk => by cases hk; exact .inl hlt2)⟩
  case round =>
   clear HO
   obtain ⟨j, hj, rfl, hO, hB, hsz, HK, HOW⟩ := hrel
   by_cases hjl : j < cl.length
   ·
    have hjj : decide ((j : Int) < (cl.length : Int)) = true := decide_eq_true (by omega)
    have hji : (j : Int) < (cl.length : Int) := by omega
    have hCR := HC3.out wr hsz (fun k h1 h2 => HK.out k h1 h2)
    obtain ⟨ad, rfl, x0, x1, x2⟩ := at_Ev hCR j hjl
    have HTK : Hid (cl.take (j + 1) = cl.take j ++ [rdEv cl j]) := Lib.hid (take_snocE' hjl)
    have hcl6 : (cl.take j).length < 1000000 := by rw [List.length_take]; omega
    generalize rdEv cl j = ev at x0 x1 x2 HTK
    obtain ⟨ea, et, eb⟩ := ev
    have hBA0 : Below wr.heap.size wr (wr.alloc (.cells #[.int .i64 ea, .int .i64 et, .bool eb] 81)) := (Below.refl _ _).alloc (Nat.le_refl _) _
    have hOA := Kd.R_below hO hBA0
    have hBA := hB.trans (hBA0.mono hB.size)
    have HSZ := Lib.hid hsz
    generalize cl.take j = fl at hOA HTK hcl6
    clear hO hB hCR hBA0 hsz
    go_wp2_with (at_builtin; refine ap_ev1 (w0 := w) (N := wr.heap.size + 1) w.heap.size rfl _ _ rfl u11 fl ⟨ea, et, eb⟩ rfl rfl (by simp) hOA hBA hBA.size hcl6 ?_; intro v1 w4 hO3 hB3 hg3 hat3)
    go_roundw
    case rel =>
     have hs4 := hg3.size
     have hsz := HSZ.out
     simp only [World.size_alloc] at hs4
     refine ⟨j + 1, by omega, by go_num, by rw [HTK.out]; exact hO3, hB3, by omega, Lib.hid (fun k hk1 hk2 => ?_), Lib.hid (fun k hk => ?_)⟩
     ·
      rw [hg3.block k (by simp only [World.size_alloc]; omega) (fun e => by
       rcases HOW.out k e.symm with h | h <;> omega), Below.heap_alloc _ _ _ (by simp only [World.size_alloc]; omega), Below.heap_alloc _ _ _ (by omega)]
      exact HK.out k hk1 hk2
     ·
      rcases hat3 with h | ⟨b, hb, hbs⟩
      ·
       exact HOW.out k (h ▸ hk)
      ·
       rw [hb] at hk
       cases hk
       simp only [World.size_alloc] at hbs
       exact .inr (by omega)
    case measure => simp [intOf]; omega
   ·
    obtain rfl : j = cl.length := by omega
    have hjj : decide ((cl.length : Int) < (cl.length : Int)) = false := decide_eq_false (by omega)
    rw [List.take_length, ← HF.out] at hO
    go_wp2
    go_ret
    exact ⟨_, rfl, hO, hB⟩
 | false =>
  have HF : Hid (lgS g rm wk st = []) := Lib.hid (by unfold lgS; rw [h]; rfl)
  have HP := Lib.hid (startsIn_no A c g A1 c1 rm wk A2 c2 st h w hr hr1 hr2 hT)
  clear hr hr1 hr2 hT h
  go_enter Tryd.func37, Tryd.ntmps37
  go_wp2_with (go_at_call 60; refine HP.out.mono ?_; rintro e w1 ⟨rfl, hB1⟩)
  go_ret
  exact ⟨_, rfl, by rw [HF.out]; exact R_nilE _ _, hB1⟩
set_option maxRecDepth 1000000 in
set_option maxHeartbeats 8000000 in
theorem sLogOf_calls (A : Option Addr) (c : Nat) (g : List Tk) (A1 : Option Addr) (c1 : Nat) (rm : List Int) (wk : Int) (A2 : Option Addr) (c2 : Nat) (st : List Int) (w : World) (hr : kTk.C w A g.length g) (hr1 : (Kd.int .i64).C w A1 rm.length rm) (hr2 : (Kd.int .i64).C w A2 st.length st) :
  Calls Tryd.prog 36 #[.slice A g.length c, .slice A1 rm.length c1, .int .i64 wk, .slice A2 st.length c2] w fun e w' => ∃ v, e = .returned v ∧ Kd.R kEv 77 w' w.heap.size (fun _ => True) v (lgS g rm wk st) ∧ Below w.heap.size w w' := by
 have HBa : Hid (Below w.heap.size w (w.alloc (.cells #[] 77))) := Lib.hid ((Below.refl _ _).alloc (Nat.le_refl _) _)
 have HO : Hid (Kd.R kEv 77 (w.alloc (.cells #[] 77)) w.heap.size (fun _ => True) (.slice (some ⟨w.heap.size, 0, none⟩) 0 0) []) := Lib.hid ⟨fun _ _ => trivial, [], World.ownsRow_lit (base := w.heap.size) (size := 3) w #[] 0 (Nat.le_refl _) (by simp [maxLen]) rfl, Reps.none _ _⟩
 have hra := Kd.C_below hr HBa.out
 have hrb := Kd.C_below hr1 HBa.out
 have hrc := Kd.C_below hr2 HBa.out
 cases h : vStB g rm wk st with
 | true =>
  have HP := Lib.hid (validStarts_is true A c g A1 c1 rm wk A2 c2 st (Lib.hid h) _ hra hrb hrc)
  have HV := Lib.hid (vSt_valid h)
  have h8 := HV.out.ok.1
  have HR := Lib.hid hr
  have HR2 := Lib.hid hr2
  have HF := Lib.hid (lgS_log HV.out)
  have HLL := Lib.hid (logL_len g st h8)
  clear hr hr1 hr2 hra hrb hrc h
  go_enter Tryd.func36, Tryd.ntmps36
  go_wp2_with (go_at_call 59; refine HP.out.mono ?_; rintro e w1 ⟨rfl, hB1⟩; have HO1 := Lib.hid (Kd.R_below HO.out hB1); have HB1 := Lib.hid (HBa.out.trans (hB1.mono HBa.out.size)); clear hB1)
  go_loopw [9, 10] (fun out t wr => ∃ m : Nat, m ≤ 221 ∧ t = .int .i64 (m : Nat) ∧ Kd.R kEv 77 wr w.heap.size (fun _ => True) out (logL g st m) ∧ Below w.heap.size w wr) (fun _ t _ => 221 - (intOf t).toNat)
  case atStart => exact ⟨0, Nat.zero_le _, rfl, HO1.out, HB1.out⟩
  case round =>
   clear HO1 HB1
   obtain ⟨m, hm, rfl, hO, hB⟩ := hrel
   by_cases hml : m ≤ 220
   ·
    have hmm : decide ((m : Int) ≤ 220) = true := decide_eq_true (by omega)
    have hmm' : decide (m ≤ 220) = true := decide_eq_true hml
    have HSM : Hid (logL g st (m + 1) = logL g st m ++ (ovE g st (m : Nat) g.length ++ bgE st (m : Nat) g.length)) := Lib.hid rfl
    have hlm := HLL.out m
    have HO0 : Hid (Kd.R kEv 77 wr w.heap.size (fun _ => True) u9 (logL g st m ++ ovE g st (m : Nat) 0)) := Lib.hid (by rw [show ovE g st (m : Nat) 0 = [] from rfl, List.append_nil]; exact hO)
    have HB0 := Lib.hid hB
    clear hO hB
    generalize logL g st m = lm at HSM hlm HO0
    go_wp2
    go_loopw [9, 11] (fun out i wi => ∃ j, j ≤ g.length ∧ i = .int .i64 (j : Nat) ∧ Kd.R kEv 77 wi w.heap.size (fun _ => True) out (lm ++ ovE g st (m : Nat) j) ∧ Below w.heap.size w wi) (fun _ i _ => g.length - (intOf i).toNat)
    case atStart => exact ⟨0, Nat.zero_le _, rfl, HO0.out, HB0.out⟩
    case round =>
     clear HO0 HB0
     obtain ⟨j, hj, rfl, hO, hB⟩ := hrel
     by_cases hjl : j < g.length
     ·
      have hjs : j < st.length := by rw [HV.out.len]; exact hjl
      obtain ⟨ad, A4, c4, rfl, hc0, _⟩ := at_Tk (Kd.C_below HR.out hB) j hjl
      obtain ⟨ads, rfl, cs⟩ := at_num (Kd.C_below HR2.out hB) j hjs
      have hjj : decide ((j : Int) < (g.length : Int)) = true := decide_eq_true (by omega)
      have hji : (j : Int) < (g.length : Int) := by omega
      have hjsi : (j : Int) < (st.length : Int) := by omega
      have HE : Hid (ovE g st (m : Nat) (j + 1) = if st.getD j 0 + (rdTk g j).f0 = (m : Nat) then ovE g st (m : Nat) j ++ [⟨(m : Nat), (j : Int), true⟩] else ovE g st (m : Nat) j) := Lib.hid rfl
      have hsj := HV.out.sok j
      have htj := HV.out.ok.2.1 j
      have hlo := ovE_len g st (m : Nat) j
      generalize st.getD j 0 = s at cs hsj HE
      generalize (rdTk g j).f0 = tm at hc0 htj HE
      generalize ovE g st (m : Nat) j = fl at hO HE hlo
      have hll : (lm ++ fl).length < 1000000 := by rw [List.length_append]; omega
      have hwr : IntKind.i64.wrap (s + tm) = s + tm := IntWalk.i64_in _ (by omega)
      have HOB := Lib.hid (And.intro hO hB)
      clear hO hB
      by_cases g1 : s + tm = (m : Int)
      ·
       have d1 : (s + tm == (m : Int)) = true := beq_iff_eq.2 g1
       have HE2 : Hid (lm ++ ovE g st (m : Nat) (j + 1) = (lm ++ fl) ++ [⟨(m : Nat), (j : Int), true⟩]) := Lib.hid (by rw [HE.out, if_pos g1, List.append_assoc])
       clear g1 HE
       go_wp2
       (try go_quiet (fail))
       clear hwr
       have hO2 := Kd.R_drewN HOB.out.1 nq
       have hB2 := pw_below_drewN HOB.out.2 nq
       go_wp2_with (at_builtin; refine ap_ev1 (w0 := w) w.heap.size rfl _ _ rfl u9 (lm ++ fl) ⟨(m : Nat), (j : Int), true⟩ rfl rfl rfl hO2 hB2 hB2.size hll ?_; intro v1 w2 hO3 hB3 hg3 hat3; clear hg3 hat3)
       go_roundw
       case rel => exact ⟨j + 1, by omega, by go_num, by rw [HE2.out]; exact hO3, hB3⟩
       case measure => simp [intOf]; omega
      ·
       have d1 : (s + tm == (m : Int)) = false := beq_eq_false_iff_ne.2 g1
       have HE2 : Hid (lm ++ ovE g st (m : Nat) (j + 1) = lm ++ fl) := Lib.hid (by rw [HE.out, if_neg g1])
       clear g1 HE
       go_wp2
       (try go_quiet (fail))
       clear hwr
       have hO2 := Kd.R_drewN HOB.out.1 nq
       have hB2 := pw_below_drewN HOB.out.2 nq
       (try go_wp2)
       go_roundw
       case rel => exact ⟨j + 1, by omega, by go_num, by rw [HE2.out]; exact hO2, hB2⟩
       case measure => simp [intOf]; omega
     ·
      obtain rfl : j = g.length := by omega
      have hjj : decide ((g.length : Int) < (g.length : Int)) = false := decide_eq_false (by omega)
      have HO1 : Hid (Kd.R kEv 77 wr w.heap.size (fun _ => True) u9 ((lm ++ ovE g st (m : Nat) g.length) ++ bgE st (m : Nat) 0)) := Lib.hid (by rw [show bgE st (m : Nat) 0 = [] from rfl, List.append_nil]; exact hO)
      have HB1 := Lib.hid hB
      have hlo := ovE_len g st (m : Nat) g.length
      have HSM2 : Hid (logL g st (m + 1) = (lm ++ ovE g st (m : Nat) g.length) ++ bgE st (m : Nat) g.length) := Lib.hid (by rw [HSM.out, List.append_assoc])
      have hlm2 : (lm ++ ovE g st (m : Nat) g.length).length ≤ 10000 := by rw [List.length_append]; omega
      clear hO hB hlo
      generalize lm ++ ovE g st (m : Nat) g.length = l2 at HO1 HSM2 hlm2
      go_wp2
      go_loopw [9, 12] (fun out i wi => ∃ j, j ≤ g.length ∧ i = .int .i64 (j : Nat) ∧ Kd.R kEv 77 wi w.heap.size (fun _ => True) out (l2 ++ bgE st (m : Nat) j) ∧ Below w.heap.size w wi) (fun _ i _ => g.length - (intOf i).toNat)
      case atStart => exact ⟨0, Nat.zero_le _, rfl, HO1.out, HB1.out⟩
      case round =>
       clear HO1 HB1
       obtain ⟨j, hj, rfl, hO, hB⟩ := hrel
       by_cases hjl : j < g.length
       ·
        have hjs : j < st.length := by rw [HV.out.len]; exact hjl
        obtain ⟨ads, rfl, cs⟩ := at_num (Kd.C_below HR2.out hB) j hjs
        have hjj : decide ((j : Int) < (g.length : Int)) = true := decide_eq_true (by omega)
        have hji : (j : Int) < (g.length : Int) := by omega
        have hjsi : (j : Int) < (st.length : Int) := by omega
        have HE : Hid (bgE st (m : Nat) (j + 1) = if st.getD j 0 = (m : Nat) then bgE st (m : Nat) j ++ [⟨(m : Nat), (j : Int), false⟩] else bgE st (m : Nat) j) := Lib.hid rfl
        have hlo := bgE_len st (m : Nat) j
        generalize st.getD j 0 = s at cs HE
        generalize bgE st (m : Nat) j = fl at hO HE hlo
        have hll : (l2 ++ fl).length < 1000000 := by rw [List.length_append]; omega
        have HOB := Lib.hid (And.intro hO hB)
        clear hO hB
        by_cases g1 : s = (m : Int)
        ·
         have d1 : (s == (m : Int)) = true := beq_iff_eq.2 g1
         have HE2 : Hid (l2 ++ bgE st (m : Nat) (j + 1) = (l2 ++ fl) ++ [⟨(m : Nat), (j : Int), false⟩]) := Lib.hid (by rw [HE.out, if_pos g1, List.append_assoc])
         clear g1 HE
         have hO2 := HOB.out.1
         have hB2 := HOB.out.2
         go_wp2_with (at_builtin; refine ap_ev1 (w0 := w) w.heap.size rfl _ _ rfl u9 (l2 ++ fl) ⟨(m : Nat), (j : Int), false⟩ rfl rfl rfl hO2 hB2 hB2.size hll ?_; intro v1 w2 hO3 hB3 hg3 hat3; clear hg3 hat3)
         go_roundw
         case rel => exact ⟨j + 1, by omega, by go_num, by rw [HE2.out]; exact hO3, hB3⟩
         case measure => simp [intOf]; omega
        ·
         have d1 : (s == (m : Int)) = false := beq_eq_false_iff_ne.2 g1
         have HE2 : Hid (l2 ++ bgE st (m : Nat) (j + 1) = l2 ++ fl) := Lib.hid (by rw [HE.out, if_neg g1])
         clear g1 HE
         have hO2 := HOB.out.1
         have hB2 := HOB.out.2
         go_wp2
         go_roundw
         case rel => exact ⟨j + 1, by omega, by go_num, by rw [HE2.out]; exact hO2, hB2⟩
         case measure => simp [intOf]; omega
       ·
        obtain rfl : j = g.length := by omega
        have hjj : decide ((g.length : Int) < (g.length : Int)) = false := decide_eq_false (by omega)
        have HOB := Lib.hid (And.intro hO hB)
        clear hO hB
        go_wp2
        go_roundw
        case rel => exact ⟨m + 1, by omega, by go_num, by rw [HSM2.out]; exact HOB.out.1, HOB.out.2⟩
        case measure => simp [intOf]; omega
   ·
    obtain rfl : m = 221 := by omega
    rw [← HF.out] at hO
    go_wp2
    go_ret
    exact ⟨_, rfl, hO, hB⟩
 | false =>
  have HF : Hid (lgS g rm wk st = []) := Lib.hid (by unfold lgS; rw [h]; rfl)
  have HP := Lib.hid (validStarts_is false A c g A1 c1 rm wk A2 c2 st (Lib.hid h) _ hra hrb hrc)
  clear hr hr1 hr2 hra hrb hrc h
  go_enter Tryd.func36, Tryd.ntmps36
  go_wp2_with (go_at_call 59; refine HP.out.mono ?_; rintro e w1 ⟨rfl, hB1⟩)
  go_ret
  exact ⟨_, rfl, by rw [HF.out]; exact R_nilE _ _, HBa.out.trans (hB1.mono HBa.out.size)⟩
end Go.Proofs.YtdjdfbfcjajlkaaDoor
