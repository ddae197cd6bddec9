/- The law FnValidStartsMore returns true for all bytes: the tied card of its row. No condition but the row's own. -/
import Derived.Test.YtoemfnfgkdpacaaDoorKVSc13
import Derived.Test.YtoemfnfgkdpacaaDoorKVSc17
import Derived.Test.YtoemfnfgkdpacaaDoorKVSc18
import Derived.Test.YtoemfnfgkdpacaaDoorKVSc11
import Derived.Test.YtoemfnfgkdpacaaDoorKVSc0
import Derived.Test.YtoemfnfgkdpacaaDoorCards
import Derived.Test.YtoemfnfgkdpacaaDoorTie
namespace Go.Proofs.YtoemfnfgkdpacaaDoor
set_option linter.unusedVariables false
set_option linter.unusedSimpArgs false
open Go.RowKit Go.Shelf Bits
open Go.Proofs.YtoemfnfgkdpacaaDoorW.PrintWords Go.Proofs.YtoemfnfgkdpacaaDoorW.PrintLast Go.Proofs.YtoemfnfgkdpacaaDoorW.PrintMore
set_option maxRecDepth 1000000 in
set_option maxHeartbeats 8000000 in
theorem FnValidStartsMore_walk (A : Option Addr) (c : Nat) (l : List Int) (hb : ∀ x ∈ l, 0 ≤ x ∧ x < 256) (w : World) (hT : Tab w) (hr : (Kd.int .u8).C w A l.length l) (hc : l.length ≤ c) :
  Calls Tryd.prog 12 #[.slice A l.length c] w fun e w' => e = .returned (.bool true) ∧ Below w.heap.size w w' := by
 have HT := Lib.hid hT
 have hll := (C_len hr).2
 have HD := Lib.hid (DrawValidStarts_any A c l hb w hr hc)
 clear hb hr hc hT
 by_cases hbig : 1048576 < l.length
 ·
  have db : decide ((1048576 : Int) < (l.length : Int)) = true := decide_eq_true (by omega)
  clear hbig
  go_enter Tryd.func12, Tryd.ntmps12
  go_wp2
  go_ret
  exact ⟨rfl, Below.refl _ _⟩
 ·
  have db : decide ((1048576 : Int) < (l.length : Int)) = false := decide_eq_false (by omega)
  clear hbig
  go_enter Tryd.func12, Tryd.ntmps12
  go_upto_region 4 with (go_at_call 45; refine HD.out.mono ?_; rintro e w1 ⟨rb, A1, c1, g, A2, c2, rm, wk, A3, c3, st, rfl, hG, hR, hS, hrb, hg16, hs8, hwk, hso, hB1⟩; have H1 := Lib.hid hG.now; have H2 := Lib.hid hR.now; have H3 := Lib.hid hS.now; have HSO := Lib.hid hso; have HB1 := Lib.hid hB1; clear hG hR hS hrb hso hB1)
  have HTW := Lib.hid (fun (W : World) (h : Below w1.heap.size w1 W) => HT.out.keep HT.out.lt (HB1.out.trans (h.mono HB1.out.size)))
  have HW := Lib.hid (Below.refl w1.heap.size w1)
  have HVS := Lib.hid (fun (W : World) (hW : Below w1.heap.size w1 W) => ValidStarts_impl A1 c1 g A2 c2 rm wk A3 c3 st W (Kd.C_below H1.out hW) (Kd.C_below H2.out hW) (Kd.C_below H3.out hW) (HTW.out W hW))
  have HSV := Lib.hid (fun (W : World) (hW : Below w1.heap.size w1 W) => sValidStarts_calls A1 c1 g A2 c2 rm wk A3 c3 st W (Kd.C_below H1.out hW) (Kd.C_below H2.out hW) (Kd.C_below H3.out hW))
  cases hv : vStB g rm wk st with
  | false =>
   rw [hv] at HVS HSV
   clear hv
   go_wp2_with (first | (go_at_call 19; refine (HVS.out _ HW.out).mono ?_; rintro e wv ⟨rfl, hB⟩; have HW := Lib.hid (HW.out.trans (hB.mono HW.out.size)); clear hB) | (go_at_call 16; refine (HSV.out _ HW.out).mono ?_; rintro e wv ⟨rfl, hB⟩; have HW := Lib.hid (HW.out.trans (hB.mono HW.out.size)); clear hB))
   go_ret
   exact ⟨rfl, HB1.out.trans (HW.out.mono HB1.out.size)⟩
  | true =>
   rw [hv] at HVS HSV
   have HV := Lib.hid (vSt_valid hv)
   clear hv
   have HR3 := Lib.hid (roomB_facts (placeB_facts HV.out.p).1).1
   have hr3 : rm.length ≤ 3 := by rw [HR3.out]; exact Nat.le_refl _
   go_upto_region 7 with (first | (go_at_call 19; refine (HVS.out _ HW.out).mono ?_; rintro e wv ⟨rfl, hB⟩; have HW := Lib.hid (HW.out.trans (hB.mono HW.out.size)); clear hB) | (go_at_call 16; refine (HSV.out _ HW.out).mono ?_; rintro e wv ⟨rfl, hB⟩; have HW := Lib.hid (HW.out.trans (hB.mono HW.out.size)); clear hB))
   have HO : Kd.R (Kd.int .i64) 3 (wv.alloc (.cells #[] 3)) w1.heap.size (fun _ => True) (.slice (some ⟨wv.heap.size, 0, none⟩) 0 0) (List.replicate 0 8) := Kd.R_of_own (World.ownsRow_lit (base := w1.heap.size) (size := 1) wv #[] 0 HW.out.size (by simp [maxLen]) rfl) (fun _ _ => trivial)
   have HBa : Below w1.heap.size w1 (wv.alloc (.cells #[] 3)) := HW.out.alloc HW.out.size _
   go_wp2
   go_loopw [8, 9] (fun lt i wr => ∃ j, j ≤ rm.length ∧ i = .int .i64 (j : Nat) ∧ Kd.R (Kd.int .i64) 3 wr w1.heap.size (fun _ => True) lt (List.replicate j 8) ∧ Below w1.heap.size w1 wr) (fun _ i _ => rm.length - (intOf i).toNat)
   case atStart => exact ⟨0, Nat.zero_le _, rfl, HO, HBa⟩
   case round =>
    clear HO HBa
    obtain ⟨j, hj, rfl, hO, hB⟩ := hrel
    by_cases hjl : j < rm.length
    ·
     have hjj : decide ((j : Int) < (rm.length : Int)) = true := decide_eq_true (by omega)
     have HL := Lib.hid (rep_snoc j 8)
     have hll : (List.replicate j (8 : Int)).length = j := List.length_replicate
     generalize List.replicate j (8 : Int) = fl at hO HL hll
     go_wp2_with (at_builtin; refine ap_int (w0 := w1) w1.heap.size rfl _ _ rfl u8 fl (8) rfl rfl rfl hO hB hB.size (by omega) ?_; intro v3 w3 hO3 hB3 hg3 hat3; clear hg3 hat3)
     go_roundw
     case rel => exact ⟨j + 1, by omega, by go_num, by rw [HL.out]; exact hO3, hB3⟩
     case measure => simp [intOf]; omega
    ·
     obtain rfl : j = rm.length := by omega
     have hjj : decide ((rm.length : Int) < (rm.length : Int)) = false := decide_eq_false (by omega)
     have hv2 := valid_vSt (large_valid HV.out)
     generalize List.replicate rm.length (8 : Int) = lt at hO hv2
     obtain ⟨A4, c4, rfl, hc4, hC4⟩ := Kd.R_reads hO
     have HC4 := Lib.hid hC4
     have HV2 := Lib.hid (ValidStarts_impl A1 c1 g A4 c4 lt 4 A3 c3 st wr (Kd.C_below H1.out hB) HC4.out (Kd.C_below H3.out hB) (HTW.out _ hB))
     rw [hv2] at HV2
     clear hv2 hC4 HVS
     go_wp2_with (go_at_call 19; refine HV2.out.mono ?_; rintro e wz ⟨rfl, hB9⟩)
     go_ret
     exact ⟨rfl, HB1.out.trans ((hB.trans (hB9.mono hB.size)).mono HB1.out.size)⟩
end Go.Proofs.YtoemfnfgkdpacaaDoor

set_option linter.unusedVariables false
set_option linter.unusedSimpArgs false
namespace Go.Proofs.YtoemfnfgkdpacaaDoor.fnValidStartsMore
open Go.ChangeShapes Go.WideShapes Go.ChangeAt Go.RowKit
open Go.Proofs.YtoemfnfgkdpacaaDoorW.PrintWords
def IsRow (k : IntKind) (w : World) (a : Option Addr) (len cap : Nat) (zs : List Int) : Prop :=
 (a = none ∧ len = 0 ∧ cap = 0 ∧ zs = []) ∨
 ∃ x, a = some x ∧ len ≤ cap ∧ cap ≤ maxLen ∧ zs.length = cap ∧ (∀ i, i < zs.length → w.cell? (x.add i) = some (.int k (zs.getD i 0))) ∧ ∀ n ∈ zs, (Lit.int k n).wf = true
theorem walk (a0 : Option Addr) (len0 cap0 : Nat) (z0 : List Int) (w : World) (hT : Tab w) (w0 : IsRow .u8 w a0 len0 cap0 z0) :
  Calls Tryd.prog 12 #[.slice a0 len0 cap0] w fun e w' => e = .returned (.bool true) ∧ Below w.heap.size w w' := by
 obtain ⟨l0, rfl, hr0, hm0, hw0, hc0⟩ := ReadsInt.ofRowC w0
 exact FnValidStartsMore_walk _ _ l0 (fun x hx => by
  have := hw0 x hx
  simp [Lit.wf, IntKind.min, IntKind.max, IntKind.signed, IntKind.bits] at this
  omega) w hT (Kd.C_of_reads (d := (0 : Int)) (h1 := fun _ => rfl) hr0) hc0
set_option maxRecDepth 100000 in
theorem lifted (os : Os) (started : os.Started) (H : Type) (enc : TypeId × Value → H) :
  ReturnsInHanded {} Tryd.checked os 12 .any (fun w args => (Rows.fnValidStartsMoreSpec.pre enc Tryd.prog Tryd.f12 [] false w args ∧ laidMetH Tryd.prog Rows.fnValidStartsMoreRow.laid w) ∧ sizedMet enc Tryd.prog Tryd.f12 (OpenSpec.ofChange Rows.fnValidStartsMoreSpec) false w args)
   (Rows.fnValidStartsMoreSpec.post enc Tryd.prog Tryd.f12 false true false false) := by
 refine returnsInHanded_of_change_and (C := Tryd.checked) (X := fun w _ => laidMetH Tryd.prog Rows.fnValidStartsMoreRow.laid w) (fun _ _ _ hh h => h.of_heap hh) own started (by kernel_rfl) Tryd.func12
  (ChangeSpec.witness_at (enc := enc) (C := Tryd.checked) (os := os) (X := fun w _ => laidMetH Tryd.prog Rows.fnValidStartsMoreRow.laid w) false (laidWorld os) #[.slice none 0 0] 8 rfl (by kernel_rfl) (by kernel_rfl) (by kernel_rfl) (by kernel_rfl) (by kernel_rfl) (laid_met os _)) ?_
 intro W base args ds gs before hval0 hW hcnd _ hL _
 have hT : Tab W := tab_of_laid hL
 have hval : ∀ (j : Nat) t v, Tryd.f12.params[j]? = some t → args[j]? = some v → Value.okWide Tryd.prog W .any base t v := hval0
 have hW' := hW
 obtain ⟨p, q, hA0, hV, rfl, hfz, hnd⟩ := hW
 have hA : DataW.TrodAll enc Tryd.prog W 0 (fun _ => true) true Tryd.f12.params.toList args.toList ds p := hA0
 rw [Tryd.params12] at hA hval
 obtain ⟨v0, vs0, d0, ds0, p0, q0, hargs, rfl, rfl, h0, r0⟩ := trodAll_cons hA
 obtain ⟨rfl, rfl, rfl⟩ := trodAll_nil r0
 obtain rfl : args = #[v0] := by cases args; simp_all
 obtain ⟨rfl, rfl⟩ := trodVars_none hV
 obtain ⟨a0, len0, cap0, rfl⟩ := okWide_slice Tryd.underlying46 (hval 0 46 v0 rfl rfl)
 have k0 := h0
 have lt0 : ∀ x ∈ p0, x.block < W.heap.size := by obtain ⟨m, hm⟩ := k0; exact DataW.trod_lt m _ _ _ hm
 obtain ⟨z0, w0⟩ : ∃ zs, IsRow .u8 W a0 len0 cap0 zs := by
  obtain ⟨fuel, hf⟩ := h0
  rcases open_ints Tryd.underlying46 Tryd.underlying5 (by kernel_rfl) hf with ⟨hcs, _⟩ | ⟨x, l, c, zs, hcs, _, hl, hm, hz, _, hcell, hwz⟩
  ·
   simp [Value.cells] at hcs
   obtain ⟨rfl, rfl, rfl⟩ := hcs
   exact ⟨[], .inl ⟨rfl, rfl, rfl, rfl⟩⟩
  ·
   simp [Value.cells] at hcs
   obtain ⟨rfl, rfl, rfl⟩ := hcs
   exact ⟨zs, .inr ⟨_, rfl, hl, hm, by simpa using hz, hcell, hwz⟩⟩
 clear hA0 hval0
 refine (walk a0 len0 cap0 z0 W hT w0).mono fun e W' ⟨he, bel⟩ => ?_
 subst he
 exact ⟨_, rfl, _, _, _, [], _, [], hW', trodAll_mk1 (shut_bool Tryd.underlying4 _), (trodAll_cons_mk (Below.trod laidOut (by kernel_rfl) (of_decide_eq_true (by kernel_rfl)) k0 bel lt0) trodAll_mk0), rfl, bel.frame _, fun h => by cases h⟩
theorem row : Rows.FnValidStartsMoreSaid :=
 OpenClaim.holds_of_wide 12 Tryd.f12 rfl rfl rfl rfl rfl rfl rfl ⟨rfl, rfl, rfl, rfl, rfl⟩ rfl rfl rfl rfl rfl (by kernel_rfl) Tryd.func12 (by kernel_rfl)
  (of_decide_eq_true (by kernel_rfl)) (by unfold Func.isWrapper; first | (rw [if_pos (by decide +kernel)]; kernel_rfl) | (rw [if_neg (by decide +kernel)]; exact ⟨rfl, rfl⟩))
  (fun os started H enc _ => lifted os started H enc)
end Go.Proofs.YtoemfnfgkdpacaaDoor.fnValidStartsMore
namespace Go.Proofs.YtoemfnfgkdpacaaDoor
theorem fnValidStartsMore_card_holds : Rows.FnValidStartsMoreCardSaid :=
 Claim7.holds_tied_plain_at .later [] [.data] true (true, "4539a1808be9cf73a790ece4aacb785634c157cf056c708478a6087204b7c955") true
  fnValidStartsMore.row (fun _ h => by cases h) (by kernel_rfl) (fun _ h => by cases h) fnValidStartsMore_row_tie rfl ⟨rfl, rfl⟩ (by kernel_rfl) rfl
  (fun f fn hf hfn => by
   obtain rfl : f = 12 := Option.some.inj ((show Tryd.prog.funcNamed "loop.example/buildscheduler/laws.FnValidStartsMore" = some 12 by kernel_rfl).symm.trans hf) |>.symm
   obtain rfl : fn = Tryd.f12 := (Option.some.inj (Tryd.func12.symm.trans hfn)).symm
   exact ⟨by kernel_rfl, fun j t ht => by
    rw [Tryd.params12] at ht
    have h3 : t = 46 := by
     rcases j with _ | j
     ·
      simpa using ht.symm
     ·
      simp at ht
    subst h3
    exact (show Tryd.prog.wantsStandIn 46 = false by kernel_rfl)⟩)
  (by kernel_rfl)
#print axioms fnValidStartsMore_card_holds
end Go.Proofs.YtoemfnfgkdpacaaDoor
