/- Parts of the proof, laid as one text by a program of mine. -/
import Derived.Test.YtifbjnhicnfdoaaDoorKac13
import Derived.Test.YtifbjnhicnfdoaaDoorKac17
import Derived.Test.YtifbjnhicnfdoaaDoorKac23
import Derived.Test.YtifbjnhicnfdoaaDoorKac20
import Derived.Test.YtifbjnhicnfdoaaDoorKac21
namespace Go.Proofs.YtifbjnhicnfdoaaDoor
set_option linter.unusedVariables false
set_option linter.unusedSimpArgs false
open Go.RowKit Go.Shelf Bits
open Go.Proofs.YtifbjnhicnfdoaaDoorW.PrintWords Go.Proofs.YtifbjnhicnfdoaaDoorW.PrintLast Go.Proofs.YtifbjnhicnfdoaaDoorW.PrintMore
attribute [local go_sem] Oper.semAt_some
def mixL (T : List Int) (dl : Int) (j : Nat) : List Int := (List.range T.length).map fun i => if i < j then dl - T.getD i 0 else T.getD i 0
theorem mixL_len (T : List Int) (dl : Int) (j : Nat) : (mixL T dl j).length = T.length := by simp [mixL]
theorem mixL_get {T : List Int} {dl : Int} {i j : Nat} (hi : i < T.length) : (mixL T dl j).getD i 0 = if i < j then dl - T.getD i 0 else T.getD i 0 := by
 unfold mixL
 rw [List.getD_eq_getElem?_getD, List.getElem?_map, List.getElem?_range hi]
 rfl
theorem mixL_zero (T : List Int) (dl : Int) : mixL T dl 0 = T := by
 unfold mixL
 apply List.ext_getElem (by simp)
 intro i h1 h2
 simp [List.getD_eq_getElem?_getD, List.getElem?_eq_getElem h2]
theorem mixL_set {T : List Int} {dl : Int} {j : Nat} (hj : j < T.length) : (mixL T dl j).set j (dl - T.getD j 0) = mixL T dl (j + 1) := by
 unfold mixL
 apply List.ext_getElem (by simp)
 intro i h1 h2
 simp only [List.getElem_set, List.getElem_map, List.getElem_range]
 by_cases h : j = i
 ·
  rw [if_pos h, if_pos (by omega), h]
 ·
  rw [if_neg h]
  by_cases h' : i < j
  ·
   rw [if_pos h', if_pos (by omega)]
  ·
   rw [if_neg h', if_neg (by omega)]
def lstS (g : List Tk) (dl : Int) : List Int := if specValid g && inB dl 0 200 then mixL (tailsS g) dl (tailsS g).length else []
theorem lstS_get {g : List Tk} {dl : Int} (hv : specValid g = true) (hd : 0 ≤ dl ∧ dl ≤ 200) : (lstS g dl).length = g.length ∧ ∀ i, i < g.length → (lstS g dl).getD i 0 = dl - (tailsS g).getD i 0 := by
 unfold lstS
 rw [hv, inB_true.2 hd, Bool.and_self, if_pos rfl]
 have hl := (tailsS_span hv).1
 refine ⟨by rw [mixL_len, hl], fun i hi => ?_⟩
 rw [mixL_get (by rw [hl]; exact hi), if_pos (by rw [hl]; exact hi)]
set_option maxRecDepth 100000 in
set_option maxHeartbeats 4000000 in
theorem LatestStarts_impl (A : Option Addr) (c : Nat) (g : List Tk) (dl : Int) (w : World) (hr : kTk.C w A g.length g) (hT : Tab w) :
  Calls Tryd.prog 25 #[.slice A g.length c, .int .i64 dl] w fun e w' => ∃ v, e = .returned v ∧ Kd.R (Kd.int .i64) 3 w' w.heap.size (fun _ => True) v (lstS g dl) ∧ Below w.heap.size w w' := by
 cases hd : graphN g with
 | none =>
  have HP := Lib.hid (graphOf_no A c g w hr hd)
  have HF : Hid (lstS g dl = []) := Lib.hid (by unfold lstS; rw [specValid_eq, hd]; rfl)
  clear hr hT hd
  go_enter Tryd.func25, Tryd.ntmps25
  go_wp2_with (go_at_call 58; refine HP.out.mono ?_; rintro e w1 ⟨rfl, hB1⟩)
  go_ret
  exact ⟨_, rfl, by rw [HF.out]; exact R_nilJ _ _, hB1⟩
 | some ns =>
  have hv : specValid g = true := by rw [specValid_eq, hd]; rfl
  have HP := Lib.hid (graphOf_yes A c g ns w hr hT hd)
  have HT := Lib.hid hT
  cases h3 : inB dl 0 200 with
  | false =>
   have HF : Hid (lstS g dl = []) := Lib.hid (by unfold lstS; rw [h3, Bool.and_false]; rfl)
   have H3 := Lib.hid h3
   clear hr hT hd h3 hv
   go_enter Tryd.func25, Tryd.ntmps25
   go_wp2_with (first | (go_at_call 58; refine HP.out.mono ?_; rintro e w1 ⟨C, rfl, hG, hB1⟩; have HB1 := Lib.hid hB1; clear hG hB1) | (go_at_call 52; refine (deadlineValid_is _ _ H3 _).mono ?_; rintro e wd ⟨rfl, rfl⟩))
   go_ret
   exact ⟨_, rfl, by rw [HF.out]; exact R_nilJ _ _, HB1.out⟩
  | true =>
   have HF : Hid (lstS g dl = mixL (tailsS g) dl (tailsS g).length) := Lib.hid (by unfold lstS; rw [h3, hv]; rfl)
   have H3 := Lib.hid h3
   have hdl := inB_true.1 h3
   have HSP := Lib.hid (tailsS_span hv)
   have h8 := (graphN_all hd).1
   have htl16 : (tailsS g).length ≤ 8 := by rw [HSP.out.1]; exact h8
   have HK := Lib.hid (fun (W : World) C (h : IsGraph W C g ns) (hT : Tab W) => tails_calls C g ns hd W h hT)
   rw [tailN_eq hd] at HK
   clear hr hT hd h3 hv
   generalize tailsS g = TN at HF HSP HK htl16
   go_enter Tryd.func25, Tryd.ntmps25
   go_wp2_with (first | (go_at_call 58; refine HP.out.mono ?_; rintro e w1 ⟨C, rfl, hG, hB1⟩; have HG := Lib.hid hG; have HB1 := Lib.hid hB1; clear hG hB1) | (go_at_call 52; refine (deadlineValid_is _ _ H3 _).mono ?_; rintro e wd ⟨rfl, rfl⟩) | (go_at_call 53; refine (HK.out _ C HG.out (HT.out.keep HT.out.lt HB1.out)).mono ?_; rintro e w3 ⟨v3, rfl, hR3, hB3⟩; replace hR3 := Kd.R_lower hR3 HB1.out.size; obtain ⟨A3, c3, rfl, hl3, hC3⟩ := Kd.R_reads hR3; have HB3 := Lib.hid (HB1.out.trans (hB3.mono HB1.out.size)); clear hC3 hB3))
   have HR3 : Hid (Kd.R (Kd.int .i64) 3 w3 w.heap.size (fun _ => True) (.slice A3 TN.length c3) (mixL TN dl 0)) := Lib.hid (by rw [mixL_zero]; exact hR3)
   clear hR3
   go_loopw [26] (fun i wr => ∃ (j : Nat), j ≤ TN.length ∧ i = .int .i64 j ∧ Hid (Kd.R (Kd.int .i64) 3 wr w.heap.size (fun _ => True) (.slice A3 TN.length c3) (mixL TN dl j)) ∧ Below w.heap.size w wr) (fun i _ => TN.length - (intOf i).toNat)
   case atStart => exact ⟨0, Nat.zero_le _, rfl, HR3, HB3.out⟩
   case round =>
    clear HR3
    obtain ⟨j, hj, rfl, HR, hB⟩ := hrel
    by_cases hjl : j < TN.length
    ·
     obtain ⟨b, cap, e5, hbb, hbl, hbc⟩ := Kd.R_form HR.out (by rw [mixL_len]; omega)
     rw [mixL_len] at e5
     cases e5
     obtain ⟨cx, fx⟩ := Kd.R_celln (0 : Int) HR.out (j : Int) (by omega) (by omega)
     rw [Int.toNat_natCast] at cx fx
     replace cx : wr.cell? ⟨b, j, none⟩ = some (.int .i64 ((mixL TN dl j).getD j 0)) := cx
     rw [mixL_get hjl, if_neg (Nat.lt_irrefl _)] at cx
     have hjj : decide ((j : Int) < (TN.length : Int)) = true := decide_eq_true (by omega)
     have hji : (j : Int) < (TN.length : Int) := by omega
     have HE := Lib.hid (mixL_set (T := TN) (dl := dl) hjl)
     have htj := HSP.out.2 j
     have HBo := Lib.hid hB
     generalize TN.getD j 0 = tm at cx htj HE
     have hwr : IntKind.i64.wrap (dl - tm) = dl - tm := IntWalk.i64_in _ (by omega)
     have HP2 := Lib.hid (Kd.R_putn HR.out (j : Int) (dl - tm))
     rw [Int.toNat_natCast, HE.out] at HP2
     clear hB
     go_wp2
     clear hwr
     go_roundw
     case rel => exact ⟨j + 1, by omega, by go_num, HP2, HBo.out.setCell (p := ⟨b, j, none⟩) hbb _⟩
     case measure => simp [intOf]; omega
    ·
     obtain rfl : j = TN.length := by omega
     have hjj : decide ((TN.length : Int) < (TN.length : Int)) = false := decide_eq_false (by omega)
     go_wp2
     go_ret
     exact ⟨_, rfl, by rw [HF.out]; exact HR.out, hB⟩
end Go.Proofs.YtifbjnhicnfdoaaDoor

namespace Go.Proofs.YtifbjnhicnfdoaaDoor
set_option linter.unusedVariables false
set_option linter.unusedSimpArgs false
open Go.RowKit Go.Shelf Bits
open Go.Proofs.YtifbjnhicnfdoaaDoorW.PrintWords Go.Proofs.YtifbjnhicnfdoaaDoorW.PrintLast Go.Proofs.YtifbjnhicnfdoaaDoorW.PrintMore
theorem getD_mem2 {l : List Nat} {j : Nat} (h : j < l.length) : l.getD j 0 ∈ l := by
 rw [List.getD_eq_getElem?_getD, List.getElem?_eq_getElem h]
 exact List.getElem_mem _
set_option maxRecDepth 1000000 in
set_option maxHeartbeats 8000000 in
theorem FnLateTasksUsers_walk (A : Option Addr) (c : Nat) (l : List Int) (hb : ∀ x ∈ l, 0 ≤ x ∧ x < 256) (w : World) (hT : Tab w) (hr : (Kd.int .u8).C w A l.length l) (hc : l.length ≤ c) :
  Calls Tryd.prog 5 #[.slice A l.length c] w fun e w' => e = .returned (.bool true) ∧ Below w.heap.size w w' := by
 have HT := Lib.hid hT
 have hll := (C_len hr).2
 have HD := Lib.hid (DrawLateTasks_any A c l hb w hr hc)
 clear hb hr hc hT
 by_cases hbig : 1048576 < l.length
 ·
  have db : decide ((1048576 : Int) < (l.length : Int)) = true := decide_eq_true (by omega)
  clear hbig
  go_enter Tryd.func5, Tryd.ntmps5
  go_wp2
  go_ret
  exact ⟨rfl, Below.refl _ _⟩
 ·
  have db : decide ((1048576 : Int) < (l.length : Int)) = false := decide_eq_false (by omega)
  clear hbig
  go_enter Tryd.func5, Tryd.ntmps5
  go_upto_region 4 with (go_at_call 21; refine HD.out.mono ?_; rintro e w1 ⟨A1, c1, g, A2, c2, rm, wk, A3, c3, st, dl, rfl, h1, h2, h3, hg16, hs8, hwk, hso, hnow, hB1⟩; have H1 := Lib.hid h1; have H2 := Lib.hid h2; have H3 := Lib.hid h3; have HSO := Lib.hid hso; have HB1 := Lib.hid hB1; clear h1 h2 h3 hso hB1)
  have HTW := Lib.hid (fun (W : World) (h : Below w1.heap.size w1 W) => HT.out.keep HT.out.lt (HB1.out.trans (h.mono HB1.out.size)))
  have HW := Lib.hid (Below.refl w1.heap.size w1)
  have HLT := Lib.hid (fun (W : World) (hW : Below w1.heap.size w1 W) => LateTasks_impl A1 c1 g A2 c2 rm wk A3 c3 st dl W (Kd.C_below H1.out hW) (Kd.C_below H2.out hW) (Kd.C_below H3.out hW) (HTW.out W hW))
  have HSL := Lib.hid (fun (W : World) (hW : Below w1.heap.size w1 W) => sLateTasks_calls A1 c1 g A2 c2 rm wk A3 c3 st dl W (Kd.C_below H1.out hW) (Kd.C_below H2.out hW) (Kd.C_below H3.out hW))
  have HLS := Lib.hid (fun (W : World) (hW : Below w1.heap.size w1 W) => LatestStarts_impl A1 c1 g dl W (Kd.C_below H1.out hW) (HTW.out W hW))
  have hlaw := late_users_law (g := g) (rm := rm) (wk := wk) (st := st) (dl := dl)
  have hln := lt_len g rm wk st dl
  have HX : Hid (∀ j, j < (ltS g rm wk st dl).length → ∃ x : Nat, (ints (ltS g rm wk st dl)).getD j 0 = (x : Int) ∧ x < (lstS g dl).length ∧ x < st.length ∧ (lstS g dl).getD x 0 < st.getD x 0) := Lib.hid (fun j hj => by
   rcases hlaw with h | ⟨hV, hd, h⟩
   ·
    rw [h] at hj
    exact absurd hj (Nat.not_lt_zero _)
   ·
    obtain ⟨l1, l2⟩ := lstS_get hV.v hd
    obtain ⟨h1, h2⟩ := h _ (getD_mem2 hj)
    refine ⟨(ltS g rm wk st dl).getD j 0, ints_getD _ _, by rw [l1]; exact h1, by rw [hV.len]; exact h1, ?_⟩
    rw [l2 _ h1]
    exact h2)
  rw [← ints_length] at HX
  have hg16' : (ints (ltS g rm wk st dl)).length ≤ 16 := by omega
  have dfin : decide (((ints (ltS g rm wk st dl)).length : Int) ≤ (g.length : Int)) = true := decide_eq_true (by omega)
  have dfin' : decide ((ints (ltS g rm wk st dl)).length ≤ g.length) = true := decide_eq_true hln
  clear hlaw hln
  generalize lstS g dl = z at HLS HX
  generalize ints (ltS g rm wk st dl) = o at HLT HSL HX hg16' dfin dfin'
  go_upto_region 7 with (first | (go_at_call 22; refine (HLT.out _ HW.out).mono ?_; rintro e wl ⟨vO, rfl, hR, hB⟩; obtain ⟨AO, cO, rfl, hcO, hC⟩ := Kd.R_reads hR; have HW := Lib.hid (HW.out.trans (hB.mono HW.out.size)); (try (have HcO := Lib.hid (Kd.C_below HcO.out hB))); (try (have HcP := Lib.hid (Kd.C_below HcP.out hB))); have HcO := Lib.hid hC; clear hR hC hB) | (go_at_call 24; refine (HSL.out _ HW.out).mono ?_; rintro e wl ⟨vP, rfl, hR, hB⟩; obtain ⟨AP, cP, rfl, hcP, hC⟩ := Kd.R_reads hR; have HW := Lib.hid (HW.out.trans (hB.mono HW.out.size)); (try (have HcO := Lib.hid (Kd.C_below HcO.out hB))); (try (have HcP := Lib.hid (Kd.C_below HcP.out hB))); have HcP := Lib.hid hC; clear hR hC hB) | (go_at_call 23; refine (equalInts_same _ _ _ _ _ _ HcO.out HcP.out).mono ?_; rintro e wv ⟨rfl, hB⟩; have HW := Lib.hid (HW.out.trans (hB.mono HW.out.size)); (try (have HcO := Lib.hid (Kd.C_below HcO.out hB))); (try (have HcP := Lib.hid (Kd.C_below HcP.out hB))); clear hB))
  go_wp2_with (first | (go_at_call 25; refine (HLS.out _ HW.out).mono ?_; rintro e wl ⟨vZ, rfl, hR, hB⟩; obtain ⟨AZ, cZ, rfl, hcZ, hC⟩ := Kd.R_reads hR; have HW := Lib.hid (HW.out.trans (hB.mono HW.out.size)); (try (have HcO := Lib.hid (Kd.C_below HcO.out hB))); have HcZ := Lib.hid hC; clear hR hC hB))
  obtain ⟨w2, rfl⟩ : ∃ w2 : World, w2 = wl := ⟨_, rfl⟩
  go_loopw [10] (fun i wr => ∃ j, j ≤ o.length ∧ i = .int .i64 (j : Nat) ∧ Below w2.heap.size w2 wr) (fun i _ => o.length - (intOf i).toNat)
  case atStart => exact ⟨0, Nat.zero_le _, rfl, Below.refl _ _⟩
  case round =>
   obtain ⟨j, hj, rfl, hB2⟩ := hrel
   have hB := HW.out.trans (hB2.mono HW.out.size)
   by_cases hjl : j < o.length
   ·
    obtain ⟨x, hx, hxz, hxs, hlt⟩ := HX.out j hjl
    obtain ⟨ado, rfl, co⟩ := at_num (Kd.C_below HcO.out hB2) j hjl
    rw [hx] at co
    obtain ⟨adz, rfl, cz⟩ := at_num (Kd.C_below HcZ.out hB2) x hxz
    obtain ⟨ads, rfl, cs⟩ := at_num (Kd.C_below H3.out hB) x hxs
    have hjj : decide ((j : Int) < (o.length : Int)) = true := decide_eq_true (by omega)
    have hjo : (j : Int) < (o.length : Int) := by omega
    have hxzi : (x : Int) < (z.length : Int) := by omega
    have hxsi : (x : Int) < (st.length : Int) := by omega
    have d1 : decide ((z.length : Int) ≤ (x : Int)) = false := decide_eq_false (by omega)
    have d1' : decide (z.length ≤ x) = false := decide_eq_false (by omega)
    have d2 : decide ((st.length : Int) ≤ (x : Int)) = false := decide_eq_false (by omega)
    have d2' : decide (st.length ≤ x) = false := decide_eq_false (by omega)
    generalize st.getD x 0 = s at cs hlt
    generalize z.getD x 0 = y at cz hlt
    have d3 : decide (s ≤ y) = false := decide_eq_false (by omega)
    have HB2 := Lib.hid hB2
    clear hB hB2 hx hlt
    go_wp2
    (try go_quiet (fail))
    (try go_wp2)
    (try go_quiet (fail))
    (try go_wp2)
    go_roundw
    case rel => exact ⟨j + 1, by omega, by go_num, by repeat (first | exact HB2.out | apply pw_below_drewN)⟩
    case measure => simp [intOf]; omega
   ·
    obtain rfl : j = o.length := by omega
    have hjj : decide ((o.length : Int) < (o.length : Int)) = false := decide_eq_false (by omega)
    go_wp2
    go_ret
    exact ⟨rfl, HB1.out.trans (hB.mono HB1.out.size)⟩
end Go.Proofs.YtifbjnhicnfdoaaDoor
