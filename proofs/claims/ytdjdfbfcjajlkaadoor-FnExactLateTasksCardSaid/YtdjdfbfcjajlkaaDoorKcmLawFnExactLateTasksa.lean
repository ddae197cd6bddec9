/- Parts of the proof, laid as one text by a program of mine. -/
import Derived.Test.YtdjdfbfcjajlkaaDoorKcc20
import Derived.Test.YtdjdfbfcjajlkaaDoorKcc21
import Derived.Test.YtdjdfbfcjajlkaaDoorKcc14
import Derived.Test.YtdjdfbfcjajlkaaDoorKcc5
namespace Go.Proofs.YtdjdfbfcjajlkaaDoor
set_option linter.unusedVariables false
set_option linter.unusedSimpArgs false
open Go.RowKit Go.Shelf Bits
open Go.Proofs.YtdjdfbfcjajlkaaDoorW.PrintWords Go.Proofs.YtdjdfbfcjajlkaaDoorW.PrintLast Go.Proofs.YtdjdfbfcjajlkaaDoorW.PrintMore
attribute [local go_sem] Oper.semAt_some
theorem tailsS_span {g : List Tk} (hv : specValid g = true) : Span (tailsS g) g.length 160 := by
 obtain ⟨ns, hg⟩ := graphN_yes hv
 rw [← tailN_eq hg]
 exact tailN_span hg
def latS (g : List Tk) (dl : Int) (j : Nat) : List Int := (List.range j).map fun i => dl - (tailsS g).getD i 0
theorem latS_snoc (g : List Tk) (dl : Int) (j : Nat) : latS g dl (j + 1) = latS g dl j ++ [dl - (tailsS g).getD j 0] := map_snoc_range _ j
theorem latS_len (g : List Tk) (dl : Int) (j : Nat) : (latS g dl j).length = j := by simp [latS]
theorem latS_get {g : List Tk} {dl : Int} {i j : Nat} (hi : i < j) : (latS g dl j).getD i 0 = dl - (tailsS g).getD i 0 := by
 unfold latS
 rw [List.getD_eq_getElem?_getD, List.getElem?_map, List.getElem?_range hi]
 rfl
set_option maxRecDepth 100000 in
set_option maxHeartbeats 4000000 in
theorem LateTasks_impl (A : Option Addr) (c : Nat) (g : List Tk) (A1 : Option Addr) (c1 : Nat) (rm : List Int) (wk : Int) (A2 : Option Addr) (c2 : Nat) (st : List Int) (dl : Int) (w : World) (hr : kTk.C w A g.length g) (hr1 : (Kd.int .i64).C w A1 rm.length rm) (hr2 : (Kd.int .i64).C w A2 st.length st) (hT : Tab w) :
  Calls Tryd.prog 42 #[.slice A g.length c, .slice A1 rm.length c1, .int .i64 wk, .slice A2 st.length c2, .int .i64 dl] w fun e w' => ∃ v, e = .returned v ∧ Kd.R (Kd.int .i64) 3 w' w.heap.size (fun _ => True) v (ints (ltS g rm wk st dl)) ∧ Below w.heap.size w w' := by
 cases h : vStB g rm wk st with
 | true =>
  have HP := Lib.hid (startsIn_yes A c g A1 c1 rm wk A2 c2 st h w hr hr1 hr2 hT)
  have HV := Lib.hid (vSt_valid h)
  have HR2 := Lib.hid hr2
  have HT := Lib.hid hT
  have h8 := HV.out.ok.1
  cases h3 : inB dl 0 200 with
  | true =>
   have HF : Hid (ltS g rm wk st dl = (List.range g.length).filter (lateB g st dl)) := Lib.hid (by unfold ltS; rw [h, h3]; rfl)
   have H3 := Lib.hid h3
   have hdl := inB_true.1 h3
   have HSP := Lib.hid (tailsS_span HV.out.v)
   have HTE := Lib.hid (fun ns (hg : graphN g = some ns) => tailN_eq hg)
   have HTL := Lib.hid (fun (W : World) C ns (hg : graphN g = some ns) (hG : IsGraph W C g ns) (hT : Tab W) => tails_calls C g ns hg W hG hT)
   clear hr hr1 hr2 hT h h3
   generalize hTN : tailsS g = TN at HSP HTE
   have HBD0 : Hid (∀ j, lateB g st dl j = decide (dl - TN.getD j 0 < st.getD j 0)) := Lib.hid (fun j => by unfold lateB; rw [hTN])
   clear hTN
   go_enter Tryd.func42, Tryd.ntmps42
   go_wp2_with (first | (go_at_call 60; refine HP.out.mono ?_; rintro e w1 ⟨C, ns, rfl, hg, hG, hB1⟩; have HB1 := Lib.hid hB1; have HG := Lib.hid hG; have HGR := Lib.hid hg; clear hB1 hG hg) | (go_at_call 55; refine (deadlineValid_is _ _ H3 _).mono ?_; rintro e wd ⟨rfl, rfl⟩) | (go_at_call 69; refine (HTL.out _ C ns HGR.out HG.out (HT.out.keep HT.out.lt HB1.out)).mono ?_; rintro e w3 ⟨v3, rfl, hR3, hB3⟩; rw [HTE.out _ HGR.out] at hR3; obtain ⟨A3, c3, rfl, hl3, hC3⟩ := Kd.R_reads hR3; have HC3 := Lib.hid hC3; have HB3 := Lib.hid (HB1.out.trans (hB3.mono HB1.out.size)); clear hR3 hC3 hB3))
   have htl16 : TN.length ≤ 8 := by rw [HSP.out.1]; exact h8
   go_loop [13, 34] (fun s i => ∃ (j : Nat), j ≤ TN.length ∧ i = .int .i64 j ∧ s = .int .u16 (maskN (lateB g st dl) j : Nat)) (fun _ i => TN.length - (intOf i).toNat)
   case atStart => exact ⟨0, Nat.zero_le _, rfl, rfl⟩
   case round =>
    obtain ⟨j, hj, rfl, rfl⟩ := hrel
    by_cases hjl : j < TN.length
    ·
     have hjs : j < st.length := by rw [HV.out.len, ← HSP.out.1]; exact hjl
     obtain ⟨ad, rfl, hc0⟩ := at_num HC3.out j hjl
     obtain ⟨ads, rfl, cs⟩ := at_num (Kd.C_below HR2.out HB3.out) j hjs
     have hjj : decide ((j : Int) < (TN.length : Int)) = true := decide_eq_true (by omega)
     have hji : (j : Int) < (TN.length : Int) := by omega
     have hjsi : (j : Int) < (st.length : Int) := by omega
     have HE : Hid (maskN (lateB g st dl) (j + 1) = if lateB g st dl j then maskN (lateB g st dl) j ||| 2 ^ j else maskN (lateB g st dl) j) := Lib.hid rfl
     have HBD := Lib.hid (HBD0.out j)
     have hmk := maskN_u16 (lateB g st dl) (n := j) (by omega)
     have hj16 : j < 16 := by omega
     have hsj := HV.out.sok j
     have htj := HSP.out.2 j
     generalize st.getD j 0 = s at cs hsj HBD
     generalize TN.getD j 0 = tm at hc0 htj HBD
     generalize lateB g st dl j = rb at HE HBD
     generalize maskN (lateB g st dl) j = mk at HE hmk
     have hwr : IntKind.i64.wrap (dl - tm) = dl - tm := IntWalk.i64_in _ (by omega)
     by_cases g1 : dl - tm < s
     ·
      have d1 : decide (dl - tm < s) = true := decide_eq_true g1
      rw [d1] at HBD
      clear g1
      go_wp2_with (go_at_call 62; refine (with_calls mk j hmk hj16 _).mono ?_; rintro e w6 ⟨rfl, rfl⟩)
      clear hwr
      go_round
      case rel => exact ⟨j + 1, by omega, by go_num, by rw [HE.out, HBD.out]; rfl⟩
      case measure => simp [intOf]; omega
     ·
      have d1 : decide (dl - tm < s) = false := decide_eq_false g1
      rw [d1] at HBD
      clear g1
      go_wp2
      clear hwr
      go_round
      case rel => exact ⟨j + 1, by omega, by go_num, by rw [HE.out, HBD.out]; rfl⟩
      case measure => simp [intOf]; omega
    ·
     obtain rfl : j = TN.length := by omega
     have hjj : decide ((TN.length : Int) < (TN.length : Int)) = false := decide_eq_false (by omega)
     have hmk := maskN_u16 (lateB g st dl) (n := TN.length) (by omega)
     have HEL := Lib.hid (els_mask (lateB g st dl) (n := TN.length) (by omega))
     have HLC := Lib.hid (list_calls (maskN (lateB g st dl) TN.length) hmk _ (HT.out.keep HT.out.lt HB3.out))
     rw [HEL.out, show (List.range TN.length).filter (lateB g st dl) = ltS g rm wk st dl by rw [HF.out, HSP.out.1]] at HLC
     go_wp2_with (go_at_call 63; refine HLC.out.mono ?_; rintro e w9 ⟨v, rfl, hR, hB9⟩)
     go_ret
     have hz := HB3.out.size
     exact ⟨_, rfl, Kd.R_lower hR hz, HB3.out.trans (hB9.mono hz)⟩
  | false =>
   have HF : Hid (ltS g rm wk st dl = []) := Lib.hid (by unfold ltS; rw [h3, Bool.and_false]; rfl)
   have H3 := Lib.hid h3
   clear hr hr1 hr2 hT h h3
   go_enter Tryd.func42, Tryd.ntmps42
   go_wp2_with (first | (go_at_call 60; refine HP.out.mono ?_; rintro e w1 ⟨C, ns, rfl, hg, hG, hB1⟩; have HB1 := Lib.hid hB1; clear hB1 hG hg) | (go_at_call 55; refine (deadlineValid_is _ _ H3 _).mono ?_; rintro e wd ⟨rfl, rfl⟩))
   go_ret
   exact ⟨_, rfl, by rw [HF.out]; exact R_nilJ _ _, HB1.out⟩
 | false =>
  have HF : Hid (ltS g rm wk st dl = []) := Lib.hid (by unfold ltS; rw [h]; rfl)
  have HP := Lib.hid (startsIn_no A c g A1 c1 rm wk A2 c2 st h w hr hr1 hr2 hT)
  clear hr hr1 hr2 hT h
  go_enter Tryd.func42, Tryd.ntmps42
  go_wp2_with (go_at_call 60; refine HP.out.mono ?_; rintro e w1 ⟨rfl, hB1⟩)
  go_ret
  exact ⟨_, rfl, by rw [HF.out]; exact R_nilJ _ _, hB1⟩
set_option maxRecDepth 100000 in
set_option maxHeartbeats 4000000 in
theorem latest_calls (A : Option Addr) (c : Nat) (g : List Tk) (dl : Int) (hd : 0 ≤ dl ∧ dl ≤ 200) (hv : specValid g = true) (w : World) (hr : kTk.C w A g.length g) :
  Calls Tryd.prog 68 #[.slice A g.length c, .int .i64 dl] w fun e w' => ∃ v, e = .returned v ∧ Kd.R (Kd.int .i64) 3 w' w.heap.size (fun _ => True) v (latS g dl g.length) ∧ Below w.heap.size w w' := by
 have HBa : Hid (Below w.heap.size w (w.alloc (.cells #[] 3))) := Lib.hid ((Below.refl _ _).alloc (Nat.le_refl _) _)
 have HO : Hid (Kd.R (Kd.int .i64) 3 (w.alloc (.cells #[] 3)) w.heap.size (fun _ => True) (.slice (some ⟨w.heap.size, 0, none⟩) 0 0) (latS g dl 0)) := Lib.hid (Kd.R_of_own (World.ownsRow_lit (base := w.heap.size) (size := 1) w #[] 0 (Nat.le_refl _) (by simp [maxLen]) rfl) (fun _ _ => trivial))
 have HTC := Lib.hid (stails_calls A c g hv _ (Kd.C_below hr HBa.out))
 have HSP := Lib.hid (tailsS_span hv)
 have h8 := (specValid_TOk hv).1
 have HLS := Lib.hid (latS_snoc g dl)
 clear hr hv
 generalize tailsS g = TN at HTC HSP HLS
 go_enter Tryd.func68, Tryd.ntmps68
 go_wp2_with (go_at_call 101; refine HTC.out.mono ?_; rintro e w3 ⟨v3, rfl, hR3, hB3⟩)
 have HTLN := Lib.hid HSP.out.1
 have hTw : Two w3 w.heap.size (.slice (some ⟨w.heap.size, 0, none⟩) 0 0) v3 (latS g dl 0) TN := ⟨Kd.R_below HO.out hB3, Kd.R_lower hR3 HBa.out.size, fun q h1 h2 => by
  have h3 := (Kd.R_bound hR3).1 q h2
  simp [Value.ownBlock] at h1
  have := h3.2.1
  simp at this
  omega⟩
 have hBw := HBa.out.trans (hB3.mono HBa.out.size)
 obtain ⟨A3, c3, rfl, hl3, _⟩ := Kd.R_reads hR3
 clear hR3 hB3
 go_loopw [5, 7] (fun out i wr => ∃ j, j ≤ g.length ∧ i = .int .i64 (j : Nat) ∧ Two wr w.heap.size out (.slice A3 TN.length c3) (latS g dl j) TN ∧ Below w.heap.size w wr) (fun _ i _ => g.length - (intOf i).toNat)
 case atStart => exact ⟨0, Nat.zero_le _, rfl, hTw, hBw⟩
 case round =>
  clear hTw hBw
  obtain ⟨j, hj, rfl, hT, hB⟩ := hrel
  by_cases hjl : j < g.length
  ·
   obtain ⟨A4, c4, e5, _, hCn⟩ := Kd.R_reads hT.b
   cases e5
   have hjt : j < TN.length := by rw [HTLN.out]; exact hjl
   obtain ⟨ad, rfl, cx⟩ := at_num hCn j hjt
   have hjj : decide ((j : Int) < (g.length : Int)) = true := decide_eq_true (by omega)
   have hji : (j : Int) < (TN.length : Int) := by omega
   have HL := Lib.hid (HLS.out j)
   have htj := HSP.out.2 j
   have hll := latS_len g dl j
   generalize TN.getD j 0 = tm at cx htj HL
   generalize latS g dl j = fl at hT HL hll
   have hwr : IntKind.i64.wrap (dl - tm) = dl - tm := IntWalk.i64_in _ (by omega)
   have HTB := Lib.hid hT
   have hta := hT.a
   have hbs := hB.size
   clear hT hCn
   go_wp2_with (at_builtin; refine ap_int (w0 := w) w.heap.size rfl _ _ rfl u5 fl (dl - tm) rfl rfl rfl hta hB hbs (by omega) ?_; intro v1 w4 hO4 hB4 hg4 hat4; have hT4 := HTB.out.grow hO4 hg4 hat4; clear hg4 hat4 hO4)
   clear hwr
   go_roundw
   case rel => exact ⟨j + 1, by omega, by go_num, by rw [HL.out]; exact hT4, hB4⟩
   case measure => simp [intOf]; omega
  ·
   obtain rfl : j = g.length := by omega
   have hjj : decide ((g.length : Int) < (g.length : Int)) = false := decide_eq_false (by omega)
   go_wp2
   go_ret
   exact ⟨_, rfl, hT.a, hB⟩
theorem lateB_lat {g : List Tk} {st : List Int} {dl : Int} {j n : Nat} (h : j < n) : lateB g st dl j = decide ((latS g dl n).getD j 0 < st.getD j 0) := by
 unfold lateB
 rw [latS_get h]
set_option maxRecDepth 100000 in
set_option maxHeartbeats 4000000 in
theorem sLateTasks_calls (A : Option Addr) (c : Nat) (g : List Tk) (A1 : Option Addr) (c1 : Nat) (rm : List Int) (wk : Int) (A2 : Option Addr) (c2 : Nat) (st : List Int) (dl : Int) (w : World) (hr : kTk.C w A g.length g) (hr1 : (Kd.int .i64).C w A1 rm.length rm) (hr2 : (Kd.int .i64).C w A2 st.length st) :
  Calls Tryd.prog 41 #[.slice A g.length c, .slice A1 rm.length c1, .int .i64 wk, .slice A2 st.length c2, .int .i64 dl] w fun e w' => ∃ v, e = .returned v ∧ Kd.R (Kd.int .i64) 3 w' w.heap.size (fun _ => True) v (ints (ltS g rm wk st dl)) ∧ Below w.heap.size w w' := by
 have HBa : Hid (Below w.heap.size w (w.alloc (.cells #[] 3))) := Lib.hid ((Below.refl _ _).alloc (Nat.le_refl _) _)
 have HO : Hid (Kd.R (Kd.int .i64) 3 (w.alloc (.cells #[] 3)) w.heap.size (fun _ => True) (.slice (some ⟨w.heap.size, 0, none⟩) 0 0) (ints [])) := Lib.hid (Kd.R_of_own (World.ownsRow_lit (base := w.heap.size) (size := 1) w #[] 0 (Nat.le_refl _) (by simp [maxLen]) rfl) (fun _ _ => trivial))
 have hra := Kd.C_below hr HBa.out
 have hrb := Kd.C_below hr1 HBa.out
 have hrc := Kd.C_below hr2 HBa.out
 cases h : vStB g rm wk st with
 | true =>
  have HP := Lib.hid (validStarts_is true A c g A1 c1 rm wk A2 c2 st (Lib.hid h) _ hra hrb hrc)
  have HV := Lib.hid (vSt_valid h)
  have h8 := HV.out.ok.1
  have HR := Lib.hid hr
  have HR2 := Lib.hid hr2
  cases h3 : inB dl 0 200 with
  | true =>
   have HF : Hid (ltS g rm wk st dl = (List.range g.length).filter (lateB g st dl)) := Lib.hid (by unfold ltS; rw [h, h3]; rfl)
   have H3 := Lib.hid h3
   have hdl := inB_true.1 h3
   have HLB := Lib.hid (fun (j : Nat) (hj : j < g.length) => lateB_lat (g := g) (st := st) (dl := dl) hj)
   have HLC := Lib.hid (fun (W : World) (hW : Below w.heap.size w W) => latest_calls A c g dl hdl HV.out.v W (Kd.C_below HR.out hW))
   have HLL := Lib.hid (latS_len g dl g.length)
   generalize latS g dl g.length = LT at HLB HLC HLL
   clear hr hr1 hr2 hra hrb hrc h h3
   go_enter Tryd.func41, Tryd.ntmps41
   go_wp2_with (first | (go_at_call 59; refine HP.out.mono ?_; rintro e w1 ⟨rfl, hB1⟩; have HO1 := Lib.hid (Kd.R_below HO.out hB1); have HB1 := Lib.hid (HBa.out.trans (hB1.mono HBa.out.size)); clear hB1) | (go_at_call 50; refine (inRange_is _ _ _ _ H3 _).mono ?_; rintro e wd ⟨rfl, rfl⟩) | (go_at_call 68; refine (HLC.out _ HB1.out).mono ?_; rintro e w3 ⟨v3, rfl, hR3, hB3⟩))
   have hTw : Two w3 w.heap.size (.slice (some ⟨w.heap.size, 0, none⟩) 0 0) v3 (ints ((List.range 0).filter (lateB g st dl))) LT := ⟨Kd.R_below HO1.out hB3, Kd.R_lower hR3 HB1.out.size, fun q h1 h2 => by
    have h3 := (Kd.R_bound hR3).1 q h2
    have h4 := R_lt HO1.out h1
    have := h3.2.1
    omega⟩
   have hBw := HB1.out.trans (hB3.mono HB1.out.size)
   obtain ⟨A3, c3, rfl, hl3, _⟩ := Kd.R_reads hR3
   clear hR3 hB3 HO1
   go_loopw [11, 13] (fun out i wr => ∃ j, j ≤ g.length ∧ i = .int .i64 (j : Nat) ∧ Two wr w.heap.size out (.slice A3 LT.length c3) (ints ((List.range j).filter (lateB g st dl))) LT ∧ Below w.heap.size w wr) (fun _ i _ => g.length - (intOf i).toNat)
   case atStart => exact ⟨0, Nat.zero_le _, rfl, hTw, hBw⟩
   case round =>
    clear hTw hBw HB1
    obtain ⟨j, hj, rfl, hT, hB⟩ := hrel
    by_cases hjl : j < g.length
    ·
     have hjs : j < st.length := by rw [HV.out.len]; exact hjl
     obtain ⟨A4, c4, e5, _, hCn⟩ := Kd.R_reads hT.b
     cases e5
     have hjt : j < LT.length := by rw [HLL.out]; exact hjl
     obtain ⟨ad, rfl, cx⟩ := at_num hCn j hjt
     obtain ⟨ads, rfl, cs⟩ := at_num (Kd.C_below HR2.out hB) j hjs
     have hjj : decide ((j : Int) < (g.length : Int)) = true := decide_eq_true (by omega)
     have hji : (j : Int) < (LT.length : Int) := by omega
     have hjsi : (j : Int) < (st.length : Int) := by omega
     have HFS : Hid ((List.range (j + 1)).filter (lateB g st dl) = if lateB g st dl j then (List.range j).filter (lateB g st dl) ++ [j] else (List.range j).filter (lateB g st dl)) := Lib.hid (filter_snoc j)
     have hfl := filter_range_le (lateB g st dl) j
     have HBD := Lib.hid (HLB.out j hjl)
     generalize (List.range j).filter (lateB g st dl) = fl at hT HFS hfl
     generalize st.getD j 0 = s at cs HBD
     generalize LT.getD j 0 = lt at cx HBD
     have HTB := Lib.hid (And.intro hT hB)
     have hol : (ints fl).length < 1000000 := by rw [ints_length]; omega
     clear hT hB hCn
     by_cases h1 : lt < s
     ·
      have d1 : decide (lt < s) = true := decide_eq_true h1
      rw [d1] at HBD
      clear h1
      go_wp2
      go_quiet (fail)
      have hta := Kd.R_drewN HTB.out.1.a nq
      have hB2 := pw_below_drewN HTB.out.2 nq
      have hT2 : Two (wr.drewN nq) w.heap.size u11 (.slice (some ad) LT.length c3) (ints fl) LT := ⟨hta, Kd.R_drewN HTB.out.1.b nq, HTB.out.1.ne⟩
      have HT2 := Lib.hid hT2
      clear hT2
      go_wp2_with (at_builtin; refine ap_int (w0 := w) w.heap.size rfl _ _ rfl u11 (ints fl) (j : Int) rfl rfl rfl hta hB2 hB2.size hol ?_; intro v1 w4 hO4 hB4 hg4 hat4; have hT4 := HT2.out.grow hO4 hg4 hat4; clear hg4 hat4 hO4)
      go_roundw
      case rel => exact ⟨j + 1, by omega, by go_num, by rw [HFS.out, HBD.out, if_pos rfl]; simpa [ints] using hT4, hB4⟩
      case measure => simp [intOf]; omega
     ·
      have d1 : decide (lt < s) = false := decide_eq_false h1
      rw [d1] at HBD
      clear h1
      go_wp2
      go_quiet (fail)
      go_wp2
      go_roundw
      case rel => exact ⟨j + 1, by omega, by go_num, by rw [HFS.out, HBD.out, if_neg (by simp)]; exact ⟨Kd.R_drewN HTB.out.1.a _, Kd.R_drewN HTB.out.1.b _, HTB.out.1.ne⟩, pw_below_drewN HTB.out.2 _⟩
      case measure => simp [intOf]; omega
    ·
     obtain rfl : j = g.length := by omega
     have hjj : decide ((g.length : Int) < (g.length : Int)) = false := decide_eq_false (by omega)
     go_wp2
     go_ret
     exact ⟨_, rfl, by rw [HF.out]; exact hT.a, hB⟩
  | false =>
   have HF : Hid (ltS g rm wk st dl = []) := Lib.hid (by unfold ltS; rw [h3, Bool.and_false]; rfl)
   have H3 := Lib.hid h3
   clear hr hr1 hr2 hra hrb hrc h h3
   go_enter Tryd.func41, Tryd.ntmps41
   go_wp2_with (first | (go_at_call 59; refine HP.out.mono ?_; rintro e w1 ⟨rfl, hB1⟩; have HB1 := Lib.hid (HBa.out.trans (hB1.mono HBa.out.size)); clear hB1) | (go_at_call 50; refine (inRange_is _ _ _ _ H3 _).mono ?_; rintro e wd ⟨rfl, rfl⟩))
   go_ret
   exact ⟨_, rfl, by rw [HF.out]; exact R_nilJ _ _, HB1.out⟩
 | false =>
  have HF : Hid (ltS g rm wk st dl = []) := Lib.hid (by unfold ltS; rw [h]; rfl)
  have HP := Lib.hid (validStarts_is false A c g A1 c1 rm wk A2 c2 st (Lib.hid h) _ hra hrb hrc)
  clear hr hr1 hr2 hra hrb hrc h
  go_enter Tryd.func41, Tryd.ntmps41
  go_wp2_with (go_at_call 59; refine HP.out.mono ?_; rintro e w1 ⟨rfl, hB1⟩)
  go_ret
  exact ⟨_, rfl, by rw [HF.out]; exact R_nilJ _ _, HBa.out.trans (hB1.mono HBa.out.size)⟩
end Go.Proofs.YtdjdfbfcjajlkaaDoor

namespace Go.Proofs.YtdjdfbfcjajlkaaDoor
set_option linter.unusedVariables false
set_option linter.unusedSimpArgs false
open Go.RowKit Go.Shelf Bits
open Go.Proofs.YtdjdfbfcjajlkaaDoorW.PrintWords Go.Proofs.YtdjdfbfcjajlkaaDoorW.PrintLast Go.Proofs.YtdjdfbfcjajlkaaDoorW.PrintMore
attribute [local go_sem] Oper.semAt_some
set_option maxRecDepth 1000000 in
set_option maxHeartbeats 8000000 in
theorem FnExactLateTasks_walk (A : Option Addr) (c : Nat) (g : List Tk) (A1 : Option Addr) (c1 : Nat) (rm : List Int) (wk : Int) (A2 : Option Addr) (c2 : Nat) (st : List Int) (dl : Int) (w : World) (hT : Tab w) (hr : kTk.C w A g.length g) (hr1 : (Kd.int .i64).C w A1 rm.length rm) (hr2 : (Kd.int .i64).C w A2 st.length st) :
  Calls Tryd.prog 11 #[.slice A g.length c, .slice A1 rm.length c1, .int .i64 wk, .slice A2 st.length c2, .int .i64 dl] w fun e w' => e = .returned (.bool true) ∧ Below w.heap.size w w' := by
 by_cases hb1 : ¬ rm.length ≤ 1048576
 ·
  have d : decide ((1048576 : Int) < (rm.length : Int)) = true := decide_eq_true (by omega)
  clear hb1 hr hr1 hr2 hT
  go_enter Tryd.func11, Tryd.ntmps11
  go_wp2
  go_ret
  exact ⟨rfl, by repeat (first | exact Below.refl _ _ | apply pw_below_drewN)⟩
 have hb1 : rm.length ≤ 1048576 := by omega
 have d1 : decide ((1048576 : Int) < (rm.length : Int)) = false := decide_eq_false (by omega)
 by_cases hb2 : ¬ st.length ≤ 1048576
 ·
  have d : decide ((1048576 : Int) < (st.length : Int)) = true := decide_eq_true (by omega)
  clear hb2 hr hr1 hr2 hT
  go_enter Tryd.func11, Tryd.ntmps11
  go_wp2
  go_ret
  exact ⟨rfl, by repeat (first | exact Below.refl _ _ | apply pw_below_drewN)⟩
 have hb2 : st.length ≤ 1048576 := by omega
 have d2 : decide ((1048576 : Int) < (st.length : Int)) = false := decide_eq_false (by omega)
 have HSZ := Lib.hid (fun (W : World) (hW : Below w.heap.size w W) => szTaskS_calls A c g W (Kd.C_below hr hW))
 by_cases hsz : szF g g.length < 0
 ·
  have dn : decide (szF g g.length < 0) = true := decide_eq_true hsz
  generalize szF g g.length = r at HSZ dn
  clear hb1 hr hr1 hT hsz hb2 hr2
  go_enter Tryd.func11, Tryd.ntmps11
  go_wp2_with (go_at_call 14; refine (HSZ.out _ (Below.refl _ _)).mono ?_; rintro e w1 ⟨rfl, hB⟩)
  go_ret
  exact ⟨rfl, hB⟩
 have dn : decide (szF g g.length < 0) = false := decide_eq_false hsz
 obtain ⟨hgl, hnl⟩ := szF_small (g := g) (by omega)
 have HKPG := Lib.hid (fun (W : World) (hW : Below w.heap.size w W) => toTaskS_C A c g hgl hnl W (Kd.C_below hr hW))
 have HKPR := Lib.hid (fun (W : World) (hW : Below w.heap.size w W) => toIntS_C A1 c1 rm hb1 W (Kd.C_below hr1 hW))
 have HKPS := Lib.hid (fun (W : World) (hW : Below w.heap.size w W) => toIntS_C A2 c2 st hb2 W (Kd.C_below hr2 hW))
 have HKXG := Lib.hid (fun (W : World) (hW : Below w.heap.size w W) => toTaskS_T A c g hgl hnl W (Kd.C_below hr hW))
 have HKXR := Lib.hid (fun (W : World) (hW : Below w.heap.size w W) => toIntS_T A1 c1 rm hb1 W (Kd.C_below hr1 hW))
 have HKXS := Lib.hid (fun (W : World) (hW : Below w.heap.size w W) => toIntS_T A2 c2 st hb2 W (Kd.C_below hr2 hW))
 have HKYG := Lib.hid (fun (W : World) (hW : Below w.heap.size w W) => toTaskS_C A c g hgl hnl W (Kd.C_below hr hW))
 have HKYR := Lib.hid (fun (W : World) (hW : Below w.heap.size w W) => toIntS_C A1 c1 rm hb1 W (Kd.C_below hr1 hW))
 have HKYS := Lib.hid (fun (W : World) (hW : Below w.heap.size w W) => toIntS_C A2 c2 st hb2 W (Kd.C_below hr2 hW))
 have HKQG := Lib.hid (fun (W : World) (hW : Below w.heap.size w W) => toTaskS_C A c g hgl hnl W (Kd.C_below hr hW))
 have HKQR := Lib.hid (fun (W : World) (hW : Below w.heap.size w W) => toIntS_C A1 c1 rm hb1 W (Kd.C_below hr1 hW))
 have HKQS := Lib.hid (fun (W : World) (hW : Below w.heap.size w W) => toIntS_C A2 c2 st hb2 W (Kd.C_below hr2 hW))
 have HTW := Lib.hid (fun (W : World) (hW : Below w.heap.size w W) => hT.keep hT.lt hW)
 have HW := Lib.hid (Below.refl w.heap.size w)
 have HS := Lib.hid (fun (BG : Option Addr) (kG : Nat) (BR : Option Addr) (kR : Nat) (BS : Option Addr) (kS : Nat) (W : World) (hG : kTk.C W BG g.length g) (hR : (Kd.int .i64).C W BR rm.length rm) (hS : (Kd.int .i64).C W BS st.length st) => sLateTasks_calls BG kG g BR kR rm wk BS kS st dl W hG hR hS)
 have HI := Lib.hid (fun (BG : Option Addr) (kG : Nat) (BR : Option Addr) (kR : Nat) (BS : Option Addr) (kS : Nat) (W : World) (hG : kTk.C W BG g.length g) (hR : (Kd.int .i64).C W BR rm.length rm) (hS : (Kd.int .i64).C W BS st.length st) (hT : Tab W) => LateTasks_impl BG kG g BR kR rm wk BS kS st dl W hG hR hS hT)
 have hll : (ints (ltS g rm wk st dl)).length ≤ 1048576 := by rw [ints_length]; unfold ltS; split <;> first | exact Nat.le_trans (List.length_filter_le _ _) (by rw [List.length_range]; exact hgl) | exact Nat.zero_le _
 generalize ints (ltS g rm wk st dl) = v at HS HI hll
 have HI2 := HI
 have dh : decide ((1 : Int) + (v.length : Int) < 0) = false := decide_eq_false (by omega)
 have dh2 : ((1 : Int) + (v.length : Int) != (1 : Int) + (v.length : Int)) = false := bne_self_eq_false _
 have HLL := Lib.hid hll
 have HGL := Lib.hid hgl
 have HB1 := Lib.hid hb1
 have HB2 := Lib.hid hb2
 generalize szF g g.length = r at HSZ dn hsz
 clear hr hr1 hT hsz hgl hnl hb1 hll hb2 hr2
 go_enter Tryd.func11, Tryd.ntmps11
 go_wp2_with (first | (go_at_call 16; with_reducible refine (HKPG.out _ HW.out).mono ?_; rintro e wPG ⟨bPG, rfl, hC, hB⟩; have HW := Lib.hid (HW.out.trans (hB.mono HW.out.size)); (try have HWS := Lib.hid (HWS.out.trans (hB.mono HWS.out.size))); (try have HCPG := Lib.hid (Kd.C_below HCPG.out hB)); (try have HCPR := Lib.hid (Kd.C_below HCPR.out hB)); (try have HCPS := Lib.hid (Kd.C_below HCPS.out hB)); (try have HCXG := Lib.hid (Kd.C_below HCXG.out hB)); (try have HCXR := Lib.hid (Kd.C_below HCXR.out hB)); (try have HCXS := Lib.hid (Kd.C_below HCXS.out hB)); (try have HCYG := Lib.hid (Kd.C_below HCYG.out hB)); (try have HCYR := Lib.hid (Kd.C_below HCYR.out hB)); (try have HCYS := Lib.hid (Kd.C_below HCYS.out hB)); (try have HCQG := Lib.hid (Kd.C_below HCQG.out hB)); (try have HCQR := Lib.hid (Kd.C_below HCQR.out hB)); (try have HCQS := Lib.hid (Kd.C_below HCQS.out hB)); (try have HMG := Lib.hid (HMG.out.below hB)); (try have HMR := Lib.hid (HMR.out.below hB)); (try have HMS := Lib.hid (HMS.out.below hB)); (try have HRG := Lib.hid (Kd.R_below HRG.out hB)); (try have HH := Lib.hid (HH.out.below hB)); (try have HC9 := Lib.hid (Kd.C_below HC9.out hB)); have HCPG := Lib.hid hC; clear HKPG hC hB) | (go_at_call 17; with_reducible refine (HKPR.out _ HW.out).mono ?_; rintro e wPR ⟨bPR, rfl, hC, hB⟩; have HW := Lib.hid (HW.out.trans (hB.mono HW.out.size)); (try have HWS := Lib.hid (HWS.out.trans (hB.mono HWS.out.size))); (try have HCPG := Lib.hid (Kd.C_below HCPG.out hB)); (try have HCPR := Lib.hid (Kd.C_below HCPR.out hB)); (try have HCPS := Lib.hid (Kd.C_below HCPS.out hB)); (try have HCXG := Lib.hid (Kd.C_below HCXG.out hB)); (try have HCXR := Lib.hid (Kd.C_below HCXR.out hB)); (try have HCXS := Lib.hid (Kd.C_below HCXS.out hB)); (try have HCYG := Lib.hid (Kd.C_below HCYG.out hB)); (try have HCYR := Lib.hid (Kd.C_below HCYR.out hB)); (try have HCYS := Lib.hid (Kd.C_below HCYS.out hB)); (try have HCQG := Lib.hid (Kd.C_below HCQG.out hB)); (try have HCQR := Lib.hid (Kd.C_below HCQR.out hB)); (try have HCQS := Lib.hid (Kd.C_below HCQS.out hB)); (try have HMG := Lib.hid (HMG.out.below hB)); (try have HMR := Lib.hid (HMR.out.below hB)); (try have HMS := Lib.hid (HMS.out.below hB)); (try have HRG := Lib.hid (Kd.R_below HRG.out hB)); (try have HH := Lib.hid (HH.out.below hB)); (try have HC9 := Lib.hid (Kd.C_below HC9.out hB)); have HCPR := Lib.hid hC; clear HKPR hC hB) | (go_at_call 17; with_reducible refine (HKPS.out _ HW.out).mono ?_; rintro e wPS ⟨bPS, rfl, hC, hB⟩; have HW := Lib.hid (HW.out.trans (hB.mono HW.out.size)); (try have HWS := Lib.hid (HWS.out.trans (hB.mono HWS.out.size))); (try have HCPG := Lib.hid (Kd.C_below HCPG.out hB)); (try have HCPR := Lib.hid (Kd.C_below HCPR.out hB)); (try have HCPS := Lib.hid (Kd.C_below HCPS.out hB)); (try have HCXG := Lib.hid (Kd.C_below HCXG.out hB)); (try have HCXR := Lib.hid (Kd.C_below HCXR.out hB)); (try have HCXS := Lib.hid (Kd.C_below HCXS.out hB)); (try have HCYG := Lib.hid (Kd.C_below HCYG.out hB)); (try have HCYR := Lib.hid (Kd.C_below HCYR.out hB)); (try have HCYS := Lib.hid (Kd.C_below HCYS.out hB)); (try have HCQG := Lib.hid (Kd.C_below HCQG.out hB)); (try have HCQR := Lib.hid (Kd.C_below HCQR.out hB)); (try have HCQS := Lib.hid (Kd.C_below HCQS.out hB)); (try have HMG := Lib.hid (HMG.out.below hB)); (try have HMR := Lib.hid (HMR.out.below hB)); (try have HMS := Lib.hid (HMS.out.below hB)); (try have HRG := Lib.hid (Kd.R_below HRG.out hB)); (try have HH := Lib.hid (HH.out.below hB)); (try have HC9 := Lib.hid (Kd.C_below HC9.out hB)); have HCPS := Lib.hid hC; clear HKPS hC hB) | (go_at_call 16; with_reducible refine (HKXG.out _ HW.out).mono ?_; have HWS0 := Lib.hid HWS.out.size; rintro e wXG ⟨bXG, rfl, hC, hM, hB⟩; have HW := Lib.hid (HW.out.trans (hB.mono HW.out.size)); (try have HWS := Lib.hid (HWS.out.trans (hB.mono HWS.out.size))); (try have HCPG := Lib.hid (Kd.C_below HCPG.out hB)); (try have HCPR := Lib.hid (Kd.C_below HCPR.out hB)); (try have HCPS := Lib.hid (Kd.C_below HCPS.out hB)); (try have HCXG := Lib.hid (Kd.C_below HCXG.out hB)); (try have HCXR := Lib.hid (Kd.C_below HCXR.out hB)); (try have HCXS := Lib.hid (Kd.C_below HCXS.out hB)); (try have HCYG := Lib.hid (Kd.C_below HCYG.out hB)); (try have HCYR := Lib.hid (Kd.C_below HCYR.out hB)); (try have HCYS := Lib.hid (Kd.C_below HCYS.out hB)); (try have HCQG := Lib.hid (Kd.C_below HCQG.out hB)); (try have HCQR := Lib.hid (Kd.C_below HCQR.out hB)); (try have HCQS := Lib.hid (Kd.C_below HCQS.out hB)); (try have HMG := Lib.hid ((HMG.out.below hB).wide (Nat.le_refl _) hB.size)); (try have HMR := Lib.hid ((HMR.out.below hB).wide (Nat.le_refl _) hB.size)); (try have HMS := Lib.hid ((HMS.out.below hB).wide (Nat.le_refl _) hB.size)); have HCXG := Lib.hid hC; have HMG := Lib.hid (hM.wide (lo' := wS.heap.size) (by have h0 := HWS0.out; exact h0) (Nat.le_refl _)); clear HWS0 HKXG hC hM hB) | (go_at_call 17; with_reducible refine (HKXR.out _ HW.out).mono ?_; have HWS0 := Lib.hid HWS.out.size; rintro e wXR ⟨bXR, rfl, hC, hM, hB⟩; have HW := Lib.hid (HW.out.trans (hB.mono HW.out.size)); (try have HWS := Lib.hid (HWS.out.trans (hB.mono HWS.out.size))); (try have HCPG := Lib.hid (Kd.C_below HCPG.out hB)); (try have HCPR := Lib.hid (Kd.C_below HCPR.out hB)); (try have HCPS := Lib.hid (Kd.C_below HCPS.out hB)); (try have HCXG := Lib.hid (Kd.C_below HCXG.out hB)); (try have HCXR := Lib.hid (Kd.C_below HCXR.out hB)); (try have HCXS := Lib.hid (Kd.C_below HCXS.out hB)); (try have HCYG := Lib.hid (Kd.C_below HCYG.out hB)); (try have HCYR := Lib.hid (Kd.C_below HCYR.out hB)); (try have HCYS := Lib.hid (Kd.C_below HCYS.out hB)); (try have HCQG := Lib.hid (Kd.C_below HCQG.out hB)); (try have HCQR := Lib.hid (Kd.C_below HCQR.out hB)); (try have HCQS := Lib.hid (Kd.C_below HCQS.out hB)); (try have HMG := Lib.hid ((HMG.out.below hB).wide (Nat.le_refl _) hB.size)); (try have HMR := Lib.hid ((HMR.out.below hB).wide (Nat.le_refl _) hB.size)); (try have HMS := Lib.hid ((HMS.out.below hB).wide (Nat.le_refl _) hB.size)); have HCXR := Lib.hid hC; have HMR := Lib.hid (hM.wide (lo' := wS.heap.size) (by have h0 := HWS0.out; exact h0) (Nat.le_refl _)); clear HWS0 HKXR hC hM hB) | (go_at_call 17; with_reducible refine (HKXS.out _ HW.out).mono ?_; have HWS0 := Lib.hid HWS.out.size; rintro e wXS ⟨bXS, rfl, hC, hM, hB⟩; have HW := Lib.hid (HW.out.trans (hB.mono HW.out.size)); (try have HWS := Lib.hid (HWS.out.trans (hB.mono HWS.out.size))); (try have HCPG := Lib.hid (Kd.C_below HCPG.out hB)); (try have HCPR := Lib.hid (Kd.C_below HCPR.out hB)); (try have HCPS := Lib.hid (Kd.C_below HCPS.out hB)); (try have HCXG := Lib.hid (Kd.C_below HCXG.out hB)); (try have HCXR := Lib.hid (Kd.C_below HCXR.out hB)); (try have HCXS := Lib.hid (Kd.C_below HCXS.out hB)); (try have HCYG := Lib.hid (Kd.C_below HCYG.out hB)); (try have HCYR := Lib.hid (Kd.C_below HCYR.out hB)); (try have HCYS := Lib.hid (Kd.C_below HCYS.out hB)); (try have HCQG := Lib.hid (Kd.C_below HCQG.out hB)); (try have HCQR := Lib.hid (Kd.C_below HCQR.out hB)); (try have HCQS := Lib.hid (Kd.C_below HCQS.out hB)); (try have HMG := Lib.hid ((HMG.out.below hB).wide (Nat.le_refl _) hB.size)); (try have HMR := Lib.hid ((HMR.out.below hB).wide (Nat.le_refl _) hB.size)); (try have HMS := Lib.hid ((HMS.out.below hB).wide (Nat.le_refl _) hB.size)); have HCXS := Lib.hid hC; have HMS := Lib.hid (hM.wide (lo' := wS.heap.size) (by have h0 := HWS0.out; exact h0) (Nat.le_refl _)); clear HWS0 HKXS hC hM hB) | (go_at_call 16; with_reducible refine (HKYG.out _ HW.out).mono ?_; rintro e wYG ⟨bYG, rfl, hC, hB⟩; have HW := Lib.hid (HW.out.trans (hB.mono HW.out.size)); (try have HWS := Lib.hid (HWS.out.trans (hB.mono HWS.out.size))); (try have HCPG := Lib.hid (Kd.C_below HCPG.out hB)); (try have HCPR := Lib.hid (Kd.C_below HCPR.out hB)); (try have HCPS := Lib.hid (Kd.C_below HCPS.out hB)); (try have HCXG := Lib.hid (Kd.C_below HCXG.out hB)); (try have HCXR := Lib.hid (Kd.C_below HCXR.out hB)); (try have HCXS := Lib.hid (Kd.C_below HCXS.out hB)); (try have HCYG := Lib.hid (Kd.C_below HCYG.out hB)); (try have HCYR := Lib.hid (Kd.C_below HCYR.out hB)); (try have HCYS := Lib.hid (Kd.C_below HCYS.out hB)); (try have HCQG := Lib.hid (Kd.C_below HCQG.out hB)); (try have HCQR := Lib.hid (Kd.C_below HCQR.out hB)); (try have HCQS := Lib.hid (Kd.C_below HCQS.out hB)); (try have HMG := Lib.hid (HMG.out.below hB)); (try have HMR := Lib.hid (HMR.out.below hB)); (try have HMS := Lib.hid (HMS.out.below hB)); (try have HRG := Lib.hid (Kd.R_below HRG.out hB)); (try have HH := Lib.hid (HH.out.below hB)); (try have HC9 := Lib.hid (Kd.C_below HC9.out hB)); have HCYG := Lib.hid hC; clear HKYG hC hB) | (go_at_call 17; with_reducible refine (HKYR.out _ HW.out).mono ?_; rintro e wYR ⟨bYR, rfl, hC, hB⟩; have HW := Lib.hid (HW.out.trans (hB.mono HW.out.size)); (try have HWS := Lib.hid (HWS.out.trans (hB.mono HWS.out.size))); (try have HCPG := Lib.hid (Kd.C_below HCPG.out hB)); (try have HCPR := Lib.hid (Kd.C_below HCPR.out hB)); (try have HCPS := Lib.hid (Kd.C_below HCPS.out hB)); (try have HCXG := Lib.hid (Kd.C_below HCXG.out hB)); (try have HCXR := Lib.hid (Kd.C_below HCXR.out hB)); (try have HCXS := Lib.hid (Kd.C_below HCXS.out hB)); (try have HCYG := Lib.hid (Kd.C_below HCYG.out hB)); (try have HCYR := Lib.hid (Kd.C_below HCYR.out hB)); (try have HCYS := Lib.hid (Kd.C_below HCYS.out hB)); (try have HCQG := Lib.hid (Kd.C_below HCQG.out hB)); (try have HCQR := Lib.hid (Kd.C_below HCQR.out hB)); (try have HCQS := Lib.hid (Kd.C_below HCQS.out hB)); (try have HMG := Lib.hid (HMG.out.below hB)); (try have HMR := Lib.hid (HMR.out.below hB)); (try have HMS := Lib.hid (HMS.out.below hB)); (try have HRG := Lib.hid (Kd.R_below HRG.out hB)); (try have HH := Lib.hid (HH.out.below hB)); (try have HC9 := Lib.hid (Kd.C_below HC9.out hB)); have HCYR := Lib.hid hC; clear HKYR hC hB) | (go_at_call 17; with_reducible refine (HKYS.out _ HW.out).mono ?_; rintro e wYS ⟨bYS, rfl, hC, hB⟩; have HW := Lib.hid (HW.out.trans (hB.mono HW.out.size)); (try have HWS := Lib.hid (HWS.out.trans (hB.mono HWS.out.size))); (try have HCPG := Lib.hid (Kd.C_below HCPG.out hB)); (try have HCPR := Lib.hid (Kd.C_below HCPR.out hB)); (try have HCPS := Lib.hid (Kd.C_below HCPS.out hB)); (try have HCXG := Lib.hid (Kd.C_below HCXG.out hB)); (try have HCXR := Lib.hid (Kd.C_below HCXR.out hB)); (try have HCXS := Lib.hid (Kd.C_below HCXS.out hB)); (try have HCYG := Lib.hid (Kd.C_below HCYG.out hB)); (try have HCYR := Lib.hid (Kd.C_below HCYR.out hB)); (try have HCYS := Lib.hid (Kd.C_below HCYS.out hB)); (try have HCQG := Lib.hid (Kd.C_below HCQG.out hB)); (try have HCQR := Lib.hid (Kd.C_below HCQR.out hB)); (try have HCQS := Lib.hid (Kd.C_below HCQS.out hB)); (try have HMG := Lib.hid (HMG.out.below hB)); (try have HMR := Lib.hid (HMR.out.below hB)); (try have HMS := Lib.hid (HMS.out.below hB)); (try have HRG := Lib.hid (Kd.R_below HRG.out hB)); (try have HH := Lib.hid (HH.out.below hB)); (try have HC9 := Lib.hid (Kd.C_below HC9.out hB)); have HCYS := Lib.hid hC; clear HKYS hC hB) | (go_at_call 16; with_reducible refine (HKQG.out _ HW.out).mono ?_; rintro e wQG ⟨bQG, rfl, hC, hB⟩; have HW := Lib.hid (HW.out.trans (hB.mono HW.out.size)); (try have HWS := Lib.hid (HWS.out.trans (hB.mono HWS.out.size))); (try have HCPG := Lib.hid (Kd.C_below HCPG.out hB)); (try have HCPR := Lib.hid (Kd.C_below HCPR.out hB)); (try have HCPS := Lib.hid (Kd.C_below HCPS.out hB)); (try have HCXG := Lib.hid (Kd.C_below HCXG.out hB)); (try have HCXR := Lib.hid (Kd.C_below HCXR.out hB)); (try have HCXS := Lib.hid (Kd.C_below HCXS.out hB)); (try have HCYG := Lib.hid (Kd.C_below HCYG.out hB)); (try have HCYR := Lib.hid (Kd.C_below HCYR.out hB)); (try have HCYS := Lib.hid (Kd.C_below HCYS.out hB)); (try have HCQG := Lib.hid (Kd.C_below HCQG.out hB)); (try have HCQR := Lib.hid (Kd.C_below HCQR.out hB)); (try have HCQS := Lib.hid (Kd.C_below HCQS.out hB)); (try have HMG := Lib.hid (HMG.out.below hB)); (try have HMR := Lib.hid (HMR.out.below hB)); (try have HMS := Lib.hid (HMS.out.below hB)); (try have HRG := Lib.hid (Kd.R_below HRG.out hB)); (try have HH := Lib.hid (HH.out.below hB)); (try have HC9 := Lib.hid (Kd.C_below HC9.out hB)); have HCQG := Lib.hid hC; clear HKQG hC hB) | (go_at_call 17; with_reducible refine (HKQR.out _ HW.out).mono ?_; rintro e wQR ⟨bQR, rfl, hC, hB⟩; have HW := Lib.hid (HW.out.trans (hB.mono HW.out.size)); (try have HWS := Lib.hid (HWS.out.trans (hB.mono HWS.out.size))); (try have HCPG := Lib.hid (Kd.C_below HCPG.out hB)); (try have HCPR := Lib.hid (Kd.C_below HCPR.out hB)); (try have HCPS := Lib.hid (Kd.C_below HCPS.out hB)); (try have HCXG := Lib.hid (Kd.C_below HCXG.out hB)); (try have HCXR := Lib.hid (Kd.C_below HCXR.out hB)); (try have HCXS := Lib.hid (Kd.C_below HCXS.out hB)); (try have HCYG := Lib.hid (Kd.C_below HCYG.out hB)); (try have HCYR := Lib.hid (Kd.C_below HCYR.out hB)); (try have HCYS := Lib.hid (Kd.C_below HCYS.out hB)); (try have HCQG := Lib.hid (Kd.C_below HCQG.out hB)); (try have HCQR := Lib.hid (Kd.C_below HCQR.out hB)); (try have HCQS := Lib.hid (Kd.C_below HCQS.out hB)); (try have HMG := Lib.hid (HMG.out.below hB)); (try have HMR := Lib.hid (HMR.out.below hB)); (try have HMS := Lib.hid (HMS.out.below hB)); (try have HRG := Lib.hid (Kd.R_below HRG.out hB)); (try have HH := Lib.hid (HH.out.below hB)); (try have HC9 := Lib.hid (Kd.C_below HC9.out hB)); have HCQR := Lib.hid hC; clear HKQR hC hB) | (go_at_call 17; with_reducible refine (HKQS.out _ HW.out).mono ?_; rintro e wQS ⟨bQS, rfl, hC, hB⟩; have HW := Lib.hid (HW.out.trans (hB.mono HW.out.size)); (try have HWS := Lib.hid (HWS.out.trans (hB.mono HWS.out.size))); (try have HCPG := Lib.hid (Kd.C_below HCPG.out hB)); (try have HCPR := Lib.hid (Kd.C_below HCPR.out hB)); (try have HCPS := Lib.hid (Kd.C_below HCPS.out hB)); (try have HCXG := Lib.hid (Kd.C_below HCXG.out hB)); (try have HCXR := Lib.hid (Kd.C_below HCXR.out hB)); (try have HCXS := Lib.hid (Kd.C_below HCXS.out hB)); (try have HCYG := Lib.hid (Kd.C_below HCYG.out hB)); (try have HCYR := Lib.hid (Kd.C_below HCYR.out hB)); (try have HCYS := Lib.hid (Kd.C_below HCYS.out hB)); (try have HCQG := Lib.hid (Kd.C_below HCQG.out hB)); (try have HCQR := Lib.hid (Kd.C_below HCQR.out hB)); (try have HCQS := Lib.hid (Kd.C_below HCQS.out hB)); (try have HMG := Lib.hid (HMG.out.below hB)); (try have HMR := Lib.hid (HMR.out.below hB)); (try have HMS := Lib.hid (HMS.out.below hB)); (try have HRG := Lib.hid (Kd.R_below HRG.out hB)); (try have HH := Lib.hid (HH.out.below hB)); (try have HC9 := Lib.hid (Kd.C_below HC9.out hB)); have HCQS := Lib.hid hC; clear HKQS hC hB) | (go_at_call 41; refine (HS.out _ _ _ _ _ _ _ HCPG.out HCPR.out HCPS.out).mono ?_; rintro e wS ⟨v0, rfl, hR, hB⟩; obtain ⟨A0, c0, rfl, _, hC⟩ := Kd.R_reads hR; have HW := Lib.hid (HW.out.trans (hB.mono HW.out.size)); (try have HWS := Lib.hid (HWS.out.trans (hB.mono HWS.out.size))); (try have HCPG := Lib.hid (Kd.C_below HCPG.out hB)); (try have HCPR := Lib.hid (Kd.C_below HCPR.out hB)); (try have HCPS := Lib.hid (Kd.C_below HCPS.out hB)); (try have HCXG := Lib.hid (Kd.C_below HCXG.out hB)); (try have HCXR := Lib.hid (Kd.C_below HCXR.out hB)); (try have HCXS := Lib.hid (Kd.C_below HCXS.out hB)); (try have HCYG := Lib.hid (Kd.C_below HCYG.out hB)); (try have HCYR := Lib.hid (Kd.C_below HCYR.out hB)); (try have HCYS := Lib.hid (Kd.C_below HCYS.out hB)); (try have HCQG := Lib.hid (Kd.C_below HCQG.out hB)); (try have HCQR := Lib.hid (Kd.C_below HCQR.out hB)); (try have HCQS := Lib.hid (Kd.C_below HCQS.out hB)); (try have HMG := Lib.hid (HMG.out.below hB)); (try have HMR := Lib.hid (HMR.out.below hB)); (try have HMS := Lib.hid (HMS.out.below hB)); (try have HRG := Lib.hid (Kd.R_below HRG.out hB)); (try have HH := Lib.hid (HH.out.below hB)); (try have HC9 := Lib.hid (Kd.C_below HC9.out hB)); have HWS := Lib.hid (Below.refl wS.heap.size wS); have HC0 := Lib.hid hC; have HLO := Lib.hid HW.out.size; clear HS hR hC hB) | (go_at_call 42; refine (HI.out _ _ _ _ _ _ _ HCXG.out HCXR.out HCXS.out (HTW.out _ HW.out)).mono ?_; rintro e wI ⟨vG, rfl, hR, hB⟩; obtain ⟨AG, cG, rfl, _, _⟩ := Kd.R_reads hR; have HLB := Lib.hid HWS.out.size; have HW := Lib.hid (HW.out.trans (hB.mono HW.out.size)); (try have HWS := Lib.hid (HWS.out.trans (hB.mono HWS.out.size))); (try have HCPG := Lib.hid (Kd.C_below HCPG.out hB)); (try have HCPR := Lib.hid (Kd.C_below HCPR.out hB)); (try have HCPS := Lib.hid (Kd.C_below HCPS.out hB)); (try have HCXG := Lib.hid (Kd.C_below HCXG.out hB)); (try have HCXR := Lib.hid (Kd.C_below HCXR.out hB)); (try have HCXS := Lib.hid (Kd.C_below HCXS.out hB)); (try have HCYG := Lib.hid (Kd.C_below HCYG.out hB)); (try have HCYR := Lib.hid (Kd.C_below HCYR.out hB)); (try have HCYS := Lib.hid (Kd.C_below HCYS.out hB)); (try have HCQG := Lib.hid (Kd.C_below HCQG.out hB)); (try have HCQR := Lib.hid (Kd.C_below HCQR.out hB)); (try have HCQS := Lib.hid (Kd.C_below HCQS.out hB)); (try have HMG := Lib.hid (HMG.out.below hB)); (try have HMR := Lib.hid (HMR.out.below hB)); (try have HMS := Lib.hid (HMS.out.below hB)); (try have HRG := Lib.hid (Kd.R_below HRG.out hB)); (try have HH := Lib.hid (HH.out.below hB)); (try have HC9 := Lib.hid (Kd.C_below HC9.out hB)); have HRG := Lib.hid (R_ge hR); clear HI hR hB) | (go_at_call 42; refine (HI2.out _ _ _ _ _ _ _ HCQG.out HCQR.out HCQS.out (HTW.out _ HW.out)).mono ?_; rintro e wJ ⟨vJ, rfl, hR, hB⟩; obtain ⟨AJ, cJ, rfl, _, hC⟩ := Kd.R_reads hR; have HW := Lib.hid (HW.out.trans (hB.mono HW.out.size)); (try have HWS := Lib.hid (HWS.out.trans (hB.mono HWS.out.size))); (try have HCPG := Lib.hid (Kd.C_below HCPG.out hB)); (try have HCPR := Lib.hid (Kd.C_below HCPR.out hB)); (try have HCPS := Lib.hid (Kd.C_below HCPS.out hB)); (try have HCXG := Lib.hid (Kd.C_below HCXG.out hB)); (try have HCXR := Lib.hid (Kd.C_below HCXR.out hB)); (try have HCXS := Lib.hid (Kd.C_below HCXS.out hB)); (try have HCYG := Lib.hid (Kd.C_below HCYG.out hB)); (try have HCYR := Lib.hid (Kd.C_below HCYR.out hB)); (try have HCYS := Lib.hid (Kd.C_below HCYS.out hB)); (try have HCQG := Lib.hid (Kd.C_below HCQG.out hB)); (try have HCQR := Lib.hid (Kd.C_below HCQR.out hB)); (try have HCQS := Lib.hid (Kd.C_below HCQS.out hB)); (try have HMG := Lib.hid (HMG.out.below hB)); (try have HMR := Lib.hid (HMR.out.below hB)); (try have HMS := Lib.hid (HMS.out.below hB)); (try have HRG := Lib.hid (Kd.R_below HRG.out hB)); (try have HH := Lib.hid (HH.out.below hB)); (try have HC9 := Lib.hid (Kd.C_below HC9.out hB)); have HC9 := Lib.hid hC; clear HI2 hR hB hC) | (go_at_call 20; with_reducible refine (eqIntS_same _ _ v _ _ _ (Kd.R_reads' HRG.out).2.2 (Kd.C_below HC0.out HWS.out)).mono ?_; rintro e wE ⟨rfl, hB⟩; have HW := Lib.hid (HW.out.trans (hB.mono HW.out.size)); (try have HWS := Lib.hid (HWS.out.trans (hB.mono HWS.out.size))); (try have HCPG := Lib.hid (Kd.C_below HCPG.out hB)); (try have HCPR := Lib.hid (Kd.C_below HCPR.out hB)); (try have HCPS := Lib.hid (Kd.C_below HCPS.out hB)); (try have HCXG := Lib.hid (Kd.C_below HCXG.out hB)); (try have HCXR := Lib.hid (Kd.C_below HCXR.out hB)); (try have HCXS := Lib.hid (Kd.C_below HCXS.out hB)); (try have HCYG := Lib.hid (Kd.C_below HCYG.out hB)); (try have HCYR := Lib.hid (Kd.C_below HCYR.out hB)); (try have HCYS := Lib.hid (Kd.C_below HCYS.out hB)); (try have HCQG := Lib.hid (Kd.C_below HCQG.out hB)); (try have HCQR := Lib.hid (Kd.C_below HCQR.out hB)); (try have HCQS := Lib.hid (Kd.C_below HCQS.out hB)); (try have HMG := Lib.hid (HMG.out.below hB)); (try have HMR := Lib.hid (HMR.out.below hB)); (try have HMS := Lib.hid (HMS.out.below hB)); (try have HRG := Lib.hid (Kd.R_below HRG.out hB)); (try have HH := Lib.hid (HH.out.below hB)); (try have HC9 := Lib.hid (Kd.C_below HC9.out hB)); clear hB) | (go_at_call 20; with_reducible refine (eqIntS_same _ _ v _ _ _ HC9.out (Kd.C_below HC0.out HWS.out)).mono ?_; rintro e wE ⟨rfl, hB⟩; have HW := Lib.hid (HW.out.trans (hB.mono HW.out.size)); (try have HWS := Lib.hid (HWS.out.trans (hB.mono HWS.out.size))); (try have HCPG := Lib.hid (Kd.C_below HCPG.out hB)); (try have HCPR := Lib.hid (Kd.C_below HCPR.out hB)); (try have HCPS := Lib.hid (Kd.C_below HCPS.out hB)); (try have HCXG := Lib.hid (Kd.C_below HCXG.out hB)); (try have HCXR := Lib.hid (Kd.C_below HCXR.out hB)); (try have HCXS := Lib.hid (Kd.C_below HCXS.out hB)); (try have HCYG := Lib.hid (Kd.C_below HCYG.out hB)); (try have HCYR := Lib.hid (Kd.C_below HCYR.out hB)); (try have HCYS := Lib.hid (Kd.C_below HCYS.out hB)); (try have HCQG := Lib.hid (Kd.C_below HCQG.out hB)); (try have HCQR := Lib.hid (Kd.C_below HCQR.out hB)); (try have HCQS := Lib.hid (Kd.C_below HCQS.out hB)); (try have HMG := Lib.hid (HMG.out.below hB)); (try have HMR := Lib.hid (HMR.out.below hB)); (try have HMS := Lib.hid (HMS.out.below hB)); (try have HRG := Lib.hid (Kd.R_below HRG.out hB)); (try have HH := Lib.hid (HH.out.below hB)); (try have HC9 := Lib.hid (Kd.C_below HC9.out hB)); clear hB) | (go_at_call 19; with_reducible refine (eqTaskS_same _ _ g _ _ _ HCXG.out HCYG.out).mono ?_; rintro e wE ⟨rfl, hB⟩; have HW := Lib.hid (HW.out.trans (hB.mono HW.out.size)); (try have HWS := Lib.hid (HWS.out.trans (hB.mono HWS.out.size))); (try have HCPG := Lib.hid (Kd.C_below HCPG.out hB)); (try have HCPR := Lib.hid (Kd.C_below HCPR.out hB)); (try have HCPS := Lib.hid (Kd.C_below HCPS.out hB)); (try have HCXG := Lib.hid (Kd.C_below HCXG.out hB)); (try have HCXR := Lib.hid (Kd.C_below HCXR.out hB)); (try have HCXS := Lib.hid (Kd.C_below HCXS.out hB)); (try have HCYG := Lib.hid (Kd.C_below HCYG.out hB)); (try have HCYR := Lib.hid (Kd.C_below HCYR.out hB)); (try have HCYS := Lib.hid (Kd.C_below HCYS.out hB)); (try have HCQG := Lib.hid (Kd.C_below HCQG.out hB)); (try have HCQR := Lib.hid (Kd.C_below HCQR.out hB)); (try have HCQS := Lib.hid (Kd.C_below HCQS.out hB)); (try have HMG := Lib.hid (HMG.out.below hB)); (try have HMR := Lib.hid (HMR.out.below hB)); (try have HMS := Lib.hid (HMS.out.below hB)); (try have HRG := Lib.hid (Kd.R_below HRG.out hB)); (try have HH := Lib.hid (HH.out.below hB)); (try have HC9 := Lib.hid (Kd.C_below HC9.out hB)); clear hB) | (go_at_call 20; with_reducible refine (eqIntS_same _ _ rm _ _ _ HCXR.out HCYR.out).mono ?_; rintro e wE ⟨rfl, hB⟩; have HW := Lib.hid (HW.out.trans (hB.mono HW.out.size)); (try have HWS := Lib.hid (HWS.out.trans (hB.mono HWS.out.size))); (try have HCPG := Lib.hid (Kd.C_below HCPG.out hB)); (try have HCPR := Lib.hid (Kd.C_below HCPR.out hB)); (try have HCPS := Lib.hid (Kd.C_below HCPS.out hB)); (try have HCXG := Lib.hid (Kd.C_below HCXG.out hB)); (try have HCXR := Lib.hid (Kd.C_below HCXR.out hB)); (try have HCXS := Lib.hid (Kd.C_below HCXS.out hB)); (try have HCYG := Lib.hid (Kd.C_below HCYG.out hB)); (try have HCYR := Lib.hid (Kd.C_below HCYR.out hB)); (try have HCYS := Lib.hid (Kd.C_below HCYS.out hB)); (try have HCQG := Lib.hid (Kd.C_below HCQG.out hB)); (try have HCQR := Lib.hid (Kd.C_below HCQR.out hB)); (try have HCQS := Lib.hid (Kd.C_below HCQS.out hB)); (try have HMG := Lib.hid (HMG.out.below hB)); (try have HMR := Lib.hid (HMR.out.below hB)); (try have HMS := Lib.hid (HMS.out.below hB)); (try have HRG := Lib.hid (Kd.R_below HRG.out hB)); (try have HH := Lib.hid (HH.out.below hB)); (try have HC9 := Lib.hid (Kd.C_below HC9.out hB)); clear hB) | (go_at_call 20; with_reducible refine (eqIntS_same _ _ st _ _ _ HCXS.out HCYS.out).mono ?_; rintro e wE ⟨rfl, hB⟩; have HW := Lib.hid (HW.out.trans (hB.mono HW.out.size)); (try have HWS := Lib.hid (HWS.out.trans (hB.mono HWS.out.size))); (try have HCPG := Lib.hid (Kd.C_below HCPG.out hB)); (try have HCPR := Lib.hid (Kd.C_below HCPR.out hB)); (try have HCPS := Lib.hid (Kd.C_below HCPS.out hB)); (try have HCXG := Lib.hid (Kd.C_below HCXG.out hB)); (try have HCXR := Lib.hid (Kd.C_below HCXR.out hB)); (try have HCXS := Lib.hid (Kd.C_below HCXS.out hB)); (try have HCYG := Lib.hid (Kd.C_below HCYG.out hB)); (try have HCYR := Lib.hid (Kd.C_below HCYR.out hB)); (try have HCYS := Lib.hid (Kd.C_below HCYS.out hB)); (try have HCQG := Lib.hid (Kd.C_below HCQG.out hB)); (try have HCQR := Lib.hid (Kd.C_below HCQR.out hB)); (try have HCQS := Lib.hid (Kd.C_below HCQS.out hB)); (try have HMG := Lib.hid (HMG.out.below hB)); (try have HMR := Lib.hid (HMR.out.below hB)); (try have HMS := Lib.hid (HMS.out.below hB)); (try have HRG := Lib.hid (Kd.R_below HRG.out hB)); (try have HH := Lib.hid (HH.out.below hB)); (try have HC9 := Lib.hid (Kd.C_below HC9.out hB)); clear hB) | (go_at_call 14; refine (HSZ.out _ HW.out).mono ?_; rintro e wZ ⟨rfl, hB⟩; have HW := Lib.hid (HW.out.trans (hB.mono HW.out.size)); clear HSZ hB) | (go_at_call 23; refine (markTaskS_calls _ _ _ 1 wS.heap.size wXS.heap.size _ HMG.out HGL.out ⟨by decide, by decide⟩).mono ?_; rintro e wMG ⟨K, rfl, hK, hO⟩; (try clear HCPG HCXG HCYG HCPR HCXR HCYR HCPS HCXS HCYS); have HW := Lib.hid (HW.out.trans (hO.below (fun q hq => Nat.le_trans HLO.out hq.1))); have HWS := Lib.hid (HWS.out.trans (hO.below (fun q hq => hq.1))); have HRG := Lib.hid (R_only HRG.out hO (fun q hq => hq.2)); have HMR := Lib.hid (HMR.out.only hO); have HMS := Lib.hid (HMS.out.only hO); have HK := Lib.hid hK; have dk : decide (K + (rm.length : Int) + (st.length : Int) < 0) = false := decide_eq_false (by have h1 := HB1.out; omega); clear HMG hO hK) | (go_at_call 24; with_reducible refine (markIntS_calls _ _ _ (K) wS.heap.size wXS.heap.size _ HMR.out ⟨by have h0 := HK.out; omega, by have h0 := HK.out; have h1 := HB1.out; have h2 := HB2.out; omega⟩).mono ?_; rintro e wMR ⟨rfl, _, hO⟩; have HW := Lib.hid (HW.out.trans (hO.below (fun q hq => Nat.le_trans HLO.out (by obtain ⟨_, _, _, h, _⟩ := hq; exact h)))); have HWS := Lib.hid (HWS.out.trans (hO.below (fun q hq => (by obtain ⟨_, _, _, h, _⟩ := hq; exact h)))); have HRG := Lib.hid (R_only HRG.out hO (fun q hq => by obtain ⟨_, _, _, _, h⟩ := hq; exact h)); have HMS := Lib.hid (HMS.out.only hO); clear HMR hO) | (go_at_call 24; with_reducible refine (markIntS_calls _ _ _ (K + (rm.length : Int)) wS.heap.size wXS.heap.size _ HMS.out ⟨by have h0 := HK.out; omega, by have h0 := HK.out; have h1 := HB1.out; have h2 := HB2.out; omega⟩).mono ?_; rintro e wMS ⟨rfl, _, hO⟩; have HW := Lib.hid (HW.out.trans (hO.below (fun q hq => Nat.le_trans HLO.out (by obtain ⟨_, _, _, h, _⟩ := hq; exact h)))); have HWS := Lib.hid (HWS.out.trans (hO.below (fun q hq => (by obtain ⟨_, _, _, h, _⟩ := hq; exact h)))); have HRG := Lib.hid (R_only HRG.out hO (fun q hq => by obtain ⟨_, _, _, _, h⟩ := hq; exact h)); clear HMS hO) | (go_at_call 24; with_reducible refine (markIntS_calls _ _ _ 1 wXS.heap.size _ _ (MRow.of_R HRG.out) ⟨by decide, by have h0 := HLL.out; omega⟩).mono ?_; rintro e wMR ⟨rfl, hH, hO⟩; have HW := Lib.hid (HW.out.trans (hO.below (fun q hq => Nat.le_trans HLO.out (by obtain ⟨_, _, _, h, _⟩ := hq; exact Nat.le_trans HLB.out h)))); have HWS := Lib.hid (HWS.out.trans (hO.below (fun q hq => (by obtain ⟨_, _, _, h, _⟩ := hq; exact Nat.le_trans HLB.out h)))); have HH := Lib.hid hH; clear HRG hO hH) | (go_at_call 25; refine (heldIntS_calls _ _ _ 1 _ HH.out ⟨by decide, by have h0 := HLL.out; omega⟩).mono ?_; rintro e wHD ⟨rfl, hB⟩; have HW := Lib.hid (HW.out.trans (hB.mono HW.out.size)); (try have HWS := Lib.hid (HWS.out.trans (hB.mono HWS.out.size))); (try have HCPG := Lib.hid (Kd.C_below HCPG.out hB)); (try have HCPR := Lib.hid (Kd.C_below HCPR.out hB)); (try have HCPS := Lib.hid (Kd.C_below HCPS.out hB)); (try have HCXG := Lib.hid (Kd.C_below HCXG.out hB)); (try have HCXR := Lib.hid (Kd.C_below HCXR.out hB)); (try have HCXS := Lib.hid (Kd.C_below HCXS.out hB)); (try have HCYG := Lib.hid (Kd.C_below HCYG.out hB)); (try have HCYR := Lib.hid (Kd.C_below HCYR.out hB)); (try have HCYS := Lib.hid (Kd.C_below HCYS.out hB)); (try have HCQG := Lib.hid (Kd.C_below HCQG.out hB)); (try have HCQR := Lib.hid (Kd.C_below HCQR.out hB)); (try have HCQS := Lib.hid (Kd.C_below HCQS.out hB)); (try have HMG := Lib.hid (HMG.out.below hB)); (try have HMR := Lib.hid (HMR.out.below hB)); (try have HMS := Lib.hid (HMS.out.below hB)); (try have HRG := Lib.hid (Kd.R_below HRG.out hB)); (try have HH := Lib.hid (HH.out.below hB)); (try have HC9 := Lib.hid (Kd.C_below HC9.out hB)); clear hB))
 go_ret
 exact ⟨rfl, HW.out⟩
end Go.Proofs.YtdjdfbfcjajlkaaDoor
