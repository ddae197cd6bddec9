/- Parts of the proof, laid as one text by a program of mine. -/
import Derived.Test.YtkljcdghbefceaaDoorKbestc16
import Derived.Test.YtkljcdghbefceaaDoorKbestc7
import Derived.Test.YtkljcdghbefceaaDoorKbestc11
namespace Go.Proofs.YtkljcdghbefceaaDoor
set_option linter.unusedVariables false
set_option linter.unusedSimpArgs false
open Go.RowKit Go.Shelf Bits
open Go.Proofs.YtkljcdghbefceaaDoorW.PrintWords Go.Proofs.YtkljcdghbefceaaDoorW.PrintLast Go.Proofs.YtkljcdghbefceaaDoorW.PrintMore
attribute [local go_sem] Oper.semAt_some
theorem fitB_upto {g : List Tk} {rm : List Int} {wk : Int} {st : List Int} {i now d T : Nat} (hT : (rdTk g i).f0 = (T : Int)) (hd : d ≤ T) : (∀ e, e < d → fitAt g rm wk st i ((now + e : Nat) : Int) = true) → (d = T → fitB g rm wk st i now = true) ∧ (d < T → fitAt g rm wk st i ((now + d : Nat) : Int) = false → fitB g rm wk st i now = false) := by
 intro h
 have hTT : (rdTk g i).f0.toNat = T := by rw [hT]; exact Int.toNat_natCast T
 constructor
 ·
  intro he
  unfold fitB
  rw [hTT, List.all_eq_true]
  intro e hm
  exact h e (by rw [he]; exact List.mem_range.1 hm)
 ·
  intro hlt hf
  unfold fitB
  rw [hTT]
  apply Bool.eq_false_iff.2
  intro ha
  have := List.all_eq_true.1 ha d (List.mem_range.2 hlt)
  rw [hf] at this
  cases this
set_option maxRecDepth 100000 in
set_option maxHeartbeats 4000000 in
theorem fits_calls (A : Option Addr) (c : Nat) (g : List Tk) (A1 : Option Addr) (c1 : Nat) (rm : List Int) (wk : Int) (A3 : Option Addr) (c3 : Nat) (st : List Int) (i now : Nat) (hok : TOk g) (hso : SOk st) (hlen : st.length = g.length) (hrm : rm.length = 3) (hi : i < g.length) (hnow : now ≤ 1000) (w : World) (hr : kTk.C w A g.length g) (hr1 : (Kd.int .i64).C w A1 rm.length rm) (hr3 : (Kd.int .i64).C w A3 st.length st) :
  Calls Tryd.prog 56 #[.slice A g.length c, .slice A1 rm.length c1, .int .i64 wk, .slice A3 st.length c3, .int .i64 (i : Nat), .int .i64 (now : Nat)] w fun e w' => e = .returned (.bool (fitB g rm wk st i now)) ∧ Below w.heap.size w w' := by
 have HR := Lib.hid hr
 have HR1 := Lib.hid hr1
 have HR3 := Lib.hid hr3
 have HOK := Lib.hid hok
 have HRA := Lib.hid (fun (t : Int) (W : World) (hW : Below w.heap.size w W) => runningAt_calls A c g A3 c3 st t hok hso hlen W (Kd.C_below hr hW) (Kd.C_below hr3 hW))
 obtain ⟨T, hT⟩ : ∃ T : Nat, (rdTk g i).f0 = (T : Int) := ⟨(rdTk g i).f0.toNat, by have := hok.2.1 i; omega⟩
 have hT20 : T ≤ 20 := by have := hok.2.1 i; omega
 have HT := Lib.hid hT
 obtain ⟨p, hp⟩ : ∃ p : Nat, (rdTk g i).f2 = (p : Int) := ⟨(rdTk g i).f2.toNat, by have := hok.2.2.1 i; omega⟩
 have hp3 : p < 3 := by have := hok.2.2.1 i; omega
 have HPP := Lib.hid hp
 have hu4 := hok.2.2.2.1 i
 obtain ⟨u, hu⟩ : ∃ u, u = (rdTk g i).f3 := ⟨_, rfl⟩
 rw [← hu] at hu4
 have HUU := Lib.hid hu
 have HRM := Lib.hid hrm
 have HI := Lib.hid hi
 have HUP := Lib.hid (fun d (hd : d ≤ T) h => fitB_upto (rm := rm) (wk := wk) (st := st) (now := now) hT hd h)
 have h8 := hok.1
 have hii : (i : Int) < (g.length : Int) := by omega
 clear hr hr1 hr3 hok hso hlen hT hp hu hrm
 go_enter Tryd.func56, Tryd.ntmps56
 go_wp2
 go_loopw [13] (fun t wr => ∃ d : Nat, d ≤ T ∧ t = .int .i64 ((now : Int) + (d : Nat)) ∧ Hid (∀ e, e < d → fitAt g rm wk st i ((now + e : Nat) : Int) = true) ∧ Below w.heap.size w wr) (fun t _ => now + T - (intOf t).toNat)
 case atStart => exact ⟨0, Nat.zero_le _, by simp, Lib.hid fun e he => absurd he (Nat.not_lt_zero _), Below.refl _ _⟩
 case round =>
  obtain ⟨d, hd, rfl, HD, hB⟩ := hrel
  obtain ⟨ad, A4, c4, rfl, x0, x1, x2, x3, _⟩ := at_Tk (Kd.C_below HR.out hB) i HI.out
  rw [HT.out] at x0
  obtain ⟨tq, htq⟩ : ∃ tq : Int, tq = (now : Int) + (d : Nat) := ⟨_, rfl⟩
  rw [← htq]
  have HTQ := Lib.hid htq
  have hwT : IntKind.i64.wrap ((now : Int) + (T : Int)) = (now : Int) + (T : Int) := IntWalk.i64_in _ (by omega)
  by_cases hdT : d < T
  ·
   have dd : decide (tq < (now : Int) + (T : Int)) = true := decide_eq_true (by omega)
   have HRJ := Lib.hid (HRA.out tq)
   have HFA : Hid (fitAt g rm wk st i ((now + d : Nat) : Int) = (decide (((runS g st tq).length : Int) < wk) && decide (usedS g (runS g st tq) (p : Nat) + u ≤ rm.getD p 0))) := Lib.hid (by
    have e : ((now + d : Nat) : Int) = tq := by omega
    rw [e]
    unfold fitAt
    rw [HPP.out, ← HUU.out, Int.toNat_natCast])
   have hrl : (runS g st tq).length ≤ 100 := by
    have h1 : (runS g st tq).length ≤ g.length := filter_range_le _ _
    omega
   have HRG : Hid (∀ k ∈ runS g st tq, k < g.length) := Lib.hid (fun k hk => List.mem_range.1 (List.mem_filter.1 hk).1)
   have hub := usedS_bound HOK.out p (runS g st tq)
   generalize runS g st tq = rn at HRJ HFA hrl HRG hub
   have hwt : IntKind.i64.wrap (tq + 1) = tq + 1 := IntWalk.i64_in _ (by clear hwT; omega)
   have HB := Lib.hid hB
   clear htq hB x1 x2 x3
   go_wp2_with (go_at_call 74; refine (HRJ.out _ HB.out).mono ?_; rintro e w2 ⟨v2, rfl, hR2, hB2⟩; obtain ⟨A2, c2, rfl, hc2, hC2⟩ := Kd.R_reads hR2; rw [ints_length] at hC2 hc2 ⊢; have HC2 := Lib.hid hC2; have HBW := Lib.hid (HB.out.trans (hB2.mono HB.out.size)); clear hR2 hB2 hC2)
   have HNO := Lib.hid ((HUP.out d hd HD.out).2 hdT)
   have HDT := Lib.hid hdT
   clear hdT
   by_cases hwk : (rn.length : Int) < wk
   ·
    have dwk : decide ((rn.length : Int) < wk) = true := decide_eq_true hwk
    have dwk2 : decide (wk ≤ (rn.length : Int)) = false := decide_eq_false (by omega)
    obtain ⟨ad2, A5, c5, e5, y0, y1, y2, y3, _⟩ := at_Tk (Kd.C_below HR.out HBW.out) i HI.out
    cases e5
    rw [HPP.out] at y2
    rw [← HUU.out] at y3
    obtain ⟨adr, rfl, cr⟩ := at_num (Kd.C_below HR1.out HBW.out) p (by rw [HRM.out]; omega)
    have hpr : (p : Int) < (rm.length : Int) := by rw [HRM.out]; omega
    have HCG := Lib.hid (Kd.C_below HR.out HBW.out)
    generalize hU : usedS g rn (p : Nat) = U at hub HFA
    have HU := Lib.hid hU
    generalize rm.getD p 0 = rp at cr HFA
    have hws : IntKind.i64.wrap (U + u) = U + u := IntWalk.i64_in _ (by clear hwT hwt; omega)
    clear hU y0 y1 x0
    by_cases hfit : U + u ≤ rp
    ·
     have dfit : decide (U + u ≤ rp) = true := decide_eq_true hfit
     have dfit2 : decide (rp < U + u) = false := decide_eq_false (by omega)
     have HYES : Hid (fitAt g rm wk st i ((now + d : Nat) : Int) = true) := Lib.hid (by rw [HFA.out, dwk, dfit]; rfl)
     clear hfit hwk dfit dwk
     go_quiet ((go_at_call 75; exact Calls.quiet_of_same (used_is U _ _ g _ _ rn p HU HOK.out hrl HRG.out _ (Kd.C_drewN HCG.out _) (Kd.C_drewN HC2.out _))))
     clear hws hwT
     go_wp2
     clear hwt
     go_roundw
     case rel => exact ⟨d + 1, by have := HDT.out; omega, by rw [HTQ.out] <;> (congr 1 <;> omega), Lib.hid (fun e he => by
      by_cases h : e = d
      ·
       rw [h]; exact HYES.out
      ·
       exact HD.out e (by omega)), pw_below_drewN HBW.out nq⟩
     case measure => have h1 := HTQ.out; have h2 := HDT.out; simp [intOf]; omega
    ·
     have dfit : decide (U + u ≤ rp) = false := decide_eq_false hfit
     have dfit2 : decide (rp < U + u) = true := decide_eq_true (by omega)
     have HF : Hid (fitB g rm wk st i now = false) := Lib.hid (HNO.out (by rw [HFA.out, dwk, dfit]; rfl))
     clear hfit hwk dfit dwk
     go_quiet ((go_at_call 75; exact Calls.quiet_of_same (used_is U _ _ g _ _ rn p HU HOK.out hrl HRG.out _ (Kd.C_drewN HCG.out _) (Kd.C_drewN HC2.out _))))
     clear hws hwT
     go_wp2
     go_ret
     exact ⟨by rw [HF.out]; rfl, pw_below_drewN HBW.out nq⟩
   ·
    have dwk : decide ((rn.length : Int) < wk) = false := decide_eq_false hwk
    have dwk2 : decide (wk ≤ (rn.length : Int)) = true := decide_eq_true (by omega)
    have HF : Hid (fitB g rm wk st i now = false) := Lib.hid (HNO.out (by rw [HFA.out, dwk]; rfl))
    clear hwk dwk hub x0
    go_quiet (fail)
    clear hwT
    go_wp2
    go_ret
    exact ⟨by rw [HF.out]; rfl, pw_below_drewN HBW.out nq⟩
  ·
   obtain rfl : d = T := by omega
   have dd : decide (tq < (now : Int) + (d : Int)) = false := decide_eq_false (by omega)
   have HF : Hid (fitB g rm wk st i now = true) := Lib.hid ((HUP.out d (Nat.le_refl _) HD.out).1 rfl)
   clear htq x1 x2 x3
   go_wp2
   go_ret
   exact ⟨by rw [HF.out]; rfl, hB⟩
theorem Part.sok {g : List Tk} {rm : List Int} {wk : Int} {l : List Nat} {st : List Int} (hok : TOk g) (h : Part g rm wk l st) (hn : l.Nodup) : SOk st := fun i => by
 by_cases hi : i < g.length
 ·
  by_cases hm : i ∈ l
  ·
   have h1 := h.yes i hm
   have h2 := h.small hok hn
   have h3 := hok.2.1 i
   omega
  ·
   have := h.no i hi hm
   omega
 ·
  have : st.getD i 0 = 0 := by
   rw [List.getD_eq_getElem?_getD, List.getElem?_eq_none (by rw [h.len]; omega)]
   rfl
  omega
theorem getD_ints (l : List Nat) (j : Nat) : (ints l).getD j 0 = ((l.getD j 0 : Nat) : Int) := ints_getD l j
set_option maxRecDepth 100000 in
set_option maxHeartbeats 8000000 in
theorem sorder_calls (A : Option Addr) (c : Nat) (g : List Tk) (A1 : Option Addr) (c1 : Nat) (rm : List Int) (wk : Int) (A3 : Option Addr) (c3 : Nat) (L : List Nat) (hv : specValid g = true) (hp : placeB rm wk = true) (ho : IsOrd g L) (w : World) (hr : kTk.C w A g.length g) (hr1 : (Kd.int .i64).C w A1 rm.length rm) (hr3 : (Kd.int .i64).C w A3 L.length (ints L)) :
  Calls Tryd.prog 37 #[.slice A g.length c, .slice A1 rm.length c1, .int .i64 wk, .slice A3 L.length c3] w fun e w' => ∃ v, e = .returned v ∧ Kd.R (Kd.int .i64) 3 w' w.heap.size (fun _ => True) v (ordL g rm wk L L.length) ∧ Below w.heap.size w w' := by
 have HR := Lib.hid hr
 have HR1 := Lib.hid hr1
 have HR3 := Lib.hid hr3
 have hok := specValid_TOk hv
 have HOK := Lib.hid hok
 have HV := Lib.hid hv
 have HP := Lib.hid hp
 have HO := Lib.hid ho
 have h8 := hok.1
 have hLg := ho.len
 have hrm3 := (roomB_facts (placeB_facts hp).1).1
 have HRM := Lib.hid hrm3
 have hmk := run_makeX g.length (by omega)
 have HLG := Lib.hid hLg
 have hLl : L.length ≤ 8 := by omega
 clear hr hr1 hr3 hok hv hp ho hLg hrm3
 go_enter Tryd.func37, Tryd.ntmps37
 go_wp2
 clear hmk
 have hrl : (List.replicate g.length (200 : Int)).length = g.length := List.length_replicate
 have hI0 : IRow (w.alloc (.cells (zeroI g.length) 3)) w.heap.size (cpyL (List.replicate g.length 200) 0) := by
  rw [cpyL_zero, hrl, zeroI_row]
  exact World.alloc_heap_new w _
 have hB0 : Below w.heap.size w (w.alloc (.cells (zeroI g.length) 3)) := (Below.refl _ _).alloc (Nat.le_refl _) _
 have HRL := Lib.hid hrl
 clear hrl
 go_loopw [10] (fun i wr => ∃ j, j ≤ g.length ∧ i = .int .i64 (j : Nat) ∧ IRow wr w.heap.size (cpyL (List.replicate g.length 200) j) ∧ Below w.heap.size w wr) (fun i _ => g.length - (intOf i).toNat)
 case atStart => exact ⟨0, Nat.zero_le _, rfl, hI0, hB0⟩
 case round =>
  clear hI0 hB0
  obtain ⟨j, hj, rfl, hI, hB⟩ := hrel
  by_cases hjl : j < g.length
  ·
   have hjj : decide ((j : Int) < (g.length : Int)) = true := decide_eq_true (by omega)
   have hji : (j : Int) < (g.length : Int) := by omega
   have cr := hI.cell j (by rw [cpyL_len, HRL.out]; exact hjl)
   have fr := hI.frozen j
   have HE : Hid ((cpyL (List.replicate g.length (200 : Int)) j).set j 200 = cpyL (List.replicate g.length 200) (j + 1)) := Lib.hid (by
    have h := cpyL_set (List.replicate g.length (200 : Int)) j
    have e : (List.replicate g.length (200 : Int)).getD j 0 = 200 := by simp [List.getD_eq_getElem?_getD, List.getElem?_replicate, hjl]
    rw [e] at h
    exact h)
   generalize (cpyL (List.replicate g.length (200 : Int)) j).getD j 0 = old at cr
   have HX := Lib.hid (And.intro hI hB)
   clear hI hB
   go_wp2
   go_roundw
   case rel => exact ⟨j + 1, by omega, by go_num, by rw [← HE.out]; exact HX.out.1.set j 200, HX.out.2.setCell (p := ⟨w.heap.size, j, none⟩) (Nat.le_refl _) _⟩
   case measure => simp [intOf]; omega
  ·
   have hje : j = g.length := by omega
   have hjj : decide ((j : Int) < (g.length : Int)) = false := decide_eq_false (by omega)
   have hI1 : IRow wr w.heap.size (ordL g rm wk L 0) := by
    have e : cpyL (List.replicate g.length (200 : Int)) j = List.replicate g.length 200 := by
     have := cpyL_end (List.replicate g.length (200 : Int))
     rw [HRL.out] at this
     rw [hje]
     exact this
    rw [e] at hI
    exact hI
   clear hI hje
   go_wp2
   go_loopw [11] (fun i wr => ∃ j, j ≤ L.length ∧ i = .int .i64 (j : Nat) ∧ IRow wr w.heap.size (ordL g rm wk L j) ∧ Below w.heap.size w wr) (fun i _ => L.length - (intOf i).toNat)
   case atStart => exact ⟨0, Nat.zero_le _, rfl, hI1, hB⟩
   case round =>
    clear hI1 hB
    obtain ⟨j, hj, rfl, hI, hB⟩ := hrel
    obtain ⟨wo, rfl⟩ : ∃ wo : World, wo = wr := ⟨_, rfl⟩
    by_cases hjl : j < L.length
    ·
     have hjj : decide ((j : Int) < (L.length : Int)) = true := decide_eq_true (by omega)
     have hjLi : (j : Int) < (L.length : Int) := by omega
     obtain ⟨ad3, rfl, cL⟩ := at_num (Kd.C_below HR3.out hB) j hjl
     rw [getD_ints] at cL
     have hP := ord_part HOK.out HP.out HO.out j hj
     have hnd := nodup_take HO.out.nd hjl
     have hxl := HO.out.lt _ (getD_mem hjl)
     have hned := HO.out.ned j hjl
     have hpl := hP.place HOK.out HP.out hnd.1 hned
     have hsm := hP.small HOK.out hnd.1
     have hso := hP.sok HOK.out hnd.1
     have hsl := hP.len
     have HSO := Lib.hid hso
     have HSL := Lib.hid hsl
     have HSTEP : Hid (ordL g rm wk L (j + 1) = (ordL g rm wk L j).set (L.getD j 0) (placeS g rm wk (ordL g rm wk L j) (L.getD j 0) : Nat)) := Lib.hid rfl
     generalize ordL g rm wk L j = st at hI hP hpl hso hsl HSO HSL HSTEP
     generalize L.getD j 0 = x at cL hxl hned hpl HSTEP
     have hxi : (x : Int) < (g.length : Int) := by omega
     have HNI : Hid (∀ k, k < (rdTk g x).f1.length → 0 ≤ (rdTk g x).f1.getD k 0 ∧ (rdTk g x).f1.getD k 0 < g.length) := Lib.hid (fun k hk => by
      have hm : (rdTk g x).f1.getD k 0 ∈ (rdTk g x).f1 := by
       rw [List.getD_eq_getElem?_getD, List.getElem?_eq_getElem hk]
       exact List.getElem_mem _
      have := spec_needs_in HV.out x hxl _ hm
      omega)
     have HX := Lib.hid (And.intro hI hB)
     have HPL := Lib.hid hpl
     have HXL := Lib.hid hxl
     have HSM := Lib.hid hsm
     clear hP hnd hned hpl hsm hso hsl hI hB
     go_wp2
     generalize hnd : (rdTk g x).f1 = nd at HNI ⊢
     have HND := Lib.hid hnd
     clear hnd
     go_loopw [13, 14] (fun n k wi => ∃ q : Nat, q ≤ nd.length ∧ k = .int .i64 (q : Nat) ∧ n = .int .i64 (baseN g st nd q) ∧ Below wo.heap.size wo wi) (fun _ k _ => nd.length - (intOf k).toNat)
     case atStart => exact ⟨0, Nat.zero_le _, rfl, rfl, Below.refl _ _⟩
     case round =>
      obtain ⟨q, hq, rfl, rfl, hBi⟩ := hrel
      have hBw := HX.out.2.trans (hBi.mono HX.out.2.size)
      obtain ⟨ad, A4, c4, rfl, x0, x1, x2, x3, hc4, hC4⟩ := at_Tk (Kd.C_below HR.out hBw) x HXL.out
      rw [HND.out] at x1 hc4 hC4
      by_cases hql : q < nd.length
      ·
       have hqq : decide (q < nd.length) = true := decide_eq_true hql
       have hqi : (q : Int) < (nd.length : Int) := by omega
       have hndm := (C_len hC4).2
       obtain ⟨adn, rfl, cn⟩ := at_num hC4 q hql
       have hyb := HNI.out q hql
       obtain ⟨y, hy⟩ : ∃ y : Nat, nd.getD q 0 = (y : Int) := ⟨(nd.getD q 0).toNat, by omega⟩
       rw [hy] at cn hyb
       have hyg : y < g.length := by omega
       have hyi : (y : Int) < (g.length : Int) := by omega
       obtain ⟨ad2, A5, c5, e5, y0, _⟩ := at_Tk (Kd.C_below HR.out hBw) y hyg
       cases e5
       have cs : wr.cell? ⟨w.heap.size, y, none⟩ = some (.int .i64 (st.getD y 0)) := IRow.cell (blk_below HX.out.1 hBi) y (by rw [HSL.out]; exact hyg)
       have hsy := HSO.out y
       have hty := HOK.out.2.1 y
       have HE : Hid (baseN g st nd (q + 1) = max (baseN g st nd q) (st.getD y 0 + (rdTk g y).f0)) := Lib.hid (by
        show max (baseN g st nd q) (st.getD (nd.getD q 0).toNat 0 + (rdTk g (nd.getD q 0).toNat).f0) = _
        rw [hy, Int.toNat_natCast])
       generalize st.getD y 0 = s at cs hsy HE
       generalize (rdTk g y).f0 = tm at y0 hty HE
       generalize baseN g st nd q = bn at HE ⊢
       have hwr : IntKind.i64.wrap (s + tm) = s + tm := IntWalk.i64_in _ (by omega)
       have HBi := Lib.hid hBi
       clear hy hyb hBi hBw x0 x2 x3 hc4 hC4
       go_wp2
       go_quiet (fail)
       go_wp2
       clear hwr
       all_goals
        go_roundw
        case rel => exact ⟨q + 1, by omega, by go_num, by rw [HE.out] <;> (congr 1 <;> first | omega | (split <;> omega)), by repeat (first | exact HBi.out | apply pw_below_drewN)⟩
        case measure => simp [intOf]; omega
      ·
       have hqe : q = nd.length := by omega
       have hqq : decide (q < nd.length) = false := decide_eq_false hql
       have hb0 : 0 ≤ baseS g st x := baseN_nonneg _ _ _ _
       have hbs : baseN g st nd q = baseS g st x := by unfold baseS; rw [HND.out, hqe]
       rw [hbs]
       obtain ⟨b, hb⟩ : ∃ b : Nat, baseS g st x = (b : Int) := ⟨(baseS g st x).toNat, by omega⟩
       obtain ⟨p1, p2, p3, p4⟩ := HPL.out
       have hsm := HSM.out
       rw [hb] at p1 p4 ⊢
       have HF := Lib.hid (fun (m : Nat) (hm : m ≤ 1000) (W : World) (hW : Below wo.heap.size wo W) => fits_calls (some ad) c g A1 c1 rm wk (some ⟨w.heap.size, 0, none⟩) g.length st x m HOK.out HSO.out HSL.out HRM.out HXL.out hm W (Kd.C_below HR.out (HX.out.2.trans (hW.mono HX.out.2.size))) (Kd.C_below HR1.out (HX.out.2.trans (hW.mono HX.out.2.size))) (IRow.C (blk_below HX.out.1 hW) (by rw [HSL.out]; omega)))
       rw [HSL.out] at HF
       generalize placeS g rm wk st x = pl at p1 p2 p3 p4 HSTEP
       have HBi := Lib.hid hBi
       have HPP := Lib.hid (And.intro p3 p4)
       have hpl1 : b ≤ pl := by omega
       have hpl2 : pl ≤ 160 := by omega
       clear hb hb0 hbs p1 p2 p3 p4 hBi hBw x0 x2 x3 hc4 hC4 hsm hqe
       go_wp2
       go_loopw [13] (fun n wi => ∃ m : Nat, b ≤ m ∧ m ≤ pl ∧ n = .int .i64 (m : Nat) ∧ Below wo.heap.size wo wi) (fun n _ => pl - (intOf n).toNat)
       case atStart => exact ⟨b, Nat.le_refl _, hpl1, rfl, HBi.out⟩
       case round =>
        clear HBi
        obtain ⟨m, hbm, hmp, rfl, hBi⟩ := hrel
        have HFM := Lib.hid (HF.out m (by omega) wr hBi)
        have HBi := Lib.hid hBi
        clear hBi
        by_cases hme : m < pl
        ·
         have hv : fitB g rm wk st x m = false := HPP.out.2 m (by omega) hme
         rw [hv] at HFM
         have hwm : IntKind.i64.wrap ((m : Int) + 1) = (m : Int) + 1 := IntWalk.i64_in _ (by omega)
         clear hv
         go_wp2_with (go_at_call 56; refine HFM.out.mono ?_; rintro e w4 ⟨rfl, hB4⟩; have HBi := Lib.hid (HBi.out.trans (hB4.mono HBi.out.size)); clear hB4)
         clear hwm
         go_roundw
         case rel => exact ⟨m + 1, by omega, by omega, by go_num, HBi.out⟩
         case measure => simp [intOf]; omega
        ·
         obtain rfl : m = pl := by omega
         rw [HPP.out.1] at HFM
         clear hme
         go_wp2_with (go_at_call 56; refine HFM.out.mono ?_; rintro e w4 ⟨rfl, hB4⟩; have HBi := Lib.hid (HBi.out.trans (hB4.mono HBi.out.size)); clear hB4; have cr := IRow.cell (blk_below HX.out.1 HBi.out) x (by rw [HSL.out]; exact HXL.out); have fr := IRow.frozen (blk_below HX.out.1 HBi.out) x)
         go_roundw
         case rel => exact ⟨j + 1, by omega, by go_num, by rw [HSTEP.out]; exact IRow.set (blk_below HX.out.1 HBi.out) x _, (HX.out.2.trans (HBi.out.mono HX.out.2.size)).setCell (p := ⟨w.heap.size, x, none⟩) (Nat.le_refl _) _⟩
         case measure => simp [intOf]; omega
    ·
     obtain rfl : j = L.length := by omega
     have hjj : decide ((L.length : Int) < (L.length : Int)) = false := decide_eq_false (by omega)
     have HX := Lib.hid (And.intro hI hB)
     clear hI hB
     go_wp2
     go_ret
     have hln : (ordL g rm wk L L.length).length = g.length := (ord_part HOK.out HP.out HO.out L.length (Nat.le_refl _)).len
     have hR := HX.out.1.own (Nat.le_refl _) (by rw [hln]; omega)
     rw [hln] at hR
     exact ⟨_, rfl, hR, HX.out.2⟩
end Go.Proofs.YtkljcdghbefceaaDoor

namespace Go.Proofs.YtkljcdghbefceaaDoor
set_option linter.unusedVariables false
set_option linter.unusedSimpArgs false
open Go.RowKit Go.Shelf Bits
open Go.Proofs.YtkljcdghbefceaaDoorW.PrintWords Go.Proofs.YtkljcdghbefceaaDoorW.PrintLast Go.Proofs.YtkljcdghbefceaaDoorW.PrintMore
attribute [local go_sem] Oper.semAt_some
theorem C_takeI {W : World} {A : Option Addr} {l : List Int} (h : (Kd.int .i64).C W A l.length l) {j : Nat} (hj : j ≤ l.length) : (Kd.int .i64).C W A j (l.take j) := by
 obtain ⟨h1, h2, h3⟩ := h
 have hlen : (l.take j).length = j := by rw [List.length_take]; omega
 refine ⟨hlen, by omega, fun hp => ?_⟩
 obtain ⟨ad, e, hx⟩ := h3 (by omega)
 refine ⟨ad, e, fun k p hk => hx k p ?_⟩
 rw [List.getElem?_take] at hk
 split at hk
 ·
  exact hk
 ·
  cases hk
def ordAt (g : List Tk) (l : List Int) (j : Nat) : Bool := inB (l.getD j 0) 0 ((g.length : Int) - 1) && (!decide (l.getD j 0 ∈ l.take j) && allDoneB (rdTk g (l.getD j 0).toNat).f1 (l.take j))
def isOrdB (g : List Tk) (l : List Int) : Bool := decide (l.length = g.length) && (List.range l.length).all (ordAt g l)
theorem isOrdB_upto {g : List Tk} {l : List Int} {d : Nat} (hl : l.length = g.length) (h : ∀ e, e < d → ordAt g l e = true) : (d = l.length → isOrdB g l = true) ∧ (d < l.length → ordAt g l d = false → isOrdB g l = false) := by
 constructor
 ·
  intro he
  unfold isOrdB
  rw [decide_eq_true hl, Bool.true_and, List.all_eq_true]
  intro e hm
  exact h e (by rw [he]; exact List.mem_range.1 hm)
 ·
  intro hlt hf
  unfold isOrdB
  rw [decide_eq_true hl, Bool.true_and]
  apply Bool.eq_false_iff.2
  intro ha
  have := List.all_eq_true.1 ha d (List.mem_range.2 hlt)
  rw [hf] at this
  cases this
set_option maxRecDepth 100000 in
set_option maxHeartbeats 4000000 in
theorem isOrder_calls (A : Option Addr) (c : Nat) (g : List Tk) (A3 : Option Addr) (c3 : Nat) (l : List Int) (hc : l.length ≤ c3) (w : World) (hr : kTk.C w A g.length g) (hr3 : (Kd.int .i64).C w A3 l.length l) :
  Calls Tryd.prog 36 #[.slice A g.length c, .slice A3 l.length c3] w fun e w' => e = .returned (.bool (isOrdB g l)) ∧ Below w.heap.size w w' := by
 have hgm := (C_len hr).2
 have HR := Lib.hid hr
 have HR3 := Lib.hid hr3
 clear hr hr3
 by_cases hl : l.length = g.length
 ·
  have dl : ((l.length : Int) != (g.length : Int)) = false := by rw [hl]; exact bne_self_eq_false _
  have HUP := Lib.hid (fun d h => isOrdB_upto (d := d) hl h)
  have HL := Lib.hid hl
  have hlm : l.length ≤ 9223372036854775807 := by omega
  clear hl
  go_enter Tryd.func36, Tryd.ntmps36
  go_wp2
  clear dl
  go_loopw [5] (fun i wr => ∃ j : Nat, j ≤ l.length ∧ i = .int .i64 (j : Nat) ∧ Hid (∀ e, e < j → ordAt g l e = true) ∧ Below w.heap.size w wr) (fun i _ => l.length - (intOf i).toNat)
  case atStart => exact ⟨0, Nat.zero_le _, rfl, Lib.hid fun e he => absurd he (Nat.not_lt_zero _), Below.refl _ _⟩
  case round =>
   obtain ⟨j, hj, rfl, HD, hB⟩ := hrel
   by_cases hjl : j < l.length
   ·
    have hjj : decide ((j : Int) < (l.length : Int)) = true := decide_eq_true (by omega)
    have hji : (j : Int) < (l.length : Int) := by omega
    have hjc : j ≤ c3 := by omega
    have hjci : (j : Int) ≤ (c3 : Int) := by omega
    obtain ⟨ad3, rfl, cy⟩ := at_num (Kd.C_below HR3.out hB) j hjl
    have HCL := Lib.hid (Kd.C_below HR3.out hB)
    have HOA : Hid (ordAt g l j = (inB (l.getD j 0) 0 ((g.length : Int) - 1) && (!decide (l.getD j 0 ∈ l.take j) && allDoneB (rdTk g (l.getD j 0).toNat).f1 (l.take j)))) := Lib.hid rfl
    have HNO := Lib.hid ((HUP.out j HD.out).2 hjl)
    have HCT := Lib.hid (fun (W : World) (hW : (Kd.int .i64).C W (some ad3) l.length l) => C_takeI hW (Nat.le_of_lt hjl))
    have HTL : Hid ((l.take j).length = j) := Lib.hid (by rw [List.length_take]; omega)
    have hwn : IntKind.i64.wrap ((g.length : Int) - 1) = (g.length : Int) - 1 := IntWalk.i64_in _ (by omega)
    generalize l.take j = T at HOA HCT HTL
    generalize hy : l.getD j 0 = y at cy HOA
    have HB := Lib.hid hB
    clear hB hy
    cases h1 : inB y 0 ((g.length : Int) - 1) with
    | false =>
     have HF : Hid (isOrdB g l = false) := Lib.hid (HNO.out (by rw [HOA.out, h1]; rfl))
     have H1 := Lib.hid h1
     clear h1
     go_wp2
     go_quiet ((go_at_call 55; exact Calls.quiet_of_same (inRange_is _ _ _ _ H1 _)))
     clear hwn
     go_wp2
     go_ret
     exact ⟨by rw [HF.out]; rfl, pw_below_drewN HB.out nq⟩
    | true =>
     have hin := inB_true.1 h1
     obtain ⟨yn, rfl⟩ := Int.eq_ofNat_of_zero_le hin.1
     have hyg : yn < g.length := by omega
     have hyi : (yn : Int) < (g.length : Int) := by omega
     have H1 := Lib.hid h1
     obtain ⟨ad, A4, c4, rfl, x0, x1, x2, x3, hc4, hC4⟩ := at_Tk (Kd.C_below HR.out HB.out) yn hyg
     have HC4 := Lib.hid hC4
     rw [Int.toNat_natCast] at HOA
     have HIS := Lib.hid (fun (b : Bool) (hb : Hid (decide ((yn : Int) ∈ T) = b)) (W : World) (hW : (Kd.int .i64).C W (some ad3) l.length l) => isIn_is b (some ad3) c3 T (yn : Int) hb W (by rw [HTL.out]; exact HCT.out W hW))
     have HAD := Lib.hid (fun (b : Bool) (hb : Hid (allDoneB (rdTk g yn).f1 T = b)) (W : World) (h4 : (Kd.int .i64).C W A4 (rdTk g yn).f1.length (rdTk g yn).f1) (hW : (Kd.int .i64).C W (some ad3) l.length l) => allDone_is b A4 c4 (rdTk g yn).f1 (some ad3) c3 T hb W h4 (by rw [HTL.out]; exact HCT.out W hW))
     rw [HTL.out] at HIS HAD
     clear h1 hin x0 x2 x3 hc4 hC4
     cases h2 : decide ((yn : Int) ∈ T) with
     | true =>
      have HF : Hid (isOrdB g l = false) := Lib.hid (HNO.out (by rw [HOA.out, h2, Bool.not_true, Bool.false_and, Bool.and_false]))
      have H2 := Lib.hid h2
      clear h2 x1
      go_wp2
      go_quiet (first | (go_at_call 55; exact Calls.quiet_of_same (inRange_is _ _ _ _ H1 _)) | (go_at_call 25; exact Calls.quiet_of_same (HIS.out true H2 _ (Kd.C_drewN HCL.out _))))
      clear hwn
      go_wp2
      go_ret
      exact ⟨by rw [HF.out]; rfl, pw_below_drewN HB.out nq⟩
     | false =>
      have H2 := Lib.hid h2
      cases h3 : allDoneB (rdTk g yn).f1 T with
      | false =>
       have HF : Hid (isOrdB g l = false) := Lib.hid (HNO.out (by rw [HOA.out, h3, Bool.and_false, Bool.and_false]))
       have H3 := Lib.hid h3
       clear h2 h3
       go_wp2
       go_quiet (first | (go_at_call 55; exact Calls.quiet_of_same (inRange_is _ _ _ _ H1 _)) | (go_at_call 25; exact Calls.quiet_of_same (HIS.out false H2 _ (Kd.C_drewN HCL.out _))) | (go_at_call 26; exact Calls.quiet_of_same (HAD.out false H3 _ (Kd.C_drewN HC4.out _) (Kd.C_drewN HCL.out _))))
       clear hwn
       go_wp2
       go_ret
       exact ⟨by rw [HF.out]; rfl, pw_below_drewN HB.out nq⟩
      | true =>
       have HYES : Hid (ordAt g l j = true) := Lib.hid (by rw [HOA.out, H1.out, h2, h3]; rfl)
       have H3 := Lib.hid h3
       clear h2 h3
       go_wp2
       go_quiet (first | (go_at_call 55; exact Calls.quiet_of_same (inRange_is _ _ _ _ H1 _)) | (go_at_call 25; exact Calls.quiet_of_same (HIS.out false H2 _ (Kd.C_drewN HCL.out _))) | (go_at_call 26; exact Calls.quiet_of_same (HAD.out true H3 _ (Kd.C_drewN HC4.out _) (Kd.C_drewN HCL.out _))))
       clear hwn
       go_wp2
       go_roundw
       case rel => exact ⟨j + 1, by omega, by go_num, Lib.hid (fun e he => by
        by_cases h : e = j
        ·
         rw [h]; exact HYES.out
        ·
         exact HD.out e (by omega)), pw_below_drewN HB.out nq⟩
       case measure => simp [intOf]; omega
   ·
    have hje : j = l.length := by omega
    have hjj : decide ((j : Int) < (l.length : Int)) = false := decide_eq_false (by omega)
    have HF : Hid (isOrdB g l = true) := Lib.hid ((HUP.out j HD.out).1 hje)
    clear hje
    go_wp2
    go_ret
    exact ⟨by rw [HF.out]; rfl, hB⟩
 ·
  have dl : ((l.length : Int) != (g.length : Int)) = true := by rw [bne_iff_ne]; omega
  have HF : Hid (isOrdB g l = false) := Lib.hid (by unfold isOrdB; rw [decide_eq_false hl]; rfl)
  clear hl
  go_enter Tryd.func36, Tryd.ntmps36
  go_wp2
  go_ret
  exact ⟨by rw [HF.out]; rfl, Below.refl _ _⟩
end Go.Proofs.YtkljcdghbefceaaDoor

namespace Go.Proofs.YtkljcdghbefceaaDoor
set_option linter.unusedVariables false
set_option linter.unusedSimpArgs false
open Go.RowKit Go.Shelf Bits
theorem runs_of {g : List Tk} {rm : List Int} {wk : Int} {l : List Nat} {st0 st : List Int} {p : Nat} (hok : TOk g) (hP : Part g rm wk l st0) (hag : ∀ k ∈ l, st.getD k 0 = st0.getD k 0) (hpl : p < 2 ^ g.length) (hm : ∀ k, p.testBit k = decide (k ∈ l)) {t : Int} (ht : t < 200) : (elems p).filter (runB g st t) = runS g st0 t := by
 have h8 := hok.1
 rw [elems_eq (n := g.length) (by omega) hpl _ (fun _ _ => rfl)]
 unfold runS
 rw [List.filter_filter]
 refine List.filter_congr fun k hk => ?_
 have hk := List.mem_range.1 hk
 rw [hm]
 by_cases hkl : k ∈ l
 ·
  rw [decide_eq_true hkl, Bool.and_true]
  unfold runB
  rw [hag k hkl]
 ·
  rw [decide_eq_false hkl, Bool.and_false]
  symm
  cases hb : runB g st0 t k with
  | false => rfl
  | true =>
   have h1 := runB_iff.1 hb
   have h2 := hP.no k hk hkl
   omega
theorem canT_eq {g : List Tk} {rm : List Int} {wk : Int} {l : List Nat} {st0 st : List Int} {p : Nat} (hok : TOk g) (hP : Part g rm wk l st0) (hag : ∀ k ∈ l, st.getD k 0 = st0.getD k 0) (hpl : p < 2 ^ g.length) (hm : ∀ k, p.testBit k = decide (k ∈ l)) {t : Int} (ht : t < 200) (i : Nat) : canT g rm wk p st i t = fitAt g rm wk st0 i t := by
 unfold canT fitAt
 rw [runs_of hok hP hag hpl hm ht]
 have h := (hok.2.2.1 i).1
 show (decide (((runS g st0 t).length : Int) < wk) && decide (usedS g (runS g st0 t) (((rdTk g i).f2.toNat : Nat) : Int) + (rdTk g i).f3 ≤ rm.getD (rdTk g i).f2.toNat 0)) = _
 rw [Int.toNat_of_nonneg h]
theorem fitI_eq {g : List Tk} {rm : List Int} {wk : Int} {l : List Nat} {st0 st : List Int} {p : Nat} (hok : TOk g) (hP : Part g rm wk l st0) (hag : ∀ k ∈ l, st.getD k 0 = st0.getD k 0) (hpl : p < 2 ^ g.length) (hm : ∀ k, p.testBit k = decide (k ∈ l)) {m : Nat} (ht : m ≤ 180) (i : Nat) : fitI g rm wk p st i m = fitB g rm wk st0 i m := by
 have h20 := hok.2.1 i
 unfold fitI fitB
 rw [Bool.eq_iff_iff, List.all_eq_true, List.all_eq_true]
 constructor
 ·
  intro h d hd
  have := h d hd
  have hd := List.mem_range.1 hd
  rwa [canT_eq hok hP hag hpl hm (by omega)] at this
 ·
  intro h d hd
  have := h d hd
  have hd := List.mem_range.1 hd
  rwa [canT_eq hok hP hag hpl hm (by omega)]
theorem earl_place {g : List Tk} {ns : List Nat} {rm : List Int} {wk : Int} {l : List Nat} {st0 st : List Int} {p i : Nat} (hgr : graphN g = some ns) (hv : specValid g = true) (hp : placeB rm wk = true) (hP : Part g rm wk l st0) (hn : l.Nodup) (hag : ∀ k ∈ l, st.getD k 0 = st0.getD k 0) (hpl : p < 2 ^ g.length) (hm : ∀ k, p.testBit k = decide (k ∈ l)) (hi : i < g.length) (hned : ∀ x ∈ (rdTk g i).f1, x.toNat ∈ l) :
  ∃ b : Nat, bF g st (elems (ns.getD i 0)) = (b : Int) ∧ b ≤ placeS g rm wk st0 i ∧ placeS g rm wk st0 i ≤ 160 ∧ fitI g rm wk p st i (placeS g rm wk st0 i) = true ∧ ∀ k, b ≤ k → k < placeS g rm wk st0 i → fitI g rm wk p st i k = false := by
 have hok := specValid_TOk hv
 have hsm := hP.small hok hn
 obtain ⟨p1, p2, p3, p4⟩ := hP.place hok hp hn hned
 obtain ⟨f1, f2, f3⟩ := bF_from (g := g) (st := st) (elems (ns.getD i 0)) 0
 have hb0 : 0 ≤ baseS g st0 i := baseN_nonneg _ _ _ _
 have he : bF g st (elems (ns.getD i 0)) = baseS g st0 i := by
  have h1 : bF g st (elems (ns.getD i 0)) ≤ baseS g st0 i := f3 _ hb0 (fun k hk => by
   have hb := elems_bit hk
   rw [need_bit hgr hi] at hb
   have hx := of_decide_eq_true hb
   have h1 := baseS_ge (st := st0) hx
   rw [Int.toNat_natCast] at h1
   have h2 := hned _ hx
   rw [Int.toNat_natCast] at h2
   rw [hag k h2]
   exact h1)
  have h2 : baseS g st0 i ≤ bF g st (elems (ns.getD i 0)) := baseN_le f1 _ (Nat.le_refl _) (fun x hx => by
   have hin := spec_needs_in hv i hi x hx
   have h3 := hned x hx
   rw [← hag _ h3]
   refine f2 _ ?_
   rw [mem_elems, need_bit hgr hi]
   refine ⟨by have := hok.1; omega, decide_eq_true ?_⟩
   rw [Int.toNat_of_nonneg hin.1]
   exact hx)
  omega
 refine ⟨(baseS g st0 i).toNat, by omega, by omega, by omega, ?_, fun k h1 h2 => ?_⟩
 ·
  rw [fitI_eq hok hP hag hpl hm (by omega)]
  exact p3
 ·
  rw [fitI_eq hok hP hag hpl hm (by omega)]
  exact p4 k (by omega) h2
def nats (l : List Int) : List Nat := l.map Int.toNat
theorem nats_len (l : List Int) : (nats l).length = l.length := by simp [nats]
theorem nats_getD (l : List Int) (j : Nat) : (nats l).getD j 0 = (l.getD j 0).toNat := by
 unfold nats
 rw [List.getD_eq_getElem?_getD, List.getD_eq_getElem?_getD, List.getElem?_map]
 cases l[j]? <;> rfl
theorem ordAt_in {g : List Tk} {l : List Int} {j : Nat} (h : ordAt g l j = true) : 0 ≤ l.getD j 0 ∧ l.getD j 0 ≤ (g.length : Int) - 1 ∧ ¬ l.getD j 0 ∈ l.take j ∧ allDoneB (rdTk g (l.getD j 0).toNat).f1 (l.take j) = true := by
 unfold ordAt at h
 rw [Bool.and_eq_true, Bool.and_eq_true] at h
 have h1 := inB_true.1 h.1
 refine ⟨h1.1, h1.2, fun hm => ?_, h.2.2⟩
 have := h.2.1
 rw [decide_eq_true hm] at this
 cases this
theorem mem_takeD {l : List Int} {j : Nat} {x : Int} (h : x ∈ l.take j) : ∃ q, q < j ∧ q < l.length ∧ l.getD q 0 = x := by
 obtain ⟨q, hq, e⟩ := List.getElem_of_mem h
 rw [List.length_take] at hq
 rw [List.getElem_take] at e
 exact ⟨q, by omega, by omega, by rw [List.getD_eq_getElem?_getD, List.getElem?_eq_getElem (by omega)]; exact e⟩
def pset (l : List Int) (j : Nat) : Nat := putB 0 (nats (l.take j))
theorem pset_zero (l : List Int) : pset l 0 = 0 := by simp [pset, nats, putB]
theorem pset_succ {l : List Int} {j : Nat} (h : j < l.length) : pset l (j + 1) = pset l j ||| 2 ^ (l.getD j 0).toNat := by
 unfold pset
 rw [List.take_succ_eq_append_getElem h]
 unfold nats
 rw [List.map_append, List.map_cons, List.map_nil, putB_snoc, List.getD_eq_getElem?_getD, List.getElem?_eq_getElem h]
 rfl
theorem pset_fact {g : List Tk} {l : List Int} {j : Nat} (h : ∀ e, e < j → ordAt g l e = true) (hj : j ≤ l.length) : (∀ k : Nat, (pset l j).testBit k = decide ((k : Int) ∈ l.take j)) ∧ pset l j < 2 ^ g.length := by
 have hin : ∀ x ∈ l.take j, 0 ≤ x ∧ x ≤ (g.length : Int) - 1 := fun x hx => by
  obtain ⟨q, hq, _, e⟩ := mem_takeD hx
  have := ordAt_in (h q hq)
  rw [e] at this
  exact ⟨this.1, this.2.1⟩
 constructor
 ·
  intro k
  unfold pset
  rw [putB_bit, Nat.zero_testBit, Bool.false_or, decide_eq_decide]
  unfold nats
  rw [List.mem_map]
  constructor
  ·
   rintro ⟨x, hx, e⟩
   have := hin x hx
   rw [show (k : Int) = x by omega]
   exact hx
  ·
   intro hx
   exact ⟨_, hx, Int.toNat_natCast k⟩
 ·
  unfold pset
  refine putB_lt _ (Nat.two_pow_pos _) (fun k hk => ?_)
  unfold nats at hk
  obtain ⟨x, hx, e⟩ := List.mem_map.1 hk
  have := hin x hx
  omega
theorem isOrdB_ord {g : List Tk} {l : List Int} (h : isOrdB g l = true) : IsOrd g (nats l) ∧ ints (nats l) = l := by
 unfold isOrdB at h
 rw [Bool.and_eq_true, decide_eq_true_iff, List.all_eq_true] at h
 obtain ⟨hl, ha⟩ := h
 have hat : ∀ j, j < l.length → ordAt g l j = true := fun j hj => ha j (List.mem_range.2 hj)
 have hin : ∀ x ∈ l, 0 ≤ x ∧ x ≤ (g.length : Int) - 1 := fun x hx => by
  rw [← List.take_length (l := l)] at hx
  obtain ⟨q, _, hq, e⟩ := mem_takeD hx
  have := ordAt_in (hat q hq)
  rw [e] at this
  exact ⟨this.1, this.2.1⟩
 refine ⟨⟨by rw [nats_len, hl], fun i hi => ?_, ?_, fun j hj x hx => ?_⟩, ?_⟩
 ·
  obtain ⟨x, hx, e⟩ := List.mem_map.1 hi
  have := hin x hx
  omega
 ·
  unfold List.Nodup
  rw [List.pairwise_iff_getElem]
  intro a b ha hb hab e
  rw [nats_len] at ha hb
  have h1 := (ordAt_in (hat b hb)).2.2.1
  have h2 : l.getD b 0 = l[b] := by rw [List.getD_eq_getElem?_getD, List.getElem?_eq_getElem hb]; rfl
  have e2 : l[a].toNat = l[b].toNat := by
   have k : ∀ (q : Nat) (hq : q < (nats l).length) (hq2 : q < l.length), (nats l)[q] = (l[q]).toNat := fun q hq hq2 => List.getElem_map ..
   rw [k a _ ha, k b _ hb] at e
   exact e
  have k1 := hin l[a] (List.getElem_mem _)
  have k2 := hin l[b] (List.getElem_mem _)
  refine h1 ?_
  rw [h2, show l[b] = l[a] by omega]
  exact List.mem_of_getElem (i := a) (h := by rw [List.length_take]; omega) (List.getElem_take ..)
 ·
  rw [nats_len] at hj
  rw [nats_getD] at hx
  have h1 := (ordAt_in (hat j hj)).2.2.2
  unfold allDoneB at h1
  rw [List.all_eq_true] at h1
  have h2 := of_decide_eq_true (h1 x hx)
  unfold nats
  rw [← List.map_take]
  exact List.mem_map_of_mem h2
 ·
  unfold ints nats
  rw [List.map_map]
  conv => rhs; rw [← List.map_id l]
  refine List.map_congr_left fun x hx => ?_
  have := hin x hx
  show ((x.toNat : Nat) : Int) = x
  omega
def iordL (g : List Tk) (rm : List Int) (wk : Int) (l : List Nat) : Nat → List Int
 | 0 => List.replicate g.length 0
 | j + 1 => (iordL g rm wk l j).set (l.getD j 0) (placeS g rm wk (ordL g rm wk l j) (l.getD j 0) : Nat)
theorem iordL_len (g : List Tk) (rm : List Int) (wk : Int) (l : List Nat) : ∀ j, (iordL g rm wk l j).length = g.length
 | 0 => List.length_replicate
 | j + 1 => by
  show (List.set _ _ _).length = _
  rw [List.length_set]
  exact iordL_len g rm wk l j
theorem iordL_agree {g : List Tk} {rm : List Int} {wk : Int} {l : List Nat} (hok : TOk g) (hp : placeB rm wk = true) (h : IsOrd g l) : ∀ j, j ≤ l.length → (∀ k ∈ l.take j, (iordL g rm wk l j).getD k 0 = (ordL g rm wk l j).getD k 0) ∧ ∀ k, 0 ≤ (iordL g rm wk l j).getD k 0 ∧ (iordL g rm wk l j).getD k 0 ≤ 160
 | 0, _ => ⟨fun k hk => absurd hk (by simp), fun k => by
  show 0 ≤ (List.replicate g.length (0 : Int)).getD k 0 ∧ _
  rw [show (iordL g rm wk l 0) = List.replicate g.length (0 : Int) from rfl, List.getD_eq_getElem?_getD, List.getElem?_replicate]
  split <;> simp⟩
 | j + 1, hj => by
  obtain ⟨ih, ib⟩ := iordL_agree hok hp h j (by omega)
  have hP := ord_part hok hp h j (by omega)
  have hn := nodup_take h.nd (show j < l.length by omega)
  have hned := h.ned j (by omega)
  have hx := h.lt _ (getD_mem (show j < l.length by omega))
  have hpl := hP.place hok hp hn.1 hned
  have hsm := hP.small hok hn.1
  have hil := iordL_len g rm wk l j
  rw [take_snocN (by omega)]
  show (∀ k ∈ l.take j ++ [l.getD j 0], ((iordL g rm wk l j).set (l.getD j 0) (placeS g rm wk (ordL g rm wk l j) (l.getD j 0) : Nat)).getD k 0 = ((ordL g rm wk l j).set (l.getD j 0) (placeS g rm wk (ordL g rm wk l j) (l.getD j 0) : Nat)).getD k 0) ∧ ∀ k, 0 ≤ ((iordL g rm wk l j).set (l.getD j 0) (placeS g rm wk (ordL g rm wk l j) (l.getD j 0) : Nat)).getD k 0 ∧ ((iordL g rm wk l j).set (l.getD j 0) (placeS g rm wk (ordL g rm wk l j) (l.getD j 0) : Nat)).getD k 0 ≤ 160
  constructor
  ·
   intro k hk
   rw [getD_setL, getD_setL, hil, hP.len]
   by_cases e : k = l.getD j 0
   ·
    rw [if_pos ⟨e, hx⟩, if_pos ⟨e, hx⟩]
   ·
    rw [if_neg (fun h => e h.1), if_neg (fun h => e h.1)]
    rcases List.mem_append.1 hk with hk | hk
    ·
     exact ih k hk
    ·
     exact absurd (List.mem_singleton.1 hk) e
  ·
   intro k
   rw [getD_setL]
   split
   ·
    omega
   ·
    exact ib k
theorem iordL_end {g : List Tk} {rm : List Int} {wk : Int} {l : List Nat} (hok : TOk g) (hp : placeB rm wk = true) (h : IsOrd g l) : iordL g rm wk l l.length = ordL g rm wk l l.length := by
 have h1 := (iordL_agree hok hp h l.length (Nat.le_refl _)).1
 have h2 := (ord_part hok hp h l.length (Nat.le_refl _)).len
 have h3 := iordL_len g rm wk l l.length
 rw [List.take_length] at h1
 refine List.ext_getElem (by omega) (fun k k1 k2 => ?_)
 have := h1 k (ord_all h (by omega))
 rwa [List.getD_eq_getElem?_getD, List.getD_eq_getElem?_getD, List.getElem?_eq_getElem k1, List.getElem?_eq_getElem k2] at this
def seaB (g : List Tk) (rm : List Int) (wk : Int) : Bool := specValid g && (decide (g.length ≤ 5) && placeB rm wk)
def osN (g : List Tk) (rm : List Int) (wk : Int) (l : List Int) : List Int := if seaB g rm wk && isOrdB g l then ordL g rm wk (nats l) l.length else []
theorem seaB_facts {g : List Tk} {rm : List Int} {wk : Int} (h : seaB g rm wk = true) : specValid g = true ∧ g.length ≤ 5 ∧ placeB rm wk = true := by
 unfold seaB at h
 rw [Bool.and_eq_true, Bool.and_eq_true, decide_eq_true_iff] at h
 exact ⟨h.1, h.2.1, h.2.2⟩
theorem osN_yes {g : List Tk} {rm : List Int} {wk : Int} {l : List Int} (h : osN g rm wk l ≠ []) : seaB g rm wk = true ∧ isOrdB g l = true ∧ osN g rm wk l = ordL g rm wk (nats l) l.length ∧ 0 < g.length := by
 unfold osN at h ⊢
 by_cases hc : (seaB g rm wk && isOrdB g l) = true
 ·
  rw [if_pos hc] at h ⊢
  rw [Bool.and_eq_true] at hc
  obtain ⟨h1, _, h3⟩ := seaB_facts hc.1
  have hO := (isOrdB_ord hc.2).1
  have hP := ord_part (specValid_TOk h1) h3 hO (nats l).length (Nat.le_refl _)
  rw [nats_len] at hP
  refine ⟨hc.1, hc.2, rfl, ?_⟩
  rw [← hP.len]
  exact List.length_pos_iff.2 h
 ·
  rw [if_neg hc] at h
  exact absurd rfl h
end Go.Proofs.YtkljcdghbefceaaDoor

namespace Go.Proofs.YtkljcdghbefceaaDoor
set_option linter.unusedVariables false
set_option linter.unusedSimpArgs false
open Go.RowKit Go.Shelf Bits
open Go.Proofs.YtkljcdghbefceaaDoorW.PrintWords Go.Proofs.YtkljcdghbefceaaDoorW.PrintLast Go.Proofs.YtkljcdghbefceaaDoorW.PrintMore
attribute [local go_sem] Oper.semAt_some
set_option maxRecDepth 100000 in
theorem fewIn_yes (A : Option Addr) (c : Nat) (g : List Tk) (ns : List Nat) (A1 : Option Addr) (c1 : Nat) (rm : List Int) (wk : Int) (hp : placeB rm wk = true) (h5 : g.length ≤ 5) (w : World) (hr : kTk.C w A g.length g) (hT : Tab w) (hg : graphN g = some ns) (hr1 : (Kd.int .i64).C w A1 rm.length rm) :
  Calls Tryd.prog 29 #[.slice A g.length c, .slice A1 rm.length c1, .int .i64 wk] w fun e w' => ∃ C, e = .returned (.tuple #[.pointer (some ⟨C, 0, none⟩), .bool true]) ∧ IsGraph w' C g ns ∧ Below w.heap.size w w' := by
 have HP := Lib.hid (placeIn_yes A c g ns A1 c1 rm wk hp w hr hT hg hr1)
 have d5 : decide ((g.length : Int) > 5) = false := decide_eq_false (by omega)
 have d5' : decide ((5 : Int) < (g.length : Int)) = false := decide_eq_false (by omega)
 clear hr hT hg hr1 hp h5
 go_enter Tryd.func29, Tryd.ntmps29
 go_wp2_with (go_at_call 38; refine HP.out.mono ?_; rintro e w2 ⟨C, rfl, hI, hB⟩; have HI := Lib.hid (And.intro hI hB); clear hI hB)
 go_ret2
 exact ⟨C, rfl, HI.out.1, HI.out.2⟩
set_option maxRecDepth 100000 in
theorem fewIn_no (A : Option Addr) (c : Nat) (g : List Tk) (A1 : Option Addr) (c1 : Nat) (rm : List Int) (wk : Int) (hn : seaB g rm wk = false) (w : World) (hr : kTk.C w A g.length g) (hT : Tab w) (hr1 : (Kd.int .i64).C w A1 rm.length rm) :
  Calls Tryd.prog 29 #[.slice A g.length c, .slice A1 rm.length c1, .int .i64 wk] w fun e w' => e = .returned (.tuple #[.pointer none, .bool false]) ∧ Below w.heap.size w w' := by
 by_cases h5 : g.length ≤ 5
 ·
  have HP := Lib.hid (placeIn_no A c g A1 c1 rm wk (fun ns hg => by
   unfold seaB at hn
   rw [specValid_eq, hg, decide_eq_true h5, Bool.true_and] at hn
   simpa using hn) w hr hT hr1)
  have d5 : decide ((g.length : Int) > 5) = false := decide_eq_false (by omega)
  have d5' : decide ((5 : Int) < (g.length : Int)) = false := decide_eq_false (by omega)
  clear hr hT hr1 hn h5
  go_enter Tryd.func29, Tryd.ntmps29
  go_wp2_with (go_at_call 38; refine HP.out.mono ?_; rintro e w2 ⟨rfl, hB⟩; have HI := Lib.hid hB; clear hB)
  go_ret2
  exact ⟨rfl, HI.out⟩
 ·
  have d5 : decide ((g.length : Int) > 5) = true := decide_eq_true (by omega)
  have d5' : decide ((5 : Int) < (g.length : Int)) = true := decide_eq_true (by omega)
  clear hr hT hr1 hn h5
  go_enter Tryd.func29, Tryd.ntmps29
  go_wp2
  go_ret2
  exact ⟨rfl, Below.refl _ _⟩
theorem R_nilO (w : World) (base : Nat) : Kd.R (Kd.int .i64) 3 w base (fun _ => True) (.slice none 0 0) [] := Kd.R_of_own ⟨by simp [encs], .inl ⟨rfl, by simp [encs]⟩⟩ (fun _ _ => trivial)
set_option maxRecDepth 100000 in
set_option maxHeartbeats 4000000 in
theorem OrderStarts_impl (A : Option Addr) (c : Nat) (g : List Tk) (A1 : Option Addr) (c1 : Nat) (rm : List Int) (wk : Int) (A3 : Option Addr) (c3 : Nat) (lst : List Int) (w : World) (hr : kTk.C w A g.length g) (hr1 : (Kd.int .i64).C w A1 rm.length rm) (hr3 : (Kd.int .i64).C w A3 lst.length lst) (hT : Tab w) :
  Calls Tryd.prog 9 #[.slice A g.length c, .slice A1 rm.length c1, .int .i64 wk, .slice A3 lst.length c3] w fun e w' => ∃ v, e = .returned v ∧ Kd.R (Kd.int .i64) 3 w' w.heap.size (fun _ => True) v (osN g rm wk lst) ∧ Below w.heap.size w w' := by
 cases hse : seaB g rm wk with
 | false =>
  have HF : Hid (osN g rm wk lst = []) := Lib.hid (by unfold osN; rw [hse]; rfl)
  have HP := Lib.hid (fewIn_no A c g A1 c1 rm wk hse w hr hT hr1)
  clear hse hr hT hr1 hr3
  go_enter Tryd.func9, Tryd.ntmps9
  go_wp2_with (go_at_call 29; refine HP.out.mono ?_; rintro e w1 ⟨rfl, hB1⟩; have HB1 := Lib.hid hB1; clear hB1)
  go_ret
  exact ⟨_, rfl, by rw [HF.out]; exact R_nilO _ _, HB1.out⟩
 | true =>
  obtain ⟨hv, h5, hp⟩ := seaB_facts hse
  obtain ⟨ns, hg⟩ := graphN_yes hv
  have HP := Lib.hid (fewIn_yes A c g ns A1 c1 rm wk hp h5 w hr hT hg hr1)
  have hmk := run_makeI g.length (by omega)
  have HNL := Lib.hid (graphN_all hg).2.1
  have HOK := Lib.hid (specValid_TOk hv)
  have HV := Lib.hid hv
  have HPB := Lib.hid hp
  have HGR := Lib.hid hg
  have HRM := Lib.hid (roomB_facts (placeB_facts hp).1).1
  have HR1 := Lib.hid hr1
  have HR3 := Lib.hid hr3
  have HT := Lib.hid hT
  have htl := hT.lt
  have HNU := Lib.hid (graphN_need_u16 hg)
  have HNI := Lib.hid (fun l s hs i hi => needs_in hg (l := l) (s := s) hs (i := i) hi)
  by_cases h4 : lst.length = g.length
  ·
   have d4 : ((lst.length : Int) != (g.length : Int)) = false := by rw [bne_eq_false_iff_eq]; omega
   have HL := Lib.hid h4
   have HUP := Lib.hid (fun d h => isOrdB_upto (d := d) h4 h)
   have HOS : Hid (osN g rm wk lst = if isOrdB g lst then ordL g rm wk (nats lst) lst.length else []) := Lib.hid (by unfold osN; rw [hse, Bool.true_and])
   have hl5 : lst.length ≤ 5 := by omega
   have hwn : IntKind.i64.wrap ((g.length : Int) - 1) = (g.length : Int) - 1 := IntWalk.i64_in _ (by omega)
   clear hr hr1 hr3 hT hv hp hg h4 hse
   go_enter Tryd.func9, Tryd.ntmps9
   go_wp2_with (first | (go_at_call 29; refine HP.out.mono ?_; rintro e w1 ⟨C, rfl, hG1, hB1⟩; have HG1 := Lib.hid hG1; have HB1 := Lib.hid hB1; clear hG1 hB1) | (go_at_call 30; refine (size_calls _ C g ns HG1.out).mono ?_; rintro e w' ⟨rfl, hw⟩; have hw2 := hw.symm; subst hw2; clear hw))
   clear hmk
   have hI0 : IRow (w1.alloc (.cells (zeroI g.length) 3)) w1.heap.size (iordL g rm wk (nats lst) 0) := World.alloc_heap_new w1 _
   have hB0 : Below w1.heap.size w1 (w1.alloc (.cells (zeroI g.length) 3)) := (Below.refl _ _).alloc (Nat.le_refl _) _
   obtain ⟨W2, hW2⟩ : ∃ W2, W2 = w1.alloc (.cells (zeroI g.length) 3) := ⟨_, rfl⟩
   rw [← hW2] at hI0 hB0 ⊢
   clear hW2
   have HG2 := Lib.hid (HG1.out.below hB0)
   have hBw2 := HB1.out.trans (hB0.mono HB1.out.size)
   have HR32 := Lib.hid (Kd.C_below HR3.out hBw2)
   have HBw2 := Lib.hid hBw2
   have HIB := Lib.hid (And.intro hI0 hB0)
   clear hI0 hB0 hBw2
   go_loop [12, 38] (fun p k => ∃ j : Nat, j ≤ lst.length ∧ k = .int .i64 (j : Nat) ∧ p = .int .u16 (pset lst j : Nat) ∧ Hid (∀ e, e < j → ordAt g lst e = true)) (fun _ k => lst.length - (intOf k).toNat)
   case atStart => exact ⟨0, Nat.zero_le _, rfl, by rw [pset_zero]; rfl, Lib.hid fun e he => absurd he (Nat.not_lt_zero _)⟩
   case round =>
    obtain ⟨j, hj, rfl, rfl, HD⟩ := hrel
    by_cases hjl : j < lst.length
    ·
     have hjj : decide ((j : Int) < (lst.length : Int)) = true := decide_eq_true (by omega)
     have hji : (j : Int) < (lst.length : Int) := by omega
     obtain ⟨ad3, rfl, cy⟩ := at_num HR32.out j hjl
     have HNO := Lib.hid ((HUP.out j HD.out).2 hjl)
     obtain ⟨hbit, hplt⟩ := pset_fact HD.out hj
     have hp16 : pset lst j < 65536 := Nat.lt_of_lt_of_le hplt (Nat.le_trans (Nat.pow_le_pow_right (by omega) h5) (by decide))
     have HOA : Hid (ordAt g lst j = (inB (lst.getD j 0) 0 ((g.length : Int) - 1) && (!decide (lst.getD j 0 ∈ lst.take j) && allDoneB (rdTk g (lst.getD j 0).toNat).f1 (lst.take j)))) := Lib.hid rfl
     have HPS := Lib.hid (pset_succ hjl)
     have HBIT := Lib.hid hbit
     clear hbit hplt
     generalize lst.take j = T at HOA HBIT
     generalize lst.getD j 0 = y at cy HOA HPS
     generalize pset lst j = ps at hp16 HPS HBIT
     cases h1 : inB y 0 ((g.length : Int) - 1) with
     | false =>
      have HF : Hid (osN g rm wk lst = []) := Lib.hid (by rw [HOS.out, HNO.out (by rw [HOA.out, h1]; rfl)]; rfl)
      have H1 := Lib.hid h1
      clear h1
      go_wp2_with (first | (go_at_call 30; refine (size_calls _ C g ns HG2.out).mono ?_; rintro e w' ⟨rfl, rfl⟩) | (go_at_call 31; refine (within_is _ _ _ _ H1 _).mono ?_; rintro e w' ⟨rfl, rfl⟩))
      go_ret
      exact ⟨_, rfl, by rw [HF.out]; exact R_nilO _ _, HBw2.out⟩
     | true =>
      have hin := inB_true.1 h1
      obtain ⟨yn, rfl⟩ := Int.eq_ofNat_of_zero_le hin.1
      have hyg : yn < g.length := by omega
      have hy16 : yn < 16 := by omega
      have hyi : (yn : Int) < (g.length : Int) := by omega
      have H1 := Lib.hid h1
      rw [Int.toNat_natCast] at HOA HPS
      have hbit := HBIT.out yn
      have HND := Lib.hid (HNI.out T ps HBIT.out yn hyg)
      cases h2 : ps.testBit yn with
      | true =>
       rw [h2] at hbit
       have HF : Hid (osN g rm wk lst = []) := Lib.hid (by rw [HOS.out, HNO.out (by rw [HOA.out, ← hbit]; simp)]; rfl)
       have HH := Lib.hid (fun W => has_calls ps yn hp16 hy16 W)
       rw [h2] at HH
       clear h1 hin h2 hbit
       go_wp2_with (first | (go_at_call 30; refine (size_calls _ C g ns HG2.out).mono ?_; rintro e w' ⟨rfl, rfl⟩) | (go_at_call 31; refine (within_is _ _ _ _ H1 _).mono ?_; rintro e w' ⟨rfl, rfl⟩) | (go_at_call 32; refine (HH.out _).mono ?_; rintro e w' ⟨rfl, rfl⟩))
       go_ret
       exact ⟨_, rfl, by rw [HF.out]; exact R_nilO _ _, HBw2.out⟩
      | false =>
       rw [h2] at hbit
       have HH := Lib.hid (fun W => has_calls ps yn hp16 hy16 W)
       rw [h2] at HH
       have HOA2 : Hid (ordAt g lst j = allDoneB (rdTk g yn).f1 T) := Lib.hid (by rw [HOA.out, H1.out, ← hbit]; simp)
       have hn16 := HNU.out yn
       obtain ⟨Ag, cg, An, cn, Ao, co, vb, va, k1, k2, k3, _⟩ := HG2.out
       have cN := blk_cell k1 1
       simp at cN
       obtain ⟨adn, rfl, cn1⟩ := at_set k3 yn (by rw [HNL.out]; exact hyg)
       rw [HNL.out] at cN
       generalize ns.getD yn 0 = nd at cn1 hn16 HND
       have hbd : bits BinOp.andNot IntKind.u16 (nd : Int) (ps : Int) = ((diff nd ps : Nat) : Int) := bits_andNot_u16 _ _ hn16
       clear h1 hin h2 hbit k1 k2 k3 HOA
       by_cases hdf : diff nd ps = 0
       ·
        have hdz : (((diff nd ps : Nat) : Int) != 0) = false := by rw [hdf]; rfl
        have HYES : Hid (ordAt g lst j = true) := Lib.hid (by rw [HOA2.out, ← HND.out, decide_eq_true hdf])
        clear hdf
        generalize diff nd ps = dd at hbd hdz
        go_wp2_with (first | (go_at_call 30; refine (size_calls _ C g ns HG2.out).mono ?_; rintro e w' ⟨rfl, rfl⟩) | (go_at_call 31; refine (within_is _ _ _ _ H1 _).mono ?_; rintro e w' ⟨rfl, rfl⟩) | (go_at_call 32; refine (HH.out _).mono ?_; rintro e w' ⟨rfl, rfl⟩) | (go_at_call 33; refine (with_calls ps yn hp16 hy16 _).mono ?_; rintro e w' ⟨rfl, rfl⟩))
        go_round
        case rel => exact ⟨j + 1, by omega, by go_num, by rw [HPS.out], Lib.hid (fun e he => (by
         by_cases h : e = j
         ·
          rw [h]; exact HYES.out
         ·
          exact HD.out e (by omega)))⟩
        case measure => simp [intOf]; omega
       ·
        have hdz : (((diff nd ps : Nat) : Int) != 0) = true := bne_iff_ne.2 (by omega)
        have HF : Hid (osN g rm wk lst = []) := Lib.hid (by rw [HOS.out, HNO.out (by rw [HOA2.out, ← HND.out, decide_eq_false hdf])]; rfl)
        clear hdf
        generalize diff nd ps = dd at hbd hdz
        go_wp2_with (first | (go_at_call 30; refine (size_calls _ C g ns HG2.out).mono ?_; rintro e w' ⟨rfl, rfl⟩) | (go_at_call 31; refine (within_is _ _ _ _ H1 _).mono ?_; rintro e w' ⟨rfl, rfl⟩) | (go_at_call 32; refine (HH.out _).mono ?_; rintro e w' ⟨rfl, rfl⟩))
        go_ret
        exact ⟨_, rfl, by rw [HF.out]; exact R_nilO _ _, HBw2.out⟩
    ·
     have hje : j = lst.length := by omega
     have hjj : decide ((j : Int) < (lst.length : Int)) = false := decide_eq_false (by omega)
     have hyes := (HUP.out j HD.out).1 hje
     have HF : Hid (osN g rm wk lst = ordL g rm wk (nats lst) lst.length) := Lib.hid (by rw [HOS.out, hyes]; rfl)
     obtain ⟨hO, _⟩ := isOrdB_ord hyes
     have HAT : Hid (∀ e, e < lst.length → ordAt g lst e = true) := Lib.hid (by rw [← hje]; exact HD.out)
     have HO := Lib.hid hO
     clear hje hyes hO HD hwn
     go_wp2
     obtain ⟨hI0, hB0⟩ := HIB.out
     go_loopw [12, 71] (fun p k wr => ∃ j : Nat, j ≤ lst.length ∧ k = .int .i64 (j : Nat) ∧ p = .int .u16 (pset lst j : Nat) ∧ IRow wr w1.heap.size (iordL g rm wk (nats lst) j) ∧ Below w1.heap.size w1 wr) (fun _ k _ => lst.length - (intOf k).toNat)
     case atStart => exact ⟨0, Nat.zero_le _, rfl, by rw [pset_zero]; rfl, hI0, hB0⟩
     case round =>
      clear hI0 hB0 hj hjl hjj
      obtain ⟨j, hj, rfl, rfl, hI, hB⟩ := hrel
      by_cases hjl : j < lst.length
      ·
       have hjj : decide ((j : Int) < (lst.length : Int)) = true := decide_eq_true (by omega)
       have hji : (j : Int) < (lst.length : Int) := by omega
       have hBw := HB1.out.trans (hB.mono HB1.out.size)
       obtain ⟨ad3, rfl, cy⟩ := at_num (Kd.C_below HR3.out hBw) j hjl
       obtain ⟨hbit, hplt⟩ := pset_fact (l := lst) (fun e he => HAT.out e (by omega)) hj
       have hp16 : pset lst j < 65536 := Nat.lt_of_lt_of_le hplt (Nat.le_trans (Nat.pow_le_pow_right (by omega) h5) (by decide))
       have hat := ordAt_in (HAT.out j hjl)
       obtain ⟨yn, hyn⟩ : ∃ yn : Nat, lst.getD j 0 = (yn : Int) := ⟨(lst.getD j 0).toNat, by omega⟩
       have hng : (nats lst).getD j 0 = yn := by rw [nats_getD, hyn, Int.toNat_natCast]
       have hyg : yn < g.length := by omega
       have hy16 : yn < 16 := by omega
       have hyi : (yn : Int) < (g.length : Int) := by omega
       have hjn : j < (nats lst).length := by rw [nats_len]; exact hjl
       have hP := ord_part HOK.out HPB.out HO.out j (by omega)
       have hn := nodup_take HO.out.nd hjn
       have hned := HO.out.ned j hjn
       have hag := iordL_agree HOK.out HPB.out HO.out j (by omega)
       have hil := iordL_len g rm wk (nats lst) j
       rw [hng] at hned
       obtain ⟨b, q1, q2, q3, q4, q5⟩ := earl_place (i := yn) HGR.out HV.out HPB.out hP hn.1 hag.1 hplt (fun k => (hbit k).trans (by
        rw [decide_eq_decide]
        unfold nats
        rw [← List.map_take, List.mem_map]
        constructor
        ·
         intro hk
         exact ⟨_, hk, Int.toNat_natCast k⟩
        ·
         rintro ⟨x, hx, e⟩
         obtain ⟨q, hq, _, e2⟩ := mem_takeD hx
         have := ordAt_in (HAT.out q (by omega))
         rw [e2] at this
         rw [show (k : Int) = x by omega]
         exact hx)) hyg hned
       have HSTEP : Hid (iordL g rm wk (nats lst) (j + 1) = (iordL g rm wk (nats lst) j).set yn (placeS g rm wk (ordL g rm wk (nats lst) j) yn : Nat)) := Lib.hid (by
        show (iordL g rm wk (nats lst) j).set ((nats lst).getD j 0) (placeS g rm wk (ordL g rm wk (nats lst) j) ((nats lst).getD j 0) : Nat) = _
        rw [hng])
       have HPS := Lib.hid (pset_succ hjl)
       rw [hyn] at cy HPS
       rw [Int.toNat_natCast] at HPS
       generalize placeS g rm wk (ordL g rm wk (nats lst) j) yn = r at q2 q3 q4 q5 HSTEP
       generalize iordL g rm wk (nats lst) j = st at hI hag hil q4 q5 q1 HSTEP
       have HE := Lib.hid (earl_calls C g ns (some ⟨w1.heap.size, 0, none⟩) g.length st (pset lst j) yn A1 c1 rm wk b r HGR.out HOK.out hil (fun i => by have := hag.2 i; omega) hplt hyg HRM.out q1 q2 (by omega) q4 q5 wr (HG1.out.below hB) (HT.out.keep htl hBw) (hI.C (by rw [hil]; omega)) (Kd.C_below HR1.out hBw))
       rw [hil] at HE
       have HX := Lib.hid (And.intro hI hB)
       have HIL := Lib.hid hil
       clear hI hB hBw hbit hplt hat hyn hng hP hn hned hag hil q1 q2 q4 q5 hjn
       generalize pset lst j = ps at hp16 HPS HE
       go_wp2_with (first | (go_at_call 34; refine HE.out.mono ?_; rintro e w4 ⟨rfl, hB4⟩; have HB4 := Lib.hid hB4; clear hB4; have cr := IRow.cell (blk_below HX.out.1 HB4.out) yn (by rw [HIL.out]; exact hyg); have fr := IRow.frozen (blk_below HX.out.1 HB4.out) yn) | (go_at_call 33; refine (with_calls ps yn hp16 hy16 _).mono ?_; rintro e w' ⟨rfl, rfl⟩))
       go_roundw
       case rel => exact ⟨j + 1, by omega, by go_num, by rw [HPS.out], by rw [HSTEP.out]; exact IRow.set (blk_below HX.out.1 HB4.out) yn _, (HX.out.2.trans (HB4.out.mono HX.out.2.size)).setCell (p := ⟨w1.heap.size, yn, none⟩) (Nat.le_refl _) _⟩
       case measure => simp [intOf]; omega
      ·
       obtain rfl : j = lst.length := by omega
       have hjj : decide ((lst.length : Int) < (lst.length : Int)) = false := decide_eq_false (by omega)
       have hend := iordL_end HOK.out HPB.out HO.out
       rw [nats_len] at hend
       have hil := iordL_len g rm wk (nats lst) lst.length
       rw [hend] at hI hil
       have HX := Lib.hid (And.intro hI hB)
       have HIL := Lib.hid hil
       clear hI hB hend hil
       go_wp2
       go_ret
       have hR := HX.out.1.own (base := w.heap.size) HB1.out.size (by rw [HIL.out]; omega)
       rw [HIL.out] at hR
       exact ⟨_, rfl, by rw [HF.out]; exact hR, HB1.out.trans (HX.out.2.mono HB1.out.size)⟩
  ·
   have d4 : ((lst.length : Int) != (g.length : Int)) = true := bne_iff_ne.2 (by omega)
   have HF : Hid (osN g rm wk lst = []) := Lib.hid (by
    unfold osN isOrdB
    rw [hse, decide_eq_false h4]
    rfl)
   clear hr hr1 hr3 hT hv hp hg h4 hse
   go_enter Tryd.func9, Tryd.ntmps9
   go_wp2_with (go_at_call 29; refine HP.out.mono ?_; rintro e w1 ⟨C, rfl, hG1, hB1⟩; have HB1 := Lib.hid hB1; clear hG1 hB1)
   go_ret
   exact ⟨_, rfl, by rw [HF.out]; exact R_nilO _ _, HB1.out⟩
end Go.Proofs.YtkljcdghbefceaaDoor
