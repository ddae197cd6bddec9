/- Parts of the proof, laid as one text by a program of mine. -/
import Derived.Test.YtkljcdghbefceaaGreatDoorKbtc16
import Derived.Test.YtkljcdghbefceaaGreatDoorKbtc7
import Derived.Test.YtkljcdghbefceaaGreatDoorKbtc11
namespace Go.Proofs.YtkljcdghbefceaaGreatDoor
set_option linter.unusedVariables false
set_option linter.unusedSimpArgs false
open Go.RowKit Go.Shelf Bits
open Go.Proofs.YtkljcdghbefceaaGreatDoorW.PrintWords Go.Proofs.YtkljcdghbefceaaGreatDoorW.PrintLast Go.Proofs.YtkljcdghbefceaaGreatDoorW.PrintMore
attribute [local go_sem] Oper.semAt_some
theorem fitB_upto {g : List Tk} {rm : List Int} {wk : Int} {st : List Int} {i now d T : Nat} (hT : (rdTk g i).f0 = (T : Int)) (hd : d ≤ T) : (∀ e, e < d → fitAt g rm wk st i ((now + e : Nat) : Int) = true) → (d = T → fitB g rm wk st i now = true) ∧ (d < T → fitAt g rm wk st i ((now + d : Nat) : Int) = false → fitB g rm wk st i now = false) := by
 intro h
 have hTT : (rdTk g i).f0.toNat = T := by rw [hT]; exact Int.toNat_natCast T
 constructor
 ·
  intro he
  unfold fitB
  rw [hTT, List.all_eq_true]
  intro e hm
  exact h e (by rw [he]; exact List.mem_range.1 hm)
 ·
  intro hlt hf
  unfold fitB
  rw [hTT]
  apply Bool.eq_false_iff.2
  intro ha
  have := List.all_eq_true.1 ha d (List.mem_range.2 hlt)
  rw [hf] at this
  cases this
set_option maxRecDepth 100000 in
set_option maxHeartbeats 4000000 in
theorem fits_calls (A : Option Addr) (c : Nat) (g : List Tk) (A1 : Option Addr) (c1 : Nat) (rm : List Int) (wk : Int) (A3 : Option Addr) (c3 : Nat) (st : List Int) (i now : Nat) (hok : TOk g) (hso : SOk st) (hlen : st.length = g.length) (hrm : rm.length = 3) (hi : i < g.length) (hnow : now ≤ 1000) (w : World) (hr : kTk.C w A g.length g) (hr1 : (Kd.int .i64).C w A1 rm.length rm) (hr3 : (Kd.int .i64).C w A3 st.length st) :
  Calls Tryz.prog 36 #[.slice A g.length c, .slice A1 rm.length c1, .int .i64 wk, .slice A3 st.length c3, .int .i64 (i : Nat), .int .i64 (now : Nat)] w fun e w' => e = .returned (.bool (fitB g rm wk st i now)) ∧ Below w.heap.size w w' := by
 have HR := Lib.hid hr
 have HR1 := Lib.hid hr1
 have HR3 := Lib.hid hr3
 have HOK := Lib.hid hok
 have HRA := Lib.hid (fun (t : Int) (W : World) (hW : Below w.heap.size w W) => runningAt_calls A c g A3 c3 st t hok hso hlen W (Kd.C_below hr hW) (Kd.C_below hr3 hW))
 obtain ⟨T, hT⟩ : ∃ T : Nat, (rdTk g i).f0 = (T : Int) := ⟨(rdTk g i).f0.toNat, by have := hok.2.1 i; omega⟩
 have hT20 : T ≤ 20 := by have := hok.2.1 i; omega
 have HT := Lib.hid hT
 obtain ⟨p, hp⟩ : ∃ p : Nat, (rdTk g i).f2 = (p : Int) := ⟨(rdTk g i).f2.toNat, by have := hok.2.2.1 i; omega⟩
 have hp3 : p < 3 := by have := hok.2.2.1 i; omega
 have HPP := Lib.hid hp
 have hu4 := hok.2.2.2.1 i
 obtain ⟨u, hu⟩ : ∃ u, u = (rdTk g i).f3 := ⟨_, rfl⟩
 rw [← hu] at hu4
 have HUU := Lib.hid hu
 have HRM := Lib.hid hrm
 have HI := Lib.hid hi
 have HUP := Lib.hid (fun d (hd : d ≤ T) h => fitB_upto (rm := rm) (wk := wk) (st := st) (now := now) hT hd h)
 have h8 := hok.1
 have hii : (i : Int) < (g.length : Int) := by omega
 clear hr hr1 hr3 hok hso hlen hT hp hu hrm
 go_enter Tryz.func36, Tryz.ntmps36
 go_wp2
 go_loopw [13] (fun t wr => ∃ d : Nat, d ≤ T ∧ t = .int .i64 ((now : Int) + (d : Nat)) ∧ Hid (∀ e, e < d → fitAt g rm wk st i ((now + e : Nat) : Int) = true) ∧ Below w.heap.size w wr) (fun t _ => now + T - (intOf t).toNat)
 case atStart => exact ⟨0, Nat.zero_le _, by simp, Lib.hid fun e he => absurd he (Nat.not_lt_zero _), Below.refl _ _⟩
 case round =>
  obtain ⟨d, hd, rfl, HD, hB⟩ := hrel
  obtain ⟨ad, A4, c4, rfl, x0, x1, x2, x3, _⟩ := at_Tk (Kd.C_below HR.out hB) i HI.out
  rw [HT.out] at x0
  obtain ⟨tq, htq⟩ : ∃ tq : Int, tq = (now : Int) + (d : Nat) := ⟨_, rfl⟩
  rw [← htq]
  have HTQ := Lib.hid htq
  have hwT : IntKind.i64.wrap ((now : Int) + (T : Int)) = (now : Int) + (T : Int) := IntWalk.i64_in _ (by omega)
  by_cases hdT : d < T
  ·
   have dd : decide (tq < (now : Int) + (T : Int)) = true := decide_eq_true (by omega)
   have HRJ := Lib.hid (HRA.out tq)
   have HFA : Hid (fitAt g rm wk st i ((now + d : Nat) : Int) = (decide (((runS g st tq).length : Int) < wk) && decide (usedS g (runS g st tq) (p : Nat) + u ≤ rm.getD p 0))) := Lib.hid (by
    have e : ((now + d : Nat) : Int) = tq := by omega
    rw [e]
    unfold fitAt
    rw [HPP.out, ← HUU.out, Int.toNat_natCast])
   have hrl : (runS g st tq).length ≤ 100 := by
    have h1 : (runS g st tq).length ≤ g.length := filter_range_le _ _
    omega
   have HRG : Hid (∀ k ∈ runS g st tq, k < g.length) := Lib.hid (fun k hk => List.mem_range.1 (List.mem_filter.1 hk).1)
   have hub := usedS_bound HOK.out p (runS g st tq)
   generalize runS g st tq = rn at HRJ HFA hrl HRG hub
   have hwt : IntKind.i64.wrap (tq + 1) = tq + 1 := IntWalk.i64_in _ (by clear hwT; omega)
   have HB := Lib.hid hB
   clear htq hB x1 x2 x3
   go_wp2_with (go_at_call 64; refine (HRJ.out _ HB.out).mono ?_; rintro e w2 ⟨v2, rfl, hR2, hB2⟩; obtain ⟨A2, c2, rfl, hc2, hC2⟩ := Kd.R_reads hR2; rw [ints_length] at hC2 hc2 ⊢; have HC2 := Lib.hid hC2; have HBW := Lib.hid (HB.out.trans (hB2.mono HB.out.size)); clear hR2 hB2 hC2)
   have HNO := Lib.hid ((HUP.out d hd HD.out).2 hdT)
   have HDT := Lib.hid hdT
   clear hdT
   by_cases hwk : (rn.length : Int) < wk
   ·
    have dwk : decide ((rn.length : Int) < wk) = true := decide_eq_true hwk
    have dwk2 : decide (wk ≤ (rn.length : Int)) = false := decide_eq_false (by omega)
    obtain ⟨ad2, A5, c5, e5, y0, y1, y2, y3, _⟩ := at_Tk (Kd.C_below HR.out HBW.out) i HI.out
    cases e5
    rw [HPP.out] at y2
    rw [← HUU.out] at y3
    obtain ⟨adr, rfl, cr⟩ := at_num (Kd.C_below HR1.out HBW.out) p (by rw [HRM.out]; omega)
    have hpr : (p : Int) < (rm.length : Int) := by rw [HRM.out]; omega
    have HCG := Lib.hid (Kd.C_below HR.out HBW.out)
    generalize hU : usedS g rn (p : Nat) = U at hub HFA
    have HU := Lib.hid hU
    generalize rm.getD p 0 = rp at cr HFA
    have hws : IntKind.i64.wrap (U + u) = U + u := IntWalk.i64_in _ (by clear hwT hwt; omega)
    clear hU y0 y1 x0
    by_cases hfit : U + u ≤ rp
    ·
     have dfit : decide (U + u ≤ rp) = true := decide_eq_true hfit
     have dfit2 : decide (rp < U + u) = false := decide_eq_false (by omega)
     have HYES : Hid (fitAt g rm wk st i ((now + d : Nat) : Int) = true) := Lib.hid (by rw [HFA.out, dwk, dfit]; rfl)
     clear hfit hwk dfit dwk
     go_quiet ((go_at_call 65; exact Calls.quiet_of_same (used_is U _ _ g _ _ rn p HU HOK.out hrl HRG.out _ (Kd.C_drewN HCG.out _) (Kd.C_drewN HC2.out _))))
     clear hws hwT
     go_wp2
     clear hwt
     go_roundw
     case rel => exact ⟨d + 1, by have := HDT.out; omega, by rw [HTQ.out] <;> (congr 1 <;> omega), Lib.hid (fun e he => by
      by_cases h : e = d
      ·
       rw [h]; exact HYES.out
      ·
       exact HD.out e (by omega)), pw_below_drewN HBW.out nq⟩
     case measure => have h1 := HTQ.out; have h2 := HDT.out; simp [intOf]; omega
    ·
     have dfit : decide (U + u ≤ rp) = false := decide_eq_false hfit
     have dfit2 : decide (rp < U + u) = true := decide_eq_true (by omega)
     have HF : Hid (fitB g rm wk st i now = false) := Lib.hid (HNO.out (by rw [HFA.out, dwk, dfit]; rfl))
     clear hfit hwk dfit dwk
     go_quiet ((go_at_call 65; exact Calls.quiet_of_same (used_is U _ _ g _ _ rn p HU HOK.out hrl HRG.out _ (Kd.C_drewN HCG.out _) (Kd.C_drewN HC2.out _))))
     clear hws hwT
     go_wp2
     go_ret
     exact ⟨by rw [HF.out]; rfl, pw_below_drewN HBW.out nq⟩
   ·
    have dwk : decide ((rn.length : Int) < wk) = false := decide_eq_false hwk
    have dwk2 : decide (wk ≤ (rn.length : Int)) = true := decide_eq_true (by omega)
    have HF : Hid (fitB g rm wk st i now = false) := Lib.hid (HNO.out (by rw [HFA.out, dwk]; rfl))
    clear hwk dwk hub x0
    go_quiet (fail)
    clear hwT
    go_wp2
    go_ret
    exact ⟨by rw [HF.out]; rfl, pw_below_drewN HBW.out nq⟩
  ·
   obtain rfl : d = T := by omega
   have dd : decide (tq < (now : Int) + (d : Int)) = false := decide_eq_false (by omega)
   have HF : Hid (fitB g rm wk st i now = true) := Lib.hid ((HUP.out d (Nat.le_refl _) HD.out).1 rfl)
   clear htq x1 x2 x3
   go_wp2
   go_ret
   exact ⟨by rw [HF.out]; rfl, hB⟩
theorem Part.sok {g : List Tk} {rm : List Int} {wk : Int} {l : List Nat} {st : List Int} (hok : TOk g) (h : Part g rm wk l st) (hn : l.Nodup) : SOk st := fun i => by
 by_cases hi : i < g.length
 ·
  by_cases hm : i ∈ l
  ·
   have h1 := h.yes i hm
   have h2 := h.small hok hn
   have h3 := hok.2.1 i
   omega
  ·
   have := h.no i hi hm
   omega
 ·
  have : st.getD i 0 = 0 := by
   rw [List.getD_eq_getElem?_getD, List.getElem?_eq_none (by rw [h.len]; omega)]
   rfl
  omega
theorem getD_ints (l : List Nat) (j : Nat) : (ints l).getD j 0 = ((l.getD j 0 : Nat) : Int) := ints_getD l j
set_option maxRecDepth 100000 in
set_option maxHeartbeats 8000000 in
theorem sorder_calls (A : Option Addr) (c : Nat) (g : List Tk) (A1 : Option Addr) (c1 : Nat) (rm : List Int) (wk : Int) (A3 : Option Addr) (c3 : Nat) (L : List Nat) (hv : specValid g = true) (hp : placeB rm wk = true) (ho : IsOrd g L) (w : World) (hr : kTk.C w A g.length g) (hr1 : (Kd.int .i64).C w A1 rm.length rm) (hr3 : (Kd.int .i64).C w A3 L.length (ints L)) :
  Calls Tryz.prog 14 #[.slice A g.length c, .slice A1 rm.length c1, .int .i64 wk, .slice A3 L.length c3] w fun e w' => ∃ v, e = .returned v ∧ Kd.R (Kd.int .i64) 3 w' w.heap.size (fun _ => True) v (ordL g rm wk L L.length) ∧ Below w.heap.size w w' := by
 have HR := Lib.hid hr
 have HR1 := Lib.hid hr1
 have HR3 := Lib.hid hr3
 have hok := specValid_TOk hv
 have HOK := Lib.hid hok
 have HV := Lib.hid hv
 have HP := Lib.hid hp
 have HO := Lib.hid ho
 have h8 := hok.1
 have hLg := ho.len
 have hrm3 := (roomB_facts (placeB_facts hp).1).1
 have HRM := Lib.hid hrm3
 have hmk := run_makeX g.length (by omega)
 have HLG := Lib.hid hLg
 have hLl : L.length ≤ 8 := by omega
 clear hr hr1 hr3 hok hv hp ho hLg hrm3
 go_enter Tryz.func14, Tryz.ntmps14
 go_wp2
 clear hmk
 have hrl : (List.replicate g.length (200 : Int)).length = g.length := List.length_replicate
 have hI0 : IRow (w.alloc (.cells (zeroI g.length) 3)) w.heap.size (cpyL (List.replicate g.length 200) 0) := by
  rw [cpyL_zero, hrl, zeroI_row]
  exact World.alloc_heap_new w _
 have hB0 : Below w.heap.size w (w.alloc (.cells (zeroI g.length) 3)) := (Below.refl _ _).alloc (Nat.le_refl _) _
 have HRL := Lib.hid hrl
 clear hrl
 go_loopw [10] (fun i wr => ∃ j, j ≤ g.length ∧ i = .int .i64 (j : Nat) ∧ IRow wr w.heap.size (cpyL (List.replicate g.length 200) j) ∧ Below w.heap.size w wr) (fun i _ => g.length - (intOf i).toNat)
 case atStart => exact ⟨0, Nat.zero_le _, rfl, hI0, hB0⟩
 case round =>
  clear hI0 hB0
  obtain ⟨j, hj, rfl, hI, hB⟩ := hrel
  by_cases hjl : j < g.length
  ·
   have hjj : decide ((j : Int) < (g.length : Int)) = true := decide_eq_true (by omega)
   have hji : (j : Int) < (g.length : Int) := by omega
   have cr := hI.cell j (by rw [cpyL_len, HRL.out]; exact hjl)
   have fr := hI.frozen j
   have HE : Hid ((cpyL (List.replicate g.length (200 : Int)) j).set j 200 = cpyL (List.replicate g.length 200) (j + 1)) := Lib.hid (by
    have h := cpyL_set (List.replicate g.length (200 : Int)) j
    have e : (List.replicate g.length (200 : Int)).getD j 0 = 200 := by simp [List.getD_eq_getElem?_getD, List.getElem?_replicate, hjl]
    rw [e] at h
    exact h)
   generalize (cpyL (List.replicate g.length (200 : Int)) j).getD j 0 = old at cr
   have HX := Lib.hid (And.intro hI hB)
   clear hI hB
   go_wp2
   go_roundw
   case rel => exact ⟨j + 1, by omega, by go_num, by rw [← HE.out]; exact HX.out.1.set j 200, HX.out.2.setCell (p := ⟨w.heap.size, j, none⟩) (Nat.le_refl _) _⟩
   case measure => simp [intOf]; omega
  ·
   have hje : j = g.length := by omega
   have hjj : decide ((j : Int) < (g.length : Int)) = false := decide_eq_false (by omega)
   have hI1 : IRow wr w.heap.size (ordL g rm wk L 0) := by
    have e : cpyL (List.replicate g.length (200 : Int)) j = List.replicate g.length 200 := by
     have := cpyL_end (List.replicate g.length (200 : Int))
     rw [HRL.out] at this
     rw [hje]
     exact this
    rw [e] at hI
    exact hI
   clear hI hje
   go_wp2
   go_loopw [11] (fun i wr => ∃ j, j ≤ L.length ∧ i = .int .i64 (j : Nat) ∧ IRow wr w.heap.size (ordL g rm wk L j) ∧ Below w.heap.size w wr) (fun i _ => L.length - (intOf i).toNat)
   case atStart => exact ⟨0, Nat.zero_le _, rfl, hI1, hB⟩
   case round =>
    clear hI1 hB
    obtain ⟨j, hj, rfl, hI, hB⟩ := hrel
    obtain ⟨wo, rfl⟩ : ∃ wo : World, wo = wr := ⟨_, rfl⟩
    by_cases hjl : j < L.length
    ·
     have hjj : decide ((j : Int) < (L.length : Int)) = true := decide_eq_true (by omega)
     have hjLi : (j : Int) < (L.length : Int) := by omega
     obtain ⟨ad3, rfl, cL⟩ := at_num (Kd.C_below HR3.out hB) j hjl
     rw [getD_ints] at cL
     have hP := ord_part HOK.out HP.out HO.out j hj
     have hnd := nodup_take HO.out.nd hjl
     have hxl := HO.out.lt _ (getD_mem hjl)
     have hned := HO.out.ned j hjl
     have hpl := hP.place HOK.out HP.out hnd.1 hned
     have hsm := hP.small HOK.out hnd.1
     have hso := hP.sok HOK.out hnd.1
     have hsl := hP.len
     have HSO := Lib.hid hso
     have HSL := Lib.hid hsl
     have HSTEP : Hid (ordL g rm wk L (j + 1) = (ordL g rm wk L j).set (L.getD j 0) (placeS g rm wk (ordL g rm wk L j) (L.getD j 0) : Nat)) := Lib.hid rfl
     generalize ordL g rm wk L j = st at hI hP hpl hso hsl HSO HSL HSTEP
     generalize L.getD j 0 = x at cL hxl hned hpl HSTEP
     have hxi : (x : Int) < (g.length : Int) := by omega
     have HNI : Hid (∀ k, k < (rdTk g x).f1.length → 0 ≤ (rdTk g x).f1.getD k 0 ∧ (rdTk g x).f1.getD k 0 < g.length) := Lib.hid (fun k hk => by
      have hm : (rdTk g x).f1.getD k 0 ∈ (rdTk g x).f1 := by
       rw [List.getD_eq_getElem?_getD, List.getElem?_eq_getElem hk]
       exact List.getElem_mem _
      have := spec_needs_in HV.out x hxl _ hm
      omega)
     have HX := Lib.hid (And.intro hI hB)
     have HPL := Lib.hid hpl
     have HXL := Lib.hid hxl
     have HSM := Lib.hid hsm
     clear hP hnd hned hpl hsm hso hsl hI hB
     go_wp2
     generalize hnd : (rdTk g x).f1 = nd at HNI ⊢
     have HND := Lib.hid hnd
     clear hnd
     go_loopw [13, 14] (fun n k wi => ∃ q : Nat, q ≤ nd.length ∧ k = .int .i64 (q : Nat) ∧ n = .int .i64 (baseN g st nd q) ∧ Below wo.heap.size wo wi) (fun _ k _ => nd.length - (intOf k).toNat)
     case atStart => exact ⟨0, Nat.zero_le _, rfl, rfl, Below.refl _ _⟩
     case round =>
      obtain ⟨q, hq, rfl, rfl, hBi⟩ := hrel
      have hBw := HX.out.2.trans (hBi.mono HX.out.2.size)
      obtain ⟨ad, A4, c4, rfl, x0, x1, x2, x3, hc4, hC4⟩ := at_Tk (Kd.C_below HR.out hBw) x HXL.out
      rw [HND.out] at x1 hc4 hC4
      by_cases hql : q < nd.length
      ·
       have hqq : decide (q < nd.length) = true := decide_eq_true hql
       have hqi : (q : Int) < (nd.length : Int) := by omega
       have hndm := (C_len hC4).2
       obtain ⟨adn, rfl, cn⟩ := at_num hC4 q hql
       have hyb := HNI.out q hql
       obtain ⟨y, hy⟩ : ∃ y : Nat, nd.getD q 0 = (y : Int) := ⟨(nd.getD q 0).toNat, by omega⟩
       rw [hy] at cn hyb
       have hyg : y < g.length := by omega
       have hyi : (y : Int) < (g.length : Int) := by omega
       obtain ⟨ad2, A5, c5, e5, y0, _⟩ := at_Tk (Kd.C_below HR.out hBw) y hyg
       cases e5
       have cs : wr.cell? ⟨w.heap.size, y, none⟩ = some (.int .i64 (st.getD y 0)) := IRow.cell (blk_below HX.out.1 hBi) y (by rw [HSL.out]; exact hyg)
       have hsy := HSO.out y
       have hty := HOK.out.2.1 y
       have HE : Hid (baseN g st nd (q + 1) = max (baseN g st nd q) (st.getD y 0 + (rdTk g y).f0)) := Lib.hid (by
        show max (baseN g st nd q) (st.getD (nd.getD q 0).toNat 0 + (rdTk g (nd.getD q 0).toNat).f0) = _
        rw [hy, Int.toNat_natCast])
       generalize st.getD y 0 = s at cs hsy HE
       generalize (rdTk g y).f0 = tm at y0 hty HE
       generalize baseN g st nd q = bn at HE ⊢
       have hwr : IntKind.i64.wrap (s + tm) = s + tm := IntWalk.i64_in _ (by omega)
       have HBi := Lib.hid hBi
       clear hy hyb hBi hBw x0 x2 x3 hc4 hC4
       go_wp2
       go_quiet (fail)
       go_wp2
       clear hwr
       all_goals
        go_roundw
        case rel => exact ⟨q + 1, by omega, by go_num, by rw [HE.out] <;> (congr 1 <;> first | omega | (split <;> omega)), by repeat (first | exact HBi.out | apply pw_below_drewN)⟩
        case measure => simp [intOf]; omega
      ·
       have hqe : q = nd.length := by omega
       have hqq : decide (q < nd.length) = false := decide_eq_false hql
       have hb0 : 0 ≤ baseS g st x := baseN_nonneg _ _ _ _
       have hbs : baseN g st nd q = baseS g st x := by unfold baseS; rw [HND.out, hqe]
       rw [hbs]
       obtain ⟨b, hb⟩ : ∃ b : Nat, baseS g st x = (b : Int) := ⟨(baseS g st x).toNat, by omega⟩
       obtain ⟨p1, p2, p3, p4⟩ := HPL.out
       have hsm := HSM.out
       rw [hb] at p1 p4 ⊢
       have HF := Lib.hid (fun (m : Nat) (hm : m ≤ 1000) (W : World) (hW : Below wo.heap.size wo W) => fits_calls (some ad) c g A1 c1 rm wk (some ⟨w.heap.size, 0, none⟩) g.length st x m HOK.out HSO.out HSL.out HRM.out HXL.out hm W (Kd.C_below HR.out (HX.out.2.trans (hW.mono HX.out.2.size))) (Kd.C_below HR1.out (HX.out.2.trans (hW.mono HX.out.2.size))) (IRow.C (blk_below HX.out.1 hW) (by rw [HSL.out]; omega)))
       rw [HSL.out] at HF
       generalize placeS g rm wk st x = pl at p1 p2 p3 p4 HSTEP
       have HBi := Lib.hid hBi
       have HPP := Lib.hid (And.intro p3 p4)
       have hpl1 : b ≤ pl := by omega
       have hpl2 : pl ≤ 160 := by omega
       clear hb hb0 hbs p1 p2 p3 p4 hBi hBw x0 x2 x3 hc4 hC4 hsm hqe
       go_wp2
       go_loopw [13] (fun n wi => ∃ m : Nat, b ≤ m ∧ m ≤ pl ∧ n = .int .i64 (m : Nat) ∧ Below wo.heap.size wo wi) (fun n _ => pl - (intOf n).toNat)
       case atStart => exact ⟨b, Nat.le_refl _, hpl1, rfl, HBi.out⟩
       case round =>
        clear HBi
        obtain ⟨m, hbm, hmp, rfl, hBi⟩ := hrel
        have HFM := Lib.hid (HF.out m (by omega) wr hBi)
        have HBi := Lib.hid hBi
        clear hBi
        by_cases hme : m < pl
        ·
         have hv : fitB g rm wk st x m = false := HPP.out.2 m (by omega) hme
         rw [hv] at HFM
         have hwm : IntKind.i64.wrap ((m : Int) + 1) = (m : Int) + 1 := IntWalk.i64_in _ (by omega)
         clear hv
         go_wp2_with (go_at_call 36; refine HFM.out.mono ?_; rintro e w4 ⟨rfl, hB4⟩; have HBi := Lib.hid (HBi.out.trans (hB4.mono HBi.out.size)); clear hB4)
         clear hwm
         go_roundw
         case rel => exact ⟨m + 1, by omega, by omega, by go_num, HBi.out⟩
         case measure => simp [intOf]; omega
        ·
         obtain rfl : m = pl := by omega
         rw [HPP.out.1] at HFM
         clear hme
         go_wp2_with (go_at_call 36; refine HFM.out.mono ?_; rintro e w4 ⟨rfl, hB4⟩; have HBi := Lib.hid (HBi.out.trans (hB4.mono HBi.out.size)); clear hB4; have cr := IRow.cell (blk_below HX.out.1 HBi.out) x (by rw [HSL.out]; exact HXL.out); have fr := IRow.frozen (blk_below HX.out.1 HBi.out) x)
         go_roundw
         case rel => exact ⟨j + 1, by omega, by go_num, by rw [HSTEP.out]; exact IRow.set (blk_below HX.out.1 HBi.out) x _, (HX.out.2.trans (HBi.out.mono HX.out.2.size)).setCell (p := ⟨w.heap.size, x, none⟩) (Nat.le_refl _) _⟩
         case measure => simp [intOf]; omega
    ·
     obtain rfl : j = L.length := by omega
     have hjj : decide ((L.length : Int) < (L.length : Int)) = false := decide_eq_false (by omega)
     have HX := Lib.hid (And.intro hI hB)
     clear hI hB
     go_wp2
     go_ret
     have hln : (ordL g rm wk L L.length).length = g.length := (ord_part HOK.out HP.out HO.out L.length (Nat.le_refl _)).len
     have hR := HX.out.1.own (Nat.le_refl _) (by rw [hln]; omega)
     rw [hln] at hR
     exact ⟨_, rfl, hR, HX.out.2⟩
end Go.Proofs.YtkljcdghbefceaaGreatDoor

namespace Go.Proofs.YtkljcdghbefceaaGreatDoor
set_option linter.unusedVariables false
set_option linter.unusedSimpArgs false
open Go.RowKit Go.Shelf Bits
open Go.Proofs.YtkljcdghbefceaaGreatDoorW.PrintWords Go.Proofs.YtkljcdghbefceaaGreatDoorW.PrintLast Go.Proofs.YtkljcdghbefceaaGreatDoorW.PrintMore
attribute [local go_sem] Oper.semAt_some
theorem C_takeI {W : World} {A : Option Addr} {l : List Int} (h : (Kd.int .i64).C W A l.length l) {j : Nat} (hj : j ≤ l.length) : (Kd.int .i64).C W A j (l.take j) := by
 obtain ⟨h1, h2, h3⟩ := h
 have hlen : (l.take j).length = j := by rw [List.length_take]; omega
 refine ⟨hlen, by omega, fun hp => ?_⟩
 obtain ⟨ad, e, hx⟩ := h3 (by omega)
 refine ⟨ad, e, fun k p hk => hx k p ?_⟩
 rw [List.getElem?_take] at hk
 split at hk
 ·
  exact hk
 ·
  cases hk
def ordAt (g : List Tk) (l : List Int) (j : Nat) : Bool := inB (l.getD j 0) 0 ((g.length : Int) - 1) && (!decide (l.getD j 0 ∈ l.take j) && allDoneB (rdTk g (l.getD j 0).toNat).f1 (l.take j))
def isOrdB (g : List Tk) (l : List Int) : Bool := decide (l.length = g.length) && (List.range l.length).all (ordAt g l)
theorem isOrdB_upto {g : List Tk} {l : List Int} {d : Nat} (hl : l.length = g.length) (h : ∀ e, e < d → ordAt g l e = true) : (d = l.length → isOrdB g l = true) ∧ (d < l.length → ordAt g l d = false → isOrdB g l = false) := by
 constructor
 ·
  intro he
  unfold isOrdB
  rw [decide_eq_true hl, Bool.true_and, List.all_eq_true]
  intro e hm
  exact h e (by rw [he]; exact List.mem_range.1 hm)
 ·
  intro hlt hf
  unfold isOrdB
  rw [decide_eq_true hl, Bool.true_and]
  apply Bool.eq_false_iff.2
  intro ha
  have := List.all_eq_true.1 ha d (List.mem_range.2 hlt)
  rw [hf] at this
  cases this
end Go.Proofs.YtkljcdghbefceaaGreatDoor

namespace Go.Proofs.YtkljcdghbefceaaGreatDoor
set_option linter.unusedVariables false
set_option linter.unusedSimpArgs false
open Go.RowKit Go.Shelf Bits
theorem runs_of {g : List Tk} {rm : List Int} {wk : Int} {l : List Nat} {st0 st : List Int} {p : Nat} (hok : TOk g) (hP : Part g rm wk l st0) (hag : ∀ k ∈ l, st.getD k 0 = st0.getD k 0) (hpl : p < 2 ^ g.length) (hm : ∀ k, p.testBit k = decide (k ∈ l)) {t : Int} (ht : t < 200) : (elems p).filter (runB g st t) = runS g st0 t := by
 have h8 := hok.1
 rw [elems_eq (n := g.length) (by omega) hpl _ (fun _ _ => rfl)]
 unfold runS
 rw [List.filter_filter]
 refine List.filter_congr fun k hk => ?_
 have hk := List.mem_range.1 hk
 rw [hm]
 by_cases hkl : k ∈ l
 ·
  rw [decide_eq_true hkl, Bool.and_true]
  unfold runB
  rw [hag k hkl]
 ·
  rw [decide_eq_false hkl, Bool.and_false]
  symm
  cases hb : runB g st0 t k with
  | false => rfl
  | true =>
   have h1 := runB_iff.1 hb
   have h2 := hP.no k hk hkl
   omega
theorem canT_eq {g : List Tk} {rm : List Int} {wk : Int} {l : List Nat} {st0 st : List Int} {p : Nat} (hok : TOk g) (hP : Part g rm wk l st0) (hag : ∀ k ∈ l, st.getD k 0 = st0.getD k 0) (hpl : p < 2 ^ g.length) (hm : ∀ k, p.testBit k = decide (k ∈ l)) {t : Int} (ht : t < 200) (i : Nat) : canT g rm wk p st i t = fitAt g rm wk st0 i t := by
 unfold canT fitAt
 rw [runs_of hok hP hag hpl hm ht]
 have h := (hok.2.2.1 i).1
 show (decide (((runS g st0 t).length : Int) < wk) && decide (usedS g (runS g st0 t) (((rdTk g i).f2.toNat : Nat) : Int) + (rdTk g i).f3 ≤ rm.getD (rdTk g i).f2.toNat 0)) = _
 rw [Int.toNat_of_nonneg h]
theorem fitI_eq {g : List Tk} {rm : List Int} {wk : Int} {l : List Nat} {st0 st : List Int} {p : Nat} (hok : TOk g) (hP : Part g rm wk l st0) (hag : ∀ k ∈ l, st.getD k 0 = st0.getD k 0) (hpl : p < 2 ^ g.length) (hm : ∀ k, p.testBit k = decide (k ∈ l)) {m : Nat} (ht : m ≤ 180) (i : Nat) : fitI g rm wk p st i m = fitB g rm wk st0 i m := by
 have h20 := hok.2.1 i
 unfold fitI fitB
 rw [Bool.eq_iff_iff, List.all_eq_true, List.all_eq_true]
 constructor
 ·
  intro h d hd
  have := h d hd
  have hd := List.mem_range.1 hd
  rwa [canT_eq hok hP hag hpl hm (by omega)] at this
 ·
  intro h d hd
  have := h d hd
  have hd := List.mem_range.1 hd
  rwa [canT_eq hok hP hag hpl hm (by omega)]
theorem earl_place {g : List Tk} {ns : List Nat} {rm : List Int} {wk : Int} {l : List Nat} {st0 st : List Int} {p i : Nat} (hgr : graphN g = some ns) (hv : specValid g = true) (hp : placeB rm wk = true) (hP : Part g rm wk l st0) (hn : l.Nodup) (hag : ∀ k ∈ l, st.getD k 0 = st0.getD k 0) (hpl : p < 2 ^ g.length) (hm : ∀ k, p.testBit k = decide (k ∈ l)) (hi : i < g.length) (hned : ∀ x ∈ (rdTk g i).f1, x.toNat ∈ l) :
  ∃ b : Nat, bF g st (elems (ns.getD i 0)) = (b : Int) ∧ b ≤ placeS g rm wk st0 i ∧ placeS g rm wk st0 i ≤ 160 ∧ fitI g rm wk p st i (placeS g rm wk st0 i) = true ∧ ∀ k, b ≤ k → k < placeS g rm wk st0 i → fitI g rm wk p st i k = false := by
 have hok := specValid_TOk hv
 have hsm := hP.small hok hn
 obtain ⟨p1, p2, p3, p4⟩ := hP.place hok hp hn hned
 obtain ⟨f1, f2, f3⟩ := bF_from (g := g) (st := st) (elems (ns.getD i 0)) 0
 have hb0 : 0 ≤ baseS g st0 i := baseN_nonneg _ _ _ _
 have he : bF g st (elems (ns.getD i 0)) = baseS g st0 i := by
  have h1 : bF g st (elems (ns.getD i 0)) ≤ baseS g st0 i := f3 _ hb0 (fun k hk => by
   have hb := elems_bit hk
   rw [need_bit hgr hi] at hb
   have hx := of_decide_eq_true hb
   have h1 := baseS_ge (st := st0) hx
   rw [Int.toNat_natCast] at h1
   have h2 := hned _ hx
   rw [Int.toNat_natCast] at h2
   rw [hag k h2]
   exact h1)
  have h2 : baseS g st0 i ≤ bF g st (elems (ns.getD i 0)) := baseN_le f1 _ (Nat.le_refl _) (fun x hx => by
   have hin := spec_needs_in hv i hi x hx
   have h3 := hned x hx
   rw [← hag _ h3]
   refine f2 _ ?_
   rw [mem_elems, need_bit hgr hi]
   refine ⟨by have := hok.1; omega, decide_eq_true ?_⟩
   rw [Int.toNat_of_nonneg hin.1]
   exact hx)
  omega
 refine ⟨(baseS g st0 i).toNat, by omega, by omega, by omega, ?_, fun k h1 h2 => ?_⟩
 ·
  rw [fitI_eq hok hP hag hpl hm (by omega)]
  exact p3
 ·
  rw [fitI_eq hok hP hag hpl hm (by omega)]
  exact p4 k (by omega) h2
def nats (l : List Int) : List Nat := l.map Int.toNat
theorem nats_len (l : List Int) : (nats l).length = l.length := by simp [nats]
theorem nats_getD (l : List Int) (j : Nat) : (nats l).getD j 0 = (l.getD j 0).toNat := by
 unfold nats
 rw [List.getD_eq_getElem?_getD, List.getD_eq_getElem?_getD, List.getElem?_map]
 cases l[j]? <;> rfl
theorem ordAt_in {g : List Tk} {l : List Int} {j : Nat} (h : ordAt g l j = true) : 0 ≤ l.getD j 0 ∧ l.getD j 0 ≤ (g.length : Int) - 1 ∧ ¬ l.getD j 0 ∈ l.take j ∧ allDoneB (rdTk g (l.getD j 0).toNat).f1 (l.take j) = true := by
 unfold ordAt at h
 rw [Bool.and_eq_true, Bool.and_eq_true] at h
 have h1 := inB_true.1 h.1
 refine ⟨h1.1, h1.2, fun hm => ?_, h.2.2⟩
 have := h.2.1
 rw [decide_eq_true hm] at this
 cases this
theorem mem_takeD {l : List Int} {j : Nat} {x : Int} (h : x ∈ l.take j) : ∃ q, q < j ∧ q < l.length ∧ l.getD q 0 = x := by
 obtain ⟨q, hq, e⟩ := List.getElem_of_mem h
 rw [List.length_take] at hq
 rw [List.getElem_take] at e
 exact ⟨q, by omega, by omega, by rw [List.getD_eq_getElem?_getD, List.getElem?_eq_getElem (by omega)]; exact e⟩
def pset (l : List Int) (j : Nat) : Nat := putB 0 (nats (l.take j))
theorem pset_zero (l : List Int) : pset l 0 = 0 := by simp [pset, nats, putB]
theorem pset_succ {l : List Int} {j : Nat} (h : j < l.length) : pset l (j + 1) = pset l j ||| 2 ^ (l.getD j 0).toNat := by
 unfold pset
 rw [List.take_succ_eq_append_getElem h]
 unfold nats
 rw [List.map_append, List.map_cons, List.map_nil, putB_snoc, List.getD_eq_getElem?_getD, List.getElem?_eq_getElem h]
 rfl
theorem pset_fact {g : List Tk} {l : List Int} {j : Nat} (h : ∀ e, e < j → ordAt g l e = true) (hj : j ≤ l.length) : (∀ k : Nat, (pset l j).testBit k = decide ((k : Int) ∈ l.take j)) ∧ pset l j < 2 ^ g.length := by
 have hin : ∀ x ∈ l.take j, 0 ≤ x ∧ x ≤ (g.length : Int) - 1 := fun x hx => by
  obtain ⟨q, hq, _, e⟩ := mem_takeD hx
  have := ordAt_in (h q hq)
  rw [e] at this
  exact ⟨this.1, this.2.1⟩
 constructor
 ·
  intro k
  unfold pset
  rw [putB_bit, Nat.zero_testBit, Bool.false_or, decide_eq_decide]
  unfold nats
  rw [List.mem_map]
  constructor
  ·
   rintro ⟨x, hx, e⟩
   have := hin x hx
   rw [show (k : Int) = x by omega]
   exact hx
  ·
   intro hx
   exact ⟨_, hx, Int.toNat_natCast k⟩
 ·
  unfold pset
  refine putB_lt _ (Nat.two_pow_pos _) (fun k hk => ?_)
  unfold nats at hk
  obtain ⟨x, hx, e⟩ := List.mem_map.1 hk
  have := hin x hx
  omega
theorem isOrdB_ord {g : List Tk} {l : List Int} (h : isOrdB g l = true) : IsOrd g (nats l) ∧ ints (nats l) = l := by
 unfold isOrdB at h
 rw [Bool.and_eq_true, decide_eq_true_iff, List.all_eq_true] at h
 obtain ⟨hl, ha⟩ := h
 have hat : ∀ j, j < l.length → ordAt g l j = true := fun j hj => ha j (List.mem_range.2 hj)
 have hin : ∀ x ∈ l, 0 ≤ x ∧ x ≤ (g.length : Int) - 1 := fun x hx => by
  rw [← List.take_length (l := l)] at hx
  obtain ⟨q, _, hq, e⟩ := mem_takeD hx
  have := ordAt_in (hat q hq)
  rw [e] at this
  exact ⟨this.1, this.2.1⟩
 refine ⟨⟨by rw [nats_len, hl], fun i hi => ?_, ?_, fun j hj x hx => ?_⟩, ?_⟩
 ·
  obtain ⟨x, hx, e⟩ := List.mem_map.1 hi
  have := hin x hx
  omega
 ·
  unfold List.Nodup
  rw [List.pairwise_iff_getElem]
  intro a b ha hb hab e
  rw [nats_len] at ha hb
  have h1 := (ordAt_in (hat b hb)).2.2.1
  have h2 : l.getD b 0 = l[b] := by rw [List.getD_eq_getElem?_getD, List.getElem?_eq_getElem hb]; rfl
  have e2 : l[a].toNat = l[b].toNat := by
   have k : ∀ (q : Nat) (hq : q < (nats l).length) (hq2 : q < l.length), (nats l)[q] = (l[q]).toNat := fun q hq hq2 => List.getElem_map ..
   rw [k a _ ha, k b _ hb] at e
   exact e
  have k1 := hin l[a] (List.getElem_mem _)
  have k2 := hin l[b] (List.getElem_mem _)
  refine h1 ?_
  rw [h2, show l[b] = l[a] by omega]
  exact List.mem_of_getElem (i := a) (h := by rw [List.length_take]; omega) (List.getElem_take ..)
 ·
  rw [nats_len] at hj
  rw [nats_getD] at hx
  have h1 := (ordAt_in (hat j hj)).2.2.2
  unfold allDoneB at h1
  rw [List.all_eq_true] at h1
  have h2 := of_decide_eq_true (h1 x hx)
  unfold nats
  rw [← List.map_take]
  exact List.mem_map_of_mem h2
 ·
  unfold ints nats
  rw [List.map_map]
  conv => rhs; rw [← List.map_id l]
  refine List.map_congr_left fun x hx => ?_
  have := hin x hx
  show ((x.toNat : Nat) : Int) = x
  omega
def iordL (g : List Tk) (rm : List Int) (wk : Int) (l : List Nat) : Nat → List Int
 | 0 => List.replicate g.length 0
 | j + 1 => (iordL g rm wk l j).set (l.getD j 0) (placeS g rm wk (ordL g rm wk l j) (l.getD j 0) : Nat)
theorem iordL_len (g : List Tk) (rm : List Int) (wk : Int) (l : List Nat) : ∀ j, (iordL g rm wk l j).length = g.length
 | 0 => List.length_replicate
 | j + 1 => by
  show (List.set _ _ _).length = _
  rw [List.length_set]
  exact iordL_len g rm wk l j
theorem iordL_agree {g : List Tk} {rm : List Int} {wk : Int} {l : List Nat} (hok : TOk g) (hp : placeB rm wk = true) (h : IsOrd g l) : ∀ j, j ≤ l.length → (∀ k ∈ l.take j, (iordL g rm wk l j).getD k 0 = (ordL g rm wk l j).getD k 0) ∧ ∀ k, 0 ≤ (iordL g rm wk l j).getD k 0 ∧ (iordL g rm wk l j).getD k 0 ≤ 160
 | 0, _ => ⟨fun k hk => absurd hk (by simp), fun k => by
  show 0 ≤ (List.replicate g.length (0 : Int)).getD k 0 ∧ _
  rw [show (iordL g rm wk l 0) = List.replicate g.length (0 : Int) from rfl, List.getD_eq_getElem?_getD, List.getElem?_replicate]
  split <;> simp⟩
 | j + 1, hj => by
  obtain ⟨ih, ib⟩ := iordL_agree hok hp h j (by omega)
  have hP := ord_part hok hp h j (by omega)
  have hn := nodup_take h.nd (show j < l.length by omega)
  have hned := h.ned j (by omega)
  have hx := h.lt _ (getD_mem (show j < l.length by omega))
  have hpl := hP.place hok hp hn.1 hned
  have hsm := hP.small hok hn.1
  have hil := iordL_len g rm wk l j
  rw [take_snocN (by omega)]
  show (∀ k ∈ l.take j ++ [l.getD j 0], ((iordL g rm wk l j).set (l.getD j 0) (placeS g rm wk (ordL g rm wk l j) (l.getD j 0) : Nat)).getD k 0 = ((ordL g rm wk l j).set (l.getD j 0) (placeS g rm wk (ordL g rm wk l j) (l.getD j 0) : Nat)).getD k 0) ∧ ∀ k, 0 ≤ ((iordL g rm wk l j).set (l.getD j 0) (placeS g rm wk (ordL g rm wk l j) (l.getD j 0) : Nat)).getD k 0 ∧ ((iordL g rm wk l j).set (l.getD j 0) (placeS g rm wk (ordL g rm wk l j) (l.getD j 0) : Nat)).getD k 0 ≤ 160
  constructor
  ·
   intro k hk
   rw [getD_setL, getD_setL, hil, hP.len]
   by_cases e : k = l.getD j 0
   ·
    rw [if_pos ⟨e, hx⟩, if_pos ⟨e, hx⟩]
   ·
    rw [if_neg (fun h => e h.1), if_neg (fun h => e h.1)]
    rcases List.mem_append.1 hk with hk | hk
    ·
     exact ih k hk
    ·
     exact absurd (List.mem_singleton.1 hk) e
  ·
   intro k
   rw [getD_setL]
   split
   ·
    omega
   ·
    exact ib k
theorem iordL_end {g : List Tk} {rm : List Int} {wk : Int} {l : List Nat} (hok : TOk g) (hp : placeB rm wk = true) (h : IsOrd g l) : iordL g rm wk l l.length = ordL g rm wk l l.length := by
 have h1 := (iordL_agree hok hp h l.length (Nat.le_refl _)).1
 have h2 := (ord_part hok hp h l.length (Nat.le_refl _)).len
 have h3 := iordL_len g rm wk l l.length
 rw [List.take_length] at h1
 refine List.ext_getElem (by omega) (fun k k1 k2 => ?_)
 have := h1 k (ord_all h (by omega))
 rwa [List.getD_eq_getElem?_getD, List.getD_eq_getElem?_getD, List.getElem?_eq_getElem k1, List.getElem?_eq_getElem k2] at this
def seaB (g : List Tk) (rm : List Int) (wk : Int) : Bool := specValid g && (decide (g.length ≤ 5) && placeB rm wk)
def osN (g : List Tk) (rm : List Int) (wk : Int) (l : List Int) : List Int := if seaB g rm wk && isOrdB g l then ordL g rm wk (nats l) l.length else []
theorem seaB_facts {g : List Tk} {rm : List Int} {wk : Int} (h : seaB g rm wk = true) : specValid g = true ∧ g.length ≤ 5 ∧ placeB rm wk = true := by
 unfold seaB at h
 rw [Bool.and_eq_true, Bool.and_eq_true, decide_eq_true_iff] at h
 exact ⟨h.1, h.2.1, h.2.2⟩
theorem osN_yes {g : List Tk} {rm : List Int} {wk : Int} {l : List Int} (h : osN g rm wk l ≠ []) : seaB g rm wk = true ∧ isOrdB g l = true ∧ osN g rm wk l = ordL g rm wk (nats l) l.length ∧ 0 < g.length := by
 unfold osN at h ⊢
 by_cases hc : (seaB g rm wk && isOrdB g l) = true
 ·
  rw [if_pos hc] at h ⊢
  rw [Bool.and_eq_true] at hc
  obtain ⟨h1, _, h3⟩ := seaB_facts hc.1
  have hO := (isOrdB_ord hc.2).1
  have hP := ord_part (specValid_TOk h1) h3 hO (nats l).length (Nat.le_refl _)
  rw [nats_len] at hP
  refine ⟨hc.1, hc.2, rfl, ?_⟩
  rw [← hP.len]
  exact List.length_pos_iff.2 h
 ·
  rw [if_neg hc] at h
  exact absurd rfl h
end Go.Proofs.YtkljcdghbefceaaGreatDoor

namespace Go.Proofs.YtkljcdghbefceaaGreatDoor
set_option linter.unusedVariables false
set_option linter.unusedSimpArgs false
open Go.RowKit Go.Shelf Bits
open Go.Proofs.YtkljcdghbefceaaGreatDoorW.PrintWords Go.Proofs.YtkljcdghbefceaaGreatDoorW.PrintLast Go.Proofs.YtkljcdghbefceaaGreatDoorW.PrintMore
attribute [local go_sem] Oper.semAt_some
set_option maxRecDepth 100000 in
theorem fewIn_yes (A : Option Addr) (c : Nat) (g : List Tk) (ns : List Nat) (A1 : Option Addr) (c1 : Nat) (rm : List Int) (wk : Int) (hp : placeB rm wk = true) (h5 : g.length ≤ 5) (w : World) (hr : kTk.C w A g.length g) (hT : Tab w) (hg : graphN g = some ns) (hr1 : (Kd.int .i64).C w A1 rm.length rm) :
  Calls Tryz.prog 31 #[.slice A g.length c, .slice A1 rm.length c1, .int .i64 wk] w fun e w' => ∃ C, e = .returned (.tuple #[.pointer (some ⟨C, 0, none⟩), .bool true]) ∧ IsGraph w' C g ns ∧ Below w.heap.size w w' := by
 have HP := Lib.hid (placeIn_yes A c g ns A1 c1 rm wk hp w hr hT hg hr1)
 have d5 : decide ((g.length : Int) > 5) = false := decide_eq_false (by omega)
 have d5' : decide ((5 : Int) < (g.length : Int)) = false := decide_eq_false (by omega)
 clear hr hT hg hr1 hp h5
 go_enter Tryz.func31, Tryz.ntmps31
 go_wp2_with (go_at_call 18; refine HP.out.mono ?_; rintro e w2 ⟨C, rfl, hI, hB⟩; have HI := Lib.hid (And.intro hI hB); clear hI hB)
 go_ret2
 exact ⟨C, rfl, HI.out.1, HI.out.2⟩
set_option maxRecDepth 100000 in
theorem fewIn_no (A : Option Addr) (c : Nat) (g : List Tk) (A1 : Option Addr) (c1 : Nat) (rm : List Int) (wk : Int) (hn : seaB g rm wk = false) (w : World) (hr : kTk.C w A g.length g) (hT : Tab w) (hr1 : (Kd.int .i64).C w A1 rm.length rm) :
  Calls Tryz.prog 31 #[.slice A g.length c, .slice A1 rm.length c1, .int .i64 wk] w fun e w' => e = .returned (.tuple #[.pointer none, .bool false]) ∧ Below w.heap.size w w' := by
 by_cases h5 : g.length ≤ 5
 ·
  have HP := Lib.hid (placeIn_no A c g A1 c1 rm wk (fun ns hg => by
   unfold seaB at hn
   rw [specValid_eq, hg, decide_eq_true h5, Bool.true_and] at hn
   simpa using hn) w hr hT hr1)
  have d5 : decide ((g.length : Int) > 5) = false := decide_eq_false (by omega)
  have d5' : decide ((5 : Int) < (g.length : Int)) = false := decide_eq_false (by omega)
  clear hr hT hr1 hn h5
  go_enter Tryz.func31, Tryz.ntmps31
  go_wp2_with (go_at_call 18; refine HP.out.mono ?_; rintro e w2 ⟨rfl, hB⟩; have HI := Lib.hid hB; clear hB)
  go_ret2
  exact ⟨rfl, HI.out⟩
 ·
  have d5 : decide ((g.length : Int) > 5) = true := decide_eq_true (by omega)
  have d5' : decide ((5 : Int) < (g.length : Int)) = true := decide_eq_true (by omega)
  clear hr hT hr1 hn h5
  go_enter Tryz.func31, Tryz.ntmps31
  go_wp2
  go_ret2
  exact ⟨rfl, Below.refl _ _⟩
theorem R_nilO (w : World) (base : Nat) : Kd.R (Kd.int .i64) 3 w base (fun _ => True) (.slice none 0 0) [] := Kd.R_of_own ⟨by simp [encs], .inl ⟨rfl, by simp [encs]⟩⟩ (fun _ _ => trivial)
end Go.Proofs.YtkljcdghbefceaaGreatDoor

namespace Go.Proofs.YtkljcdghbefceaaGreatDoor
set_option linter.unusedVariables false
set_option linter.unusedSimpArgs false
open Go.RowKit Go.Shelf Bits
def canN (g : List Tk) (l : List Nat) (i : Nat) : Bool := !decide (i ∈ l) && (rdTk g i).f1.all fun x => decide (x ∈ ints l)
def nextN2 (g : List Tk) (l : List Nat) : List Nat := (List.range g.length).filter (canN g l)
def ordersN (g : List Tk) : Nat → List Nat → List (List Nat)
 | 0, l => [l]
 | f + 1, l => (nextN2 g l).flatMap fun i => ordersN g f (l ++ [i])
def rowO (g : List Tk) (rm : List Int) (wk : Int) (l : List Nat) : List Int := l.foldl (ordSt g rm wk) (List.replicate g.length 200)
def endO (g : List Tk) (rm : List Int) (wk : Int) (l : List Nat) : Int := endS g (rowO g rm wk l) g.length
def scanO (E : List Nat → Int) (acc : Option (List Nat × Int)) (o : List Nat) : Option (List Nat × Int) := match acc with
 | none => some (o, E o)
 | some (b, x) => if E o < x then some (o, E o) else some (b, x)
def cutO (acc : Option (List Nat × Int)) (e : Int) : Bool := match acc with
 | none => false
 | some (_, x) => decide (x ≤ e)
def searchN (g : List Tk) (rm : List Int) (wk : Int) : Nat → List Nat → Int → Option (List Nat × Int) → Option (List Nat × Int)
 | 0, l, e, acc => if cutO acc e then acc else some (l, e)
 | f + 1, l, e, acc => if cutO acc e then acc else (nextN2 g l).foldl (fun a i => searchN g rm wk f (l ++ [i]) (max e ((placeS g rm wk (rowO g rm wk l) i : Nat) + (rdTk g i).f0)) a) acc
theorem scan_cut {E : List Nat → Int} {e : Int} : ∀ (os : List (List Nat)) (acc : Option (List Nat × Int)), cutO acc e = true → (∀ o ∈ os, e ≤ E o) → os.foldl (scanO E) acc = acc
 | [], acc, _, _ => rfl
 | o :: os, acc, h, ho => by
  rw [List.foldl_cons]
  have : scanO E acc o = acc := by
   cases acc with
   | none => cases h
   | some p =>
    obtain ⟨b, x⟩ := p
    have hx : x ≤ e := of_decide_eq_true h
    have := ho o List.mem_cons_self
    unfold scanO
    exact if_neg (by omega)
  rw [this]
  exact scan_cut os acc h (fun o ho2 => ho o (List.mem_cons_of_mem _ ho2))
theorem search_scan {g : List Tk} {rm : List Int} {wk : Int} {E : List Nat → Int} {X : Nat → List Nat → Int → Prop} (hE0 : ∀ l e, X 0 l e → E l = e) (hlow : ∀ f l e, X f l e → ∀ o ∈ ordersN g f l, e ≤ E o) (hX : ∀ f l e i, X (f + 1) l e → i ∈ nextN2 g l → X f (l ++ [i]) (max e ((placeS g rm wk (rowO g rm wk l) i : Nat) + (rdTk g i).f0))) :
  ∀ f l e acc, X f l e → searchN g rm wk f l e acc = (ordersN g f l).foldl (scanO E) acc
 | 0, l, e, acc, h => by
  unfold searchN ordersN
  have he := hE0 l e h
  cases acc with
  | none =>
   show some (l, e) = some (l, E l)
   rw [he]
  | some p =>
   obtain ⟨b, x⟩ := p
   show (if decide (x ≤ e) = true then some (b, x) else some (l, e)) = (if E l < x then some (l, E l) else some (b, x))
   rw [he]
   by_cases hx : x ≤ e
   ·
    rw [if_pos (decide_eq_true hx), if_neg (by omega)]
   ·
    rw [if_neg (by simp only [decide_eq_true_iff]; exact hx), if_pos (by omega)]
 | f + 1, l, e, acc, h => by
  cases hc : cutO acc e with
  | true =>
   rw [scan_cut _ acc hc (hlow (f + 1) l e h)]
   unfold searchN
   rw [hc, if_pos rfl]
  | false =>
   unfold searchN ordersN
   rw [hc, if_neg (by simp)]
   have key : ∀ (is : List Nat) (a : Option (List Nat × Int)), (∀ i ∈ is, i ∈ nextN2 g l) → is.foldl (fun a i => searchN g rm wk f (l ++ [i]) (max e ((placeS g rm wk (rowO g rm wk l) i : Nat) + (rdTk g i).f0)) a) a = (is.flatMap fun i => ordersN g f (l ++ [i])).foldl (scanO E) a := by
    intro is
    induction is with
    | nil => intro a _; rfl
    | cons i is ih =>
     intro a hi
     rw [List.foldl_cons, List.flatMap_cons, List.foldl_append, ← search_scan hE0 hlow hX f (l ++ [i]) _ a (hX f l e i h (hi i List.mem_cons_self))]
     exact ih _ (fun k hk => hi k (List.mem_cons_of_mem _ hk))
   exact key (nextN2 g l) acc (fun i hi => hi)
theorem scan_least {E : List Nat → Int} : ∀ (os : List (List Nat)) (acc : Option (List Nat × Int)), (∀ b x, acc = some (b, x) → x = E b) → (os ≠ [] ∨ acc ≠ none) → ∃ b, os.foldl (scanO E) acc = some (b, E b) ∧ (b ∈ os ∨ ∃ x, acc = some (b, x)) ∧ (∀ o ∈ os, E b ≤ E o) ∧ ∀ c x, acc = some (c, x) → E b ≤ x
 | [], acc, ha, hn => by
  cases acc with
  | none => rcases hn with h | h <;> exact absurd rfl h
  | some p =>
   obtain ⟨b, x⟩ := p
   have := ha b x rfl
   subst this
   exact ⟨b, rfl, .inr ⟨_, rfl⟩, fun o ho => absurd ho (by simp), fun c x h => by cases h; exact Int.le_refl _⟩
 | o :: os, acc, ha, _ => by
  rw [List.foldl_cons]
  have hs : ∃ c, scanO E acc o = some (c, E c) ∧ (c = o ∨ ∃ x, acc = some (c, x)) ∧ E c ≤ E o ∧ ∀ d x, acc = some (d, x) → E c ≤ x := by
   cases acc with
   | none => exact ⟨o, rfl, .inl rfl, Int.le_refl _, fun d x h => by cases h⟩
   | some p =>
    obtain ⟨b, x⟩ := p
    have hx := ha b x rfl
    unfold scanO
    show ∃ c, (if E o < x then some (o, E o) else some (b, x)) = some (c, E c) ∧ _
    by_cases h : E o < x
    ·
     rw [if_pos h]
     exact ⟨o, rfl, .inl rfl, Int.le_refl _, fun d y hd => by cases hd; omega⟩
    ·
     rw [if_neg h]
     exact ⟨b, by rw [hx], .inr ⟨x, rfl⟩, by omega, fun d y hd => by cases hd; omega⟩
  obtain ⟨c, h1, h2, h3, h4⟩ := hs
  obtain ⟨b, b1, b2, b3, b4⟩ := scan_least os (scanO E acc o) (fun b x h => by rw [h1] at h; cases h; rfl) (.inr (by rw [h1]; simp))
  refine ⟨b, b1, ?_, fun q hq => ?_, fun d x hd => ?_⟩
  ·
   rcases b2 with b2 | ⟨x, b2⟩
   ·
    exact .inl (List.mem_cons_of_mem _ b2)
   ·
    rw [h1] at b2
    cases b2
    rcases h2 with rfl | h2
    ·
     exact .inl List.mem_cons_self
    ·
     exact .inr h2
  ·
   have hbc := b4 c (E c) h1
   rcases List.mem_cons.1 hq with rfl | hq
   ·
    omega
   ·
    exact b3 q hq
  ·
   have hbc := b4 c (E c) h1
   have := h4 d x hd
   omega
end Go.Proofs.YtkljcdghbefceaaGreatDoor

namespace Go.Proofs.YtkljcdghbefceaaGreatDoor
set_option linter.unusedVariables false
set_option linter.unusedSimpArgs false
open Go.RowKit Go.Shelf Bits
theorem nats_ints (L : List Nat) : nats (ints L) = L := by
 unfold nats ints
 rw [List.map_map]
 have : (Int.toNat ∘ Int.ofNat) = id := by funext x; exact Int.toNat_natCast x
 rw [this, List.map_id]
theorem take_ints (L : List Nat) (j : Nat) : (ints L).take j = ints (L.take j) := by
 unfold ints
 rw [List.map_take]
theorem ordB_of {g : List Tk} {L : List Nat} (hv : specValid g = true) (h : IsOrd g L) : isOrdB g (ints L) = true := by
 unfold isOrdB
 rw [Bool.and_eq_true, decide_eq_true_iff, ints_length, List.all_eq_true]
 refine ⟨h.len, fun j hj => ?_⟩
 have hj := List.mem_range.1 hj
 have hm := h.lt _ (getD_mem hj)
 have hn := nodup_take h.nd hj
 unfold ordAt
 rw [ints_getD, take_ints, Int.toNat_natCast, Bool.and_eq_true, Bool.and_eq_true]
 refine ⟨inB_true.2 (by omega), ?_, ?_⟩
 ·
  rw [Bool.not_eq_true', decide_eq_false_iff_not, mem_ints]
  exact hn.2
 ·
  unfold allDoneB
  rw [List.all_eq_true]
  intro x hx
  have h0 := spec_needs_in hv _ hm x hx
  have := h.ned j hj x hx
  rw [decide_eq_true_iff, show x = ((x.toNat : Nat) : Int) by omega, mem_ints]
  exact this
theorem top_ord {g : List Tk} (hv : specValid g = true) : IsOrd g (topL g) :=
 ⟨topL_len hv, (topN_facts g g.length).2.1, (topN_facts g g.length).1, fun j hj x hx => by
  have hm := (topN_facts g g.length).2.1 _ (getD_mem hj)
  have h0 := spec_needs_in hv _ hm x hx
  exact topo_topN g g.length j hj x.toNat (by rw [show ((x.toNat : Nat) : Int) = x by omega]; exact hx)⟩
theorem os_ord {g : List Tk} {rm : List Int} {wk : Int} {L : List Nat} (hs : seaB g rm wk = true) (h : IsOrd g L) : osN g rm wk (ints L) = ordL g rm wk L L.length := by
 unfold osN
 rw [hs, ordB_of (seaB_facts hs).1 h, nats_ints, ints_length]
 rfl
theorem os_law {g : List Tk} {rm : List Int} {wk : Int} {l : List Int} (h : osN g rm wk l ≠ []) : vStB g rm wk (osN g rm wk l) = true ∧ 0 ≤ etS g rm wk (osN g rm wk l) ∧ etS g rm wk (osN g rm wk l) ≤ timeS g := by
 obtain ⟨h1, h2, h3, h4⟩ := osN_yes h
 obtain ⟨a1, a2, a3⟩ := seaB_facts h1
 have hO := (isOrdB_ord h2).1
 obtain ⟨b1, b2⟩ := ord_valid a1 a3 hO
 rw [nats_len] at b1 b2
 rw [h3]
 refine ⟨valid_vSt b1, ?_, b2⟩
 rw [etS_valid b1]
 exact endS_nonneg _ _ _
theorem top_law {g : List Tk} {rm : List Int} {wk : Int} {l : List Int} (h : osN g rm wk l ≠ []) : vStB g rm wk (osN g rm wk (ints (topL g))) = true ∧ (osN g rm wk (ints (topL g))).length = g.length := by
 obtain ⟨h1, h2, h3, h4⟩ := osN_yes h
 obtain ⟨a1, a2, a3⟩ := seaB_facts h1
 have hO := top_ord a1
 obtain ⟨b1, b2⟩ := ord_valid a1 a3 hO
 rw [os_ord h1 hO]
 exact ⟨valid_vSt b1, b1.len⟩
def plR (n : Nat) (st : List Int) (t k : Nat) : List Nat := (List.range k).filter fun i => decide (st.getD i 0 = (t : Int))
def plO (n : Nat) (st : List Int) : Nat → List Nat
 | 0 => []
 | t + 1 => plO n st t ++ plR n st t n
theorem plR_mem {n : Nat} {st : List Int} {t k i : Nat} : i ∈ plR n st t k ↔ i < k ∧ st.getD i 0 = (t : Int) := by
 unfold plR
 rw [List.mem_filter, List.mem_range, decide_eq_true_iff]
theorem plR_snoc (n : Nat) (st : List Int) (t k : Nat) : plR n st t (k + 1) = if st.getD k 0 = (t : Int) then plR n st t k ++ [k] else plR n st t k := by
 unfold plR
 rw [filter_snoc]
 by_cases h : st.getD k 0 = (t : Int)
 ·
  rw [if_pos h, decide_eq_true h, if_pos rfl]
 ·
  rw [if_neg h, decide_eq_false h, if_neg (by simp)]
theorem plO_mem {n : Nat} {st : List Int} (h0 : ∀ i, i < n → 0 ≤ st.getD i 0) : ∀ t i, i ∈ plO n st t ↔ i < n ∧ st.getD i 0 < (t : Int)
 | 0, i => by
  constructor
  ·
   intro h; exact absurd h (by simp [plO])
  ·
   rintro ⟨h1, h2⟩
   have := h0 i h1
   omega
 | t + 1, i => by
  unfold plO
  rw [List.mem_append, plO_mem h0 t i, plR_mem]
  constructor
  ·
   rintro (⟨h1, h2⟩ | ⟨h1, h2⟩)
   ·
    exact ⟨h1, by omega⟩
   ·
    exact ⟨h1, by omega⟩
  ·
   rintro ⟨h1, h2⟩
   by_cases h : st.getD i 0 = (t : Int)
   ·
    exact .inr ⟨h1, h⟩
   ·
    exact .inl ⟨h1, by omega⟩
theorem plO_pair {n : Nat} {st : List Int} (h0 : ∀ i, i < n → 0 ≤ st.getD i 0) : ∀ t, (plO n st t).Pairwise fun a b => a ≠ b ∧ st.getD a 0 ≤ st.getD b 0
 | 0 => List.Pairwise.nil
 | t + 1 => by
  unfold plO
  rw [List.pairwise_append]
  refine ⟨plO_pair h0 t, ?_, fun a ha b hb => ?_⟩
  ·
   have hn : (plR n st t n).Nodup := List.Pairwise.filter _ List.nodup_range
   have hm : ∀ a ∈ plR n st t n, st.getD a 0 = (t : Int) := fun a ha => (plR_mem.1 ha).2
   generalize plR n st t n = l at hn hm
   induction l with
   | nil => exact List.Pairwise.nil
   | cons x l ih =>
    rw [List.nodup_cons] at hn
    refine List.Pairwise.cons (fun b hb => ⟨fun e => hn.1 (e ▸ hb), ?_⟩) (ih hn.2 fun a ha => hm a (List.mem_cons_of_mem _ ha))
    rw [hm x List.mem_cons_self, hm b (List.mem_cons_of_mem _ hb)]
    exact Int.le_refl _
  ·
   have h1 := (plO_mem h0 t a).1 ha
   have h2 := plR_mem.1 hb
   exact ⟨fun e => by rw [e] at h1; omega, by omega⟩
theorem plO_len {n : Nat} {st : List Int} (h0 : ∀ i, i < n → 0 ≤ st.getD i 0) (t : Nat) : (plO n st t).length ≤ n :=
 nodup_below ((plO_pair h0 t).imp fun h => h.1) (fun i hi => ((plO_mem h0 t i).1 hi).1)
theorem range_len : ∀ (n : Nat) (l : List Nat), (∀ i, i < n → i ∈ l) → n ≤ l.length
 | 0, _, _ => Nat.zero_le _
 | n + 1, l, h => by
  have h1 := List.length_erase_of_mem (h n (Nat.lt_succ_self n))
  have h2 := range_len n (l.erase n) (fun i hi => (List.mem_erase_of_ne (by omega)).2 (h i (by omega)))
  have h3 := List.length_pos_of_mem (h n (Nat.lt_succ_self n))
  omega
theorem getD_pair {R : Nat → Nat → Prop} {l : List Nat} (h : l.Pairwise R) {j k : Nat} (hj : j < k) (hk : k < l.length) : R (l.getD j 0) (l.getD k 0) := by
 rw [List.getD_eq_getElem?_getD, List.getD_eq_getElem?_getD, List.getElem?_eq_getElem (by omega), List.getElem?_eq_getElem hk]
 exact List.pairwise_iff_getElem.1 h j k (by omega) hk hj
theorem plO_ord {g : List Tk} {rm : List Int} {wk : Int} {st : List Int} (hs : Valid g rm wk st) (h200 : ∀ i, i < g.length → st.getD i 0 ≤ 200) : IsOrd g (plO g.length st 201) := by
 have h0 : ∀ i, i < g.length → 0 ≤ st.getD i 0 := fun i hi => (hs.b i hi).1
 have hall : ∀ i, i < g.length → i ∈ plO g.length st 201 := fun i hi => (plO_mem h0 201 i).2 ⟨hi, by have := h200 i hi; omega⟩
 have hP := plO_pair h0 201
 have hlt : ∀ i ∈ plO g.length st 201, i < g.length := fun i hi => ((plO_mem h0 201 i).1 hi).1
 refine ⟨Nat.le_antisymm (plO_len h0 201) (range_len _ _ hall), hlt, hP.imp fun h => h.1, fun j hj x hx => ?_⟩
 generalize plO g.length st 201 = L at hall hP hlt hj hx
 have hm := hlt _ (getD_mem hj)
 have hx0 := spec_needs_in hs.v _ hm x hx
 have hn := hs.needs _ hm x.toNat (by rw [show ((x.toNat : Nat) : Int) = x by omega]; exact hx)
 have ht := hs.ok.2.1 x.toNat
 have ht1 := hs.ok.2.2.2.2 x.toNat (by omega)
 obtain ⟨q, hq, e⟩ := List.getElem_of_mem (hall x.toNat (by omega))
 have eq : L.getD q 0 = x.toNat := by rw [List.getD_eq_getElem?_getD, List.getElem?_eq_getElem hq]; exact e
 by_cases hqj : q < j
 ·
  rw [← e]
  exact List.mem_take_iff_getElem.2 ⟨q, by omega, rfl⟩
 ·
  exfalso
  by_cases hqe : q = j
  ·
   subst hqe
   rw [eq] at hn
   omega
  ·
   have := (getD_pair hP (show j < q by omega) hq).2
   rw [eq] at this
   omega
theorem planO_law {g : List Tk} {rm : List Int} {wk : Int} (h1 : seaB g rm wk = true) (hg : 0 < g.length) : (osN g rm wk (ints (plO g.length (pS g rm wk) 201))).length = g.length ∧ ∀ i, i < g.length → (osN g rm wk (ints (plO g.length (pS g rm wk) 201))).getD i 0 ≤ (pS g rm wk).getD i 0 := by
 obtain ⟨a1, a2, a3⟩ := seaB_facts h1
 have hpe : pS g rm wk = planS g rm wk := by unfold pS; rw [a1, a3]; rfl
 have hV := plan_valid a1 a3
 have hne : pS g rm wk ≠ [] := by
  rw [hpe]
  intro e
  have := hV.len
  rw [e] at this
  simp at this
  omega
 obtain ⟨t1, _⟩ := plan_twice_law hne
 rw [hpe] at t1 ⊢
 have hts := sumTo_bound (f := fun i => (rdTk g i).f0) (a := 0) (b := 20) g.length (fun i _ => hV.ok.2.1 i)
 have h200 : ∀ i, i < g.length → (planS g rm wk).getD i 0 + (rdTk g i).f0 ≤ 200 := fun i hi => by
  have := etS_ge hV hi
  have h3 : timeS g = sumTo (fun i => (rdTk g i).f0) g.length := rfl
  omega
 have hO := plO_ord hV (fun i hi => (hV.b i hi).2)
 have h0 : ∀ i, i < g.length → 0 ≤ (planS g rm wk).getD i 0 := fun i hi => (hV.b i hi).1
 have hd := ord_dom hV h200 hO (fun j k hj hk => (getD_pair (plO_pair h0 201) hj hk).2) (plO g.length (planS g rm wk) 201).length (Nat.le_refl _)
 rw [List.take_length] at hd
 have hL := (ord_valid a1 a3 hO).1.len
 rw [os_ord h1 hO]
 exact ⟨hL, fun i hi => hd i (ord_all hO hi)⟩
end Go.Proofs.YtkljcdghbefceaaGreatDoor

namespace Go.Proofs.YtkljcdghbefceaaGreatDoor
set_option linter.unusedVariables false
set_option linter.unusedSimpArgs false
open Go.RowKit Go.Shelf Bits
def upI (n b : Int) : Int := Int.tdiv (n + b - 1) b
def poolF (g : List Tk) (p : Int) (i : Nat) : Int := if (rdTk g i).f2 = p then (rdTk g i).f0 * (rdTk g i).f3 else 0
def poolW (g : List Tk) (p : Int) : Int := sumTo (poolF g p) g.length
def poolS (g : List Tk) (p r : Int) : Int := if specValid g && (inB p 0 2 && inB r 4 8) then upI (poolW g p) r else -1
def leastN (g : List Tk) (rm : List Int) (wk : Int) : Nat → Int
 | 0 => max (longestN g) (upI (timeS g) wk)
 | p + 1 => max (leastN g rm wk p) (poolS g p (rm.getD p 0))
def leS (g : List Tk) (rm : List Int) (wk : Int) : Int := if specValid g && placeB rm wk then leastN g rm wk 3 else -1
theorem upI_le {n b k : Int} (hn : 0 ≤ n) (hb : 1 ≤ b) (h : n ≤ k * b) : upI n b ≤ k := by
 unfold upI
 rw [Int.tdiv_eq_ediv_of_nonneg (by omega)]
 have : (n + b - 1) / b < k + 1 := Int.ediv_lt_of_lt_mul (by omega) (by rw [Int.add_mul]; omega)
 omega
theorem upI_mul {n b : Int} (hn : 0 ≤ n) (hb : 1 ≤ b) : n ≤ upI n b * b := by
 unfold upI
 rw [Int.tdiv_eq_ediv_of_nonneg (by omega)]
 have h1 := Int.emod_add_mul_ediv (n + b - 1) b
 have h2 := Int.emod_lt_of_pos (n + b - 1) (show 0 < b by omega)
 rw [Int.mul_comm] at h1
 omega
theorem upI_nonneg {n b : Int} (hn : 0 ≤ n) (hb : 1 ≤ b) : 0 ≤ upI n b := by
 unfold upI
 exact Int.tdiv_nonneg (by omega) (by omega)
theorem poolF_bound {g : List Tk} (hok : TOk g) (p : Int) (i : Nat) : 0 ≤ poolF g p i ∧ poolF g p i ≤ 80 := by
 have h2 := hok.2.1 i
 have h3 := hok.2.2.2.1 i
 unfold poolF
 split
 ·
  have := Int.mul_nonneg (show 0 ≤ (rdTk g i).f0 by omega) (show 0 ≤ (rdTk g i).f3 by omega)
  have : (rdTk g i).f0 * (rdTk g i).f3 ≤ 20 * 4 := Int.mul_le_mul (by omega) (by omega) (by omega) (by omega)
  omega
 ·
  omega
theorem poolSum_bound {g : List Tk} (hok : TOk g) (p : Int) (n : Nat) (hn : n ≤ 8) : 0 ≤ sumTo (poolF g p) n ∧ sumTo (poolF g p) n ≤ 640 := by
 have := sumTo_bound (f := poolF g p) (a := 0) (b := 80) n (fun i _ => poolF_bound hok p i)
 omega
theorem poolW_bound {g : List Tk} (hok : TOk g) (p : Int) : 0 ≤ poolW g p ∧ poolW g p ≤ 640 := poolSum_bound hok p _ hok.1
theorem poolS_is {g : List Tk} (hv : specValid g = true) {p r : Int} (hp : 0 ≤ p ∧ p ≤ 2) (hr : 4 ≤ r ∧ r ≤ 8) : poolS g p r = upI (poolW g p) r := by
 unfold poolS
 rw [hv, inB_true.2 hp, inB_true.2 hr]
 rfl
theorem leastN_le {g : List Tk} {rm : List Int} {wk k : Int} (h0 : longestN g ≤ k) (h1 : upI (timeS g) wk ≤ k) (h2 : ∀ p : Nat, p < 3 → poolS g p (rm.getD p 0) ≤ k) : ∀ m, m ≤ 3 → leastN g rm wk m ≤ k
 | 0, _ => by unfold leastN; omega
 | m + 1, hm => by
  have := leastN_le h0 h1 h2 m (by omega)
  have := h2 m (by omega)
  unfold leastN
  omega
theorem leastN_ge (g : List Tk) (rm : List Int) (wk : Int) : ∀ m, longestN g ≤ leastN g rm wk m ∧ upI (timeS g) wk ≤ leastN g rm wk m ∧ ∀ p : Nat, p < m → poolS g p (rm.getD p 0) ≤ leastN g rm wk m
 | 0 => by
  refine ⟨?_, ?_, fun p hp => absurd hp (Nat.not_lt_zero _)⟩ <;> unfold leastN <;> omega
 | m + 1 => by
  obtain ⟨h1, h2, h3⟩ := leastN_ge g rm wk m
  refine ⟨?_, ?_, fun p hp => ?_⟩ <;> unfold leastN
  ·
   omega
  ·
   omega
  ·
   by_cases e : p = m
   ·
    subst e
    omega
   ·
    have := h3 p (by omega)
    omega
theorem leS_is {g : List Tk} (hv : specValid g = true) {rm : List Int} {wk : Int} (hp : placeB rm wk = true) : leS g rm wk = leastN g rm wk 3 := by
 unfold leS
 rw [hv, hp]
 rfl
theorem end_least {g : List Tk} {rm : List Int} {wk : Int} {st : List Int} (h : Valid g rm wk st) : leS g rm wk ≤ etS g rm wk st := by
 rw [leS_is h.v h.p, etS_valid h]
 obtain ⟨hrm, hwk, _⟩ := placeB_facts h.p
 obtain ⟨w1, w2⟩ := h.work
 have hE := endS_nonneg g st g.length
 refine leastN_le (longest_le h.v (fun i hi => (h.b i hi).1) (fun k hk i hi => h.needs k hk i hi)) (upI_le (timeS_bound h.ok).1 hwk w1) (fun p hp => ?_) 3 (Nat.le_refl _)
 have hr := (roomB_facts hrm).2 p hp
 rw [poolS_is h.v (by omega) hr]
 exact upI_le (poolW_bound h.ok p).1 (by omega) (w2 p hp)
theorem least_more {g : List Tk} (hv : specValid g = true) {rm : List Int} {wk : Int} (hp : placeB rm wk = true) (h4 : wk ≠ 4) : leS g rm (wk + 1) ≤ leS g rm wk := by
 obtain ⟨hrm, h1, h2⟩ := placeB_facts hp
 have hp1 : placeB rm (wk + 1) = true := by
  unfold placeB
  rw [hrm, Bool.true_and]
  exact inB_true.2 (by omega)
 rw [leS_is hv hp, leS_is hv hp1]
 obtain ⟨g1, g2, g3⟩ := leastN_ge g rm wk 3
 have hT := timeS_bound (specValid_TOk hv)
 have hm := upI_mul hT.1 h1
 have hu := upI_nonneg hT.1 h1
 refine leastN_le g1 (Int.le_trans (upI_le hT.1 (by omega) ?_) g2) g3 3 (Nat.le_refl _)
 rw [Int.mul_add, Int.mul_one]
 omega
theorem leS_nonneg {g : List Tk} {rm : List Int} {wk : Int} (h : 0 ≤ leS g rm wk) : specValid g = true ∧ placeB rm wk = true := by
 unfold leS at h
 by_cases hc : (specValid g && placeB rm wk) = true
 ·
  rwa [Bool.and_eq_true] at hc
 ·
  rw [if_neg hc] at h
  omega
theorem plan_end_least {g : List Tk} {rm : List Int} {wk : Int} (h : 0 ≤ leS g rm wk) : leS g rm wk ≤ etS g rm wk (pS g rm wk) := by
 obtain ⟨hv, hp⟩ := leS_nonneg h
 rw [pS_is hv hp]
 exact end_least (plan_valid hv hp)
end Go.Proofs.YtkljcdghbefceaaGreatDoor
