/- Parts of the proof, laid as one text by a program of mine. -/
import Derived.Test.YtdjdfbfcjajlkaaDoorKcc12
import Derived.Test.YtdjdfbfcjajlkaaDoorKcc4
import Derived.Test.YtdjdfbfcjajlkaaDoorKcc11
import Derived.Deep.RegionHeld3
import Derived.Test.YtdjdfbfcjajlkaaDoorKcc7
namespace Go.Proofs.YtdjdfbfcjajlkaaDoor
set_option linter.unusedVariables false
set_option linter.unusedSimpArgs false
open Go.RowKit Go.Shelf Bits
open Go.Proofs.YtdjdfbfcjajlkaaDoorW.PrintWords Go.Proofs.YtdjdfbfcjajlkaaDoorW.PrintLast Go.Proofs.YtdjdfbfcjajlkaaDoorW.PrintMore
def overB (g : List Tk) (st : List Int) (now : Int) (i : Nat) : Bool := decide (st.getD i 0 + (rdTk g i).f0 ≤ now)
def overS (g : List Tk) (st : List Int) (now : Int) : List Nat := (List.range g.length).filter (overB g st now)
def idleB (st : List Int) (i : Nat) : Bool := st.getD i 0 == 200
def nextS (g : List Tk) (rm : List Int) (wk : Int) (st : List Int) (now : Int) : List Nat :=
 (admN g rm wk (cnt g (runS g st now)) (insL (tailsS g) ((readyS g (ints (overS g st now))).filter (idleB st)))).2
def putS (now : Int) (st : List Int) (l : List Nat) : List Int := l.foldl (fun s i => s.set i now) st
def stepS (g : List Tk) (rm : List Int) (wk : Int) (st : List Int) (now : Nat) : List Int := putS now st (nextS g rm wk st now)
def planL (g : List Tk) (rm : List Int) (wk : Int) : Nat → List Int
 | 0 => List.replicate g.length 200
 | k + 1 => stepS g rm wk (planL g rm wk k) k
def planS (g : List Tk) (rm : List Int) (wk : Int) : List Int := planL g rm wk 200
def StOk (n : Nat) (st : List Int) : Prop := st.length = n ∧ ∀ i, 0 ≤ st.getD i 0 ∧ st.getD i 0 ≤ 200
theorem StOk.set {n : Nat} {st : List Int} (h : StOk n st) (i : Nat) {x : Int} (hx : 0 ≤ x ∧ x ≤ 200) : StOk n (st.set i x) := by
 refine ⟨by rw [List.length_set]; exact h.1, fun j => ?_⟩
 have := h.2 j
 rw [List.getD_eq_getElem?_getD, List.getElem?_set]
 rw [List.getD_eq_getElem?_getD] at this
 split
 ·
  split
  ·
   exact hx
  ·
   simp
 ·
  exact this
theorem putS_ok {n : Nat} {now : Int} (hn : 0 ≤ now ∧ now ≤ 200) : ∀ (l : List Nat) {st : List Int}, StOk n st → StOk n (putS now st l)
 | [], _, h => h
 | i :: l, st, h => putS_ok hn l (st := st.set i now) (h.set i hn)
theorem putS_snoc (now : Int) (st : List Int) (l : List Nat) (i : Nat) : putS now st (l ++ [i]) = (putS now st l).set i now := by
 unfold putS
 rw [List.foldl_append]
 rfl
theorem planL_ok (g : List Tk) (rm : List Int) (wk : Int) : ∀ k, k ≤ 200 → StOk g.length (planL g rm wk k)
 | 0, _ => by
  refine ⟨by unfold planL; simp, fun i => ?_⟩
  unfold planL
  rw [List.getD_eq_getElem?_getD, List.getElem?_replicate]
  split <;> simp
 | k + 1, hk => putS_ok (by omega) _ (planL_ok g rm wk k (by omega))
theorem insL_len (T : List Int) (xs : List Nat) : (insL T xs).length = xs.length := (insL_perm T xs).length_eq
theorem insL_mem (T : List Int) (xs : List Nat) : ∀ x ∈ insL T xs, x ∈ xs := fun x hx => (insL_perm T xs).mem_iff.1 hx
theorem nextS_lt (g : List Tk) (rm : List Int) (wk : Int) (st : List Int) (now : Int) : ∀ x ∈ nextS g rm wk st now, x < g.length := by
 intro x hx
 have h1 := admN_sub g rm wk (cnt g (runS g st now)) (insL (tailsS g) ((readyS g (ints (overS g st now))).filter (idleB st))) _ (Nat.le_refl _) x (by rw [List.take_length]; exact hx)
 exact List.mem_range.1 (List.mem_filter.1 (List.mem_filter.1 (insL_mem _ _ x h1)).1).1
theorem waitS_len (g : List Tk) (st : List Int) (d : List Int) : ((readyS g d).filter (idleB st)).length ≤ g.length := Nat.le_trans (List.length_filter_le _ _) (filter_range_le _ _)
theorem nextS_len {g : List Tk} (hg : TOk g) (rm : List Int) (wk : Int) (st : List Int) (now : Int) : (nextS g rm wk st now).length ≤ 8 := by
 have h2 := (admN_facts hg rm wk (c := cnt g (runS g st now)) (cnt_small100 hg (Nat.le_trans (filter_range_le _ _) (by have := hg.1; omega))) (insL (tailsS g) ((readyS g (ints (overS g st now))).filter (idleB st))) _ (Nat.le_refl _)).2
 rw [List.take_length, insL_len] at h2
 have := waitS_len g st (ints (overS g st now))
 have := hg.1
 unfold nextS
 omega
def rep200 (n j : Nat) : List Int := List.replicate j 200 ++ List.replicate (n - j) 0
theorem IRow.below {W W' : World} {b : Nat} {xs : List Int} (h : IRow W b xs) (hb : Below W.heap.size W W') : IRow W' b xs := (hb.block b (blk_lt h)).trans h
theorem rep200_len {n j : Nat} (h : j ≤ n) : (rep200 n j).length = n := by
 unfold rep200
 simp
 omega
theorem rep200_set {n j : Nat} (h : j < n) : (rep200 n j).set j 200 = rep200 n (j + 1) := by
 unfold rep200
 rw [List.set_append_right _ _ (by simp), show n - j = (n - (j + 1)) + 1 by omega, List.replicate_succ, List.replicate_succ']
 simp
set_option maxRecDepth 1000000 in
set_option maxHeartbeats 8000000 in
theorem plan_calls (A : Option Addr) (c : Nat) (g : List Tk) (A1 : Option Addr) (c1 : Nat) (rm : List Int) (wk : Int) (hv : specValid g = true) (hrm : rm.length = 3) (w : World) (hr : kTk.C w A g.length g) (hr1 : (Kd.int .i64).C w A1 rm.length rm) :
  Calls Tryd.prog 52 #[.slice A g.length c, .slice A1 rm.length c1, .int .i64 wk] w fun e w' => ∃ v, e = .returned v ∧ Kd.R (Kd.int .i64) 3 w' w.heap.size (fun _ => True) v (planS g rm wk) ∧ Below w.heap.size w w' := by
 have hok := specValid_TOk hv
 have h8 := hok.1
 have HR := Lib.hid hr
 have HR1 := Lib.hid hr1
 have HG := Lib.hid hok
 have HV := Lib.hid hv
 have HRM := Lib.hid hrm
 have hmk := run_makeI g.length (by omega)
 clear hr hr1 hok hv hrm
 go_enter Tryd.func52, Tryd.ntmps52
 go_wp2
 have hI0 : IRow (w.alloc (.cells (zeroI g.length) 3)) w.heap.size (rep200 g.length 0) := by
  unfold rep200
  exact World.alloc_heap_new w _
 have hB0 : Below w.heap.size w (w.alloc (.cells (zeroI g.length) 3)) := (Below.refl _ _).alloc (Nat.le_refl _) _
 clear hmk
 go_loopw [8] (fun i wr => ∃ j, j ≤ g.length ∧ i = .int .i64 (j : Nat) ∧ IRow wr w.heap.size (rep200 g.length j) ∧ Below w.heap.size w wr) (fun i _ => g.length - (intOf i).toNat)
 case atStart => exact ⟨0, Nat.zero_le _, rfl, hI0, hB0⟩
 case round =>
  clear hI0 hB0
  obtain ⟨j, hj, rfl, hI, hB⟩ := hrel
  by_cases hjl : j < g.length
  ·
   have hjj : decide ((j : Int) < (g.length : Int)) = true := decide_eq_true (by omega)
   have hji : (j : Int) < (g.length : Int) := by omega
   have cc := hI.cell j (by rw [rep200_len (by omega)]; exact hjl)
   have ff := hI.frozen j
   go_wp2
   go_roundw
   case rel =>
    refine ⟨j + 1, by omega, by go_num, ?_, hB.setCell (p := ⟨w.heap.size, j, none⟩) (Nat.le_refl _) _⟩
    rw [← rep200_set hjl]
    exact hI.set j 200
   case measure => simp [intOf]; omega
  ·
   obtain rfl : j = g.length := by omega
   have hjj : decide ((g.length : Int) < (g.length : Int)) = false := decide_eq_false (by omega)
   have hI1 : IRow wr w.heap.size (planL g rm wk 0) := by
    unfold rep200 at hI
    rw [Nat.sub_self] at hI
    unfold planL
    simpa using hI
   clear hI
   go_wp2
   go_loopw [9] (fun now wr => ∃ k, k ≤ 200 ∧ now = .int .i64 (k : Nat) ∧ IRow wr w.heap.size (planL g rm wk k) ∧ Below w.heap.size w wr) (fun now _ => 200 - (intOf now).toNat)
   case atStart => exact ⟨0, Nat.zero_le _, rfl, hI1, hB⟩
   case round =>
    clear hI1 hB hjj
    obtain ⟨k, hk, rfl, hI, hB⟩ := hrel
    by_cases hkl : k < 200
    ·
     have hkk : decide ((k : Int) < 200) = true := decide_eq_true (by omega)
     have hST := planL_ok g rm wk k hk
     have HSTEP : Hid (planL g rm wk (k + 1) = stepS g rm wk (planL g rm wk k) k) := Lib.hid rfl
     generalize planL g rm wk k = st at hI hST HSTEP
     obtain ⟨wo, rfl⟩ : ∃ wo : World, wo = wr := ⟨_, rfl⟩
     have HI := Lib.hid hI
     have HST := Lib.hid hST
     have HB := Lib.hid hB
     clear hI hST hB
     go_wp2
     have HO : Kd.R (Kd.int .i64) 3 (wo.alloc (.cells #[] 3)) wo.heap.size (fun _ => True) (.slice (some ⟨wo.heap.size, 0, none⟩) 0 0) (ints []) := Kd.R_of_own (World.ownsRow_lit (base := wo.heap.size) (size := 1) wo #[] 0 (Nat.le_refl _) (by simp [maxLen]) rfl) (fun _ _ => trivial)
     have HBa : Below wo.heap.size wo (wo.alloc (.cells #[] 3)) := (Below.refl _ _).alloc (Nat.le_refl _) _
     go_loopw [10, 11] (fun out i wi => ∃ j, j ≤ g.length ∧ i = .int .i64 (j : Nat) ∧ Kd.R (Kd.int .i64) 3 wi wo.heap.size (fun _ => True) out (ints ((List.range j).filter (overB g st k))) ∧ Below wo.heap.size wo wi) (fun _ i _ => g.length - (intOf i).toNat)
     case atStart => exact ⟨0, Nat.zero_le _, rfl, HO, HBa⟩
     case round =>
      clear HO HBa
      obtain ⟨j, hj, rfl, hO, hBi⟩ := hrel
      by_cases hjl : j < g.length
      ·
       have hjj : decide ((j : Int) < (g.length : Int)) = true := decide_eq_true (by omega)
       have hji : (j : Int) < (g.length : Int) := by omega
       obtain ⟨ad, A4, c4, rfl, hc0, _⟩ := at_Tk (Kd.C_below HR.out (HB.out.trans (hBi.mono HB.out.size))) j hjl
       have cs := (HI.out.below hBi).cell j (by rw [HST.out.1]; exact hjl)
       have HFS : Hid ((List.range (j + 1)).filter (overB g st k) = if overB g st k j then (List.range j).filter (overB g st k) ++ [j] else (List.range j).filter (overB g st k)) := Lib.hid (filter_snoc j)
       have hfl := filter_range_le (overB g st k) j
       have HBD : Hid (overB g st k j = decide (st.getD j 0 + (rdTk g j).f0 ≤ (k : Int))) := Lib.hid rfl
       generalize (List.range j).filter (overB g st k) = fl at hO HFS hfl
       have hsj := HST.out.2 j
       have htj := HG.out.2.1 j
       generalize st.getD j 0 = s at cs hsj HBD
       generalize (rdTk g j).f0 = tm at hc0 htj HBD
       have hwr : IntKind.i64.wrap (s + tm) = s + tm := IntWalk.i64_in _ (by omega)
       have hol : (ints fl).length < 1000000 := by rw [ints_length]; omega
       have HOB := Lib.hid (And.intro hO hBi)
       clear hO hBi
       by_cases h1 : s + tm ≤ (k : Int)
       ·
        have d1 : decide (s + tm ≤ (k : Int)) = true := decide_eq_true h1
        rw [d1] at HBD
        clear h1
        go_wp2
        go_quiet (fail)
        clear hwr
        have hO2 := Kd.R_drewN HOB.out.1 nq
        have hB2 := pw_below_drewN HOB.out.2 nq
        go_wp2_with (at_builtin; refine ap_int (w0 := wo) wo.heap.size rfl _ _ rfl u10 (ints fl) (j : Int) rfl rfl rfl hO2 hB2 hB2.size hol ?_; intro v1 w2 hO3 hB3 hg3 hat3; clear hg3 hat3)
        go_roundw
        case rel => exact ⟨j + 1, by omega, by go_num, by rw [HFS.out, HBD.out]; simpa [ints] using hO3, hB3⟩
        case measure => simp [intOf]; omega
       ·
        have d1 : decide (s + tm ≤ (k : Int)) = false := decide_eq_false h1
        rw [d1] at HBD
        clear h1
        go_wp2
        go_quiet (fail)
        clear hwr
        go_wp2
        go_roundw
        case rel => exact ⟨j + 1, by omega, by go_num, by rw [HFS.out, HBD.out]; exact Kd.R_drewN HOB.out.1 _, pw_below_drewN HOB.out.2 _⟩
        case measure => simp [intOf]; omega
      ·
       obtain rfl : j = g.length := by omega
       have hjj : decide ((g.length : Int) < (g.length : Int)) = false := decide_eq_false (by omega)
       obtain ⟨Ad, cd, rfl, _, hCd⟩ := Kd.R_reads hO
       rw [ints_length] at hCd ⊢
       obtain ⟨w2, rfl⟩ : ∃ w2 : World, w2 = wr := ⟨_, rfl⟩
       rw [show List.filter (overB g st k) (List.range g.length) = overS g st k from rfl] at hCd ⊢
       have HBo : Hid (Below w.heap.size w w2) := Lib.hid (HB.out.trans (hBi.mono HB.out.size))
       have HI2 := Lib.hid (HI.out.below hBi)
       have hBa : Below w2.heap.size w2 (w2.alloc (.cells #[] 3)) := (Below.refl _ _).alloc (Nat.le_refl _) _
       have hsr := sready_calls A c g Ad cd (ints (overS g st k)) h8 (w2.alloc (.cells #[] 3)) (Kd.C_below HR.out (HBo.out.trans (hBa.mono HBo.out.size))) (by rw [ints_length]; exact Kd.C_below hCd hBa)
       rw [ints_length] at hsr
       have HSR := Lib.hid hsr
       have HO2 : Kd.R (Kd.int .i64) 3 (w2.alloc (.cells #[] 3)) w2.heap.size (fun _ => True) (.slice (some ⟨w2.heap.size, 0, none⟩) 0 0) (ints []) := Kd.R_of_own (World.ownsRow_lit (base := w2.heap.size) (size := 1) w2 #[] 0 (Nat.le_refl _) (by simp [maxLen]) rfl) (fun _ _ => trivial)
       have HX := Lib.hid (And.intro HO2 hBa)
       clear hsr hO hCd hBi HO2 hBa
       go_wp2_with (go_at_call 83; refine HSR.out.mono ?_; rintro e w3 ⟨v3, rfl, hR3, hB3⟩)
       have HT3 : Two w3 w2.heap.size (.slice (some ⟨w2.heap.size, 0, none⟩) 0 0) v3 (ints []) (ints (readyS g (ints (overS g st k)))) := ⟨Kd.R_below HX.out.1 hB3, Kd.R_lower hR3 (by simp), fun q h1 h2 => by
        have h3 := ((Kd.R_bound hR3).1 q h2).2.1
        simp [Value.ownBlock] at h1
        simp at h3
        omega⟩
       have HB3 : Below w2.heap.size w2 w3 := HX.out.2.trans (hB3.mono (by simp))
       clear hR3 hB3
       have hcl : (readyS g (ints (overS g st k))).length ≤ 8 := Nat.le_trans (filter_range_le _ _) h8
       have HCM : Hid (∀ x ∈ readyS g (ints (overS g st k)), x < g.length) := Lib.hid (fun x hx => List.mem_range.1 (List.mem_filter.1 hx).1)
       have HNX : Hid (nextS g rm wk st k = (admN g rm wk (cnt g (runS g st k)) (insL (tailsS g) ((readyS g (ints (overS g st k))).filter (idleB st)))).2) := Lib.hid rfl
       generalize readyS g (ints (overS g st k)) = can at HT3 hcl HCM HNX
       obtain ⟨A3, c3, rfl, _, _⟩ := Kd.R_reads HT3.b
       rw [ints_length] at HT3 ⊢
       go_loopw [12, 14] (fun out i wr => ∃ j, j ≤ can.length ∧ i = .int .i64 (j : Nat) ∧ Two wr w2.heap.size out (.slice A3 can.length c3) (ints ((can.take j).filter (idleB st))) (ints can) ∧ Below w2.heap.size w2 wr) (fun _ i _ => can.length - (intOf i).toNat)
       case atStart => exact ⟨0, Nat.zero_le _, rfl, HT3, HB3⟩
       case round =>
        clear HT3 HB3
        obtain ⟨j, hj, rfl, hT, hBi⟩ := hrel
        by_cases hjl : j < can.length
        ·
         have hjj : decide ((j : Int) < (can.length : Int)) = true := decide_eq_true (by omega)
         have hji : (j : Int) < (can.length : Int) := by omega
         obtain ⟨A5, c5, e5, _, hCn⟩ := Kd.R_reads hT.b
         rw [ints_length] at e5 hCn
         cases e5
         obtain ⟨ad, rfl, cx⟩ := at_set hCn j hjl
         have hxg : can.getD j 0 < g.length := by
          apply HCM.out
          rw [List.getD_eq_getElem?_getD, List.getElem?_eq_getElem hjl]
          exact List.getElem_mem _
         have HFS : Hid ((can.take (j + 1)).filter (idleB st) = if idleB st (can.getD j 0) then (can.take j).filter (idleB st) ++ [can.getD j 0] else (can.take j).filter (idleB st)) := Lib.hid (by
          rw [List.take_succ_eq_append_getElem hjl, List.filter_append, List.getD_eq_getElem?_getD, List.getElem?_eq_getElem hjl]
          cases hq : idleB st can[j] <;> simp [hq])
         have hfl : ((can.take j).filter (idleB st)).length ≤ 8 := Nat.le_trans (List.length_filter_le _ _) (by rw [List.length_take]; omega)
         generalize (can.take j).filter (idleB st) = fl at hT HFS hfl
         generalize can.getD j 0 = x at cx hxg HFS
         have cs := (HI2.out.below hBi).cell x (by rw [HST.out.1]; exact hxg)
         have hxi : (x : Int) < (g.length : Int) := by omega
         have HID : Hid (idleB st x = (st.getD x 0 == 200)) := Lib.hid rfl
         generalize st.getD x 0 = s at cs HID
         have hol : (ints fl).length < 1000000 := by rw [ints_length]; omega
         have HTB := Lib.hid (And.intro hT hBi)
         have hta := hT.a
         have hbs := hBi.size
         by_cases h1 : s = 200
         ·
          have d1 : (s == 200) = true := beq_iff_eq.2 h1
          rw [d1] at HID
          clear h1
          go_wp2_with (at_builtin; refine ap_int (w0 := w2) w2.heap.size rfl _ _ rfl u12 (ints fl) (x : Int) rfl rfl rfl hta hBi hbs hol ?_; intro v1 w4 hO4 hB4 hg4 hat4; have hT4 := HTB.out.1.grow hO4 hg4 hat4; clear hg4 hat4)
          go_roundw
          case rel => exact ⟨j + 1, by omega, by go_num, by rw [HFS.out, HID.out]; simpa [ints] using hT4, hB4⟩
          case measure => simp [intOf]; omega
         ·
          have d1 : (s == 200) = false := by rw [beq_eq_false_iff_ne]; exact h1
          rw [d1] at HID
          clear h1
          go_wp2
          go_roundw
          case rel => exact ⟨j + 1, by omega, by go_num, by rw [HFS.out, HID.out]; exact HTB.out.1, HTB.out.2⟩
          case measure => simp [intOf]; omega
        ·
         obtain rfl : j = can.length := by omega
         have hjj : decide ((can.length : Int) < (can.length : Int)) = false := decide_eq_false (by omega)
         rw [List.take_length] at hT
         obtain ⟨w5, rfl⟩ : ∃ w5 : World, w5 = wr := ⟨_, rfl⟩
         have HB5 := Lib.hid (HBo.out.trans (hBi.mono HBo.out.size))
         have HI5 := Lib.hid (HI2.out.below hBi)
         have HWM : Hid (∀ x ∈ can.filter (idleB st), x < g.length) := Lib.hid (fun x hx => HCM.out x (List.mem_filter.1 hx).1)
         have hwl : (can.filter (idleB st)).length ≤ 100 := Nat.le_trans (List.length_filter_le _ _) (by omega)
         have hwl8 : (can.filter (idleB st)).length ≤ 16 := Nat.le_trans (List.length_filter_le _ _) (by omega)
         generalize can.filter (idleB st) = wt at hT HNX HWM hwl hwl8
         obtain ⟨A6, c6, rfl, _, hC6⟩ := Kd.R_reads hT.a
         rw [ints_length] at hC6 ⊢
         have HC6 := Lib.hid hC6
         obtain ⟨l, hl⟩ : ∃ l, l = insL (tailsS g) wt := ⟨_, rfl⟩
         have hll : l.length ≤ 16 := by rw [hl, insL_len]; exact hwl8
         have HLM : Hid (∀ x ∈ l, x < g.length) := Lib.hid (fun x hx => HWM.out x (insL_mem _ _ x (hl ▸ hx)))
         rw [← hl] at HNX
         have HL := Lib.hid hl
         have hra := runningAt_calls A c g (some ⟨w.heap.size, 0, none⟩) g.length st k HG.out (fun i => by have := HST.out.2 i; omega) HST.out.1 w5 (Kd.C_below HR.out HB5.out) (by
          obtain ⟨A9, c9, e9, _, h9⟩ := Kd.R_reads (HI5.out.own (base := w.heap.size) (Nat.le_refl _) (by rw [HST.out.1]; omega))
          cases e9
          exact h9)
         rw [HST.out.1] at hra
         have HRA := Lib.hid hra
         have hrn : (runS g st k).length ≤ 50 := Nat.le_trans (filter_range_le _ _) (by omega)
         have HRN : Hid (∀ x ∈ runS g st k, x < g.length) := Lib.hid (fun x hx => List.mem_range.1 (List.mem_filter.1 hx).1)
         generalize runS g st k = run at HRA hrn HRN HNX
         have HNL : Hid ((nextS g rm wk st k).length ≤ 8 ∧ ∀ x ∈ nextS g rm wk st k, x < g.length) := Lib.hid ⟨nextS_len HG.out rm wk st k, nextS_lt g rm wk st k⟩
         have HSTEP2 : Hid (planL g rm wk (k + 1) = putS k st (nextS g rm wk st k)) := Lib.hid HSTEP.out
         clear hT hBi hC6 hl hra
         go_wp2_with (first
          | (go_at_call 61; refine HRA.out.mono ?_; rintro e w6 ⟨v6, rfl, hR6, hB6⟩; obtain ⟨A7, c7, rfl, hc7, hC7⟩ := Kd.R_reads hR6; rw [ints_length] at hc7 hC7; rw [ints_length]; have HC7 := Lib.hid hC7; have hbt := byTail_calls A c g HV.out A6 c6 wt HWM.out hwl w6 (Kd.C_below HR.out (HB5.out.trans (hB6.mono HB5.out.size))) (Kd.C_below HC6.out hB6); rw [← HL.out] at hbt; have HBT := Lib.hid hbt; have HB6 := Lib.hid (HB5.out.trans (hB6.mono HB5.out.size)); have HI6 := Lib.hid (HI5.out.below hB6); clear hR6 hB6 hC7 hbt)
          | (go_at_call 85; refine HBT.out.mono ?_; rintro e w7 ⟨v7, rfl, hR7, hB7⟩; obtain ⟨A8, c8, rfl, _, hC8⟩ := Kd.R_reads hR7; rw [ints_length] at hC8; rw [ints_length]; have HB7 := Lib.hid (HB6.out.trans (hB7.mono HB6.out.size)); have HI7 := Lib.hid (HI6.out.below hB7); have had := admit_calls A c g A1 c1 rm A7 c7 run A8 c8 l wk HG.out HRM.out hrn HRN.out hll HLM.out w7 (Kd.C_below HR.out HB7.out) (Kd.C_below HR1.out HB7.out) (Kd.C_below HC7.out hB7) hc7 hC8; rw [← HNX.out] at had; have HAD := Lib.hid had; clear hR7 hB7 hC8 had)
          | (go_at_call 84; refine HAD.out.mono ?_; rintro e w8 ⟨v8, rfl, hR8, hB8⟩))
         have HB8 := HB7.out.trans (hB8.mono HB7.out.size)
         have HI8 := HI7.out.below hB8
         have hR9 : Kd.R (Kd.int .i64) 3 w8 w.heap.size (fun q => q ≠ w.heap.size) v8 (ints (nextS g rm wk st k)) := by
          have h1 := HB7.out.size
          have h2 := (blk_lt HI7.out)
          exact Kd.R_lower (Kd.R_mono (Kd.R_bound hR8) (fun q hq => by have := hq.2.1; omega)) h1
         have HSO := Lib.hid (putS_ok (n := g.length) (now := (k : Int)) (by omega))
         clear hR8 hB8
         generalize nextS g rm wk st k = nx at hR9 HNL HSTEP2
         have hnx := HNL.out.1
         obtain ⟨A10, c10, rfl, _, _⟩ := Kd.R_reads hR9
         rw [ints_length] at hR9 ⊢
         go_loopw [16] (fun i wr => ∃ j, j ≤ nx.length ∧ i = .int .i64 (j : Nat) ∧ IRow wr w.heap.size (putS k st (nx.take j)) ∧ Kd.R (Kd.int .i64) 3 wr w.heap.size (fun q => q ≠ w.heap.size) (.slice A10 nx.length c10) (ints nx) ∧ Below w.heap.size w wr) (fun i _ => nx.length - (intOf i).toNat)
         case atStart => exact ⟨0, Nat.zero_le _, rfl, HI8, hR9, HB8⟩
         case round =>
          clear HI8 hR9 HB8
          obtain ⟨j, hj, rfl, hI, hR9, hBi⟩ := hrel
          by_cases hjl : j < nx.length
          ·
           have hjj : decide ((j : Int) < (nx.length : Int)) = true := decide_eq_true (by omega)
           have hji : (j : Int) < (nx.length : Int) := by omega
           obtain ⟨A11, c11, e5, _, hCn⟩ := Kd.R_reads hR9
           rw [ints_length] at e5 hCn
           cases e5
           obtain ⟨ad, rfl, cx⟩ := at_set hCn j hjl
           have hxg : nx.getD j 0 < g.length := by
            apply HNL.out.2
            rw [List.getD_eq_getElem?_getD, List.getElem?_eq_getElem hjl]
            exact List.getElem_mem _
           have HPS : Hid (putS k st (nx.take (j + 1)) = (putS k st (nx.take j)).set (nx.getD j 0) k) := Lib.hid (by
            rw [List.take_succ_eq_append_getElem hjl, putS_snoc, List.getD_eq_getElem?_getD, List.getElem?_eq_getElem hjl]
            rfl)
           have hso := HSO.out (nx.take j) HST.out
           generalize nx.getD j 0 = x at cx hxg HPS
           have cs := hI.cell x (by rw [hso.1]; exact hxg)
           have fs := hI.frozen x
           have hxi : (x : Int) < (g.length : Int) := by omega
           have HIN := Lib.hid (And.intro hI (And.intro hR9 hBi))
           clear hI hR9 hBi hCn hso
           go_wp2
           go_roundw
           case rel =>
            refine ⟨j + 1, by omega, by go_num, ?_, Kd.R_far (p := ⟨w.heap.size, x, none⟩) HIN.out.2.1 (fun q h => h) _, HIN.out.2.2.setCell (p := ⟨w.heap.size, x, none⟩) (Nat.le_refl _) _⟩
            rw [HPS.out]
            exact HIN.out.1.set x k
           case measure => simp [intOf]; omega
          ·
           obtain rfl : j = nx.length := by omega
           have hjj : decide ((nx.length : Int) < (nx.length : Int)) = false := decide_eq_false (by omega)
           rw [List.take_length] at hI
           go_wp2
           go_roundw
           case rel => exact ⟨k + 1, by omega, by go_num, by rw [HSTEP2.out]; exact hI, hBi⟩
           case measure => simp [intOf]; omega
    ·
     obtain rfl : k = 200 := by omega
     have hkk : decide (((200 : Nat) : Int) < 200) = false := by decide
     go_wp2
     go_ret
     refine ⟨_, rfl, ?_, hB⟩
     have := hI.own (base := w.heap.size) (Nat.le_refl _) (by rw [(planL_ok g rm wk 200 (Nat.le_refl _)).1]; omega)
     rw [(planL_ok g rm wk 200 (Nat.le_refl _)).1] at this
     exact this
end Go.Proofs.YtdjdfbfcjajlkaaDoor

namespace Go.Proofs.YtdjdfbfcjajlkaaDoor
set_option linter.unusedVariables false
set_option linter.unusedSimpArgs false
open Go.RowKit Go.Shelf Bits
structure PS where
 st : List Int
 b : Nat
 o : Nat
def ovF (g : List Tk) (st : List Int) (now : Int) (o i : Nat) : Nat := if st.getD i 0 + (rdTk g i).f0 ≤ now then o ||| 2 ^ i else o
def ovN (g : List Tk) (st : List Int) (now : Int) (o : Nat) (l : List Nat) : Nat := l.foldl (ovF g st now) o
theorem ovN_snoc (g : List Tk) (st : List Int) (now : Int) (o : Nat) (l : List Nat) (i : Nat) : ovN g st now o (l ++ [i]) = ovF g st now (ovN g st now o l) i := by
 unfold ovN
 rw [List.foldl_append]
 rfl
theorem ovN_lt {g : List Tk} {st : List Int} {now : Int} {n : Nat} : ∀ (l : List Nat) {o : Nat}, o < 2 ^ n → (∀ i ∈ l, i < n) → ovN g st now o l < 2 ^ n
 | [], o, ho, _ => ho
 | i :: l, o, ho, hl => by
  refine ovN_lt l (o := ovF g st now o i) ?_ (fun j hj => hl j (List.mem_cons_of_mem _ hj))
  unfold ovF
  split
  ·
   exact Nat.or_lt_two_pow ho (Nat.pow_lt_pow_right (by decide) (hl i List.mem_cons_self))
  ·
   exact ho
def nextN (g : List Tk) (ns : List Nat) (rm : List Int) (wk : Int) (b o : Nat) : List Nat :=
 (admN g rm wk (cnt g (elems (diff b o))) (rankL (tailN g ns) (elems (diff (readyN ns o) b)))).2
def putB (b : Nat) (l : List Nat) : Nat := l.foldl (fun b i => b ||| 2 ^ i) b
theorem putB_snoc (b : Nat) (l : List Nat) (i : Nat) : putB b (l ++ [i]) = putB b l ||| 2 ^ i := by
 unfold putB
 rw [List.foldl_append]
 rfl
theorem putB_lt {n : Nat} : ∀ (l : List Nat) {b : Nat}, b < 2 ^ n → (∀ i ∈ l, i < n) → putB b l < 2 ^ n
 | [], b, hb, _ => hb
 | i :: l, b, hb, hl => putB_lt l (b := b ||| 2 ^ i) (Nat.or_lt_two_pow hb (Nat.pow_lt_pow_right (by decide) (hl i List.mem_cons_self))) (fun j hj => hl j (List.mem_cons_of_mem _ hj))
def stepN (g : List Tk) (ns : List Nat) (rm : List Int) (wk : Int) (now : Nat) (p : PS) : PS :=
 ⟨putS now p.st (nextN g ns rm wk p.b (ovN g p.st now p.o (elems p.b))), putB p.b (nextN g ns rm wk p.b (ovN g p.st now p.o (elems p.b))), ovN g p.st now p.o (elems p.b)⟩
def planN (g : List Tk) (ns : List Nat) (rm : List Int) (wk : Int) : Nat → PS
 | 0 => ⟨List.replicate g.length 0, 0, 0⟩
 | k + 1 => stepN g ns rm wk k (planN g ns rm wk k)
theorem nextN_lt {g : List Tk} {ns : List Nat} (rm : List Int) (wk : Int) {b o : Nat} (hn : ns.length = g.length) : ∀ x ∈ nextN g ns rm wk b o, x < g.length := by
 intro x hx
 have h1 := admN_sub g rm wk (cnt g (elems (diff b o))) (rankL (tailN g ns) (elems (diff (readyN ns o) b))) _ (Nat.le_refl _) x (by rw [List.take_length]; exact hx)
 have h2 := (rank_sorted (tailN g ns) (elems (diff (readyN ns o) b))).2.mem_iff.1 h1
 refine elems_below (diff_lt (n := g.length) (hn ▸ readyU_lt ns o _)) h2
def PS.ok (n : Nat) (p : PS) : Prop := StOk n p.st ∧ p.b < 2 ^ n ∧ p.o < 2 ^ n
theorem planN_ok {g : List Tk} {ns : List Nat} (rm : List Int) (wk : Int) (hn : ns.length = g.length) : ∀ k, k ≤ 200 → (planN g ns rm wk k).ok g.length
 | 0, _ => by
  refine ⟨⟨by unfold planN; simp, fun i => ?_⟩, Nat.two_pow_pos _, Nat.two_pow_pos _⟩
  unfold planN
  rw [List.getD_eq_getElem?_getD, List.getElem?_replicate]
  split <;> simp
 | k + 1, hk => by
  obtain ⟨h1, h2, h3⟩ := planN_ok rm wk hn k (by omega)
  exact ⟨putS_ok (by omega) _ h1, putB_lt _ h2 (nextN_lt rm wk hn), ovN_lt _ h3 (fun i hi => elems_below h2 hi)⟩
end Go.Proofs.YtdjdfbfcjajlkaaDoor

namespace Go.Proofs.YtdjdfbfcjajlkaaDoor
set_option linter.unusedVariables false
set_option linter.unusedSimpArgs false
open Go.RowKit Go.Shelf Bits
open Go.Proofs.YtdjdfbfcjajlkaaDoorW.PrintWords Go.Proofs.YtdjdfbfcjajlkaaDoorW.PrintLast Go.Proofs.YtdjdfbfcjajlkaaDoorW.PrintMore
attribute [local go_sem] Oper.semAt_some
structure PH (w : World) (C h n : Nat) (st : List Int) (o N : Nat) (now : Int) (W : World) : Prop where
 g : Boxed W h 60 (.pointer (some ⟨C, 0, none⟩))
 r : IRow W (h + 1) st
 s : Boxed W (h + 2) 23 (.slice (some ⟨h + 1, 0, none⟩) n n)
 o : Boxed W (h + 3) 69 (.int .u16 o)
 t : Boxed W N 3 (.int .i64 now)
 hN : h + 3 < N
 hB : Below h w W
theorem boxed_below {W W' : World} {B : Nat} {t : TypeId} {v : Value} (h : Boxed W B t v) (hb : Below W.heap.size W W') : Boxed W' B t v := (hb.block B h.lt).trans h
theorem PH.below {w W W' : World} {C h n o N : Nat} {st : List Int} {now : Int} (q : PH w C h n st o N now W) (hb : Below W.heap.size W W') : PH w C h n st o N now W' :=
 ⟨boxed_below q.g hb, q.r.below hb, boxed_below q.s hb, boxed_below q.o hb, boxed_below q.t hb, q.hN, q.hB.trans (hb.mono (by have := q.t.lt; have := q.hN; omega))⟩
theorem PH.setO {w W : World} {C h n o N : Nat} {st : List Int} {now : Int} (q : PH w C h n st o N now W) (x : Nat) : PH w C h n st x N now (W.setCell ⟨h + 3, 0, none⟩ (.int .u16 x)) :=
 ⟨blk_far q.g (by show h ≠ h + 3; omega) _, q.r.far (by show h + 1 ≠ h + 3; omega) _, blk_far q.s (by show h + 2 ≠ h + 3; omega) _, q.o.set _, blk_far q.t (by have := q.hN; show N ≠ h + 3; omega) _, q.hN, q.hB.setCell (p := ⟨h + 3, 0, none⟩) (by show h ≤ h + 3; omega) _⟩
theorem PH.setR {w W : World} {C h n o N : Nat} {st : List Int} {now : Int} (q : PH w C h n st o N now W) (i : Nat) (x : Int) : PH w C h n (st.set i x) o N now (W.setCell ⟨h + 1, i, none⟩ (.int .i64 x)) :=
 ⟨blk_far q.g (by show h ≠ h + 1; omega) _, q.r.set i x, blk_far q.s (by show h + 2 ≠ h + 1; omega) _, blk_far q.o (by show h + 3 ≠ h + 1; omega) _, blk_far q.t (by have := q.hN; show N ≠ h + 1; omega) _, q.hN, q.hB.setCell (p := ⟨h + 1, i, none⟩) (by show h ≤ h + 1; omega) _⟩
theorem PH.setT {w W : World} {C h n o N : Nat} {st : List Int} {now : Int} (q : PH w C h n st o N now W) (x : Int) : PH w C h n st o N x (W.setCell ⟨N, 0, none⟩ (.int .i64 x)) :=
 ⟨blk_far q.g (by have := q.hN; show h ≠ N; omega) _, q.r.far (by have := q.hN; show h + 1 ≠ N; omega) _, blk_far q.s (by have := q.hN; show h + 2 ≠ N; omega) _, blk_far q.o (by have := q.hN; show h + 3 ≠ N; omega) _, q.t.set _, q.hN, q.hB.setCell (p := ⟨N, 0, none⟩) (by have := q.hN; show h ≤ N; omega) _⟩
theorem PH.newT {w W : World} {C h n o N : Nat} {st : List Int} {now : Int} (q : PH w C h n st o N now W) (x : Int) : PH w C h n st o W.heap.size x (W.alloc (.cells #[.int .i64 x] 3)) :=
 have q2 := q.below ((Below.refl W.heap.size W).alloc (Nat.le_refl _) (.cells #[.int .i64 x] 3))
 ⟨q2.g, q2.r, q2.s, q2.o, Boxed.new W 3 (.int .i64 x), by have := q.hN; have := q.t.lt; omega, q2.hB⟩
def nowAt (v : Value) (W : World) : Nat := match v with
 | .pointer (some p) => (match W.cell? p with | some v => (intOf v).toNat | none => 0)
 | _ => 0
theorem nowAt_box {W : World} {N k : Nat} (h : Boxed W N 3 (.int .i64 (k : Int))) : nowAt (.pointer (some ⟨N, 0, none⟩)) W = k := by
 unfold nowAt
 simp only [h.cell]
 simp [intOf]
theorem PH.own {β : Type} {B0 C h n N : Nat} {w : World} {st : List Int} (o : β → Nat) {now : Int} (hN : N < B0) (hh : h + 3 < B0) (hw : h ≤ w.heap.size) : OwnFrom B0 (fun s W => PH w C h n st (o s) N now W) := by
 intro s W W' row q hg hr
 have key : ∀ k, k < B0 → k < W.heap.size → W'.heap[k]? = W.heap[k]? := fun k hk hl => hg.block k hl (fun e => by have := (hr k e.symm).1; omega)
 exact ⟨(key h (by omega) q.g.lt).trans q.g, (key (h + 1) (by omega) (blk_lt q.r)).trans q.r, (key (h + 2) (by omega) q.s.lt).trans q.s, (key (h + 3) (by omega) q.o.lt).trans q.o, (key N hN q.t.lt).trans q.t, q.hN,
  q.hB.trans ⟨hg.os, hg.tape, hg.output, hg.size, fun k hk => key k (by omega) (by have := q.g.lt; omega)⟩⟩
section
variable (w : World) (C h : Nat) (g : List Tk) (ns : List Nat) (A1 : Option Addr) (c1 : Nat) (rm : List Int) (wk : Int) (K : Nat)
def PLoop (a : Act) (W : World) : Prop := ∃ (t : Array Value) (Ds : List Nat) (k N : Nat), a = { tmps := t, defers := mk Ds } ∧ t.size = 78 ∧ t.getD 1 undef = .slice A1 rm.length c1 ∧ t.getD 2 undef = .int .i64 wk ∧
 t.getD 3 undef = .pointer (some ⟨h, 0, none⟩) ∧ t.getD 7 undef = .pointer (some ⟨h + 2, 0, none⟩) ∧ t.getD 8 undef = .int .u16 ((planN g ns rm wk k).b : Nat) ∧ t.getD 9 undef = .pointer (some ⟨h + 3, 0, none⟩) ∧ t.getD 10 undef = .pointer (some ⟨N, 0, none⟩) ∧
 k ≤ K ∧ Marks Ds W ∧ (∀ D ∈ Ds, h ≤ D) ∧ PH w C h g.length (planN g ns rm wk k).st (planN g ns rm wk k).o N k W
end
theorem ph_init (w : World) (C n : Nat) : PH w C w.heap.size n (List.replicate n 0) 0 (w.heap.size + 1 + 1 + 1 + 1) 0 (((((w.alloc (.cells #[.pointer (some ⟨C, 0, none⟩)] 60)).alloc (.cells (zeroI n) 3)).alloc (.cells #[.slice (some ⟨w.heap.size + 1, 0, none⟩) n n] 23)).alloc (.cells #[.int .u16 0] 69)).alloc (.cells #[.int .i64 0] 3)) := by
 have z : ∀ (W : World) (o : Obj), (W.alloc o).heap.size = W.heap.size + 1 := fun W o => World.size_alloc W o
 refine ⟨?_, ?_, ?_, ?_, ?_, by omega, ?_⟩
 ·
  refine ((((Boxed.new w 60 _).alloc _).alloc _).alloc _).alloc _
 ·
  have h1 : IRow ((w.alloc (.cells #[.pointer (some ⟨C, 0, none⟩)] 60)).alloc (.cells (zeroI n) 3)) (w.heap.size + 1) (List.replicate n 0) := by
   have := World.alloc_heap_new (w.alloc (.cells #[.pointer (some ⟨C, 0, none⟩)] 60)) (.cells (zeroI n) 3)
   rw [z] at this
   exact this
  exact ((h1.below ((Below.refl _ _).alloc (Nat.le_refl _) _)).below ((Below.refl _ _).alloc (Nat.le_refl _) _)).below ((Below.refl _ _).alloc (Nat.le_refl _) _)
 ·
  have h1 := Boxed.new ((w.alloc (.cells #[.pointer (some ⟨C, 0, none⟩)] 60)).alloc (.cells (zeroI n) 3)) 23 (.slice (some ⟨w.heap.size + 1, 0, none⟩) n n)
  rw [z, z] at h1
  exact (h1.alloc _).alloc _
 ·
  have h1 := Boxed.new (((w.alloc (.cells #[.pointer (some ⟨C, 0, none⟩)] 60)).alloc (.cells (zeroI n) 3)).alloc (.cells #[.slice (some ⟨w.heap.size + 1, 0, none⟩) n n] 23)) 69 (.int .u16 0)
  rw [z, z, z] at h1
  exact h1.alloc _
 ·
  have h1 := Boxed.new ((((w.alloc (.cells #[.pointer (some ⟨C, 0, none⟩)] 60)).alloc (.cells (zeroI n) 3)).alloc (.cells #[.slice (some ⟨w.heap.size + 1, 0, none⟩) n n] 23)).alloc (.cells #[.int .u16 0] 69)) 3 (.int .i64 0)
  rw [z, z, z, z] at h1
  exact h1
 ·
  exact (((((Below.refl _ w).alloc (Nat.le_refl _) _).alloc (by simp) _).alloc (by simp; omega) _).alloc (by simp; omega) _).alloc (by simp; omega) _
set_option maxRecDepth 1000000 in
set_option maxHeartbeats 8000000 in
theorem iplan_calls (C : Nat) (g : List Tk) (ns : List Nat) (A1 : Option Addr) (c1 : Nat) (rm : List Int) (wk : Int) (K : Nat) (hgr : graphN g = some ns) (hok : TOk g) (hrm : rm.length = 3) (hK : K ≤ 200) (hall : (planN g ns rm wk K).o = 2 ^ g.length - 1) (hnot : ∀ k, k < K → (planN g ns rm wk k).o ≠ 2 ^ g.length - 1) (w : World) (hG : IsGraph w C g ns) (hT : Tab w) (hr1 : (Kd.int .i64).C w A1 rm.length rm) :
  Calls Tryd.prog 57 #[.pointer (some ⟨C, 0, none⟩), .slice A1 rm.length c1, .int .i64 wk] w fun e w' => ∃ v, e = .returned v ∧ Kd.R (Kd.int .i64) 3 w' w.heap.size (fun _ => True) v (planN g ns rm wk K).st ∧ Below w.heap.size w w' := by
 have h8 := hok.1
 have hnl := (graphN_some hgr).2.2.2
 have HG := Lib.hid hG
 have HOK := Lib.hid hok
 have HGR := Lib.hid hgr
 have HRM := Lib.hid hrm
 have HR1 := Lib.hid hr1
 have HALL := Lib.hid hall
 have HNOT := Lib.hid hnot
 have HNL := Lib.hid hnl
 have hmk := run_makeI g.length (by omega)
 clear hG hok hgr hrm hr1 hall hnot hnl
 refine calls_of_wp_marks Tryd.func57 rfl ?_
 simp only [Tryd.ntmps57, List.size_toArray, List.length_cons, List.length_nil, Nat.reduceAdd, Nat.reduceSub, Array.replicate_succ, Array.replicate_zero, List.push_toArray, List.append_toArray, List.nil_append, List.cons_append]
 go_wp2_with (go_at_call 65; refine (size_calls _ C g ns (HG.out.below ((Below.refl _ _).alloc (Nat.le_refl _) _))).mono ?_; rintro e w' ⟨rfl, rfl⟩)
 have hP0 := ph_init w C g.length
 have htl := hT.lt
 refine wp_loop (PLoop w C w.heap.size g ns A1 c1 rm wk K) (fun a W => K - nowAt (a.tmps.getD 10 undef) W) ⟨_, [], 0, _, rfl, rfl, rfl, rfl, rfl, rfl, rfl, rfl, rfl, Nat.zero_le _, Marks.nil _, fun D h => (by cases h), hP0⟩ ?_
 clear hP0 hmk
 rintro a W ⟨t, Ds, k, N, rfl, ht, t1, t2, t3, t7, t8, t9, t10, hk, hM, hDs, hP⟩
 obtain ⟨u, rfl⟩ : ∃ u : Nat → Value, t = #[u 0, u 1, u 2, u 3, u 4, u 5, u 6, u 7, u 8, u 9, u 10, u 11, u 12, u 13, u 14, u 15, u 16, u 17, u 18, u 19, u 20, u 21, u 22, u 23, u 24, u 25, u 26, u 27, u 28, u 29, u 30, u 31, u 32, u 33, u 34, u 35, u 36, u 37, u 38, u 39, u 40, u 41, u 42, u 43, u 44, u 45, u 46, u 47, u 48, u 49, u 50, u 51, u 52, u 53, u 54, u 55, u 56, u 57, u 58, u 59, u 60, u 61, u 62, u 63, u 64, u 65, u 66, u 67, u 68, u 69, u 70, u 71, u 72, u 73, u 74, u 75, u 76, u 77] := ⟨fun i => t.getD i undef, arr_of_size t 78 ht⟩
 replace t1 : u 1 = _ := t1
 replace t2 : u 2 = _ := t2
 replace t3 : u 3 = _ := t3
 replace t7 : u 7 = _ := t7
 replace t8 : u 8 = _ := t8
 replace t9 : u 9 = _ := t9
 replace t10 : u 10 = _ := t10
 clear ht
 have hok := planN_ok rm wk HNL.out k (by omega)
 have HNE := HNOT.out k
 have hAL := HALL.out
 by_cases hkK : k < K
 ·
  replace HNE := HNE hkK
  generalize hp : planN g ns rm wk k = p at t8 hP hok HNE
  have HPK := Lib.hid hp
  obtain ⟨st, b, o⟩ := p
  obtain ⟨hst, hb, ho⟩ := hok
  replace hst : StOk g.length st := hst
  replace hb : b < 2 ^ g.length := hb
  replace ho : o < 2 ^ g.length := ho
  replace hP : PH w C w.heap.size g.length st o N k W := hP
  replace t8 : u 8 = .int .u16 (b : Nat) := t8
  have dne : (((o : Nat) : Int) != ((2 ^ g.length - 1 : Nat) : Int)) = true := by
   rw [bne_iff_ne]
   intro e
   exact HNE (Int.ofNat.inj e)
  have cg := hP.g.cell
  have co := hP.o.cell
  have HPH := Lib.hid hP
  have hsz := hP.hB.size
  have HM := Lib.hid hM
  clear hp HNE hAL hP hM
  go_wp2
  go_quiet (first
   | (go_at_call 65; exact Calls.quiet_of_same (size_calls _ C g ns (HG.out.below (pw_below_drewN HPH.out.hB _))))
   | (go_at_call 74; exact Calls.quiet_of_same (everything_calls g.length (by omega) _)))
  have hB1 : Below W.heap.size W (W.drewN nq) := pw_below_drewN (Below.refl _ _) nq
  obtain ⟨W1, hW1⟩ : ∃ W1, W1 = W.drewN nq := ⟨_, rfl⟩
  rw [← hW1] at hB1 ⊢
  clear hW1 cg co
  have HP1 := Lib.hid (HPH.out.below hB1)
  have HM1 := Lib.hid (HM.out.below hB1)
  go_wp2_with (go_at_call 89; refine (all_calls b _).mono ?_; rintro e w' ⟨rfl, rfl⟩)
  have hbox := Boxed.new W1 69 (.int .u16 b)
  have hBs : Below W1.heap.size W1 (W1.alloc (.cells #[.int .u16 b] 69)) := (Below.refl _ _).alloc (Nat.le_refl _) _
  have hws1 := HP1.out.hB.size
  have hb16 : b < 65536 := Nat.lt_of_lt_of_le hb (Nat.le_trans (Nat.pow_le_pow_right (by omega) h8) (by decide))
  have hN1 := HP1.out.t.lt
  have hh3 := HP1.out.o.lt
  refine wp_rangeSet1 b W1.heap.size w.heap.size hb16 rfl (by simp) hbox.cell (hT.keep htl (HP1.out.hB.trans (hBs.mono hws1))) (by simp; omega) htl
   (fun pre W' => PH w C w.heap.size g.length st (ovN g st k o (pre.map (·.1))) N k W' ∧ Marks Ds W') (fun _ _ _ => False)
   ((PH.own (fun pre : List (El b) => ovN g st k o (pre.map (·.1))) (by simp; omega) (by simp; omega) (Nat.le_refl _)).and (ownFrom_marks _ Ds (fun D hD => by have := HM1.out.lt D hD; simp; omega)))
   (fun _ _ _ _ _ h _ _ => h)
   ⟨HP1.out.below hBs, HM1.out.below hBs⟩
   (fun x => { tmps := #[u 0, .slice A1 rm.length c1, .int .i64 wk, .pointer (some ⟨w.heap.size, 0, none⟩), u 4, u 5, u 6, .pointer (some ⟨w.heap.size + 2, 0, none⟩), .int .u16 (b : Nat), .pointer (some ⟨w.heap.size + 3, 0, none⟩), .pointer (some ⟨N, 0, none⟩), .int .i64 (x.1 : Nat), u 12, u 13, u 14, u 15, u 16, u 17, .int .u16 (o : Nat), .pointer (some ⟨C, 0, none⟩), .int .i64 (g.length : Nat), .int .u16 ((2 ^ g.length - 1 : Nat) : Int), .bool true, u 23, u 24, .int .u16 (b : Nat), .func (.func 117) #[] #[.pointer (some ⟨W1.heap.size, 0, none⟩)], .int .i64 (x.1 : Nat), u 28, u 29, u 30, u 31, u 32, u 33, u 34, u 35, u 36, u 37, u 38, u 39, u 40, u 41, u 42, u 43, u 44, u 45, u 46, u 47, u 48, u 49, u 50, u 51, u 52, u 53, u 54, u 55, u 56, u 57, u 58, u 59, u 60, u 61, u 62, u 63, u 64, u 65, u 66, u 67, u 68, u 69, u 70, u 71, u 72, u 73, u 74, u 75, u 76, u 77], defers := [] }) ?assign ?body ?done ?stop
  case stop => exact fun _ _ _ _ _ _ h _ => h.elim
  case assign =>
   intro l x W' Kq hK
   gi_wp2
   exact hK
  case body =>
   rintro l pre x W' ⟨hP, hM⟩ hlt
   have hel := elems_length b
   have hxn : x.1 < g.length := elems_below hb x.2
   have hx16 : x.1 < 16 := by omega
   have HSN : Hid (ovN g st k o ((pre ++ [x]).map (·.1)) = ovF g st k (ovN g st k o (pre.map (·.1))) x.1) := Lib.hid (by rw [List.map_append, List.map_cons, List.map_nil, ovN_snoc])
   have hov : ovN g st k o (pre.map (·.1)) < 2 ^ g.length := ovN_lt _ ho (fun i hi => by
    obtain ⟨z, _, rfl⟩ := List.mem_map.1 hi
    exact elems_below hb z.2)
   generalize ovN g st k o (pre.map (·.1)) = ov at hP HSN hov
   have hov16 : ov < 65536 := Nat.lt_of_lt_of_le hov (Nat.le_trans (Nat.pow_le_pow_right (by omega) h8) (by decide))
   obtain ⟨Ag, cg, An, cn, Ao, co, vb, va, h1, h2, _, _⟩ := HG.out.below hP.hB
   have cC := blk_cell h1 0
   simp at cC
   obtain ⟨ad, A4, c4, rfl, hx0, _⟩ := at_Tk h2 x.1 hxn
   have cg := hP.g.cell
   have cs := hP.s.cell
   have co := hP.o.cell
   have fo := hP.o.frozen
   have ct := hP.t.cell
   have cr := hP.r.cell x.1 (by rw [hst.1]; exact hxn)
   have hsx := hst.2 x.1
   have htx := HOK.out.2.1 x.1
   have HOF : Hid (ovF g st k ov x.1 = if st.getD x.1 0 + (rdTk g x.1).f0 ≤ (k : Int) then ov ||| 2 ^ x.1 else ov) := Lib.hid rfl
   generalize st.getD x.1 0 = s at cr hsx HOF
   generalize (rdTk g x.1).f0 = tm at hx0 htx HOF
   have hwr : IntKind.i64.wrap (s + tm) = s + tm := IntWalk.i64_in _ (by omega)
   have hxi : ((x.1 : Nat) : Int) < (g.length : Int) := by clear hwr; omega
   have HPP := Lib.hid (And.intro hP hM)
   clear h1 h2 hP hM
   by_cases hfin : s + tm ≤ (k : Int)
   ·
    have dfin : decide (s + tm ≤ (k : Int)) = true := decide_eq_true hfin
    rw [if_pos hfin] at HOF
    clear hfin
    gi_wp2
    refine wpIn_region_still_tail 14 mixed (by kernel_rfl) (by kernel_rfl) (fun ⟨_, _, h⟩ => h) ?_
    simp only [List.take_succ_cons, List.take_zero, List.drop_succ_cons, List.drop_zero]
    repeat still_step
    refine wpStill_nil ?_
    clear hwr
    go_wp2
    gi_wp2_with (refine ⟨trivial, ?_⟩; gi_at_call 62; refine CallsIn.mono (CallsIn.inRound l (callsIn_wide.2 (with_calls ov x.1 hov16 hx16 _))) ?_; rintro e w' ⟨rfl, rfl⟩)
    have hPd := HPP.out.1.below (Below.refl W'.heap.size W').drew
    have hMd := HPP.out.2.below (Below.refl W'.heap.size W').drew
    refine ⟨((KeepsOthers.drew _).trans (KeepsOthers.setCell _ _ _)).from _, (Below.refl _ _).drew.setCell (p := ⟨w.heap.size + 3, 0, none⟩) (by simp) _, ?_, hMd.set _ _ ⟨_, _, _, hPd.o⟩⟩
    rw [HSN.out, HOF.out]
    exact hPd.setO _
   ·
    have dfin : decide (s + tm ≤ (k : Int)) = false := decide_eq_false hfin
    rw [if_neg hfin] at HOF
    clear hfin
    gi_wp2
    refine wpIn_region_still_tail 14 mixed (by kernel_rfl) (by kernel_rfl) (fun ⟨_, _, h⟩ => h) ?_
    simp only [List.take_succ_cons, List.take_zero, List.drop_succ_cons, List.drop_zero]
    repeat still_step
    refine wpStill_nil ?_
    clear hwr
    go_wp2
    gi_wp2
    have hPd := HPP.out.1.below (Below.refl W'.heap.size W').drew
    have hMd := HPP.out.2.below (Below.refl W'.heap.size W').drew
    refine ⟨(KeepsOthers.drew _).from _, (Below.refl _ _).drew, ?_, hMd⟩
    rw [HSN.out, HOF.out]
    exact hPd
  case done =>
   rintro D ys W5 hD hys ⟨hP5, hM5⟩ hK5
   rw [hys] at hP5
   have HM5 := Lib.hid (hM5.cons hK5 (fun E hE' => by have := HM1.out.lt E hE'; simp at hD; omega))
   have hD2 : w.heap.size ≤ D := by simp at hD; omega
   generalize hov : ovN g st k o (elems b) = ov at hP5
   have hovl : ov < 2 ^ g.length := by rw [← hov]; exact ovN_lt _ ho (fun i hi => elems_below hb hi)
   have HSTEP : Hid (planN g ns rm wk (k + 1) = ⟨putS k st (nextN g ns rm wk b ov), putB b (nextN g ns rm wk b ov), ov⟩) := Lib.hid (by
    show stepN g ns rm wk k (planN g ns rm wk k) = _
    rw [HPK.out]
    unfold stepN
    simp only []
    rw [hov])
   have hov16 : ov < 65536 := Nat.lt_of_lt_of_le hovl (Nat.le_trans (Nat.pow_le_pow_right (by omega) h8) (by decide))
   have HP5 := Lib.hid hP5
   have cg := hP5.g.cell
   have co := hP5.o.cell
   clear hP5 hys hov hM5 hK5 hbox hBs
   have hr15 : ns.length ≤ 15 := by rw [HNL.out]; omega
   have hrl : readyN ns ov < 2 ^ g.length := HNL.out ▸ readyU_lt ns ov _
   have hr16 : readyN ns ov < 65536 := Nat.lt_of_lt_of_le hrl (Nat.le_trans (Nat.pow_le_pow_right (by omega) h8) (by decide))
   have hbd : bits BinOp.andNot IntKind.u16 ((readyN ns ov : Nat) : Int) (b : Int) = ((diff (readyN ns ov) b : Nat) : Int) := bits_andNot_u16 _ _ hr16
   have HRK := fun W' hG hT' => ranked_calls C g ns (diff (readyN ns ov) b) HGR.out (diff_lt hrl) W' hG hT'
   have HNX : Hid (nextN g ns rm wk b ov = (admN g rm wk (cnt g (elems (diff b ov))) (rankL (tailN g ns) (elems (diff (readyN ns ov) b)))).2) := Lib.hid rfl
   have hrkl : ∀ x ∈ rankL (tailN g ns) (elems (diff (readyN ns ov) b)), x < g.length := fun x hx => elems_below (diff_lt (n := g.length) hrl) ((rank_sorted (tailN g ns) (elems (diff (readyN ns ov) b))).2.mem_iff.1 hx)
   have hrkn : (rankL (tailN g ns) (elems (diff (readyN ns ov) b))).length ≤ 16 := by rw [(rank_sorted (tailN g ns) (elems (diff (readyN ns ov) b))).2.length_eq]; exact elems_length _
   have HRKL := Lib.hid hrkl
   clear hrkl hrl
   generalize rankL (tailN g ns) (elems (diff (readyN ns ov) b)) = rk at HRK HNX HRKL hrkn
   go_wp2
   go_still_tail 6, mixed
   repeat still_step
   still_call (ready_calls C g ns ov hr15 (graphN_need_u16 HGR.out) hov16 _ (HG.out.below HP5.out.hB.drew))
   repeat still_step
   refine wpStill_nil ?_
   rw [show ({ heap := W5.heap, tape := W5.tape, drawn := W5.drawn + 1, os := W5.os, output := W5.output } : World) = W5.drew from rfl]
   have hB6 : Below W5.heap.size W5 W5.drew := (Below.refl _ _).drew
   have HP6 := Lib.hid (HP5.out.below hB6)
   have HM6 := Lib.hid (HM5.out.below hB6)
   obtain ⟨W6, hW6⟩ : ∃ W6, W6 = W5.drew := ⟨_, rfl⟩
   rw [← hW6] at HP6 HM6 ⊢
   clear hW6 hB6 cg co
   have HR6 := Lib.hid (HRK W6 (HG.out.below HP6.out.hB) (hT.keep htl HP6.out.hB))
   go_wp2_with (go_at_call 90; refine HR6.out.mono ?_; rintro e W7 ⟨v7, rfl, hR7, hB7⟩)
   obtain ⟨A7, c7, rfl, _, hC7⟩ := Kd.R_reads hR7
   rw [ints_length] at hC7 ⊢
   have HC7 := Lib.hid hC7
   have HP7 := Lib.hid (HP6.out.below hB7)
   have HM7 := Lib.hid (HM6.out.below hB7)
   have cg := HP7.out.g.cell
   have co := HP7.out.o.cell
   have hbd2 : bits BinOp.andNot IntKind.u16 (b : Int) (ov : Int) = ((diff b ov : Nat) : Int) := bits_andNot_u16 _ _ hb16
   have HB7 := Lib.hid (HP6.out.hB.trans (hB7.mono HP6.out.hB.size))
   clear hR7 hB7 hC7 hbd
   have HCT := fun W' h1 h2 => counted_calls C g ns (diff b ov) (diff_lt hb) HOK.out W' h1 h2
   have HCS : Hid ((cnt g (elems (diff b ov))).small 100) := Lib.hid (cnt_small100 HOK.out (Nat.le_trans (elems_length _) (by omega)))
   generalize cnt g (elems (diff b ov)) = ct at HCT HCS HNX
   have HC1 : Hid (∀ W, (W.cell? ⟨w.heap.size, 0, none⟩ = some (.pointer (some ⟨C, 0, none⟩)) ∧ W.cell? ⟨w.heap.size + 3, 0, none⟩ = some (.int .u16 (ov : Nat)) ∧ Below W7.heap.size W7 W) → Calls Tryd.prog 93 #[.pointer (some ⟨C, 0, none⟩), .int .u16 (diff b ov : Nat)] W fun e w' =>
     e = .returned (.agg #[.int .i64 ct.t, .int .i64 (ct.u 0), .int .i64 (ct.u 1), .int .i64 (ct.u 2)]) ∧ w'.cell? ⟨w.heap.size, 0, none⟩ = some (.pointer (some ⟨C, 0, none⟩)) ∧ w'.cell? ⟨w.heap.size + 3, 0, none⟩ = some (.int .u16 (ov : Nat)) ∧ Below W7.heap.size W7 w') := Lib.hid (by
    rintro W ⟨_, _, hW⟩
    refine (HCT W (HG.out.below (HP7.out.below hW).hB) (hT.keep htl (HP7.out.below hW).hB)).mono ?_
    rintro e w' ⟨he, hB9⟩
    have hB := hW.trans (hB9.mono hW.size)
    exact ⟨he, (HP7.out.below hB).g.cell, (HP7.out.below hB).o.cell, hB⟩)
   have HC2 : Hid (∀ W, (W.cell? ⟨w.heap.size, 0, none⟩ = some (.pointer (some ⟨C, 0, none⟩)) ∧ W.cell? ⟨w.heap.size + 3, 0, none⟩ = some (.int .u16 (ov : Nat)) ∧ Below W7.heap.size W7 W) → Calls Tryd.prog 92 #[.pointer (some ⟨C, 0, none⟩), .agg #[.int .i64 ct.t, .int .i64 (ct.u 0), .int .i64 (ct.u 1), .int .i64 (ct.u 2)], .slice A1 rm.length c1, .slice A7 rk.length c7, .int .i64 wk] W fun e w' =>
     ∃ A10 c10, e = .returned (.slice A10 (nextN g ns rm wk b ov).length c10) ∧ Kd.R (Kd.int .i64) 3 w' W7.heap.size (fun _ => True) (.slice A10 (nextN g ns rm wk b ov).length c10) (ints (nextN g ns rm wk b ov)) ∧ w'.cell? ⟨w.heap.size, 0, none⟩ = some (.pointer (some ⟨C, 0, none⟩)) ∧ w'.cell? ⟨w.heap.size + 3, 0, none⟩ = some (.int .u16 (ov : Nat)) ∧ Below W7.heap.size W7 w') := Lib.hid (by
    rintro W ⟨_, _, hW⟩
    have had := admitted_calls C g ns ct A1 c1 rm A7 c7 rk wk HOK.out HCS.out HRM.out hrkn HRKL.out W (HG.out.below (HP7.out.below hW).hB) (Kd.C_below HR1.out (HP7.out.below hW).hB) (Kd.C_below HC7.out hW)
    rw [← HNX.out] at had
    refine had.mono ?_
    rintro e w' ⟨v, rfl, hR, hB9⟩
    have hB := hW.trans (hB9.mono hW.size)
    obtain ⟨A10, c10, rfl, _, _⟩ := Kd.R_reads hR
    rw [ints_length] at hR ⊢
    exact ⟨A10, c10, rfl, Kd.R_lower hR hW.size, (HP7.out.below hB).g.cell, (HP7.out.below hB).o.cell, hB⟩)
   go_wp2
   go_region_held3 (fun w' => w'.cell? ⟨w.heap.size, 0, none⟩ = some (.pointer (some ⟨C, 0, none⟩)) ∧ w'.cell? ⟨w.heap.size + 3, 0, none⟩ = some (.int .u16 (ov : Nat)) ∧ Below W7.heap.size W7 w') (first | exact ⟨cg, co, (Below.refl _ W7).drew⟩ | go_keep | (trace_state; fail))
    (first | (go_at_call 93; refine (HC1.out _ ?_).mono ?_; (first | assumption | (refine ⟨?_, ?_, ?_⟩ <;> assumption) | (trace_state; fail)); rintro e W9 ⟨rfl, hS1, hS2, hS3⟩) | (go_at_call 92; refine (HC2.out _ ?_).mono ?_; (first | assumption | (refine ⟨?_, ?_, ?_⟩ <;> assumption) | (trace_state; fail)); rintro e W10 ⟨A10, c10, rfl, hR10, hX1, hX2, hB10⟩))
   have HP9 := HP7
   have HM9 := HM7
   have HP10 := HP9.out.below hB10
   have HM10 := HM9.out.below hB10
   have hnx := nextN_lt (g := g) (ns := ns) rm wk (b := b) (o := ov) HNL.out
   have hR11 : Kd.R (Kd.int .i64) 3 W10 w.heap.size (fun q => q ≠ w.heap.size + 1) (.slice A10 (nextN g ns rm wk b ov).length c10) (ints (nextN g ns rm wk b ov)) := by
    have h1 := HB7.out.size
    have h2 := blk_lt HP7.out.r
    exact Kd.R_lower (Kd.R_mono (Kd.R_bound hR10) (fun q hq => by have := hq.2.1; omega)) h1
   have HSO := Lib.hid (putS_ok (n := g.length) (now := (k : Int)) (by omega))
   have HNXM := Lib.hid hnx
   have hnn : (nextN g ns rm wk b ov).length ≤ 16 := by
    have h1 := (admN_facts HOK.out rm wk HCS.out rk rk.length (Nat.le_refl _)).2
    rw [List.take_length] at h1
    rw [HNX.out]
    omega
   clear hR10 hB10 hX1 hX2 hnx HRKL hrkn
   generalize nextN g ns rm wk b ov = nx at hR11 HNXM HSTEP hnn
   go_wp2
   go_loopw [8, 64] (fun bg i wr => ∃ j, j ≤ nx.length ∧ i = .int .i64 (j : Nat) ∧ bg = .int .u16 (putB b (nx.take j) : Nat) ∧ PH w C w.heap.size g.length (putS k st (nx.take j)) ov N k wr ∧ Marks (D :: Ds) wr ∧ Kd.R (Kd.int .i64) 3 wr w.heap.size (fun q => q ≠ w.heap.size + 1) (.slice A10 nx.length c10) (ints nx)) (fun _ i _ => nx.length - (intOf i).toNat)
   case atStart => exact ⟨0, Nat.zero_le _, rfl, rfl, HP10, HM10, hR11⟩
   case round =>
    clear HP10 HM10 hR11
    obtain ⟨j, hj, rfl, rfl, hP, hM, hR⟩ := hrel
    by_cases hjl : j < nx.length
    ·
     have hjj : decide ((j : Int) < (nx.length : Int)) = true := decide_eq_true (by omega)
     have hji : (j : Int) < (nx.length : Int) := by omega
     obtain ⟨A11, c11, e5, _, hCn⟩ := Kd.R_reads hR
     rw [ints_length] at e5 hCn
     cases e5
     obtain ⟨ad, rfl, cx⟩ := at_set hCn j hjl
     have hxg : nx.getD j 0 < g.length := by
      apply HNXM.out
      rw [List.getD_eq_getElem?_getD, List.getElem?_eq_getElem hjl]
      exact List.getElem_mem _
     have HPS : Hid (putS k st (nx.take (j + 1)) = (putS k st (nx.take j)).set (nx.getD j 0) k) := Lib.hid (by
      rw [List.take_succ_eq_append_getElem hjl, putS_snoc, List.getD_eq_getElem?_getD, List.getElem?_eq_getElem hjl]
      rfl)
     have HPB : Hid (putB b (nx.take (j + 1)) = putB b (nx.take j) ||| 2 ^ nx.getD j 0) := Lib.hid (by
      rw [List.take_succ_eq_append_getElem hjl, putB_snoc, List.getD_eq_getElem?_getD, List.getElem?_eq_getElem hjl]
      rfl)
     have hbl : putB b (nx.take j) < 2 ^ g.length := putB_lt _ hb (fun i hi => HNXM.out i (List.mem_of_mem_take hi))
     have hbl16 : putB b (nx.take j) < 65536 := Nat.lt_of_lt_of_le hbl (Nat.le_trans (Nat.pow_le_pow_right (by omega) h8) (by decide))
     generalize putB b (nx.take j) = bj at HPB hbl hbl16
     have hso := HSO.out (nx.take j) hst
     generalize nx.getD j 0 = x at cx hxg HPS HPB
     have hx16 : x < 16 := by omega
     have cs := hP.s.cell
     have ct := hP.t.cell
     have cr := hP.r.cell x (by rw [hso.1]; exact hxg)
     have fr := hP.r.frozen x
     have hxi : (x : Int) < (g.length : Int) := by omega
     have HIN := Lib.hid (And.intro hP (And.intro hM hR))
     clear hP hM hR hCn hso
     go_wp2_with (go_at_call 62; refine (with_calls bj x hbl16 hx16 _).mono ?_; rintro e w' ⟨rfl, rfl⟩)
     go_roundw
     case rel =>
      refine ⟨j + 1, by omega, by go_num, by rw [HPB.out], ?_, HIN.out.2.1.set _ _ ⟨_, _, _, HIN.out.1.r⟩, Kd.R_far (p := ⟨w.heap.size + 1, x, none⟩) HIN.out.2.2 (fun q h => h) _⟩
      rw [HPS.out]
      exact HIN.out.1.setR x k
     case measure => simp [intOf]; omega
    ·
     obtain rfl : j = nx.length := by omega
     have hjj : decide ((nx.length : Int) < (nx.length : Int)) = false := decide_eq_false (by omega)
     rw [List.take_length] at hP
     have ct := hP.t.cell
     have HPE := Lib.hid hP
     have HME := Lib.hid hM
     have hk1 : IntKind.i64.wrap ((k : Int) + 1) = (k : Int) + 1 := IntWalk.i64_in _ (by omega)
     clear hP hM hR
     go_wp2
     have hBz : Below wr.heap.size wr (wr.alloc (.cells #[.int .i64 ((k : Int) + 1)] 3)) := (Below.refl _ _).alloc (Nat.le_refl _) _
     have hPz := HPE.out.newT ((k : Int) + 1)
     rw [show (k : Int) + 1 = ((k + 1 : Nat) : Int) from by omega] at hPz hBz ⊢
     refine ⟨⟨_, D :: Ds, k + 1, wr.heap.size, rfl, rfl, rfl, rfl, rfl, rfl, ?_, rfl, rfl, by omega, HME.out.below hBz, ?_, ?_⟩, ?_⟩
     ·
      show Value.int .u16 _ = _
      rw [HSTEP.out, List.take_length]
     ·
      intro E hE
      rcases List.mem_cons.1 hE with rfl | hE
      ·
       exact hD2
      ·
       exact hDs E hE
     ·
      rw [HSTEP.out]
      exact hPz
     ·
      show K - nowAt (.pointer (some ⟨wr.heap.size, 0, none⟩)) _ < K - nowAt (u 10) W
      rw [nowAt_box hPz.t, t10, nowAt_box HPH.out.t]
      omega
 ·
  obtain rfl : k = K := by omega
  rw [hAL] at hP
  have dne : (((2 ^ g.length - 1 : Nat) : Int) != ((2 ^ g.length - 1 : Nat) : Int)) = false := by simp
  have cg := hP.g.cell
  have co := hP.o.cell
  have cs := hP.s.cell
  have HPH := Lib.hid hP
  have HM := Lib.hid hM
  clear HNE hAL hP hM
  go_wp2
  go_quiet (first
   | (go_at_call 65; exact Calls.quiet_of_same (size_calls _ C g ns (HG.out.below (pw_below_drewN HPH.out.hB _))))
   | (go_at_call 74; exact Calls.quiet_of_same (everything_calls g.length (by omega) _)))
  go_wp2
  refine leave_marks (B := w.heap.size) Ds _ (HM.out.below (pw_below_drewN (Below.refl _ _) nq)) hDs (fun w' hs => ⟨results_tmp rfl _ _ _, _, rfl, ?_, (pw_below_drewN HPH.out.hB nq).trans hs.below⟩)
  have hr := hs.cells (w.heap.size + 1) _ (HPH.out.r.below (pw_below_drewN (Below.refl _ _) nq)) rfl
  have hr2 := IRow.own (base := w.heap.size) (show IRow w' (w.heap.size + 1) _ from hr) (by omega) (by rw [hok.1.1]; omega)
  rw [hok.1.1] at hr2
  exact hr2
end Go.Proofs.YtdjdfbfcjajlkaaDoor
