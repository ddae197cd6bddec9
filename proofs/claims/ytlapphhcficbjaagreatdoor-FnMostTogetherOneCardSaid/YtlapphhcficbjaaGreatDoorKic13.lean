/- Parts of the proof, laid as one text by a program of mine. -/
import Derived.Test.YtlapphhcficbjaaGreatDoorKic11
import Derived.Test.YtlapphhcficbjaaGreatDoorKic12
import Derived.Test.YtlapphhcficbjaaGreatDoorKic10
import Derived.Test.YtlapphhcficbjaaGreatDoorKic7
import Derived.Test.YtlapphhcficbjaaGreatDoorKic2
import Derived.Test.YtlapphhcficbjaaGreatDoorKic9
namespace Go.Proofs.YtlapphhcficbjaaGreatDoor
set_option linter.unusedVariables false
set_option linter.unusedSimpArgs false
open Go.RowKit Go.Shelf Bits
open Go.Proofs.YtlapphhcficbjaaGreatDoorW.PrintWords Go.Proofs.YtlapphhcficbjaaGreatDoorW.PrintLast Go.Proofs.YtlapphhcficbjaaGreatDoorW.PrintMore
def overB (g : List Tk) (st : List Int) (now : Int) (i : Nat) : Bool := decide (st.getD i 0 + (rdTk g i).f0 ≤ now)
def overS (g : List Tk) (st : List Int) (now : Int) : List Nat := (List.range g.length).filter (overB g st now)
def idleB (st : List Int) (i : Nat) : Bool := st.getD i 0 == 200
def nextS (g : List Tk) (rm : List Int) (wk : Int) (st : List Int) (now : Int) : List Nat :=
 (admN g rm wk (cnt g (runS g st now)) (insL (tailsS g) ((readyS g (ints (overS g st now))).filter (idleB st)))).2
def putS (now : Int) (st : List Int) (l : List Nat) : List Int := l.foldl (fun s i => s.set i now) st
def stepS (g : List Tk) (rm : List Int) (wk : Int) (st : List Int) (now : Nat) : List Int := putS now st (nextS g rm wk st now)
def planL (g : List Tk) (rm : List Int) (wk : Int) : Nat → List Int
 | 0 => List.replicate g.length 200
 | k + 1 => stepS g rm wk (planL g rm wk k) k
def planS (g : List Tk) (rm : List Int) (wk : Int) : List Int := planL g rm wk 200
def StOk (n : Nat) (st : List Int) : Prop := st.length = n ∧ ∀ i, 0 ≤ st.getD i 0 ∧ st.getD i 0 ≤ 200
theorem StOk.set {n : Nat} {st : List Int} (h : StOk n st) (i : Nat) {x : Int} (hx : 0 ≤ x ∧ x ≤ 200) : StOk n (st.set i x) := by
 refine ⟨by rw [List.length_set]; exact h.1, fun j => ?_⟩
 have := h.2 j
 rw [List.getD_eq_getElem?_getD, List.getElem?_set]
 rw [List.getD_eq_getElem?_getD] at this
 split
 ·
  split
  ·
   exact hx
  ·
   simp
 ·
  exact this
theorem putS_ok {n : Nat} {now : Int} (hn : 0 ≤ now ∧ now ≤ 200) : ∀ (l : List Nat) {st : List Int}, StOk n st → StOk n (putS now st l)
 | [], _, h => h
 | i :: l, st, h => putS_ok hn l (st := st.set i now) (h.set i hn)
theorem putS_snoc (now : Int) (st : List Int) (l : List Nat) (i : Nat) : putS now st (l ++ [i]) = (putS now st l).set i now := by
 unfold putS
 rw [List.foldl_append]
 rfl
theorem planL_ok (g : List Tk) (rm : List Int) (wk : Int) : ∀ k, k ≤ 200 → StOk g.length (planL g rm wk k)
 | 0, _ => by
  refine ⟨by unfold planL; simp, fun i => ?_⟩
  unfold planL
  rw [List.getD_eq_getElem?_getD, List.getElem?_replicate]
  split <;> simp
 | k + 1, hk => putS_ok (by omega) _ (planL_ok g rm wk k (by omega))
theorem insL_len (T : List Int) (xs : List Nat) : (insL T xs).length = xs.length := (insL_perm T xs).length_eq
theorem insL_mem (T : List Int) (xs : List Nat) : ∀ x ∈ insL T xs, x ∈ xs := fun x hx => (insL_perm T xs).mem_iff.1 hx
theorem nextS_lt (g : List Tk) (rm : List Int) (wk : Int) (st : List Int) (now : Int) : ∀ x ∈ nextS g rm wk st now, x < g.length := by
 intro x hx
 have h1 := admN_sub g rm wk (cnt g (runS g st now)) (insL (tailsS g) ((readyS g (ints (overS g st now))).filter (idleB st))) _ (Nat.le_refl _) x (by rw [List.take_length]; exact hx)
 exact List.mem_range.1 (List.mem_filter.1 (List.mem_filter.1 (insL_mem _ _ x h1)).1).1
theorem waitS_len (g : List Tk) (st : List Int) (d : List Int) : ((readyS g d).filter (idleB st)).length ≤ g.length := Nat.le_trans (List.length_filter_le _ _) (filter_range_le _ _)
theorem nextS_len {g : List Tk} (hg : TOk g) (rm : List Int) (wk : Int) (st : List Int) (now : Int) : (nextS g rm wk st now).length ≤ 8 := by
 have h2 := (admN_facts hg rm wk (c := cnt g (runS g st now)) (cnt_small100 hg (Nat.le_trans (filter_range_le _ _) (by have := hg.1; omega))) (insL (tailsS g) ((readyS g (ints (overS g st now))).filter (idleB st))) _ (Nat.le_refl _)).2
 rw [List.take_length, insL_len] at h2
 have := waitS_len g st (ints (overS g st now))
 have := hg.1
 unfold nextS
 omega
def rep200 (n j : Nat) : List Int := List.replicate j 200 ++ List.replicate (n - j) 0
theorem IRow.below {W W' : World} {b : Nat} {xs : List Int} (h : IRow W b xs) (hb : Below W.heap.size W W') : IRow W' b xs := (hb.block b (blk_lt h)).trans h
theorem rep200_len {n j : Nat} (h : j ≤ n) : (rep200 n j).length = n := by
 unfold rep200
 simp
 omega
theorem rep200_set {n j : Nat} (h : j < n) : (rep200 n j).set j 200 = rep200 n (j + 1) := by
 unfold rep200
 rw [List.set_append_right _ _ (by simp), show n - j = (n - (j + 1)) + 1 by omega, List.replicate_succ, List.replicate_succ']
 simp
set_option maxRecDepth 1000000 in
set_option maxHeartbeats 8000000 in
theorem plan_calls (A : Option Addr) (c : Nat) (g : List Tk) (A1 : Option Addr) (c1 : Nat) (rm : List Int) (wk : Int) (hv : specValid g = true) (hrm : rm.length = 3) (w : World) (hr : kTk.C w A g.length g) (hr1 : (Kd.int .i64).C w A1 rm.length rm) :
  Calls Tryz.prog 125 #[.slice A g.length c, .slice A1 rm.length c1, .int .i64 wk] w fun e w' => ∃ v, e = .returned v ∧ Kd.R (Kd.int .i64) 3 w' w.heap.size (fun _ => True) v (planS g rm wk) ∧ Below w.heap.size w w' := by
 have hok := specValid_TOk hv
 have h8 := hok.1
 have HR := Lib.hid hr
 have HR1 := Lib.hid hr1
 have HG := Lib.hid hok
 have HV := Lib.hid hv
 have HRM := Lib.hid hrm
 have hmk := run_makeI g.length (by omega)
 clear hr hr1 hok hv hrm
 go_enter Tryz.func125, Tryz.ntmps125
 go_wp2
 have hI0 : IRow (w.alloc (.cells (zeroI g.length) 3)) w.heap.size (rep200 g.length 0) := by
  unfold rep200
  exact World.alloc_heap_new w _
 have hB0 : Below w.heap.size w (w.alloc (.cells (zeroI g.length) 3)) := (Below.refl _ _).alloc (Nat.le_refl _) _
 clear hmk
 go_loopw [8] (fun i wr => ∃ j, j ≤ g.length ∧ i = .int .i64 (j : Nat) ∧ IRow wr w.heap.size (rep200 g.length j) ∧ Below w.heap.size w wr) (fun i _ => g.length - (intOf i).toNat)
 case atStart => exact ⟨0, Nat.zero_le _, rfl, hI0, hB0⟩
 case round =>
  clear hI0 hB0
  obtain ⟨j, hj, rfl, hI, hB⟩ := hrel
  by_cases hjl : j < g.length
  ·
   have hjj : decide ((j : Int) < (g.length : Int)) = true := decide_eq_true (by omega)
   have hji : (j : Int) < (g.length : Int) := by omega
   have cc := hI.cell j (by rw [rep200_len (by omega)]; exact hjl)
   have ff := hI.frozen j
   go_wp2
   go_roundw
   case rel =>
    refine ⟨j + 1, by omega, by go_num, ?_, hB.setCell (p := ⟨w.heap.size, j, none⟩) (Nat.le_refl _) _⟩
    rw [← rep200_set hjl]
    exact hI.set j 200
   case measure => simp [intOf]; omega
  ·
   obtain rfl : j = g.length := by omega
   have hjj : decide ((g.length : Int) < (g.length : Int)) = false := decide_eq_false (by omega)
   have hI1 : IRow wr w.heap.size (planL g rm wk 0) := by
    unfold rep200 at hI
    rw [Nat.sub_self] at hI
    unfold planL
    simpa using hI
   clear hI
   go_wp2
   go_loopw [9] (fun now wr => ∃ k, k ≤ 200 ∧ now = .int .i64 (k : Nat) ∧ IRow wr w.heap.size (planL g rm wk k) ∧ Below w.heap.size w wr) (fun now _ => 200 - (intOf now).toNat)
   case atStart => exact ⟨0, Nat.zero_le _, rfl, hI1, hB⟩
   case round =>
    clear hI1 hB hjj
    obtain ⟨k, hk, rfl, hI, hB⟩ := hrel
    by_cases hkl : k < 200
    ·
     have hkk : decide ((k : Int) < 200) = true := decide_eq_true (by omega)
     have hST := planL_ok g rm wk k hk
     have HSTEP : Hid (planL g rm wk (k + 1) = stepS g rm wk (planL g rm wk k) k) := Lib.hid rfl
     generalize planL g rm wk k = st at hI hST HSTEP
     obtain ⟨wo, rfl⟩ : ∃ wo : World, wo = wr := ⟨_, rfl⟩
     have HI := Lib.hid hI
     have HST := Lib.hid hST
     have HB := Lib.hid hB
     clear hI hST hB
     go_wp2
     have HO : Kd.R (Kd.int .i64) 3 (wo.alloc (.cells #[] 3)) wo.heap.size (fun _ => True) (.slice (some ⟨wo.heap.size, 0, none⟩) 0 0) (ints []) := Kd.R_of_own (World.ownsRow_lit (base := wo.heap.size) (size := 1) wo #[] 0 (Nat.le_refl _) (by simp [maxLen]) rfl) (fun _ _ => trivial)
     have HBa : Below wo.heap.size wo (wo.alloc (.cells #[] 3)) := (Below.refl _ _).alloc (Nat.le_refl _) _
     go_loopw [10, 11] (fun out i wi => ∃ j, j ≤ g.length ∧ i = .int .i64 (j : Nat) ∧ Kd.R (Kd.int .i64) 3 wi wo.heap.size (fun _ => True) out (ints ((List.range j).filter (overB g st k))) ∧ Below wo.heap.size wo wi) (fun _ i _ => g.length - (intOf i).toNat)
     case atStart => exact ⟨0, Nat.zero_le _, rfl, HO, HBa⟩
     case round =>
      clear HO HBa
      obtain ⟨j, hj, rfl, hO, hBi⟩ := hrel
      by_cases hjl : j < g.length
      ·
       have hjj : decide ((j : Int) < (g.length : Int)) = true := decide_eq_true (by omega)
       have hji : (j : Int) < (g.length : Int) := by omega
       obtain ⟨ad, A4, c4, rfl, hc0, _⟩ := at_Tk (Kd.C_below HR.out (HB.out.trans (hBi.mono HB.out.size))) j hjl
       have cs := (HI.out.below hBi).cell j (by rw [HST.out.1]; exact hjl)
       have HFS : Hid ((List.range (j + 1)).filter (overB g st k) = if overB g st k j then (List.range j).filter (overB g st k) ++ [j] else (List.range j).filter (overB g st k)) := Lib.hid (filter_snoc j)
       have hfl := filter_range_le (overB g st k) j
       have HBD : Hid (overB g st k j = decide (st.getD j 0 + (rdTk g j).f0 ≤ (k : Int))) := Lib.hid rfl
       generalize (List.range j).filter (overB g st k) = fl at hO HFS hfl
       have hsj := HST.out.2 j
       have htj := HG.out.2.1 j
       generalize st.getD j 0 = s at cs hsj HBD
       generalize (rdTk g j).f0 = tm at hc0 htj HBD
       have hwr : IntKind.i64.wrap (s + tm) = s + tm := IntWalk.i64_in _ (by omega)
       have hol : (ints fl).length < 1000000 := by rw [ints_length]; omega
       have HOB := Lib.hid (And.intro hO hBi)
       clear hO hBi
       by_cases h1 : s + tm ≤ (k : Int)
       ·
        have d1 : decide (s + tm ≤ (k : Int)) = true := decide_eq_true h1
        rw [d1] at HBD
        clear h1
        go_wp2
        go_quiet (fail)
        clear hwr
        have hO2 := Kd.R_drewN HOB.out.1 nq
        have hB2 := pw_below_drewN HOB.out.2 nq
        go_wp2_with (at_builtin; refine ap_int (w0 := wo) wo.heap.size rfl _ _ rfl u10 (ints fl) (j : Int) rfl rfl rfl hO2 hB2 hB2.size hol ?_; intro v1 w2 hO3 hB3 hg3 hat3; clear hg3 hat3)
        go_roundw
        case rel => exact ⟨j + 1, by omega, by go_num, by rw [HFS.out, HBD.out]; simpa [ints] using hO3, hB3⟩
        case measure => simp [intOf]; omega
       ·
        have d1 : decide (s + tm ≤ (k : Int)) = false := decide_eq_false h1
        rw [d1] at HBD
        clear h1
        go_wp2
        go_quiet (fail)
        clear hwr
        go_wp2
        go_roundw
        case rel => exact ⟨j + 1, by omega, by go_num, by rw [HFS.out, HBD.out]; exact Kd.R_drewN HOB.out.1 _, pw_below_drewN HOB.out.2 _⟩
        case measure => simp [intOf]; omega
      ·
       obtain rfl : j = g.length := by omega
       have hjj : decide ((g.length : Int) < (g.length : Int)) = false := decide_eq_false (by omega)
       obtain ⟨Ad, cd, rfl, _, hCd⟩ := Kd.R_reads hO
       rw [ints_length] at hCd ⊢
       obtain ⟨w2, rfl⟩ : ∃ w2 : World, w2 = wr := ⟨_, rfl⟩
       rw [show List.filter (overB g st k) (List.range g.length) = overS g st k from rfl] at hCd ⊢
       have HBo : Hid (Below w.heap.size w w2) := Lib.hid (HB.out.trans (hBi.mono HB.out.size))
       have HI2 := Lib.hid (HI.out.below hBi)
       have hBa : Below w2.heap.size w2 (w2.alloc (.cells #[] 3)) := (Below.refl _ _).alloc (Nat.le_refl _) _
       have hsr := sready_calls A c g Ad cd (ints (overS g st k)) h8 (w2.alloc (.cells #[] 3)) (Kd.C_below HR.out (HBo.out.trans (hBa.mono HBo.out.size))) (by rw [ints_length]; exact Kd.C_below hCd hBa)
       rw [ints_length] at hsr
       have HSR := Lib.hid hsr
       have HO2 : Kd.R (Kd.int .i64) 3 (w2.alloc (.cells #[] 3)) w2.heap.size (fun _ => True) (.slice (some ⟨w2.heap.size, 0, none⟩) 0 0) (ints []) := Kd.R_of_own (World.ownsRow_lit (base := w2.heap.size) (size := 1) w2 #[] 0 (Nat.le_refl _) (by simp [maxLen]) rfl) (fun _ _ => trivial)
       have HX := Lib.hid (And.intro HO2 hBa)
       clear hsr hO hCd hBi HO2 hBa
       go_wp2_with (go_at_call 141; refine HSR.out.mono ?_; rintro e w3 ⟨v3, rfl, hR3, hB3⟩)
       have HT3 : Two w3 w2.heap.size (.slice (some ⟨w2.heap.size, 0, none⟩) 0 0) v3 (ints []) (ints (readyS g (ints (overS g st k)))) := ⟨Kd.R_below HX.out.1 hB3, Kd.R_lower hR3 (by simp), fun q h1 h2 => by
        have h3 := ((Kd.R_bound hR3).1 q h2).2.1
        simp [Value.ownBlock] at h1
        simp at h3
        omega⟩
       have HB3 : Below w2.heap.size w2 w3 := HX.out.2.trans (hB3.mono (by simp))
       clear hR3 hB3
       have hcl : (readyS g (ints (overS g st k))).length ≤ 8 := Nat.le_trans (filter_range_le _ _) h8
       have HCM : Hid (∀ x ∈ readyS g (ints (overS g st k)), x < g.length) := Lib.hid (fun x hx => List.mem_range.1 (List.mem_filter.1 hx).1)
       have HNX : Hid (nextS g rm wk st k = (admN g rm wk (cnt g (runS g st k)) (insL (tailsS g) ((readyS g (ints (overS g st k))).filter (idleB st)))).2) := Lib.hid rfl
       generalize readyS g (ints (overS g st k)) = can at HT3 hcl HCM HNX
       obtain ⟨A3, c3, rfl, _, _⟩ := Kd.R_reads HT3.b
       rw [ints_length] at HT3 ⊢
       go_loopw [12, 14] (fun out i wr => ∃ j, j ≤ can.length ∧ i = .int .i64 (j : Nat) ∧ Two wr w2.heap.size out (.slice A3 can.length c3) (ints ((can.take j).filter (idleB st))) (ints can) ∧ Below w2.heap.size w2 wr) (fun _ i _ => can.length - (intOf i).toNat)
       case atStart => exact ⟨0, Nat.zero_le _, rfl, HT3, HB3⟩
       case round =>
        clear HT3 HB3
        obtain ⟨j, hj, rfl, hT, hBi⟩ := hrel
        by_cases hjl : j < can.length
        ·
         have hjj : decide ((j : Int) < (can.length : Int)) = true := decide_eq_true (by omega)
         have hji : (j : Int) < (can.length : Int) := by omega
         obtain ⟨A5, c5, e5, _, hCn⟩ := Kd.R_reads hT.b
         rw [ints_length] at e5 hCn
         cases e5
         obtain ⟨ad, rfl, cx⟩ := at_set hCn j hjl
         have hxg : can.getD j 0 < g.length := by
          apply HCM.out
          rw [List.getD_eq_getElem?_getD, List.getElem?_eq_getElem hjl]
          exact List.getElem_mem _
         have HFS : Hid ((can.take (j + 1)).filter (idleB st) = if idleB st (can.getD j 0) then (can.take j).filter (idleB st) ++ [can.getD j 0] else (can.take j).filter (idleB st)) := Lib.hid (by
          rw [List.take_succ_eq_append_getElem hjl, List.filter_append, List.getD_eq_getElem?_getD, List.getElem?_eq_getElem hjl]
          cases hq : idleB st can[j] <;> simp [hq])
         have hfl : ((can.take j).filter (idleB st)).length ≤ 8 := Nat.le_trans (List.length_filter_le _ _) (by rw [List.length_take]; omega)
         generalize (can.take j).filter (idleB st) = fl at hT HFS hfl
         generalize can.getD j 0 = x at cx hxg HFS
         have cs := (HI2.out.below hBi).cell x (by rw [HST.out.1]; exact hxg)
         have hxi : (x : Int) < (g.length : Int) := by omega
         have HID : Hid (idleB st x = (st.getD x 0 == 200)) := Lib.hid rfl
         generalize st.getD x 0 = s at cs HID
         have hol : (ints fl).length < 1000000 := by rw [ints_length]; omega
         have HTB := Lib.hid (And.intro hT hBi)
         have hta := hT.a
         have hbs := hBi.size
         by_cases h1 : s = 200
         ·
          have d1 : (s == 200) = true := beq_iff_eq.2 h1
          rw [d1] at HID
          clear h1
          go_wp2_with (at_builtin; refine ap_int (w0 := w2) w2.heap.size rfl _ _ rfl u12 (ints fl) (x : Int) rfl rfl rfl hta hBi hbs hol ?_; intro v1 w4 hO4 hB4 hg4 hat4; have hT4 := HTB.out.1.grow hO4 hg4 hat4; clear hg4 hat4)
          go_roundw
          case rel => exact ⟨j + 1, by omega, by go_num, by rw [HFS.out, HID.out]; simpa [ints] using hT4, hB4⟩
          case measure => simp [intOf]; omega
         ·
          have d1 : (s == 200) = false := by rw [beq_eq_false_iff_ne]; exact h1
          rw [d1] at HID
          clear h1
          go_wp2
          go_roundw
          case rel => exact ⟨j + 1, by omega, by go_num, by rw [HFS.out, HID.out]; exact HTB.out.1, HTB.out.2⟩
          case measure => simp [intOf]; omega
        ·
         obtain rfl : j = can.length := by omega
         have hjj : decide ((can.length : Int) < (can.length : Int)) = false := decide_eq_false (by omega)
         rw [List.take_length] at hT
         obtain ⟨w5, rfl⟩ : ∃ w5 : World, w5 = wr := ⟨_, rfl⟩
         have HB5 := Lib.hid (HBo.out.trans (hBi.mono HBo.out.size))
         have HI5 := Lib.hid (HI2.out.below hBi)
         have HWM : Hid (∀ x ∈ can.filter (idleB st), x < g.length) := Lib.hid (fun x hx => HCM.out x (List.mem_filter.1 hx).1)
         have hwl : (can.filter (idleB st)).length ≤ 100 := Nat.le_trans (List.length_filter_le _ _) (by omega)
         have hwl8 : (can.filter (idleB st)).length ≤ 16 := Nat.le_trans (List.length_filter_le _ _) (by omega)
         generalize can.filter (idleB st) = wt at hT HNX HWM hwl hwl8
         obtain ⟨A6, c6, rfl, _, hC6⟩ := Kd.R_reads hT.a
         rw [ints_length] at hC6 ⊢
         have HC6 := Lib.hid hC6
         obtain ⟨l, hl⟩ : ∃ l, l = insL (tailsS g) wt := ⟨_, rfl⟩
         have hll : l.length ≤ 16 := by rw [hl, insL_len]; exact hwl8
         have HLM : Hid (∀ x ∈ l, x < g.length) := Lib.hid (fun x hx => HWM.out x (insL_mem _ _ x (hl ▸ hx)))
         rw [← hl] at HNX
         have HL := Lib.hid hl
         have hra := runningAt_calls A c g (some ⟨w.heap.size, 0, none⟩) g.length st k HG.out (fun i => by have := HST.out.2 i; omega) HST.out.1 w5 (Kd.C_below HR.out HB5.out) (by
          obtain ⟨A9, c9, e9, _, h9⟩ := Kd.R_reads (HI5.out.own (base := w.heap.size) (Nat.le_refl _) (by rw [HST.out.1]; omega))
          cases e9
          exact h9)
         rw [HST.out.1] at hra
         have HRA := Lib.hid hra
         have hrn : (runS g st k).length ≤ 50 := Nat.le_trans (filter_range_le _ _) (by omega)
         have HRN : Hid (∀ x ∈ runS g st k, x < g.length) := Lib.hid (fun x hx => List.mem_range.1 (List.mem_filter.1 hx).1)
         generalize runS g st k = run at HRA hrn HRN HNX
         have HNL : Hid ((nextS g rm wk st k).length ≤ 8 ∧ ∀ x ∈ nextS g rm wk st k, x < g.length) := Lib.hid ⟨nextS_len HG.out rm wk st k, nextS_lt g rm wk st k⟩
         have HSTEP2 : Hid (planL g rm wk (k + 1) = putS k st (nextS g rm wk st k)) := Lib.hid HSTEP.out
         clear hT hBi hC6 hl hra
         go_wp2_with (first
          | (go_at_call 67; refine HRA.out.mono ?_; rintro e w6 ⟨v6, rfl, hR6, hB6⟩; obtain ⟨A7, c7, rfl, hc7, hC7⟩ := Kd.R_reads hR6; rw [ints_length] at hc7 hC7; rw [ints_length]; have HC7 := Lib.hid hC7; have hbt := byTail_calls A c g HV.out A6 c6 wt HWM.out hwl w6 (Kd.C_below HR.out (HB5.out.trans (hB6.mono HB5.out.size))) (Kd.C_below HC6.out hB6); rw [← HL.out] at hbt; have HBT := Lib.hid hbt; have HB6 := Lib.hid (HB5.out.trans (hB6.mono HB5.out.size)); have HI6 := Lib.hid (HI5.out.below hB6); clear hR6 hB6 hC7 hbt)
          | (go_at_call 143; refine HBT.out.mono ?_; rintro e w7 ⟨v7, rfl, hR7, hB7⟩; obtain ⟨A8, c8, rfl, _, hC8⟩ := Kd.R_reads hR7; rw [ints_length] at hC8; rw [ints_length]; have HB7 := Lib.hid (HB6.out.trans (hB7.mono HB6.out.size)); have HI7 := Lib.hid (HI6.out.below hB7); have had := admit_calls A c g A1 c1 rm A7 c7 run A8 c8 l wk HG.out HRM.out hrn HRN.out hll HLM.out w7 (Kd.C_below HR.out HB7.out) (Kd.C_below HR1.out HB7.out) (Kd.C_below HC7.out hB7) hc7 hC8; rw [← HNX.out] at had; have HAD := Lib.hid had; clear hR7 hB7 hC8 had)
          | (go_at_call 142; refine HAD.out.mono ?_; rintro e w8 ⟨v8, rfl, hR8, hB8⟩))
         have HB8 := HB7.out.trans (hB8.mono HB7.out.size)
         have HI8 := HI7.out.below hB8
         have hR9 : Kd.R (Kd.int .i64) 3 w8 w.heap.size (fun q => q ≠ w.heap.size) v8 (ints (nextS g rm wk st k)) := by
          have h1 := HB7.out.size
          have h2 := (blk_lt HI7.out)
          exact Kd.R_lower (Kd.R_mono (Kd.R_bound hR8) (fun q hq => by have := hq.2.1; omega)) h1
         have HSO := Lib.hid (putS_ok (n := g.length) (now := (k : Int)) (by omega))
         clear hR8 hB8
         generalize nextS g rm wk st k = nx at hR9 HNL HSTEP2
         have hnx := HNL.out.1
         obtain ⟨A10, c10, rfl, _, _⟩ := Kd.R_reads hR9
         rw [ints_length] at hR9 ⊢
         go_loopw [16] (fun i wr => ∃ j, j ≤ nx.length ∧ i = .int .i64 (j : Nat) ∧ IRow wr w.heap.size (putS k st (nx.take j)) ∧ Kd.R (Kd.int .i64) 3 wr w.heap.size (fun q => q ≠ w.heap.size) (.slice A10 nx.length c10) (ints nx) ∧ Below w.heap.size w wr) (fun i _ => nx.length - (intOf i).toNat)
         case atStart => exact ⟨0, Nat.zero_le _, rfl, HI8, hR9, HB8⟩
         case round =>
          clear HI8 hR9 HB8
          obtain ⟨j, hj, rfl, hI, hR9, hBi⟩ := hrel
          by_cases hjl : j < nx.length
          ·
           have hjj : decide ((j : Int) < (nx.length : Int)) = true := decide_eq_true (by omega)
           have hji : (j : Int) < (nx.length : Int) := by omega
           obtain ⟨A11, c11, e5, _, hCn⟩ := Kd.R_reads hR9
           rw [ints_length] at e5 hCn
           cases e5
           obtain ⟨ad, rfl, cx⟩ := at_set hCn j hjl
           have hxg : nx.getD j 0 < g.length := by
            apply HNL.out.2
            rw [List.getD_eq_getElem?_getD, List.getElem?_eq_getElem hjl]
            exact List.getElem_mem _
           have HPS : Hid (putS k st (nx.take (j + 1)) = (putS k st (nx.take j)).set (nx.getD j 0) k) := Lib.hid (by
            rw [List.take_succ_eq_append_getElem hjl, putS_snoc, List.getD_eq_getElem?_getD, List.getElem?_eq_getElem hjl]
            rfl)
           have hso := HSO.out (nx.take j) HST.out
           generalize nx.getD j 0 = x at cx hxg HPS
           have cs := hI.cell x (by rw [hso.1]; exact hxg)
           have fs := hI.frozen x
           have hxi : (x : Int) < (g.length : Int) := by omega
           have HIN := Lib.hid (And.intro hI (And.intro hR9 hBi))
           clear hI hR9 hBi hCn hso
           go_wp2
           go_roundw
           case rel =>
            refine ⟨j + 1, by omega, by go_num, ?_, Kd.R_far (p := ⟨w.heap.size, x, none⟩) HIN.out.2.1 (fun q h => h) _, HIN.out.2.2.setCell (p := ⟨w.heap.size, x, none⟩) (Nat.le_refl _) _⟩
            rw [HPS.out]
            exact HIN.out.1.set x k
           case measure => simp [intOf]; omega
          ·
           obtain rfl : j = nx.length := by omega
           have hjj : decide ((nx.length : Int) < (nx.length : Int)) = false := decide_eq_false (by omega)
           rw [List.take_length] at hI
           go_wp2
           go_roundw
           case rel => exact ⟨k + 1, by omega, by go_num, by rw [HSTEP2.out]; exact hI, hBi⟩
           case measure => simp [intOf]; omega
    ·
     obtain rfl : k = 200 := by omega
     have hkk : decide (((200 : Nat) : Int) < 200) = false := by decide
     go_wp2
     go_ret
     refine ⟨_, rfl, ?_, hB⟩
     have := hI.own (base := w.heap.size) (Nat.le_refl _) (by rw [(planL_ok g rm wk 200 (Nat.le_refl _)).1]; omega)
     rw [(planL_ok g rm wk 200 (Nat.le_refl _)).1] at this
     exact this
end Go.Proofs.YtlapphhcficbjaaGreatDoor

namespace Go.Proofs.YtlapphhcficbjaaGreatDoor
set_option linter.unusedVariables false
set_option linter.unusedSimpArgs false
open Go.RowKit Go.Shelf Bits
open Go.Proofs.YtlapphhcficbjaaGreatDoorW.PrintWords Go.Proofs.YtlapphhcficbjaaGreatDoorW.PrintLast Go.Proofs.YtlapphhcficbjaaGreatDoorW.PrintMore
theorem workersValid_calls (n : Int) (w : World) : Calls Tryz.prog 79 #[.int .i64 n] w fun e w' => e = .returned (.bool (inB n 1 4)) ∧ w' = w := by
 go_enter Tryz.func79, Tryz.ntmps79
 go_wp2_with (go_at_call 54; refine (within_calls _ _ _ _).mono ?_; rintro e w2 ⟨rfl, rfl⟩)
 go_ret
 exact ⟨rfl, rfl⟩
theorem workersValid_is (b : Bool) (n : Int) (h : Hid (inB n 1 4 = b)) (w : World) : Calls Tryz.prog 79 #[.int .i64 n] w fun e w' => e = .returned (.bool b) ∧ w' = w :=
 (workersValid_calls n w).mono fun e w' ⟨he, hw⟩ => ⟨by rw [he, h.out], hw⟩
set_option maxRecDepth 100000 in
theorem ValidRoom_calls (A : Option Addr) (c : Nat) (rm : List Int) (w : World) (hr : (Kd.int .i64).C w A rm.length rm) :
  Calls Tryz.prog 78 #[.slice A rm.length c] w fun e w' => e = .returned (.bool (roomB rm)) ∧ w' = w := by
 have HR := Lib.hid hr
 have hl := (C_len hr).2
 clear hr
 by_cases h3 : rm.length = 3
 ·
  have d3 : ((rm.length : Int) != 3) = false := by rw [h3]; rfl
  have HRB : Hid (roomB rm = allInB rm 4 8) := Lib.hid (by unfold roomB; rw [decide_eq_true h3, Bool.true_and])
  have H3 := Lib.hid h3
  clear h3
  go_enter Tryz.func78, Tryz.ntmps78
  go_wp2
  go_loop [10] (fun i => ∃ (k : Nat), k ≤ rm.length ∧ i = .int .i64 k ∧ Hid (∀ j, j < k → inB (rm.getD j 0) 4 8 = true)) (fun i => rm.length - (intOf i).toNat)
  case atStart => exact ⟨0, Nat.zero_le _, rfl, Lib.hid fun j h => absurd h (Nat.not_lt_zero _)⟩
  case round =>
   obtain ⟨k, hk, rfl, HS⟩ := hrel
   by_cases hlt : k < rm.length
   ·
    have hjj : decide ((k : Int) < (rm.length : Int)) = true := decide_eq_true (by omega)
    have hji : (k : Int) < (rm.length : Int) := by omega
    obtain ⟨ad, rfl, hc⟩ := at_num HR.out k hlt
    cases hb : inB (rm.getD k 0) 4 8
    ·
     have HF : Hid (roomB rm = false) := Lib.hid (by
      rw [HRB.out]
      unfold allInB
      rw [List.all_eq_false]
      exact ⟨rm.getD k 0, mem_getD hlt, by rw [hb]; simp⟩)
     have HW := Lib.hid hb
     clear hb
     generalize rm.getD k 0 = x at hc HW
     go_wp2_with (go_at_call 54; refine (within_is _ _ _ _ HW _).mono ?_; rintro e w2 ⟨rfl, rfl⟩)
     go_ret
     exact ⟨ret_bool HF.out.symm, rfl⟩
    ·
     have HN : Hid (∀ j, j < k + 1 → inB (rm.getD j 0) 4 8 = true) := Lib.hid (fun j hj => by
      by_cases e : j = k
      ·
       rw [e]; exact hb
      ·
       exact HS.out j (by omega))
     have HW := Lib.hid hb
     clear hb
     generalize rm.getD k 0 = x at hc HW
     go_wp2_with (go_at_call 54; refine (within_is _ _ _ _ HW _).mono ?_; rintro e w2 ⟨rfl, rfl⟩)
     go_round
     case rel => exact ⟨k + 1, by omega, by go_num, HN⟩
     case measure => simp [intOf]; omega
   ·
    have HF : Hid (roomB rm = true) := Lib.hid (by rw [HRB.out]; exact all_take 0 (fun j hj => HS.out j (by omega)))
    have hjj : decide ((k : Int) < (rm.length : Int)) = false := decide_eq_false (by omega)
    go_wp2
    go_ret
    exact ⟨ret_bool HF.out.symm, rfl⟩
 ·
  have d3 : ((rm.length : Int) != 3) = true := by rw [bne_iff_ne]; omega
  have HF : Hid (roomB rm = false) := Lib.hid (by unfold roomB; rw [decide_eq_false h3]; rfl)
  clear h3
  go_enter Tryz.func78, Tryz.ntmps78
  go_wp2
  go_ret
  exact ⟨ret_bool HF.out.symm, rfl⟩
theorem ValidRoom_is (b : Bool) (A : Option Addr) (c : Nat) (rm : List Int) (h : Hid (roomB rm = b)) (w : World) (hr : (Kd.int .i64).C w A rm.length rm) :
  Calls Tryz.prog 78 #[.slice A rm.length c] w fun e w' => e = .returned (.bool b) ∧ w' = w :=
 (ValidRoom_calls A c rm w hr).mono fun e w' ⟨he, hw⟩ => ⟨by rw [he, h.out], hw⟩
def placeB (rm : List Int) (wk : Int) : Bool := roomB rm && inB wk 1 4
set_option maxRecDepth 100000 in
theorem placeIn_yes (A : Option Addr) (c : Nat) (g : List Tk) (ns : List Nat) (A1 : Option Addr) (c1 : Nat) (rm : List Int) (wk : Int) (hp : placeB rm wk = true) (w : World) (hr : kTk.C w A g.length g) (hT : Tab w) (hg : graphN g = some ns) (hr1 : (Kd.int .i64).C w A1 rm.length rm) :
  Calls Tryz.prog 36 #[.slice A g.length c, .slice A1 rm.length c1, .int .i64 wk] w fun e w' => ∃ C, e = .returned (.tuple #[.pointer (some ⟨C, 0, none⟩), .bool true]) ∧ IsGraph w' C g ns ∧ Below w.heap.size w w' := by
 unfold placeB at hp
 rw [Bool.and_eq_true] at hp
 have HG := Lib.hid (graphOf_yes A c g ns w hr hT hg)
 have HR1 := Lib.hid hr1
 have H1 := Lib.hid hp.1
 have H2 := Lib.hid hp.2
 clear hr hr1 hp hg
 go_enter Tryz.func36, Tryz.ntmps36
 go_wp2_with (first
  | (go_at_call 49; refine HG.out.mono ?_; rintro e w2 ⟨C, rfl, hI, hB⟩; have HC := Lib.hid hI; have HB := Lib.hid hB; clear hI hB)
  | (go_at_call 78; refine (ValidRoom_is _ _ _ _ H1 _ (Kd.C_below HR1.out HB.out)).mono ?_; rintro e w' ⟨rfl, rfl⟩)
  | (go_at_call 79; refine (workersValid_is _ _ H2 _).mono ?_; rintro e w' ⟨rfl, rfl⟩))
 go_ret2
 exact ⟨C, rfl, HC.out, HB.out⟩
set_option maxRecDepth 100000 in
theorem placeIn_no (A : Option Addr) (c : Nat) (g : List Tk) (A1 : Option Addr) (c1 : Nat) (rm : List Int) (wk : Int) (hn : ∀ ns, graphN g = some ns → placeB rm wk = false) (w : World) (hr : kTk.C w A g.length g) (hT : Tab w) (hr1 : (Kd.int .i64).C w A1 rm.length rm) :
  Calls Tryz.prog 36 #[.slice A g.length c, .slice A1 rm.length c1, .int .i64 wk] w fun e w' => e = .returned (.tuple #[.pointer none, .bool false]) ∧ Below w.heap.size w w' := by
 have HR1 := Lib.hid hr1
 clear hr1
 cases hg : graphN g with
 | none =>
  have HG := Lib.hid (graphOf_no A c g w hr hg)
  clear hr hn hg
  go_enter Tryz.func36, Tryz.ntmps36
  go_wp2_with (go_at_call 49; refine HG.out.mono ?_; rintro e w2 ⟨rfl, hB⟩; have HB := Lib.hid hB; clear hB)
  go_ret2
  exact ⟨rfl, HB.out⟩
 | some ns =>
  have hp := hn ns hg
  unfold placeB at hp
  have HG := Lib.hid (graphOf_yes A c g ns w hr hT hg)
  clear hr hn hg
  cases h1 : roomB rm with
  | false =>
   have H1 := Lib.hid h1
   clear h1 hp
   go_enter Tryz.func36, Tryz.ntmps36
   go_wp2_with (first
    | (go_at_call 49; refine HG.out.mono ?_; rintro e w2 ⟨C, rfl, hI, hB⟩; have HB := Lib.hid hB; clear hI hB)
    | (go_at_call 78; refine (ValidRoom_is _ _ _ _ H1 _ (Kd.C_below HR1.out HB.out)).mono ?_; rintro e w' ⟨rfl, rfl⟩))
   go_ret2
   exact ⟨rfl, HB.out⟩
  | true =>
   rw [h1, Bool.true_and] at hp
   have H1 := Lib.hid h1
   have H2 := Lib.hid hp
   clear h1 hp
   go_enter Tryz.func36, Tryz.ntmps36
   go_wp2_with (first
    | (go_at_call 49; refine HG.out.mono ?_; rintro e w2 ⟨C, rfl, hI, hB⟩; have HB := Lib.hid hB; clear hI hB)
    | (go_at_call 78; refine (ValidRoom_is _ _ _ _ H1 _ (Kd.C_below HR1.out HB.out)).mono ?_; rintro e w' ⟨rfl, rfl⟩)
    | (go_at_call 79; refine (workersValid_is _ _ H2 _).mono ?_; rintro e w' ⟨rfl, rfl⟩))
   go_ret2
   exact ⟨rfl, HB.out⟩
end Go.Proofs.YtlapphhcficbjaaGreatDoor

namespace Go.Proofs.YtlapphhcficbjaaGreatDoor
set_option linter.unusedVariables false
set_option linter.unusedSimpArgs false
open Go.RowKit Go.Shelf Bits
open Go.Proofs.YtlapphhcficbjaaGreatDoorW.PrintWords Go.Proofs.YtlapphhcficbjaaGreatDoorW.PrintLast Go.Proofs.YtlapphhcficbjaaGreatDoorW.PrintMore
attribute [local go_sem] Oper.semAt_some
def els (s : Nat) : List Int := (elems s).map Int.ofNat
theorem els_of {s : Nat} {ys : List (El s)} (h : ys.map (·.1) = elems s) : ys.map (fun x => Int.ofNat x.1) = els s := by
 have := congrArg (List.map Int.ofNat) h
 rwa [List.map_map] at this
theorem len_of {s : Nat} {ys : List (El s)} (h : ys.map (·.1) = elems s) : ys.length = (els s).length := by
 have := congrArg List.length h
 simpa [els] using this
theorem els_length (s : Nat) : (els s).length ≤ 16 := by have := elems_length s; simpa [els] using this
set_option maxRecDepth 100000 in
set_option maxHeartbeats 2000000 in
theorem list_calls (s : Nat) (hs : s < 65536) (w : World) (hT : Tab w) :
  Calls Tryz.prog 29 #[.int .u16 s] w fun e W' => ∃ v, e = .returned v ∧ Kd.R (Kd.int .i64) 3 W' w.heap.size (fun _ => True) v (els s) ∧ Below w.heap.size w W' := by
 obtain ⟨i0, hi, hz0, hz1, hz2⟩ := info_parts infoInt
 have hmk : ∀ w, (Instr.makeSlice 24 (Value.int IntKind.i64 0) (Value.int IntKind.i64 8)).run Tryz.prog w = .ok (.slice (some ⟨w.heap.size, 0, none⟩) 0 8) (w.alloc (.cells #[.int .i64 0, .int .i64 0, .int .i64 0, .int .i64 0, .int .i64 0, .int .i64 0, .int .i64 0, .int .i64 0] 3)) := fun _ => by kernel_rfl
 refine calls_of_wp_marks Tryz.func29 rfl ?_
 simp only [Tryz.ntmps29, List.size_toArray, List.length_cons, List.length_nil, Nat.reduceAdd, Nat.reduceSub, Array.replicate_succ, Array.replicate_zero, List.push_toArray, List.append_toArray, List.nil_append, List.cons_append]
 go_wp2_with (go_at_call 69; refine (all_calls s _).mono ?_; rintro e w' ⟨rfl, rfl⟩)
 obtain ⟨W0, hW0⟩ : ∃ W0, W0 = (w.alloc (.cells #[.int .i64 0, .int .i64 0, .int .i64 0, .int .i64 0, .int .i64 0, .int .i64 0, .int .i64 0, .int .i64 0] 3)).alloc (.cells #[.slice (some ⟨w.heap.size, 0, none⟩) 0 8] 24) := ⟨_, rfl⟩
 have hB0 : Below w.heap.size w W0 := by rw [hW0]; exact ((Below.refl _ w).alloc (Nat.le_refl _) _).alloc (by simp) _
 have hz0' : W0.heap.size = w.heap.size + 1 + 1 := by rw [hW0]; simp
 have hO0 : W0.ownsRow w.heap.size 3 1 (.slice (some ⟨w.heap.size, 0, none⟩) 0 8) 0 [] := by rw [hW0]; exact (World.ownsRow_made (base := w.heap.size) w _ 8 (Nat.le_refl _) (by simp [maxLen]) rfl).alloc _
 have hb0 : Boxed W0 (w.heap.size + 1) 24 (.slice (some ⟨w.heap.size, 0, none⟩) 0 8) := by rw [hW0]; have := Boxed.new (w.alloc (.cells #[.int .i64 0, .int .i64 0, .int .i64 0, .int .i64 0, .int .i64 0, .int .i64 0, .int .i64 0, .int .i64 0] 3)) 24 (.slice (some ⟨w.heap.size, 0, none⟩) 0 8); rwa [World.size_alloc] at this
 rw [← hW0]
 clear hW0
 have htl := hT.lt
 have hT0 := hT.keep htl hB0
 have hBox := Boxed.new W0 56 (.int .u16 s)
 rw [hz0'] at hBox
 refine wp_rangeSet1 s (w.heap.size + 1 + 1) w.heap.size hs rfl (by simp [hz0']) hBox.cell (hT0.keep hT0.lt ((Below.refl _ _).alloc (Nat.le_refl _) _)) (by simp [hz0']; omega) htl
  (fun pre W => (∃ v, Boxed W (w.heap.size + 1) 24 v ∧ W.ownsRow w.heap.size 3 1 v pre.length (nums .i64 (pre.map fun x => Int.ofNat x.1)) ∧ True) ∧ Below w.heap.size w W) (fun _ _ _ => False)
  (OwnFrom.and (Own.from (holdsRow_own w.heap.size (w.heap.size + 1) 24 3 1 (fun pre : List (El s) => pre.length) (fun pre => nums .i64 (pre.map fun x => Int.ofNat x.1)) (fun _ _ => True)) _) (ownFrom_below (Nat.le_refl _) (by simp [hz0']; omega)))
  (fun _ _ _ _ _ h _ _ => h)
  ⟨⟨_, hb0.alloc _, hO0.alloc _, trivial⟩, hB0.alloc hB0.size _⟩
  (fun x => { tmps := #[.int .u16 s, undef, .slice none 0 0, .pointer (some ⟨w.heap.size + 1, 0, none⟩), .int .i64 (x.1 : Nat), .slice (some ⟨w.heap.size, 0, none⟩) 0 8, .int .u16 s, .func (.func 108) #[] #[.pointer (some ⟨w.heap.size + 1 + 1, 0, none⟩)], .int .i64 (x.1 : Nat), undef, undef, undef, undef, undef, undef, undef], defers := [] }) ?assign ?body ?done ?stop
 case assign =>
  intro l x W K hK
  gi_wp2
  exact hK
 case body =>
  rintro l pre x W ⟨⟨v, hv, hrow, -⟩, hB⟩ hlt
  have hc := hv.cell
  have hel := elems_length s
  gi_wp2_with (gi_at_builtin; refine wpListIn_append_own _ rfl _ _ 24 rfl w.heap.size 3 i0 (.int .i64 0) 1 8 Tryz.underlying24 hi hz0 hz1 hz2 rfl (by decide) _ _ _ rfl (hrow.alloc _) ⟨W.heap.size, 0, none⟩ 1 1 [.int .i64 (x.1 : Nat)] rfl rfl (cell_one_new _ _ _) (by simp [Value.oneCell']) (by simp only [maxLen]; omega) (by omega) (by have := hB.size; simp; omega) ?_; intro v' w1 hown' hgrow _; obtain ⟨g', cap', rfl⟩ := ownsRow_succ hown'; obtain ⟨hv1, hv2, hr2, hk2, hb2⟩ := hv.appended (by decide) hrow hB.size (by omega) hown' hgrow; have hc1 := hv1.cell; have hf1 := hv1.frozen)
  exact ⟨hk2.from _, hb2, ⟨_, hv2, by simpa [nums] using hr2, trivial⟩, hB.trans hb2⟩
 case stop =>
  rintro D c pre W _ _ h _
  exact h.elim
 case done =>
  rintro D ys W hD hys ⟨⟨v, hv, hrow, -⟩, hB⟩ hK
  have hc := hv.cell
  rw [els_of hys, len_of hys] at hrow
  have hR : Kd.R (Kd.int .i64) 3 W w.heap.size (fun _ => True) v (els s) := Kd.R_of_own hrow (fun _ _ => trivial)
  obtain ⟨A, c, rfl, hlc, hC⟩ := Kd.R_reads hR
  have hel := els_length s
  have hBW := hB.size
  have hvl := hv.lt
  go_wp2_with (at_builtin; refine Kd.R_append_row (Value.int .i64) (0 : Int) (h1 := fun _ => rfl) (w0 := w) w.heap.size rfl _ _ 24 3 (.int .i64 0) 8 rfl Tryz.underlying24 infoInt rfl (by decide) _ [] (els s) _ _ _ (fun _ => True) rfl rfl (fun _ _ => trivial) ?c1 ?c2 ?c3 ?c4 ?c5 ?_; (case c1 => exact Kd.R_of_own (World.ownsRow_lit (base := w.heap.size) (size := 1) W #[] 0 hB.size (by simp [maxLen]) rfl) (fun _ _ => trivial)); (case c2 => exact Kd.C_below hC ((Below.refl _ _).alloc (Nat.le_refl _) _)); (case c3 => exact hB.alloc hB.size _); (case c4 => (have := hB.size; simp; omega)); (case c5 => (simp; omega)); intro v1 w1 hR1 hB1 hg1 _)
  rw [List.nil_append] at hR1
  have hR2 : Kd.R (Kd.int .i64) 3 w1 w.heap.size (fun _ => True) v1 (els s) := hR1
  have hDW : D < W.heap.size := (Array.getElem?_eq_some_iff.1 hK).1
  have hK1 : w1.heap[D]? = some (.deferred (some [])) := (hg1.block D (by simp; omega) (fun e => by have e2 : D = W.heap.size := Option.some.inj e; omega)).trans ((Below.heap_alloc _ _ _ hDW).trans hK)
  refine leave_one hK1 (results_tmp rfl _ _ _) ⟨v1, rfl, R_grownNC hR2 (grownBy_putObj' _ D (.deferred none)) (fun r e => by cases e; exact ⟨_, hK1, rfl⟩), ?_⟩
  exact hB1.trans (belowK_b (w := w) (Nat.le_refl _) w1 D _ _ (by simp [hz0'] at hD; omega) hK1 rfl rfl)
end Go.Proofs.YtlapphhcficbjaaGreatDoor

namespace Go.Proofs.YtlapphhcficbjaaGreatDoor
set_option linter.unusedVariables false
set_option linter.unusedSimpArgs false
open Go.RowKit Go.Shelf Bits
open Go.Proofs.YtlapphhcficbjaaGreatDoorW.PrintWords Go.Proofs.YtlapphhcficbjaaGreatDoorW.PrintLast Go.Proofs.YtlapphhcficbjaaGreatDoorW.PrintMore
set_option maxRecDepth 100000 in
set_option maxHeartbeats 8000000 in
theorem take_no1 (C h : Nat) (g : List Tk) (ns : List Nat) (M : Mach) (f0 f1 : Int) (f2 : Bool) (w : World) (hG : IsGraph w C g ns) (hgl : g.length ≤ 8) (hnl : ns.length = g.length) (hM : MAt h C M w) (hs : inB f0 0 200 = false) :
  Calls Tryz.prog 86 #[.pointer (some ⟨h, 0, none⟩), .agg #[.int .i64 f0, .int .i64 f1, .bool f2]] w fun r w' => r = .returned (.bool false) ∧ Below w.heap.size w w' := by
 have H0 := Lib.hid hs
 clear hs
 go_enter Tryz.func86, Tryz.ntmps86
 go_wp2
 obtain ⟨w1, hw1⟩ : ∃ w1, w1 = w.alloc (.cells #[.int .i64 f0, .int .i64 f1, .bool f2] 75) := ⟨_, rfl⟩
 have hB1 : Below w.heap.size w w1 := by rw [hw1]; exact (Below.refl _ w).alloc (Nat.le_refl _) _
 have hx0 : w1.cell? ⟨w.heap.size, 0, none⟩ = some (.int .i64 f0) := by rw [hw1]; simp
 have hx1 : w1.cell? ⟨w.heap.size, 1, none⟩ = some (.int .i64 f1) := by rw [hw1]; simp
 have hx2 : w1.cell? ⟨w.heap.size, 2, none⟩ = some (.bool f2) := by rw [hw1]; simp
 rw [← hw1]
 have HM1 := hM.below hB1
 have HGr : Hid (∀ n, IsGraph (w1.drewN n) C g ns) := Lib.hid fun n => (hG.below hB1).below (pw_below_drewN (Below.refl _ w1) n)
 clear hw1
 clear HGr HM1
 go_quiet (first | (go_at_call 54; with_reducible exact Calls.quiet_of_same (within_is _ _ _ _ H0 _)))
 go_wp2
 go_ret
 exact ⟨rfl, pw_below_drewN hB1 _⟩
set_option maxRecDepth 100000 in
set_option maxHeartbeats 8000000 in
theorem take_no2 (C h : Nat) (g : List Tk) (ns : List Nat) (M : Mach) (f0 f1 : Int) (f2 : Bool) (w : World) (hG : IsGraph w C g ns) (hgl : g.length ≤ 8) (hnl : ns.length = g.length) (hM : MAt h C M w) (hs : inB f0 0 200 = true) (hs1 : inB f1 0 (g.length - 1) = false) :
  Calls Tryz.prog 86 #[.pointer (some ⟨h, 0, none⟩), .agg #[.int .i64 f0, .int .i64 f1, .bool f2]] w fun r w' => r = .returned (.bool false) ∧ Below w.heap.size w w' := by
 have H0 := Lib.hid hs
 have H1 := Lib.hid hs1
 clear hs hs1
 go_enter Tryz.func86, Tryz.ntmps86
 go_wp2
 obtain ⟨w1, hw1⟩ : ∃ w1, w1 = w.alloc (.cells #[.int .i64 f0, .int .i64 f1, .bool f2] 75) := ⟨_, rfl⟩
 have hB1 : Below w.heap.size w w1 := by rw [hw1]; exact (Below.refl _ w).alloc (Nat.le_refl _) _
 have hx0 : w1.cell? ⟨w.heap.size, 0, none⟩ = some (.int .i64 f0) := by rw [hw1]; simp
 have hx1 : w1.cell? ⟨w.heap.size, 1, none⟩ = some (.int .i64 f1) := by rw [hw1]; simp
 have hx2 : w1.cell? ⟨w.heap.size, 2, none⟩ = some (.bool f2) := by rw [hw1]; simp
 rw [← hw1]
 have HM1 := hM.below hB1
 have HGr : Hid (∀ n, IsGraph (w1.drewN n) C g ns) := Lib.hid fun n => (hG.below hB1).below (pw_below_drewN (Below.refl _ w1) n)
 clear hw1
 have hm0 := HM1.1
 clear HM1
 have hwg : IntKind.i64.wrap ((g.length : Int) - 1) = (g.length : Int) - 1 := IntWalk.i64_in _ (by omega)
 go_quiet (first | (go_at_call 54; with_reducible exact Calls.quiet_of_same (within_is _ _ _ _ H0 _)) | (go_at_call 54; with_reducible exact Calls.quiet_of_same (within_is _ _ _ _ H1 _)) | (go_at_call 43; with_reducible exact Calls.quiet_of_same (size_calls _ _ _ _ (HGr.out _))))
 go_wp2
 go_ret
 exact ⟨rfl, pw_below_drewN hB1 _⟩
set_option maxRecDepth 100000 in
set_option maxHeartbeats 8000000 in
theorem take_no3 (C h : Nat) (g : List Tk) (ns : List Nat) (M : Mach) (f0 : Int) (i : Nat) (w : World) (hG : IsGraph w C g ns) (hgl : g.length ≤ 8) (hnl : ns.length = g.length) (hM : MAt h C M w) (hs : inB f0 0 200 = true) (hi : i < g.length) (hb : M.b.testBit i = true) :
  Calls Tryz.prog 86 #[.pointer (some ⟨h, 0, none⟩), .agg #[.int .i64 f0, .int .i64 (i : Nat), .bool false]] w fun r w' => r = .returned (.bool false) ∧ Below w.heap.size w w' := by
 have H0 := Lib.hid hs
 have H1 : Hid (inB (i : Nat) 0 (g.length - 1) = true) := Lib.hid (inB_true.2 (by omega))
 have HI16 : Hid (i < 16) := Lib.hid (by omega)
 clear hs
 have HBb := Lib.hid hb
 clear hb
 go_enter Tryz.func86, Tryz.ntmps86
 go_wp2
 obtain ⟨w1, hw1⟩ : ∃ w1, w1 = w.alloc (.cells #[.int .i64 f0, .int .i64 (i : Nat), .bool false] 75) := ⟨_, rfl⟩
 have hB1 : Below w.heap.size w w1 := by rw [hw1]; exact (Below.refl _ w).alloc (Nat.le_refl _) _
 have hx0 : w1.cell? ⟨w.heap.size, 0, none⟩ = some (.int .i64 f0) := by rw [hw1]; simp
 have hx1 : w1.cell? ⟨w.heap.size, 1, none⟩ = some (.int .i64 (i : Nat)) := by rw [hw1]; simp
 have hx2 : w1.cell? ⟨w.heap.size, 2, none⟩ = some (.bool false) := by rw [hw1]; simp
 rw [← hw1]
 have HM1 := hM.below hB1
 have HGr : Hid (∀ n, IsGraph (w1.drewN n) C g ns) := Lib.hid fun n => (hG.below hB1).below (pw_below_drewN (Below.refl _ w1) n)
 clear hw1
 obtain ⟨hm0, hm1, hm2, hmb, hmc, hmf, hlb, hlo, hhx⟩ := HM1
 have HLb := Lib.hid hlb
 have HLo := Lib.hid hlo
 clear hlb hlo hhx
 have hwg : IntKind.i64.wrap ((g.length : Int) - 1) = (g.length : Int) - 1 := IntWalk.i64_in _ (by omega)
 go_quiet (first | (go_at_call 54; with_reducible exact Calls.quiet_of_same (within_is _ _ _ _ H0 _)) | (go_at_call 54; with_reducible exact Calls.quiet_of_same (within_is _ _ _ _ H1 _)) | (go_at_call 43; with_reducible exact Calls.quiet_of_same (size_calls _ _ _ _ (HGr.out _))))
 clear hwg
 go_wp2
 generalize hw2 : w1.drewN _ = w2
 have e2 : ∀ a, w2.cell? a = w1.cell? a := fun a => by rw [← hw2, World.cell?_drewN]
 have f2 : ∀ a, w2.frozen? a = w1.frozen? a := fun a => by rw [← hw2, World.frozen?_drewN]
 replace hB1 : Below w.heap.size w w2 := by rw [← hw2]; exact pw_below_drewN hB1 _
 replace HGr : Hid (IsGraph w2 C g ns) := Lib.hid (by rw [← hw2]; exact HGr.out _)
 rw [← e2] at hx0 hx1 hx2 hm0 hm1 hm2
 simp only [← e2] at hmb hmc
 simp only [← f2] at hmf
 clear hw2 e2 f2
 go_quiet (first | (go_at_call 117; with_reducible exact Calls.quiet_of_same (has_is _ _ _ HBb HLb.out HI16.out _)))
 go_wp2
 go_ret
 exact ⟨rfl, pw_below_drewN hB1 _⟩
set_option maxRecDepth 100000 in
set_option maxHeartbeats 8000000 in
theorem take_no4 (C h : Nat) (g : List Tk) (ns : List Nat) (M : Mach) (f0 : Int) (i : Nat) (w : World) (hG : IsGraph w C g ns) (hgl : g.length ≤ 8) (hnl : ns.length = g.length) (hM : MAt h C M w) (hs : inB f0 0 200 = true) (hi : i < g.length) (hx : ns.getD i 0 < 65536) (hb : M.b.testBit i = false) (hd : diff (ns.getD i 0) M.o ≠ 0) :
  Calls Tryz.prog 86 #[.pointer (some ⟨h, 0, none⟩), .agg #[.int .i64 f0, .int .i64 (i : Nat), .bool false]] w fun r w' => r = .returned (.bool false) ∧ Below w.heap.size w w' := by
 have H0 := Lib.hid hs
 have H1 : Hid (inB (i : Nat) 0 (g.length - 1) = true) := Lib.hid (inB_true.2 (by omega))
 have HI16 : Hid (i < 16) := Lib.hid (by omega)
 clear hs
 have HBb := Lib.hid hb
 have HX := Lib.hid hx
 have HD := Lib.hid hd
 clear hb hx hd
 go_enter Tryz.func86, Tryz.ntmps86
 go_wp2
 obtain ⟨w1, hw1⟩ : ∃ w1, w1 = w.alloc (.cells #[.int .i64 f0, .int .i64 (i : Nat), .bool false] 75) := ⟨_, rfl⟩
 have hB1 : Below w.heap.size w w1 := by rw [hw1]; exact (Below.refl _ w).alloc (Nat.le_refl _) _
 have hx0 : w1.cell? ⟨w.heap.size, 0, none⟩ = some (.int .i64 f0) := by rw [hw1]; simp
 have hx1 : w1.cell? ⟨w.heap.size, 1, none⟩ = some (.int .i64 (i : Nat)) := by rw [hw1]; simp
 have hx2 : w1.cell? ⟨w.heap.size, 2, none⟩ = some (.bool false) := by rw [hw1]; simp
 rw [← hw1]
 have HM1 := hM.below hB1
 have HGr : Hid (∀ n, IsGraph (w1.drewN n) C g ns) := Lib.hid fun n => (hG.below hB1).below (pw_below_drewN (Below.refl _ w1) n)
 clear hw1
 obtain ⟨hm0, hm1, hm2, hmb, hmc, hmf, hlb, hlo, hhx⟩ := HM1
 have HLb := Lib.hid hlb
 have HLo := Lib.hid hlo
 clear hlb hlo hhx
 have hwg : IntKind.i64.wrap ((g.length : Int) - 1) = (g.length : Int) - 1 := IntWalk.i64_in _ (by omega)
 go_quiet (first | (go_at_call 54; with_reducible exact Calls.quiet_of_same (within_is _ _ _ _ H0 _)) | (go_at_call 54; with_reducible exact Calls.quiet_of_same (within_is _ _ _ _ H1 _)) | (go_at_call 43; with_reducible exact Calls.quiet_of_same (size_calls _ _ _ _ (HGr.out _))))
 clear hwg
 go_wp2
 generalize hw2 : w1.drewN _ = w2
 have e2 : ∀ a, w2.cell? a = w1.cell? a := fun a => by rw [← hw2, World.cell?_drewN]
 have f2 : ∀ a, w2.frozen? a = w1.frozen? a := fun a => by rw [← hw2, World.frozen?_drewN]
 replace hB1 : Below w.heap.size w w2 := by rw [← hw2]; exact pw_below_drewN hB1 _
 replace HGr : Hid (IsGraph w2 C g ns) := Lib.hid (by rw [← hw2]; exact HGr.out _)
 rw [← e2] at hx0 hx1 hx2 hm0 hm1 hm2
 simp only [← e2] at hmb hmc
 simp only [← f2] at hmf
 clear hw2 e2 f2
 obtain ⟨Ag, cg, An, cn, Ao, co, vb, va, hC, hT, hN, hO⟩ := HGr.out
 have hc0 : w2.cell? ⟨C, 0, none⟩ = some (.slice Ag g.length cg) := by simp [World.cell?, hC]
 have hc1 : w2.cell? ⟨C, 1, none⟩ = some (.slice An ns.length cn) := by simp [World.cell?, hC]
 obtain ⟨an, rfl, hnc⟩ := at_set hN i (by omega)
 obtain ⟨ag, A1, c1, rfl, htc, _, _, _⟩ := at_Tk hT i hi
 clear hC hO hN hT
 have hbc := hmb i (by omega)
 clear hmb hmc hmf
 have hd : (bits BinOp.andNot IntKind.u16 ((ns.getD i 0 : Nat) : Int) (M.o : Int) == 0) = false := by
  rw [bits_andNot_u16 _ M.o HX.out]
  have := HD.out
  simp only [beq_eq_false_iff_ne, ne_eq]
  omega
 clear HD HX
 generalize ns.getD i 0 = nd at *
 go_quiet (first | (go_at_call 117; with_reducible exact Calls.quiet_of_same (has_is _ _ _ HBb HLb.out HI16.out _)))
 go_wp2
 go_ret
 exact ⟨rfl, pw_below_drewN hB1 _⟩
set_option maxRecDepth 100000 in
set_option maxHeartbeats 8000000 in
theorem take_no5 (C h : Nat) (g : List Tk) (ns : List Nat) (M : Mach) (f0 : Int) (i : Nat) (w : World) (hG : IsGraph w C g ns) (hgl : g.length ≤ 8) (hnl : ns.length = g.length) (hM : MAt h C M w) (hs : inB f0 0 200 = true) (hi : i < g.length) (hb : M.b.testBit i = false) :
  Calls Tryz.prog 86 #[.pointer (some ⟨h, 0, none⟩), .agg #[.int .i64 f0, .int .i64 (i : Nat), .bool true]] w fun r w' => r = .returned (.bool false) ∧ Below w.heap.size w w' := by
 have H0 := Lib.hid hs
 have H1 : Hid (inB (i : Nat) 0 (g.length - 1) = true) := Lib.hid (inB_true.2 (by omega))
 have HI16 : Hid (i < 16) := Lib.hid (by omega)
 clear hs
 have HBb := Lib.hid hb
 clear hb
 go_enter Tryz.func86, Tryz.ntmps86
 go_wp2
 obtain ⟨w1, hw1⟩ : ∃ w1, w1 = w.alloc (.cells #[.int .i64 f0, .int .i64 (i : Nat), .bool true] 75) := ⟨_, rfl⟩
 have hB1 : Below w.heap.size w w1 := by rw [hw1]; exact (Below.refl _ w).alloc (Nat.le_refl _) _
 have hx0 : w1.cell? ⟨w.heap.size, 0, none⟩ = some (.int .i64 f0) := by rw [hw1]; simp
 have hx1 : w1.cell? ⟨w.heap.size, 1, none⟩ = some (.int .i64 (i : Nat)) := by rw [hw1]; simp
 have hx2 : w1.cell? ⟨w.heap.size, 2, none⟩ = some (.bool true) := by rw [hw1]; simp
 rw [← hw1]
 have HM1 := hM.below hB1
 have HGr : Hid (∀ n, IsGraph (w1.drewN n) C g ns) := Lib.hid fun n => (hG.below hB1).below (pw_below_drewN (Below.refl _ w1) n)
 clear hw1
 obtain ⟨hm0, hm1, hm2, hmb, hmc, hmf, hlb, hlo, hhx⟩ := HM1
 have HLb := Lib.hid hlb
 have HLo := Lib.hid hlo
 clear hlb hlo hhx
 have hwg : IntKind.i64.wrap ((g.length : Int) - 1) = (g.length : Int) - 1 := IntWalk.i64_in _ (by omega)
 go_quiet (first | (go_at_call 54; with_reducible exact Calls.quiet_of_same (within_is _ _ _ _ H0 _)) | (go_at_call 54; with_reducible exact Calls.quiet_of_same (within_is _ _ _ _ H1 _)) | (go_at_call 43; with_reducible exact Calls.quiet_of_same (size_calls _ _ _ _ (HGr.out _))))
 clear hwg
 go_wp2
 generalize hw2 : w1.drewN _ = w2
 have e2 : ∀ a, w2.cell? a = w1.cell? a := fun a => by rw [← hw2, World.cell?_drewN]
 have f2 : ∀ a, w2.frozen? a = w1.frozen? a := fun a => by rw [← hw2, World.frozen?_drewN]
 replace hB1 : Below w.heap.size w w2 := by rw [← hw2]; exact pw_below_drewN hB1 _
 replace HGr : Hid (IsGraph w2 C g ns) := Lib.hid (by rw [← hw2]; exact HGr.out _)
 rw [← e2] at hx0 hx1 hx2 hm0 hm1 hm2
 simp only [← e2] at hmb hmc
 simp only [← f2] at hmf
 clear hw2 e2 f2
 go_quiet (first | (go_at_call 117; with_reducible exact Calls.quiet_of_same (has_is _ _ _ HBb HLb.out HI16.out _)))
 go_wp2
 go_ret
 exact ⟨rfl, pw_below_drewN hB1 _⟩
set_option maxRecDepth 100000 in
set_option maxHeartbeats 8000000 in
theorem take_no6 (C h : Nat) (g : List Tk) (ns : List Nat) (M : Mach) (f0 : Int) (i : Nat) (w : World) (hG : IsGraph w C g ns) (hgl : g.length ≤ 8) (hnl : ns.length = g.length) (hM : MAt h C M w) (hs : inB f0 0 200 = true) (hi : i < g.length) (hb : M.b.testBit i = true) (ho : M.o.testBit i = true) :
  Calls Tryz.prog 86 #[.pointer (some ⟨h, 0, none⟩), .agg #[.int .i64 f0, .int .i64 (i : Nat), .bool true]] w fun r w' => r = .returned (.bool false) ∧ Below w.heap.size w w' := by
 have H0 := Lib.hid hs
 have H1 : Hid (inB (i : Nat) 0 (g.length - 1) = true) := Lib.hid (inB_true.2 (by omega))
 have HI16 : Hid (i < 16) := Lib.hid (by omega)
 clear hs
 have HBb := Lib.hid hb
 have HOb := Lib.hid ho
 clear hb ho
 go_enter Tryz.func86, Tryz.ntmps86
 go_wp2
 obtain ⟨w1, hw1⟩ : ∃ w1, w1 = w.alloc (.cells #[.int .i64 f0, .int .i64 (i : Nat), .bool true] 75) := ⟨_, rfl⟩
 have hB1 : Below w.heap.size w w1 := by rw [hw1]; exact (Below.refl _ w).alloc (Nat.le_refl _) _
 have hx0 : w1.cell? ⟨w.heap.size, 0, none⟩ = some (.int .i64 f0) := by rw [hw1]; simp
 have hx1 : w1.cell? ⟨w.heap.size, 1, none⟩ = some (.int .i64 (i : Nat)) := by rw [hw1]; simp
 have hx2 : w1.cell? ⟨w.heap.size, 2, none⟩ = some (.bool true) := by rw [hw1]; simp
 rw [← hw1]
 have HM1 := hM.below hB1
 have HGr : Hid (∀ n, IsGraph (w1.drewN n) C g ns) := Lib.hid fun n => (hG.below hB1).below (pw_below_drewN (Below.refl _ w1) n)
 clear hw1
 obtain ⟨hm0, hm1, hm2, hmb, hmc, hmf, hlb, hlo, hhx⟩ := HM1
 have HLb := Lib.hid hlb
 have HLo := Lib.hid hlo
 clear hlb hlo hhx
 have hwg : IntKind.i64.wrap ((g.length : Int) - 1) = (g.length : Int) - 1 := IntWalk.i64_in _ (by omega)
 go_quiet (first | (go_at_call 54; with_reducible exact Calls.quiet_of_same (within_is _ _ _ _ H0 _)) | (go_at_call 54; with_reducible exact Calls.quiet_of_same (within_is _ _ _ _ H1 _)) | (go_at_call 43; with_reducible exact Calls.quiet_of_same (size_calls _ _ _ _ (HGr.out _))))
 clear hwg
 go_wp2
 generalize hw2 : w1.drewN _ = w2
 have e2 : ∀ a, w2.cell? a = w1.cell? a := fun a => by rw [← hw2, World.cell?_drewN]
 have f2 : ∀ a, w2.frozen? a = w1.frozen? a := fun a => by rw [← hw2, World.frozen?_drewN]
 replace hB1 : Below w.heap.size w w2 := by rw [← hw2]; exact pw_below_drewN hB1 _
 replace HGr : Hid (IsGraph w2 C g ns) := Lib.hid (by rw [← hw2]; exact HGr.out _)
 rw [← e2] at hx0 hx1 hx2 hm0 hm1 hm2
 simp only [← e2] at hmb hmc
 simp only [← f2] at hmf
 clear hw2 e2 f2
 go_quiet (first | (go_at_call 117; with_reducible exact Calls.quiet_of_same (has_is _ _ _ HBb HLb.out HI16.out _)) | (go_at_call 117; with_reducible exact Calls.quiet_of_same (has_is _ _ _ HOb HLo.out HI16.out _)))
 go_wp2
 go_ret
 exact ⟨rfl, pw_below_drewN hB1 _⟩
set_option maxRecDepth 100000 in
set_option maxHeartbeats 8000000 in
theorem take_no7 (C h : Nat) (g : List Tk) (ns : List Nat) (M : Mach) (f0 : Int) (i : Nat) (w : World) (hG : IsGraph w C g ns) (hgl : g.length ≤ 8) (hnl : ns.length = g.length) (hM : MAt h C M w) (hs : inB f0 0 200 = true) (hi : i < g.length) (hb : M.b.testBit i = true) (ho : M.o.testBit i = false) (hq : 0 ≤ M.bg i ∧ M.bg i ≤ 200) (ht : 0 ≤ (rdTk g i).f0 ∧ (rdTk g i).f0 ≤ 20) (hne : f0 ≠ M.bg i + (rdTk g i).f0) :
  Calls Tryz.prog 86 #[.pointer (some ⟨h, 0, none⟩), .agg #[.int .i64 f0, .int .i64 (i : Nat), .bool true]] w fun r w' => r = .returned (.bool false) ∧ Below w.heap.size w w' := by
 have H0 := Lib.hid hs
 have H1 : Hid (inB (i : Nat) 0 (g.length - 1) = true) := Lib.hid (inB_true.2 (by omega))
 have HI16 : Hid (i < 16) := Lib.hid (by omega)
 clear hs
 have HBb := Lib.hid hb
 have HOb := Lib.hid ho
 have HQ := Lib.hid hq
 have HT := Lib.hid ht
 have HNE := Lib.hid hne
 clear hb ho hq ht hne
 go_enter Tryz.func86, Tryz.ntmps86
 go_wp2
 obtain ⟨w1, hw1⟩ : ∃ w1, w1 = w.alloc (.cells #[.int .i64 f0, .int .i64 (i : Nat), .bool true] 75) := ⟨_, rfl⟩
 have hB1 : Below w.heap.size w w1 := by rw [hw1]; exact (Below.refl _ w).alloc (Nat.le_refl _) _
 have hx0 : w1.cell? ⟨w.heap.size, 0, none⟩ = some (.int .i64 f0) := by rw [hw1]; simp
 have hx1 : w1.cell? ⟨w.heap.size, 1, none⟩ = some (.int .i64 (i : Nat)) := by rw [hw1]; simp
 have hx2 : w1.cell? ⟨w.heap.size, 2, none⟩ = some (.bool true) := by rw [hw1]; simp
 rw [← hw1]
 have HM1 := hM.below hB1
 have HGr : Hid (∀ n, IsGraph (w1.drewN n) C g ns) := Lib.hid fun n => (hG.below hB1).below (pw_below_drewN (Below.refl _ w1) n)
 clear hw1
 obtain ⟨hm0, hm1, hm2, hmb, hmc, hmf, hlb, hlo, hhx⟩ := HM1
 have HLb := Lib.hid hlb
 have HLo := Lib.hid hlo
 clear hlb hlo hhx
 have hwg : IntKind.i64.wrap ((g.length : Int) - 1) = (g.length : Int) - 1 := IntWalk.i64_in _ (by omega)
 go_quiet (first | (go_at_call 54; with_reducible exact Calls.quiet_of_same (within_is _ _ _ _ H0 _)) | (go_at_call 54; with_reducible exact Calls.quiet_of_same (within_is _ _ _ _ H1 _)) | (go_at_call 43; with_reducible exact Calls.quiet_of_same (size_calls _ _ _ _ (HGr.out _))))
 clear hwg
 go_wp2
 generalize hw2 : w1.drewN _ = w2
 have e2 : ∀ a, w2.cell? a = w1.cell? a := fun a => by rw [← hw2, World.cell?_drewN]
 have f2 : ∀ a, w2.frozen? a = w1.frozen? a := fun a => by rw [← hw2, World.frozen?_drewN]
 replace hB1 : Below w.heap.size w w2 := by rw [← hw2]; exact pw_below_drewN hB1 _
 replace HGr : Hid (IsGraph w2 C g ns) := Lib.hid (by rw [← hw2]; exact HGr.out _)
 rw [← e2] at hx0 hx1 hx2 hm0 hm1 hm2
 simp only [← e2] at hmb hmc
 simp only [← f2] at hmf
 clear hw2 e2 f2
 obtain ⟨Ag, cg, An, cn, Ao, co, vb, va, hC, hT, hN, hO⟩ := HGr.out
 have hc0 : w2.cell? ⟨C, 0, none⟩ = some (.slice Ag g.length cg) := by simp [World.cell?, hC]
 have hc1 : w2.cell? ⟨C, 1, none⟩ = some (.slice An ns.length cn) := by simp [World.cell?, hC]
 obtain ⟨an, rfl, hnc⟩ := at_set hN i (by omega)
 obtain ⟨ag, A1, c1, rfl, htc, _, _, _⟩ := at_Tk hT i hi
 clear hC hO hN hT
 have hbc := hmb i (by omega)
 clear hmb hmc hmf
 generalize M.bg i = p at *
 generalize (rdTk g i).f0 = tm at *
 have hne : (f0 == p + tm) = false := beq_eq_false_iff_ne.2 HNE.out
 have hw : IntKind.i64.wrap (p + tm) = p + tm := IntWalk.i64_in _ (by have := HQ.out; have := HT.out; omega)
 go_quiet (first | (go_at_call 117; with_reducible exact Calls.quiet_of_same (has_is _ _ _ HBb HLb.out HI16.out _)) | (go_at_call 117; with_reducible exact Calls.quiet_of_same (has_is _ _ _ HOb HLo.out HI16.out _)))
 clear hw
 go_wp2
 go_ret
 exact ⟨rfl, pw_below_drewN hB1 _⟩
end Go.Proofs.YtlapphhcficbjaaGreatDoor
