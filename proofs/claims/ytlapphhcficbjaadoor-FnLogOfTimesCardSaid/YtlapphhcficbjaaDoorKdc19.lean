/- Parts of the proof, laid as one text by a program of mine. -/
import Derived.Test.YtlapphhcficbjaaDoorKdc13
import Derived.Test.YtlapphhcficbjaaDoorKdc18
import Derived.Test.YtlapphhcficbjaaDoorKdc15
import Derived.Test.YtlapphhcficbjaaDoorKdc11
import Derived.Test.YtlapphhcficbjaaDoorKdc10
import Derived.Test.YtlapphhcficbjaaDoorKdc2
import Derived.Test.YtlapphhcficbjaaDoorKdc9
namespace Go.Proofs.YtlapphhcficbjaaDoor
set_option linter.unusedVariables false
set_option linter.unusedSimpArgs false
open Go.RowKit Go.Shelf Bits
open Go.Proofs.YtlapphhcficbjaaDoorW.PrintWords Go.Proofs.YtlapphhcficbjaaDoorW.PrintLast Go.Proofs.YtlapphhcficbjaaDoorW.PrintMore
attribute [local go_sem] Oper.semAt_some
theorem infoEv : (Tryd.prog.info? 39).map (fun i => (i.zero, i.size, i.bytes)) = some (some (.agg #[(.int .i64 0), (.int .i64 0), (.bool false)]), 3, 24) := by kernel_rfl
section
variable {ops : Array Oper} {o : Oper} {rest : List Oper} {a : Act} {Q : Exit → Act → World → Prop} {w0 W : World}
theorem ap_ev1 (base : Nat) (hgd : o.guard = none) (s x : Operand) (ho : o.op = .call { callee := .builtin .append, args := #[s, x], argTypes := #[35, 35] })
  (v : Value) (xs : List Ev) (y : Ev) (hs : a.eval s = v) {N : Nat} (hx : a.eval x = .slice (some ⟨N, 0, none⟩) 1 1) (hN : N = W.heap.size)
  (HO : Kd.R kEv 39 W base (fun _ => True) v xs) (HB : Below base w0 W) (hbase : base ≤ W.heap.size) (hl : xs.length < 1000000)
  (h : ∀ v1 w1, Kd.R kEv 39 w1 base (fun _ => True) v1 (xs ++ [y]) → Below base w0 w1 → (W.alloc (.cells #[.int .i64 y.f0, .int .i64 y.f1, .bool y.f2] 39)).grownBy w1 v.ownBlock → (v1.ownBlock = v.ownBlock ∨ ∃ b, v1.ownBlock = some b ∧ (W.alloc (.cells #[.int .i64 y.f0, .int .i64 y.f1, .bool y.f2] 39)).heap.size ≤ b) → wpList Tryd.prog ops Q rest (a.put o.dst v1) w1) :
  wpList Tryd.prog ops Q (o :: rest) a (W.alloc (.cells #[.int .i64 y.f0, .int .i64 y.f1, .bool y.f2] 39)) := by
 have hBa : Below W.heap.size W (W.alloc (.cells #[.int .i64 y.f0, .int .i64 y.f1, .bool y.f2] 39)) := (Below.refl _ _).alloc (Nat.le_refl _) _
 refine Kd.R_append_rows kEv base hgd s x 35 39 (.agg #[(.int .i64 0), (.int .i64 0), (.bool false)]) 24 ho Tryd.underlying35 infoEv rfl (by decide) (by decide)
  v xs [y] (some ⟨N, 0, none⟩) 1 1 (fun _ => True) (fun _ => False) hs hx (Kd.R_below HO hBa) (Rr := kEv.K (W.alloc (.cells #[.int .i64 y.f0, .int .i64 y.f1, .bool y.f2] 39))) ?_ (fun p cs hp => ?_) (fun _ hk => hk.elim) (fun _ _ => trivial) (HB.trans (hBa.mono hbase)) (by have := hBa.size; omega) (by omega) h
 ·
  subst hN
  refine ⟨rfl, by omega, fun _ => ⟨_, rfl, fun j p hj => ⟨[.int .i64 p.f0, .int .i64 p.f1, .bool p.f2], rfl, kEv.K_of_M (kEv_mkM _ 0 (fun _ => True) p), fun i u hu => ?_⟩⟩⟩
  have hblk := World.alloc_heap_new W (.cells #[.int .i64 y.f0, .int .i64 y.f1, .bool y.f2] 39)
  have e2 : ∀ q, (⟨W.heap.size, 0, none⟩ : Addr).add q = ⟨W.heap.size, q, none⟩ := fun q => by
   unfold Addr.add
   split <;> simp_all
  rw [e2]
  have hc := blk_cell hblk (j * kEv.sz + i)
  rw [hc]
  rcases j with _ | j
  ·
   cases hj
   rcases i with _ | _ | _ | i
   ·
    simpa using hu
   ·
    simpa using hu
   ·
    simpa using hu
   ·
    simp at hu
  ·
   simp at hj
 ·
  rw [kEv_open hp]
  exact kEv_mkM _ _ _ p
end
theorem take_snocE' {l : List Ev} {k : Nat} (h : k < l.length) : l.take (k + 1) = l.take k ++ [rdEv l k] := by
 rw [List.take_succ_eq_append_getElem h]
 unfold rdEv
 rw [List.getD_eq_getElem?_getD, List.getElem?_eq_getElem h]
 rfl
theorem R_nilE (w : World) (base : Nat) : Kd.R kEv 39 w base (fun _ => True) (.slice none 0 0) [] := ⟨fun _ _ => trivial, [], ⟨by simp, .inl ⟨rfl, rfl⟩⟩, Reps.none _ _⟩
set_option maxRecDepth 1000000 in
set_option maxHeartbeats 4000000 in
theorem LogOf_impl (A : Option Addr) (c : Nat) (g : List Tk) (A1 : Option Addr) (c1 : Nat) (rm : List Int) (wk : Int) (A2 : Option Addr) (c2 : Nat) (st : List Int) (w : World) (hr : kTk.C w A g.length g) (hr1 : (Kd.int .i64).C w A1 rm.length rm) (hr2 : (Kd.int .i64).C w A2 st.length st) (hT : Tab w) :
  Calls Tryd.prog 21 #[.slice A g.length c, .slice A1 rm.length c1, .int .i64 wk, .slice A2 st.length c2] w fun e w' => ∃ v, e = .returned v ∧ Kd.R kEv 39 w' w.heap.size (fun _ => True) v (lgS g rm wk st) ∧ Below w.heap.size w w' := by
 cases h : vStB g rm wk st with
 | true =>
  obtain ⟨i0, hi, hz0, hz1, hz2⟩ := info_parts infoEv
  have HP := Lib.hid (startsIn_yes A c g A1 c1 rm wk A2 c2 st h w hr hr1 hr2 hT)
  have HV := Lib.hid (vSt_valid h)
  have HR2 := Lib.hid hr2
  have h8 := HV.out.ok.1
  have hw2 : IntKind.i64.wrap (2 * (g.length : Int)) = ((2 * g.length : Nat) : Int) := by rw [show 2 * (g.length : Int) = ((2 * g.length : Nat) : Int) by omega]; exact IntWalk.i64_in _ (by omega)
  have HF : Hid (lgS g rm wk st = chgS g st) := Lib.hid (by unfold lgS; rw [h, if_pos rfl])
  have hCL := chgS_len g st
  have HCH := Lib.hid (fun (W : World) C ns (hG : IsGraph W C g ns) (hB : Below w.heap.size w W) => changes_calls C g ns A2 c2 st HV.out.ok HV.out.sok HV.out.len W hG (Kd.C_below hr2 hB))
  clear hr hr1 hr2 hT h
  generalize chgS g st = cl at HF hCL HCH
  have hcl16 : cl.length ≤ 16 := by omega
  clear hCL
  go_enter Tryd.func21, Tryd.ntmps21
  go_wp2_with (first | (go_at_call 62; refine HP.out.mono ?_; rintro e w1 ⟨C, ns, rfl, hg, hG, hB1⟩; have HB1 := Lib.hid hB1; have HG := Lib.hid hG; clear hg hB1 hG) | (go_at_call 51; refine (size_calls _ C g ns HG.out).mono ?_; rintro e w' ⟨rfl, h⟩; obtain rfl : w1 = w' := h.symm) | (at_make; refine wpList_make_own _ rfl _ _ 35 rfl w.heap.size 39 i0 (.agg #[(.int .i64 0), (.int .i64 0), (.bool false)]) 3 Tryd.underlying35 hi hz0 hz1 .i64 .i64 _ (2 * g.length) rfl rfl rfl (by rw [hz2]; omega) (by simp only [maxLen]; omega) HB1.out.size ?_; intro w2 hown hg2; have HB2 := Lib.hid ((Below.refl w1.heap.size w1).grown hg2 (Nat.le_refl _) (fun k e => by cases e))) | (go_at_call 65; refine (HCH.out _ C ns (HG.out.below HB2.out) (HB1.out.trans (HB2.out.mono HB1.out.size))).mono ?_; rintro e w3 ⟨A3, c3, rfl, hC3, hB3⟩; have HC3 := Lib.hid hC3; have HB3 := Lib.hid hB3; clear hC3 hB3))
  have hz1 := HB1.out.size
  have hz2 := HB2.out.size
  have hz3 := HB3.out.size
  have HO : Hid (Kd.R kEv 39 w3 w.heap.size (fun _ => True) (.slice (some ⟨w1.heap.size, 0, none⟩) 0 (2 * g.length)) (cl.take 0)) := Lib.hid (Kd.R_below ⟨fun _ _ => trivial, [], hown, Reps.none _ _⟩ HB3.out)
  have HBW := Lib.hid ((HB1.out.trans (HB2.out.mono HB1.out.size)).trans (HB3.out.mono (by omega)))
  have hlt2 : w1.heap.size < w2.heap.size := by
   have := own_lt hown w1.heap.size rfl
   omega
  clear hown hg2 hw2
  go_loopw [11, 32] (fun out i wr => ∃ j, j ≤ cl.length ∧ i = .int .i64 (j : Nat) ∧ Kd.R kEv 39 wr w.heap.size (fun _ => True) out (cl.take j) ∧ Below w.heap.size w wr ∧ w3.heap.size ≤ wr.heap.size ∧ Hid (∀ k, w2.heap.size ≤ k → k < w3.heap.size → wr.heap[k]? = w3.heap[k]?) ∧ Hid (∀ k, out.ownBlock = some k → k < w2.heap.size ∨ w3.heap.size ≤ k)) (fun _ i _ => cl.length - (intOf i).toNat)
  case atStart => exact ⟨0, Nat.zero_le _, rfl, HO.out, HBW.out, Nat.le_refl _, Lib.hid (fun _ _ _ => rfl), Lib.hid (fun k hk => by cases hk; exact .inl hlt2)⟩
  case round =>
   clear HO
   obtain ⟨j, hj, rfl, hO, hB, hsz, HK, HOW⟩ := hrel
   by_cases hjl : j < cl.length
   ·
    have hjj : decide ((j : Int) < (cl.length : Int)) = true := decide_eq_true (by omega)
    have hji : (j : Int) < (cl.length : Int) := by omega
    have hCR := HC3.out wr hsz (fun k h1 h2 => HK.out k h1 h2)
    obtain ⟨ad, rfl, x0, x1, x2⟩ := at_Ev hCR j hjl
    have HTK : Hid (cl.take (j + 1) = cl.take j ++ [rdEv cl j]) := Lib.hid (take_snocE' hjl)
    have hcl6 : (cl.take j).length < 1000000 := by rw [List.length_take]; omega
    generalize rdEv cl j = ev at x0 x1 x2 HTK
    obtain ⟨ea, et, eb⟩ := ev
    have hBA0 : Below wr.heap.size wr (wr.alloc (.cells #[.int .i64 ea, .int .i64 et, .bool eb] 86)) := (Below.refl _ _).alloc (Nat.le_refl _) _
    have hOA := Kd.R_below hO hBA0
    have hBA := hB.trans (hBA0.mono hB.size)
    have HSZ := Lib.hid hsz
    generalize cl.take j = fl at hOA HTK hcl6
    clear hO hB hCR hBA0 hsz
    go_wp2_with (at_builtin; refine ap_ev1 (w0 := w) (N := wr.heap.size + 1) w.heap.size rfl _ _ rfl u11 fl ⟨ea, et, eb⟩ rfl rfl (by simp) hOA hBA hBA.size hcl6 ?_; intro v1 w4 hO3 hB3 hg3 hat3)
    go_roundw
    case rel =>
     have hs4 := hg3.size
     have hsz := HSZ.out
     simp only [World.size_alloc] at hs4
     refine ⟨j + 1, by omega, by go_num, by rw [HTK.out]; exact hO3, hB3, by omega, Lib.hid (fun k hk1 hk2 => ?_), Lib.hid (fun k hk => ?_)⟩
     ·
      rw [hg3.block k (by simp only [World.size_alloc]; omega) (fun e => by
       rcases HOW.out k e.symm with h | h <;> omega), Below.heap_alloc _ _ _ (by simp only [World.size_alloc]; omega), Below.heap_alloc _ _ _ (by omega)]
      exact HK.out k hk1 hk2
     ·
      rcases hat3 with h | ⟨b, hb, hbs⟩
      ·
       exact HOW.out k (h ▸ hk)
      ·
       rw [hb] at hk
       cases hk
       simp only [World.size_alloc] at hbs
       exact .inr (by omega)
    case measure => simp [intOf]; omega
   ·
    obtain rfl : j = cl.length := by omega
    have hjj : decide ((cl.length : Int) < (cl.length : Int)) = false := decide_eq_false (by omega)
    rw [List.take_length, ← HF.out] at hO
    go_wp2
    go_ret
    exact ⟨_, rfl, hO, hB⟩
 | false =>
  have HF : Hid (lgS g rm wk st = []) := Lib.hid (by unfold lgS; rw [h]; rfl)
  have HP := Lib.hid (startsIn_no A c g A1 c1 rm wk A2 c2 st h w hr hr1 hr2 hT)
  clear hr hr1 hr2 hT h
  go_enter Tryd.func21, Tryd.ntmps21
  go_wp2_with (go_at_call 62; refine HP.out.mono ?_; rintro e w1 ⟨rfl, hB1⟩)
  go_ret
  exact ⟨_, rfl, by rw [HF.out]; exact R_nilE _ _, hB1⟩
set_option maxRecDepth 1000000 in
set_option maxHeartbeats 8000000 in
theorem sLogOf_calls (A : Option Addr) (c : Nat) (g : List Tk) (A1 : Option Addr) (c1 : Nat) (rm : List Int) (wk : Int) (A2 : Option Addr) (c2 : Nat) (st : List Int) (w : World) (hr : kTk.C w A g.length g) (hr1 : (Kd.int .i64).C w A1 rm.length rm) (hr2 : (Kd.int .i64).C w A2 st.length st) :
  Calls Tryd.prog 23 #[.slice A g.length c, .slice A1 rm.length c1, .int .i64 wk, .slice A2 st.length c2] w fun e w' => ∃ v, e = .returned v ∧ Kd.R kEv 39 w' w.heap.size (fun _ => True) v (lgS g rm wk st) ∧ Below w.heap.size w w' := by
 have HBa : Hid (Below w.heap.size w (w.alloc (.cells #[] 39))) := Lib.hid ((Below.refl _ _).alloc (Nat.le_refl _) _)
 have HO : Hid (Kd.R kEv 39 (w.alloc (.cells #[] 39)) w.heap.size (fun _ => True) (.slice (some ⟨w.heap.size, 0, none⟩) 0 0) []) := Lib.hid ⟨fun _ _ => trivial, [], World.ownsRow_lit (base := w.heap.size) (size := 3) w #[] 0 (Nat.le_refl _) (by simp [maxLen]) rfl, Reps.none _ _⟩
 have hra := Kd.C_below hr HBa.out
 have hrb := Kd.C_below hr1 HBa.out
 have hrc := Kd.C_below hr2 HBa.out
 cases h : vStB g rm wk st with
 | true =>
  have HP := Lib.hid (validStarts_is true A c g A1 c1 rm wk A2 c2 st (Lib.hid h) _ hra hrb hrc)
  have HV := Lib.hid (vSt_valid h)
  have h8 := HV.out.ok.1
  have HR := Lib.hid hr
  have HR2 := Lib.hid hr2
  have HF := Lib.hid (lgS_log HV.out)
  have HLL := Lib.hid (logL_len g st h8)
  clear hr hr1 hr2 hra hrb hrc h
  go_enter Tryd.func23, Tryd.ntmps23
  go_wp2_with (go_at_call 66; refine HP.out.mono ?_; rintro e w1 ⟨rfl, hB1⟩; have HO1 := Lib.hid (Kd.R_below HO.out hB1); have HB1 := Lib.hid (HBa.out.trans (hB1.mono HBa.out.size)); clear hB1)
  go_loopw [9, 10] (fun out t wr => ∃ m : Nat, m ≤ 221 ∧ t = .int .i64 (m : Nat) ∧ Kd.R kEv 39 wr w.heap.size (fun _ => True) out (logL g st m) ∧ Below w.heap.size w wr) (fun _ t _ => 221 - (intOf t).toNat)
  case atStart => exact ⟨0, Nat.zero_le _, rfl, HO1.out, HB1.out⟩
  case round =>
   clear HO1 HB1
   obtain ⟨m, hm, rfl, hO, hB⟩ := hrel
   by_cases hml : m ≤ 220
   ·
    have hmm : decide ((m : Int) ≤ 220) = true := decide_eq_true (by omega)
    have hmm' : decide (m ≤ 220) = true := decide_eq_true hml
    have HSM : Hid (logL g st (m + 1) = logL g st m ++ (ovE g st (m : Nat) g.length ++ bgE st (m : Nat) g.length)) := Lib.hid rfl
    have hlm := HLL.out m
    have HO0 : Hid (Kd.R kEv 39 wr w.heap.size (fun _ => True) u9 (logL g st m ++ ovE g st (m : Nat) 0)) := Lib.hid (by rw [show ovE g st (m : Nat) 0 = [] from rfl, List.append_nil]; exact hO)
    have HB0 := Lib.hid hB
    clear hO hB
    generalize logL g st m = lm at HSM hlm HO0
    go_wp2
    go_loopw [9, 11] (fun out i wi => ∃ j, j ≤ g.length ∧ i = .int .i64 (j : Nat) ∧ Kd.R kEv 39 wi w.heap.size (fun _ => True) out (lm ++ ovE g st (m : Nat) j) ∧ Below w.heap.size w wi) (fun _ i _ => g.length - (intOf i).toNat)
    case atStart => exact ⟨0, Nat.zero_le _, rfl, HO0.out, HB0.out⟩
    case round =>
     clear HO0 HB0
     obtain ⟨j, hj, rfl, hO, hB⟩ := hrel
     by_cases hjl : j < g.length
     ·
      have hjs : j < st.length := by rw [HV.out.len]; exact hjl
      obtain ⟨ad, A4, c4, rfl, hc0, _⟩ := at_Tk (Kd.C_below HR.out hB) j hjl
      obtain ⟨ads, rfl, cs⟩ := at_num (Kd.C_below HR2.out hB) j hjs
      have hjj : decide ((j : Int) < (g.length : Int)) = true := decide_eq_true (by omega)
      have hji : (j : Int) < (g.length : Int) := by omega
      have hjsi : (j : Int) < (st.length : Int) := by omega
      have HE : Hid (ovE g st (m : Nat) (j + 1) = if st.getD j 0 + (rdTk g j).f0 = (m : Nat) then ovE g st (m : Nat) j ++ [⟨(m : Nat), (j : Int), true⟩] else ovE g st (m : Nat) j) := Lib.hid rfl
      have hsj := HV.out.sok j
      have htj := HV.out.ok.2.1 j
      have hlo := ovE_len g st (m : Nat) j
      generalize st.getD j 0 = s at cs hsj HE
      generalize (rdTk g j).f0 = tm at hc0 htj HE
      generalize ovE g st (m : Nat) j = fl at hO HE hlo
      have hll : (lm ++ fl).length < 1000000 := by rw [List.length_append]; omega
      have hwr : IntKind.i64.wrap (s + tm) = s + tm := IntWalk.i64_in _ (by omega)
      have HOB := Lib.hid (And.intro hO hB)
      clear hO hB
      by_cases g1 : s + tm = (m : Int)
      ·
       have d1 : (s + tm == (m : Int)) = true := beq_iff_eq.2 g1
       have HE2 : Hid (lm ++ ovE g st (m : Nat) (j + 1) = (lm ++ fl) ++ [⟨(m : Nat), (j : Int), true⟩]) := Lib.hid (by rw [HE.out, if_pos g1, List.append_assoc])
       clear g1 HE
       go_wp2
       (try go_quiet (fail))
       clear hwr
       have hO2 := Kd.R_drewN HOB.out.1 nq
       have hB2 := pw_below_drewN HOB.out.2 nq
       go_wp2_with (at_builtin; refine ap_ev1 (w0 := w) w.heap.size rfl _ _ rfl u9 (lm ++ fl) ⟨(m : Nat), (j : Int), true⟩ rfl rfl rfl hO2 hB2 hB2.size hll ?_; intro v1 w2 hO3 hB3 hg3 hat3; clear hg3 hat3)
       go_roundw
       case rel => exact ⟨j + 1, by omega, by go_num, by rw [HE2.out]; exact hO3, hB3⟩
       case measure => simp [intOf]; omega
      ·
       have d1 : (s + tm == (m : Int)) = false := beq_eq_false_iff_ne.2 g1
       have HE2 : Hid (lm ++ ovE g st (m : Nat) (j + 1) = lm ++ fl) := Lib.hid (by rw [HE.out, if_neg g1])
       clear g1 HE
       go_wp2
       (try go_quiet (fail))
       clear hwr
       have hO2 := Kd.R_drewN HOB.out.1 nq
       have hB2 := pw_below_drewN HOB.out.2 nq
       (try go_wp2)
       go_roundw
       case rel => exact ⟨j + 1, by omega, by go_num, by rw [HE2.out]; exact hO2, hB2⟩
       case measure => simp [intOf]; omega
     ·
      obtain rfl : j = g.length := by omega
      have hjj : decide ((g.length : Int) < (g.length : Int)) = false := decide_eq_false (by omega)
      have HO1 : Hid (Kd.R kEv 39 wr w.heap.size (fun _ => True) u9 ((lm ++ ovE g st (m : Nat) g.length) ++ bgE st (m : Nat) 0)) := Lib.hid (by rw [show bgE st (m : Nat) 0 = [] from rfl, List.append_nil]; exact hO)
      have HB1 := Lib.hid hB
      have hlo := ovE_len g st (m : Nat) g.length
      have HSM2 : Hid (logL g st (m + 1) = (lm ++ ovE g st (m : Nat) g.length) ++ bgE st (m : Nat) g.length) := Lib.hid (by rw [HSM.out, List.append_assoc])
      have hlm2 : (lm ++ ovE g st (m : Nat) g.length).length ≤ 10000 := by rw [List.length_append]; omega
      clear hO hB hlo
      generalize lm ++ ovE g st (m : Nat) g.length = l2 at HO1 HSM2 hlm2
      go_wp2
      go_loopw [9, 12] (fun out i wi => ∃ j, j ≤ g.length ∧ i = .int .i64 (j : Nat) ∧ Kd.R kEv 39 wi w.heap.size (fun _ => True) out (l2 ++ bgE st (m : Nat) j) ∧ Below w.heap.size w wi) (fun _ i _ => g.length - (intOf i).toNat)
      case atStart => exact ⟨0, Nat.zero_le _, rfl, HO1.out, HB1.out⟩
      case round =>
       clear HO1 HB1
       obtain ⟨j, hj, rfl, hO, hB⟩ := hrel
       by_cases hjl : j < g.length
       ·
        have hjs : j < st.length := by rw [HV.out.len]; exact hjl
        obtain ⟨ads, rfl, cs⟩ := at_num (Kd.C_below HR2.out hB) j hjs
        have hjj : decide ((j : Int) < (g.length : Int)) = true := decide_eq_true (by omega)
        have hji : (j : Int) < (g.length : Int) := by omega
        have hjsi : (j : Int) < (st.length : Int) := by omega
        have HE : Hid (bgE st (m : Nat) (j + 1) = if st.getD j 0 = (m : Nat) then bgE st (m : Nat) j ++ [⟨(m : Nat), (j : Int), false⟩] else bgE st (m : Nat) j) := Lib.hid rfl
        have hlo := bgE_len st (m : Nat) j
        generalize st.getD j 0 = s at cs HE
        generalize bgE st (m : Nat) j = fl at hO HE hlo
        have hll : (l2 ++ fl).length < 1000000 := by rw [List.length_append]; omega
        have HOB := Lib.hid (And.intro hO hB)
        clear hO hB
        by_cases g1 : s = (m : Int)
        ·
         have d1 : (s == (m : Int)) = true := beq_iff_eq.2 g1
         have HE2 : Hid (l2 ++ bgE st (m : Nat) (j + 1) = (l2 ++ fl) ++ [⟨(m : Nat), (j : Int), false⟩]) := Lib.hid (by rw [HE.out, if_pos g1, List.append_assoc])
         clear g1 HE
         have hO2 := HOB.out.1
         have hB2 := HOB.out.2
         go_wp2_with (at_builtin; refine ap_ev1 (w0 := w) w.heap.size rfl _ _ rfl u9 (l2 ++ fl) ⟨(m : Nat), (j : Int), false⟩ rfl rfl rfl hO2 hB2 hB2.size hll ?_; intro v1 w2 hO3 hB3 hg3 hat3; clear hg3 hat3)
         go_roundw
         case rel => exact ⟨j + 1, by omega, by go_num, by rw [HE2.out]; exact hO3, hB3⟩
         case measure => simp [intOf]; omega
        ·
         have d1 : (s == (m : Int)) = false := beq_eq_false_iff_ne.2 g1
         have HE2 : Hid (l2 ++ bgE st (m : Nat) (j + 1) = l2 ++ fl) := Lib.hid (by rw [HE.out, if_neg g1])
         clear g1 HE
         have hO2 := HOB.out.1
         have hB2 := HOB.out.2
         go_wp2
         go_roundw
         case rel => exact ⟨j + 1, by omega, by go_num, by rw [HE2.out]; exact hO2, hB2⟩
         case measure => simp [intOf]; omega
       ·
        obtain rfl : j = g.length := by omega
        have hjj : decide ((g.length : Int) < (g.length : Int)) = false := decide_eq_false (by omega)
        have HOB := Lib.hid (And.intro hO hB)
        clear hO hB
        go_wp2
        go_roundw
        case rel => exact ⟨m + 1, by omega, by go_num, by rw [HSM2.out]; exact HOB.out.1, HOB.out.2⟩
        case measure => simp [intOf]; omega
   ·
    obtain rfl : m = 221 := by omega
    rw [← HF.out] at hO
    go_wp2
    go_ret
    exact ⟨_, rfl, hO, hB⟩
 | false =>
  have HF : Hid (lgS g rm wk st = []) := Lib.hid (by unfold lgS; rw [h]; rfl)
  have HP := Lib.hid (validStarts_is false A c g A1 c1 rm wk A2 c2 st (Lib.hid h) _ hra hrb hrc)
  clear hr hr1 hr2 hra hrb hrc h
  go_enter Tryd.func23, Tryd.ntmps23
  go_wp2_with (go_at_call 66; refine HP.out.mono ?_; rintro e w1 ⟨rfl, hB1⟩)
  go_ret
  exact ⟨_, rfl, by rw [HF.out]; exact R_nilE _ _, HBa.out.trans (hB1.mono HBa.out.size)⟩
end Go.Proofs.YtlapphhcficbjaaDoor

namespace Go.Proofs.YtlapphhcficbjaaDoor
set_option linter.unusedVariables false
set_option linter.unusedSimpArgs false
open Go.RowKit Go.Shelf Bits
theorem rdEv_take {log : List Ev} {m k : Nat} (h : k < m) : rdEv (log.take m) k = rdEv log k := by
 unfold rdEv
 rw [List.getD_eq_getElem?_getD, List.getD_eq_getElem?_getD, List.getElem?_take, if_pos h]
theorem eventOk_take (g : List Tk) (log : List Ev) {m k : Nat} (h : k < m) : eventOkB g (log.take m) k = eventOkB g log k := by
 have e : (log.take m).take k = log.take k := by rw [List.take_take, Nat.min_eq_left (Nat.le_of_lt h)]
 unfold eventOkB eventFitsB
 rw [rdEv_take h, rdEv_take (show k - 1 < m by omega), e]
theorem validLog_take {g : List Tk} {log : List Ev} (h : validLogB g log = true) (m : Nat) : validLogB g (log.take m) = true := by
 unfold validLogB at h ⊢
 simp only [Bool.and_eq_true, decide_eq_true_eq, List.all_eq_true, List.mem_range] at h ⊢
 refine ⟨⟨h.1.1, by rw [List.length_take]; omega⟩, fun k hk => ?_⟩
 rw [List.length_take] at hk
 rw [eventOk_take g log (by omega)]
 exact h.2 k (by omega)
theorem validLog_nil {g : List Tk} {log : List Ev} (h : validLogB g log = true) : validLogB g [] = true := validLog_take h 0
theorem law_validLog (g : List Tk) (log : List Ev) :
  (if (replayB g log).isSome ≠ validLogB g log ∨ (replayB g log).isSome = false ∨ log.length = 0 then (replayB g log).isSome == validLogB g log
   else (replayB g (log.take (log.length - 1))).isSome && (replayB g []).isSome) = true := by
 rw [← validLog_eq g log, ← validLog_eq, ← validLog_eq]
 split
 ·
  simp
 ·
  rename_i h
  have h1 : validLogB g log = true := by
   cases hv : validLogB g log
   ·
    exact absurd (Or.inr (Or.inl hv)) h
   ·
    rfl
  rw [validLog_take h1, validLog_nil h1]
  rfl
end Go.Proofs.YtlapphhcficbjaaDoor

namespace Go.Proofs.YtlapphhcficbjaaDoor
set_option linter.unusedVariables false
set_option linter.unusedSimpArgs false
open Go.RowKit Go.Shelf Bits
open Go.Proofs.YtlapphhcficbjaaDoorW.PrintWords Go.Proofs.YtlapphhcficbjaaDoorW.PrintLast Go.Proofs.YtlapphhcficbjaaDoorW.PrintMore
def mostB (g : List Tk) (log : List Ev) : Int := match replayB g log with
 | some p => p.2
 | none => -1
section
variable (A : Option Addr) (c : Nat) (g : List Tk) (A' : Option Addr) (c' : Nat) (log : List Ev) (w : World)
end
end Go.Proofs.YtlapphhcficbjaaDoor

namespace Go.Proofs.YtlapphhcficbjaaDoor
set_option linter.unusedVariables false
set_option linter.unusedSimpArgs false
open Go.RowKit Go.Shelf Bits
def sumN (log : List Ev) : Nat → Int
 | 0 => 0
 | k + 1 => sumN log k + 1 - 2 * (if (rdEv log k).f2 = true then 1 else 0)
def mostN (log : List Ev) : Nat → Int
 | 0 => 0
 | k + 1 => if lastOf log k then max (mostN log k) (sumN log (k + 1)) else mostN log k
theorem sumN_bound (log : List Ev) : ∀ k : Nat, -(k : Int) ≤ sumN log k ∧ sumN log k ≤ k
 | 0 => ⟨by show (0 : Int) ≥ _; omega, by show (0 : Int) ≤ _; omega⟩
 | k + 1 => by
  have := sumN_bound log k
  unfold sumN
  split <;> omega
theorem elems_cnt (s : Nat) : (elems s).length = cntW 16 s := by
 unfold elems
 have h : ∀ n, ((List.range n).filter s.testBit).length = cntW n s := by
  intro n
  induction n with
  | zero => rfl
  | succ n ih =>
   rw [List.range_succ, List.filter_append, List.length_append, ih]
   have h1 : ([n].filter s.testBit).length = if s.testBit n = true then 1 else 0 := by
    cases hb : s.testBit n with
    | true => rw [List.filter_cons_of_pos hb]; rfl
    | false => rw [List.filter_cons_of_neg (by rw [hb]; simp)]; rfl
   rw [h1]
   rfl
 exact h 16
theorem cnt_least {s m : Nat} (h : ∀ i, s.testBit i = true → i < m) : ∀ n, cntW n s ≤ m
 | 0 => Nat.zero_le _
 | n + 1 => by
  have ih := cnt_least h n
  have hn : cntW n s ≤ n := by
   clear ih
   induction n with
   | zero => exact Nat.le_refl _
   | succ n ih => unfold cntW; split <;> omega
  unfold cntW
  split
  ·
   rename_i hb
   have := h n hb
   omega
  ·
   omega
structure Kept (g : List Tk) (log : List Ev) (k : Nat) (M : Mach) (most : Int) : Prop where
 sub : ∀ i, M.o.testBit i = true → M.b.testBit i = true
 lt : ∀ i, M.b.testBit i = true → i < g.length
 run : running M = sumN log k
 mst : most = mostN log k
 le : most ≤ g.length
 ge : 0 ≤ most
theorem run_le {g : List Tk} {M : Mach} (h : ∀ i, M.b.testBit i = true → i < g.length) : running M ≤ g.length := by
 unfold running
 rw [elems_cnt]
 have := cnt_least (s := diff M.b M.o) (m := g.length) (fun i hi => h i (by rw [diff_bit, Bool.and_eq_true] at hi; exact hi.1)) 16
 omega
theorem Kept.step {g : List Tk} {ns : List Nat} {log : List Ev} {k : Nat} {M M' : Mach} {most : Int} (hg8 : g.length ≤ 8) (h : Kept g log k M most) (hs : stepM g ns M (rdEv log k) = some M') :
  Kept g log (k + 1) M' (if lastOf log k then max most (running M') else most) := by
 obtain ⟨hin, hst⟩ := stepM_some hs
 obtain ⟨_, hi, hlt⟩ := evIn_num hin
 generalize he : rdEv log k = e at *
 have key : (∀ i, M'.o.testBit i = true → M'.b.testBit i = true) ∧ (∀ i, M'.b.testBit i = true → i < g.length) ∧ running M' = sumN log (k + 1) := by
  rcases hst with ⟨h2, hm, rfl⟩ | ⟨h2, hm, rfl⟩
  ·
   unfold mayBegin at hm
   simp only [Bool.and_eq_true, Bool.not_eq_true'] at hm
   have ho : M.o.testBit e.i = false := by
    cases hx : M.o.testBit e.i with
    | false => rfl
    | true => rw [h.sub _ hx] at hm; exact absurd hm.1 (by simp)
   refine ⟨fun i hx => ?_, fun i hx => ?_, ?_⟩
   ·
    show (M.b ||| 2 ^ e.i).testBit i = true
    rw [or_bit, h.sub i hx]; rfl
   ·
    have hx : (M.b ||| 2 ^ e.i).testBit i = true := hx
    rw [or_bit, Bool.or_eq_true, decide_eq_true_eq] at hx
    rcases hx with hx | rfl
    ·
     exact h.lt i hx
    ·
     exact hlt
   ·
    have hd : diff (M.b ||| 2 ^ e.i) M.o = diff M.b M.o ||| 2 ^ e.i := by
     apply Nat.eq_of_testBit_eq
     intro j
     rw [diff_bit, or_bit, or_bit, diff_bit]
     by_cases hj : e.i = j
     ·
      subst hj; rw [ho]; simp
     ·
      simp [hj]
    have hr := h.run
    unfold running at hr ⊢
    show (((elems (diff (M.b ||| 2 ^ e.i) M.o)).length : Nat) : Int) = _
    rw [hd, elems_cnt, cntW_step (by rw [diff_bit, hm.1]; rfl) 16 (by omega)]
    rw [elems_cnt] at hr
    unfold sumN
    rw [he, h2, ← hr]
    simp only [Bool.false_eq_true, if_false]
    omega
  ·
   unfold mayEnd at hm
   simp only [Bool.and_eq_true, Bool.not_eq_true'] at hm
   refine ⟨fun i hx => ?_, fun i hx => h.lt i hx, ?_⟩
   ·
    have hx : (M.o ||| 2 ^ e.i).testBit i = true := hx
    rw [or_bit, Bool.or_eq_true, decide_eq_true_eq] at hx
    rcases hx with hx | rfl
    ·
     exact h.sub i hx
    ·
     exact hm.1.1
   ·
    have hd : diff M.b M.o = diff M.b (M.o ||| 2 ^ e.i) ||| 2 ^ e.i := by
     apply Nat.eq_of_testBit_eq
     intro j
     rw [diff_bit, or_bit, diff_bit, or_bit]
     by_cases hj : e.i = j
     ·
      subst hj; rw [hm.1.1, hm.1.2]; simp
     ·
      simp [hj]
    have hr := h.run
    unfold running at hr ⊢
    show (((elems (diff M.b (M.o ||| 2 ^ e.i))).length : Nat) : Int) = _
    rw [hd, elems_cnt, cntW_step (by rw [diff_bit, or_bit]; simp) 16 (by omega)] at hr
    rw [elems_cnt]
    unfold sumN
    rw [he, h2, ← hr]
    simp only [if_true]
    omega
 obtain ⟨k1, k2, k3⟩ := key
 have hle := run_le k2
 refine ⟨k1, k2, k3, ?_, ?_, ?_⟩
 ·
  unfold mostN
  rw [h.mst, k3]
 ·
  have := h.le
  split
  ·
   exact Int.max_le.2 ⟨this, hle⟩
  ·
   exact this
 ·
  have := h.ge
  split
  ·
   exact Int.le_trans this (Int.le_max_left _ _)
  ·
   exact this
theorem replay_kept {g : List Tk} {ns : List Nat} {log : List Ev} (hg8 : g.length ≤ 8) : ∀ (k : Nat) (p : Mach × Int), replayN g ns log k = some p → Kept g log k p.1 p.2
 | 0, p, h => by
  obtain rfl : (Mach.zero, (0 : Int)) = p := Option.some.inj h
  exact ⟨fun i hi => by simp [Mach.zero] at hi, fun i hi => by simp [Mach.zero] at hi, by unfold running; rw [elems_cnt]; simp [Mach.zero, diff, cnt_zero, sumN], rfl, by show (0 : Int) ≤ _; omega, Int.le_refl _⟩
 | k + 1, p, h => by
  unfold replayN at h
  obtain ⟨q, hq, h⟩ := Option.bind_eq_some_iff.1 h
  split at h
  ·
   cases h
  ·
   obtain ⟨M', hM, rfl⟩ := Option.map_eq_some_iff.1 h
   exact (replay_kept hg8 k q hq).step hg8 hM
structure Early (g : List Tk) (log : List Ev) (k : Nat) (M : Mach) : Prop where
 sum : sumN log k = k
 at_ : ∀ j, j < k → (rdEv log j).f0 = (rdEv log 0).f0
 bg : ∀ i, M.b.testBit i = true → 0 < k ∧ M.bg i = (rdEv log 0).f0
 last : ∀ j, j < k → lastOf log j = false
theorem most_mono {log : List Ev} {k : Nat} (h : 1 ≤ mostN log k) : 1 ≤ mostN log (k + 1) := by
 unfold mostN
 split
 ·
  exact Int.le_trans h (Int.le_max_left _ _)
 ·
  exact h
theorem replay_early {g : List Tk} {ns : List Nat} {log : List Ev} (hgt : ∀ i, i < g.length → 1 ≤ (rdTk g i).f0) : ∀ (k : Nat) (p : Mach × Int), k ≤ log.length → replayN g ns log k = some p → 1 ≤ mostN log k ∨ Early g log k p.1
 | 0, p, _, h => by
  obtain rfl : (Mach.zero, (0 : Int)) = p := Option.some.inj h
  exact Or.inr ⟨rfl, fun j hj => by omega, fun i hi => by simp [Mach.zero] at hi, fun j hj => by omega⟩
 | k + 1, p, hk, h => by
  unfold replayN at h
  obtain ⟨q, hq, h⟩ := Option.bind_eq_some_iff.1 h
  split at h
  ·
   cases h
  ·
   rename_i hord
   obtain ⟨M', hM, rfl⟩ := Option.map_eq_some_iff.1 h
   rcases replay_early hgt k q (by omega) hq with h1 | h1
   ·
    exact Or.inl (most_mono h1)
   ·
    obtain ⟨hin, hst⟩ := stepM_some hM
    obtain ⟨_, hi, hlt⟩ := evIn_num hin
    have hat : (rdEv log k).f0 = (rdEv log 0).f0 := by
     rcases Nat.eq_zero_or_pos k with rfl | hp
     ·
      rfl
     ·
      have hl := h1.last (k - 1) (by omega)
      have ha := h1.at_ (k - 1) (by omega)
      unfold lastOf at hl
      unfold inOrder at hord
      rw [show k - 1 + 1 = k by omega] at hl
      simp only [Bool.or_eq_false_iff, decide_eq_false_iff_not, Bool.not_eq_false, Bool.not_eq_true', Bool.and_eq_false_iff] at hl hord
      omega
    rcases hst with ⟨h2, hm, rfl⟩ | ⟨h2, hm, rfl⟩
    ·
     have hsum : sumN log (k + 1) = (k : Int) + 1 := by
      unfold sumN
      rw [h1.sum, h2]
      simp
     by_cases hlast : lastOf log k = true
     ·
      left
      unfold mostN
      rw [if_pos hlast, hsum]
      have := Int.le_max_right (mostN log k) ((k : Int) + 1)
      omega
     ·
      right
      refine ⟨by rw [hsum]; rfl, fun j hj => ?_, fun i hx => ⟨Nat.succ_pos _, ?_⟩, fun j hj => ?_⟩
      ·
       rcases Nat.lt_succ_iff_lt_or_eq.1 hj with hj | rfl
       ·
        exact h1.at_ j hj
       ·
        exact hat
      ·
       show (if i = (rdEv log k).i then (rdEv log k).f0 else q.1.bg i) = _
       split
       ·
        exact hat
       ·
        rename_i hne
        have hx : (q.1.b ||| 2 ^ (rdEv log k).i).testBit i = true := hx
        rw [or_bit, Bool.or_eq_true, decide_eq_true_eq] at hx
        rcases hx with hx | hx
        ·
         exact (h1.bg i hx).2
        ·
         exact absurd hx.symm hne
      ·
       rcases Nat.lt_succ_iff_lt_or_eq.1 hj with hj | rfl
       ·
        exact h1.last j hj
       ·
        simpa using hlast
    ·
     exfalso
     unfold mayEnd at hm
     simp only [Bool.and_eq_true, Bool.not_eq_true', decide_eq_true_eq] at hm
     have := (h1.bg _ hm.1.1).2
     have := hgt _ hlt
     omega
theorem most_pos {g : List Tk} {ns : List Nat} {log : List Ev} (hgt : ∀ i, i < g.length → 1 ≤ (rdTk g i).f0) (p : Mach × Int) (h : replayN g ns log log.length = some p) (hn : 0 < log.length) : 1 ≤ mostN log log.length := by
 rcases replay_early hgt log.length p (Nat.le_refl _) h with h1 | h1
 ·
  exact h1
 ·
  have := h1.last (log.length - 1) (by omega)
  unfold lastOf at this
  simp only [Bool.or_eq_false_iff, decide_eq_false_iff_not] at this
  omega
end Go.Proofs.YtlapphhcficbjaaDoor

namespace Go.Proofs.YtlapphhcficbjaaDoor
set_option linter.unusedVariables false
set_option linter.unusedSimpArgs false
open Go.RowKit Go.Shelf Bits
open Go.Proofs.YtlapphhcficbjaaDoorW.PrintWords Go.Proofs.YtlapphhcficbjaaDoorW.PrintLast Go.Proofs.YtlapphhcficbjaaDoorW.PrintMore
attribute [local go_sem] Oper.semAt_some
def sumT (g : List Tk) (l : List Nat) : Int := (l.map fun i => (rdTk g i).f0).sum
theorem sumT_snoc (g : List Tk) (l : List Nat) (i : Nat) : sumT g (l ++ [i]) = sumT g l + (rdTk g i).f0 := by
 unfold sumT
 rw [List.map_append, List.sum_append]
 simp
theorem sumT_bound {g : List Tk} (htm : ∀ i, 0 ≤ (rdTk g i).f0 ∧ (rdTk g i).f0 ≤ 20) : ∀ l : List Nat, 0 ≤ sumT g l ∧ sumT g l ≤ 20 * l.length
 | [] => ⟨Int.le_refl _, by show (0 : Int) ≤ _; simp⟩
 | i :: l => by
  have ih := sumT_bound htm l
  have h := htm i
  have e : sumT g (i :: l) = (rdTk g i).f0 + sumT g l := by unfold sumT; simp
  rw [e, List.length_cons]
  omega
def busyB (g : List Tk) (log : List Ev) : Int := match replayB g log with
 | some p => sumT g (elems p.1.o)
 | none => -1
theorem lt_pow_of_bits {s n : Nat} (h : ∀ i, s.testBit i = true → i < n) : s < 2 ^ n := Nat.lt_pow_two_of_testBit s fun i hi => by
 cases hb : s.testBit i with
 | false => rfl
 | true => have := h i hb; omega
theorem replayB_facts {g : List Tk} {log : List Ev} {p : Mach × Int} (h : replayB g log = some p) : ∃ ns, graphN g = some ns ∧ replayN g ns log log.length = some p ∧ g.length ≤ 8 ∧ p.1.o < 2 ^ g.length ∧ ∀ i, 0 ≤ (rdTk g i).f0 ∧ (rdTk g i).f0 ≤ 20 := by
 unfold replayB at h
 obtain ⟨ns, hns, hp⟩ := Option.bind_eq_some_iff.1 h
 split at hp
 ·
  have h8 := (graphN_all hns).1
  have hk := replay_kept h8 _ p hp
  exact ⟨ns, hns, hp, h8, lt_pow_of_bits fun i hi => hk.lt i (hk.sub i hi), graphN_time hns⟩
 ·
  cases hp
end Go.Proofs.YtlapphhcficbjaaDoor

namespace Go.Proofs.YtlapphhcficbjaaDoor
set_option linter.unusedVariables false
set_option linter.unusedSimpArgs false
open Go.RowKit Go.Shelf Bits
def busyS (g : List Tk) (log : List Ev) : Nat → Int
 | 0 => 0
 | k + 1 => if (rdEv log k).f2 = true then busyS g log k + (rdTk g (rdEv log k).f1.toNat).f0 else busyS g log k
theorem busyS_succ (g : List Tk) (log : List Ev) (k : Nat) : busyS g log (k + 1) = if (rdEv log k).f2 = true then busyS g log k + (rdTk g (rdEv log k).f1.toNat).f0 else busyS g log k := rfl
def sb (g : List Tk) : Nat → Nat → Int
 | 0, _ => 0
 | n + 1, s => sb g n s + if s.testBit n = true then (rdTk g n).f0 else 0
theorem sb_high (g : List Tk) {i s : Nat} : ∀ n, n ≤ i → sb g n (s ||| 2 ^ i) = sb g n s
 | 0, _ => rfl
 | n + 1, h => by
  unfold sb
  rw [sb_high g n (by omega), or_bit, decide_eq_false (show ¬ i = n by omega), Bool.or_false]
theorem sb_step (g : List Tk) {i s : Nat} (hs : s.testBit i = false) : ∀ n, i < n → sb g n (s ||| 2 ^ i) = sb g n s + (rdTk g i).f0
 | n + 1, h => by
  unfold sb
  rcases Nat.lt_succ_iff_lt_or_eq.1 h with h1 | rfl
  ·
   rw [sb_step g hs n h1, or_bit, decide_eq_false (show ¬ i = n by omega), Bool.or_false]
   omega
  ·
   rw [sb_high g i (Nat.le_refl _), or_bit, hs]
   simp
theorem sumT_sb (g : List Tk) (s : Nat) : sumT g (elems s) = sb g 16 s := by
 unfold elems
 have h : ∀ n, sumT g ((List.range n).filter s.testBit) = sb g n s := by
  intro n
  induction n with
  | zero => rfl
  | succ n ih =>
   rw [List.range_succ, List.filter_append]
   unfold sb
   cases hb : s.testBit n with
   | true =>
    rw [List.filter_cons_of_pos hb, List.filter_nil, sumT_snoc, ih]
    simp
   | false =>
    rw [List.filter_cons_of_neg (by rw [hb]; simp), List.filter_nil, List.append_nil, ih]
    simp
 exact h 16
theorem busy_kept {g : List Tk} {ns : List Nat} {log : List Ev} (h8 : g.length ≤ 8) : ∀ (k : Nat) (p : Mach × Int), replayN g ns log k = some p → sumT g (elems p.1.o) = busyS g log k
 | 0, p, h => by
  obtain rfl : (Mach.zero, (0 : Int)) = p := Option.some.inj h
  show sumT g (elems 0) = 0
  rw [elems_zero]
  rfl
 | k + 1, p, h => by
  unfold replayN at h
  obtain ⟨q, hq, h⟩ := Option.bind_eq_some_iff.1 h
  have ih := busy_kept h8 k q hq
  split at h
  ·
   cases h
  ·
   obtain ⟨M', hM, rfl⟩ := Option.map_eq_some_iff.1 h
   obtain ⟨hin, hst⟩ := stepM_some hM
   obtain ⟨_, hi, hlt⟩ := evIn_num hin
   rcases hst with ⟨h2, hm, rfl⟩ | ⟨h2, hm, rfl⟩
   ·
    show sumT g (elems q.1.o) = if (rdEv log k).f2 = true then _ else _
    rw [h2, if_neg (by simp)]
    exact ih
   ·
    show sumT g (elems (q.1.o ||| 2 ^ (rdEv log k).i)) = if (rdEv log k).f2 = true then _ else _
    rw [h2, if_pos rfl, ← ih]
    unfold mayEnd at hm
    simp only [Bool.and_eq_true, Bool.not_eq_true'] at hm
    rw [sumT_sb, sumT_sb, sb_step g hm.1.2 16 (by omega)]
    rfl
theorem busyB_eq (g : List Tk) (log : List Ev) : busyB g log = if validLogB g log = true then busyS g log log.length else -1 := by
 rw [validLog_eq]
 unfold busyB
 cases h : replayB g log with
 | none => rfl
 | some p =>
  obtain ⟨ns, _, hp, h8, _⟩ := replayB_facts h
  exact busy_kept h8 _ p hp
theorem busyS_take (g : List Tk) (log : List Ev) (m : Nat) : ∀ k, k ≤ m → busyS g (log.take m) k = busyS g log k
 | 0, _ => rfl
 | k + 1, h => by
  unfold busyS
  rw [rdEv_take (by omega), busyS_take g log m k (by omega)]
theorem validLog_event {g : List Tk} {log : List Ev} (h : validLogB g log = true) {k : Nat} (hk : k < log.length) : 0 ≤ (rdEv log k).f1 ∧ (rdEv log k).f1 < g.length ∧ 1 ≤ (rdTk g (rdEv log k).f1.toNat).f0 ∧ (rdTk g (rdEv log k).f1.toNat).f0 ≤ 20 := by
 unfold validLogB at h
 simp only [Bool.and_eq_true, decide_eq_true_eq, List.all_eq_true, List.mem_range] at h
 have h1 := h.2 k hk
 unfold eventOkB inB at h1
 simp only [Bool.and_eq_true, decide_eq_true_eq] at h1
 have h2 := h1.1.2
 have hv := h.1.1
 unfold specValid tasksFineB at hv
 simp only [Bool.and_eq_true, List.all_eq_true] at hv
 have hi : (rdEv log k).f1.toNat < g.length := by omega
 have hm : rdTk g (rdEv log k).f1.toNat ∈ g := by unfold rdTk; rw [List.getD_eq_getElem?_getD, List.getElem?_eq_getElem hi]; exact List.getElem_mem _
 have h3 := hv.1.1 _ hm
 unfold taskFineB inB at h3
 simp only [Bool.and_eq_true, decide_eq_true_eq] at h3
 exact ⟨h2.1, by omega, h3.1.1.1.1⟩
theorem busyS_bound {g : List Tk} {log : List Ev} (h : validLogB g log = true) : ∀ k, k ≤ log.length → 0 ≤ busyS g log k ∧ busyS g log k ≤ 20 * k
 | 0, _ => ⟨Int.le_refl _, by show (0 : Int) ≤ _; simp⟩
 | k + 1, hk => by
  have ih := busyS_bound h k (by omega)
  have he := validLog_event h (show k < log.length by omega)
  unfold busyS
  split <;> omega
end Go.Proofs.YtlapphhcficbjaaDoor

namespace Go.Proofs.YtlapphhcficbjaaDoor
set_option linter.unusedVariables false
set_option linter.unusedSimpArgs false
open Go.RowKit Go.Shelf Bits
open Go.Proofs.YtlapphhcficbjaaDoorW.PrintWords Go.Proofs.YtlapphhcficbjaaDoorW.PrintLast Go.Proofs.YtlapphhcficbjaaDoorW.PrintMore
attribute [local go_sem] Oper.semAt_some
def accN (cl : Nat → Int) (now : Int) (l : List Nat) : Nat := l.foldl (fun s i => if cl i ≤ now then s ||| 2 ^ i else s) 0
theorem accN_snoc (cl : Nat → Int) (now : Int) (l : List Nat) (i : Nat) : accN cl now (l ++ [i]) = if cl i ≤ now then accN cl now l ||| 2 ^ i else accN cl now l := by
 unfold accN
 rw [List.foldl_append]
 rfl
theorem accN_bits (cl : Nat → Int) (now : Int) (j : Nat) : ∀ (l : List Nat) (s : Nat), (l.foldl (fun s i => if cl i ≤ now then s ||| 2 ^ i else s) s).testBit j = (s.testBit j || decide (j ∈ l ∧ cl j ≤ now))
 | [], s => by simp
 | i :: l, s => by
  rw [List.foldl_cons, accN_bits cl now j l]
  by_cases hc : cl i ≤ now
  ·
   rw [if_pos hc, or_bit]
   by_cases hj : i = j
   ·
    subst hj
    simp [hc]
   ·
    have : ¬ j = i := fun e => hj e.symm
    simp [hj, this]
  ·
   rw [if_neg hc]
   by_cases hj : i = j
   ·
    subst hj
    simp [hc]
   ·
    have : ¬ j = i := fun e => hj e.symm
    simp [this]
theorem accN_bit (cl : Nat → Int) (now : Int) (l : List Nat) (j : Nat) : (accN cl now l).testBit j = decide (j ∈ l ∧ cl j ≤ now) := by
 unfold accN
 rw [accN_bits]
 simp
theorem accN_lt {cl : Nat → Int} {now : Int} {l : List Nat} (h : ∀ i ∈ l, i < 16) : accN cl now l < 65536 :=
 lt_pow_of_bits (n := 16) fun i hi => by
  rw [accN_bit, decide_eq_true_eq] at hi
  exact h i hi.1
def doneL (M : Mach) (now : Int) : List Nat := (elems M.o).filter fun i => decide (M.cl i ≤ now)
theorem elems_acc (M : Mach) (now : Int) : elems (accN M.cl now (elems M.o)) = doneL M now := by
 unfold doneL
 conv => lhs; unfold elems
 conv => rhs; unfold elems
 rw [List.filter_filter]
 apply List.filter_congr
 intro j hj
 have hj := List.mem_range.1 hj
 have hm : j ∈ List.filter M.o.testBit (List.range 16) ↔ M.o.testBit j = true := by
  rw [List.mem_filter]
  exact ⟨fun h => h.2, fun h => ⟨List.mem_range.2 hj, h⟩⟩
 rw [accN_bit]
 by_cases h2 : M.cl j ≤ now
 ·
  rw [decide_eq_true h2, Bool.true_and]
  by_cases h1 : M.o.testBit j = true
  ·
   rw [decide_eq_true ⟨hm.2 h1, h2⟩, h1]
  ·
   rw [decide_eq_false (fun h => h1 (hm.1 h.1))]
   simpa using h1
 ·
  rw [decide_eq_false h2, decide_eq_false (fun h => h2 h.2)]
  rfl
def doneB (g : List Tk) (log : List Ev) (now : Int) : List Int := match replayB g log with
 | some p => ints (doneL p.1 now)
 | none => []
end Go.Proofs.YtlapphhcficbjaaDoor

namespace Go.Proofs.YtlapphhcficbjaaDoor
set_option linter.unusedVariables false
set_option linter.unusedSimpArgs false
open Go.RowKit Go.Shelf Bits
def hits (log : List Ev) (t : Nat) (now : Int) : Nat → List Int
 | 0 => []
 | k + 1 => if (rdEv log k).f1 = (t : Int) ∧ (rdEv log k).f2 = true ∧ (rdEv log k).f0 ≤ now then hits log t now k ++ [(t : Int)] else hits log t now k
def doneS (log : List Ev) (now : Int) : Nat → List Int
 | 0 => []
 | t + 1 => doneS log now t ++ hits log t now log.length
structure Hist (g : List Tk) (ns : List Nat) (log : List Ev) (k : Nat) (M : Mach) : Prop where
 hit : ∀ t now, hits log t now k = if M.o.testBit t = true ∧ M.cl t ≤ now then [(t : Int)] else []
 sub : ∀ i, M.o.testBit i = true → M.b.testBit i = true
 lt : ∀ i, M.b.testBit i = true → i < g.length
 tim : ∀ i, M.b.testBit i = true → 0 < k ∧ 0 ≤ M.bg i ∧ M.bg i ≤ (rdEv log (k - 1)).f0
 clt : ∀ i, M.o.testBit i = true → M.bg i ≤ M.cl i ∧ M.cl i ≤ (rdEv log (k - 1)).f0
 ned : ∀ i, M.b.testBit i = true → ∀ q, (ns.getD i 0).testBit q = true → M.o.testBit q = true ∧ M.cl q ≤ M.bg i
theorem Hist.step {g : List Tk} {ns : List Nat} {log : List Ev} {k : Nat} {M M' : Mach} (htm : ∀ i, 0 ≤ (rdTk g i).f0) (h : Hist g ns log k M) (ho : inOrder log k = true) (hs : stepM g ns M (rdEv log k) = some M') : Hist g ns log (k + 1) M' := by
 obtain ⟨hin, hst⟩ := stepM_some hs
 obtain ⟨e0, e1, e2⟩ := evIn_num hin
 have e0 := inB_true.1 e0
 have hle : 0 < k → (rdEv log (k - 1)).f0 ≤ (rdEv log k).f0 := fun hk => by
  unfold inOrder at ho
  rw [decide_eq_true hk] at ho
  simpa using ho
 have hbt : ∀ i, M.b.testBit i = true → 0 ≤ M.bg i ∧ M.bg i ≤ (rdEv log k).f0 := fun i hi => by
  obtain ⟨a, b, c⟩ := h.tim i hi
  have := hle a
  exact ⟨b, by omega⟩
 have hct : ∀ i, M.o.testBit i = true → M.bg i ≤ M.cl i ∧ M.cl i ≤ (rdEv log k).f0 := fun i hi => by
  obtain ⟨a, _, _⟩ := h.tim i (h.sub i hi)
  obtain ⟨b, c⟩ := h.clt i hi
  have := hle a
  exact ⟨b, by omega⟩
 rcases hst with ⟨f2, hm, rfl⟩ | ⟨f2, hm, rfl⟩
 ·
  unfold mayBegin at hm
  simp only [Bool.and_eq_true, Bool.not_eq_true', decide_eq_true_eq] at hm
  obtain ⟨m1, m2⟩ := hm
  have hnb : ∀ i, M.b.testBit i = true → i ≠ (rdEv log k).i := fun i hi e => by rw [e, m1] at hi; cases hi
  refine ⟨fun t now => ?_, fun i hi => ?_, fun i hi => ?_, fun i hi => ?_, fun i hi => ?_, fun i hi q hq => ?_⟩
  ·
   unfold hits
   rw [if_neg (by rw [f2]; simp)]
   exact h.hit t now
  ·
   show (M.b ||| 2 ^ (rdEv log k).i).testBit i = true
   rw [or_bit, h.sub i hi]
   rfl
  ·
   have hi : (M.b ||| 2 ^ (rdEv log k).i).testBit i = true := hi
   rw [or_bit, Bool.or_eq_true, decide_eq_true_eq] at hi
   rcases hi with hi | hi
   ·
    exact h.lt i hi
   ·
    omega
  ·
   have hi : (M.b ||| 2 ^ (rdEv log k).i).testBit i = true := hi
   rw [or_bit, Bool.or_eq_true, decide_eq_true_eq] at hi
   show 0 < k + 1 ∧ 0 ≤ (if i = (rdEv log k).i then (rdEv log k).f0 else M.bg i) ∧ (if i = (rdEv log k).i then (rdEv log k).f0 else M.bg i) ≤ (rdEv log k).f0
   by_cases he : i = (rdEv log k).i
   ·
    rw [if_pos he]
    omega
   ·
    rw [if_neg he]
    obtain ⟨a, b⟩ := hbt i (hi.resolve_right fun e => he e.symm)
    omega
  ·
   have hi : M.o.testBit i = true := hi
   show (if i = (rdEv log k).i then (rdEv log k).f0 else M.bg i) ≤ M.cl i ∧ M.cl i ≤ (rdEv log k).f0
   rw [if_neg (hnb i (h.sub i hi))]
   exact hct i hi
  ·
   have hi : (M.b ||| 2 ^ (rdEv log k).i).testBit i = true := hi
   rw [or_bit, Bool.or_eq_true, decide_eq_true_eq] at hi
   show M.o.testBit q = true ∧ M.cl q ≤ (if i = (rdEv log k).i then (rdEv log k).f0 else M.bg i)
   by_cases he : i = (rdEv log k).i
   ·
    rw [if_pos he]
    rw [he] at hq
    have hoq := diff_zero.1 m2 q hq
    exact ⟨hoq, (hct q hoq).2⟩
   ·
    rw [if_neg he]
    exact h.ned i (hi.resolve_right fun e => he e.symm) q hq
 ·
  unfold mayEnd at hm
  simp only [Bool.and_eq_true, Bool.not_eq_true', decide_eq_true_eq] at hm
  obtain ⟨⟨m1, m2⟩, m3⟩ := hm
  have hno : ∀ i, M.o.testBit i = true → i ≠ (rdEv log k).i := fun i hi e => by rw [e, m2] at hi; cases hi
  refine ⟨fun t now => ?_, fun i hi => ?_, h.lt, fun i hi => ?_, fun i hi => ?_, fun i hi q hq => ?_⟩
  ·
   show _ = if (M.o ||| 2 ^ (rdEv log k).i).testBit t = true ∧ (if t = (rdEv log k).i then (rdEv log k).f0 else M.cl t) ≤ now then _ else _
   unfold hits
   rw [h.hit t now, or_bit, e1, f2]
   by_cases he : t = (rdEv log k).i
   ·
    have h2 : M.o.testBit t = false := by rw [he]; exact m2
    rw [h2, if_neg (show ¬ (false = true ∧ M.cl t ≤ now) by simp), he]
    simp
   ·
    have h2 : ¬ (((rdEv log k).i : Nat) : Int) = (t : Int) := by omega
    have h3 : ¬ (rdEv log k).i = t := fun e => he e.symm
    simp [he, h2, h3]
  ·
   have hi : (M.o ||| 2 ^ (rdEv log k).i).testBit i = true := hi
   rw [or_bit, Bool.or_eq_true, decide_eq_true_eq] at hi
   rcases hi with hi | hi
   ·
    exact h.sub i hi
   ·
    rw [← hi]
    exact m1
  ·
   show 0 < k + 1 ∧ 0 ≤ M.bg i ∧ M.bg i ≤ (rdEv log k).f0
   obtain ⟨a, b⟩ := hbt i hi
   omega
  ·
   have hi : (M.o ||| 2 ^ (rdEv log k).i).testBit i = true := hi
   rw [or_bit, Bool.or_eq_true, decide_eq_true_eq] at hi
   show M.bg i ≤ (if i = (rdEv log k).i then (rdEv log k).f0 else M.cl i) ∧ (if i = (rdEv log k).i then (rdEv log k).f0 else M.cl i) ≤ (rdEv log k).f0
   by_cases he : i = (rdEv log k).i
   ·
    rw [if_pos he, he]
    have := htm (rdEv log k).i
    omega
   ·
    rw [if_neg he]
    exact hct i (hi.resolve_right fun e => he e.symm)
  ·
   show (M.o ||| 2 ^ (rdEv log k).i).testBit q = true ∧ (if q = (rdEv log k).i then (rdEv log k).f0 else M.cl q) ≤ M.bg i
   obtain ⟨a, b⟩ := h.ned i hi q hq
   rw [or_bit, a, if_neg (hno q a)]
   exact ⟨rfl, b⟩
theorem replay_hist {g : List Tk} {ns : List Nat} {log : List Ev} (htm : ∀ i, 0 ≤ (rdTk g i).f0) : ∀ (k : Nat) (p : Mach × Int), replayN g ns log k = some p → Hist g ns log k p.1
 | 0, p, h => by
  obtain rfl : (Mach.zero, (0 : Int)) = p := Option.some.inj h
  refine ⟨fun t now => ?_, fun i hi => ?_, fun i hi => ?_, fun i hi => ?_, fun i hi => ?_, fun i hi => ?_⟩
  ·
   simp [hits, Mach.zero]
  all_goals (exfalso; simp [Mach.zero] at hi)
 | k + 1, p, h => by
  unfold replayN at h
  obtain ⟨q, hq, h⟩ := Option.bind_eq_some_iff.1 h
  have ih := replay_hist htm k q hq
  split at h
  ·
   cases h
  ·
   rename_i ho
   obtain ⟨M', hM, rfl⟩ := Option.map_eq_some_iff.1 h
   exact ih.step htm (by simpa using ho) hM
theorem filter_range {P : Nat → Bool} {n : Nat} (h : ∀ i, P i = true → i < n) : ∀ d, (List.range (n + d)).filter P = (List.range n).filter P
 | 0 => rfl
 | d + 1 => by
  rw [← Nat.add_assoc, List.range_succ, List.filter_append, filter_range h d]
  have : P (n + d) = false := by
   cases hp : P (n + d) with
   | false => rfl
   | true => have := h _ hp; omega
  simp [this]
def doneP (M : Mach) (now : Int) (i : Nat) : Bool := M.o.testBit i && decide (M.cl i ≤ now)
theorem doneL_range {M : Mach} {n : Nat} (hn : n ≤ 16) (h : ∀ i, M.o.testBit i = true → i < n) (now : Int) : doneL M now = (List.range n).filter (doneP M now) := by
 unfold doneL elems
 rw [List.filter_filter, ← filter_range (P := doneP M now) (n := n) (fun i hi => h i (by unfold doneP at hi; rw [Bool.and_eq_true] at hi; exact hi.1)) (16 - n), show n + (16 - n) = 16 by omega]
 apply List.filter_congr
 intro i _
 unfold doneP
 rw [Bool.and_comm]
theorem doneS_eq {g : List Tk} {ns : List Nat} {log : List Ev} {M : Mach} (h : Hist g ns log log.length M) (now : Int) : ∀ t, doneS log now t = ints ((List.range t).filter (doneP M now))
 | 0 => rfl
 | t + 1 => by
  unfold doneS
  rw [doneS_eq h now t, h.hit t now, List.range_succ, List.filter_append]
  unfold ints
  rw [List.map_append]
  congr 1
  unfold doneP
  by_cases hc : M.o.testBit t = true ∧ M.cl t ≤ now
  ·
   rw [if_pos hc]
   simp [hc.1, hc.2]
  ·
   rw [if_neg hc]
   have : (M.o.testBit t && decide (M.cl t ≤ now)) = false := by
    cases hb : M.o.testBit t with
    | false => rfl
    | true => simp; exact Int.not_le.1 fun h2 => hc ⟨hb, h2⟩
   simp [this]
theorem ascB_ints {L : List Nat} (h : L.Pairwise (· < ·)) : ascB (ints L) = true := by
 unfold ascB
 rw [List.all_eq_true]
 intro j hj
 have hj := List.mem_range.1 hj
 rw [ints_length] at hj
 rw [decide_eq_true_eq, ints_getD, ints_getD, List.getD_eq_getElem?_getD, List.getD_eq_getElem?_getD, List.getElem?_eq_getElem (show j < L.length by omega), List.getElem?_eq_getElem (show j + 1 < L.length by omega)]
 have := List.pairwise_iff_getElem.1 h j (j + 1) (by omega) (by omega) (by omega)
 simp only [Option.getD_some]
 omega
theorem allInB_ints {L : List Nat} {n : Nat} (h : ∀ i ∈ L, i < n) : allInB (ints L) 0 ((n : Int) - 1) = true := by
 unfold allInB ints
 rw [List.all_map, List.all_eq_true]
 intro i hi
 have := h i hi
 exact inB_true.2 ⟨by simp, by simp; omega⟩
theorem doneN_ok {g : List Tk} {ns : List Nat} {log : List Ev} {M : Mach} (hg : graphN g = some ns) (h : Hist g ns log log.length M) (now : Int) : (doneN g (ints ((List.range g.length).filter (doneP M now)))).isSome = true := by
 generalize hL : (List.range g.length).filter (doneP M now) = L
 have hm : ∀ i, i ∈ L ↔ i < g.length ∧ doneP M now i = true := fun i => by rw [← hL, List.mem_filter, List.mem_range]
 have hp : L.Pairwise (· < ·) := by rw [← hL]; exact List.pairwise_lt_range.filter _
 have hs : (setOfN (ints L) g.length).isSome = true := by rw [setOfN_isSome, ascB_ints hp, allInB_ints fun i hi => ((hm i).1 hi).1]; rfl
 obtain ⟨s, hs⟩ := Option.isSome_iff_exists.1 hs
 have hb : ∀ j, s.testBit j = true ↔ j ∈ L := fun j => by rw [setOfN_bits hs, decide_eq_true_eq, mem_intsN]
 have hc : closedN ns s = true := by
  unfold closedN
  rw [List.all_eq_true]
  intro i hi
  unfold needsIn
  rw [decide_eq_true_eq, diff_zero]
  intro q hq
  obtain ⟨i1, i2⟩ := (hm i).1 ((hb i).1 (elems_bit hi))
  unfold doneP at i2
  rw [Bool.and_eq_true, decide_eq_true_eq] at i2
  obtain ⟨q1, q2⟩ := h.ned i (h.sub i i2.1) q hq
  have q3 := (h.clt i i2.1).1
  refine (hb q).2 ((hm q).2 ⟨h.lt q (h.sub q q1), ?_⟩)
  unfold doneP
  rw [q1, decide_eq_true (show M.cl q ≤ now by omega)]
  rfl
 rw [graph_some_lt hg hs, if_pos hc]
 rfl
end Go.Proofs.YtlapphhcficbjaaDoor
