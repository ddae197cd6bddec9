/- Parts of the proof, laid as one text by a program of mine. -/
import Derived.Test.YtkljcdghbefceaaGreatDoorKbtc17
import Derived.Test.YtkljcdghbefceaaGreatDoorKbtc15
import Derived.Test.YtkljcdghbefceaaGreatDoorKbtc12
import Derived.Test.YtkljcdghbefceaaGreatDoorKbtc23
import Derived.Test.YtkljcdghbefceaaGreatDoorKbtc19
import Derived.Test.YtkljcdghbefceaaGreatDoorKbtc20
import Derived.Test.YtkljcdghbefceaaGreatDoorKbtc22
import Derived.Test.YtkljcdghbefceaaGreatDoorKbtc11
namespace Go.Proofs.YtkljcdghbefceaaGreatDoor
set_option linter.unusedVariables false
set_option linter.unusedSimpArgs false
open Go.RowKit Go.Shelf Bits
open Go.Proofs.YtkljcdghbefceaaGreatDoorW.PrintWords Go.Proofs.YtkljcdghbefceaaGreatDoorW.PrintLast Go.Proofs.YtkljcdghbefceaaGreatDoorW.PrintMore
attribute [local go_sem] Oper.semAt_some
theorem upI_wrap {n b : Int} (hn : 0 ≤ n ∧ n ≤ 100000) (hb : 1 ≤ b ∧ b ≤ 1000) : IntKind.i64.wrap (Int.tdiv (n + b - 1) b) = upI n b ∧ 0 ≤ upI n b ∧ upI n b ≤ 100000 := by
 have h1 := upI_nonneg hn.1 hb.1
 have h2 : upI n b ≤ n := upI_le hn.1 hb.1 (by
  have := Int.mul_le_mul_of_nonneg_left hb.1 hn.1
  omega)
 exact ⟨IntWalk.i64_in _ (by unfold upI at h1 h2; omega), h1, by omega⟩
theorem upI_calls (n b : Int) (hn : 0 ≤ n ∧ n ≤ 100000) (hb : 1 ≤ b ∧ b ≤ 1000) (w : World) : Calls Tryz.prog 22 #[.int .i64 n, .int .i64 b] w fun e w' => e = .returned (.int .i64 (upI n b)) ∧ w' = w := by
 have h1 : IntKind.i64.wrap (n + b) = n + b := IntWalk.i64_in _ (by omega)
 have h2 : IntKind.i64.wrap (n + b - 1) = n + b - 1 := IntWalk.i64_in _ (by clear h1; omega)
 have h3 := (upI_wrap hn hb).1
 have hb0 : ¬ b = 0 := by clear h1 h2 h3; omega
 have hb1 : (b == 0) = false := beq_eq_false_iff_ne.2 hb0
 clear hn hb
 go_enter Tryz.func22, Tryz.ntmps22
 go_wp2
 go_ret
 exact ⟨rfl, rfl⟩
set_option maxRecDepth 100000 in
set_option maxHeartbeats 2000000 in
theorem PoolTime_impl (A : Option Addr) (c : Nat) (g : List Tk) (p r : Int) (hv : specValid g = true) (hp : 0 ≤ p ∧ p ≤ 2) (hrm : 4 ≤ r ∧ r ≤ 8) (w : World) (hr : kTk.C w A g.length g) (hT : Tab w) :
  Calls Tryz.prog 26 #[.slice A g.length c, .int .i64 p, .int .i64 r] w fun e w' => e = .returned (.int .i64 (poolS g p r)) ∧ Below w.heap.size w w' := by
 have hok := specValid_TOk hv
 have h8 := hok.1
 have HV := Lib.hid (ValidGraph_is true A c g (Lib.hid hv) w hr hT)
 have HP := Lib.hid (inB_true.2 hp)
 have HRM := Lib.hid (inB_true.2 hrm)
 have HF := Lib.hid (poolS_is hv hp hrm)
 have HW := Lib.hid (poolW_bound hok p)
 have HPB := Lib.hid (poolSum_bound hok p)
 have HR := Lib.hid hr
 have HOK := Lib.hid hok
 clear hr hT hv hok
 go_enter Tryz.func26, Tryz.ntmps26
 go_wp2_with (first | (go_at_call 53; refine HV.out.mono ?_; rintro e w1 ⟨rfl, hB1⟩; have HB1 := Lib.hid hB1; clear hB1) | (go_at_call 39; with_reducible refine (within_is _ _ _ _ HP _).mono ?_; rintro e w' ⟨rfl, rfl⟩) | (go_at_call 39; with_reducible refine (within_is _ _ _ _ HRM _).mono ?_; rintro e w' ⟨rfl, rfl⟩))
 go_loopw [7, 25] (fun n i wr => ∃ (j : Nat), j ≤ g.length ∧ i = .int .i64 j ∧ n = .int .i64 (sumTo (poolF g p) j) ∧ Below w.heap.size w wr) (fun _ i _ => g.length - (intOf i).toNat)
 case atStart => exact ⟨0, Nat.zero_le _, rfl, rfl, HB1.out⟩
 case round =>
  clear HB1
  obtain ⟨j, hj, rfl, rfl, hB⟩ := hrel
  by_cases hjl : j < g.length
  ·
   obtain ⟨ad, A1, c1, rfl, hc0, hc1, hc2, hc3, _⟩ := at_Tk (Kd.C_below HR.out hB) j hjl
   have hjj : decide ((j : Int) < (g.length : Int)) = true := decide_eq_true (by omega)
   have hji : (j : Int) < (g.length : Int) := by omega
   have HE : Hid (sumTo (poolF g p) (j + 1) = sumTo (poolF g p) j + (if (rdTk g j).f2 = p then (rdTk g j).f0 * (rdTk g j).f3 else 0)) := Lib.hid rfl
   have hb := HPB.out j (by omega)
   have hb2 := HPB.out (j + 1) (by omega)
   rw [HE.out] at hb2
   have htj := HOK.out.2.1 j
   have huj := HOK.out.2.2.2.1 j
   generalize sumTo (poolF g p) j = s at HE hb hb2
   generalize (rdTk g j).f0 = tm at hc0 htj HE hb2
   generalize (rdTk g j).f3 = un at hc3 huj HE hb2
   generalize (rdTk g j).f2 = pl at hc2 HE hb2
   generalize (rdTk g j).f1.length = nl at hc1
   have HB := Lib.hid hB
   by_cases g1 : pl = p
   ·
    have d1 : (pl == p) = true := beq_iff_eq.2 g1
    rw [if_pos g1] at HE hb2
    have hwm : IntKind.i64.wrap (tm * un) = tm * un := IntWalk.i64_in _ (by omega)
    have hwr : IntKind.i64.wrap (s + tm * un) = s + tm * un := IntWalk.i64_in _ (by clear hwm; omega)
    clear g1 hb hb2 hB
    go_wp2
    clear hwr hwm
    go_roundw
    case rel => exact ⟨j + 1, by omega, by go_num, by rw [HE.out], by repeat (first | exact HB.out | exact HB.out.alloc HB.out.size _ | apply pw_below_drewN)⟩
    case measure => simp [intOf]; omega
   ·
    have d1 : (pl == p) = false := beq_eq_false_iff_ne.2 g1
    rw [if_neg g1] at HE
    clear g1 hb hb2 hB
    go_wp2
    go_roundw
    case rel => exact ⟨j + 1, by omega, by go_num, by rw [HE.out, Int.add_zero], by repeat (first | exact HB.out | exact HB.out.alloc HB.out.size _ | apply pw_below_drewN)⟩
    case measure => simp [intOf]; omega
  ·
   obtain rfl : j = g.length := by omega
   have hjj : decide ((g.length : Int) < (g.length : Int)) = false := decide_eq_false (by omega)
   have HUP := Lib.hid (fun W => upI_calls (poolW g p) r (by have := HW.out; omega) (by omega) W)
   have HPW : Hid (sumTo (poolF g p) g.length = poolW g p) := Lib.hid rfl
   rw [HPW.out]
   generalize poolW g p = pw at HUP HF
   go_wp2_with (go_at_call 22; refine (HUP.out _).mono ?_; rintro e w3 ⟨rfl, rfl⟩)
   go_ret
   exact ⟨ret_int HF.out.symm, hB⟩
theorem sum_range (f : Nat → Int) : ∀ n, ((List.range n).map f).sum = sumTo f n
 | 0 => rfl
 | n + 1 => by
  rw [List.range_succ, List.map_append, List.sum_append, sum_range f n]
  show sumTo f n + [f n].sum = sumTo f n + f n
  simp
theorem elems_full {n : Nat} (hn : n ≤ 15) : elems (2 ^ n - 1) = List.range n := by
 rw [elems_eq (n := n) (by omega) (by have := Nat.two_pow_pos n; omega) (fun _ => true) (fun j hj => by
  rw [Nat.testBit_two_pow_sub_one]
  exact decide_eq_true hj)]
 exact List.filter_eq_self.2 (fun _ _ => rfl)
theorem total_all {g : List Tk} (h8 : g.length ≤ 8) : sumT g (elems (2 ^ g.length - 1)) = timeS g := by
 rw [elems_full (by omega)]
 exact sum_range _ _
theorem leastN_bound {g : List Tk} (hv : specValid g = true) {rm : List Int} {wk : Int} (hp : placeB rm wk = true) : ∀ m, m ≤ 3 → 0 ≤ leastN g rm wk m ∧ leastN g rm wk m ≤ 100000 := by
 have hok := specValid_TOk hv
 have hT := timeS_bound hok
 obtain ⟨hrm, h1, h2⟩ := placeB_facts hp
 have hu := upI_wrap (n := timeS g) (b := wk) (by omega) (by omega)
 have hl : longestN g ≤ 10000 := by
  have := longest_le hv (st := planS g rm wk) (fun i hi => (plan_valid hv hp).b i hi |>.1) (fun k hk i hi => (plan_valid hv hp).needs k hk i hi)
  have := endS_le (E := timeS g) hT.1 g.length (planS_ends hv hrm h1)
  omega
 intro m
 induction m with
 | zero =>
  intro _
  unfold leastN
  omega
 | succ m ih =>
  intro hm
  have ih := ih (by omega)
  have hr := (roomB_facts hrm).2 m (by omega)
  have hpw := poolW_bound hok (m : Int)
  have := upI_wrap (n := poolW g m) (b := rm.getD m 0) (by omega) (by omega)
  unfold leastN
  rw [poolS_is hv (by omega) hr]
  omega
set_option maxRecDepth 100000 in
set_option maxHeartbeats 4000000 in
theorem LeastTime_impl (A : Option Addr) (c : Nat) (g : List Tk) (A1 : Option Addr) (c1 : Nat) (rm : List Int) (wk : Int) (w : World) (hr : kTk.C w A g.length g) (hr1 : (Kd.int .i64).C w A1 rm.length rm) (hT : Tab w) :
  Calls Tryz.prog 9 #[.slice A g.length c, .slice A1 rm.length c1, .int .i64 wk] w fun e W' => e = .returned (.int .i64 (leS g rm wk)) ∧ Below w.heap.size w W' := by
 by_cases hp : (specValid g && placeB rm wk) = true
 ·
  rw [Bool.and_eq_true] at hp
  obtain ⟨hv, hpl⟩ := hp
  have hok := specValid_TOk hv
  have HF : Hid (leS g rm wk = leastN g rm wk 3) := Lib.hid (leS_is hv hpl)
  obtain ⟨ns, hg⟩ := graphN_yes hv
  obtain ⟨h1, h2, h3⟩ := placeB_facts hpl
  have hrf := roomB_facts h1
  have HP := Lib.hid (placeIn_yes A c g ns A1 c1 rm wk hpl w hr hT hg hr1)
  have HK := Lib.hid (fun (W : World) C (h : IsGraph W C g ns) (hT : Tab W) => tails_calls C g ns hg W h hT)
  have hsp := (tailN_span hg).1
  have h8 := hok.1
  have hl : (tailN g ns).length ≤ 100 := by omega
  have HLN : Hid (longL (tailN g ns) (tailN g ns).length = longestN g) := Lib.hid (by unfold longestN; rw [hg, hsp])
  have HLC := Lib.hid (fun (B : Option Addr) (d : Nat) (W : World) hC => longest_calls B d (tailN g ns) hl W hC)
  rw [HLN.out] at HLC
  have HTO := Lib.hid (fun (W : World) C (h : IsGraph W C g ns) (hT : Tab W) => total_calls C g ns (2 ^ g.length - 1) h8 (by have := Nat.two_pow_pos g.length; omega) hok.2.1 W h hT)
  rw [total_all h8] at HTO
  have htm := timeS_bound hok
  have HUP := Lib.hid (fun W => upI_calls (timeS g) wk (by omega) (by omega) W)
  have hlb := leastN_bound hv hpl
  have HLB := Lib.hid hlb
  have HL0 : Hid (leastN g rm wk 0 = max (longestN g) (upI (timeS g) wk)) := Lib.hid rfl
  have HPT := Lib.hid (fun (p : Nat) (hp : p < 3) (W : World) (hW : Below w.heap.size w W) => PoolTime_impl A c g p (rm.getD p 0) hv (by omega) (hrf.2 p hp) W (Kd.C_below hr hW) (hT.keep hT.lt hW))
  have HRL := Lib.hid hrf.1
  have hrl9 : rm.length ≤ 9 := by rw [hrf.1]; decide
  have HR1 := Lib.hid hr1
  have HT := Lib.hid hT
  have h8e := everything_calls g.length (by omega)
  have HEV := Lib.hid h8e
  clear hr hT hg h1 h2 h3 hv hpl hr1 hok hsp hrf htm hlb h8e
  generalize tailN g ns = TN at HK HLC hl
  generalize longestN g = lg at HLC HL0
  generalize upI (timeS g) wk = uu at HUP HL0
  generalize timeS g = tm at HTO HUP
  generalize 2 ^ g.length - 1 = ev at HTO HEV
  go_enter Tryz.func9, Tryz.ntmps9
  go_wp2_with (first | (go_at_call 18; refine HP.out.mono ?_; rintro e w1 ⟨C, rfl, hG, hB1⟩; have HG := Lib.hid hG; have HB1 := Lib.hid hB1; clear hG hB1) | (go_at_call 21; refine (HK.out _ C HG.out (HT.out.keep HT.out.lt HB1.out)).mono ?_; rintro e w3 ⟨v3, rfl, hR3, hB3⟩; obtain ⟨A3, c3, rfl, hl3, hC3⟩ := Kd.R_reads hR3; have HC3 := Lib.hid hC3; have HG := Lib.hid (HG.out.below hB3); have HB1 := Lib.hid (HB1.out.trans (hB3.mono HB1.out.size)); clear hR3 hC3 hB3) | (go_at_call 20; refine (HLC.out A3 c3 _ HC3.out).mono ?_; rintro e w4 ⟨rfl, rfl⟩) | (go_at_call 25; refine (size_calls _ C g ns HG.out).mono ?_; rintro e w' ⟨rfl, rfl⟩) | (go_at_call 24; refine (HEV.out _).mono ?_; rintro e w' ⟨rfl, rfl⟩) | (go_at_call 23; refine (HTO.out _ C HG.out (HT.out.keep HT.out.lt HB1.out)).mono ?_; rintro e w5 ⟨rfl, hB5⟩; have HB1 := Lib.hid (HB1.out.trans (hB5.mono HB1.out.size)); clear hB5) | (go_at_call 22; refine (HUP.out _).mono ?_; rintro e w6 ⟨rfl, rfl⟩))
  all_goals
   go_loopw [9, 34] (fun n i wr => ∃ (k : Nat), k ≤ rm.length ∧ i = .int .i64 k ∧ n = .int .i64 (leastN g rm wk k) ∧ Below w.heap.size w wr) (fun _ i _ => rm.length - (intOf i).toNat)
   case atStart => exact ⟨0, Nat.zero_le _, rfl, by rw [HL0.out]; (try congr 1); first | done | omega | (split <;> omega), HB1.out⟩
   case round =>
    clear HB1
    obtain ⟨k, hk, rfl, rfl, hB⟩ := hrel
    by_cases hkl : k < rm.length
    ·
     have hk3 : k < 3 := by rw [← HRL.out]; exact hkl
     obtain ⟨ads, rfl, cs⟩ := at_num (Kd.C_below HR1.out hB) k hkl
     have hkk : decide ((k : Int) < (rm.length : Int)) = true := decide_eq_true (by omega)
     have hki : (k : Int) < (rm.length : Int) := by omega
     have hk9 : k < 9 := by omega
     have HE : Hid (leastN g rm wk (k + 1) = max (leastN g rm wk k) (poolS g k (rm.getD k 0))) := Lib.hid rfl
     have HPK := Lib.hid (HPT.out k hk3)
     generalize poolS g k (rm.getD k 0) = pw at HPK HE
     generalize rm.getD k 0 = rk at cs HPK
     generalize leastN g rm wk k = m at HE ⊢
     have HW := Lib.hid hB
     clear hB hk3
     go_wp2_with (go_at_call 26; refine (HPK.out _ HW.out).mono ?_; rintro e w5 ⟨rfl, hB5⟩; have HW := Lib.hid (HW.out.trans (hB5.mono HW.out.size)); clear hB5)
     all_goals
      go_roundw
      case rel => exact ⟨k + 1, by omega, by go_num, by rw [HE.out]; (try congr 1); first | done | omega | (split <;> omega), HW.out⟩
      case measure => simp [intOf]; omega
    ·
     obtain rfl : k = rm.length := by omega
     have hkk : decide ((rm.length : Int) < (rm.length : Int)) = false := decide_eq_false (by omega)
     have HFF : Hid (leastN g rm wk rm.length = leS g rm wk) := Lib.hid (by rw [HF.out, HRL.out])
     rw [HFF.out]
     go_wp2
     go_ret
     exact ⟨rfl, hB⟩
 ·
  have HF : Hid (leS g rm wk = -1) := Lib.hid (by unfold leS; rw [if_neg hp])
  have hn : ∀ ns, graphN g = some ns → placeB rm wk = false := fun ns hg => by
   rw [graphN_spec hg, Bool.true_and] at hp
   simpa using hp
  have HP := Lib.hid (placeIn_no A c g A1 c1 rm wk hn w hr hT hr1)
  clear hr hT hp hr1 hn
  go_enter Tryz.func9, Tryz.ntmps9
  go_wp2_with (go_at_call 18; refine HP.out.mono ?_; rintro e w1 ⟨rfl, hB1⟩)
  go_ret
  exact ⟨ret_int HF.out.symm, hB1⟩
end Go.Proofs.YtkljcdghbefceaaGreatDoor

namespace Go.Proofs.YtkljcdghbefceaaGreatDoor
set_option linter.unusedVariables false
set_option linter.unusedSimpArgs false
open Go.RowKit Go.Shelf Bits
open Go.Proofs.YtkljcdghbefceaaGreatDoorW.PrintWords Go.Proofs.YtkljcdghbefceaaGreatDoorW.PrintLast Go.Proofs.YtkljcdghbefceaaGreatDoorW.PrintMore
set_option maxRecDepth 1000000 in
set_option maxHeartbeats 8000000 in
theorem FnBestTime_walk (A : Option Addr) (c : Nat) (l : List Int) (hb : ∀ x ∈ l, 0 ≤ x ∧ x < 256) (w : World) (hT : Tab w) (hr : (Kd.int .u8).C w A l.length l) (hc : l.length ≤ c) :
  Calls Tryz.prog 3 #[.slice A l.length c] w fun e w' => e = .returned (.bool true) ∧ Below w.heap.size w w' := by
 have HT := Lib.hid hT
 have hll := (C_len hr).2
 have HD := Lib.hid (DrawBestTime_any A c l hb w hr hc)
 clear hb hr hc hT
 by_cases hbig : 1048576 < l.length
 ·
  have db : decide ((1048576 : Int) < (l.length : Int)) = true := decide_eq_true (by omega)
  clear hbig
  go_enter Tryz.func3, Tryz.ntmps3
  go_wp2
  go_ret
  exact ⟨rfl, Below.refl _ _⟩
 ·
  have db : decide ((1048576 : Int) < (l.length : Int)) = false := decide_eq_false (by omega)
  clear hbig
  go_enter Tryz.func3, Tryz.ntmps3
  go_upto_region 4 with (go_at_call 4; refine HD.out.mono ?_; rintro e w1 ⟨A1, c1, g, A2, c2, rm, wk, rfl, h1, h2, hg16, hgc, hwk, hB1⟩; have H1 := Lib.hid h1; have H2 := Lib.hid h2; have HB1 := Lib.hid hB1; clear h1 h2 hB1)
  have HTW := Lib.hid (fun (W : World) (h : Below w1.heap.size w1 W) => HT.out.keep HT.out.lt (HB1.out.trans (h.mono HB1.out.size)))
  have HW := Lib.hid (Below.refl w1.heap.size w1)
  have HBT := Lib.hid (fun (W : World) (hW : Below w1.heap.size w1 W) => BestTime_impl A1 c1 g A2 c2 rm wk W (Kd.C_below H1.out hW) (Kd.C_below H2.out hW) (HTW.out W hW))
  have HSB := Lib.hid (fun (W : World) (hW : Below w1.heap.size w1 W) => sBestTime_calls A1 c1 g hgc A2 c2 rm wk W (Kd.C_below H1.out hW) (Kd.C_below H2.out hW))
  have HPS := Lib.hid (fun (W : World) (hW : Below w1.heap.size w1 W) => PlanStarts_impl A1 c1 g A2 c2 rm wk W (Kd.C_below H1.out hW) (Kd.C_below H2.out hW) (HTW.out W hW))
  have HET := Lib.hid (fun (AO : Option Addr) (cO : Nat) (W : World) (hW : Below w1.heap.size w1 W) hO => EndTime_impl A1 c1 g A2 c2 rm wk AO cO (pS g rm wk) W (Kd.C_below H1.out hW) (Kd.C_below H2.out hW) hO (HTW.out W hW))
  have HLE := Lib.hid (fun (W : World) (hW : Below w1.heap.size w1 W) => LeastTime_impl A1 c1 g A2 c2 rm wk W (Kd.C_below H1.out hW) (Kd.C_below H2.out hW) (HTW.out W hW))
  have hlaw := bestTime_law (g := g) (rm := rm) (wk := wk)
  generalize etS g rm wk (pS g rm wk) = en at HET hlaw
  generalize pS g rm wk = x at HPS HET
  generalize leS g rm wk = lt at HLE hlaw
  generalize btN g rm wk = n at HBT HSB hlaw
  have dn : (n != n) = false := bne_self_eq_false _
  have de : (n == n) = true := beq_self_eq_true _
  by_cases h0 : n < 0
  ·
   have d0 : decide (n < 0) = true := decide_eq_true h0
   clear hlaw h0
   go_wp2_with (first | (go_at_call 5; refine (HBT.out _ HW.out).mono ?_; rintro e wv ⟨rfl, hB⟩; have HW := Lib.hid (HW.out.trans (hB.mono HW.out.size)); (try (have HcX := Lib.hid (Kd.C_below HcX.out hB))); clear hB) | (go_at_call 6; refine (HSB.out _ HW.out).mono ?_; rintro e wv ⟨rfl, hB⟩; have HW := Lib.hid (HW.out.trans (hB.mono HW.out.size)); (try (have HcX := Lib.hid (Kd.C_below HcX.out hB))); clear hB))
   go_ret
   exact ⟨rfl, HB1.out.trans (HW.out.mono HB1.out.size)⟩
  ·
   have d0 : decide (n < 0) = false := decide_eq_false h0
   obtain ⟨t1, t2⟩ := hlaw (by omega)
   have d1 : decide (n ≤ en) = true := decide_eq_true t1
   have d2 : decide (lt ≤ n) = true := decide_eq_true t2
   clear hlaw h0 t1 t2
   go_wp2_with (first | (go_at_call 5; refine (HBT.out _ HW.out).mono ?_; rintro e wv ⟨rfl, hB⟩; have HW := Lib.hid (HW.out.trans (hB.mono HW.out.size)); (try (have HcX := Lib.hid (Kd.C_below HcX.out hB))); clear hB) | (go_at_call 6; refine (HSB.out _ HW.out).mono ?_; rintro e wv ⟨rfl, hB⟩; have HW := Lib.hid (HW.out.trans (hB.mono HW.out.size)); (try (have HcX := Lib.hid (Kd.C_below HcX.out hB))); clear hB) | (go_at_call 8; refine (HPS.out _ HW.out).mono ?_; rintro e wl ⟨vX, rfl, hR, hB⟩; obtain ⟨AX, cX, rfl, hcX, hC⟩ := Kd.R_reads hR; have HW := Lib.hid (HW.out.trans (hB.mono HW.out.size)); (try (have HcX := Lib.hid (Kd.C_below HcX.out hB))); have HcX := Lib.hid hC; clear hR hC hB) | (go_at_call 7; refine (HET.out AX cX _ HW.out HcX.out).mono ?_; rintro e wv ⟨rfl, hB⟩; have HW := Lib.hid (HW.out.trans (hB.mono HW.out.size)); (try (have HcX := Lib.hid (Kd.C_below HcX.out hB))); clear hB) | (go_at_call 9; refine (HLE.out _ HW.out).mono ?_; rintro e wv ⟨rfl, hB⟩; have HW := Lib.hid (HW.out.trans (hB.mono HW.out.size)); (try (have HcX := Lib.hid (Kd.C_below HcX.out hB))); clear hB))
   go_ret
   exact ⟨rfl, HB1.out.trans (HW.out.mono HB1.out.size)⟩
end Go.Proofs.YtkljcdghbefceaaGreatDoor
