/- Parts of the proof, laid as one text by a program of mine. -/
import Derived.Test.YtlapphhcficbjaaDoorKfc13
import Derived.Test.YtlapphhcficbjaaDoorKfc18
namespace Go.Proofs.YtlapphhcficbjaaDoor
set_option linter.unusedVariables false
set_option linter.unusedSimpArgs false
open Go.RowKit Go.Shelf Bits
open Go.Proofs.YtlapphhcficbjaaDoorW.PrintWords Go.Proofs.YtlapphhcficbjaaDoorW.PrintLast Go.Proofs.YtlapphhcficbjaaDoorW.PrintMore
attribute [local go_sem] Oper.semAt_some
theorem infoStr : (Tryd.prog.info? 9).map (fun i => (i.zero, i.size, i.bytes)) = some (some (.string ByteArray.empty), 1, 16) := by kernel_rfl
theorem C_nilS (w : World) : Kd.string.C w none ([] : List ByteArray).length [] := Kd.C_nil _ _
theorem R_nilS (w : World) (base : Nat) : Kd.R Kd.string 9 w base (fun _ => True) (.slice none 0 0) [] := Kd.R_nil _ _ _ _ _
section
variable {ops : Array Oper} {o : Oper} {rest : List Oper} {a : Act} {Q : Exit → Act → World → Prop} {w0 W : World}
theorem ap_str (base : Nat) (hgd : o.guard = none) (s x : Operand) (ho : o.op = .call { callee := .builtin .append, args := #[s, x], argTypes := #[47, 47] })
  (v : Value) (xs : List ByteArray) (y : ByteArray) (hs : a.eval s = v) {N : Nat} (hx : a.eval x = .slice (some ⟨N, 0, none⟩) 1 1) (hN : N = W.heap.size)
  (HO : Kd.R Kd.string 9 W base (fun _ => True) v xs) (HB : Below base w0 W) (hbase : base ≤ W.heap.size) (hl : xs.length < 1000000)
  (h : ∀ v1 w1, Kd.R Kd.string 9 w1 base (fun _ => True) v1 (xs ++ [y]) → Below base w0 w1 → (W.alloc (.cells #[.string y] 9)).grownBy w1 v.ownBlock → (v1.ownBlock = v.ownBlock ∨ ∃ b, v1.ownBlock = some b ∧ (W.alloc (.cells #[.string y] 9)).heap.size ≤ b) → wpList Tryd.prog ops Q rest (a.put o.dst v1) w1) :
  wpList Tryd.prog ops Q (o :: rest) a (W.alloc (.cells #[.string y] 9)) := by
 have hBa : Below W.heap.size W (W.alloc (.cells #[.string y] 9)) := (Below.refl _ _).alloc (Nat.le_refl _) _
 refine Kd.R_append_rows Kd.string base hgd s x 47 9 (.string ByteArray.empty) 16 ho Tryd.underlying47 infoStr rfl (by decide) (by decide)
  v xs [y] (some ⟨N, 0, none⟩) 1 1 (fun _ => True) (fun _ => False) hs hx (Kd.R_below HO hBa) (Rr := Kd.string.K (W.alloc (.cells #[.string y] 9))) ?_ (fun p cs hp => ?_) (fun _ hk => hk.elim) (fun _ _ => trivial) (HB.trans (hBa.mono hbase)) (by have := hBa.size; omega) (by omega) h
 ·
  subst hN
  refine ⟨rfl, by omega, fun _ => ⟨_, rfl, fun j p hj => ⟨[.string p], rfl, rfl, fun i u hu => ?_⟩⟩⟩
  have hblk := World.alloc_heap_new W (.cells #[.string y] 9)
  have e2 : ∀ q, (⟨W.heap.size, 0, none⟩ : Addr).add q = ⟨W.heap.size, q, none⟩ := fun q => by
   unfold Addr.add
   split <;> simp_all
  rw [e2]
  have hc := blk_cell hblk (j * Kd.string.sz + i)
  rw [hc]
  rcases j with _ | j
  ·
   cases hj
   rcases i with _ | i
   ·
    simpa using hu
   ·
    simp at hu
  ·
   simp at hj
 ·
  exact hp
theorem ap_str_step {Kc : Act → World → Prop} (base : Nat) (hgd : Region.wanted o (yielded ops a.tmps) = true) (s x : Operand) (ho : o.op = .call { callee := .builtin .append, args := #[s, x], argTypes := #[47, 47] })
  (v : Value) (xs : List ByteArray) (y : ByteArray) (hs : a.eval s = v) {N : Nat} (hx : a.eval x = .slice (some ⟨N, 0, none⟩) 1 1) (hN : N = W.heap.size)
  (HO : Kd.R Kd.string 9 W base (fun _ => True) v xs) (HB : Below base w0 W) (hbase : base ≤ W.heap.size) (hl : xs.length < 1000000)
  (h : ∀ v1 w1, Kd.R Kd.string 9 w1 base (fun _ => True) v1 (xs ++ [y]) → Below base w0 w1 → (W.alloc (.cells #[.string y] 9)).grownBy w1 v.ownBlock → (v1.ownBlock = v.ownBlock ∨ ∃ b, v1.ownBlock = some b ∧ (W.alloc (.cells #[.string y] 9)).heap.size ≤ b) → Kc (a.put o.dst v1) w1) :
  if Region.wanted o (yielded ops a.tmps) = true then Oper.wp Tryd.prog o a (W.alloc (.cells #[.string y] 9)) Kc Q else Kc (a.put o.dst undef) (W.alloc (.cells #[.string y] 9)) := by
 have hBa : Below W.heap.size W (W.alloc (.cells #[.string y] 9)) := (Below.refl _ _).alloc (Nat.le_refl _) _
 refine Kd.R_append_rows_step Kd.string base hgd s x 47 9 (.string ByteArray.empty) 16 ho Tryd.underlying47 infoStr rfl (by decide) (by decide)
  v xs [y] (some ⟨N, 0, none⟩) 1 1 (fun _ => True) (fun _ => False) hs hx (Kd.R_below HO hBa) (Rr := Kd.string.K (W.alloc (.cells #[.string y] 9))) ?_ (fun p cs hp => ?_) (fun _ hk => hk.elim) (fun _ _ => trivial) (HB.trans (hBa.mono hbase)) (by have := hBa.size; omega) (by omega) h
 ·
  subst hN
  refine ⟨rfl, by omega, fun _ => ⟨_, rfl, fun j p hj => ⟨[.string p], rfl, rfl, fun i u hu => ?_⟩⟩⟩
  have hblk := World.alloc_heap_new W (.cells #[.string y] 9)
  have e2 : ∀ q, (⟨W.heap.size, 0, none⟩ : Addr).add q = ⟨W.heap.size, q, none⟩ := fun q => by
   unfold Addr.add
   split <;> simp_all
  rw [e2]
  have hc := blk_cell hblk (j * Kd.string.sz + i)
  rw [hc]
  rcases j with _ | j
  ·
   cases hj
   rcases i with _ | i
   ·
    simpa using hu
   ·
    simp at hu
  ·
   simp at hj
 ·
  exact hp
end
theorem at_str {w : World} {A : Option Addr} {n : Nat} {xs : List ByteArray} (h : Kd.string.C w A n xs) (i : Nat) (h1 : i < n) : ∃ ad, A = some ad ∧ w.cell? (ad.add i) = some (.string (xs.getD i ByteArray.empty)) := by
 obtain ⟨ad, c, e, hc, hK, hc0⟩ := Kd.C_get h ByteArray.empty (i : Int) (by omega) (by omega)
 refine ⟨ad, e, ?_⟩
 have := hc0 0 (.string (xs.getD i ByteArray.empty)) (by rw [hK]; rfl)
 simpa [Kd.string, Kd.scalar] using this
set_option maxRecDepth 100000 in
set_option maxHeartbeats 4000000 in
theorem sChartLines_calls (A : Option Addr) (c : Nat) (g : List Tk) (A1 : Option Addr) (c1 : Nat) (rm : List Int) (wk : Int) (A2 : Option Addr) (c2 : Nat) (st : List Int) (w : World) (hr : kTk.C w A g.length g) (hr1 : (Kd.int .i64).C w A1 rm.length rm) (hr2 : (Kd.int .i64).C w A2 st.length st) :
  Calls Tryd.prog 29 #[.slice A g.length c, .slice A1 rm.length c1, .int .i64 wk, .slice A2 st.length c2] w fun e w' => ∃ v, e = .returned v ∧ Kd.R Kd.string 9 w' w.heap.size (fun _ => True) v (chS g rm wk st) ∧ Below w.heap.size w w' := by
 have HBa : Hid (Below w.heap.size w (w.alloc (.cells #[] 9))) := Lib.hid ((Below.refl _ _).alloc (Nat.le_refl _) _)
 have HO : Hid (Kd.R Kd.string 9 (w.alloc (.cells #[] 9)) w.heap.size (fun _ => True) (.slice (some ⟨w.heap.size, 0, none⟩) 0 0) []) := Lib.hid ⟨fun _ _ => trivial, [], World.ownsRow_lit (base := w.heap.size) (size := 1) w #[] 0 (Nat.le_refl _) (by simp [maxLen]) rfl, Reps.none _ _⟩
 have hra := Kd.C_below hr HBa.out
 have hrb := Kd.C_below hr1 HBa.out
 have hrc := Kd.C_below hr2 HBa.out
 cases h : vStB g rm wk st with
 | false =>
  have HF : Hid (chS g rm wk st = []) := Lib.hid (by unfold chS; rw [h]; rfl)
  have HP := Lib.hid (validStarts_is false A c g A1 c1 rm wk A2 c2 st (Lib.hid h) _ hra hrb hrc)
  clear hr hr1 hr2 h hra hrb hrc
  go_enter Tryd.func29, Tryd.ntmps29
  go_wp2_with (go_at_call 66; refine HP.out.mono ?_; rintro e w1 ⟨rfl, hB1⟩)
  go_ret
  exact ⟨_, rfl, by rw [HF.out]; exact R_nilS _ _, HBa.out.trans (hB1.mono HBa.out.size)⟩
 | true =>
  have HF : Hid (chS g rm wk st = (List.range g.length).map (lnS g st)) := Lib.hid (if_pos h)
  have HP := Lib.hid (validStarts_is true A c g A1 c1 rm wk A2 c2 st (Lib.hid h) _ hra hrb hrc)
  have HV := Lib.hid (vSt_valid h)
  have HR := Lib.hid hr
  have HR2 := Lib.hid hr2
  have h8 := HV.out.ok.1
  have HL := Lib.hid HV.out.len
  clear hr hr1 hr2 h hra hrb hrc
  go_enter Tryd.func29, Tryd.ntmps29
  go_wp2_with (go_at_call 66; refine HP.out.mono ?_; rintro e w1 ⟨rfl, hB1⟩; have HO1 := Lib.hid (Kd.R_below HO.out hB1); have HB1 := Lib.hid (HBa.out.trans (hB1.mono HBa.out.size)); clear hB1)
  go_loopw [9, 10] (fun out i wr => ∃ j, j ≤ g.length ∧ i = .int .i64 (j : Nat) ∧ Kd.R Kd.string 9 wr w.heap.size (fun _ => True) out ((List.range j).map (lnS g st)) ∧ Below w.heap.size w wr) (fun _ i _ => g.length - (intOf i).toNat)
  case atStart => exact ⟨0, Nat.zero_le _, rfl, HO1.out, HB1.out⟩
  case round =>
   clear HO1 HB1 HO HBa
   obtain ⟨j, hj, rfl, hO, hB⟩ := hrel
   by_cases hjl : j < g.length
   ·
    have hjs : j < st.length := by rw [HL.out]; exact hjl
    obtain ⟨ad, A4, c4, rfl, hc0, _⟩ := at_Tk (Kd.C_below HR.out hB) j hjl
    obtain ⟨ads, rfl, cs⟩ := at_num (Kd.C_below HR2.out hB) j hjs
    have hjj : decide ((j : Int) < (g.length : Int)) = true := decide_eq_true (by omega)
    have hji : (j : Int) < (g.length : Int) := by omega
    have hjsi : (j : Int) < (st.length : Int) := by omega
    have hsj := HV.out.sok j
    have hbj := (HV.out.b j hjl).1
    have htj := HV.out.ok.2.1 j
    have HE := Lib.hid (range_snocC (lnS g st) j)
    have HLN : Hid (lnS g st j = lineB (st.getD j 0).toNat ((st.getD j 0).toNat + (rdTk g j).f0.toNat)) := Lib.hid rfl
    obtain ⟨s, hs⟩ : ∃ s : Nat, st.getD j 0 = (s : Nat) := ⟨(st.getD j 0).toNat, by omega⟩
    obtain ⟨tm, htm⟩ : ∃ tm : Nat, (rdTk g j).f0 = (tm : Nat) := ⟨(rdTk g j).f0.toNat, by omega⟩
    rw [hs, htm] at HLN
    rw [hs] at cs hsj
    rw [htm] at hc0 htj
    rw [Int.toNat_natCast, Int.toNat_natCast] at HLN
    have hwr : IntKind.i64.wrap ((s : Int) + (tm : Int)) = (s : Int) + (tm : Int) := IntWalk.i64_in _ (by omega)
    have HOO := Lib.hid (And.intro hO hB)
    have HST := Lib.hid (And.intro hsj htj)
    clear hs htm hO hB hsj htj hbj
    go_wp2
    go_loopw [11, 12] (fun L t wi => ∃ m : Nat, m ≤ s + tm ∧ t = .int .i64 (m : Nat) ∧ L = .string (lineB s m) ∧ Below wr.heap.size wr wi) (fun _ t _ => s + tm - (intOf t).toNat)
    case atStart => exact ⟨0, Nat.zero_le _, rfl, by rw [lineB_zero], Below.refl _ _⟩
    case round =>
     obtain ⟨m, hm, rfl, rfl, hBi⟩ := hrel
     have hsj := HST.out.1
     have htj := HST.out.2
     have cs' := pw_cell_below hBi cs
     have hc0' := pw_cell_below hBi hc0
     clear cs hc0
     by_cases hms : m < s + tm
     ·
      have dm : decide ((m : Int) < (s : Int) + (tm : Int)) = true := decide_eq_true (by omega)
      have hbz := lineB_size s m
      have hb0 : (lineB s m).size ≤ 9223372036854775806 := by omega
      have hb1 : (lineB s m).size + 1 ≤ 9223372036854775807 := by omega
      have hwm : IntKind.i64.wrap ((m : Int) + 1) = (m : Int) + 1 := IntWalk.i64_in _ (by clear hwr; omega)
      have HB := Lib.hid hBi
      clear hbz hBi
      by_cases hd : m < s
      ·
       have dd : decide (m < s) = true := decide_eq_true hd
       have HE2 := Lib.hid (lineB_dot (t := m) hd)
       generalize lineB s m = b at HE2 hb0 hb1 ⊢
       clear hd hsj htj
       go_wp2
       go_quiet (fail)
       go_wp2
       clear hwr hwm
       go_roundw
       case rel => exact ⟨m + 1, by omega, by go_num, by rw [← HE2.out], by repeat (first | exact HB.out | apply pw_below_drewN)⟩
       case measure => simp [intOf]; omega
      ·
       have dd : decide (m < s) = false := decide_eq_false hd
       have HE2 := Lib.hid (lineB_hash (a := s) (t := m) (by omega))
       generalize lineB s m = b at HE2 hb0 hb1 ⊢
       clear hd hsj htj
       go_wp2
       go_quiet (fail)
       go_wp2
       clear hwr hwm
       go_roundw
       case rel => exact ⟨m + 1, by omega, by go_num, by rw [← HE2.out], by repeat (first | exact HB.out | apply pw_below_drewN)⟩
       case measure => simp [intOf]; omega
     ·
      obtain rfl : m = s + tm := by omega
      have dm : decide (((s + tm : Nat) : Int) < (s : Int) + (tm : Int)) = false := decide_eq_false (by omega)
      rw [← HLN.out]
      have HB := Lib.hid (HOO.out.2.trans (hBi.mono HOO.out.2.size))
      have HOI := Lib.hid (Kd.R_below HOO.out.1 hBi)
      clear hBi hsj htj
      generalize lnS g st j = y at HE ⊢
      generalize hfl : (List.range j).map (lnS g st) = fl at HE HOI
      have hfll : fl.length < 1000000 := by rw [← hfl]; simp; omega
      clear hfl
      go_wp2
      go_quiet (fail)
      have hOQ := Kd.R_below HOI.out (pw_below_drewN (Below.refl _ _) nq)
      have hBQ := pw_below_drewN HB.out nq
      go_wp2_with (at_builtin; refine ap_str (w0 := w) w.heap.size rfl _ _ rfl u9 fl y rfl rfl rfl hOQ hBQ hBQ.size hfll ?_; intro v1 w2 hO3 hB3 hg3 hat3; clear hg3 hat3)
      clear hwr
      go_roundw
      case rel => exact ⟨j + 1, by omega, by go_num, by rw [HE.out]; exact hO3, hB3⟩
      case measure => simp [intOf]; omega
   ·
    obtain rfl : j = g.length := by omega
    have hjj : decide ((g.length : Int) < (g.length : Int)) = false := decide_eq_false (by omega)
    go_wp2
    go_ret
    exact ⟨_, rfl, by rw [HF.out]; exact hO, hB⟩
set_option maxRecDepth 100000 in
set_option maxHeartbeats 8000000 in
theorem ChartLines_impl (A : Option Addr) (c : Nat) (g : List Tk) (A1 : Option Addr) (c1 : Nat) (rm : List Int) (wk : Int) (A2 : Option Addr) (c2 : Nat) (st : List Int) (w : World) (hr : kTk.C w A g.length g) (hr1 : (Kd.int .i64).C w A1 rm.length rm) (hr2 : (Kd.int .i64).C w A2 st.length st) (hT : Tab w) :
  Calls Tryd.prog 32 #[.slice A g.length c, .slice A1 rm.length c1, .int .i64 wk, .slice A2 st.length c2] w fun e w' => ∃ v, e = .returned v ∧ Kd.R Kd.string 9 w' w.heap.size (fun _ => True) v (chS g rm wk st) ∧ Below w.heap.size w w' := by
 cases h : vStB g rm wk st with
 | true =>
  have HP := Lib.hid (startsIn_yes A c g A1 c1 rm wk A2 c2 st h w hr hr1 hr2 hT)
  have HV := Lib.hid (vSt_valid h)
  have HF : Hid (chS g rm wk st = (List.range st.length).map (lnS g st)) := Lib.hid (by rw [HV.out.len]; exact if_pos h)
  have HR2 := Lib.hid hr2
  have hl8 : st.length ≤ 8 := by rw [HV.out.len]; exact HV.out.ok.1
  clear hr hr1 hr2 hT h
  go_enter Tryd.func32, Tryd.ntmps32
  go_wp2_with (go_at_call 62; refine HP.out.mono ?_; rintro e w1 ⟨C, ns, rfl, hg, hG, hB1⟩; have HB1 := Lib.hid hB1; have HR3 := Lib.hid (Kd.C_below HR2.out hB1); clear hg hB1; obtain ⟨Ag, cg, An, cn, Ao, co, vb, va, h1, h2, _, _⟩ := hG; have cC := blk_cell h1 0; simp at cC; have HR := Lib.hid h2; clear h1 h2)
  have HC := Lib.hid cC
  clear cC
  have hO0 : Kd.R Kd.string 9 (w1.alloc (.cells #[] 9)) w1.heap.size (fun _ => True) (.slice (some ⟨w1.heap.size, 0, none⟩) 0 0) [] := ⟨fun _ _ => trivial, [], World.ownsRow_lit (base := w1.heap.size) (size := 1) w1 #[] 0 (Nat.le_refl _) (by simp [maxLen]) rfl, Reps.none _ _⟩
  go_loopw [11, 27] (fun out i wr => ∃ j, j ≤ st.length ∧ i = .int .i64 (j : Nat) ∧ Kd.R Kd.string 9 wr w1.heap.size (fun _ => True) out ((List.range j).map (lnS g st)) ∧ Below w1.heap.size w1 wr) (fun _ i _ => st.length - (intOf i).toNat)
  case atStart => exact ⟨0, Nat.zero_le _, rfl, hO0, (Below.refl _ _).alloc (Nat.le_refl _) _⟩
  case round =>
   clear hO0
   obtain ⟨j, hj, rfl, hO, hB⟩ := hrel
   by_cases hjl : j < st.length
   ·
    have hjg : j < g.length := by rw [← HV.out.len]; exact hjl
    obtain ⟨ad, A4, c4, rfl, hc0, _⟩ := at_Tk HR.out j hjg
    have HC0 := hc0
    replace hc0 := pw_cell_below hB hc0
    obtain ⟨ads, rfl, cs⟩ := at_num (Kd.C_below HR3.out hB) j hjl
    have cC := pw_cell_below hB HC.out
    have hjj : decide ((j : Int) < (st.length : Int)) = true := decide_eq_true (by omega)
    have hji : (j : Int) < (g.length : Int) := by omega
    have hjsi : (j : Int) < (st.length : Int) := by omega
    have hsj := HV.out.sok j
    have hbj := (HV.out.b j hjg).1
    have htj := HV.out.ok.2.1 j
    have HE := Lib.hid (range_snocC (lnS g st) j)
    have HLN : Hid (lnS g st j = lineB (st.getD j 0).toNat ((st.getD j 0).toNat + (rdTk g j).f0.toNat)) := Lib.hid rfl
    obtain ⟨s, hs⟩ : ∃ s : Nat, st.getD j 0 = (s : Nat) := ⟨(st.getD j 0).toNat, by omega⟩
    obtain ⟨tm, htm⟩ : ∃ tm : Nat, (rdTk g j).f0 = (tm : Nat) := ⟨(rdTk g j).f0.toNat, by omega⟩
    rw [hs, htm, Int.toNat_natCast, Int.toNat_natCast] at HLN
    rw [hs] at cs hsj
    rw [htm] at hc0 HC0 htj
    replace HC0 := Lib.hid HC0
    have h1 : (⟨(Lib.repeatL [46] s).toArray⟩ : ByteArray).size = s := by show (Lib.repeatL [46] s).toArray.size = s; rw [List.size_toArray, Lib.repeatL_length]; simp
    have h2 : (⟨(Lib.repeatL [35] tm).toArray⟩ : ByteArray).size = tm := by show (Lib.repeatL [35] tm).toArray.size = tm; rw [List.size_toArray, Lib.repeatL_length]; simp
    have h3 := lineB_rep s tm
    rw [← HLN.out] at h3
    have HD1 := fun (W : World) => Tryd.strings_Repeat ⟨#[46]⟩ s W (by omega) (by show 1 * s ≤ _; omega)
    have HD2 := fun (W : World) => Tryd.strings_Repeat ⟨#[35]⟩ tm W (by omega) (by show 1 * tm ≤ _; omega)
    rw [show (⟨#[46]⟩ : ByteArray).data.toList = [46] from rfl] at HD1
    rw [show (⟨#[35]⟩ : ByteArray).data.toList = [35] from rfl] at HD2
    generalize (⟨(Lib.repeatL [46] s).toArray⟩ : ByteArray) = x1 at h1 h3 HD1
    generalize (⟨(Lib.repeatL [35] tm).toArray⟩ : ByteArray) = x2 at h2 h3 HD2
    have hz : x1.size + x2.size ≤ 9223372036854775807 := by omega
    have hz2 : ¬ 9223372036854775807 < x1.size + x2.size := by omega
    have HC1 : Hid (∀ W, (W.cell? ⟨C, 0, none⟩ = some (.slice (some ad) g.length cg) ∧ W.cell? (ad.add (j * 4)) = some (.int .i64 (tm : Nat)) ∧ Below w1.heap.size w1 W ∧ Below wr.heap.size wr W) → Calls Tryd.prog 73 #[.string ⟨#[46]⟩, .int .i64 (s : Nat)] W fun e w' =>
      e = .returned (.string x1) ∧ w'.cell? ⟨C, 0, none⟩ = some (.slice (some ad) g.length cg) ∧ w'.cell? (ad.add (j * 4)) = some (.int .i64 (tm : Nat)) ∧ Below w1.heap.size w1 w' ∧ Below wr.heap.size wr w') := Lib.hid (by
     rintro W ⟨a1, a2, a4, a3⟩
     refine (HD1 W).mono ?_
     rintro e w' ⟨he, hb⟩
     exact ⟨he, pw_cell_below hb a1, pw_cell_below hb a2, a4.trans (hb.mono a4.size), a3.trans (hb.mono a3.size)⟩)
    have HC2 : Hid (∀ W, (W.cell? ⟨C, 0, none⟩ = some (.slice (some ad) g.length cg) ∧ W.cell? (ad.add (j * 4)) = some (.int .i64 (tm : Nat)) ∧ Below w1.heap.size w1 W ∧ Below wr.heap.size wr W) → Calls Tryd.prog 73 #[.string ⟨#[35]⟩, .int .i64 (tm : Nat)] W fun e w' =>
      e = .returned (.string x2) ∧ w'.cell? ⟨C, 0, none⟩ = some (.slice (some ad) g.length cg) ∧ w'.cell? (ad.add (j * 4)) = some (.int .i64 (tm : Nat)) ∧ Below w1.heap.size w1 w' ∧ Below wr.heap.size wr w') := Lib.hid (by
     rintro W ⟨a1, a2, a4, a3⟩
     refine (HD2 W).mono ?_
     rintro e w' ⟨he, hb⟩
     exact ⟨he, pw_cell_below hb a1, pw_cell_below hb a2, a4.trans (hb.mono a4.size), a3.trans (hb.mono a3.size)⟩)
    have HX3 := Lib.hid h3
    have HO := Lib.hid hO
    have HB := Lib.hid hB
    have hBD := hB.drew
    have hBR : Below wr.heap.size wr wr.drew := (Below.refl _ wr).drew
    have HBR := Lib.hid hBR
    have hfl : ((List.range j).map (lnS g st)).length < 1000000 := by simp; omega
    generalize (List.range j).map (lnS g st) = fl at HE HO hfl
    have HBD := Lib.hid hBD
    have hpre : wr.drew.cell? ⟨C, 0, none⟩ = some (.slice (some ad) g.length cg) ∧ wr.drew.cell? (ad.add (j * 4)) = some (.int .i64 (tm : Nat)) ∧ Below w1.heap.size w1 wr.drew ∧ Below wr.heap.size wr wr.drew := ⟨cC, hc0, hBD, hBR⟩
    have HPRE := Lib.hid hpre
    clear hpre
    clear hs htm HD1 HD2 h1 h2 h3 hO hB hsj hbj htj hBD hBR
    go_wp2
    go_region_held3 (fun w' => w'.cell? ⟨C, 0, none⟩ = some (.slice (some ad) g.length cg) ∧ w'.cell? (ad.add (j * 4)) = some (.int .i64 (tm : Nat)) ∧ Below w1.heap.size w1 w') (first | exact ⟨cC, hc0, HBD.out⟩ | exact ⟨pw_cell_below hB3 HC.out, pw_cell_below hB3 HC0.out, hB3⟩ | exact ⟨pw_cell_below ((Below.refl _ W10).alloc (Nat.le_refl _) _) hT1, pw_cell_below ((Below.refl _ W10).alloc (Nat.le_refl _) _) hT2, hT3.alloc hT3.size _⟩ | go_keep | (trace_state; fail))
     (first | (go_at_call 73; with_reducible refine (HC1.out _ ?_).mono ?_; (first | assumption | exact HPRE.out | (refine ⟨?_, ?_, ?_, ?_⟩ <;> assumption) | (trace_state; fail)); rintro e W9 ⟨rfl, hS1, hS2, hS3, hS4⟩) | (go_at_call 73; with_reducible refine (HC2.out _ ?_).mono ?_; (first | assumption | (refine ⟨?_, ?_, ?_, ?_⟩ <;> assumption) | (trace_state; fail)); rintro e W10 ⟨rfl, hT1, hT2, hT3, hT4⟩) | (refine ap_str_step (w0 := w1) (N := W10.heap.size) w1.heap.size (by kernel_rfl) _ _ rfl u11 fl (x1 ++ x2) rfl rfl rfl (Kd.R_below HO.out hT4) hT3 hT3.size hfl ?_; intro v1 w2 hO3 hB3 hg3 hat3))
    go_wp2
    go_roundw
    case rel => exact ⟨j + 1, by omega, by go_num, by rw [HE.out, ← HX3.out]; exact hO3, hB3⟩
    case measure => simp [intOf]; omega
   ·
    obtain rfl : j = st.length := by omega
    have hjj : decide ((st.length : Int) < (st.length : Int)) = false := decide_eq_false (by omega)
    go_wp2
    go_ret
    exact ⟨_, rfl, by rw [HF.out]; exact Kd.R_lower hO HB1.out.size, HB1.out.trans (hB.mono HB1.out.size)⟩
 | false =>
  have HF : Hid (chS g rm wk st = []) := Lib.hid (by unfold chS; rw [h]; rfl)
  have HP := Lib.hid (startsIn_no A c g A1 c1 rm wk A2 c2 st h w hr hr1 hr2 hT)
  clear hr hr1 hr2 hT h
  go_enter Tryd.func32, Tryd.ntmps32
  go_wp2_with (go_at_call 62; refine HP.out.mono ?_; rintro e w1 ⟨rfl, hB1⟩)
  go_ret
  exact ⟨_, rfl, by rw [HF.out]; exact R_nilS _ _, hB1⟩
end Go.Proofs.YtlapphhcficbjaaDoor

namespace Go.Proofs.YtlapphhcficbjaaDoor
set_option linter.unusedVariables false
set_option linter.unusedSimpArgs false
open Go.RowKit Go.Shelf Bits
open Go.Proofs.YtlapphhcficbjaaDoorW.PrintWords Go.Proofs.YtlapphhcficbjaaDoorW.PrintLast Go.Proofs.YtlapphhcficbjaaDoorW.PrintMore
attribute [local go_sem] Oper.semAt_some
theorem bytes_beq (x : ByteArray) : (x == x) = true := by
 obtain ⟨d⟩ := x
 show (d == d) = true
 exact beq_self_eq_true d
theorem bytes_bne (x : ByteArray) : (x != x) = false := by
 unfold bne
 rw [bytes_beq]
 rfl
set_option maxRecDepth 100000 in
set_option maxHeartbeats 2000000 in
theorem equalTexts_same (A : Option Addr) (c : Nat) (a : List ByteArray) (B : Option Addr) (d : Nat) (w : World) (hr : Kd.string.C w A a.length a) (hr' : Kd.string.C w B a.length a) :
  Calls Tryd.prog 41 #[.slice A a.length c, .slice B a.length d] w fun e w' => e = .returned (.bool true) ∧ Below w.heap.size w w' := by
 have HR := Lib.hid hr
 have HR' := Lib.hid hr'
 have hla := (C_len hr).2
 clear hr hr'
 have dl : ((a.length : Int) != (a.length : Int)) = false := bne_self_eq_false _
 go_enter Tryd.func41, Tryd.ntmps41
 go_wp2
 go_loopw [5] (fun i wr => ∃ j, j ≤ a.length ∧ i = .int .i64 (j : Nat) ∧ Below w.heap.size w wr) (fun i _ => a.length - (intOf i).toNat)
 case atStart => exact ⟨0, Nat.zero_le _, rfl, Below.refl _ _⟩
 case round =>
  obtain ⟨j, hj, rfl, hB⟩ := hrel
  by_cases hjl : j < a.length
  ·
   have hjj : decide ((j : Int) < (a.length : Int)) = true := decide_eq_true (by omega)
   have hja : (j : Int) < (a.length : Int) := by omega
   obtain ⟨ad, rfl, cx⟩ := at_str (Kd.C_below HR.out hB) j hjl
   obtain ⟨bd, rfl, cy⟩ := at_str (Kd.C_below HR'.out hB) j hjl
   generalize a.getD j ByteArray.empty = x at cx cy
   have dn := bytes_bne x
   have de := bytes_beq x
   have HB := Lib.hid hB
   clear hB
   go_wp2
   (try go_quiet (fail))
   (try go_wp2)
   go_roundw
   case rel => exact ⟨j + 1, by omega, by go_num, by repeat (first | exact HB.out | apply pw_below_drewN)⟩
   case measure => simp [intOf]; omega
  ·
   obtain rfl : j = a.length := by omega
   have hjj : decide ((a.length : Int) < (a.length : Int)) = false := decide_eq_false (by omega)
   go_wp2
   go_ret
   exact ⟨rfl, hB⟩
set_option maxRecDepth 100000 in
set_option maxHeartbeats 2000000 in
theorem eqStringS_same (A : Option Addr) (c : Nat) (a : List ByteArray) (B : Option Addr) (d : Nat) (w : World) (hr : Kd.string.C w A a.length a) (hr' : Kd.string.C w B a.length a) :
  Calls Tryd.prog 33 #[.slice A a.length c, .slice B a.length d] w fun e w' => e = .returned (.bool true) ∧ Below w.heap.size w w' := by
 have HR := Lib.hid hr
 have HR' := Lib.hid hr'
 have hla := (C_len hr).2
 clear hr hr'
 have dl : ((a.length : Int) != (a.length : Int)) = false := bne_self_eq_false _
 go_enter Tryd.func33, Tryd.ntmps33
 go_wp2
 go_loopw [5] (fun i wr => ∃ j, j ≤ a.length ∧ i = .int .i64 (j : Nat) ∧ Below w.heap.size w wr) (fun i _ => a.length - (intOf i).toNat)
 case atStart => exact ⟨0, Nat.zero_le _, rfl, Below.refl _ _⟩
 case round =>
  obtain ⟨j, hj, rfl, hB⟩ := hrel
  by_cases hjl : j < a.length
  ·
   have hjj : decide ((j : Int) < (a.length : Int)) = true := decide_eq_true (by omega)
   have hja : (j : Int) < (a.length : Int) := by omega
   obtain ⟨ad, rfl, cx⟩ := at_str (Kd.C_below HR.out hB) j hjl
   obtain ⟨bd, rfl, cy⟩ := at_str (Kd.C_below HR'.out hB) j hjl
   generalize a.getD j ByteArray.empty = x at cx cy
   have dn := bytes_bne x
   have de := bytes_beq x
   have HB := Lib.hid hB
   clear hB
   go_wp2
   (try go_quiet (fail))
   (try go_wp2)
   go_roundw
   case rel => exact ⟨j + 1, by omega, by go_num, by repeat (first | exact HB.out | apply pw_below_drewN)⟩
   case measure => simp [intOf]; omega
  ·
   obtain rfl : j = a.length := by omega
   have hjj : decide ((a.length : Int) < (a.length : Int)) = false := decide_eq_false (by omega)
   go_wp2
   go_ret
   exact ⟨rfl, hB⟩
end Go.Proofs.YtlapphhcficbjaaDoor
