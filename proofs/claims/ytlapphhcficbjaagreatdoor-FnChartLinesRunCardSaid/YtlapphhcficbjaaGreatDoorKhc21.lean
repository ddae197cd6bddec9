/- Parts of the proof, laid as one text by a program of mine. -/
import Derived.Test.YtlapphhcficbjaaGreatDoorKhc15
import Derived.Test.YtlapphhcficbjaaGreatDoorKhc20
import Derived.Deep.RegionHeld3
import Derived.Deep.RegionWith
import Derived.Test.YtlapphhcficbjaaGreatDoorKhc17
import Derived.Test.YtlapphhcficbjaaGreatDoorKhc13
namespace Go.Proofs.YtlapphhcficbjaaGreatDoor
set_option linter.unusedVariables false
set_option linter.unusedSimpArgs false
open Go.RowKit Go.Shelf Bits
open Go.Proofs.YtlapphhcficbjaaGreatDoorW.PrintWords Go.Proofs.YtlapphhcficbjaaGreatDoorW.PrintLast Go.Proofs.YtlapphhcficbjaaGreatDoorW.PrintMore
attribute [local go_sem] Oper.semAt_some
theorem infoStr : (Tryz.prog.info? 9).map (fun i => (i.zero, i.size, i.bytes)) = some (some (.string ByteArray.empty), 1, 16) := by kernel_rfl
theorem C_nilS (w : World) : Kd.string.C w none ([] : List ByteArray).length [] := Kd.C_nil _ _
theorem R_nilS (w : World) (base : Nat) : Kd.R Kd.string 9 w base (fun _ => True) (.slice none 0 0) [] := Kd.R_nil _ _ _ _ _
section
variable {ops : Array Oper} {o : Oper} {rest : List Oper} {a : Act} {Q : Exit → Act → World → Prop} {w0 W : World}
theorem ap_str (base : Nat) (hgd : o.guard = none) (s x : Operand) (ho : o.op = .call { callee := .builtin .append, args := #[s, x], argTypes := #[27, 27] })
  (v : Value) (xs : List ByteArray) (y : ByteArray) (hs : a.eval s = v) {N : Nat} (hx : a.eval x = .slice (some ⟨N, 0, none⟩) 1 1) (hN : N = W.heap.size)
  (HO : Kd.R Kd.string 9 W base (fun _ => True) v xs) (HB : Below base w0 W) (hbase : base ≤ W.heap.size) (hl : xs.length < 1000000)
  (h : ∀ v1 w1, Kd.R Kd.string 9 w1 base (fun _ => True) v1 (xs ++ [y]) → Below base w0 w1 → (W.alloc (.cells #[.string y] 9)).grownBy w1 v.ownBlock → (v1.ownBlock = v.ownBlock ∨ ∃ b, v1.ownBlock = some b ∧ (W.alloc (.cells #[.string y] 9)).heap.size ≤ b) → wpList Tryz.prog ops Q rest (a.put o.dst v1) w1) :
  wpList Tryz.prog ops Q (o :: rest) a (W.alloc (.cells #[.string y] 9)) := by
 have hBa : Below W.heap.size W (W.alloc (.cells #[.string y] 9)) := (Below.refl _ _).alloc (Nat.le_refl _) _
 refine Kd.R_append_rows Kd.string base hgd s x 27 9 (.string ByteArray.empty) 16 ho Tryz.underlying27 infoStr rfl (by decide) (by decide)
  v xs [y] (some ⟨N, 0, none⟩) 1 1 (fun _ => True) (fun _ => False) hs hx (Kd.R_below HO hBa) (Rr := Kd.string.K (W.alloc (.cells #[.string y] 9))) ?_ (fun p cs hp => ?_) (fun _ hk => hk.elim) (fun _ _ => trivial) (HB.trans (hBa.mono hbase)) (by have := hBa.size; omega) (by omega) h
 ·
  subst hN
  refine ⟨rfl, by omega, fun _ => ⟨_, rfl, fun j p hj => ⟨[.string p], rfl, rfl, fun i u hu => ?_⟩⟩⟩
  have hblk := World.alloc_heap_new W (.cells #[.string y] 9)
  have e2 : ∀ q, (⟨W.heap.size, 0, none⟩ : Addr).add q = ⟨W.heap.size, q, none⟩ := fun q => by
   unfold Addr.add
   split <;> simp_all
  rw [e2]
  have hc := blk_cell hblk (j * Kd.string.sz + i)
  rw [hc]
  rcases j with _ | j
  ·
   cases hj
   rcases i with _ | i
   ·
    simpa using hu
   ·
    simp at hu
  ·
   simp at hj
 ·
  exact hp
theorem ap_str_step {Kc : Act → World → Prop} (base : Nat) (hgd : Region.wanted o (yielded ops a.tmps) = true) (s x : Operand) (ho : o.op = .call { callee := .builtin .append, args := #[s, x], argTypes := #[27, 27] })
  (v : Value) (xs : List ByteArray) (y : ByteArray) (hs : a.eval s = v) {N : Nat} (hx : a.eval x = .slice (some ⟨N, 0, none⟩) 1 1) (hN : N = W.heap.size)
  (HO : Kd.R Kd.string 9 W base (fun _ => True) v xs) (HB : Below base w0 W) (hbase : base ≤ W.heap.size) (hl : xs.length < 1000000)
  (h : ∀ v1 w1, Kd.R Kd.string 9 w1 base (fun _ => True) v1 (xs ++ [y]) → Below base w0 w1 → (W.alloc (.cells #[.string y] 9)).grownBy w1 v.ownBlock → (v1.ownBlock = v.ownBlock ∨ ∃ b, v1.ownBlock = some b ∧ (W.alloc (.cells #[.string y] 9)).heap.size ≤ b) → Kc (a.put o.dst v1) w1) :
  if Region.wanted o (yielded ops a.tmps) = true then Oper.wp Tryz.prog o a (W.alloc (.cells #[.string y] 9)) Kc Q else Kc (a.put o.dst undef) (W.alloc (.cells #[.string y] 9)) := by
 have hBa : Below W.heap.size W (W.alloc (.cells #[.string y] 9)) := (Below.refl _ _).alloc (Nat.le_refl _) _
 refine Kd.R_append_rows_step Kd.string base hgd s x 27 9 (.string ByteArray.empty) 16 ho Tryz.underlying27 infoStr rfl (by decide) (by decide)
  v xs [y] (some ⟨N, 0, none⟩) 1 1 (fun _ => True) (fun _ => False) hs hx (Kd.R_below HO hBa) (Rr := Kd.string.K (W.alloc (.cells #[.string y] 9))) ?_ (fun p cs hp => ?_) (fun _ hk => hk.elim) (fun _ _ => trivial) (HB.trans (hBa.mono hbase)) (by have := hBa.size; omega) (by omega) h
 ·
  subst hN
  refine ⟨rfl, by omega, fun _ => ⟨_, rfl, fun j p hj => ⟨[.string p], rfl, rfl, fun i u hu => ?_⟩⟩⟩
  have hblk := World.alloc_heap_new W (.cells #[.string y] 9)
  have e2 : ∀ q, (⟨W.heap.size, 0, none⟩ : Addr).add q = ⟨W.heap.size, q, none⟩ := fun q => by
   unfold Addr.add
   split <;> simp_all
  rw [e2]
  have hc := blk_cell hblk (j * Kd.string.sz + i)
  rw [hc]
  rcases j with _ | j
  ·
   cases hj
   rcases i with _ | i
   ·
    simpa using hu
   ·
    simp at hu
  ·
   simp at hj
 ·
  exact hp
end
theorem at_str {w : World} {A : Option Addr} {n : Nat} {xs : List ByteArray} (h : Kd.string.C w A n xs) (i : Nat) (h1 : i < n) : ∃ ad, A = some ad ∧ w.cell? (ad.add i) = some (.string (xs.getD i ByteArray.empty)) := by
 obtain ⟨ad, c, e, hc, hK, hc0⟩ := Kd.C_get h ByteArray.empty (i : Int) (by omega) (by omega)
 refine ⟨ad, e, ?_⟩
 have := hc0 0 (.string (xs.getD i ByteArray.empty)) (by rw [hK]; rfl)
 simpa [Kd.string, Kd.scalar] using this
set_option maxRecDepth 100000 in
set_option maxHeartbeats 4000000 in
theorem sChartLines_calls (A : Option Addr) (c : Nat) (g : List Tk) (A1 : Option Addr) (c1 : Nat) (rm : List Int) (wk : Int) (A2 : Option Addr) (c2 : Nat) (st : List Int) (w : World) (hr : kTk.C w A g.length g) (hr1 : (Kd.int .i64).C w A1 rm.length rm) (hr2 : (Kd.int .i64).C w A2 st.length st) :
  Calls Tryz.prog 9 #[.slice A g.length c, .slice A1 rm.length c1, .int .i64 wk, .slice A2 st.length c2] w fun e w' => ∃ v, e = .returned v ∧ Kd.R Kd.string 9 w' w.heap.size (fun _ => True) v (chS g rm wk st) ∧ Below w.heap.size w w' := by
 have HBa : Hid (Below w.heap.size w (w.alloc (.cells #[] 9))) := Lib.hid ((Below.refl _ _).alloc (Nat.le_refl _) _)
 have HO : Hid (Kd.R Kd.string 9 (w.alloc (.cells #[] 9)) w.heap.size (fun _ => True) (.slice (some ⟨w.heap.size, 0, none⟩) 0 0) []) := Lib.hid ⟨fun _ _ => trivial, [], World.ownsRow_lit (base := w.heap.size) (size := 1) w #[] 0 (Nat.le_refl _) (by simp [maxLen]) rfl, Reps.none _ _⟩
 have hra := Kd.C_below hr HBa.out
 have hrb := Kd.C_below hr1 HBa.out
 have hrc := Kd.C_below hr2 HBa.out
 cases h : vStB g rm wk st with
 | false =>
  have HF : Hid (chS g rm wk st = []) := Lib.hid (by unfold chS; rw [h]; rfl)
  have HP := Lib.hid (validStarts_is false A c g A1 c1 rm wk A2 c2 st (Lib.hid h) _ hra hrb hrc)
  clear hr hr1 hr2 h hra hrb hrc
  go_enter Tryz.func9, Tryz.ntmps9
  go_wp2_with (go_at_call 26; refine HP.out.mono ?_; rintro e w1 ⟨rfl, hB1⟩)
  go_ret
  exact ⟨_, rfl, by rw [HF.out]; exact R_nilS _ _, HBa.out.trans (hB1.mono HBa.out.size)⟩
 | true =>
  have HF : Hid (chS g rm wk st = (List.range g.length).map (lnS g st)) := Lib.hid (if_pos h)
  have HP := Lib.hid (validStarts_is true A c g A1 c1 rm wk A2 c2 st (Lib.hid h) _ hra hrb hrc)
  have HV := Lib.hid (vSt_valid h)
  have HR := Lib.hid hr
  have HR2 := Lib.hid hr2
  have h8 := HV.out.ok.1
  have HL := Lib.hid HV.out.len
  clear hr hr1 hr2 h hra hrb hrc
  go_enter Tryz.func9, Tryz.ntmps9
  go_wp2_with (go_at_call 26; refine HP.out.mono ?_; rintro e w1 ⟨rfl, hB1⟩; have HO1 := Lib.hid (Kd.R_below HO.out hB1); have HB1 := Lib.hid (HBa.out.trans (hB1.mono HBa.out.size)); clear hB1)
  go_loopw [9, 10] (fun out i wr => ∃ j, j ≤ g.length ∧ i = .int .i64 (j : Nat) ∧ Kd.R Kd.string 9 wr w.heap.size (fun _ => True) out ((List.range j).map (lnS g st)) ∧ Below w.heap.size w wr) (fun _ i _ => g.length - (intOf i).toNat)
  case atStart => exact ⟨0, Nat.zero_le _, rfl, HO1.out, HB1.out⟩
  case round =>
   clear HO1 HB1 HO HBa
   obtain ⟨j, hj, rfl, hO, hB⟩ := hrel
   by_cases hjl : j < g.length
   ·
    have hjs : j < st.length := by rw [HL.out]; exact hjl
    obtain ⟨ad, A4, c4, rfl, hc0, _⟩ := at_Tk (Kd.C_below HR.out hB) j hjl
    obtain ⟨ads, rfl, cs⟩ := at_num (Kd.C_below HR2.out hB) j hjs
    have hjj : decide ((j : Int) < (g.length : Int)) = true := decide_eq_true (by omega)
    have hji : (j : Int) < (g.length : Int) := by omega
    have hjsi : (j : Int) < (st.length : Int) := by omega
    have hsj := HV.out.sok j
    have hbj := (HV.out.b j hjl).1
    have htj := HV.out.ok.2.1 j
    have HE := Lib.hid (range_snocC (lnS g st) j)
    have HLN : Hid (lnS g st j = lineB (st.getD j 0).toNat ((st.getD j 0).toNat + (rdTk g j).f0.toNat)) := Lib.hid rfl
    obtain ⟨s, hs⟩ : ∃ s : Nat, st.getD j 0 = (s : Nat) := ⟨(st.getD j 0).toNat, by omega⟩
    obtain ⟨tm, htm⟩ : ∃ tm : Nat, (rdTk g j).f0 = (tm : Nat) := ⟨(rdTk g j).f0.toNat, by omega⟩
    rw [hs, htm] at HLN
    rw [hs] at cs hsj
    rw [htm] at hc0 htj
    rw [Int.toNat_natCast, Int.toNat_natCast] at HLN
    have hwr : IntKind.i64.wrap ((s : Int) + (tm : Int)) = (s : Int) + (tm : Int) := IntWalk.i64_in _ (by omega)
    have HOO := Lib.hid (And.intro hO hB)
    have HST := Lib.hid (And.intro hsj htj)
    clear hs htm hO hB hsj htj hbj
    go_wp2
    go_loopw [11, 12] (fun L t wi => ∃ m : Nat, m ≤ s + tm ∧ t = .int .i64 (m : Nat) ∧ L = .string (lineB s m) ∧ Below wr.heap.size wr wi) (fun _ t _ => s + tm - (intOf t).toNat)
    case atStart => exact ⟨0, Nat.zero_le _, rfl, by rw [lineB_zero], Below.refl _ _⟩
    case round =>
     obtain ⟨m, hm, rfl, rfl, hBi⟩ := hrel
     have hsj := HST.out.1
     have htj := HST.out.2
     have cs' := pw_cell_below hBi cs
     have hc0' := pw_cell_below hBi hc0
     clear cs hc0
     by_cases hms : m < s + tm
     ·
      have dm : decide ((m : Int) < (s : Int) + (tm : Int)) = true := decide_eq_true (by omega)
      have hbz := lineB_size s m
      have hb0 : (lineB s m).size ≤ 9223372036854775806 := by omega
      have hb1 : (lineB s m).size + 1 ≤ 9223372036854775807 := by omega
      have hwm : IntKind.i64.wrap ((m : Int) + 1) = (m : Int) + 1 := IntWalk.i64_in _ (by clear hwr; omega)
      have HB := Lib.hid hBi
      clear hbz hBi
      by_cases hd : m < s
      ·
       have dd : decide (m < s) = true := decide_eq_true hd
       have HE2 := Lib.hid (lineB_dot (t := m) hd)
       generalize lineB s m = b at HE2 hb0 hb1 ⊢
       clear hd hsj htj
       go_wp2
       go_quiet (fail)
       go_wp2
       clear hwr hwm
       go_roundw
       case rel => exact ⟨m + 1, by omega, by go_num, by rw [← HE2.out], by repeat (first | exact HB.out | apply pw_below_drewN)⟩
       case measure => simp [intOf]; omega
      ·
       have dd : decide (m < s) = false := decide_eq_false hd
       have HE2 := Lib.hid (lineB_hash (a := s) (t := m) (by omega))
       generalize lineB s m = b at HE2 hb0 hb1 ⊢
       clear hd hsj htj
       go_wp2
       go_quiet (fail)
       go_wp2
       clear hwr hwm
       go_roundw
       case rel => exact ⟨m + 1, by omega, by go_num, by rw [← HE2.out], by repeat (first | exact HB.out | apply pw_below_drewN)⟩
       case measure => simp [intOf]; omega
     ·
      obtain rfl : m = s + tm := by omega
      have dm : decide (((s + tm : Nat) : Int) < (s : Int) + (tm : Int)) = false := decide_eq_false (by omega)
      rw [← HLN.out]
      have HB := Lib.hid (HOO.out.2.trans (hBi.mono HOO.out.2.size))
      have HOI := Lib.hid (Kd.R_below HOO.out.1 hBi)
      clear hBi hsj htj
      generalize lnS g st j = y at HE ⊢
      generalize hfl : (List.range j).map (lnS g st) = fl at HE HOI
      have hfll : fl.length < 1000000 := by rw [← hfl]; simp; omega
      clear hfl
      go_wp2
      go_quiet (fail)
      have hOQ := Kd.R_below HOI.out (pw_below_drewN (Below.refl _ _) nq)
      have hBQ := pw_below_drewN HB.out nq
      go_wp2_with (at_builtin; refine ap_str (w0 := w) w.heap.size rfl _ _ rfl u9 fl y rfl rfl rfl hOQ hBQ hBQ.size hfll ?_; intro v1 w2 hO3 hB3 hg3 hat3; clear hg3 hat3)
      clear hwr
      go_roundw
      case rel => exact ⟨j + 1, by omega, by go_num, by rw [HE.out]; exact hO3, hB3⟩
      case measure => simp [intOf]; omega
   ·
    obtain rfl : j = g.length := by omega
    have hjj : decide ((g.length : Int) < (g.length : Int)) = false := decide_eq_false (by omega)
    go_wp2
    go_ret
    exact ⟨_, rfl, by rw [HF.out]; exact hO, hB⟩
set_option maxRecDepth 100000 in
set_option maxHeartbeats 8000000 in
theorem ChartLines_impl (A : Option Addr) (c : Nat) (g : List Tk) (A1 : Option Addr) (c1 : Nat) (rm : List Int) (wk : Int) (A2 : Option Addr) (c2 : Nat) (st : List Int) (w : World) (hr : kTk.C w A g.length g) (hr1 : (Kd.int .i64).C w A1 rm.length rm) (hr2 : (Kd.int .i64).C w A2 st.length st) (hT : Tab w) :
  Calls Tryz.prog 7 #[.slice A g.length c, .slice A1 rm.length c1, .int .i64 wk, .slice A2 st.length c2] w fun e w' => ∃ v, e = .returned v ∧ Kd.R Kd.string 9 w' w.heap.size (fun _ => True) v (chS g rm wk st) ∧ Below w.heap.size w w' := by
 cases h : vStB g rm wk st with
 | true =>
  have HP := Lib.hid (startsIn_yes A c g A1 c1 rm wk A2 c2 st h w hr hr1 hr2 hT)
  have HV := Lib.hid (vSt_valid h)
  have HF : Hid (chS g rm wk st = (List.range st.length).map (lnS g st)) := Lib.hid (by rw [HV.out.len]; exact if_pos h)
  have HR2 := Lib.hid hr2
  have hl8 : st.length ≤ 8 := by rw [HV.out.len]; exact HV.out.ok.1
  clear hr hr1 hr2 hT h
  go_enter Tryz.func7, Tryz.ntmps7
  go_wp2_with (go_at_call 24; refine HP.out.mono ?_; rintro e w1 ⟨C, ns, rfl, hg, hG, hB1⟩; have HB1 := Lib.hid hB1; have HR3 := Lib.hid (Kd.C_below HR2.out hB1); clear hg hB1; obtain ⟨Ag, cg, An, cn, Ao, co, vb, va, h1, h2, _, _⟩ := hG; have cC := blk_cell h1 0; simp at cC; have HR := Lib.hid h2; clear h1 h2)
  have HC := Lib.hid cC
  clear cC
  have hO0 : Kd.R Kd.string 9 (w1.alloc (.cells #[] 9)) w1.heap.size (fun _ => True) (.slice (some ⟨w1.heap.size, 0, none⟩) 0 0) [] := ⟨fun _ _ => trivial, [], World.ownsRow_lit (base := w1.heap.size) (size := 1) w1 #[] 0 (Nat.le_refl _) (by simp [maxLen]) rfl, Reps.none _ _⟩
  go_loopw [11, 27] (fun out i wr => ∃ j, j ≤ st.length ∧ i = .int .i64 (j : Nat) ∧ Kd.R Kd.string 9 wr w1.heap.size (fun _ => True) out ((List.range j).map (lnS g st)) ∧ Below w1.heap.size w1 wr) (fun _ i _ => st.length - (intOf i).toNat)
  case atStart => exact ⟨0, Nat.zero_le _, rfl, hO0, (Below.refl _ _).alloc (Nat.le_refl _) _⟩
  case round =>
   clear hO0
   obtain ⟨j, hj, rfl, hO, hB⟩ := hrel
   by_cases hjl : j < st.length
   ·
    have hjg : j < g.length := by rw [← HV.out.len]; exact hjl
    obtain ⟨ad, A4, c4, rfl, hc0, _⟩ := at_Tk HR.out j hjg
    have HC0 := hc0
    replace hc0 := pw_cell_below hB hc0
    obtain ⟨ads, rfl, cs⟩ := at_num (Kd.C_below HR3.out hB) j hjl
    have cC := pw_cell_below hB HC.out
    have hjj : decide ((j : Int) < (st.length : Int)) = true := decide_eq_true (by omega)
    have hji : (j : Int) < (g.length : Int) := by omega
    have hjsi : (j : Int) < (st.length : Int) := by omega
    have hsj := HV.out.sok j
    have hbj := (HV.out.b j hjg).1
    have htj := HV.out.ok.2.1 j
    have HE := Lib.hid (range_snocC (lnS g st) j)
    have HLN : Hid (lnS g st j = lineB (st.getD j 0).toNat ((st.getD j 0).toNat + (rdTk g j).f0.toNat)) := Lib.hid rfl
    obtain ⟨s, hs⟩ : ∃ s : Nat, st.getD j 0 = (s : Nat) := ⟨(st.getD j 0).toNat, by omega⟩
    obtain ⟨tm, htm⟩ : ∃ tm : Nat, (rdTk g j).f0 = (tm : Nat) := ⟨(rdTk g j).f0.toNat, by omega⟩
    rw [hs, htm, Int.toNat_natCast, Int.toNat_natCast] at HLN
    rw [hs] at cs hsj
    rw [htm] at hc0 HC0 htj
    replace HC0 := Lib.hid HC0
    have h1 : (⟨(Lib.repeatL [46] s).toArray⟩ : ByteArray).size = s := by show (Lib.repeatL [46] s).toArray.size = s; rw [List.size_toArray, Lib.repeatL_length]; simp
    have h2 : (⟨(Lib.repeatL [35] tm).toArray⟩ : ByteArray).size = tm := by show (Lib.repeatL [35] tm).toArray.size = tm; rw [List.size_toArray, Lib.repeatL_length]; simp
    have h3 := lineB_rep s tm
    rw [← HLN.out] at h3
    have HD1 := fun (W : World) => Tryz.strings_Repeat ⟨#[46]⟩ s W (by omega) (by show 1 * s ≤ _; omega)
    have HD2 := fun (W : World) => Tryz.strings_Repeat ⟨#[35]⟩ tm W (by omega) (by show 1 * tm ≤ _; omega)
    rw [show (⟨#[46]⟩ : ByteArray).data.toList = [46] from rfl] at HD1
    rw [show (⟨#[35]⟩ : ByteArray).data.toList = [35] from rfl] at HD2
    generalize (⟨(Lib.repeatL [46] s).toArray⟩ : ByteArray) = x1 at h1 h3 HD1
    generalize (⟨(Lib.repeatL [35] tm).toArray⟩ : ByteArray) = x2 at h2 h3 HD2
    have hz : x1.size + x2.size ≤ 9223372036854775807 := by omega
    have hz2 : ¬ 9223372036854775807 < x1.size + x2.size := by omega
    have HC1 : Hid (∀ W, (W.cell? ⟨C, 0, none⟩ = some (.slice (some ad) g.length cg) ∧ W.cell? (ad.add (j * 4)) = some (.int .i64 (tm : Nat)) ∧ Below w1.heap.size w1 W ∧ Below wr.heap.size wr W) → Calls Tryz.prog 25 #[.string ⟨#[46]⟩, .int .i64 (s : Nat)] W fun e w' =>
      e = .returned (.string x1) ∧ w'.cell? ⟨C, 0, none⟩ = some (.slice (some ad) g.length cg) ∧ w'.cell? (ad.add (j * 4)) = some (.int .i64 (tm : Nat)) ∧ Below w1.heap.size w1 w' ∧ Below wr.heap.size wr w') := Lib.hid (by
     rintro W ⟨a1, a2, a4, a3⟩
     refine (HD1 W).mono ?_
     rintro e w' ⟨he, hb⟩
     exact ⟨he, pw_cell_below hb a1, pw_cell_below hb a2, a4.trans (hb.mono a4.size), a3.trans (hb.mono a3.size)⟩)
    have HC2 : Hid (∀ W, (W.cell? ⟨C, 0, none⟩ = some (.slice (some ad) g.length cg) ∧ W.cell? (ad.add (j * 4)) = some (.int .i64 (tm : Nat)) ∧ Below w1.heap.size w1 W ∧ Below wr.heap.size wr W) → Calls Tryz.prog 25 #[.string ⟨#[35]⟩, .int .i64 (tm : Nat)] W fun e w' =>
      e = .returned (.string x2) ∧ w'.cell? ⟨C, 0, none⟩ = some (.slice (some ad) g.length cg) ∧ w'.cell? (ad.add (j * 4)) = some (.int .i64 (tm : Nat)) ∧ Below w1.heap.size w1 w' ∧ Below wr.heap.size wr w') := Lib.hid (by
     rintro W ⟨a1, a2, a4, a3⟩
     refine (HD2 W).mono ?_
     rintro e w' ⟨he, hb⟩
     exact ⟨he, pw_cell_below hb a1, pw_cell_below hb a2, a4.trans (hb.mono a4.size), a3.trans (hb.mono a3.size)⟩)
    have HX3 := Lib.hid h3
    have HO := Lib.hid hO
    have HB := Lib.hid hB
    have hBD := hB.drew
    have hBR : Below wr.heap.size wr wr.drew := (Below.refl _ wr).drew
    have HBR := Lib.hid hBR
    have hfl : ((List.range j).map (lnS g st)).length < 1000000 := by simp; omega
    generalize (List.range j).map (lnS g st) = fl at HE HO hfl
    have HBD := Lib.hid hBD
    have hpre : wr.drew.cell? ⟨C, 0, none⟩ = some (.slice (some ad) g.length cg) ∧ wr.drew.cell? (ad.add (j * 4)) = some (.int .i64 (tm : Nat)) ∧ Below w1.heap.size w1 wr.drew ∧ Below wr.heap.size wr wr.drew := ⟨cC, hc0, hBD, hBR⟩
    have HPRE := Lib.hid hpre
    clear hpre
    clear hs htm HD1 HD2 h1 h2 h3 hO hB hsj hbj htj hBD hBR
    go_wp2
    go_region_held3 (fun w' => w'.cell? ⟨C, 0, none⟩ = some (.slice (some ad) g.length cg) ∧ w'.cell? (ad.add (j * 4)) = some (.int .i64 (tm : Nat)) ∧ Below w1.heap.size w1 w') (first | exact ⟨cC, hc0, HBD.out⟩ | exact ⟨pw_cell_below hB3 HC.out, pw_cell_below hB3 HC0.out, hB3⟩ | exact ⟨pw_cell_below ((Below.refl _ W10).alloc (Nat.le_refl _) _) hT1, pw_cell_below ((Below.refl _ W10).alloc (Nat.le_refl _) _) hT2, hT3.alloc hT3.size _⟩ | go_keep | (trace_state; fail))
     (first | (go_at_call 25; with_reducible refine (HC1.out _ ?_).mono ?_; (first | assumption | exact HPRE.out | (refine ⟨?_, ?_, ?_, ?_⟩ <;> assumption) | (trace_state; fail)); rintro e W9 ⟨rfl, hS1, hS2, hS3, hS4⟩) | (go_at_call 25; with_reducible refine (HC2.out _ ?_).mono ?_; (first | assumption | (refine ⟨?_, ?_, ?_, ?_⟩ <;> assumption) | (trace_state; fail)); rintro e W10 ⟨rfl, hT1, hT2, hT3, hT4⟩) | (refine ap_str_step (w0 := w1) (N := W10.heap.size) w1.heap.size (by kernel_rfl) _ _ rfl u11 fl (x1 ++ x2) rfl rfl rfl (Kd.R_below HO.out hT4) hT3 hT3.size hfl ?_; intro v1 w2 hO3 hB3 hg3 hat3))
    go_wp2
    go_roundw
    case rel => exact ⟨j + 1, by omega, by go_num, by rw [HE.out, ← HX3.out]; exact hO3, hB3⟩
    case measure => simp [intOf]; omega
   ·
    obtain rfl : j = st.length := by omega
    have hjj : decide ((st.length : Int) < (st.length : Int)) = false := decide_eq_false (by omega)
    go_wp2
    go_ret
    exact ⟨_, rfl, by rw [HF.out]; exact Kd.R_lower hO HB1.out.size, HB1.out.trans (hB.mono HB1.out.size)⟩
 | false =>
  have HF : Hid (chS g rm wk st = []) := Lib.hid (by unfold chS; rw [h]; rfl)
  have HP := Lib.hid (startsIn_no A c g A1 c1 rm wk A2 c2 st h w hr hr1 hr2 hT)
  clear hr hr1 hr2 hT h
  go_enter Tryz.func7, Tryz.ntmps7
  go_wp2_with (go_at_call 24; refine HP.out.mono ?_; rintro e w1 ⟨rfl, hB1⟩)
  go_ret
  exact ⟨_, rfl, by rw [HF.out]; exact R_nilS _ _, hB1⟩
end Go.Proofs.YtlapphhcficbjaaGreatDoor

namespace Go.Proofs.YtlapphhcficbjaaGreatDoor
set_option linter.unusedVariables false
set_option linter.unusedSimpArgs false
open Go.RowKit Go.Shelf Bits
open Go.Proofs.YtlapphhcficbjaaGreatDoorW.PrintWords Go.Proofs.YtlapphhcficbjaaGreatDoorW.PrintLast Go.Proofs.YtlapphhcficbjaaGreatDoorW.PrintMore
attribute [local go_sem] Oper.semAt_some
theorem bytes_beq (x : ByteArray) : (x == x) = true := by
 obtain ⟨d⟩ := x
 show (d == d) = true
 exact beq_self_eq_true d
theorem bytes_bne (x : ByteArray) : (x != x) = false := by
 unfold bne
 rw [bytes_beq]
 rfl
set_option maxRecDepth 100000 in
set_option maxHeartbeats 2000000 in
theorem equalTexts_same (A : Option Addr) (c : Nat) (a : List ByteArray) (B : Option Addr) (d : Nat) (w : World) (hr : Kd.string.C w A a.length a) (hr' : Kd.string.C w B a.length a) :
  Calls Tryz.prog 8 #[.slice A a.length c, .slice B a.length d] w fun e w' => e = .returned (.bool true) ∧ Below w.heap.size w w' := by
 have HR := Lib.hid hr
 have HR' := Lib.hid hr'
 have hla := (C_len hr).2
 clear hr hr'
 have dl : ((a.length : Int) != (a.length : Int)) = false := bne_self_eq_false _
 go_enter Tryz.func8, Tryz.ntmps8
 go_wp2
 go_loopw [5] (fun i wr => ∃ j, j ≤ a.length ∧ i = .int .i64 (j : Nat) ∧ Below w.heap.size w wr) (fun i _ => a.length - (intOf i).toNat)
 case atStart => exact ⟨0, Nat.zero_le _, rfl, Below.refl _ _⟩
 case round =>
  obtain ⟨j, hj, rfl, hB⟩ := hrel
  by_cases hjl : j < a.length
  ·
   have hjj : decide ((j : Int) < (a.length : Int)) = true := decide_eq_true (by omega)
   have hja : (j : Int) < (a.length : Int) := by omega
   obtain ⟨ad, rfl, cx⟩ := at_str (Kd.C_below HR.out hB) j hjl
   obtain ⟨bd, rfl, cy⟩ := at_str (Kd.C_below HR'.out hB) j hjl
   generalize a.getD j ByteArray.empty = x at cx cy
   have dn := bytes_bne x
   have de := bytes_beq x
   have HB := Lib.hid hB
   clear hB
   go_wp2
   (try go_quiet (fail))
   (try go_wp2)
   go_roundw
   case rel => exact ⟨j + 1, by omega, by go_num, by repeat (first | exact HB.out | apply pw_below_drewN)⟩
   case measure => simp [intOf]; omega
  ·
   obtain rfl : j = a.length := by omega
   have hjj : decide ((a.length : Int) < (a.length : Int)) = false := decide_eq_false (by omega)
   go_wp2
   go_ret
   exact ⟨rfl, hB⟩
end Go.Proofs.YtlapphhcficbjaaGreatDoor

namespace Go.Proofs.YtlapphhcficbjaaGreatDoor
set_option linter.unusedVariables false
set_option linter.unusedSimpArgs false
open Go.RowKit Go.Shelf
open Go.Proofs.YtlapphhcficbjaaGreatDoorW.PrintWords Go.Proofs.YtlapphhcficbjaaGreatDoorW.PrintLast Go.Proofs.YtlapphhcficbjaaGreatDoorW.PrintMore
def StB (k : Int) (st : List Int) : Prop := ∀ i, -k ≤ st.getD i 0 ∧ st.getD i 0 ≤ 200 + 40 * k
theorem StB.set {k : Int} {st : List Int} (h : StB k st) (i : Nat) {x : Int} (hx : -(k + 1) ≤ x ∧ x ≤ 200 + 40 * (k + 1)) (hk : 0 ≤ k) : StB (k + 1) (st.set i x) := fun j => by
 have := h j
 rw [getD_setL]
 split <;> omega
theorem StB.wide {k k' : Int} {st : List Int} (h : StB k st) (hk : k ≤ k') : StB k' st := fun i => by have := h i; omega
theorem StB.sok {st : List Int} (h : StB 2 st) : SOk st := fun i => by have := h i; omega
theorem pS_B (g : List Tk) (rm : List Int) (wk : Int) : StB 0 (pS g rm wk) := by
 unfold pS
 split
 ·
  exact fun i => by have := (planS_ok g rm wk).2 i; omega
 ·
  exact fun i => by simp
theorem pS_len (g : List Tk) (rm : List Int) (wk : Int) : (pS g rm wk).length ≤ 8 := by
 unfold pS
 split
 ·
  rename_i h
  rw [Bool.and_eq_true] at h
  rw [(planS_ok g rm wk).1]
  exact (specValid_TOk h.1).1
 ·
  simp
theorem stI_of_Rb {W : World} {rb base : Nat} {ok : Nat → Prop} {v : Value} {l : List Int} (h : Kd.R (Kd.int .i64) 3 W base ok v l) (hrb : rb < base) : ∃ A c, v = .slice A l.length c ∧ l.length ≤ c ∧ StI W rb A l := stI_of_R (Kd.R_mono h (fun _ _ => trivial)) hrb
theorem RdSt.far {w0 W : World} {rb : Nat} {M : Int} (h : RdSt w0 W rb M) {p : Addr} (hp : p.block ≠ rb) (u : Value) : RdSt w0 (W.setCell p u) rb M := by
 obtain ⟨b, q, ⟨A0, c0, h1, h2, h3⟩, h4⟩ := h
 exact ⟨b, q, ⟨A0, c0, (Below.heap_setCell W p u rb (fun e => hp e.symm)).trans h1, h2, h3⟩, h4⟩
set_option maxRecDepth 1000000 in
set_option maxHeartbeats 8000000 in
theorem someStarts_any (rb : Nat) (M : Int) (hM : M ≤ 700000) (A : Option Addr) (c : Nat) (g : List Tk) (w0 w : World) (hS : RdSt w0 w rb M) (hB : Below w0.heap.size w0 w) (hG : StG w rb A g) :
  Calls Tryz.prog 53 #[.pointer (some ⟨rb, 0, none⟩), .slice A g.length c] w fun e w' => ∃ A1 c1 rm wk A2 c2 st, e = .returned (.tuple #[.slice A1 rm.length c1, .int .i64 wk, .slice A2 st.length c2]) ∧ rm.length ≤ c1 ∧ st.length ≤ c2 ∧ StI w' rb A1 rm ∧ StI w' rb A2 st ∧ rm.length ≤ 4 ∧ st.length ≤ 8 ∧ (0 ≤ wk ∧ wk ≤ 5) ∧ StB 2 st ∧ RdSt w0 w' rb (M + 20) ∧ Below w0.heap.size w0 w' ∧ KeepBut w w' rb none := by
 have HS := Lib.hid hS
 have HB := Lib.hid hB
 have HG := Lib.hid hG
 clear hS hB hG
 go_enter Tryz.func53, Tryz.ntmps53
 go_wp2_with (first
  | (go_at_call 71; refine (someRoom_any rb M (by omega) w0 _ HS.out HB.out).mono ?_; rintro e w1 ⟨A1, c1, rm, rfl, hc1, hI1, hl1, hS1, hB1, hK1⟩; have H1 := Lib.hid (And.intro hI1 (And.intro hS1 (And.intro hB1 hK1))); clear hI1 hS1 hB1 hK1)
  | (go_at_call 72; refine (someWorkers_any rb (M + 6) (by omega) w0 _ H1.out.2.1 H1.out.2.2.1).mono ?_; rintro e w2 ⟨wk, rfl, hwk, hS2, hB2, hK2⟩; have H2 := Lib.hid (And.intro (H1.out.1.keep hK2) (And.intro hS2 (And.intro hB2 (And.intro (keep_trans H1.out.2.2.2 hK2) ((HG.out.keep H1.out.2.2.2).keep hK2))))); clear hS2 hB2 hK2)
  | (go_at_call 98; refine (sPlanStarts_calls A c g A1 c1 rm wk w2 H2.out.2.2.2.2.now H2.out.1.now).mono ?_; rintro e w3 ⟨v3, rfl, hR3, hB3⟩; have H3 := Lib.hid (And.intro hR3 hB3); clear hR3 hB3)
  | (go_at_call 95; refine (pick_any rb (M + 7) _ (by omega) w0 _ ((H2.out.2.1.below H3.out.2).wide (by omega)) (H2.out.2.2.1.trans (H3.out.2.mono H2.out.2.2.1.size))).mono ?_; rintro e w4 ⟨v4, rfl, hv4, hS4, hB4, hK4⟩; have H4 := Lib.hid (And.intro hS4 (And.intro hB4 hK4)); clear hS4 hB4 hK4))
 have hrb2 := H2.out.2.1.lt
 have hpl := pS_len g rm wk
 have hpb := pS_B g rm wk
 have hR4 : Kd.R (Kd.int .i64) 3 w4 w2.heap.size (fun q => q ≠ rb) v3 (pS g rm wk) := Kd.R_keep (Kd.R_mono (Kd.R_bound H3.out.1) (fun q hq => by have := hq.2.1; omega)) H4.out.2.2 (fun q hq => hq)
 obtain ⟨A3, c3, rfl, hc3, _⟩ := Kd.R_reads hR4
 have hK24 : KeepBut w2 w4 rb none := keep_trans (keep_below rb H3.out.2) H4.out.2.2
 have HK24 := Lib.hid hK24
 have hv2 : 0 ≤ v4 ∧ v4 ≤ 2 := by have := hv4.2 (by omega); omega
 clear hK24 hv4
 generalize pS g rm wk = s0 at hR4 hpl hpb hc3
 go_loopw [10] (fun n wr => ∃ (k : Nat) (st : List Int), n = .int .i64 (k : Int) ∧ k ≤ 2 ∧ st.length = s0.length ∧ StB (2 - k) st ∧ Hid (Kd.R (Kd.int .i64) 3 wr w2.heap.size (fun q => q ≠ rb) (.slice A3 s0.length c3) st ∧ RdSt w0 wr rb (M + 12 - 2 * k) ∧ Below w0.heap.size w0 wr ∧ KeepBut w2 wr rb none)) (fun n _ => (intOf n).toNat)
 case atStart => exact ⟨v4.toNat, s0, by congr 1; omega, by omega, rfl, hpb.wide (by omega), Lib.hid ⟨hR4, H4.out.1.wide (by omega), H4.out.2.1, HK24.out⟩⟩
 case round =>
  clear hR4 hpb
  obtain ⟨k, st, rfl, hk, hsl, hsb, HH⟩ := hrel
  by_cases hk0 : k = 0
  ·
   subst hk0
   have HSB := Lib.hid hsb
   go_wp2
   go_ret3
   obtain ⟨hR, hS, hB, hK⟩ := HH.out
   obtain ⟨A9, c9, e9, hc9, hI9⟩ := stI_of_Rb hR hrb2
   rw [← hsl] at e9 hR ⊢
   cases e9
   exact ⟨A1, c1, rm, wk, A3, c3, st, rfl, hc1, hc9, H2.out.1.keep hK, hI9, hl1, by omega, hwk, HSB.out.wide (by omega), hS.wide (by omega), hB, keep_trans H2.out.2.2.2.1 hK⟩
  ·
   have dk : decide ((0 : Int) < (k : Int)) = true := decide_eq_true (by omega)
   have dk' : decide (0 < k) = true := decide_eq_true (by omega)
   by_cases hs0 : s0.length = 0
   ·
    have ds : decide ((0 : Int) < (s0.length : Int)) = false := decide_eq_false (by omega)
    have ds' : decide (0 < s0.length) = false := decide_eq_false (by omega)
    have HSB := Lib.hid hsb
    clear hk0 hsb
    go_wp2
    go_ret3
    obtain ⟨hR, hS, hB, hK⟩ := HH.out
    obtain ⟨A9, c9, e9, hc9, hI9⟩ := stI_of_Rb hR hrb2
    rw [← hsl] at e9 hR ⊢
    cases e9
    exact ⟨A1, c1, rm, wk, A3, c3, st, rfl, hc1, hc9, H2.out.1.keep hK, hI9, hl1, by omega, hwk, HSB.out.wide (by omega), hS.wide (by omega), hB, keep_trans H2.out.2.2.2.1 hK⟩
   ·
    have ds : decide ((0 : Int) < (s0.length : Int)) = true := decide_eq_true (by omega)
    have ds' : decide (0 < s0.length) = true := decide_eq_true (by omega)
    have HSB := Lib.hid hsb
    have HSB2 := Lib.hid hsb
    obtain ⟨b, cap, e5, hbb, hbl, hbc⟩ := Kd.R_form HH.out.1 (by omega)
    rw [hsl] at e5
    cases e5
    have hbr : b ≠ rb := by omega
    go_upto_region 8 with (go_at_call 95; refine (pick_any rb _ _ (by omega) w0 _ HH.out.2.1 HH.out.2.2.1).mono ?_; rintro e w5 ⟨v5, rfl, hv5, hS5, hB5, hK5⟩; obtain ⟨m, rfl⟩ := Int.eq_ofNat_of_zero_le hv5.1; have hml : m < s0.length := (by have := hv5.2 (by omega); omega); have H5 := Lib.hid (And.intro hS5 (And.intro hB5 hK5)); clear hv5 hS5 hB5 hK5)
    have hR5 := Kd.R_keep HH.out.1 H5.out.2.2 (fun q hq => hq)
    obtain ⟨cx, fx⟩ := Kd.R_celln (0 : Int) hR5 (m : Int) (by omega) (by omega)
    rw [Int.toNat_natCast] at cx fx
    have hsx := HSB.out m
    replace cx : w5.cell? ⟨b, m, none⟩ = some (.int .i64 (st.getD m 0)) := cx
    have HST : Hid (∃ s, s = st.getD m 0) := Lib.hid ⟨_, rfl⟩
    obtain ⟨s, hs⟩ := HST.out
    rw [← hs] at cx hsx
    have HR5 := Lib.hid hR5
    have HSE := Lib.hid hs
    have hb5 : b < w5.heap.size := Nat.lt_of_lt_of_le hbl H5.out.2.2.1
    have hmi : (m : Int) < (s0.length : Int) := by omega
    have hrb5 := H5.out.1.lt
    clear hR5 hs HST
    have HCALL : Hid (∀ W (l : List Int), Below w5.heap.size w5 W → 0 < l.length → l.length ≤ 1000 → Calls Tryz.prog 96 #[.pointer (some ⟨rb, 0, none⟩), .slice (some ⟨W.heap.size, 0, none⟩) l.length l.length] (W.alloc (.cells (encs (Value.int .i64) l).toArray 3)) fun e w' =>
      ∃ v, e = .returned (.int .i64 v) ∧ v ∈ l ∧ RdSt w0 w' rb (M + 14 - 2 * k) ∧ Below w0.heap.size w0 w' ∧ w'.cell? ⟨b, m, none⟩ = some (.int .i64 s) ∧ w'.frozen? ⟨b, m, none⟩ = false ∧ KeepBut w5 w' rb none) := Lib.hid (by
     intro W l hW hl0 hl
     refine (oneLit_any rb _ l hl0 hl (by omega) w0 W (H5.out.1.below hW) (H5.out.2.1.trans (hW.mono H5.out.2.1.size))).mono ?_
     rintro e w' ⟨v, he, hv, h1, h2, h3⟩
     have hkk : KeepBut w5 w' rb none := keep_trans (keep_below rb hW) h3
     have hblk : w'.heap[b]? = w5.heap[b]? := hkk.2 b hb5 hbr (by simp)
     refine ⟨v, he, hv, h1.wide (by omega), h2, ?_, ?_, hkk⟩
     ·
      rw [← cx]
      unfold World.cell?
      simp only [hblk]
     ·
      rw [← fx]
      unfold World.frozen?
      simp only [hblk])
    have HSB : Hid (∀ W, Below w5.heap.size w5 W → W.cell? ⟨b, m, none⟩ = some (.int .i64 s) ∧ W.frozen? ⟨b, m, none⟩ = false ∧ KeepBut w5 W rb none) := Lib.hid (fun W hW => by
     have hblk : W.heap[b]? = w5.heap[b]? := hW.block b hb5
     refine ⟨?_, ?_, keep_below rb hW⟩
     ·
      rw [← cx]
      unfold World.cell?
      simp only [hblk]
     ·
      rw [← fx]
      unfold World.frozen?
      simp only [hblk])
    go_wp2
    have hcA : ∀ o, (w5.alloc o).cell? ⟨b, m, none⟩ = some (.int .i64 s) := fun o => (HSB.out _ ((Below.refl _ _).alloc (Nat.le_refl _) _)).1
    go_region_with (first | (go_at_call 96; refine (HCALL.out w5.drew [0, 1, 5, -1, 40] (Below.refl _ _).drew (by decide) (by decide)).mono ?_; rintro e w6 ⟨v6, rfl, hv6, hS6, hB6, hX1, hX2, hX3⟩))
    all_goals
     have hv7 : -1 ≤ v6 ∧ v6 ≤ 40 := by simp at hv6; omega
     have hR6 := Kd.R_putn (Kd.R_keep HR5.out hX3 (fun q hq => hq)) (m : Int) (s + v6)
     rw [Int.toNat_natCast] at hR6
     have hsb' := StB.set HSB2.out m (x := s + v6) (by omega) (by omega)
     have hbel : Below w0.heap.size w0 (w6.setCell ⟨b, m, none⟩ (.int .i64 (s + v6))) := hB6.setCell (p := ⟨b, m, none⟩) (by have h02 := H2.out.2.2.1.size; show w0.heap.size ≤ b; omega) _
     have hkp : KeepBut w2 (w6.setCell ⟨b, m, none⟩ (.int .i64 (s + v6))) rb none := by
      have h26 : KeepBut w2 w6 rb none := keep_trans HH.out.2.2.2 (keep_trans H5.out.2.2 hX3)
      refine ⟨by rw [World.size_setCell]; exact h26.1, fun i hi h1 h2 => ?_⟩
      rw [Below.heap_setCell w6 ⟨b, m, none⟩ _ i (by show i ≠ b; omega)]
      exact h26.2 i hi h1 h2
     have hrd : RdSt w0 (w6.setCell ⟨b, m, none⟩ (.int .i64 (s + v6))) rb (M + 12 - 2 * (k - 1 : Nat)) := (RdSt.far hS6 hbr _).wide (by omega)
     have HEND := Lib.hid (And.intro hR6 (And.intro hrd (And.intro hbel hkp)))
     have HSB3 := Lib.hid (hsb'.wide (k' := 2 - (k - 1 : Nat)) (by omega))
     have hk1 : IntKind.i64.wrap ((k : Int) - 1) = ((k - 1 : Nat) : Int) := by rw [show (k : Int) - 1 = ((k - 1 : Nat) : Int) by omega]; exact IntWalk.i64_in _ (by omega)
     have hwr : IntKind.i64.wrap (s + v6) = s + v6 := IntWalk.i64_in _ (by omega)
     clear hR6 hrd hbel hkp hsb' hv6 hv7 hX1 hX2 hX3 hS6 hB6 hsx
     go_wp2
     clear hwr hk1
     exact ⟨⟨k - 1, st.set m (s + v6), rfl, by omega, by rw [List.length_set]; exact hsl, HSB3.out, HEND⟩, by simp [intOf]; omega⟩
theorem RdSt_new {w0 W : World} {rb : Nat} {M : Int} (h : RdSt w0 W rb M) : w0.heap.size ≤ rb := by
 obtain ⟨b, p, ⟨A0, c0, h1, h2, h3⟩, _⟩ := h
 exact h2
theorem newReader_new (A : Option Addr) (c : Nat) (l : List Int) (hb : ∀ x ∈ l, 0 ≤ x ∧ x < 256) (w : World) (hr : (Kd.int .u8).C w A l.length l) (hc : l.length ≤ c) :
  Calls Tryz.prog 51 #[.slice A l.length c] w fun e w' => ∃ rb, e = .returned (.pointer (some ⟨rb, 0, none⟩)) ∧ w.heap.size ≤ rb ∧ RdSt w w' rb 0 ∧ Below w.heap.size w w' := by
 refine (newReader_any A c l hb w hr hc).mono ?_
 rintro e w' ⟨rb, he, hS, hB⟩
 exact ⟨rb, he, RdSt_new hS, hS, hB⟩
theorem results_tmp4 {fn : Func} {t u v x : Tmp} (h : fn.results = #[.tmp t, .tmp u, .tmp v, .tmp x]) (tmps : Array Value) (P : Program) (w : World) :
  (results fn tmps).run P w = .ok (.tuple #[tmps.getD t undef, tmps.getD u undef, tmps.getD v undef, tmps.getD x undef]) w := by
 simp [results, h]
theorem results_tmp5 {fn : Func} {t u v x y : Tmp} (h : fn.results = #[.tmp t, .tmp u, .tmp v, .tmp x, .tmp y]) (tmps : Array Value) (P : Program) (w : World) :
  (results fn tmps).run P w = .ok (.tuple #[tmps.getD t undef, tmps.getD u undef, tmps.getD v undef, tmps.getD x undef, tmps.getD y undef]) w := by
 simp [results, h]
def DrSt (w : World) (e : Ending) (w' : World) : Prop := ∃ rb A1 c1 g A2 c2 rm wk A3 c3 st, e = .returned (.tuple #[.slice A1 g.length c1, .slice A2 rm.length c2, .int .i64 wk, .slice A3 st.length c3]) ∧ StG w' rb A1 g ∧ StI w' rb A2 rm ∧ StI w' rb A3 st ∧ w.heap.size ≤ rb ∧ g.length ≤ 16 ∧ st.length ≤ 8 ∧ (0 ≤ wk ∧ wk ≤ 5) ∧ SOk st ∧ Below w.heap.size w w'
set_option maxRecDepth 100000 in
theorem DrawValidStarts_any (A : Option Addr) (c : Nat) (l : List Int) (hb : ∀ x ∈ l, 0 ≤ x ∧ x < 256) (w : World) (hr : (Kd.int .u8).C w A l.length l) (hc : l.length ≤ c) :
  Calls Tryz.prog 23 #[.slice A l.length c] w (DrSt w) := by
 have HN := Lib.hid (newReader_new A c l hb w hr hc)
 clear hb hr hc
 go_enter Tryz.func23, Tryz.ntmps23
 go_wp2_with (first | (go_at_call 51; refine HN.out.mono ?_; rintro e w1 ⟨rb, rfl, hrb, hS1, hB1⟩; have H1 := Lib.hid (And.intro hS1 hB1); clear hS1 hB1) | (go_at_call 52; refine (anyGraph_any rb 0 (by omega) w _ H1.out.1 H1.out.2).mono ?_; rintro e w2 ⟨A2, c2, g, rfl, hg2, hG2, hok, hS2, hB2, hK2⟩; have H2 := Lib.hid (And.intro hG2 (And.intro hok (And.intro hS2 hB2))); clear hG2 hok hS2 hB2 hK2) | (go_at_call 53; refine (someStarts_any rb _ (by omega) A2 c2 g w _ H2.out.2.2.1 H2.out.2.2.2 H2.out.1).mono ?_; rintro e w3 ⟨A3, c3, rm, wk, A4, c4, st, rfl, h1, h2, hI3, hI4, hl3, hl4, hwk, hsb, hS3, hB3, hK3⟩; have H3 := Lib.hid (And.intro (H2.out.1.keep hK3) (And.intro hI3 (And.intro hI4 (And.intro hsb hB3)))); clear hI3 hI4 hsb hS3 hB3 hK3))
 (try simp only [Exit.inBlock, Exit.then])
 refine bodyPost_ret (results_tmp4 rfl _ _ _) rfl ?_
 exact ⟨rb, _, _, g, _, _, rm, wk, _, _, st, rfl, H3.out.1, H3.out.2.1, H3.out.2.2.1, hrb, H2.out.2.1.1, hl4, hwk, H3.out.2.2.2.1.sok, H3.out.2.2.2.2⟩
theorem DrawChartLines_any (A : Option Addr) (c : Nat) (l : List Int) (hb : ∀ x ∈ l, 0 ≤ x ∧ x < 256) (w : World) (hr : (Kd.int .u8).C w A l.length l) (hc : l.length ≤ c) :
  Calls Tryz.prog 6 #[.slice A l.length c] w (DrSt w) := by
 have HN := Lib.hid (DrawValidStarts_any A c l hb w hr hc)
 clear hb hr hc
 go_enter Tryz.func6, Tryz.ntmps6
 go_wp2_with (go_at_call 23; refine HN.out.mono ?_; rintro e w1 ⟨rb, A1, c1, g, A2, c2, rm, wk, A3, c3, st, rfl, h1⟩; have H1 := Lib.hid h1; clear h1)
 (try simp only [Exit.inBlock, Exit.then])
 refine bodyPost_ret (results_tmp4 rfl _ _ _) rfl ?_
 exact ⟨rb, _, _, g, _, _, rm, wk, _, _, st, rfl, H1.out⟩
def DrSt5 (lo hi : Int) (w : World) (e : Ending) (w' : World) : Prop := ∃ A1 c1 g A2 c2 rm wk A3 c3 st now, e = .returned (.tuple #[.slice A1 g.length c1, .slice A2 rm.length c2, .int .i64 wk, .slice A3 st.length c3, .int .i64 now]) ∧ kTk.C w' A1 g.length g ∧ (Kd.int .i64).C w' A2 rm.length rm ∧ (Kd.int .i64).C w' A3 st.length st ∧ g.length ≤ 16 ∧ st.length ≤ 8 ∧ (0 ≤ wk ∧ wk ≤ 5) ∧ SOk st ∧ (lo ≤ now ∧ now ≤ hi) ∧ Below w.heap.size w w'
end Go.Proofs.YtlapphhcficbjaaGreatDoor

namespace Go.Proofs.YtlapphhcficbjaaGreatDoor
set_option linter.unusedVariables false
set_option linter.unusedSimpArgs false
open Go.RowKit Go.Shelf Bits
open Go.Proofs.YtlapphhcficbjaaGreatDoorW.PrintWords Go.Proofs.YtlapphhcficbjaaGreatDoorW.PrintLast Go.Proofs.YtlapphhcficbjaaGreatDoorW.PrintMore
theorem chS_yes {g : List Tk} {rm : List Int} {wk : Int} {st : List Int} (h : ¬ (chS g rm wk st).length = 0) : Valid g rm wk st ∧ (chS g rm wk st).length = g.length ∧ ∀ j, j < g.length → (chS g rm wk st).getD j ByteArray.empty = lnS g st j := by
 unfold chS at h ⊢
 cases hv : vStB g rm wk st with
 | false =>
  exfalso
  apply h
  rw [hv]
  rfl
 | true =>
  rw [if_pos rfl]
  refine ⟨vSt_valid hv, by simp, fun j hj => ?_⟩
  rw [List.getD_eq_getElem?_getD, List.getElem?_map, List.getElem?_range hj]
  rfl
theorem line_at {x : ByteArray} {s n k : Nat} (hx : x = lineB s n) (hk : k < x.size) : (x[k]'hk).toNat = if k < s then 46 else 35 := by
 subst hx
 have hn : k < n := by rw [lineB_size] at hk; exact hk
 have h := lineP_get (a := s) hn
 have hl : k < (lineP s n).length := by rw [lineP_len]; exact hn
 rw [List.getElem?_eq_getElem hl] at h
 injection h with h
 have h2 : (lineB s n)[k]'hk = (lineP s n)[k]'hl := rfl
 rw [h2, h]
 split <;> rfl
end Go.Proofs.YtlapphhcficbjaaGreatDoor

namespace Go.Proofs.YtlapphhcficbjaaGreatDoor
set_option linter.unusedVariables false
set_option linter.unusedSimpArgs false
open Go.RowKit Go.Shelf Bits
open Go.Proofs.YtlapphhcficbjaaGreatDoorW.PrintWords Go.Proofs.YtlapphhcficbjaaGreatDoorW.PrintLast Go.Proofs.YtlapphhcficbjaaGreatDoorW.PrintMore
set_option maxRecDepth 1000000 in
set_option maxHeartbeats 8000000 in
theorem FnChartLinesRun_walk (A : Option Addr) (c : Nat) (l : List Int) (hb : ∀ x ∈ l, 0 ≤ x ∧ x < 256) (w : World) (hT : Tab w) (hr : (Kd.int .u8).C w A l.length l) (hc : l.length ≤ c) :
  Calls Tryz.prog 3 #[.slice A l.length c] w fun e w' => e = .returned (.bool true) ∧ Below w.heap.size w w' := by
 have HT := Lib.hid hT
 have hll := (C_len hr).2
 have HD := Lib.hid (DrawChartLines_any A c l hb w hr hc)
 clear hb hr hc hT
 by_cases hbig : 1048576 < l.length
 ·
  have db : decide ((1048576 : Int) < (l.length : Int)) = true := decide_eq_true (by omega)
  clear hbig
  go_enter Tryz.func3, Tryz.ntmps3
  go_wp2
  go_ret
  exact ⟨rfl, Below.refl _ _⟩
 ·
  have db : decide ((1048576 : Int) < (l.length : Int)) = false := decide_eq_false (by omega)
  clear hbig
  go_enter Tryz.func3, Tryz.ntmps3
  go_upto_region 4 with (go_at_call 6; refine HD.out.mono ?_; rintro e w1 ⟨rb, A1, c1, g, A2, c2, rm, wk, A3, c3, st, rfl, hG, hR, hS, hrb, hg16, hs8, hwk, hso, hB1⟩; have H1 := Lib.hid hG.now; have H2 := Lib.hid hR.now; have H3 := Lib.hid hS.now; have HSO := Lib.hid hso; have HB1 := Lib.hid hB1; clear hG hR hS hrb hso hB1)
  have HTW := Lib.hid (fun (W : World) (h : Below w1.heap.size w1 W) => HT.out.keep HT.out.lt (HB1.out.trans (h.mono HB1.out.size)))
  have HW := Lib.hid (Below.refl w1.heap.size w1)
  have HCI := Lib.hid (fun (W : World) (hW : Below w1.heap.size w1 W) => ChartLines_impl A1 c1 g A2 c2 rm wk A3 c3 st W (Kd.C_below H1.out hW) (Kd.C_below H2.out hW) (Kd.C_below H3.out hW) (HTW.out W hW))
  have HCS := Lib.hid (fun (W : World) (hW : Below w1.heap.size w1 W) => sChartLines_calls A1 c1 g A2 c2 rm wk A3 c3 st W (Kd.C_below H1.out hW) (Kd.C_below H2.out hW) (Kd.C_below H3.out hW))
  by_cases h0 : (chS g rm wk st).length = 0
  ·
   have dl : (((chS g rm wk st).length : Int) == 0) = true := by rw [h0]; rfl
   clear h0
   generalize chS g rm wk st = o at HCI HCS dl
   go_wp2_with (first | (go_at_call 7; refine (HCI.out _ HW.out).mono ?_; rintro e wl ⟨vO, rfl, hR, hB⟩; obtain ⟨AO, cO, rfl, hcO, hC⟩ := Kd.R_reads hR; have HW := Lib.hid (HW.out.trans (hB.mono HW.out.size)); (try (have HcO := Lib.hid (Kd.C_below HcO.out hB))); (try (have HcP := Lib.hid (Kd.C_below HcP.out hB))); have HcO := Lib.hid hC; clear hR hC hB; clear HCI) | (go_at_call 9; refine (HCS.out _ HW.out).mono ?_; rintro e wl ⟨vP, rfl, hR, hB⟩; obtain ⟨AP, cP, rfl, hcP, hC⟩ := Kd.R_reads hR; have HW := Lib.hid (HW.out.trans (hB.mono HW.out.size)); (try (have HcO := Lib.hid (Kd.C_below HcO.out hB))); (try (have HcP := Lib.hid (Kd.C_below HcP.out hB))); have HcP := Lib.hid hC; clear hR hC hB) | (go_at_call 8; refine (equalTexts_same _ _ _ _ _ _ HcO.out HcP.out).mono ?_; rintro e wv ⟨rfl, hB⟩; have HW := Lib.hid (HW.out.trans (hB.mono HW.out.size)); (try (have HcO := Lib.hid (Kd.C_below HcO.out hB))); (try (have HcP := Lib.hid (Kd.C_below HcP.out hB))); clear hB))
   go_ret
   exact ⟨rfl, HB1.out.trans (HW.out.mono HB1.out.size)⟩
  ·
   have dl : (((chS g rm wk st).length : Int) == 0) = false := by rw [beq_eq_false_iff_ne]; omega
   obtain ⟨hV, hlen, hget⟩ := chS_yes h0
   have HET := Lib.hid (fun (W : World) (hW : Below w1.heap.size w1 W) => EndTime_impl A1 c1 g A2 c2 rm wk A3 c3 st W (Kd.C_below H1.out hW) (Kd.C_below H2.out hW) (Kd.C_below H3.out hW) (HTW.out W hW))
   have HV := Lib.hid hV
   have HGET := Lib.hid hget
   have HLEN := Lib.hid hlen
   have HRS : Hid (∀ t, (ints (raS g rm wk st t)).length = (runS g st t).length) := Lib.hid (fun t => by unfold raS; rw [if_pos (valid_vSt hV), ints_length])
   have hen := (etS_bound g rm wk st).2
   have hen0 : 0 ≤ etS g rm wk st := by rw [etS_valid hV]; exact endS_nonneg _ _ _
   obtain ⟨m, hm⟩ : ∃ m : Nat, etS g rm wk st = (m : Int) := ⟨(etS g rm wk st).toNat, by omega⟩
   rw [hm] at HET hen
   have h8 := hV.ok.1
   clear h0 hV hlen hget hm hen0
   generalize chS g rm wk st = o at HCI HCS dl HGET HLEN
   go_upto_region 7 with (first | (go_at_call 7; refine (HCI.out _ HW.out).mono ?_; rintro e wl ⟨vO, rfl, hR, hB⟩; obtain ⟨AO, cO, rfl, hcO, hC⟩ := Kd.R_reads hR; have HW := Lib.hid (HW.out.trans (hB.mono HW.out.size)); (try (have HcO := Lib.hid (Kd.C_below HcO.out hB))); (try (have HcP := Lib.hid (Kd.C_below HcP.out hB))); have HcO := Lib.hid hC; clear hR hC hB; clear HCI) | (go_at_call 9; refine (HCS.out _ HW.out).mono ?_; rintro e wl ⟨vP, rfl, hR, hB⟩; obtain ⟨AP, cP, rfl, hcP, hC⟩ := Kd.R_reads hR; have HW := Lib.hid (HW.out.trans (hB.mono HW.out.size)); (try (have HcO := Lib.hid (Kd.C_below HcO.out hB))); (try (have HcP := Lib.hid (Kd.C_below HcP.out hB))); have HcP := Lib.hid hC; clear hR hC hB) | (go_at_call 8; refine (equalTexts_same _ _ _ _ _ _ HcO.out HcP.out).mono ?_; rintro e wv ⟨rfl, hB⟩; have HW := Lib.hid (HW.out.trans (hB.mono HW.out.size)); (try (have HcO := Lib.hid (Kd.C_below HcO.out hB))); (try (have HcP := Lib.hid (Kd.C_below HcP.out hB))); clear hB))
   obtain ⟨w2, rfl⟩ : ∃ w2 : World, w2 = wv := ⟨_, rfl⟩
   go_wp2
   go_loopw [8] (fun t wr => ∃ q : Nat, q ≤ m ∧ t = .int .i64 (q : Nat) ∧ Below w2.heap.size w2 wr) (fun t _ => m - (intOf t).toNat)
   case atStart => exact ⟨0, Nat.zero_le _, rfl, Below.refl _ _⟩
   case round =>
    obtain ⟨q, hq, rfl, hB2⟩ := hrel
    have hB := HW.out.trans (hB2.mono HW.out.size)
    have HcO1 := Lib.hid (Kd.C_below HcO.out hB2)
    have HW2 := HW
    clear HW
    have HW := Lib.hid hB
    clear hB
    by_cases hql : q < m
    ·
     have dq : decide (q < m) = true := decide_eq_true hql
     have HCT : Hid (sumTo (fun k => if runB g st (q : Nat) k then 1 else 0) g.length = ((runS g st (q : Nat)).length : Nat)) := Lib.hid (sumTo_count _)
     have HCB : Hid (∀ j, 0 ≤ sumTo (fun k => if runB g st (q : Nat) k then 1 else 0) j ∧ sumTo (fun k => if runB g st (q : Nat) k then 1 else 0) j ≤ 1 * (j : Nat)) := Lib.hid (fun j => by
      have := sumTo_bound (f := fun k => if runB g st (q : Nat) k then (1 : Int) else 0) (a := 0) (b := 1) j (fun k _ => by split <;> omega)
      omega)
     have HRJ := Lib.hid (fun (W : World) (hW : Below w1.heap.size w1 W) => RunningAt_impl A1 c1 g A2 c2 rm wk A3 c3 st (q : Nat) W (Kd.C_below H1.out hW) (Kd.C_below H2.out hW) (Kd.C_below H3.out hW) (HTW.out W hW))
     have HRE := Lib.hid (HRS.out (q : Nat))
     generalize ints (raS g rm wk st (q : Nat)) = y at HRJ HRE
     have hwq : IntKind.i64.wrap ((q : Int) + 1) = (q : Int) + 1 := IntWalk.i64_in _ (by omega)
     have HWQ := Lib.hid hwq
     have HB2 := Lib.hid hB2
     clear hwq hB2
     go_wp2_with (go_at_call 10; refine (HET.out _ HW.out).mono ?_; rintro e wv ⟨rfl, hB⟩; have HcO1 := Lib.hid (Kd.C_below HcO1.out hB); have HB2 := Lib.hid (HB2.out.trans (hB.mono HB2.out.size)); have HW := Lib.hid (HW.out.trans (hB.mono HW.out.size)); clear hB)
     obtain ⟨w3, rfl⟩ : ∃ w3 : World, w3 = wv := ⟨_, rfl⟩
     go_loopw [9, 10] (fun n i wi => ∃ j : Nat, j ≤ o.length ∧ i = .int .i64 (j : Nat) ∧ n = .int .i64 (sumTo (fun k => if runB g st (q : Nat) k then 1 else 0) j) ∧ Below w3.heap.size w3 wi) (fun _ i _ => o.length - (intOf i).toNat)
     case atStart => exact ⟨0, Nat.zero_le _, rfl, rfl, Below.refl _ _⟩
     case round =>
      obtain ⟨j, hj, rfl, rfl, hBi⟩ := hrel
      by_cases hjl : j < o.length
      ·
       have hjg : j < g.length := by rw [← HLEN.out]; exact hjl
       have hol : o.length ≤ 8 := by rw [HLEN.out]; exact h8
       have hjj : decide ((j : Int) < (o.length : Int)) = true := decide_eq_true (by omega)
       have hji : (j : Int) < (o.length : Int) := by omega
       obtain ⟨ado, rfl, co⟩ := at_str (Kd.C_below HcO1.out hBi) j hjl
       have hsj := HV.out.sok j
       have hbj := (HV.out.b j hjg).1
       have htj := HV.out.ok.2.1 j
       have hx := HGET.out j hjg
       have HE : Hid (sumTo (fun k => if runB g st (q : Nat) k then 1 else 0) (j + 1) = sumTo (fun k => if runB g st (q : Nat) k then 1 else 0) j + (if runB g st (q : Nat) j then 1 else 0)) := Lib.hid rfl
       have hrb : runB g st (q : Nat) j = true ↔ st.getD j 0 ≤ (q : Int) ∧ (q : Int) < st.getD j 0 + (rdTk g j).f0 := runB_iff
       have hcb := HCB.out j
       obtain ⟨s, hs⟩ : ∃ s : Nat, st.getD j 0 = (s : Nat) := ⟨(st.getD j 0).toNat, by omega⟩
       obtain ⟨tm, htm⟩ : ∃ tm : Nat, (rdTk g j).f0 = (tm : Nat) := ⟨(rdTk g j).f0.toNat, by omega⟩
       unfold lnS at hx
       rw [hs, htm, Int.toNat_natCast, Int.toNat_natCast] at hx
       rw [hs, htm] at hrb
       generalize o.getD j ByteArray.empty = x at co hx
       have hxs : x.size = s + tm := by rw [hx, lineB_size]
       have HXG := Lib.hid (fun (k : Nat) (hk : k < x.size) => line_at hx hk)
       generalize sumTo (fun k => if runB g st (q : Nat) k then 1 else 0) j = m0 at HE hcb
       have HBI := Lib.hid hBi
       by_cases hqx : q < x.size
       ·
        have dqx : decide (q < x.size) = true := decide_eq_true hqx
        have hch := HXG.out q hqx
        by_cases hqs : q < s
        ·
         rw [if_pos hqs] at hch
         have hr0 : runB g st (q : Nat) j = false := by
          cases h : runB g st (q : Nat) j with
          | false => rfl
          | true => have := hrb.1 h; omega
         rw [hr0] at HE
         clear hqs hr0 hrb hx hxs hs htm hsj hbj htj hBi
         go_wp2
         go_roundw
         case rel => exact ⟨j + 1, by omega, by go_num, by rw [HE.out]; simp, HBI.out⟩
         case measure => simp [intOf]; omega
        ·
         rw [if_neg hqs] at hch
         have hr1 : runB g st (q : Nat) j = true := hrb.2 (by omega)
         rw [hr1] at HE
         have hwm : IntKind.i64.wrap (m0 + 1) = m0 + 1 := IntWalk.i64_in _ (by omega)
         clear hqs hr1 hrb hx hxs hs htm hsj hbj htj hBi
         go_wp2
         clear hwm
         go_roundw
         case rel => exact ⟨j + 1, by omega, by go_num, by rw [HE.out]; simp, HBI.out⟩
         case measure => simp [intOf]; omega
       ·
        have dqx : decide (q < x.size) = false := decide_eq_false hqx
        have hr0 : runB g st (q : Nat) j = false := by
         cases h : runB g st (q : Nat) j with
         | false => rfl
         | true => have := hrb.1 h; omega
        rw [hr0] at HE
        clear hqx hr0 hrb hx hxs hs htm hsj hbj htj hBi
        go_wp2
        go_roundw
        case rel => exact ⟨j + 1, by omega, by go_num, by rw [HE.out]; simp, HBI.out⟩
        case measure => simp [intOf]; omega
      ·
       have hjo : j = o.length := by omega
       have hjj : decide ((j : Int) < (o.length : Int)) = false := decide_eq_false (by omega)
       have hsum : sumTo (fun k => if runB g st (q : Nat) k then 1 else 0) j = ((y.length : Nat) : Int) := by rw [hjo, HLEN.out, HCT.out, HRE.out]
       rw [hsum]
       have dny : ((y.length : Int) != (y.length : Int)) = false := bne_self_eq_false _
       have hwq := HWQ.out
       have HW := Lib.hid (HW.out.trans (hBi.mono HW.out.size))
       have HB2 := Lib.hid (HB2.out.trans (hBi.mono HB2.out.size))
       clear hsum hjo hBi
       go_wp2_with (go_at_call 11; refine (HRJ.out _ HW.out).mono ?_; rintro e wy ⟨vY, rfl, hR, hB⟩; obtain ⟨AY, cY, rfl, _, _⟩ := Kd.R_reads hR; have HB2 := Lib.hid (HB2.out.trans (hB.mono HB2.out.size)); clear hR hB)
       clear hwq
       go_roundw
       case rel => exact ⟨q + 1, by omega, by go_num, HB2.out⟩
       case measure => simp [intOf]; omega
    ·
     obtain rfl : q = m := by omega
     have dq : decide ((q : Int) < (q : Int)) = false := decide_eq_false (by omega)
     go_wp2_with (go_at_call 10; refine (HET.out _ HW.out).mono ?_; rintro e wv ⟨rfl, hB⟩; have HW := Lib.hid (HW.out.trans (hB.mono HW.out.size)); clear hB)
     go_ret
     exact ⟨rfl, HB1.out.trans (HW.out.mono HB1.out.size)⟩
end Go.Proofs.YtlapphhcficbjaaGreatDoor
