/- Parts of the proof, laid as one text by a program of mine. -/
import Derived.Test.YtlapphhcficbjaaDoorKfc3
import Derived.Test.YtlapphhcficbjaaDoorKfc4
namespace Go.Proofs.YtlapphhcficbjaaDoor
set_option linter.unusedVariables false
set_option linter.unusedSimpArgs false
open Go.RowKit Go.Shelf Bits
open Go.Proofs.YtlapphhcficbjaaDoorW.PrintWords Go.Proofs.YtlapphhcficbjaaDoorW.PrintLast Go.Proofs.YtlapphhcficbjaaDoorW.PrintMore
def RowV (W : World) (B m : Nat) (t : TypeId) (f : Nat → Value) : Prop := W.heap[B]? = some (.cells ((List.range m).map f).toArray t (0, 0))
theorem RowV.cell {W : World} {B m : Nat} {t : TypeId} {f : Nat → Value} (h : RowV W B m t f) {q : Nat} (hq : q < m) : W.cell? ⟨B, q, none⟩ = some (f q) := by
 rw [blk_cell h q]
 simp [hq]
theorem RowV.frozen {W : World} {B m : Nat} {t : TypeId} {f : Nat → Value} (h : RowV W B m t f) (q : Nat) : W.frozen? ⟨B, q, none⟩ = false := blk_frozen h q
theorem RowV.lt {W : World} {B m : Nat} {t : TypeId} {f : Nat → Value} (h : RowV W B m t f) : B < W.heap.size := blk_lt h
theorem RowV.congr {W : World} {B m : Nat} {t : TypeId} {f f' : Nat → Value} (h : RowV W B m t f) (he : ∀ q, q < m → f q = f' q) : RowV W B m t f' := by
 unfold RowV at h ⊢
 rw [h, List.map_congr_left (fun q hq => he q (List.mem_range.1 hq))]
theorem RowV.set {W : World} {B m : Nat} {t : TypeId} {f : Nat → Value} (h : RowV W B m t f) (q : Nat) (v : Value) : RowV (W.setCell ⟨B, q, none⟩ v) B m t (fun x => if x = q then v else f x) := by
 have hs := blk_set h q v
 unfold RowV
 rw [hs]
 congr 2
 have : ((List.range m).map f).set q v = (List.range m).map (fun x => if x = q then v else f x) := by
  apply List.ext_getElem (by simp)
  intro i h1 h2
  simp only [List.getElem_set, List.getElem_map, List.getElem_range]
  by_cases e : q = i
  ·
   rw [if_pos e, if_pos e.symm]
  ·
   rw [if_neg e, if_neg (fun e2 => e e2.symm)]
 rw [← this]
 simp
theorem RowV.far {W : World} {B m : Nat} {t : TypeId} {f : Nat → Value} (h : RowV W B m t f) {p : Addr} (hp : B ≠ p.block) (u : Value) : RowV (W.setCell p u) B m t f := blk_far h hp u
theorem RowV.below {W W' : World} {B m : Nat} {t : TypeId} {f : Nat → Value} (h : RowV W B m t f) (hb : Below W.heap.size W W') : RowV W' B m t f := (hb.block B (blk_lt h)).trans h
theorem RowV.block {W W' : World} {B m : Nat} {t : TypeId} {f : Nat → Value} (h : RowV W B m t f) (hb : W'.heap[B]? = W.heap[B]?) : RowV W' B m t f := hb.trans h
def cellT (g : List Tk) (vs : Nat → Value) (q : Nat) : Value :=
 if q % 4 = 0 then .int .i64 (rdTk g (q / 4)).f0 else if q % 4 = 1 then vs (q / 4) else if q % 4 = 2 then .int .i64 (rdTk g (q / 4)).f2 else .int .i64 (rdTk g (q / 4)).f3
theorem cellT_at (g : List Tk) (vs : Nat → Value) (i : Nat) : cellT g vs (i * 4) = .int .i64 (rdTk g i).f0 ∧ cellT g vs (i * 4 + 1) = vs i ∧ cellT g vs (i * 4 + 2) = .int .i64 (rdTk g i).f2 ∧ cellT g vs (i * 4 + 3) = .int .i64 (rdTk g i).f3 := by
 have h0 : i * 4 % 4 = 0 := by omega
 have h1 : (i * 4 + 1) % 4 = 1 := by omega
 have h2 : (i * 4 + 2) % 4 = 2 := by omega
 have h3 : (i * 4 + 3) % 4 = 3 := by omega
 have d0 : i * 4 / 4 = i := by omega
 have d1 : (i * 4 + 1) / 4 = i := by omega
 have d2 : (i * 4 + 2) / 4 = i := by omega
 have d3 : (i * 4 + 3) / 4 = i := by omega
 unfold cellT
 rw [h0, h1, h2, h3, d0, d1, d2, d3]
 exact ⟨rfl, rfl, rfl, rfl⟩
theorem plain_add (B q : Nat) : (⟨B, 0, none⟩ : Addr).add q = ⟨B, q, none⟩ := by
 unfold Addr.add
 split <;> simp_all
theorem C_of_RowV {W : World} {B : Nat} {t : TypeId} {g : List Tk} {vs : Nat → Value} (h : RowV W B (g.length * 4) t (cellT g vs)) (hm : g.length ≤ 10000000) (hv : ∀ i, i < g.length → ∃ A c, vs i = .slice A (rdTk g i).f1.length c ∧ (rdTk g i).f1.length ≤ c ∧ (Kd.int .i64).C W A (rdTk g i).f1.length (rdTk g i).f1) : kTk.C W (some ⟨B, 0, none⟩) g.length g := by
 refine ⟨rfl, by omega, fun _ => ⟨_, rfl, fun j p hj => ?_⟩⟩
 have hjl : j < g.length := (List.getElem?_eq_some_iff.1 hj).1
 have hp : rdTk g j = p := by
  unfold rdTk
  rw [List.getD_eq_getElem?_getD, hj]
  rfl
 obtain ⟨A, c, e, hl, hC⟩ := hv j hjl
 rw [hp] at e hl hC
 refine ⟨[.int .i64 p.f0, .slice A p.f1.length c, .int .i64 p.f2, .int .i64 p.f3], rfl, ⟨[.int .i64 p.f0], [.slice A p.f1.length c, .int .i64 p.f2, .int .i64 p.f3], rfl, rfl, ⟨[.slice A p.f1.length c], [.int .i64 p.f2, .int .i64 p.f3], rfl, ⟨A, c, rfl, hl, hC⟩, ⟨[.int .i64 p.f2], [.int .i64 p.f3], rfl, rfl, rfl⟩⟩⟩, fun i u hu => ?_⟩
 obtain ⟨c0, c1, c2, c3⟩ := cellT_at g vs j
 rw [hp] at c0 c2 c3
 rw [e] at c1
 rw [plain_add]
 have hi : i < 4 := by
  have := (List.getElem?_eq_some_iff.1 hu).1
  simpa using this
 have hq : j * kTk.sz + i < g.length * 4 := by
  show j * 4 + i < g.length * 4
  omega
 rw [h.cell hq]
 show some (cellT g vs (j * 4 + i)) = some u
 rcases i with _ | _ | _ | _ | i
 ·
  rw [Nat.add_zero, c0]
  simpa using hu
 ·
  rw [c1]
  simpa using hu
 ·
  rw [c2]
  simpa using hu
 ·
  rw [c3]
  simpa using hu
 ·
  omega
end Go.Proofs.YtlapphhcficbjaaDoor

namespace Go.Proofs.YtlapphhcficbjaaDoor
set_option linter.unusedVariables false
set_option linter.unusedSimpArgs false
open Go.RowKit Go.Shelf Bits
open Go.Proofs.YtlapphhcficbjaaDoorW.PrintWords Go.Proofs.YtlapphhcficbjaaDoorW.PrintLast Go.Proofs.YtlapphhcficbjaaDoorW.PrintMore
attribute [local go_sem] Oper.semAt_some
theorem run_makeX (n : Nat) (hn : n ≤ 2000000) (W : World) : (Instr.makeSlice 24 (Value.int IntKind.i64 (n : Int)) (Value.int IntKind.i64 (n : Int))).run Tryd.prog W = .ok (.slice (some ⟨W.heap.size, 0, none⟩) n n) (W.alloc (.cells (zeroI n) 3)) := by
 obtain ⟨i0, hi, hz0, hz1, hz2⟩ := info_parts infoInt
 rw [← madeI]
 have := run_make (P := Tryd.prog) W 24 3 i0 (.int .i64 0) Tryd.underlying24 hi hz0 .i64 .i64 (n : Int) (n : Int) (by omega) (by omega) (by rw [hz2]; omega) (by omega)
 simpa [hz1, Value.cells] using this
theorem zeroI_row (n : Nat) : zeroI n = ((List.replicate n (0 : Int)).map (Value.int .i64)).toArray := by
 unfold zeroI
 simp
def cpyL (l : List Int) (j : Nat) : List Int := (List.range l.length).map fun i => if i < j then l.getD i 0 else 0
theorem cpyL_len (l : List Int) (j : Nat) : (cpyL l j).length = l.length := by simp [cpyL]
theorem cpyL_zero (l : List Int) : cpyL l 0 = List.replicate l.length 0 := by
 unfold cpyL
 apply List.ext_getElem (by simp)
 intro i h1 h2
 simp
theorem cpyL_set (l : List Int) (j : Nat) : (cpyL l j).set j (l.getD j 0) = cpyL l (j + 1) := by
 unfold cpyL
 apply List.ext_getElem (by simp)
 intro i h1 h2
 simp only [List.getElem_set, List.getElem_map, List.getElem_range]
 by_cases h : j = i
 ·
  rw [if_pos h, if_pos (by omega), h]
 ·
  rw [if_neg h]
  by_cases h' : i < j
  ·
   rw [if_pos h', if_pos (by omega)]
  ·
   rw [if_neg h', if_neg (by omega)]
theorem cpyL_end (l : List Int) : cpyL l l.length = l := by
 unfold cpyL
 apply List.ext_getElem (by simp)
 intro i h1 h2
 simp only [List.length_map, List.length_range] at h1
 simp [h1]
theorem IRow.C {W : World} {b : Nat} {xs : List Int} (h : IRow W b xs) (hl : xs.length ≤ 2000000) : (Kd.int .i64).C W (some ⟨b, 0, none⟩) xs.length xs := by
 refine ⟨rfl, by omega, fun _ => ⟨_, rfl, fun j p hj => ⟨[.int .i64 p], rfl, rfl, fun i u hu => ?_⟩⟩⟩
 have hjl : j < xs.length := (List.getElem?_eq_some_iff.1 hj).1
 have hi : i = 0 := by
  have := (List.getElem?_eq_some_iff.1 hu).1
  simp at this
  exact this
 subst hi
 rw [plain_add]
 have hq : j * (Kd.int .i64).sz + 0 = j := by
  show j * 1 + 0 = j
  omega
 rw [hq, h.cell j hjl, List.getD_eq_getElem?_getD, hj]
 simpa using hu
set_option maxRecDepth 100000 in
set_option maxHeartbeats 2000000 in
theorem toIntS_calls (A : Option Addr) (c : Nat) (l : List Int) (hl : l.length ≤ 1048576) (w : World) (hr : (Kd.int .i64).C w A l.length l) :
  Calls Tryd.prog 31 #[.slice A l.length c] w fun e w' => ∃ b, e = .returned (.slice (some ⟨b, 0, none⟩) l.length l.length) ∧ w.heap.size ≤ b ∧ IRow w' b l ∧ Below w.heap.size w w' := by
 have HR := Lib.hid hr
 have hmk := run_makeX l.length (by omega)
 clear hr
 go_enter Tryd.func31, Tryd.ntmps31
 go_wp2
 clear hmk
 have hI0 : IRow (w.alloc (.cells (zeroI l.length) 3)) w.heap.size (cpyL l 0) := by
  rw [cpyL_zero, zeroI_row]
  exact World.alloc_heap_new w _
 have hB0 : Below w.heap.size w (w.alloc (.cells (zeroI l.length) 3)) := (Below.refl _ _).alloc (Nat.le_refl _) _
 go_loopw [4] (fun i wr => ∃ j, j ≤ l.length ∧ i = .int .i64 (j : Nat) ∧ IRow wr w.heap.size (cpyL l j) ∧ Below w.heap.size w wr) (fun i _ => l.length - (intOf i).toNat)
 case atStart => exact ⟨0, Nat.zero_le _, rfl, hI0, hB0⟩
 case round =>
  clear hI0 hB0
  obtain ⟨j, hj, rfl, hI, hB⟩ := hrel
  by_cases hjl : j < l.length
  ·
   obtain ⟨ad, rfl, cx⟩ := at_num (Kd.C_below HR.out hB) j hjl
   have hjj : decide ((j : Int) < (l.length : Int)) = true := decide_eq_true (by omega)
   have hji : (j : Int) < (l.length : Int) := by omega
   have cr := hI.cell j (by rw [cpyL_len]; exact hjl)
   have fr := hI.frozen j
   have HE := Lib.hid (cpyL_set l j)
   have HI := Lib.hid hI
   have HB := Lib.hid hB
   generalize l.getD j 0 = x at cx HE
   clear hI hB
   go_wp2
   go_roundw
   case rel => exact ⟨j + 1, by omega, by go_num, by rw [← HE.out]; exact HI.out.set j x, HB.out.setCell (p := ⟨w.heap.size, j, none⟩) (Nat.le_refl _) _⟩
   case measure => simp [intOf]; omega
  ·
   obtain rfl : j = l.length := by omega
   have hjj : decide ((l.length : Int) < (l.length : Int)) = false := decide_eq_false (by omega)
   rw [cpyL_end] at hI
   go_wp2
   go_ret
   exact ⟨_, rfl, Nat.le_refl _, hI, hB⟩
def szI (left : Int) (n : Nat) : Int := if left < n then -1 else left - n
theorem szIntS_calls (A : Option Addr) (c : Nat) (l : List Int) (left : Int) (h0 : 0 ≤ left ∧ left ≤ 1048576) (hl : l.length ≤ 9223372036854775807) (w : World) :
  Calls Tryd.prog 104 #[.slice A l.length c, .int .i64 left] w fun e w' => e = .returned (.int .i64 (szI left l.length)) ∧ w' = w := by
 have hwr : IntKind.i64.wrap (left - (l.length : Int)) = left - l.length := IntWalk.i64_in _ (by omega)
 by_cases hn : left < (l.length : Int)
 ·
  have dn : decide (left - (l.length : Int) < 0) = true := by apply decide_eq_true; clear hwr; omega
  have HF : Hid (szI left l.length = -1) := Lib.hid (if_pos hn)
  clear hn h0
  go_enter Tryd.func104, Tryd.ntmps104
  go_wp2
  go_ret
  exact ⟨ret_int HF.out.symm, rfl⟩
 ·
  have dn : decide (left - (l.length : Int) < 0) = false := by apply decide_eq_false; clear hwr; omega
  have HF : Hid (szI left l.length = left - l.length) := Lib.hid (if_neg hn)
  clear hn h0
  go_enter Tryd.func104, Tryd.ntmps104
  go_wp2
  go_ret
  exact ⟨ret_int HF.out.symm, rfl⟩
set_option maxRecDepth 100000 in
set_option maxHeartbeats 2000000 in
theorem eqIntS_same (A : Option Addr) (c : Nat) (a : List Int) (B : Option Addr) (d : Nat) (w : World) (hr : (Kd.int .i64).C w A a.length a) (hr' : (Kd.int .i64).C w B a.length a) :
  Calls Tryd.prog 35 #[.slice A a.length c, .slice B a.length d] w fun e w' => e = .returned (.bool true) ∧ Below w.heap.size w w' := by
 have HR := Lib.hid hr
 have HR' := Lib.hid hr'
 have hla := (C_len hr).2
 clear hr hr'
 have dl : ((a.length : Int) != (a.length : Int)) = false := bne_self_eq_false _
 go_enter Tryd.func35, Tryd.ntmps35
 go_wp2
 go_loopw [5] (fun i wr => ∃ j, j ≤ a.length ∧ i = .int .i64 (j : Nat) ∧ Below w.heap.size w wr) (fun i _ => a.length - (intOf i).toNat)
 case atStart => exact ⟨0, Nat.zero_le _, rfl, Below.refl _ _⟩
 case round =>
  obtain ⟨j, hj, rfl, hB⟩ := hrel
  by_cases hjl : j < a.length
  ·
   have hjj : decide ((j : Int) < (a.length : Int)) = true := decide_eq_true (by omega)
   have hja : (j : Int) < (a.length : Int) := by omega
   obtain ⟨ad, rfl, cx⟩ := at_num (Kd.C_below HR.out hB) j hjl
   obtain ⟨bd, rfl, cy⟩ := at_num (Kd.C_below HR'.out hB) j hjl
   generalize a.getD j 0 = x at cx cy
   have dn : (x != x) = false := bne_self_eq_false _
   have HB := Lib.hid hB
   clear hB
   go_wp2
   (try go_quiet (fail))
   (try go_wp2)
   go_roundw
   case rel => exact ⟨j + 1, by omega, by go_num, by repeat (first | exact HB.out | apply pw_below_drewN)⟩
   case measure => simp [intOf]; omega
  ·
   obtain rfl : j = a.length := by omega
   have hjj : decide ((a.length : Int) < (a.length : Int)) = false := decide_eq_false (by omega)
   go_wp2
   go_ret
   exact ⟨rfl, hB⟩
set_option maxRecDepth 100000 in
set_option maxHeartbeats 2000000 in
theorem toTask_calls (f0 : Int) (f1 : List Int) (f2 f3 : Int) (A : Option Addr) (c : Nat) (hl : f1.length ≤ 1048576) (w : World) (hr : (Kd.int .i64).C w A f1.length f1) :
  Calls Tryd.prog 72 #[.agg #[.int .i64 f0, .slice A f1.length c, .int .i64 f2, .int .i64 f3]] w fun e w' => ∃ b, e = .returned (.agg #[.int .i64 f0, .slice (some ⟨b, 0, none⟩) f1.length f1.length, .int .i64 f2, .int .i64 f3]) ∧ w.heap.size ≤ b ∧ IRow w' b f1 ∧ Below w.heap.size w w' := by
 have HTI := Lib.hid (fun (W : World) (hW : Below w.heap.size w W) => toIntS_calls A c f1 hl W (Kd.C_below hr hW))
 clear hr
 go_enter Tryd.func72, Tryd.ntmps72
 go_upto_region 3 with (fail)
 generalize hW0 : (((w.alloc (.cells #[.int .i64 f0, .slice A f1.length c, .int .i64 f2, .int .i64 f3] 93)).alloc (.cells #[.int .i64 0, .slice none 0 0, .int .i64 0, .int .i64 0] 41)).alloc (.cells #[.int .i64 f0, .slice none 0 0, .int .i64 0, .int .i64 0] 41) : World) = W0
 have b1 : W0.heap[w.heap.size]? = some (.cells #[.int .i64 f0, .slice A f1.length c, .int .i64 f2, .int .i64 f3] 93 (0, 0)) := by
  rw [← hW0]
  exact blk_alloc (blk_alloc (World.alloc_heap_new w _) _) _
 have b2 : W0.heap[w.heap.size + 1]? = some (.cells #[.int .i64 0, .slice none 0 0, .int .i64 0, .int .i64 0] 41 (0, 0)) := by
  rw [← hW0]
  have h := World.alloc_heap_new (w.alloc (.cells #[.int .i64 f0, .slice A f1.length c, .int .i64 f2, .int .i64 f3] 93)) (.cells #[.int .i64 0, .slice none 0 0, .int .i64 0, .int .i64 0] 41)
  rw [World.size_alloc] at h
  exact blk_alloc h _
 have b3 : W0.heap[w.heap.size + 1 + 1]? = some (.cells #[.int .i64 f0, .slice none 0 0, .int .i64 0, .int .i64 0] 41 (0, 0)) := by
  rw [← hW0]
  have h := World.alloc_heap_new ((w.alloc (.cells #[.int .i64 f0, .slice A f1.length c, .int .i64 f2, .int .i64 f3] 93)).alloc (.cells #[.int .i64 0, .slice none 0 0, .int .i64 0, .int .i64 0] 41)) (.cells #[.int .i64 f0, .slice none 0 0, .int .i64 0, .int .i64 0] 41)
  rw [World.size_alloc, World.size_alloc] at h
  exact h
 have hB0 : Below w.heap.size w W0 := by
  rw [← hW0]
  exact (((Below.refl _ w).alloc (Nat.le_refl _) _).alloc (by simp) _).alloc (by simp; omega) _
 have hz0 : W0.heap.size = w.heap.size + 1 + 1 + 1 := by rw [← hW0]; simp
 have HZ0 := Lib.hid hz0
 clear hW0 hz0
 have HB0 := Lib.hid hB0
 have HTI2 := Lib.hid (HTI.out W0 hB0)
 have c11 : W0.cell? ⟨w.heap.size, 1, none⟩ = some (.slice A f1.length c) := (blk_cell b1 1).trans rfl
 have HBL := Lib.hid (And.intro b1 (And.intro b2 b3))
 clear b1 b2 b3 hB0
 go_wp2_with (go_at_call 31; refine HTI2.out.mono ?_; rintro e w3 ⟨b, rfl, hb, hI, hB3⟩; have d1 := blk_below HBL.out.1 hB3; have d3 := blk_below HBL.out.2.2 hB3; have d2 := blk_below HBL.out.2.1 hB3; have k12 := (blk_cell d1 2).trans rfl; have k13 := (blk_cell d1 3).trans rfl; have k31 := (blk_cell d3 1).trans rfl; have k30 := (blk_cell d3 0).trans rfl; have k32 := (blk_cell d3 2).trans rfl; have k33 := (blk_cell d3 3).trans rfl; have k20 := (blk_cell d2 0).trans rfl; have k21 := (blk_cell d2 1).trans rfl; have k22 := (blk_cell d2 2).trans rfl; have k23 := (blk_cell d2 3).trans rfl; have r3 := blk_frozen d3; have r2 := blk_frozen d2; have HX := Lib.hid (And.intro hb (And.intro hI (And.intro hB3 (And.intro d2 d3)))); clear hb hI hB3 d1 d2 d3)
 obtain ⟨hb, hI, hB3, d2, d3⟩ := HX.out
 have hz0 := HZ0.out
 have hg := blk_set (blk_set (blk_set (blk_set (blk_far (blk_far (blk_far d2 (p := ⟨w.heap.size + 1 + 1, 1, none⟩) (by simp) (.slice (some ⟨b, 0, none⟩) f1.length f1.length)) (p := ⟨w.heap.size + 1 + 1, 2, none⟩) (by simp) (.int .i64 f2)) (p := ⟨w.heap.size + 1 + 1, 3, none⟩) (by simp) (.int .i64 f3)) 0 (.int .i64 f0)) 1 (.slice (some ⟨b, 0, none⟩) f1.length f1.length)) 2 (.int .i64 f2)) 3 (.int .i64 f3)
 have hk : ((((#[Value.int .i64 0, Value.slice none 0 0, Value.int .i64 0, Value.int .i64 0].setIfInBounds 0 (Value.int .i64 f0)).setIfInBounds 1 (Value.slice (some ⟨b, 0, none⟩) f1.length f1.length)).setIfInBounds 2 (Value.int .i64 f2)).setIfInBounds 3 (Value.int .i64 f3)) = #[Value.int .i64 f0, Value.slice (some ⟨b, 0, none⟩) f1.length f1.length, Value.int .i64 f2, Value.int .i64 f3] := by simp
 rw [hk] at hg
 refine bodyPost_ret (results_cell_row rfl _ _ (w.heap.size + 1) 41 _ (0, 0) _ rfl hg Tryd.underlying41 rfl (by kernel_rfl)) rfl ?_
 refine ⟨b, rfl, by omega, ?_, ?_⟩
 ·
  exact ((((((hI.far (p := ⟨w.heap.size + 1 + 1, 1, none⟩) (by show b ≠ w.heap.size + 1 + 1; omega) _).far (p := ⟨w.heap.size + 1 + 1, 2, none⟩) (by show b ≠ w.heap.size + 1 + 1; omega) _).far (p := ⟨w.heap.size + 1 + 1, 3, none⟩) (by show b ≠ w.heap.size + 1 + 1; omega) _).far (p := ⟨w.heap.size + 1, 0, none⟩) (by show b ≠ w.heap.size + 1; omega) _).far (p := ⟨w.heap.size + 1, 1, none⟩) (by show b ≠ w.heap.size + 1; omega) _).far (p := ⟨w.heap.size + 1, 2, none⟩) (by show b ≠ w.heap.size + 1; omega) _).far (p := ⟨w.heap.size + 1, 3, none⟩) (by show b ≠ w.heap.size + 1; omega) _
 ·
  have h3 := HB0.out.trans (hB3.mono (by omega))
  exact ((((((h3.setCell (p := ⟨w.heap.size + 1 + 1, 1, none⟩) (by show w.heap.size ≤ w.heap.size + 1 + 1; omega) _).setCell (p := ⟨w.heap.size + 1 + 1, 2, none⟩) (by show w.heap.size ≤ w.heap.size + 1 + 1; omega) _).setCell (p := ⟨w.heap.size + 1 + 1, 3, none⟩) (by show w.heap.size ≤ w.heap.size + 1 + 1; omega) _).setCell (p := ⟨w.heap.size + 1, 0, none⟩) (by show w.heap.size ≤ w.heap.size + 1; omega) _).setCell (p := ⟨w.heap.size + 1, 1, none⟩) (by show w.heap.size ≤ w.heap.size + 1; omega) _).setCell (p := ⟨w.heap.size + 1, 2, none⟩) (by show w.heap.size ≤ w.heap.size + 1; omega) _).setCell (p := ⟨w.heap.size + 1, 3, none⟩) (by show w.heap.size ≤ w.heap.size + 1; omega) _
end Go.Proofs.YtlapphhcficbjaaDoor

namespace Go.Proofs.YtlapphhcficbjaaDoor
set_option linter.unusedVariables false
set_option linter.unusedSimpArgs false
open Go.RowKit Go.Shelf Bits
open Go.Proofs.YtlapphhcficbjaaDoorW.PrintWords Go.Proofs.YtlapphhcficbjaaDoorW.PrintLast Go.Proofs.YtlapphhcficbjaaDoorW.PrintMore
attribute [local go_sem] Oper.semAt_some
def zT (q : Nat) : Value := if q % 4 = 1 then .slice none 0 0 else .int .i64 0
theorem madeT (n : Nat) : madeCells #[Value.int .i64 0, .slice none 0 0, .int .i64 0, .int .i64 0] n = ((List.range n).map zT).toArray := by
 apply Array.ext
 ·
  simp [madeCells]
 ·
  intro i h1 h2
  have h4 : i % 4 = 0 ∨ i % 4 = 1 ∨ i % 4 = 2 ∨ i % 4 = 3 := by omega
  rcases h4 with h | h | h | h <;> simp [madeCells, zT, h]
theorem infoTaskX : (Tryd.prog.info? 41).map (fun i => (i.zero, i.size, i.bytes)) = some (some (.agg #[.int .i64 0, .slice none 0 0, .int .i64 0, .int .i64 0]), 4, 48) := by kernel_rfl
theorem run_makeT (n : Nat) (hn : n ≤ 2000000) (W : World) : (Instr.makeSlice 23 (Value.int IntKind.i64 (n : Int)) (Value.int IntKind.i64 (n : Int))).run Tryd.prog W = .ok (.slice (some ⟨W.heap.size, 0, none⟩) n n) (W.alloc (.cells ((List.range (n * 4)).map zT).toArray 41)) := by
 obtain ⟨i0, hi, hz0, hz1, hz2⟩ := info_parts infoTaskX
 rw [← madeT]
 have := run_make (P := Tryd.prog) W 23 41 i0 (.agg #[.int .i64 0, .slice none 0 0, .int .i64 0, .int .i64 0]) Tryd.underlying23 hi hz0 .i64 .i64 (n : Int) (n : Int) (by omega) (by omega) (by rw [hz2]; omega) (by omega)
 simpa [hz1, Value.cells] using this
def cpyT (g : List Tk) (vs : Nat → Value) (j q : Nat) : Value := if q < j * 4 then cellT g vs q else zT q
theorem cpyT_end (g : List Tk) (vs : Nat → Value) (q : Nat) (h : q < g.length * 4) : cpyT g vs g.length q = cellT g vs q := if_pos h
theorem cpyT_step (g : List Tk) (vs : Nat → Value) (v : Value) (j q : Nat) : (if q = j * 4 + 3 then Value.int .i64 (rdTk g j).f3 else if q = j * 4 + 2 then .int .i64 (rdTk g j).f2 else if q = j * 4 + 1 then v else if q = j * 4 then .int .i64 (rdTk g j).f0 else cpyT g vs j q) = cpyT g (fun x => if x = j then v else vs x) (j + 1) q := by
 obtain ⟨a0, a1, a2, a3⟩ := cellT_at g (fun x => if x = j then v else vs x) j
 unfold cpyT
 by_cases h3 : q = j * 4 + 3
 ·
  rw [if_pos h3, if_pos (by omega), h3, a3]
 rw [if_neg h3]
 by_cases h2 : q = j * 4 + 2
 ·
  rw [if_pos h2, if_pos (by omega), h2, a2]
 rw [if_neg h2]
 by_cases h1 : q = j * 4 + 1
 ·
  rw [if_pos h1, if_pos (by omega), h1, a1, if_pos rfl]
 rw [if_neg h1]
 by_cases h0 : q = j * 4
 ·
  rw [if_pos h0, if_pos (by omega), h0, a0]
 rw [if_neg h0]
 by_cases hl : q < j * 4
 ·
  have e : cellT g vs q = cellT g (fun x => if x = j then v else vs x) q := by
   unfold cellT
   have e1 : (if q / 4 = j then v else vs (q / 4)) = vs (q / 4) := if_neg (by omega)
   show _ = (if q % 4 = 0 then Value.int .i64 (rdTk g (q / 4)).f0 else if q % 4 = 1 then (if q / 4 = j then v else vs (q / 4)) else if q % 4 = 2 then .int .i64 (rdTk g (q / 4)).f2 else .int .i64 (rdTk g (q / 4)).f3)
   rw [e1]
  rw [if_pos hl, if_pos (show q < (j + 1) * 4 by omega), e]
 ·
  rw [if_neg hl, if_neg (show ¬ q < (j + 1) * 4 by omega)]
def NRow (W : World) (lo b : Nat) (g : List Tk) (vs : Nat → Value) (j : Nat) : Prop := ∀ i, i < j → ∃ n, vs i = .slice (some ⟨n, 0, none⟩) (rdTk g i).f1.length (rdTk g i).f1.length ∧ lo ≤ n ∧ n ≠ b ∧ IRow W n (rdTk g i).f1
theorem NRow.keep {W W' : World} {lo b : Nat} {g : List Tk} {vs : Nat → Value} {j : Nat} (h : NRow W lo b g vs j) (hk : ∀ n, n ≠ b → n < W.heap.size → W'.heap[n]? = W.heap[n]?) : NRow W' lo b g vs j := fun i hi => by
 obtain ⟨n, h1, h2, h3, h4⟩ := h i hi
 exact ⟨n, h1, h2, h3, (hk n h3 (blk_lt h4)).trans h4⟩
set_option maxRecDepth 100000 in
set_option maxHeartbeats 4000000 in
theorem toTaskS_calls (A : Option Addr) (c : Nat) (g : List Tk) (hl : g.length ≤ 1048576) (hn : ∀ i, (rdTk g i).f1.length ≤ 1048576) (w : World) (hr : kTk.C w A g.length g) :
  Calls Tryd.prog 30 #[.slice A g.length c] w fun e w' => ∃ b vs, e = .returned (.slice (some ⟨b, 0, none⟩) g.length g.length) ∧ w.heap.size ≤ b ∧ RowV w' b (g.length * 4) 41 (cellT g vs) ∧ NRow w' w.heap.size b g vs g.length ∧ Below w.heap.size w w' := by
 have HR := Lib.hid hr
 have HN := Lib.hid hn
 have hmk := run_makeT g.length (by omega)
 clear hr hn
 go_enter Tryd.func30, Tryd.ntmps30
 go_wp2
 clear hmk
 have hI0 : RowV (w.alloc (.cells ((List.range (g.length * 4)).map zT).toArray 41)) w.heap.size (g.length * 4) 41 (cpyT g (fun _ => .bool false) 0) := by
  have : RowV (w.alloc (.cells ((List.range (g.length * 4)).map zT).toArray 41)) w.heap.size (g.length * 4) 41 zT := World.alloc_heap_new w _
  exact this.congr (fun q _ => (if_neg (by omega)).symm)
 have hB0 : Below w.heap.size w (w.alloc (.cells ((List.range (g.length * 4)).map zT).toArray 41)) := (Below.refl _ _).alloc (Nat.le_refl _) _
 go_loopw [4] (fun i wr => ∃ j vs, j ≤ g.length ∧ i = .int .i64 (j : Nat) ∧ RowV wr w.heap.size (g.length * 4) 41 (cpyT g vs j) ∧ NRow wr w.heap.size w.heap.size g vs j ∧ Below w.heap.size w wr) (fun i _ => g.length - (intOf i).toNat)
 case atStart => exact ⟨0, _, Nat.zero_le _, rfl, hI0, fun i hi => absurd hi (by omega), hB0⟩
 case round =>
  clear hI0 hB0
  obtain ⟨j, vs, hj, rfl, hI, hN, hB⟩ := hrel
  by_cases hjl : j < g.length
  ·
   obtain ⟨ad, A1, c1, rfl, hc0, hc1, hc2, hc3, hlc, hC⟩ := at_Tk (Kd.C_below HR.out hB) j hjl
   have hjj : decide ((j : Int) < (g.length : Int)) = true := decide_eq_true (by omega)
   have hji : (j : Int) < (g.length : Int) := by omega
   have HTT := Lib.hid (fun W (h : Below wr.heap.size wr W) => toTask_calls (rdTk g j).f0 (rdTk g j).f1 (rdTk g j).f2 (rdTk g j).f3 A1 c1 (HN.out j) W (Kd.C_below hC h))
   have HX := Lib.hid (And.intro hI (And.intro hN hB))
   have HST := Lib.hid (cpyT_step g vs)
   generalize hf0 : (rdTk g j).f0 = f0 at hc0 HTT
   generalize hf1 : (rdTk g j).f1 = f1 at hc1 HTT
   generalize hf2 : (rdTk g j).f2 = f2 at hc2 HTT
   generalize hf3 : (rdTk g j).f3 = f3 at hc3 HTT
   have HF := Lib.hid (And.intro hf0 (And.intro hf1 (And.intro hf2 hf3)))
   clear hI hN hB hlc hC hf0 hf1 hf2 hf3
   go_wp2_with (go_at_call 72; refine (HTT.out _ (Below.refl _ _)).mono ?_; rintro e w3 ⟨b, rfl, hb, hI3, hB3⟩; have r3 := blk_frozen (blk_below HX.out.1 hB3); have k0 := (HX.out.1.below hB3).cell (q := j * 4) (by omega); have k1 := (HX.out.1.below hB3).cell (q := j * 4 + 1) (by omega); have k2 := (HX.out.1.below hB3).cell (q := j * 4 + 2) (by omega); have k3 := (HX.out.1.below hB3).cell (q := j * 4 + 3) (by omega); have HY := Lib.hid (And.intro hb (And.intro hI3 hB3)); clear hb hI3 hB3)
   go_roundw
   case rel =>
    obtain ⟨hI, hN, hB⟩ := HX.out
    obtain ⟨hb, hI3, hB3⟩ := HY.out
    obtain ⟨rfl, rfl, rfl, rfl⟩ := HF.out
    have hlt := hI.lt
    have hsz := hB.size
    have hne : b ≠ w.heap.size := by omega
    refine ⟨j + 1, fun x => if x = j then .slice (some ⟨b, 0, none⟩) (rdTk g j).f1.length (rdTk g j).f1.length else vs x, by omega, by go_num, ?_, ?_, ?_⟩
    ·
     exact (((((hI.below hB3).set (j * 4) _).set (j * 4 + 1) _).set (j * 4 + 2) _).set (j * 4 + 3) _).congr (fun q _ => cpyT_step g vs _ j q)
    ·
     intro i hi
     by_cases e : i = j
     ·
      subst e
      exact ⟨b, if_pos rfl, by omega, hne, (((hI3.far (p := ⟨w.heap.size, i * 4, none⟩) hne _).far (p := ⟨w.heap.size, i * 4 + 1, none⟩) hne _).far (p := ⟨w.heap.size, i * 4 + 2, none⟩) hne _).far (p := ⟨w.heap.size, i * 4 + 3, none⟩) hne _⟩
     ·
      obtain ⟨n, h1, h2, h3, h4⟩ := hN i (by omega)
      have h5 : IRow w3 n (rdTk g i).f1 := blk_below h4 hB3
      exact ⟨n, (if_neg e).trans h1, h2, h3, (((h5.far (p := ⟨w.heap.size, j * 4, none⟩) h3 _).far (p := ⟨w.heap.size, j * 4 + 1, none⟩) h3 _).far (p := ⟨w.heap.size, j * 4 + 2, none⟩) h3 _).far (p := ⟨w.heap.size, j * 4 + 3, none⟩) h3 _⟩
    ·
     have h0 := hB.trans (hB3.mono hsz)
     exact (((h0.setCell (p := ⟨w.heap.size, j * 4, none⟩) (Nat.le_refl _) _).setCell (p := ⟨w.heap.size, j * 4 + 1, none⟩) (Nat.le_refl _) _).setCell (p := ⟨w.heap.size, j * 4 + 2, none⟩) (Nat.le_refl _) _).setCell (p := ⟨w.heap.size, j * 4 + 3, none⟩) (Nat.le_refl _) _
   case measure => simp [intOf]; omega
  ·
   obtain rfl : j = g.length := by omega
   have hjj : decide ((g.length : Int) < (g.length : Int)) = false := decide_eq_false (by omega)
   go_wp2
   go_ret
   exact ⟨_, vs, rfl, Nat.le_refl _, hI.congr (fun q hq => cpyT_end g vs q hq), hN, hB⟩
theorem toTaskS_C (A : Option Addr) (c : Nat) (g : List Tk) (hl : g.length ≤ 1048576) (hn : ∀ i, (rdTk g i).f1.length ≤ 1048576) (w : World) (hr : kTk.C w A g.length g) :
  Calls Tryd.prog 30 #[.slice A g.length c] w fun e w' => ∃ b, e = .returned (.slice (some ⟨b, 0, none⟩) g.length g.length) ∧ kTk.C w' (some ⟨b, 0, none⟩) g.length g ∧ Below w.heap.size w w' :=
 (toTaskS_calls A c g hl hn w hr).mono fun e w' ⟨b, vs, h1, h2, h3, h4, h5⟩ => ⟨b, h1, C_of_RowV h3 (by omega) (fun i hi => by
  obtain ⟨n, e1, _, _, e2⟩ := h4 i hi
  exact ⟨_, _, e1, Nat.le_refl _, e2.C (by have := hn i; omega)⟩), h5⟩
theorem toIntS_C (A : Option Addr) (c : Nat) (l : List Int) (hl : l.length ≤ 1048576) (w : World) (hr : (Kd.int .i64).C w A l.length l) :
  Calls Tryd.prog 31 #[.slice A l.length c] w fun e w' => ∃ b, e = .returned (.slice (some ⟨b, 0, none⟩) l.length l.length) ∧ (Kd.int .i64).C w' (some ⟨b, 0, none⟩) l.length l ∧ Below w.heap.size w w' :=
 (toIntS_calls A c l hl w hr).mono fun e w' ⟨b, h1, h2, h3, h4⟩ => ⟨b, h1, h3.C (by omega), h4⟩
def szF (g : List Tk) : Nat → Int
 | 0 => szI 1048576 g.length
 | j + 1 => if szF g j < 0 then -1 else szI (szF g j) (rdTk g j).f1.length
theorem szI_cases (L : Int) (n : Nat) (h0 : 0 ≤ L) : szI L n = -1 ∨ (szI L n = L - n ∧ (n : Int) ≤ L) := by
 unfold szI
 by_cases h : L < (n : Int)
 ·
  exact .inl (if_pos h)
 ·
  exact .inr ⟨if_neg h, by omega⟩
theorem szF_max (g : List Tk) : ∀ j, szF g j ≤ 1048576
 | 0 => by
  rcases szI_cases 1048576 g.length (by omega) with h | h <;> (unfold szF; omega)
 | j + 1 => by
  have ih := szF_max g j
  unfold szF
  by_cases hn : szF g j < 0
  ·
   rw [if_pos hn]; omega
  ·
   rw [if_neg hn]
   rcases szI_cases (szF g j) (rdTk g j).f1.length (by omega) with h | h <;> omega
theorem szF_neg {g : List Tk} {j : Nat} (h : szF g j < 0) : szF g j = -1 := by
 cases j with
 | zero =>
  unfold szF at h ⊢
  rcases szI_cases 1048576 g.length (by omega) with e | e <;> omega
 | succ j =>
  unfold szF at h ⊢
  by_cases hn : szF g j < 0
  ·
   rw [if_pos hn]
  ·
   rw [if_neg hn] at h ⊢
   rcases szI_cases (szF g j) (rdTk g j).f1.length (by omega) with e | e <;> omega
theorem szF_after {g : List Tk} {j : Nat} (h : szF g j < 0) : ∀ d, szF g (j + d) = -1
 | 0 => szF_neg h
 | d + 1 => by
  have := szF_after h d
  show (if szF g (j + d) < 0 then -1 else szI (szF g (j + d)) (rdTk g (j + d)).f1.length) = -1
  rw [if_pos (by omega)]
theorem szF_step {g : List Tk} {j : Nat} (h : 0 ≤ szF g (j + 1)) : 0 ≤ szF g j ∧ ((rdTk g j).f1.length : Int) ≤ szF g j := by
 have h2 := h
 unfold szF at h2
 by_cases hn : szF g j < 0
 ·
  rw [if_pos hn] at h2; omega
 ·
  rw [if_neg hn] at h2
  rcases szI_cases (szF g j) (rdTk g j).f1.length (by omega) with e | e <;> omega
theorem szF_le {g : List Tk} : ∀ j, 0 ≤ szF g j → ∀ i, i < j → 0 ≤ szF g i ∧ ((rdTk g i).f1.length : Int) ≤ 1048576
 | 0, _, i, hi => absurd hi (by omega)
 | j + 1, h, i, hi => by
  have hs := szF_step h
  by_cases e : i = j
  ·
   rw [e]
   have := szF_max g j
   exact ⟨hs.1, by omega⟩
  ·
   exact szF_le j hs.1 i (by omega)
theorem szF_small {g : List Tk} (h : 0 ≤ szF g g.length) : g.length ≤ 1048576 ∧ ∀ i, (rdTk g i).f1.length ≤ 1048576 := by
 constructor
 ·
  have h0 : 0 ≤ szF g 0 := by
   by_cases e : g.length = 0
   ·
    rw [e] at h; exact h
   ·
    exact (szF_le g.length h 0 (by omega)).1
  unfold szF at h0
  rcases szI_cases 1048576 g.length (by omega) with e | e <;> omega
 ·
  intro i
  by_cases hi : i < g.length
  ·
   have := (szF_le g.length h i hi).2
   omega
  ·
   have : rdTk g i = zTk := by
    unfold rdTk
    rw [List.getD_eq_getElem?_getD, List.getElem?_eq_none (by omega)]
    rfl
   rw [this]
   exact Nat.zero_le _
theorem szTask_calls (f0 : Int) (f1 : List Int) (f2 f3 : Int) (A : Option Addr) (c : Nat) (L : Int) (h0 : 0 ≤ L ∧ L ≤ 1048576) (hl : f1.length ≤ 9223372036854775807) (w : World) :
  Calls Tryd.prog 71 #[.agg #[.int .i64 f0, .slice A f1.length c, .int .i64 f2, .int .i64 f3], .int .i64 L] w fun e w' => e = .returned (.int .i64 (szI L f1.length)) ∧ Below w.heap.size w w' := by
 have HSZ := Lib.hid (fun (W : World) => szIntS_calls A c f1 L h0 hl W)
 have hc := szI_cases L f1.length h0.1
 have hcase : szI L f1.length = -1 ∨ 0 ≤ szI L f1.length := by omega
 generalize szI L f1.length = r at HSZ hcase
 have hB0 : Below w.heap.size w (w.alloc (.cells #[.int .i64 f0, .slice A f1.length c, .int .i64 f2, .int .i64 f3] 93)) := (Below.refl _ _).alloc (Nat.le_refl _) _
 have HB0 := Lib.hid hB0
 clear h0 hl hc hB0
 rcases hcase with rfl | hr
 ·
  go_enter Tryd.func71, Tryd.ntmps71
  go_wp2_with (go_at_call 104; refine (HSZ.out _).mono ?_; rintro e w' ⟨rfl, rfl⟩)
  go_ret
  exact ⟨rfl, HB0.out⟩
 ·
  have dn : decide (r < 0) = false := decide_eq_false (by omega)
  clear hr
  go_enter Tryd.func71, Tryd.ntmps71
  go_wp2_with (go_at_call 104; refine (HSZ.out _).mono ?_; rintro e w' ⟨rfl, rfl⟩)
  go_ret
  exact ⟨rfl, HB0.out⟩
set_option maxRecDepth 100000 in
set_option maxHeartbeats 4000000 in
theorem szTaskS_calls (A : Option Addr) (c : Nat) (g : List Tk) (w : World) (hr : kTk.C w A g.length g) :
  Calls Tryd.prog 28 #[.slice A g.length c, .int .i64 1048576] w fun e w' => e = .returned (.int .i64 (szF g g.length)) ∧ Below w.heap.size w w' := by
 have hgm := (C_len hr).2
 have hwr : IntKind.i64.wrap ((1048576 : Int) - (g.length : Int)) = 1048576 - g.length := IntWalk.i64_in _ (by omega)
 by_cases hn : szF g 0 < 0
 ·
  have HF : Hid (szF g g.length = -1) := Lib.hid (by have := szF_after hn g.length; rw [Nat.zero_add] at this; exact this)
  have dn : decide ((1048576 : Int) - (g.length : Int) < 0) = true := by
   apply decide_eq_true
   unfold szF at hn
   rcases szI_cases 1048576 g.length (by omega) with e | e
   ·
    unfold szI at e
    by_cases h : (1048576 : Int) < (g.length : Int)
    ·
     omega
    ·
     rw [if_neg h] at e; omega
   ·
    omega
  clear hn hr hgm
  go_enter Tryd.func28, Tryd.ntmps28
  go_wp2
  go_ret
  exact ⟨ret_int HF.out.symm, Below.refl _ _⟩
 ·
  have h0 : szF g 0 = 1048576 - g.length ∧ (g.length : Int) ≤ 1048576 := by
   unfold szF at hn ⊢
   rcases szI_cases 1048576 g.length (by omega) with e | e
   ·
    omega
   ·
    exact e
  have dn : decide ((1048576 : Int) - (g.length : Int) < 0) = false := decide_eq_false (by omega)
  have HR := Lib.hid hr
  have HS0 := Lib.hid h0.1
  have HN0 := Lib.hid hn
  have hgl := h0.2
  clear hn hr hgm h0
  go_enter Tryd.func28, Tryd.ntmps28
  go_wp2
  clear hwr dn
  go_loopw [1, 5] (fun L i wr => ∃ (j : Nat), j ≤ g.length ∧ i = .int .i64 j ∧ L = .int .i64 (szF g j) ∧ 0 ≤ szF g j ∧ Below w.heap.size w wr) (fun _ i _ => g.length - (intOf i).toNat)
  case atStart => exact ⟨0, Nat.zero_le _, rfl, by rw [HS0.out], by have := HN0.out; omega, Below.refl _ _⟩
  case round =>
   obtain ⟨j, hj, rfl, rfl, hs0, hB⟩ := hrel
   by_cases hjl : j < g.length
   ·
    obtain ⟨ad, A1, c1, rfl, hc0, hc1, hc2, hc3, hlc, hC⟩ := at_Tk (Kd.C_below HR.out hB) j hjl
    have hjj : decide ((j : Int) < (g.length : Int)) = true := decide_eq_true (by omega)
    have hji : (j : Int) < (g.length : Int) := by omega
    have hmx := szF_max g j
    have HE : Hid (szF g (j + 1) = szI (szF g j) (rdTk g j).f1.length) := Lib.hid (if_neg (by omega))
    have HAF := Lib.hid (fun (h : szF g (j + 1) < 0) => szF_after h (g.length - (j + 1)))
    have hfin : j + 1 + (g.length - (j + 1)) = g.length := by omega
    rw [hfin] at HAF
    have HST := Lib.hid (fun (W : World) => szTask_calls (rdTk g j).f0 (rdTk g j).f1 (rdTk g j).f2 (rdTk g j).f3 A1 c1 (szF g j) ⟨hs0, hmx⟩ (C_len hC).2 W)
    rw [← HE.out] at HST
    have hcase : szF g (j + 1) = -1 ∨ 0 ≤ szF g (j + 1) := by
     by_cases h : szF g (j + 1) < 0
     ·
      exact .inl (szF_neg h)
     ·
      exact .inr (by omega)
    generalize hq : szF g (j + 1) = r at HST HAF hcase
    have HQ := Lib.hid hq
    have HB := Lib.hid hB
    generalize (rdTk g j).f0 = f0 at hc0 HST
    generalize (rdTk g j).f1 = f1 at hc1 HST
    generalize (rdTk g j).f2 = f2 at hc2 HST
    generalize (rdTk g j).f3 = f3 at hc3 HST
    generalize szF g j = L at HST ⊢
    clear hq hB hs0 hmx hlc hC hfin
    rcases hcase with rfl | hr0
    ·
     have HFF : Hid (szF g g.length = -1) := Lib.hid (HAF.out (by omega))
     go_wp2_with (go_at_call 71; refine (HST.out _).mono ?_; rintro e w3 ⟨rfl, hB3⟩; have HB := Lib.hid (HB.out.trans (hB3.mono HB.out.size)); clear hB3)
     go_ret
     exact ⟨ret_int HFF.out.symm, HB.out⟩
    ·
     have dn : decide (r < 0) = false := decide_eq_false (by omega)
     have HR0 := Lib.hid hr0
     clear hr0
     go_wp2_with (go_at_call 71; refine (HST.out _).mono ?_; rintro e w3 ⟨rfl, hB3⟩; have HB := Lib.hid (HB.out.trans (hB3.mono HB.out.size)); clear hB3)
     go_roundw
     case rel => exact ⟨j + 1, by omega, by go_num, by rw [HQ.out], by rw [HQ.out]; exact HR0.out, HB.out⟩
     case measure => simp [intOf]; omega
   ·
    obtain rfl : j = g.length := by omega
    have hjj : decide ((g.length : Int) < (g.length : Int)) = false := decide_eq_false (by omega)
    obtain ⟨r, hr⟩ : ∃ r, r = szF g g.length := ⟨_, rfl⟩
    have HF := Lib.hid hr
    rw [← hr]
    clear hs0 hr
    go_wp2
    go_ret
    exact ⟨ret_int HF.out, hB⟩
set_option maxRecDepth 100000 in
set_option maxHeartbeats 4000000 in
theorem eqTask_same (f0 : Int) (f1 : List Int) (f2 f3 : Int) (A : Option Addr) (c : Nat) (B : Option Addr) (d : Nat) (w : World) (hr : (Kd.int .i64).C w A f1.length f1) (hr' : (Kd.int .i64).C w B f1.length f1) :
  Calls Tryd.prog 74 #[.agg #[.int .i64 f0, .slice A f1.length c, .int .i64 f2, .int .i64 f3], .agg #[.int .i64 f0, .slice B f1.length d, .int .i64 f2, .int .i64 f3]] w fun e w' => e = .returned (.bool true) ∧ Below w.heap.size w w' := by
 have HE := Lib.hid (fun (W : World) (hW : Below w.heap.size w W) => eqIntS_same A c f1 B d W (Kd.C_below hr hW) (Kd.C_below hr' hW))
 have d0 : (f0 != f0) = false := bne_self_eq_false _
 have d2 : (f2 != f2) = false := bne_self_eq_false _
 have d3 : (f3 != f3) = false := bne_self_eq_false _
 clear hr hr'
 go_enter Tryd.func74, Tryd.ntmps74
 go_upto_region 3 with (fail)
 generalize hW0 : ((w.alloc (.cells #[.int .i64 f0, .slice A f1.length c, .int .i64 f2, .int .i64 f3] 41)).alloc (.cells #[.int .i64 f0, .slice B f1.length d, .int .i64 f2, .int .i64 f3] 41) : World) = W0
 have b1 : W0.heap[w.heap.size]? = some (.cells #[.int .i64 f0, .slice A f1.length c, .int .i64 f2, .int .i64 f3] 41 (0, 0)) := by
  rw [← hW0]
  exact blk_alloc (World.alloc_heap_new w _) _
 have b2 : W0.heap[w.heap.size + 1]? = some (.cells #[.int .i64 f0, .slice B f1.length d, .int .i64 f2, .int .i64 f3] 41 (0, 0)) := by
  rw [← hW0]
  have h := World.alloc_heap_new (w.alloc (.cells #[.int .i64 f0, .slice A f1.length c, .int .i64 f2, .int .i64 f3] 41)) (.cells #[.int .i64 f0, .slice B f1.length d, .int .i64 f2, .int .i64 f3] 41)
  rw [World.size_alloc] at h
  exact h
 have hB0 : Below w.heap.size w W0 := by
  rw [← hW0]
  exact ((Below.refl _ w).alloc (Nat.le_refl _) _).alloc (by simp) _
 clear hW0
 have HB0 := Lib.hid hB0
 have HE2 := Lib.hid (HE.out W0 hB0)
 have k11 : W0.cell? ⟨w.heap.size, 1, none⟩ = some (.slice A f1.length c) := (blk_cell b1 1).trans rfl
 have k21 : W0.cell? ⟨w.heap.size + 1, 1, none⟩ = some (.slice B f1.length d) := (blk_cell b2 1).trans rfl
 have HBL := Lib.hid (And.intro b1 b2)
 clear b1 b2 hB0
 go_wp2_with (go_at_call 35; refine HE2.out.mono ?_; rintro e w3 ⟨rfl, hB3⟩; have k12 := (blk_cell (blk_below HBL.out.1 hB3) 2).trans rfl; have k13 := (blk_cell (blk_below HBL.out.1 hB3) 3).trans rfl; have k22 := (blk_cell (blk_below HBL.out.2 hB3) 2).trans rfl; have k23 := (blk_cell (blk_below HBL.out.2 hB3) 3).trans rfl; have HB3 := Lib.hid (HB0.out.trans (hB3.mono HB0.out.size)); clear hB3)
 go_ret
 exact ⟨rfl, HB3.out⟩
set_option maxRecDepth 100000 in
set_option maxHeartbeats 4000000 in
theorem eqTaskS_same (A : Option Addr) (c : Nat) (g : List Tk) (B : Option Addr) (d : Nat) (w : World) (hr : kTk.C w A g.length g) (hr' : kTk.C w B g.length g) :
  Calls Tryd.prog 34 #[.slice A g.length c, .slice B g.length d] w fun e w' => e = .returned (.bool true) ∧ Below w.heap.size w w' := by
 have HR := Lib.hid hr
 have HR' := Lib.hid hr'
 have hla := (C_len hr).2
 clear hr hr'
 have dl : ((g.length : Int) != (g.length : Int)) = false := bne_self_eq_false _
 go_enter Tryd.func34, Tryd.ntmps34
 go_wp2
 clear dl
 go_loopw [5] (fun i wr => ∃ j, j ≤ g.length ∧ i = .int .i64 (j : Nat) ∧ Below w.heap.size w wr) (fun i _ => g.length - (intOf i).toNat)
 case atStart => exact ⟨0, Nat.zero_le _, rfl, Below.refl _ _⟩
 case round =>
  obtain ⟨j, hj, rfl, hB⟩ := hrel
  by_cases hjl : j < g.length
  ·
   have hjj : decide ((j : Int) < (g.length : Int)) = true := decide_eq_true (by omega)
   have hji : (j : Int) < (g.length : Int) := by omega
   obtain ⟨ad, A1, c1, rfl, hc0, hc1, hc2, hc3, _, hC⟩ := at_Tk (Kd.C_below HR.out hB) j hjl
   obtain ⟨bd, B1, e1, rfl, hd0, hd1, hd2, hd3, _, hD⟩ := at_Tk (Kd.C_below HR'.out hB) j hjl
   have HE := Lib.hid (fun (W : World) (hW : Below wr.heap.size wr W) => eqTask_same (rdTk g j).f0 (rdTk g j).f1 (rdTk g j).f2 (rdTk g j).f3 A1 c1 B1 e1 W (Kd.C_below hC hW) (Kd.C_below hD hW))
   generalize (rdTk g j).f0 = f0 at hc0 hd0 HE
   generalize (rdTk g j).f1 = f1 at hc1 hd1 HE
   generalize (rdTk g j).f2 = f2 at hc2 hd2 HE
   generalize (rdTk g j).f3 = f3 at hc3 hd3 HE
   have HB := Lib.hid hB
   clear hB hC hD
   go_wp2
   go_still_tail 8, mixed
   go_wp2_with (go_at_call 74; refine (HE.out wr.drew (Below.refl _ _).drew).mono ?_; rintro e w3 ⟨rfl, hB3⟩; have HB := Lib.hid (HB.out.drew.trans (hB3.mono HB.out.size)); clear hB3)
   go_roundw
   case rel => exact ⟨j + 1, by omega, by go_num, by repeat (first | exact HB.out | apply pw_below_drewN)⟩
   case measure => simp [intOf]; omega
  ·
   obtain rfl : j = g.length := by omega
   have hjj : decide ((g.length : Int) < (g.length : Int)) = false := decide_eq_false (by omega)
   go_wp2
   go_ret
   exact ⟨rfl, hB⟩
end Go.Proofs.YtlapphhcficbjaaDoor

namespace Go.Proofs.YtlapphhcficbjaaDoor
set_option linter.unusedVariables false
set_option linter.unusedSimpArgs false
open Go.RowKit Go.Shelf Bits
open Go.Proofs.YtlapphhcficbjaaDoorW.PrintWords Go.Proofs.YtlapphhcficbjaaDoorW.PrintLast Go.Proofs.YtlapphhcficbjaaDoorW.PrintMore
attribute [local go_sem] Oper.semAt_some
structure OnlyP (P : Nat → Prop) (w w' : World) : Prop where
 os : w'.os = w.os
 tape : w'.tape = w.tape
 output : w'.output = w.output
 size : w'.heap.size = w.heap.size
 block : ∀ q, ¬ P q → w'.heap[q]? = w.heap[q]?
 shape : ∀ (q : Nat) (cells : Array Value) (T : TypeId), w.heap[q]? = some (Obj.cells cells T (0, 0)) → ∃ cells' : Array Value, w'.heap[q]? = some (Obj.cells cells' T (0, 0)) ∧ cells'.size = cells.size
theorem OnlyP.refl (P : Nat → Prop) (w : World) : OnlyP P w w := ⟨rfl, rfl, rfl, rfl, fun _ _ => rfl, fun _ cells _ h => ⟨cells, h, rfl⟩⟩
theorem OnlyP.trans {P : Nat → Prop} {a b c : World} (h : OnlyP P a b) (k : OnlyP P b c) : OnlyP P a c :=
 ⟨k.os.trans h.os, k.tape.trans h.tape, k.output.trans h.output, k.size.trans h.size, fun q hq => (k.block q hq).trans (h.block q hq), fun q cells T hq => by
  obtain ⟨c1, h1, h2⟩ := h.shape q cells T hq
  obtain ⟨c2, k1, k2⟩ := k.shape q c1 T h1
  exact ⟨c2, k1, k2.trans h2⟩⟩
theorem OnlyP.mono {P Q : Nat → Prop} {a b : World} (h : OnlyP P a b) (hPQ : ∀ q, P q → Q q) : OnlyP Q a b :=
 ⟨h.os, h.tape, h.output, h.size, fun q hq => h.block q (fun hp => hq (hPQ q hp)), h.shape⟩
theorem OnlyP.below {P : Nat → Prop} {a b : World} (h : OnlyP P a b) {B : Nat} (hB : ∀ q, P q → B ≤ q) : Below B a b :=
 ⟨h.os, h.tape, h.output, by rw [h.size]; exact Nat.le_refl _, fun q hq => h.block q (fun hp => by have := hB q hp; omega)⟩
theorem OnlyP.set {P : Nat → Prop} {a b : World} (h : OnlyP P a b) {q : Nat} (hq : P q) (i : Nat) (v : Value) : OnlyP P a (b.setCell ⟨q, i, none⟩ v) :=
 h.trans ⟨rfl, rfl, rfl, by simp [World.setCell], fun r hr => Below.heap_setCell _ _ _ _ (by intro e; exact hr (by rw [e]; exact hq)), fun r cells T hr => by
  by_cases e : r = q
  ·
   subst e
   exact ⟨_, blk_set hr i v, by simp⟩
  ·
   exact ⟨cells, blk_far hr (p := ⟨q, i, none⟩) e v, rfl⟩⟩
theorem OnlyP.drew {P : Nat → Prop} {a b : World} (h : OnlyP P a b) : OnlyP P a b.drew := ⟨h.os, h.tape, h.output, h.size, h.block, h.shape⟩
def MRow (W : World) (A : Option Addr) (n sz lo hi : Nat) (T : TypeId) : Prop := n = 0 ∨ ∃ b cells, A = some ⟨b, 0, none⟩ ∧ lo ≤ b ∧ b < hi ∧ W.heap[b]? = some (.cells cells T (0, 0)) ∧ n * sz ≤ cells.size
theorem MRow.only {W W' : World} {A : Option Addr} {n sz lo hi : Nat} {T : TypeId} (h : MRow W A n sz lo hi T) {P : Nat → Prop} (hp : OnlyP P W W') : MRow W' A n sz lo hi T := by
 rcases h with h | ⟨b, cells, h1, h2, h3, h4, h5⟩
 ·
  exact .inl h
 ·
  obtain ⟨c', k1, k2⟩ := hp.shape b cells T h4
  exact .inr ⟨b, c', h1, h2, h3, k1, by omega⟩
theorem MRow.below {W W' : World} {A : Option Addr} {n sz lo hi : Nat} {T : TypeId} (h : MRow W A n sz lo hi T) (hb : Below W.heap.size W W') : MRow W' A n sz lo hi T := by
 rcases h with h | ⟨b, cells, h1, h2, h3, h4, h5⟩
 ·
  exact .inl h
 ·
  exact .inr ⟨b, cells, h1, h2, h3, blk_below h4 hb, h5⟩
theorem MRow.wide {W : World} {A : Option Addr} {n sz lo hi lo' hi' : Nat} {T : TypeId} (h : MRow W A n sz lo hi T) (h1 : lo' ≤ lo) (h2 : hi ≤ hi') : MRow W A n sz lo' hi' T := by
 rcases h with h | ⟨b, cells, k1, k2, k3, k4, k5⟩
 ·
  exact .inl h
 ·
  exact .inr ⟨b, cells, k1, by omega, by omega, k4, k5⟩
theorem MRow.of_IRow {W : World} {b : Nat} {xs : List Int} (h : IRow W b xs) {lo : Nat} (hl : lo ≤ b) : MRow W (some ⟨b, 0, none⟩) xs.length 1 lo W.heap.size 3 :=
 .inr ⟨b, _, rfl, hl, blk_lt h, h, by simp⟩
theorem MRow.of_own {W : World} {base : Nat} {T : TypeId} {sz : Nat} {A : Option Addr} {n c : Nat} {xs : List Value} (h : W.ownsRow base T sz (.slice A n c) n xs) : MRow W A n sz base W.heap.size T := by
 obtain ⟨_, h | ⟨g, cap, cur, e, hb, hh, h1, h2, h3, h4⟩⟩ := h
 ·
  exact .inl h.2
 ·
  injection e with e1 e2 e3
  exact .inr ⟨g, cur, e1, hb, blk_lt hh, hh, by rw [h3]; exact Nat.mul_le_mul_right _ h1⟩
def HeldI (W : World) (A : Option Addr) (k : Int) (n : Nat) : Prop := n = 0 ∨ ∃ b cells, A = some ⟨b, 0, none⟩ ∧ W.heap[b]? = some (.cells cells 3 (0, 0)) ∧ ∀ i, i < n → cells[i]? = some (.int .i64 (k + (i : Nat)))
theorem HeldI.below {W W' : World} {A : Option Addr} {k : Int} {n : Nat} (h : HeldI W A k n) (hb : Below W.heap.size W W') : HeldI W' A k n := by
 rcases h with h | ⟨b, cells, h1, h2, h3⟩
 ·
  exact .inl h
 ·
  exact .inr ⟨b, cells, h1, blk_below h2 hb, h3⟩
set_option maxRecDepth 100000 in
set_option maxHeartbeats 2000000 in
theorem markIntS_calls (A : Option Addr) (n c : Nat) (k : Int) (lo hi : Nat) (w : World) (h : MRow w A n 1 lo hi 3) (hk : 0 ≤ k ∧ k + n ≤ 9000000000000000000) :
  Calls Tryd.prog 37 #[.slice A n c, .int .i64 k] w fun e w' => e = .returned (.int .i64 (k + n)) ∧ HeldI w' A k n ∧ OnlyP (fun q => ∃ a, A = some a ∧ q = a.block ∧ lo ≤ q ∧ q < hi) w w' := by
 rcases h with rfl | ⟨b, cells, rfl, hlo, hhi, hb, hsz⟩
 ·
  have d0 : decide (((0 : Nat) : Int) < ((0 : Nat) : Int)) = false := by decide
  clear hk
  go_enter Tryd.func37, Tryd.ntmps37
  go_wp2
  go_loopw [1, 5] (fun K i wr => K = .int .i64 k ∧ i = .int .i64 0 ∧ wr = w) (fun _ _ _ => 0)
  case atStart => exact ⟨rfl, rfl, rfl⟩
  case round =>
   obtain ⟨rfl, rfl, rfl⟩ := hrel
   go_wp2
   go_ret
   exact ⟨by simp, .inl rfl, OnlyP.refl _ _⟩
 ·
  have hsz' : n ≤ cells.size := by omega
  have HB := Lib.hid hb
  have HP := Lib.hid (And.intro hlo hhi)
  clear hlo hhi hb hsz
  go_enter Tryd.func37, Tryd.ntmps37
  go_wp2
  go_loopw [1, 5] (fun K i wr => ∃ (j : Nat) (cl : Array Value), j ≤ n ∧ i = .int .i64 j ∧ K = .int .i64 (k + (j : Nat)) ∧ wr.heap[b]? = some (.cells cl 3 (0, 0)) ∧ cl.size = cells.size ∧ (∀ i, i < j → cl[i]? = some (.int .i64 (k + (i : Nat)))) ∧ OnlyP (fun q => q = b) w wr) (fun _ i _ => n - (intOf i).toNat)
  case atStart => exact ⟨0, cells, Nat.zero_le _, rfl, by simp, HB.out, rfl, fun i hi => absurd hi (by omega), OnlyP.refl _ _⟩
  case round =>
   obtain ⟨j, cl, hj, rfl, rfl, hb, hcs, hcl, hO⟩ := hrel
   by_cases hjl : j < n
   ·
    have hjj : decide ((j : Int) < (n : Int)) = true := decide_eq_true (by omega)
    have hji : (j : Int) < (n : Int) := by omega
    have hjs : j < cl.size := by omega
    have cr : wr.cell? ⟨b, j, none⟩ = some (cl[j]'hjs) := (blk_cell hb j).trans (by simp [hjs])
    have fr := blk_frozen hb j
    generalize cl[j]'hjs = old at cr
    have HX := Lib.hid (And.intro hb (And.intro hcs (And.intro hcl hO)))
    clear hb hcs hcl hO
    obtain ⟨kj, hkj⟩ : ∃ kj, kj = k + (j : Nat) := ⟨_, rfl⟩
    rw [← hkj]
    have HKJ := Lib.hid hkj
    have hwr : IntKind.i64.wrap (kj + 1) = kj + 1 := IntWalk.i64_in _ (by omega)
    clear hkj
    go_wp2
    clear hwr
    go_roundw
    case rel =>
     obtain ⟨hb, hcs, hcl, hO⟩ := HX.out
     have hkj := HKJ.out
     have hs := blk_set hb j (.int .i64 kj)
     refine ⟨j + 1, _, by omega, by go_num, by rw [hkj]; congr 1; push_cast; omega, hs, by simpa using hcs, fun i hi => ?_, hO.set rfl j _⟩
     by_cases e : i = j
     ·
      subst e
      rw [hkj]
      simp [hjs]
     ·
      have := hcl i (by omega)
      rw [← this]
      simp [Array.getElem?_setIfInBounds, Ne.symm e]
    case measure => simp [intOf]; omega
   ·
    obtain rfl : j = n := by omega
    have hjj : decide ((j : Int) < (j : Int)) = false := decide_eq_false (by omega)
    have HX := Lib.hid (And.intro hb (And.intro hcl hO))
    clear hb hcs hcl hO
    go_wp2
    go_ret
    obtain ⟨hb, hcl, hO⟩ := HX.out
    exact ⟨rfl, .inr ⟨b, cl, rfl, hb, hcl⟩, hO.mono (fun q hq => ⟨_, rfl, hq, by rw [hq]; exact HP.out.1, by rw [hq]; exact HP.out.2⟩)⟩
end Go.Proofs.YtlapphhcficbjaaDoor

namespace Go.Proofs.YtlapphhcficbjaaDoor
set_option linter.unusedVariables false
set_option linter.unusedSimpArgs false
open Go.RowKit Go.Shelf Bits
open Go.Proofs.YtlapphhcficbjaaDoorW.PrintWords Go.Proofs.YtlapphhcficbjaaDoorW.PrintLast Go.Proofs.YtlapphhcficbjaaDoorW.PrintMore
attribute [local go_sem] Oper.semAt_some
def TNeeds (W : World) (b n lo hi : Nat) (f : Nat → Value) : Prop := ∀ i, i < n → ∃ A' c L, f (i * 4 + 1) = .slice A' L c ∧ L ≤ 1048576 ∧ MRow W A' L 1 lo hi 3 ∧ ∀ a, A' = some a → a.block ≠ b
def TOwn (W : World) (A : Option Addr) (n lo hi : Nat) : Prop := ∃ b f, A = some ⟨b, 0, none⟩ ∧ lo ≤ b ∧ b < hi ∧ RowV W b (n * 4) 41 f ∧ TNeeds W b n lo hi f
theorem TOwn.below {W W' : World} {A : Option Addr} {n lo hi : Nat} (h : TOwn W A n lo hi) (hb : Below W.heap.size W W') : TOwn W' A n lo hi := by
 obtain ⟨b, f, h1, h2, h3, h4, h5⟩ := h
 refine ⟨b, f, h1, h2, h3, h4.below hb, fun i hi => ?_⟩
 obtain ⟨A', c, L, k1, k2, k3, k4⟩ := h5 i hi
 exact ⟨A', c, L, k1, k2, k3.below hb, k4⟩
theorem TOwn.wide {W : World} {A : Option Addr} {n lo hi lo' hi' : Nat} (h : TOwn W A n lo hi) (h1 : lo' ≤ lo) (h2 : hi ≤ hi') : TOwn W A n lo' hi' := by
 obtain ⟨b, f, k1, k2, k3, k4, k5⟩ := h
 refine ⟨b, f, k1, by omega, by omega, k4, fun i hi => ?_⟩
 obtain ⟨A', c, L, j1, j2, j3, j4⟩ := k5 i hi
 exact ⟨A', c, L, j1, j2, j3.wide h1 h2, j4⟩
theorem TOwn.of_copy {W : World} {b lo : Nat} {g : List Tk} {vs : Nat → Value} (h : RowV W b (g.length * 4) 41 (cellT g vs)) (hn : NRow W lo b g vs g.length) (hlo : lo ≤ b) (hl : ∀ i, (rdTk g i).f1.length ≤ 1048576) : TOwn W (some ⟨b, 0, none⟩) g.length lo W.heap.size := by
 refine ⟨b, _, rfl, hlo, h.lt, h, fun i hi => ?_⟩
 obtain ⟨n, h1, h2, h3, h4⟩ := hn i hi
 refine ⟨_, _, _, (cellT_at g vs i).2.1.trans h1, hl i, MRow.of_IRow h4 h2, fun a ha => ?_⟩
 injection ha with ha
 rw [← ha]
 exact h3
set_option maxRecDepth 100000 in
set_option maxHeartbeats 4000000 in
theorem markTaskS_calls (A : Option Addr) (n c : Nat) (k : Int) (lo hi : Nat) (w : World) (h : TOwn w A n lo hi) (hn : n ≤ 1048576) (hk : 0 ≤ k ∧ k ≤ 3000000) :
  Calls Tryd.prog 36 #[.slice A n c, .int .i64 k] w fun e w' => ∃ K : Int, e = .returned (.int .i64 K) ∧ (0 ≤ K ∧ K ≤ 9000000000000) ∧ OnlyP (fun q => lo ≤ q ∧ q < hi) w w' := by
 obtain ⟨b, f, rfl, hlo, hhi, hR, hN⟩ := h
 have HX0 := Lib.hid (And.intro hR (And.intro hN (And.intro hlo hhi)))
 clear hR hN hlo hhi
 go_enter Tryd.func36, Tryd.ntmps36
 go_wp2
 go_loopw [1, 5] (fun K i wr => ∃ (j : Nat) (k : Int) (f : Nat → Value), j ≤ n ∧ i = .int .i64 j ∧ K = .int .i64 k ∧ (0 ≤ k ∧ k ≤ 3000000 + 3000000 * (j : Nat)) ∧ RowV wr b (n * 4) 41 f ∧ TNeeds wr b n lo hi f ∧ OnlyP (fun q => lo ≤ q ∧ q < hi) w wr) (fun _ i _ => n - (intOf i).toNat)
 case atStart => exact ⟨0, k, f, Nat.zero_le _, rfl, rfl, by omega, HX0.out.1, HX0.out.2.1, OnlyP.refl _ _⟩
 case round =>
  clear hk k
  obtain ⟨j, k, f, hj, rfl, rfl, hk, hR, hN, hO⟩ := hrel
  by_cases hjl : j < n
  ·
   have hjj : decide ((j : Int) < (n : Int)) = true := decide_eq_true (by omega)
   have hji : (j : Int) < (n : Int) := by omega
   obtain ⟨A1, c1, L, e1, hL, hM, hne⟩ := hN j hjl
   have hPb : lo ≤ b ∧ b < hi := HX0.out.2.2
   have c0 := hR.cell (q := j * 4) (by omega)
   have r0 := hR.frozen
   have hR1 := hR.set (j * 4) (.int .i64 k)
   have hO1 : OnlyP (fun q => lo ≤ q ∧ q < hi) w (wr.setCell ⟨b, j * 4, none⟩ (.int .i64 k)) := hO.set hPb _ _
   have hOs : OnlyP (fun q => lo ≤ q ∧ q < hi) wr (wr.setCell ⟨b, j * 4, none⟩ (.int .i64 k)) := (OnlyP.refl _ wr).set hPb _ _
   have hM1 := hM.only hOs
   have k1 : (wr.setCell ⟨b, j * 4, none⟩ (.int .i64 k)).cell? ⟨b, j * 4 + 1, none⟩ = some (.slice A1 L c1) := by
    rw [hR1.cell (q := j * 4 + 1) (by omega)]
    exact congrArg some ((if_neg (by omega)).trans e1)
   obtain ⟨K1, hK1⟩ : ∃ K1 : Int, K1 = k + 1 + (L : Nat) := ⟨_, rfl⟩
   have HMK := Lib.hid (markIntS_calls A1 L c1 (k + 1) lo hi _ hM1 (by omega))
   rw [← hK1] at HMK
   have HK1 := Lib.hid hK1
   have HX := Lib.hid (And.intro hR1 (And.intro hN (And.intro hO1 (And.intro hOs hne))))
   have hw1 : IntKind.i64.wrap (k + 1) = k + 1 := IntWalk.i64_in _ (by clear hK1; omega)
   have hw2 : IntKind.i64.wrap (K1 + 1) = K1 + 1 := IntWalk.i64_in _ (by clear hw1; omega)
   have hw3 : IntKind.i64.wrap (K1 + 1 + 1) = K1 + 1 + 1 := IntWalk.i64_in _ (by clear hw1 hw2; omega)
   clear hR1 hN hO1 hOs hne hM hM1 hO hR hK1 e1 hPb
   generalize f (j * 4) = old at c0
   go_wp2_with (go_at_call 37; refine HMK.out.mono ?_; rintro e W2 ⟨rfl, hH, hO2⟩; have hR2 : RowV W2 b (n * 4) 41 _ := HX.out.1.block (hO2.block b (fun ⟨a, ha, hb, _⟩ => HX.out.2.2.2.2 a ha hb.symm)); have c2 := hR2.cell (q := j * 4 + 2) (by omega); have r2 := hR2.frozen; have hR3 := hR2.set (j * 4 + 2) (.int .i64 (K1)); have c3 := hR3.cell (q := j * 4 + 3) (by omega); have r3 := hR3.frozen; have HY := Lib.hid (And.intro hR3 hO2); clear hR2 hR3 hH hO2)
   go_roundw
   case rel =>
    obtain ⟨hR1, hN, hO1, hOs, hne⟩ := HX.out
    obtain ⟨hR3, hO2⟩ := HY.out
    have hPb : lo ≤ b ∧ b < hi := HX0.out.2.2
    have hk1 := HK1.out
    have hO2' : OnlyP (fun q => lo ≤ q ∧ q < hi) (wr.setCell ⟨b, j * 4, none⟩ (.int .i64 k)) W2 := hO2.mono (fun q ⟨a, _, _, h1, h2⟩ => ⟨h1, h2⟩)
    have hO4 : OnlyP (fun q => lo ≤ q ∧ q < hi) wr ((W2.setCell ⟨b, j * 4 + 2, none⟩ (.int .i64 K1)).setCell ⟨b, j * 4 + 3, none⟩ (.int .i64 (K1 + 1))) := ((hOs.trans hO2').set hPb _ _).set hPb _ _
    clear hw1 hw2 hw3
    refine ⟨j + 1, K1 + 1 + 1, _, by omega, by go_num, rfl, by push_cast; omega, hR3.set (j * 4 + 3) (.int .i64 (K1 + 1)), ?_, ((hO1.trans hO2').set hPb _ _).set hPb _ _⟩
    intro i hi
    obtain ⟨A', c, L', e1, hL', hM, hne'⟩ := hN i hi
    refine ⟨A', c, L', ?_, hL', hM.only hO4, hne'⟩
    show (if i * 4 + 1 = j * 4 + 3 then _ else if i * 4 + 1 = j * 4 + 2 then _ else if i * 4 + 1 = j * 4 then _ else f (i * 4 + 1)) = _
    rw [if_neg (by omega), if_neg (by omega), if_neg (by omega)]
    exact e1
   case measure => clear hw1 hw2 hw3; simp [intOf]; omega
  ·
   obtain rfl : j = n := by omega
   have hjj : decide ((j : Int) < (j : Int)) = false := decide_eq_false (by omega)
   go_wp2
   go_ret
   exact ⟨k, rfl, by omega, hO⟩
theorem toTaskS_T (A : Option Addr) (c : Nat) (g : List Tk) (hl : g.length ≤ 1048576) (hn : ∀ i, (rdTk g i).f1.length ≤ 1048576) (w : World) (hr : kTk.C w A g.length g) :
  Calls Tryd.prog 30 #[.slice A g.length c] w fun e w' => ∃ b, e = .returned (.slice (some ⟨b, 0, none⟩) g.length g.length) ∧ kTk.C w' (some ⟨b, 0, none⟩) g.length g ∧ TOwn w' (some ⟨b, 0, none⟩) g.length w.heap.size w'.heap.size ∧ Below w.heap.size w w' :=
 (toTaskS_calls A c g hl hn w hr).mono fun e w' ⟨b, vs, h1, h2, h3, h4, h5⟩ => ⟨b, h1, C_of_RowV h3 (by omega) (fun i hi => by
  obtain ⟨n, e1, _, _, e2⟩ := h4 i hi
  exact ⟨_, _, e1, Nat.le_refl _, e2.C (by have := hn i; omega)⟩), TOwn.of_copy h3 h4 h2 hn, h5⟩
theorem toIntS_T (A : Option Addr) (c : Nat) (l : List Int) (hl : l.length ≤ 1048576) (w : World) (hr : (Kd.int .i64).C w A l.length l) :
  Calls Tryd.prog 31 #[.slice A l.length c] w fun e w' => ∃ b, e = .returned (.slice (some ⟨b, 0, none⟩) l.length l.length) ∧ (Kd.int .i64).C w' (some ⟨b, 0, none⟩) l.length l ∧ MRow w' (some ⟨b, 0, none⟩) l.length 1 w.heap.size w'.heap.size 3 ∧ Below w.heap.size w w' :=
 (toIntS_calls A c l hl w hr).mono fun e w' ⟨b, h1, h2, h3, h4⟩ => ⟨b, h1, h3.C (by omega), MRow.of_IRow h3 h2, h4⟩
theorem R_ge {α : Type} {d : Kd α} {e base : Nat} {ok : Nat → Prop} {w : World} {v : Value} {xs : List α} (h : d.R e w base ok v xs) : d.R e w base (fun k => base ≤ k) v xs := Kd.R_mono (Kd.R_bound h) (fun _ hk => hk.2.1)
theorem R_only {α : Type} {d : Kd α} {e base : Nat} {w w' : World} {v : Value} {xs : List α} {P : Nat → Prop} (h : d.R e w base (fun k => base ≤ k) v xs) (ho : OnlyP P w w') (hP : ∀ q, P q → q < base) : d.R e w' base (fun k => base ≤ k) v xs :=
 Kd.R_step h (fun k hk _ => ho.block k (fun hp => by have := hP k hp; omega))
theorem MRow.of_R {e base : Nat} {ok : Nat → Prop} {w : World} {A : Option Addr} {n c : Nat} {xs : List Int} (h : (Kd.int .i64).R e w base ok (.slice A n c) xs) : MRow w A n 1 base w.heap.size e := by
 obtain ⟨hn, _, _⟩ := Kd.R_reads' h
 obtain ⟨inner, ho⟩ := Kd.R_own h
 rw [← hn] at ho
 exact MRow.of_own ho
end Go.Proofs.YtlapphhcficbjaaDoor
