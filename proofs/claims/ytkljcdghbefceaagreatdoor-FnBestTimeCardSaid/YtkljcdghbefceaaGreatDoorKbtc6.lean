/- Parts of the proof, laid as one text by a program of mine. -/
import Derived.Test.YtkljcdghbefceaaGreatDoorKbtc3
import Derived.Test.YtkljcdghbefceaaGreatDoorKbtc5
import Derived.Test.YtkljcdghbefceaaGreatDoorKbtc4
import Derived.Test.YtkljcdghbefceaaGreatDoorKbtc2
import Derived.Deep.RegionHeld3
namespace Go.Proofs.YtkljcdghbefceaaGreatDoor
set_option linter.unusedVariables false
set_option linter.unusedSimpArgs false
open Go.RowKit Go.Shelf Bits
open Go.Proofs.YtkljcdghbefceaaGreatDoorW.PrintWords Go.Proofs.YtkljcdghbefceaaGreatDoorW.PrintLast Go.Proofs.YtkljcdghbefceaaGreatDoorW.PrintMore
attribute [local go_sem] Oper.semAt_some
def cnt (g : List Tk) (l : List Nat) : Ct := ⟨l.length, fun j => usedS g l j⟩
theorem cnt_snoc {g : List Tk} {p : Nat} {i : Nat} (l : List Nat) (hp : (rdTk g i).f2 = (p : Int)) : cnt g (l ++ [i]) = (cnt g l).add p (rdTk g i).f3 1 := by
 unfold cnt Ct.add
 congr 1
 ·
  simp
 ·
  funext j
  rw [usedS_snoc, hp]
  show _ = if j = p then usedS g l j + 1 * (rdTk g i).f3 else usedS g l j
  by_cases hj : j = p
  ·
   rw [if_pos hj, hj, if_pos rfl, Int.one_mul]
  ·
   rw [if_neg hj, if_neg (by omega), Int.add_zero]
theorem cnt_small {g : List Tk} (hg : TOk g) {l : List Nat} (hl : l.length ≤ 100) : (cnt g l).small 1000 := by
 refine ⟨⟨?_, ?_⟩, fun j => ?_⟩
 ·
  show -1000 ≤ (l.length : Int)
  omega
 ·
  show (l.length : Int) ≤ 1000
  omega
 ·
  have := usedS_bound hg j l
  show -(1000 * 1000) ≤ usedS g l j ∧ usedS g l j ≤ 1000 * 1000
  omega
theorem CAt.own {β : Type} {B0 b : Nat} (f : β → Ct) (hb : b < B0) : OwnFrom B0 (fun s W => CAt W b (f s)) := by
 intro s W W' row hs hg hr
 exact (hg.block b hs.lt (fun e => by have := (hr b e.symm).1; omega)).trans hs
theorem CAt.keep {W W' : World} {b : Nat} {c : Ct} (h : CAt W b c) {g : Nat} (hk : KeepBut W W' g none) (hne : b ≠ g) : CAt W' b c := hk.blk h hne (by simp)
theorem keep_others1 {w w' : World} {b : Nat} {c : Ct} (hk : KeepBut w w' b none) (hC : CAt w b c) : KeepsOthers w w' := by
 refine ⟨hk.1, fun k o ho hc => ?_⟩
 have hl := (Array.getElem?_eq_some_iff.1 ho).1
 refine (hk.2 k hl (fun e => ?_) (by simp)).trans ho
 subst e
 rw [show w.heap[k]? = _ from hC] at ho
 cases ho
 cases hc
set_option maxRecDepth 100000 in
set_option maxHeartbeats 4000000 in
theorem counted_calls (C : Nat) (g : List Tk) (ns : List Nat) (s : Nat) (hs : s < 2 ^ g.length) (hok : TOk g) (w : World) (hG : IsGraph w C g ns) (hT : Tab w) :
  Calls Tryz.prog 51 #[.pointer (some ⟨C, 0, none⟩), .int .u16 s] w fun e W' => e = .returned (.agg #[.int .i64 (cnt g (elems s)).t, .int .i64 ((cnt g (elems s)).u 0), .int .i64 ((cnt g (elems s)).u 1), .int .i64 ((cnt g (elems s)).u 2)]) ∧ Below w.heap.size w W' := by
 have h8 := hok.1
 have hs16 : s < 65536 := Nat.lt_of_lt_of_le hs (Nat.le_trans (Nat.pow_le_pow_right (by omega) h8) (by decide))
 have hCl : C < w.heap.size := by obtain ⟨Ag, cg, An, cn, Ao, co, vb, va, h1, _⟩ := hG; exact blk_lt h1
 have HG := Lib.hid hG
 have HOK := Lib.hid hok
 clear hG hok
 refine calls_of_wp_marks Tryz.func51 rfl ?_
 simp only [Tryz.ntmps51, List.size_toArray, List.length_cons, List.length_nil, Nat.reduceAdd, Nat.reduceSub, Array.replicate_succ, Array.replicate_zero, List.push_toArray, List.append_toArray, List.nil_append, List.cons_append]
 go_wp2_with (go_at_call 47; refine (all_calls s _).mono ?_; rintro e w' ⟨rfl, rfl⟩)
 obtain ⟨W0, hW0⟩ : ∃ W0, W0 = ((w.alloc (.cells #[.pointer (some ⟨C, 0, none⟩)] 36)).alloc (.cells #[.int .i64 0, .int .i64 0, .int .i64 0, .int .i64 0] 70)).alloc (.cells #[.int .i64 0, .int .i64 0, .int .i64 0, .int .i64 0] 70) := ⟨_, rfl⟩
 have hB0 : Below w.heap.size w W0 := by rw [hW0]; exact (((Below.refl _ w).alloc (Nat.le_refl _) _).alloc (by simp) _).alloc (by simp; omega) _
 have hz0' : W0.heap.size = w.heap.size + 1 + 1 + 1 := by rw [hW0]; simp
 have hb0 : CAt W0 (w.heap.size + 1 + 1) Ct.zero := by
  rw [hW0]
  have := World.alloc_heap_new ((w.alloc (.cells #[.pointer (some ⟨C, 0, none⟩)] 36)).alloc (.cells #[.int .i64 0, .int .i64 0, .int .i64 0, .int .i64 0] 70)) (.cells #[.int .i64 0, .int .i64 0, .int .i64 0, .int .i64 0] 70)
  rwa [World.size_alloc, World.size_alloc] at this
 have hbr : CAt W0 (w.heap.size + 1) Ct.zero := by
  rw [hW0]
  have := World.alloc_heap_new (w.alloc (.cells #[.pointer (some ⟨C, 0, none⟩)] 36)) (.cells #[.int .i64 0, .int .i64 0, .int .i64 0, .int .i64 0] 70)
  rw [World.size_alloc] at this
  exact (Below.heap_alloc _ _ _ (by simp)).trans this
 have hb1 : Boxed W0 w.heap.size 36 (.pointer (some ⟨C, 0, none⟩)) := by rw [hW0]; exact ((Boxed.new w 36 (.pointer (some ⟨C, 0, none⟩))).alloc _).alloc _
 rw [← hW0]
 clear hW0
 have htl := hT.lt
 have hT0 := hT.keep htl hB0
 have hBox := Boxed.new W0 46 (.int .u16 s)
 rw [hz0'] at hBox
 refine wp_rangeSet1 s (w.heap.size + 1 + 1 + 1) w.heap.size hs16 rfl (by simp [hz0']) hBox.cell (hT0.keep hT0.lt ((Below.refl _ _).alloc (Nat.le_refl _) _)) (by simp [hz0']; omega) htl
  (fun pre W => CAt W (w.heap.size + 1 + 1) (cnt g (pre.map (·.1))) ∧ CAt W (w.heap.size + 1) Ct.zero ∧ Boxed W w.heap.size 36 (.pointer (some ⟨C, 0, none⟩)) ∧ Below w.heap.size w W) (fun _ _ _ => False)
  ((CAt.own (fun pre : List (El s) => cnt g (pre.map (·.1))) (by rw [World.size_alloc, hz0']; omega)).and ((CAt.own (fun _ => Ct.zero) (by rw [World.size_alloc, hz0']; omega)).and ((Own.from (boxed_own w.heap.size 36 (fun _ => _)) _).and (ownFrom_below (Nat.le_refl _) (by simp [hz0']; omega)))))
  (fun _ _ _ _ _ h _ _ => h)
  ⟨hb0.below ((Below.refl _ _).alloc (Nat.le_refl _) _), hbr.below ((Below.refl _ _).alloc (Nat.le_refl _) _), hb1.alloc _, hB0.alloc hB0.size _⟩
  (fun x => { tmps := #[.pointer (some ⟨C, 0, none⟩), .int .u16 s, .pointer (some ⟨w.heap.size, 0, none⟩), undef, .pointer (some ⟨w.heap.size + 1, 0, none⟩), .pointer (some ⟨w.heap.size + 1 + 1, 0, none⟩), .int .i64 (x.1 : Nat), .int .u16 s, .func (.func 74) #[] #[.pointer (some ⟨w.heap.size + 1 + 1 + 1, 0, none⟩)], .int .i64 (x.1 : Nat), undef, undef, undef, undef, undef, undef, undef, undef, undef], defers := [] }) ?assign ?body ?done ?stop
 case assign =>
  intro l x W K hK
  gi_wp2
  exact hK
 case body =>
  rintro l pre x W ⟨hc0, hcr, hb2, hB⟩ hlt
  have hel := elems_length s
  have hxn : x.1 < g.length := elems_below hs x.2
  obtain ⟨Ag, cg, An, cn, Ao, co, vb, va, h1, h2, _, _⟩ := HG.out.below hB
  have cC := blk_cell h1 0
  simp at cC
  obtain ⟨ad, A1, c1, rfl, hx0, hx1, hx2, hx3, _⟩ := at_Tk h2 x.1 hxn
  obtain ⟨p, hp⟩ : ∃ p : Nat, (rdTk g x.1).f2 = (p : Int) := ⟨(rdTk g x.1).f2.toNat, by have := HOK.out.2.2.1 x.1; omega⟩
  have hp3 : p < 3 := by have := HOK.out.2.2.1 x.1; omega
  have hx3b := HOK.out.2.2.2.1 x.1
  have hsm : (cnt g (pre.map (·.1))).small 1000 := cnt_small HOK.out (by rw [List.length_map]; omega)
  have HSN : Hid (cnt g ((pre ++ [x]).map (·.1)) = (cnt g (pre.map (·.1))).add p (rdTk g x.1).f3 1) := Lib.hid (by rw [List.map_append, List.map_cons, List.map_nil]; exact cnt_snoc _ hp)
  rw [hp] at hx2
  have HADD := Lib.hid (add_calls (w.heap.size + 1 + 1) (cnt g (pre.map (·.1))) (rdTk g x.1).f0 (.slice A1 (rdTk g x.1).f1.length c1) p (rdTk g x.1).f3 1 hp3 (by omega) (.inl rfl) hsm W hc0)
  have hxi : ((x.1 : Nat) : Int) < (g.length : Int) := by omega
  have hc2 := hb2.cell
  have HI := Lib.hid (And.intro hc0 (And.intro hcr (And.intro hb2 hB)))
  clear h1 h2 hsm hp hc0 hcr hb2 hB hx3b
  gi_wp2_with (refine ⟨trivial, ?_⟩; gi_at_call 41; refine CallsIn.mono (CallsIn.inRound l (callsIn_wide.2 HADD.out)) ?_; rintro e w' ⟨rfl, hC', hk', hb'⟩)
  obtain ⟨hc0, hcr, hb2, hB⟩ := HI.out
  refine ⟨(keep_others1 hk' hc0).from _, hb'.mono (by omega), ?_, hcr.keep hk' (by omega), ?_, hB.trans (hb'.mono (by omega))⟩
  ·
   rw [HSN.out]
   exact hC'
  ·
   exact hk'.blk hb2 (by omega) (by simp)
 case stop =>
  rintro D c pre W _ _ h _
  exact h.elim
 case done =>
  rintro D ys W hD hys ⟨hc0, hcr, hb2, hB⟩ hK
  rw [hys] at hc0
  have HI := Lib.hid (And.intro hc0 (And.intro hcr (And.intro hB hK)))
  have HDL := hD
  rw [World.size_alloc, hz0'] at HDL
  have c0 : W.cell? ⟨w.heap.size + 1 + 1, 0, none⟩ = some (.int .i64 (cnt g (elems s)).t) := (blk_cell hc0 0).trans (by simp)
  have c1 : W.cell? ⟨w.heap.size + 1 + 1, 1, none⟩ = some (.int .i64 ((cnt g (elems s)).u 0)) := (blk_cell hc0 1).trans (by simp)
  have c2 : W.cell? ⟨w.heap.size + 1 + 1, 2, none⟩ = some (.int .i64 ((cnt g (elems s)).u 1)) := (blk_cell hc0 2).trans (by simp)
  have c3 : W.cell? ⟨w.heap.size + 1 + 1, 3, none⟩ = some (.int .i64 ((cnt g (elems s)).u 2)) := (blk_cell hc0 3).trans (by simp)
  have r0 : W.cell? ⟨w.heap.size + 1, 0, none⟩ = some (.int .i64 0) := (blk_cell hcr 0).trans (by simp [Ct.zero])
  have r1 : W.cell? ⟨w.heap.size + 1, 1, none⟩ = some (.int .i64 0) := (blk_cell hcr 1).trans (by simp [Ct.zero])
  have r2 : W.cell? ⟨w.heap.size + 1, 2, none⟩ = some (.int .i64 0) := (blk_cell hcr 2).trans (by simp [Ct.zero])
  have r3 : W.cell? ⟨w.heap.size + 1, 3, none⟩ = some (.int .i64 0) := (blk_cell hcr 3).trans (by simp [Ct.zero])
  have f0 := blk_frozen hcr 0
  have f1 := blk_frozen hcr 1
  have f2 := blk_frozen hcr 2
  have f3 := blk_frozen hcr 3
  clear hb0 hbr hb1 hBox hcr hB hK hD hc0 hb2 hys
  go_wp2
  obtain ⟨hc0, hcr, hB, hK⟩ := HI.out
  have k0 := blk_set hcr 0 (.int .i64 (cnt g (elems s)).t)
  have k1 := blk_set k0 1 (.int .i64 ((cnt g (elems s)).u 0))
  have k2 := blk_set k1 2 (.int .i64 ((cnt g (elems s)).u 1))
  have k3 := blk_set k2 3 (.int .i64 ((cnt g (elems s)).u 2))
  have hKB := ((((KeepBut.refl W (w.heap.size + 1) none).set_ 0 (.int .i64 (cnt g (elems s)).t)).set_ 1 (.int .i64 ((cnt g (elems s)).u 0))).set_ 2 (.int .i64 ((cnt g (elems s)).u 1))).set_ 3 (.int .i64 ((cnt g (elems s)).u 2))
  have hK4 := hKB.blk hK (by omega) (by simp)
  have hB4 := (((hB.setCell (p := ⟨w.heap.size + 1, 0, none⟩) (by simp) (.int .i64 (cnt g (elems s)).t)).setCell (p := ⟨w.heap.size + 1, 1, none⟩) (by simp) (.int .i64 ((cnt g (elems s)).u 0))).setCell (p := ⟨w.heap.size + 1, 2, none⟩) (by simp) (.int .i64 ((cnt g (elems s)).u 1))).setCell (p := ⟨w.heap.size + 1, 3, none⟩) (by simp) (.int .i64 ((cnt g (elems s)).u 2))
  generalize (((W.setCell ⟨w.heap.size + 1, 0, none⟩ (.int .i64 (cnt g (elems s)).t)).setCell ⟨w.heap.size + 1, 1, none⟩ (.int .i64 ((cnt g (elems s)).u 0))).setCell ⟨w.heap.size + 1, 2, none⟩ (.int .i64 ((cnt g (elems s)).u 1))).setCell ⟨w.heap.size + 1, 3, none⟩ (.int .i64 ((cnt g (elems s)).u 2)) = W4 at k3 hK4 hB4 ⊢
  have hCA : CAt (W4.putObj D (.deferred none)) (w.heap.size + 1) (cnt g (elems s)) := (World.putObj_heap_other (by omega)).trans (k3.trans (by simp [Ct.zero]))
  have d0 : (W4.putObj D (.deferred none)).cell? ⟨w.heap.size + 1, 0, none⟩ = some (.int .i64 (cnt g (elems s)).t) := (blk_cell hCA 0).trans (by simp)
  have d1 : (W4.putObj D (.deferred none)).cell? ⟨w.heap.size + 1, 1, none⟩ = some (.int .i64 ((cnt g (elems s)).u 0)) := (blk_cell hCA 1).trans (by simp)
  have d2 : (W4.putObj D (.deferred none)).cell? ⟨w.heap.size + 1, 2, none⟩ = some (.int .i64 ((cnt g (elems s)).u 1)) := (blk_cell hCA 2).trans (by simp)
  have d3 : (W4.putObj D (.deferred none)).cell? ⟨w.heap.size + 1, 3, none⟩ = some (.int .i64 ((cnt g (elems s)).u 2)) := (blk_cell hCA 3).trans (by simp)
  refine leave_one (v := .agg #[.int .i64 (cnt g (elems s)).t, .int .i64 ((cnt g (elems s)).u 0), .int .i64 ((cnt g (elems s)).u 1), .int .i64 ((cnt g (elems s)).u 2)]) hK4 ?_ ⟨rfl, ?_⟩
  ·
   generalize W4.putObj D (.deferred none) = W5 at d0 d1 d2 d3
   simp [results, Tryz.results51, go_sem, d0, d1, d2, d3]
   done
  ·
   exact hB4.trans (belowK_b (w := w) (Nat.le_refl _) W4 D _ _ (by omega) hK4 rfl rfl)
def admStep (g : List Tk) (rm : List Int) (wk : Int) (st : Ct × List Nat) (i : Nat) : Ct × List Nat :=
 if st.1.can (rdTk g i).f2.toNat (rdTk g i).f3 rm wk then (st.1.add (rdTk g i).f2.toNat (rdTk g i).f3 1, st.2 ++ [i]) else st
def admN (g : List Tk) (rm : List Int) (wk : Int) (c : Ct) (l : List Nat) : Ct × List Nat := l.foldl (admStep g rm wk) (c, [])
theorem admN_snoc (g : List Tk) (rm : List Int) (wk : Int) (c : Ct) (l : List Nat) (i : Nat) : admN g rm wk c (l ++ [i]) = admStep g rm wk (admN g rm wk c l) i := by
 unfold admN
 rw [List.foldl_append]
 rfl
theorem Ct.small_mono {c : Ct} {n m : Int} (h : c.small n) (hnm : n ≤ m) : c.small m := ⟨by have := h.1; omega, fun j => by have := h.2 j; omega⟩
theorem Ct.small_add {c : Ct} {n : Int} (h : c.small n) {p : Nat} {x : Int} (hx : 0 ≤ x ∧ x ≤ 1000) : (c.add p x 1).small (n + 1) := by
 refine ⟨?_, fun j => ?_⟩
 ·
  have := h.1
  show -(n + 1) ≤ c.t + 1 ∧ c.t + 1 ≤ n + 1
  omega
 ·
  have := h.2 j
  show -(1000 * (n + 1)) ≤ (if j = p then c.u j + 1 * x else c.u j) ∧ (if j = p then c.u j + 1 * x else c.u j) ≤ 1000 * (n + 1)
  split <;> omega
theorem admN_facts {g : List Tk} (hg : TOk g) (rm : List Int) (wk : Int) {c : Ct} (hc : c.small 100) (l : List Nat) : ∀ j, j ≤ l.length → (admN g rm wk c (l.take j)).1.small (100 + j) ∧ (admN g rm wk c (l.take j)).2.length ≤ j
 | 0, _ => ⟨by simpa [admN] using hc, by simp [admN]⟩
 | j + 1, hj => by
  obtain ⟨h1, h2⟩ := admN_facts hg rm wk hc l j (by omega)
  rw [List.take_succ_eq_append_getElem (by omega), admN_snoc]
  have hx := hg.2.2.2.1 l[j]
  unfold admStep
  split
  ·
   refine ⟨Ct.small_mono (Ct.small_add h1 (by omega)) (by omega), ?_⟩
   rw [List.length_append]
   simp
   omega
  ·
   exact ⟨Ct.small_mono h1 (by omega), by omega⟩
set_option maxRecDepth 1000000 in
set_option maxHeartbeats 4000000 in
theorem admitted_calls (C : Nat) (g : List Tk) (ns : List Nat) (ct : Ct) (A : Option Addr) (k : Nat) (rm : List Int) (A' : Option Addr) (k' : Nat) (l : List Nat) (wk : Int) (hok : TOk g) (hc : ct.small 100) (hrm : rm.length = 3) (hl : l.length ≤ 16) (hlt : ∀ i ∈ l, i < g.length) (w : World) (hG : IsGraph w C g ns) (hr : (Kd.int .i64).C w A rm.length rm) (hr' : (Kd.int .i64).C w A' l.length (ints l)) :
  Calls Tryz.prog 50 #[.pointer (some ⟨C, 0, none⟩), .agg #[.int .i64 ct.t, .int .i64 (ct.u 0), .int .i64 (ct.u 1), .int .i64 (ct.u 2)], .slice A rm.length k, .slice A' l.length k', .int .i64 wk] w fun e w' => ∃ v, e = .returned v ∧ Kd.R (Kd.int .i64) 3 w' w.heap.size (fun _ => True) v (ints (admN g rm wk ct l).2) ∧ Below w.heap.size w w' := by
 have h8 := hok.1
 have hCl : C < w.heap.size := by obtain ⟨Ag, cg, An, cn, Ao, co, vb, va, h1, _⟩ := hG; exact blk_lt h1
 have HG := Lib.hid hG
 have HOK := Lib.hid hok
 have HR := Lib.hid hr
 have HR' := Lib.hid hr'
 have HLT := Lib.hid hlt
 have HRM := Lib.hid hrm
 have HF := Lib.hid (admN_facts hok rm wk hc l)
 clear hG hok hr hr' hlt hc hrm
 go_enter Tryz.func50, Tryz.ntmps50
 go_wp2
 obtain ⟨W0, hW0⟩ : ∃ W0, W0 = w.alloc (.cells #[.int .i64 ct.t, .int .i64 (ct.u 0), .int .i64 (ct.u 1), .int .i64 (ct.u 2)] 70) := ⟨_, rfl⟩
 have hz0 : W0.heap.size = w.heap.size + 1 := by rw [hW0]; simp
 have hC0 : CAt W0 w.heap.size ct := by rw [hW0]; exact World.alloc_heap_new _ _
 have hB0 : Below w.heap.size w W0 := by rw [hW0]; exact (Below.refl _ _).alloc (Nat.le_refl _) _
 rw [← hW0]
 clear hW0
 have HB1 : Below w.heap.size w (W0.alloc (.cells #[] 3)) := hB0.alloc hB0.size _
 have HC1 : CAt (W0.alloc (.cells #[] 3)) w.heap.size ct := hC0.below ((Below.refl _ _).alloc (Nat.le_refl _) _)
 have HO : Kd.R (Kd.int .i64) 3 (W0.alloc (.cells #[] 3)) w.heap.size (fun _ => True) (.slice (some ⟨w.heap.size + 1, 0, none⟩) 0 0) (ints []) := by
  rw [← hz0]
  exact Kd.R_of_own (World.ownsRow_lit (base := w.heap.size) (size := 1) W0 #[] 0 (by omega) (by simp [maxLen]) rfl) (fun _ _ => trivial)
 clear hC0 hB0
 go_loopw [11, 17] (fun out i wr => ∃ j, j ≤ l.length ∧ i = .int .i64 (j : Nat) ∧ Kd.R (Kd.int .i64) 3 wr w.heap.size (fun _ => True) out (ints (admN g rm wk ct (l.take j)).2) ∧ CAt wr w.heap.size (admN g rm wk ct (l.take j)).1 ∧ Below w.heap.size w wr) (fun _ i _ => l.length - (intOf i).toNat)
 case atStart => exact ⟨0, Nat.zero_le _, rfl, HO, HC1, HB1⟩
 case round =>
  clear HO HB1 HC1
  obtain ⟨j, hj, rfl, hO, hCt, hB⟩ := hrel
  by_cases hjl : j < l.length
  ·
   obtain ⟨ad, rfl, cx⟩ := at_set (Kd.C_below HR'.out hB) j hjl
   have hxg : l.getD j 0 < g.length := by
    apply HLT.out
    rw [List.getD_eq_getElem?_getD, List.getElem?_eq_getElem hjl]
    exact List.getElem_mem _
   have hjj : decide ((j : Int) < (l.length : Int)) = true := decide_eq_true (by omega)
   have hji : (j : Int) < (l.length : Int) := by omega
   obtain ⟨hsm, hln⟩ := HF.out j (by omega)
   have HSN : Hid (admN g rm wk ct (l.take (j + 1)) = admStep g rm wk (admN g rm wk ct (l.take j)) (l.getD j 0)) := Lib.hid (by
    rw [List.take_succ_eq_append_getElem hjl, admN_snoc, List.getD_eq_getElem?_getD, List.getElem?_eq_getElem hjl]
    rfl)
   generalize admN g rm wk ct (l.take j) = st at hO hCt hsm hln HSN
   obtain ⟨c, out⟩ := st
   have hln : out.length ≤ j := hln
   have hol : (ints out).length < 1000000 := by rw [ints_length]; omega
   generalize l.getD j 0 = x at cx hxg HSN
   obtain ⟨Ag, cg, An, cn, Ao, co, vb, va, h1, h2, _, _⟩ := HG.out.below hB
   have cC := blk_cell h1 0
   simp at cC
   obtain ⟨adg, A1, c1, rfl, hx0, hx1, hx2, hx3, _⟩ := at_Tk h2 x hxg
   have hxi : (x : Int) < (g.length : Int) := by omega
   obtain ⟨p, hp⟩ : ∃ p : Nat, (rdTk g x).f2 = (p : Int) := ⟨(rdTk g x).f2.toNat, by have := HOK.out.2.2.1 x; omega⟩
   have hp3 : p < 3 := by have := HOK.out.2.2.1 x; omega
   have hx3b := HOK.out.2.2.2.1 x
   have HSN2 : Hid (admN g rm wk ct (l.take (j + 1)) = if c.can p (rdTk g x).f3 rm wk then (c.add p (rdTk g x).f3 1, out ++ [x]) else (c, out)) := Lib.hid (by rw [HSN.out]; unfold admStep; rw [hp]; rfl)
   rw [hp] at hx2
   have HTK := Lib.hid (takes_calls w.heap.size c (rdTk g x).f0 (.slice A1 (rdTk g x).f1.length c1) p (rdTk g x).f3 A k rm wk hp3 (by omega) (Ct.small_mono hsm (by omega)) HRM.out wr hCt (Kd.C_below HR.out hB))
   have HOT : Hid (∀ w2, KeepBut wr w2 w.heap.size none → Kd.R (Kd.int .i64) 3 w2 w.heap.size (fun _ => True) u11 (ints out)) := Lib.hid (fun w2 hK2 => Kd.R_mono (Kd.R_keep (Kd.R_types hO hCt (fun q hq => by rcases List.mem_cons.1 hq with rfl | h; (· decide); · exact absurd (show q ∈ ([] : List Nat) from h) (by simp))) hK2 (fun _ h => h.2)) (fun _ _ => trivial))
   have HW := Lib.hid hB
   clear h1 h2 hO hB hCt hsm HSN hp
   generalize c.can p (rdTk g x).f3 rm wk = cb at HSN2 HTK
   cases cb with
   | true =>
    rw [if_pos rfl] at HSN2
    go_wp2_with (first | (go_at_call 43; refine HTK.out.mono ?_; rintro e w2 ⟨rfl, hC2, hK2, hB2⟩; rw [if_pos rfl] at hC2; have hO2 := HOT.out _ hK2; have hBw := HW.out.trans hB2) | (at_builtin; refine ap_int (w0 := w) w.heap.size rfl _ _ rfl u11 (ints out) (x : Int) rfl rfl rfl hO2 hBw hBw.size hol ?_; intro v1 w3 hO3 hB3 hg3 hat3))
    go_roundw
    case rel => exact ⟨j + 1, by omega, by go_num, by rw [HSN2.out]; simpa [ints] using hO3, by rw [HSN2.out]; exact (hg3.block _ hC2.lt (Kd.R_ne hO2 hC2 (by decide))).trans hC2, hB3⟩
    case measure => simp [intOf]; omega
   | false =>
    rw [if_neg (by simp)] at HSN2
    go_wp2_with (go_at_call 43; refine HTK.out.mono ?_; rintro e w2 ⟨rfl, hC2, hK2, hB2⟩)
    rw [if_neg (by simp)] at hC2
    go_roundw
    case rel => exact ⟨j + 1, by omega, by go_num, by rw [HSN2.out]; exact HOT.out _ hK2, by rw [HSN2.out]; exact hC2, HW.out.trans hB2⟩
    case measure => simp [intOf]; omega
  ·
   obtain rfl : j = l.length := by omega
   have hjj : decide ((l.length : Int) < (l.length : Int)) = false := decide_eq_false (by omega)
   rw [List.take_length] at hO
   go_wp2
   go_ret
   exact ⟨_, rfl, hO, hB⟩
end Go.Proofs.YtkljcdghbefceaaGreatDoor

namespace Go.Proofs.YtkljcdghbefceaaGreatDoor
set_option linter.unusedVariables false
set_option linter.unusedSimpArgs false
open Go.RowKit Go.Shelf Bits
open Go.Proofs.YtkljcdghbefceaaGreatDoorW.PrintWords Go.Proofs.YtkljcdghbefceaaGreatDoorW.PrintLast Go.Proofs.YtkljcdghbefceaaGreatDoorW.PrintMore
def mostS (g : List Tk) (o : List Int) (i : Nat) : Nat → Int
 | 0 => 0
 | k + 1 => if decide ((i : Int) ∈ (rdTk g k).f1) then max (mostS g o i k) (o.getD k 0) else mostS g o i k
def sStep (g : List Tk) (o : List Int) (i : Nat) : List Int := o.set i (mostS g o i g.length + (rdTk g i).f0)
def tailsSL (g : List Tk) (pre : List Nat) : List Int := pre.foldl (fun o p => sStep g o ((topL g).getD p 0)) (List.replicate g.length 0)
def tailsS (g : List Tk) : List Int := tailsSL g (backL (topL g).length (topL g).length)
theorem mostS_span {g : List Tk} {o : List Int} {n : Nat} {b : Int} (h : Span o n b) (i : Nat) (hb : 0 ≤ b) : ∀ k, 0 ≤ mostS g o i k ∧ mostS g o i k ≤ b
 | 0 => ⟨Int.le_refl _, hb⟩
 | k + 1 => by
  have ih := mostS_span (g := g) h i hb k
  have := h.2 k
  unfold mostS
  split <;> omega
theorem tailsSL_snoc (g : List Tk) (pre : List Nat) (p : Nat) : tailsSL g (pre ++ [p]) = sStep g (tailsSL g pre) ((topL g).getD p 0) := by
 unfold tailsSL
 rw [List.foldl_append]
 rfl
theorem span_zero (n : Nat) : Span (List.replicate n 0) n 0 := ⟨by simp, fun j => by
 rw [List.getD_eq_getElem?_getD, List.getElem?_replicate]
 split <;> simp⟩
theorem tailsSL_span {g : List Tk} (htm : ∀ i, 0 ≤ (rdTk g i).f0 ∧ (rdTk g i).f0 ≤ 20) (pre : List Nat) : Span (tailsSL g pre) g.length (20 * pre.length) := by
 have key : ∀ (pre : List Nat) (o : List Int) (b : Int), 0 ≤ b → Span o g.length b → Span (pre.foldl (fun o p => sStep g o ((topL g).getD p 0)) o) g.length (b + 20 * pre.length) := by
  intro pre
  induction pre with
  | nil =>
   intro o b _ h
   simpa using h
  | cons p pre ih =>
   intro o b hb h
   have h1 := mostS_span (g := g) h ((topL g).getD p 0) hb g.length
   have h2 := htm ((topL g).getD p 0)
   have h4 := ih _ (b + 20) (by omega) (h.set (b' := b + 20) (by omega) (x := mostS g o ((topL g).getD p 0) g.length + (rdTk g ((topL g).getD p 0)).f0) (by omega) ((topL g).getD p 0))
   rw [List.length_cons]
   have e : b + 20 + 20 * (pre.length : Int) = b + 20 * ((pre.length + 1 : Nat) : Int) := by omega
   rw [← e]
   exact h4
 have := key pre (List.replicate g.length 0) 0 (Int.le_refl _) (span_zero _)
 simpa [tailsSL] using this
end Go.Proofs.YtkljcdghbefceaaGreatDoor

namespace Go.Proofs.YtkljcdghbefceaaGreatDoor
set_option linter.unusedVariables false
set_option linter.unusedSimpArgs false
open Go.RowKit Go.Shelf Bits
open Go.Proofs.YtkljcdghbefceaaGreatDoorW.PrintWords Go.Proofs.YtkljcdghbefceaaGreatDoorW.PrintLast Go.Proofs.YtkljcdghbefceaaGreatDoorW.PrintMore
attribute [local go_sem] Oper.semAt_some
def els (s : Nat) : List Int := (elems s).map Int.ofNat
theorem els_of {s : Nat} {ys : List (El s)} (h : ys.map (·.1) = elems s) : ys.map (fun x => Int.ofNat x.1) = els s := by
 have := congrArg (List.map Int.ofNat) h
 rwa [List.map_map] at this
theorem len_of {s : Nat} {ys : List (El s)} (h : ys.map (·.1) = elems s) : ys.length = (els s).length := by
 have := congrArg List.length h
 simpa [els] using this
theorem els_length (s : Nat) : (els s).length ≤ 16 := by have := elems_length s; simpa [els] using this
end Go.Proofs.YtkljcdghbefceaaGreatDoor

namespace Go.Proofs.YtkljcdghbefceaaGreatDoor
set_option linter.unusedVariables false
set_option linter.unusedSimpArgs false
open Go.RowKit Go.Shelf Bits
open Go.Proofs.YtkljcdghbefceaaGreatDoorW.PrintWords Go.Proofs.YtkljcdghbefceaaGreatDoorW.PrintLast Go.Proofs.YtkljcdghbefceaaGreatDoorW.PrintMore
end Go.Proofs.YtkljcdghbefceaaGreatDoor

namespace Go.Proofs.YtkljcdghbefceaaGreatDoor
set_option linter.unusedVariables false
set_option linter.unusedSimpArgs false
open Go.RowKit Go.Shelf Bits
open Go.Proofs.YtkljcdghbefceaaGreatDoorW.PrintWords Go.Proofs.YtkljcdghbefceaaGreatDoorW.PrintLast Go.Proofs.YtkljcdghbefceaaGreatDoorW.PrintMore
end Go.Proofs.YtkljcdghbefceaaGreatDoor

namespace Go.Proofs.YtkljcdghbefceaaGreatDoor
set_option linter.unusedVariables false
set_option linter.unusedSimpArgs false
open Go.RowKit Go.Shelf Bits
open Go.Proofs.YtkljcdghbefceaaGreatDoorW.PrintWords Go.Proofs.YtkljcdghbefceaaGreatDoorW.PrintLast Go.Proofs.YtkljcdghbefceaaGreatDoorW.PrintMore
def MInv (M : Mach) : Prop := ∀ i, 0 ≤ M.bg i ∧ M.bg i ≤ 200
theorem MInv.zero : MInv Mach.zero := fun _ => by simp [Mach.zero]
theorem stepM_some {g : List Tk} {ns : List Nat} {M M' : Mach} {e : Ev} (h : stepM g ns M e = some M') :
  evIn g e = true ∧ ((e.f2 = false ∧ mayBegin ns M e = true ∧ M' = M.begin e) ∨ (e.f2 = true ∧ mayEnd g M e = true ∧ M' = M.finish e)) := by
 unfold stepM at h
 split at h
 ·
  cases h
 ·
  rename_i h1
  refine ⟨by simpa using h1, ?_⟩
  split at h
  ·
   rename_i h2
   split at h
   ·
    cases h; exact Or.inl ⟨h2, by assumption, rfl⟩
   ·
    cases h
  ·
   rename_i h2
   split at h
   ·
    cases h; exact Or.inr ⟨by simpa using h2, by assumption, rfl⟩
   ·
    cases h
theorem evIn_num {g : List Tk} {e : Ev} (h : evIn g e = true) : inB e.f0 0 200 = true ∧ e.f1 = ((e.i : Nat) : Int) ∧ e.i < g.length := by
 unfold evIn at h
 rw [Bool.and_eq_true] at h
 have h2 := inB_true.1 h.2
 unfold Ev.i
 refine ⟨h.1, ?_, ?_⟩ <;> omega
theorem MInv.step {g : List Tk} {ns : List Nat} {M M' : Mach} {e : Ev} (hM : MInv M) (h : stepM g ns M e = some M') : MInv M' := by
 obtain ⟨h1, ⟨_, _, rfl⟩ | ⟨_, _, rfl⟩⟩ := stepM_some h
 ·
  intro i
  simp only [Mach.begin]
  split
  ·
   exact inB_true.1 (evIn_num h1).1
  ·
   exact hM i
 ·
  exact fun i => hM i
section
variable (C h : Nat) (g : List Tk) (ns : List Nat) (M : Mach) (e : Ev) (w : World) (hG : IsGraph w C g ns) (hgl : g.length ≤ 8) (hnl : ns.length = g.length) (hM : MAt h C M w)
 (hI : MInv M) (ht : ∀ i, 0 ≤ (rdTk g i).f0 ∧ (rdTk g i).f0 ≤ 20) (hx : ∀ i, ns.getD i 0 < 65536)
include hG hgl hnl hM hI ht hx
end
end Go.Proofs.YtkljcdghbefceaaGreatDoor

namespace Go.Proofs.YtkljcdghbefceaaGreatDoor
set_option linter.unusedVariables false
set_option linter.unusedSimpArgs false
open Go.RowKit Go.Shelf Bits
open Go.Proofs.YtkljcdghbefceaaGreatDoorW.PrintWords Go.Proofs.YtkljcdghbefceaaGreatDoorW.PrintLast Go.Proofs.YtkljcdghbefceaaGreatDoorW.PrintMore
def running (M : Mach) : Int := ((elems (diff M.b M.o)).length : Nat)
def inOrder (log : List Ev) (k : Nat) : Bool := !(decide (0 < k) && decide ((rdEv log (k - 1)).f0 > (rdEv log k).f0))
def lastOf (log : List Ev) (k : Nat) : Bool := decide (k + 1 = log.length) || decide ((rdEv log (k + 1)).f0 > (rdEv log k).f0)
def replayN (g : List Tk) (ns : List Nat) (log : List Ev) : Nat → Option (Mach × Int)
 | 0 => some (Mach.zero, 0)
 | k + 1 => (replayN g ns log k).bind fun p => if inOrder log k = false then none else (stepM g ns p.1 (rdEv log k)).map fun M => (M, if lastOf log k then max p.2 (running M) else p.2)
def ReplayPost (g : List Tk) (ns : List Nat) (log : List Ev) (w : World) (e : Ending) (w' : World) : Prop :=
 match replayN g ns log log.length with
 | some p => ∃ h C, e = .returned (.tuple #[.pointer (some ⟨h, 0, none⟩), .int .i64 p.2, .bool true]) ∧ MAt h C p.1 w' ∧ IsGraph w' C g ns ∧ MInv p.1 ∧ Below w.heap.size w w'
 | none => e = .returned (.tuple #[.pointer none, .int .i64 0, .bool false]) ∧ Below w.heap.size w w'
theorem replayN_none {g : List Tk} {ns : List Nat} {log : List Ev} {k : Nat} (h : replayN g ns log k = none) : ∀ m, k ≤ m → replayN g ns log m = none := by
 intro m hm
 induction m with
 | zero =>
  have : k = 0 := by omega
  subst this; exact h
 | succ m ih =>
  rcases Nat.lt_or_ge m k with h1 | h1
  ·
   have : k = m + 1 := by omega
   subst this; exact h
  ·
   simp only [replayN, ih h1, Option.bind_none]
theorem ReplayPost.none {g : List Tk} {ns : List Nat} {log : List Ev} {w w' : World} {e : Ending} {k : Nat} (h : replayN g ns log k = .none) (hk : k ≤ log.length)
  (he : e = .returned (.tuple #[.pointer .none, .int .i64 0, .bool false])) (hB : Below w.heap.size w w') : ReplayPost g ns log w e w' := by
 unfold ReplayPost
 rw [replayN_none h _ hk]
 exact ⟨he, hB⟩
theorem replayN_order {g : List Tk} {ns : List Nat} {log : List Ev} {k : Nat} {p : Mach × Int} (h : replayN g ns log k = some p) (ho : inOrder log k = false) : replayN g ns log (k + 1) = .none := by
 simp only [replayN, h, Option.bind_some, if_pos ho]
theorem replayN_none1 {g : List Tk} {ns : List Nat} {log : List Ev} {k : Nat} {M : Mach} {most : Int} (h : replayN g ns log k = some (M, most)) (ho : inOrder log k = true) (hs : stepM g ns M (rdEv log k) = .none) :
  replayN g ns log (k + 1) = .none := by
 have ho' : ¬ (inOrder log k = false) := by rw [ho]; simp
 simp only [replayN, h, Option.bind_some, if_neg ho', hs, Option.map_none]
theorem replayN_some1 {g : List Tk} {ns : List Nat} {log : List Ev} {k : Nat} {M M' : Mach} {most : Int} (h : replayN g ns log k = some (M, most)) (ho : inOrder log k = true) (hs : stepM g ns M (rdEv log k) = some M') :
  replayN g ns log (k + 1) = some (M', if lastOf log k then max most (running M') else most) := by
 have ho' : ¬ (inOrder log k = false) := by rw [ho]; simp
 simp only [replayN, h, Option.bind_some, if_neg ho', hs, Option.map_some]
theorem max_run (M : Mach) (most : Int) : max most (running M) = if most < (((els (diff M.b M.o)).length : Nat) : Int) then (((els (diff M.b M.o)).length : Nat) : Int) else most := by
 have e : running M = (((els (diff M.b M.o)).length : Nat) : Int) := by unfold running els; rw [List.length_map]
 rw [e]
 split <;> omega
theorem max_bound {most : Int} (h : 0 ≤ most ∧ most ≤ 16) (M : Mach) : 0 ≤ max most (running M) ∧ max most (running M) ≤ 16 := by
 have := els_length (diff M.b M.o)
 have e : running M = (((els (diff M.b M.o)).length : Nat) : Int) := by unfold running els; rw [List.length_map]
 rw [e]
 omega
end Go.Proofs.YtkljcdghbefceaaGreatDoor

namespace Go.Proofs.YtkljcdghbefceaaGreatDoor
set_option linter.unusedVariables false
set_option linter.unusedSimpArgs false
open Go.RowKit Go.Shelf Bits
open Go.Proofs.YtkljcdghbefceaaGreatDoorW.PrintWords Go.Proofs.YtkljcdghbefceaaGreatDoorW.PrintLast Go.Proofs.YtkljcdghbefceaaGreatDoorW.PrintMore
def replayB (g : List Tk) (log : List Ev) : Option (Mach × Int) :=
 (graphN g).bind fun ns => if log.length ≤ 16 then replayN g ns log log.length else none
def ReplayAll (g : List Tk) (log : List Ev) (w : World) (e : Ending) (w' : World) : Prop :=
 match replayB g log with
 | some p => ∃ h C ns, graphN g = some ns ∧ e = .returned (.tuple #[.pointer (some ⟨h, 0, none⟩), .int .i64 p.2, .bool true]) ∧ MAt h C p.1 w' ∧ IsGraph w' C g ns ∧ MInv p.1 ∧ Below w.heap.size w w'
 | none => e = .returned (.tuple #[.pointer none, .int .i64 0, .bool false]) ∧ Below w.heap.size w w'
end Go.Proofs.YtkljcdghbefceaaGreatDoor

namespace Go.Proofs.YtkljcdghbefceaaGreatDoor
set_option linter.unusedVariables false
set_option linter.unusedSimpArgs false
open Go.RowKit Go.Shelf Bits
theorem setOfL_bits (n : Int) : ∀ (l : List Int) (last : Int) (s r : Nat), -1 ≤ last → setOfL n l last s = some r → ∀ j, r.testBit j = (s.testBit j || decide ((j : Int) ∈ l))
 | [], last, s, r, _, h, j => by
  simp only [setOfL, Option.some.injEq] at h
  subst h
  simp
 | i :: l, last, s, r, hl, h, j => by
  rw [setOfL_cons] at h
  split at h
  ·
   rename_i hc
   rw [setOfL_bits n l i _ r (by omega) h j, or_bit]
   have e : decide (i.toNat = j) = decide ((j : Int) = i) := decide_eq_decide.2 (by omega)
   rw [e]
   simp only [List.mem_cons, Bool.or_assoc, Bool.decide_or]
  ·
   cases h
theorem setOfN_bits {l : List Int} {n s : Nat} (h : setOfN l n = some s) (j : Nat) : s.testBit j = decide ((j : Int) ∈ l) := by
 rw [setOfL_bits n l _ _ _ (by omega) h j]
 simp
theorem setOfL_mem (n : Int) : ∀ (l : List Int) (last : Int) (s r : Nat), -1 ≤ last → setOfL n l last s = some r → ∀ x ∈ l, 0 ≤ x ∧ x ≤ n - 1
 | [], _, _, _, _, _, x, hx => by cases hx
 | i :: l, last, s, r, hl, h, x, hx => by
  rw [setOfL_cons] at h
  split at h
  ·
   rename_i hc
   rcases List.mem_cons.1 hx with rfl | hx
   ·
    omega
   ·
    exact setOfL_mem n l i _ r (by omega) h x hx
  ·
   cases h
structure Link (g : List Tk) (pre : List Ev) (M : Mach) : Prop where
 b : ∀ i, M.b.testBit i = decide (0 ≤ begunL (i : Nat) pre (-1))
 q : ∀ i, M.b.testBit i = true → M.bg i = begunL (i : Nat) pre (-1)
 o : ∀ i, M.o.testBit i = decide (((i : Nat) : Int) ∈ overL pre)
theorem Link.zero (g : List Tk) : Link g [] Mach.zero := ⟨fun i => by simp [Mach.zero, begunL], fun i h => by simp [Mach.zero] at h, fun i => by simp [Mach.zero, overL]⟩
theorem mayBegin_fit {g : List Tk} {ns : List Nat} {pre : List Ev} {M : Mach} {e : Ev} (hg : graphN g = some ns) (hL : Link g pre M) (he : evIn g e = true) (h2 : e.f2 = false) : mayBegin ns M e = evFit g pre e := by
 obtain ⟨h0, h1, hi⟩ := evIn_num he
 have hs := ((graphN_all hg).2.2 e.i hi).2
 unfold mayBegin evFit
 rw [h2]
 simp only [Bool.false_eq_true, if_false]
 rw [h1, Int.toNat_natCast, hL.b]
 congr 1
 ·
  by_cases hx : 0 ≤ begunL ((e.i : Nat) : Int) pre (-1)
  ·
   rw [decide_eq_true hx, decide_eq_false (by omega)]; rfl
  ·
   rw [decide_eq_false hx, decide_eq_true (by omega)]; rfl
 ·
  unfold allDoneB
  rw [Bool.eq_iff_iff, decide_eq_true_iff, diff_zero, List.all_eq_true]
  constructor
  ·
   intro h x hx
   obtain ⟨hx0, hx1⟩ := setOfL_mem _ _ _ _ _ (by omega) hs x hx
   have hxe : x = ((x.toNat : Nat) : Int) := by omega
   have := h x.toNat (by rw [setOfN_bits hs]; exact decide_eq_true (by rw [← hxe]; exact hx))
   rw [hL.o, ← hxe] at this
   exact this
  ·
   intro h j hj
   rw [setOfN_bits hs] at hj
   rw [hL.o]
   exact h _ (of_decide_eq_true hj)
theorem mayEnd_fit {g : List Tk} {pre : List Ev} {M : Mach} {e : Ev} (hL : Link g pre M) (he : evIn g e = true) (h2 : e.f2 = true) : mayEnd g M e = evFit g pre e := by
 obtain ⟨h0, h1, hi⟩ := evIn_num he
 unfold mayEnd evFit
 rw [h2]
 simp only [if_true]
 rw [h1, Int.toNat_natCast]
 cases hb : M.b.testBit e.i
 ·
  have := hL.b e.i
  rw [hb] at this
  rw [← this]; rfl
 ·
  have h3 := hL.b e.i
  rw [hb] at h3
  rw [← h3, hL.o, hL.q e.i hb, Bool.true_and, Bool.true_and]
theorem step_fit {g : List Tk} {ns : List Nat} {pre : List Ev} {M : Mach} {e : Ev} (hg : graphN g = some ns) (hL : Link g pre M) : (stepM g ns M e).isSome = (evIn g e && evFit g pre e) := by
 unfold stepM
 cases he : evIn g e
 ·
  rfl
 ·
  rw [if_neg (by simp), Bool.true_and]
  cases h2 : e.f2
  ·
   rw [if_pos rfl, ← mayBegin_fit hg hL he h2]
   cases mayBegin ns M e <;> rfl
  ·
   rw [if_neg (by simp), ← mayEnd_fit hL he h2]
   cases mayEnd g M e <;> rfl
theorem Link.step {g : List Tk} {ns : List Nat} {pre : List Ev} {M M' : Mach} {e : Ev} (hL : Link g pre M) (h : stepM g ns M e = some M') : Link g (pre ++ [e]) M' := by
 obtain ⟨he, ⟨h2, hm, rfl⟩ | ⟨h2, hm, rfl⟩⟩ := stepM_some h
 ·
  obtain ⟨h0, h1, hi⟩ := evIn_num he
  have h00 := (inB_true.1 h0).1
  refine ⟨fun i => ?_, fun i hb => ?_, fun i => ?_⟩
  ·
   rw [begunL_snoc, h2]
   simp only [Mach.begin, or_bit, Bool.false_eq_true, if_false]
   by_cases hie : e.f1 = (i : Int)
   ·
    rw [if_pos hie, decide_eq_true (show e.i = i by omega), Bool.or_true, decide_eq_true h00]
   ·
    rw [if_neg hie, decide_eq_false (show ¬ e.i = i by omega), Bool.or_false, hL.b]
  ·
   rw [begunL_snoc, h2]
   simp only [Mach.begin, or_bit, Bool.false_eq_true, if_false] at hb ⊢
   by_cases hie : e.f1 = (i : Int)
   ·
    rw [if_pos hie, if_pos (show i = e.i by omega)]
   ·
    rw [if_neg hie, if_neg (show ¬ i = e.i by omega)]
    rw [decide_eq_false (show ¬ e.i = i by omega), Bool.or_false] at hb
    exact hL.q i hb
  ·
   rw [overL_snoc, h2]
   simp only [Mach.begin, Bool.false_eq_true, if_false]
   exact hL.o i
 ·
  obtain ⟨h0, h1, hi⟩ := evIn_num he
  refine ⟨fun i => ?_, fun i hb => ?_, fun i => ?_⟩
  ·
   rw [begunL_snoc, h2]
   simp only [Mach.finish, if_true]
   exact hL.b i
  ·
   rw [begunL_snoc, h2]
   simp only [Mach.finish, if_true] at hb ⊢
   exact hL.q i hb
  ·
   rw [overL_snoc, h2]
   simp only [Mach.finish, or_bit, if_true, List.mem_append, List.mem_singleton, Bool.decide_or]
   rw [hL.o]
   congr 1
   exact decide_eq_decide.2 (by omega)
end Go.Proofs.YtkljcdghbefceaaGreatDoor
namespace Go.Proofs.YtkljcdghbefceaaGreatDoor
set_option linter.unusedVariables false
set_option linter.unusedSimpArgs false
open Go.RowKit Go.Shelf Bits
theorem eventOk_eq (g : List Tk) (log : List Ev) (k : Nat) : eventOkB g log k = (evIn g (rdEv log k) && inOrder log k && evFit g (log.take k) (rdEv log k)) := by
 unfold eventOkB evIn inOrder eventFitsB
 show (_ && (!(_ && decide ((rdEv log (k - 1)).f0 > (rdEv log k).f0))) && _ && _) = _
 generalize inB (rdEv log k).f0 0 200 = a
 generalize (!(decide (0 < k) && decide ((rdEv log (k - 1)).f0 > (rdEv log k).f0))) = b
 generalize inB (rdEv log k).f1 0 (g.length - 1) = c
 generalize evFit g (log.take k) (rdEv log k) = d
 cases a <;> cases b <;> cases c <;> cases d <;> rfl
theorem replayN_law {g : List Tk} {ns : List Nat} {log : List Ev} (hg : graphN g = some ns) : ∀ k, k ≤ log.length →
  ((∀ j, j < k → eventOkB g log j = true) ∧ ∃ p, replayN g ns log k = some p ∧ Link g (log.take k) p.1) ∨ ((∃ j, j < k ∧ eventOkB g log j = false) ∧ replayN g ns log k = none)
 | 0, _ => Or.inl ⟨fun j h => absurd h (Nat.not_lt_zero _), (Mach.zero, 0), rfl, Link.zero g⟩
 | k + 1, hk => by
  rcases replayN_law (log := log) hg k (by omega) with ⟨hall, ⟨M, most⟩, hp, hL⟩ | ⟨⟨j, hj, hf⟩, hn⟩
  ·
   have hsf := step_fit (e := rdEv log k) hg hL
   cases hio : inOrder log k
   ·
    refine Or.inr ⟨⟨k, Nat.lt_succ_self _, ?_⟩, replayN_order hp hio⟩
    rw [eventOk_eq, hio]
    simp
   ·
    cases hs : stepM g ns M (rdEv log k) with
    | none =>
     refine Or.inr ⟨⟨k, Nat.lt_succ_self _, ?_⟩, replayN_none1 hp hio hs⟩
     rw [hs] at hsf
     rw [eventOk_eq, hio, Bool.and_true]
     exact hsf.symm
    | some M' =>
     refine Or.inl ⟨fun j hj => ?_, _, replayN_some1 hp hio hs, ?_⟩
     ·
      rcases Nat.lt_succ_iff_lt_or_eq.1 hj with h | rfl
      ·
       exact hall j h
      ·
       rw [hs] at hsf
       rw [eventOk_eq, hio, Bool.and_true]
       exact hsf.symm
     ·
      rw [take_snocE (by omega)]
      exact hL.step hs
  ·
   exact Or.inr ⟨⟨j, by omega, hf⟩, replayN_none hn (k + 1) (by omega)⟩
theorem validLog_law {g : List Tk} {log : List Ev} (hgs : specValid g = (graphN g).isSome) : validLogB g log = (replayB g log).isSome := by
 unfold validLogB replayB
 rw [hgs]
 cases hg : graphN g with
 | none => rfl
 | some ns =>
  rw [Option.bind_some]
  by_cases hlen : log.length ≤ 16
  ·
   rw [if_pos hlen, decide_eq_true hlen]
   simp only [Option.isSome_some, Bool.true_and]
   rcases replayN_law (log := log) hg log.length (Nat.le_refl _) with ⟨hall, p, hp, _⟩ | ⟨⟨j, hj, hf⟩, hn⟩
   ·
    rw [hp, Option.isSome_some, List.all_eq_true]
    exact fun j hj => hall j (List.mem_range.1 hj)
   ·
    rw [hn, Option.isSome_none, List.all_eq_false]
    exact ⟨j, List.mem_range.2 hj, by rw [hf]; simp⟩
  ·
   rw [if_neg hlen, decide_eq_false hlen]
   simp
end Go.Proofs.YtkljcdghbefceaaGreatDoor
namespace Go.Proofs.YtkljcdghbefceaaGreatDoor
set_option linter.unusedVariables false
set_option linter.unusedSimpArgs false
open Go.RowKit Go.Shelf Bits
theorem setOfL_isSome (n : Int) : ∀ (l : List Int) (last : Int) (s : Nat), (setOfL n l last s).isSome = true ↔ (∀ j, j < l.length → last < l.getD j 0 ∧ l.getD j 0 ≤ n - 1) ∧ (∀ j, j + 1 < l.length → l.getD j 0 < l.getD (j + 1) 0)
 | [], last, s => by simp [setOfL]
 | i :: l, last, s => by
  rw [setOfL_cons]
  split
  ·
   rename_i hc
   rw [setOfL_isSome n l i]
   constructor
   ·
    rintro ⟨h1, h2⟩
    refine ⟨fun j hj => ?_, fun j hj => ?_⟩
    ·
     cases j with
     | zero => show last < i ∧ i ≤ n - 1; omega
     | succ j =>
      have := h1 j (by simpa using hj)
      show last < l.getD j 0 ∧ l.getD j 0 ≤ n - 1
      omega
    ·
     cases j with
     | zero => exact (h1 0 (by simpa using hj)).1
     | succ j => exact h2 j (by simpa using hj)
   ·
    rintro ⟨h1, h2⟩
    have chain : ∀ j, j < l.length → i < l.getD j 0 := by
     intro j
     induction j with
     | zero => exact fun hj => h2 0 (by simpa using hj)
     | succ j ih => exact fun hj => Int.lt_trans (ih (by omega)) (h2 (j + 1) (by simpa using hj))
    exact ⟨fun j hj => ⟨chain j hj, (h1 (j + 1) (by simpa using hj)).2⟩, fun j hj => h2 (j + 1) (by simpa using hj)⟩
  ·
   rename_i hc
   simp only [Option.isSome_none, Bool.false_eq_true, false_iff, not_and]
   intro h1
   exfalso
   have := h1 0 (by simp)
   apply hc
   have e : (i :: l).getD 0 0 = i := rfl
   rw [e] at this
   omega
theorem all_getD {p : Int → Bool} {l : List Int} : l.all p = true ↔ ∀ j, j < l.length → p (l.getD j 0) = true := by
 rw [List.all_eq_true]
 constructor
 ·
  intro h j hj
  rw [List.getD_eq_getElem?_getD, List.getElem?_eq_getElem hj]
  exact h _ (List.getElem_mem hj)
 ·
  intro h x hx
  obtain ⟨j, hj, rfl⟩ := List.getElem_of_mem hx
  have := h j hj
  rwa [List.getD_eq_getElem?_getD, List.getElem?_eq_getElem hj] at this
theorem setOfN_isSome (l : List Int) (n : Nat) : (setOfN l n).isSome = (allInB l 0 (n - 1) && ascB l) := by
 rw [Bool.eq_iff_iff, Bool.and_eq_true]
 unfold setOfN allInB ascB
 rw [setOfL_isSome, all_getD, List.all_eq_true]
 simp only [List.mem_range, decide_eq_true_eq, inB_true]
 constructor
 ·
  rintro ⟨h1, h2⟩
  exact ⟨fun j hj => by have := h1 j hj; omega, fun j hj => h2 j (by omega)⟩
 ·
  rintro ⟨h1, h2⟩
  exact ⟨fun j hj => by have := h1 j hj; omega, fun j hj => h2 j (by omega)⟩
theorem taskFine_eq (n : Nat) (t : Tk) : taskFineB n t = (taskOk t && (setOfN t.f1 n).isSome) := by
 unfold taskFineB taskOk
 rw [setOfN_isSome, Bool.and_assoc]
theorem needsL_isSome (n : Nat) : ∀ l : List Tk, (needsL n l).isSome = l.all (taskFineB n)
 | [] => rfl
 | t :: r => by
  rw [List.all_cons, taskFine_eq, ← needsL_isSome n r]
  cases h1 : setOfN t.f1 n with
  | none => rw [needsL_bad (Or.inl h1)]; simp
  | some s =>
   cases h2 : taskOk t with
   | false => rw [needsL_bad (Or.inr h2)]; rfl
   | true => rw [needsL_good h1 h2]; simp
theorem tasksFine_eq (g : List Tk) : tasksFineB g = (needsN g).isSome := by
 unfold tasksFineB needsN
 rw [← needsL_isSome]
 by_cases h : 8 < g.length
 ·
  rw [if_pos h, decide_eq_false (by omega), Bool.and_false]; rfl
 ·
  rw [if_neg h, decide_eq_true (by omega), Bool.and_true]
theorem find_congr {α : Type} {p q : α → Bool} : ∀ {l : List α}, (∀ x ∈ l, p x = q x) → l.find? p = l.find? q
 | [], _ => rfl
 | x :: l, h => by
  rw [List.find?_cons, List.find?_cons, h x (List.mem_cons_self ..), find_congr fun y hy => h y (List.mem_cons_of_mem _ hy)]
theorem mem_intsN {i : Nat} {l : List Nat} : ((i : Nat) : Int) ∈ ints l ↔ i ∈ l := by
 unfold ints
 rw [List.mem_map]
 constructor
 ·
  rintro ⟨j, hj, e⟩
  have : j = i := Int.ofNat.inj e
  rwa [← this]
 ·
  exact fun h => ⟨i, h, rfl⟩
theorem ord_top {g : List Tk} {ns : List Nat} (hn : ns.length = g.length) (hg : ∀ i, i < g.length → setOfN (rdTk g i).f1 g.length = some (ns.getD i 0)) :
  ∀ k, topN g k = (ordN ns k).1 ∧ ∀ i, (ordN ns k).2.testBit i = decide (i ∈ (ordN ns k).1)
 | 0 => ⟨rfl, fun i => by simp [ordN]⟩
 | k + 1 => by
  obtain ⟨h1, h2⟩ := ord_top hn hg k
  have hr : ∀ i, i < g.length → specReady g (topN g k) i = isReady ns (ordN ns k).2 i := by
   intro i hi
   unfold specReady isReady
   rw [h2, h1]
   congr 1
   ·
    rw [decide_eq_decide.2 mem_intsN]
   ·
    unfold allDoneB
    rw [Bool.eq_iff_iff, decide_eq_true_iff, diff_zero, List.all_eq_true]
    constructor
    ·
     intro h j hj
     rw [setOfN_bits (hg i hi)] at hj
     rw [h2]
     have := of_decide_eq_true (h _ (of_decide_eq_true hj))
     exact decide_eq_true (mem_intsN.1 this)
    ·
     intro h x hx
     obtain ⟨hx0, hx1⟩ := setOfL_mem _ _ _ _ _ (by omega) (hg i hi) x hx
     have hxe : x = ((x.toNat : Nat) : Int) := by omega
     have := h x.toNat (by rw [setOfN_bits (hg i hi)]; exact decide_eq_true (by rw [← hxe]; exact hx))
     rw [h2] at this
     rw [hxe]
     exact decide_eq_true (mem_intsN.2 (of_decide_eq_true this))
  have hf : topFirst g (topN g k) = firstReady ns (ordN ns k).2 := by
   unfold topFirst firstReady
   rw [hn]
   exact find_congr fun i hi => hr i (List.mem_range.1 hi)
  show topStep g (topN g k) = (ordStep ns (ordN ns k)).1 ∧ ∀ i, (ordStep ns (ordN ns k)).2.testBit i = decide (i ∈ (ordStep ns (ordN ns k)).1)
  unfold topStep ordStep
  rw [hf]
  cases firstReady ns (ordN ns k).2 with
  | none => exact ⟨h1, h2⟩
  | some i =>
   refine ⟨by rw [h1], fun j => ?_⟩
   simp only [or_bit, h2, List.mem_append, List.mem_singleton, Bool.decide_or]
   congr 1
   exact decide_eq_decide.2 eq_comm
def cntW : Nat → Nat → Nat
 | 0, _ => 0
 | n + 1, s => cntW n s + if s.testBit n then 1 else 0
theorem cntW_high {i s : Nat} : ∀ n, n ≤ i → cntW n (s ||| 2 ^ i) = cntW n s
 | 0, _ => rfl
 | n + 1, h => by
  unfold cntW
  rw [cntW_high n (by omega), or_bit, decide_eq_false (show ¬ i = n by omega), Bool.or_false]
theorem cntW_step {i s : Nat} (hs : s.testBit i = false) : ∀ n, i < n → cntW n (s ||| 2 ^ i) = cntW n s + 1
 | n + 1, h => by
  unfold cntW
  rw [or_bit]
  by_cases hi : i = n
  ·
   subst hi
   rw [cntW_high i (Nat.le_refl _), hs]
   simp
  ·
   rw [cntW_step hs n (by omega), decide_eq_false hi, Bool.or_false]
   omega
theorem cntW_le (s : Nat) : ∀ n, cntW n s ≤ n
 | 0 => Nat.le_refl _
 | n + 1 => by
  unfold cntW
  have := cntW_le s n
  split <;> omega
theorem cntW_full (s : Nat) : ∀ n, cntW n s = n ↔ ∀ j, j < n → s.testBit j = true
 | 0 => by simp [cntW]
 | n + 1 => by
  unfold cntW
  have h1 := cntW_le s n
  have h2 := cntW_full s n
  constructor
  ·
   intro h j hj
   split at h
   ·
    rename_i hb
    rcases Nat.lt_succ_iff_lt_or_eq.1 hj with h3 | rfl
    ·
     exact h2.1 (by omega) j h3
    ·
     exact hb
   ·
    omega
  ·
   intro h
   rw [if_pos (h n (Nat.lt_succ_self _)), h2.2 fun j hj => h j (by omega)]
theorem cnt_zero : ∀ n, cntW n 0 = 0
 | 0 => rfl
 | n + 1 => by unfold cntW; rw [cnt_zero n]; simp
theorem ord_cnt (ns : List Nat) : ∀ k, (ordN ns k).1.length = cntW ns.length (ordN ns k).2
 | 0 => (cnt_zero _).symm
 | k + 1 => by
  show (ordStep ns (ordN ns k)).1.length = cntW ns.length (ordStep ns (ordN ns k)).2
  have h0 := ord_cnt ns k
  unfold ordStep
  cases hf : firstReady ns (ordN ns k).2 with
  | none => exact h0
  | some i =>
   obtain ⟨hi, hr⟩ := firstReady_spec hf
   unfold isReady at hr
   rw [Bool.and_eq_true, Bool.not_eq_true'] at hr
   rw [cntW_step hr.1 _ hi, ← h0]
   simp
theorem full_iff {s n : Nat} (h : s < 2 ^ n) : (∀ j, j < n → s.testBit j = true) ↔ s = 2 ^ n - 1 := by
 constructor
 ·
  intro hb
  apply Nat.eq_of_testBit_eq
  intro j
  rw [Nat.testBit_two_pow_sub_one]
  by_cases hj : j < n
  ·
   rw [hb j hj, decide_eq_true hj]
  ·
   rw [decide_eq_false hj]
   exact Nat.testBit_lt_two_pow (Nat.lt_of_lt_of_le h (Nat.pow_le_pow_right (by omega) (by omega)))
 ·
  rintro rfl j hj
  rw [Nat.testBit_two_pow_sub_one, decide_eq_true hj]
theorem specValid_eq (g : List Tk) : specValid g = (graphN g).isSome := by
 unfold specValid graphN
 rw [tasksFine_eq]
 cases hn : needsN g with
 | none => rfl
 | some ns =>
  have hl := needsN_length hn
  have hall := (needsL_all _ _ _ (needsN_some hn).2).2
  have ht := (ord_top hl (fun i hi => (hall i hi).2) g.length).1
  rw [Option.bind_some, Option.isSome_some, Bool.true_and]
  show decide ((topN g g.length).length = g.length) = _
  rw [ht, ord_cnt, hl]
  have hlt := (ordN_lt ns g.length).1
  rw [hl] at hlt
  rw [decide_eq_decide.2 ((cntW_full _ _).trans (full_iff hlt))]
  by_cases h : (ordN ns g.length).2 = 2 ^ g.length - 1
  ·
   rw [if_pos h, decide_eq_true h]; rfl
  ·
   rw [if_neg h, decide_eq_false h]; rfl
theorem validLog_eq (g : List Tk) (log : List Ev) : validLogB g log = (replayB g log).isSome := validLog_law (specValid_eq g)
end Go.Proofs.YtkljcdghbefceaaGreatDoor
