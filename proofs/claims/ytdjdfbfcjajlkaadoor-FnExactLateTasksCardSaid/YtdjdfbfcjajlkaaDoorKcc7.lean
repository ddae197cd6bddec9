/- Parts of the proof, laid as one text by a program of mine. -/
import Derived.Test.YtdjdfbfcjajlkaaDoorKcc5
import Derived.Test.YtdjdfbfcjajlkaaDoorKcc6
import Derived.Test.YtdjdfbfcjajlkaaDoorKcc3
import Derived.Test.YtdjdfbfcjajlkaaDoorKcc2
import Derived.Test.YtdjdfbfcjajlkaaDoorKcc4
namespace Go.Proofs.YtdjdfbfcjajlkaaDoor
set_option linter.unusedVariables false
set_option linter.unusedSimpArgs false
open Go.RowKit Go.Shelf Bits
open Go.Proofs.YtdjdfbfcjajlkaaDoorW.PrintWords Go.Proofs.YtdjdfbfcjajlkaaDoorW.PrintLast Go.Proofs.YtdjdfbfcjajlkaaDoorW.PrintMore
attribute [local go_sem] Oper.semAt_some
def cnt (g : List Tk) (l : List Nat) : Ct := ⟨l.length, fun j => usedS g l j⟩
theorem cnt_snoc {g : List Tk} {p : Nat} {i : Nat} (l : List Nat) (hp : (rdTk g i).f2 = (p : Int)) : cnt g (l ++ [i]) = (cnt g l).add p (rdTk g i).f3 1 := by
 unfold cnt Ct.add
 congr 1
 ·
  simp
 ·
  funext j
  rw [usedS_snoc, hp]
  show _ = if j = p then usedS g l j + 1 * (rdTk g i).f3 else usedS g l j
  by_cases hj : j = p
  ·
   rw [if_pos hj, hj, if_pos rfl, Int.one_mul]
  ·
   rw [if_neg hj, if_neg (by omega), Int.add_zero]
theorem cnt_small {g : List Tk} (hg : TOk g) {l : List Nat} (hl : l.length ≤ 100) : (cnt g l).small 1000 := by
 refine ⟨⟨?_, ?_⟩, fun j => ?_⟩
 ·
  show -1000 ≤ (l.length : Int)
  omega
 ·
  show (l.length : Int) ≤ 1000
  omega
 ·
  have := usedS_bound hg j l
  show -(1000 * 1000) ≤ usedS g l j ∧ usedS g l j ≤ 1000 * 1000
  omega
theorem CAt.own {β : Type} {B0 b : Nat} (f : β → Ct) (hb : b < B0) : OwnFrom B0 (fun s W => CAt W b (f s)) := by
 intro s W W' row hs hg hr
 exact (hg.block b hs.lt (fun e => by have := (hr b e.symm).1; omega)).trans hs
theorem CAt.keep {W W' : World} {b : Nat} {c : Ct} (h : CAt W b c) {g : Nat} (hk : KeepBut W W' g none) (hne : b ≠ g) : CAt W' b c := hk.blk h hne (by simp)
theorem keep_others1 {w w' : World} {b : Nat} {c : Ct} (hk : KeepBut w w' b none) (hC : CAt w b c) : KeepsOthers w w' := by
 refine ⟨hk.1, fun k o ho hc => ?_⟩
 have hl := (Array.getElem?_eq_some_iff.1 ho).1
 refine (hk.2 k hl (fun e => ?_) (by simp)).trans ho
 subst e
 rw [show w.heap[k]? = _ from hC] at ho
 cases ho
 cases hc
set_option maxRecDepth 100000 in
set_option maxHeartbeats 4000000 in
theorem counted_calls (C : Nat) (g : List Tk) (ns : List Nat) (s : Nat) (hs : s < 2 ^ g.length) (hok : TOk g) (w : World) (hG : IsGraph w C g ns) (hT : Tab w) :
  Calls Tryd.prog 93 #[.pointer (some ⟨C, 0, none⟩), .int .u16 s] w fun e W' => e = .returned (.agg #[.int .i64 (cnt g (elems s)).t, .int .i64 ((cnt g (elems s)).u 0), .int .i64 ((cnt g (elems s)).u 1), .int .i64 ((cnt g (elems s)).u 2)]) ∧ Below w.heap.size w W' := by
 have h8 := hok.1
 have hs16 : s < 65536 := Nat.lt_of_lt_of_le hs (Nat.le_trans (Nat.pow_le_pow_right (by omega) h8) (by decide))
 have hCl : C < w.heap.size := by obtain ⟨Ag, cg, An, cn, Ao, co, vb, va, h1, _⟩ := hG; exact blk_lt h1
 have HG := Lib.hid hG
 have HOK := Lib.hid hok
 clear hG hok
 refine calls_of_wp_marks Tryd.func93 rfl ?_
 simp only [Tryd.ntmps93, List.size_toArray, List.length_cons, List.length_nil, Nat.reduceAdd, Nat.reduceSub, Array.replicate_succ, Array.replicate_zero, List.push_toArray, List.append_toArray, List.nil_append, List.cons_append]
 go_wp2_with (go_at_call 89; refine (all_calls s _).mono ?_; rintro e w' ⟨rfl, rfl⟩)
 obtain ⟨W0, hW0⟩ : ∃ W0, W0 = ((w.alloc (.cells #[.pointer (some ⟨C, 0, none⟩)] 60)).alloc (.cells #[.int .i64 0, .int .i64 0, .int .i64 0, .int .i64 0] 101)).alloc (.cells #[.int .i64 0, .int .i64 0, .int .i64 0, .int .i64 0] 101) := ⟨_, rfl⟩
 have hB0 : Below w.heap.size w W0 := by rw [hW0]; exact (((Below.refl _ w).alloc (Nat.le_refl _) _).alloc (by simp) _).alloc (by simp; omega) _
 have hz0' : W0.heap.size = w.heap.size + 1 + 1 + 1 := by rw [hW0]; simp
 have hb0 : CAt W0 (w.heap.size + 1 + 1) Ct.zero := by
  rw [hW0]
  have := World.alloc_heap_new ((w.alloc (.cells #[.pointer (some ⟨C, 0, none⟩)] 60)).alloc (.cells #[.int .i64 0, .int .i64 0, .int .i64 0, .int .i64 0] 101)) (.cells #[.int .i64 0, .int .i64 0, .int .i64 0, .int .i64 0] 101)
  rwa [World.size_alloc, World.size_alloc] at this
 have hbr : CAt W0 (w.heap.size + 1) Ct.zero := by
  rw [hW0]
  have := World.alloc_heap_new (w.alloc (.cells #[.pointer (some ⟨C, 0, none⟩)] 60)) (.cells #[.int .i64 0, .int .i64 0, .int .i64 0, .int .i64 0] 101)
  rw [World.size_alloc] at this
  exact (Below.heap_alloc _ _ _ (by simp)).trans this
 have hb1 : Boxed W0 w.heap.size 60 (.pointer (some ⟨C, 0, none⟩)) := by rw [hW0]; exact ((Boxed.new w 60 (.pointer (some ⟨C, 0, none⟩))).alloc _).alloc _
 rw [← hW0]
 clear hW0
 have htl := hT.lt
 have hT0 := hT.keep htl hB0
 have hBox := Boxed.new W0 69 (.int .u16 s)
 rw [hz0'] at hBox
 refine wp_rangeSet1 s (w.heap.size + 1 + 1 + 1) w.heap.size hs16 rfl (by simp [hz0']) hBox.cell (hT0.keep hT0.lt ((Below.refl _ _).alloc (Nat.le_refl _) _)) (by simp [hz0']; omega) htl
  (fun pre W => CAt W (w.heap.size + 1 + 1) (cnt g (pre.map (·.1))) ∧ CAt W (w.heap.size + 1) Ct.zero ∧ Boxed W w.heap.size 60 (.pointer (some ⟨C, 0, none⟩)) ∧ Below w.heap.size w W) (fun _ _ _ => False)
  ((CAt.own (fun pre : List (El s) => cnt g (pre.map (·.1))) (by rw [World.size_alloc, hz0']; omega)).and ((CAt.own (fun _ => Ct.zero) (by rw [World.size_alloc, hz0']; omega)).and ((Own.from (boxed_own w.heap.size 60 (fun _ => _)) _).and (ownFrom_below (Nat.le_refl _) (by simp [hz0']; omega)))))
  (fun _ _ _ _ _ h _ _ => h)
  ⟨hb0.below ((Below.refl _ _).alloc (Nat.le_refl _) _), hbr.below ((Below.refl _ _).alloc (Nat.le_refl _) _), hb1.alloc _, hB0.alloc hB0.size _⟩
  (fun x => { tmps := #[.pointer (some ⟨C, 0, none⟩), .int .u16 s, .pointer (some ⟨w.heap.size, 0, none⟩), undef, .pointer (some ⟨w.heap.size + 1, 0, none⟩), .pointer (some ⟨w.heap.size + 1 + 1, 0, none⟩), .int .i64 (x.1 : Nat), .int .u16 s, .func (.func 117) #[] #[.pointer (some ⟨w.heap.size + 1 + 1 + 1, 0, none⟩)], .int .i64 (x.1 : Nat), undef, undef, undef, undef, undef, undef, undef, undef, undef], defers := [] }) ?assign ?body ?done ?stop
 case assign =>
  intro l x W K hK
  gi_wp2
  exact hK
 case body =>
  rintro l pre x W ⟨hc0, hcr, hb2, hB⟩ hlt
  have hel := elems_length s
  have hxn : x.1 < g.length := elems_below hs x.2
  obtain ⟨Ag, cg, An, cn, Ao, co, vb, va, h1, h2, _, _⟩ := HG.out.below hB
  have cC := blk_cell h1 0
  simp at cC
  obtain ⟨ad, A1, c1, rfl, hx0, hx1, hx2, hx3, _⟩ := at_Tk h2 x.1 hxn
  obtain ⟨p, hp⟩ : ∃ p : Nat, (rdTk g x.1).f2 = (p : Int) := ⟨(rdTk g x.1).f2.toNat, by have := HOK.out.2.2.1 x.1; omega⟩
  have hp3 : p < 3 := by have := HOK.out.2.2.1 x.1; omega
  have hx3b := HOK.out.2.2.2.1 x.1
  have hsm : (cnt g (pre.map (·.1))).small 1000 := cnt_small HOK.out (by rw [List.length_map]; omega)
  have HSN : Hid (cnt g ((pre ++ [x]).map (·.1)) = (cnt g (pre.map (·.1))).add p (rdTk g x.1).f3 1) := Lib.hid (by rw [List.map_append, List.map_cons, List.map_nil]; exact cnt_snoc _ hp)
  rw [hp] at hx2
  have HADD := Lib.hid (add_calls (w.heap.size + 1 + 1) (cnt g (pre.map (·.1))) (rdTk g x.1).f0 (.slice A1 (rdTk g x.1).f1.length c1) p (rdTk g x.1).f3 1 hp3 (by omega) (.inl rfl) hsm W hc0)
  have hxi : ((x.1 : Nat) : Int) < (g.length : Int) := by omega
  have hc2 := hb2.cell
  have HI := Lib.hid (And.intro hc0 (And.intro hcr (And.intro hb2 hB)))
  clear h1 h2 hsm hp hc0 hcr hb2 hB hx3b
  gi_wp2_with (refine ⟨trivial, ?_⟩; gi_at_call 95; refine CallsIn.mono (CallsIn.inRound l (callsIn_wide.2 HADD.out)) ?_; rintro e w' ⟨rfl, hC', hk', hb'⟩)
  obtain ⟨hc0, hcr, hb2, hB⟩ := HI.out
  refine ⟨(keep_others1 hk' hc0).from _, hb'.mono (by omega), ?_, hcr.keep hk' (by omega), ?_, hB.trans (hb'.mono (by omega))⟩
  ·
   rw [HSN.out]
   exact hC'
  ·
   exact hk'.blk hb2 (by omega) (by simp)
 case stop =>
  rintro D c pre W _ _ h _
  exact h.elim
 case done =>
  rintro D ys W hD hys ⟨hc0, hcr, hb2, hB⟩ hK
  rw [hys] at hc0
  have HI := Lib.hid (And.intro hc0 (And.intro hcr (And.intro hB hK)))
  have HDL := hD
  rw [World.size_alloc, hz0'] at HDL
  have c0 : W.cell? ⟨w.heap.size + 1 + 1, 0, none⟩ = some (.int .i64 (cnt g (elems s)).t) := (blk_cell hc0 0).trans (by simp)
  have c1 : W.cell? ⟨w.heap.size + 1 + 1, 1, none⟩ = some (.int .i64 ((cnt g (elems s)).u 0)) := (blk_cell hc0 1).trans (by simp)
  have c2 : W.cell? ⟨w.heap.size + 1 + 1, 2, none⟩ = some (.int .i64 ((cnt g (elems s)).u 1)) := (blk_cell hc0 2).trans (by simp)
  have c3 : W.cell? ⟨w.heap.size + 1 + 1, 3, none⟩ = some (.int .i64 ((cnt g (elems s)).u 2)) := (blk_cell hc0 3).trans (by simp)
  have r0 : W.cell? ⟨w.heap.size + 1, 0, none⟩ = some (.int .i64 0) := (blk_cell hcr 0).trans (by simp [Ct.zero])
  have r1 : W.cell? ⟨w.heap.size + 1, 1, none⟩ = some (.int .i64 0) := (blk_cell hcr 1).trans (by simp [Ct.zero])
  have r2 : W.cell? ⟨w.heap.size + 1, 2, none⟩ = some (.int .i64 0) := (blk_cell hcr 2).trans (by simp [Ct.zero])
  have r3 : W.cell? ⟨w.heap.size + 1, 3, none⟩ = some (.int .i64 0) := (blk_cell hcr 3).trans (by simp [Ct.zero])
  have f0 := blk_frozen hcr 0
  have f1 := blk_frozen hcr 1
  have f2 := blk_frozen hcr 2
  have f3 := blk_frozen hcr 3
  clear hb0 hbr hb1 hBox hcr hB hK hD hc0 hb2 hys
  go_wp2
  obtain ⟨hc0, hcr, hB, hK⟩ := HI.out
  have k0 := blk_set hcr 0 (.int .i64 (cnt g (elems s)).t)
  have k1 := blk_set k0 1 (.int .i64 ((cnt g (elems s)).u 0))
  have k2 := blk_set k1 2 (.int .i64 ((cnt g (elems s)).u 1))
  have k3 := blk_set k2 3 (.int .i64 ((cnt g (elems s)).u 2))
  have hKB := ((((KeepBut.refl W (w.heap.size + 1) none).set_ 0 (.int .i64 (cnt g (elems s)).t)).set_ 1 (.int .i64 ((cnt g (elems s)).u 0))).set_ 2 (.int .i64 ((cnt g (elems s)).u 1))).set_ 3 (.int .i64 ((cnt g (elems s)).u 2))
  have hK4 := hKB.blk hK (by omega) (by simp)
  have hB4 := (((hB.setCell (p := ⟨w.heap.size + 1, 0, none⟩) (by simp) (.int .i64 (cnt g (elems s)).t)).setCell (p := ⟨w.heap.size + 1, 1, none⟩) (by simp) (.int .i64 ((cnt g (elems s)).u 0))).setCell (p := ⟨w.heap.size + 1, 2, none⟩) (by simp) (.int .i64 ((cnt g (elems s)).u 1))).setCell (p := ⟨w.heap.size + 1, 3, none⟩) (by simp) (.int .i64 ((cnt g (elems s)).u 2))
  generalize (((W.setCell ⟨w.heap.size + 1, 0, none⟩ (.int .i64 (cnt g (elems s)).t)).setCell ⟨w.heap.size + 1, 1, none⟩ (.int .i64 ((cnt g (elems s)).u 0))).setCell ⟨w.heap.size + 1, 2, none⟩ (.int .i64 ((cnt g (elems s)).u 1))).setCell ⟨w.heap.size + 1, 3, none⟩ (.int .i64 ((cnt g (elems s)).u 2)) = W4 at k3 hK4 hB4 ⊢
  have hCA : CAt (W4.putObj D (.deferred none)) (w.heap.size + 1) (cnt g (elems s)) := (World.putObj_heap_other (by omega)).trans (k3.trans (by simp [Ct.zero]))
  have d0 : (W4.putObj D (.deferred none)).cell? ⟨w.heap.size + 1, 0, none⟩ = some (.int .i64 (cnt g (elems s)).t) := (blk_cell hCA 0).trans (by simp)
  have d1 : (W4.putObj D (.deferred none)).cell? ⟨w.heap.size + 1, 1, none⟩ = some (.int .i64 ((cnt g (elems s)).u 0)) := (blk_cell hCA 1).trans (by simp)
  have d2 : (W4.putObj D (.deferred none)).cell? ⟨w.heap.size + 1, 2, none⟩ = some (.int .i64 ((cnt g (elems s)).u 1)) := (blk_cell hCA 2).trans (by simp)
  have d3 : (W4.putObj D (.deferred none)).cell? ⟨w.heap.size + 1, 3, none⟩ = some (.int .i64 ((cnt g (elems s)).u 2)) := (blk_cell hCA 3).trans (by simp)
  refine leave_one (v := .agg #[.int .i64 (cnt g (elems s)).t, .int .i64 ((cnt g (elems s)).u 0), .int .i64 ((cnt g (elems s)).u 1), .int .i64 ((cnt g (elems s)).u 2)]) hK4 ?_ ⟨rfl, ?_⟩
  ·
   generalize W4.putObj D (.deferred none) = W5 at d0 d1 d2 d3
   simp [results, Tryd.results93, go_sem, d0, d1, d2, d3]
   done
  ·
   exact hB4.trans (belowK_b (w := w) (Nat.le_refl _) W4 D _ _ (by omega) hK4 rfl rfl)
def admStep (g : List Tk) (rm : List Int) (wk : Int) (st : Ct × List Nat) (i : Nat) : Ct × List Nat :=
 if st.1.can (rdTk g i).f2.toNat (rdTk g i).f3 rm wk then (st.1.add (rdTk g i).f2.toNat (rdTk g i).f3 1, st.2 ++ [i]) else st
def admN (g : List Tk) (rm : List Int) (wk : Int) (c : Ct) (l : List Nat) : Ct × List Nat := l.foldl (admStep g rm wk) (c, [])
theorem admN_snoc (g : List Tk) (rm : List Int) (wk : Int) (c : Ct) (l : List Nat) (i : Nat) : admN g rm wk c (l ++ [i]) = admStep g rm wk (admN g rm wk c l) i := by
 unfold admN
 rw [List.foldl_append]
 rfl
theorem Ct.small_mono {c : Ct} {n m : Int} (h : c.small n) (hnm : n ≤ m) : c.small m := ⟨by have := h.1; omega, fun j => by have := h.2 j; omega⟩
theorem Ct.small_add {c : Ct} {n : Int} (h : c.small n) {p : Nat} {x : Int} (hx : 0 ≤ x ∧ x ≤ 1000) : (c.add p x 1).small (n + 1) := by
 refine ⟨?_, fun j => ?_⟩
 ·
  have := h.1
  show -(n + 1) ≤ c.t + 1 ∧ c.t + 1 ≤ n + 1
  omega
 ·
  have := h.2 j
  show -(1000 * (n + 1)) ≤ (if j = p then c.u j + 1 * x else c.u j) ∧ (if j = p then c.u j + 1 * x else c.u j) ≤ 1000 * (n + 1)
  split <;> omega
theorem admN_facts {g : List Tk} (hg : TOk g) (rm : List Int) (wk : Int) {c : Ct} (hc : c.small 100) (l : List Nat) : ∀ j, j ≤ l.length → (admN g rm wk c (l.take j)).1.small (100 + j) ∧ (admN g rm wk c (l.take j)).2.length ≤ j
 | 0, _ => ⟨by simpa [admN] using hc, by simp [admN]⟩
 | j + 1, hj => by
  obtain ⟨h1, h2⟩ := admN_facts hg rm wk hc l j (by omega)
  rw [List.take_succ_eq_append_getElem (by omega), admN_snoc]
  have hx := hg.2.2.2.1 l[j]
  unfold admStep
  split
  ·
   refine ⟨Ct.small_mono (Ct.small_add h1 (by omega)) (by omega), ?_⟩
   rw [List.length_append]
   simp
   omega
  ·
   exact ⟨Ct.small_mono h1 (by omega), by omega⟩
set_option maxRecDepth 1000000 in
set_option maxHeartbeats 4000000 in
theorem admitted_calls (C : Nat) (g : List Tk) (ns : List Nat) (ct : Ct) (A : Option Addr) (k : Nat) (rm : List Int) (A' : Option Addr) (k' : Nat) (l : List Nat) (wk : Int) (hok : TOk g) (hc : ct.small 100) (hrm : rm.length = 3) (hl : l.length ≤ 16) (hlt : ∀ i ∈ l, i < g.length) (w : World) (hG : IsGraph w C g ns) (hr : (Kd.int .i64).C w A rm.length rm) (hr' : (Kd.int .i64).C w A' l.length (ints l)) :
  Calls Tryd.prog 92 #[.pointer (some ⟨C, 0, none⟩), .agg #[.int .i64 ct.t, .int .i64 (ct.u 0), .int .i64 (ct.u 1), .int .i64 (ct.u 2)], .slice A rm.length k, .slice A' l.length k', .int .i64 wk] w fun e w' => ∃ v, e = .returned v ∧ Kd.R (Kd.int .i64) 3 w' w.heap.size (fun _ => True) v (ints (admN g rm wk ct l).2) ∧ Below w.heap.size w w' := by
 have h8 := hok.1
 have hCl : C < w.heap.size := by obtain ⟨Ag, cg, An, cn, Ao, co, vb, va, h1, _⟩ := hG; exact blk_lt h1
 have HG := Lib.hid hG
 have HOK := Lib.hid hok
 have HR := Lib.hid hr
 have HR' := Lib.hid hr'
 have HLT := Lib.hid hlt
 have HRM := Lib.hid hrm
 have HF := Lib.hid (admN_facts hok rm wk hc l)
 clear hG hok hr hr' hlt hc hrm
 go_enter Tryd.func92, Tryd.ntmps92
 go_wp2
 obtain ⟨W0, hW0⟩ : ∃ W0, W0 = w.alloc (.cells #[.int .i64 ct.t, .int .i64 (ct.u 0), .int .i64 (ct.u 1), .int .i64 (ct.u 2)] 101) := ⟨_, rfl⟩
 have hz0 : W0.heap.size = w.heap.size + 1 := by rw [hW0]; simp
 have hC0 : CAt W0 w.heap.size ct := by rw [hW0]; exact World.alloc_heap_new _ _
 have hB0 : Below w.heap.size w W0 := by rw [hW0]; exact (Below.refl _ _).alloc (Nat.le_refl _) _
 rw [← hW0]
 clear hW0
 have HB1 : Below w.heap.size w (W0.alloc (.cells #[] 3)) := hB0.alloc hB0.size _
 have HC1 : CAt (W0.alloc (.cells #[] 3)) w.heap.size ct := hC0.below ((Below.refl _ _).alloc (Nat.le_refl _) _)
 have HO : Kd.R (Kd.int .i64) 3 (W0.alloc (.cells #[] 3)) w.heap.size (fun _ => True) (.slice (some ⟨w.heap.size + 1, 0, none⟩) 0 0) (ints []) := by
  rw [← hz0]
  exact Kd.R_of_own (World.ownsRow_lit (base := w.heap.size) (size := 1) W0 #[] 0 (by omega) (by simp [maxLen]) rfl) (fun _ _ => trivial)
 clear hC0 hB0
 go_loopw [11, 17] (fun out i wr => ∃ j, j ≤ l.length ∧ i = .int .i64 (j : Nat) ∧ Kd.R (Kd.int .i64) 3 wr w.heap.size (fun _ => True) out (ints (admN g rm wk ct (l.take j)).2) ∧ CAt wr w.heap.size (admN g rm wk ct (l.take j)).1 ∧ Below w.heap.size w wr) (fun _ i _ => l.length - (intOf i).toNat)
 case atStart => exact ⟨0, Nat.zero_le _, rfl, HO, HC1, HB1⟩
 case round =>
  clear HO HB1 HC1
  obtain ⟨j, hj, rfl, hO, hCt, hB⟩ := hrel
  by_cases hjl : j < l.length
  ·
   obtain ⟨ad, rfl, cx⟩ := at_set (Kd.C_below HR'.out hB) j hjl
   have hxg : l.getD j 0 < g.length := by
    apply HLT.out
    rw [List.getD_eq_getElem?_getD, List.getElem?_eq_getElem hjl]
    exact List.getElem_mem _
   have hjj : decide ((j : Int) < (l.length : Int)) = true := decide_eq_true (by omega)
   have hji : (j : Int) < (l.length : Int) := by omega
   obtain ⟨hsm, hln⟩ := HF.out j (by omega)
   have HSN : Hid (admN g rm wk ct (l.take (j + 1)) = admStep g rm wk (admN g rm wk ct (l.take j)) (l.getD j 0)) := Lib.hid (by
    rw [List.take_succ_eq_append_getElem hjl, admN_snoc, List.getD_eq_getElem?_getD, List.getElem?_eq_getElem hjl]
    rfl)
   generalize admN g rm wk ct (l.take j) = st at hO hCt hsm hln HSN
   obtain ⟨c, out⟩ := st
   have hln : out.length ≤ j := hln
   have hol : (ints out).length < 1000000 := by rw [ints_length]; omega
   generalize l.getD j 0 = x at cx hxg HSN
   obtain ⟨Ag, cg, An, cn, Ao, co, vb, va, h1, h2, _, _⟩ := HG.out.below hB
   have cC := blk_cell h1 0
   simp at cC
   obtain ⟨adg, A1, c1, rfl, hx0, hx1, hx2, hx3, _⟩ := at_Tk h2 x hxg
   have hxi : (x : Int) < (g.length : Int) := by omega
   obtain ⟨p, hp⟩ : ∃ p : Nat, (rdTk g x).f2 = (p : Int) := ⟨(rdTk g x).f2.toNat, by have := HOK.out.2.2.1 x; omega⟩
   have hp3 : p < 3 := by have := HOK.out.2.2.1 x; omega
   have hx3b := HOK.out.2.2.2.1 x
   have HSN2 : Hid (admN g rm wk ct (l.take (j + 1)) = if c.can p (rdTk g x).f3 rm wk then (c.add p (rdTk g x).f3 1, out ++ [x]) else (c, out)) := Lib.hid (by rw [HSN.out]; unfold admStep; rw [hp]; rfl)
   rw [hp] at hx2
   have HTK := Lib.hid (takes_calls w.heap.size c (rdTk g x).f0 (.slice A1 (rdTk g x).f1.length c1) p (rdTk g x).f3 A k rm wk hp3 (by omega) (Ct.small_mono hsm (by omega)) HRM.out wr hCt (Kd.C_below HR.out hB))
   have HOT : Hid (∀ w2, KeepBut wr w2 w.heap.size none → Kd.R (Kd.int .i64) 3 w2 w.heap.size (fun _ => True) u11 (ints out)) := Lib.hid (fun w2 hK2 => Kd.R_mono (Kd.R_keep (Kd.R_types hO hCt (fun q hq => by rcases List.mem_cons.1 hq with rfl | h; (· decide); · exact absurd (show q ∈ ([] : List Nat) from h) (by simp))) hK2 (fun _ h => h.2)) (fun _ _ => trivial))
   have HW := Lib.hid hB
   clear h1 h2 hO hB hCt hsm HSN hp
   generalize c.can p (rdTk g x).f3 rm wk = cb at HSN2 HTK
   cases cb with
   | true =>
    rw [if_pos rfl] at HSN2
    go_wp2_with (first | (go_at_call 96; refine HTK.out.mono ?_; rintro e w2 ⟨rfl, hC2, hK2, hB2⟩; rw [if_pos rfl] at hC2; have hO2 := HOT.out _ hK2; have hBw := HW.out.trans hB2) | (at_builtin; refine ap_int (w0 := w) w.heap.size rfl _ _ rfl u11 (ints out) (x : Int) rfl rfl rfl hO2 hBw hBw.size hol ?_; intro v1 w3 hO3 hB3 hg3 hat3))
    go_roundw
    case rel => exact ⟨j + 1, by omega, by go_num, by rw [HSN2.out]; simpa [ints] using hO3, by rw [HSN2.out]; exact (hg3.block _ hC2.lt (Kd.R_ne hO2 hC2 (by decide))).trans hC2, hB3⟩
    case measure => simp [intOf]; omega
   | false =>
    rw [if_neg (by simp)] at HSN2
    go_wp2_with (go_at_call 96; refine HTK.out.mono ?_; rintro e w2 ⟨rfl, hC2, hK2, hB2⟩)
    rw [if_neg (by simp)] at hC2
    go_roundw
    case rel => exact ⟨j + 1, by omega, by go_num, by rw [HSN2.out]; exact HOT.out _ hK2, by rw [HSN2.out]; exact hC2, HW.out.trans hB2⟩
    case measure => simp [intOf]; omega
  ·
   obtain rfl : j = l.length := by omega
   have hjj : decide ((l.length : Int) < (l.length : Int)) = false := decide_eq_false (by omega)
   rw [List.take_length] at hO
   go_wp2
   go_ret
   exact ⟨_, rfl, hO, hB⟩
end Go.Proofs.YtdjdfbfcjajlkaaDoor

namespace Go.Proofs.YtdjdfbfcjajlkaaDoor
set_option linter.unusedVariables false
set_option linter.unusedSimpArgs false
open Go.RowKit Go.Shelf Bits
open Go.Proofs.YtdjdfbfcjajlkaaDoorW.PrintWords Go.Proofs.YtdjdfbfcjajlkaaDoorW.PrintLast Go.Proofs.YtdjdfbfcjajlkaaDoorW.PrintMore
theorem workersValid_calls (n : Int) (w : World) : Calls Tryd.prog 88 #[.int .i64 n] w fun e w' => e = .returned (.bool (inB n 1 4)) ∧ w' = w := by
 go_enter Tryd.func88, Tryd.ntmps88
 go_wp2_with (go_at_call 64; refine (within_calls _ _ _ _).mono ?_; rintro e w2 ⟨rfl, rfl⟩)
 go_ret
 exact ⟨rfl, rfl⟩
theorem workersValid_is (b : Bool) (n : Int) (h : Hid (inB n 1 4 = b)) (w : World) : Calls Tryd.prog 88 #[.int .i64 n] w fun e w' => e = .returned (.bool b) ∧ w' = w :=
 (workersValid_calls n w).mono fun e w' ⟨he, hw⟩ => ⟨by rw [he, h.out], hw⟩
set_option maxRecDepth 100000 in
theorem ValidRoom_calls (A : Option Addr) (c : Nat) (rm : List Int) (w : World) (hr : (Kd.int .i64).C w A rm.length rm) :
  Calls Tryd.prog 87 #[.slice A rm.length c] w fun e w' => e = .returned (.bool (roomB rm)) ∧ w' = w := by
 have HR := Lib.hid hr
 have hl := (C_len hr).2
 clear hr
 by_cases h3 : rm.length = 3
 ·
  have d3 : ((rm.length : Int) != 3) = false := by rw [h3]; rfl
  have HRB : Hid (roomB rm = allInB rm 4 8) := Lib.hid (by unfold roomB; rw [decide_eq_true h3, Bool.true_and])
  have H3 := Lib.hid h3
  clear h3
  go_enter Tryd.func87, Tryd.ntmps87
  go_wp2
  go_loop [10] (fun i => ∃ (k : Nat), k ≤ rm.length ∧ i = .int .i64 k ∧ Hid (∀ j, j < k → inB (rm.getD j 0) 4 8 = true)) (fun i => rm.length - (intOf i).toNat)
  case atStart => exact ⟨0, Nat.zero_le _, rfl, Lib.hid fun j h => absurd h (Nat.not_lt_zero _)⟩
  case round =>
   obtain ⟨k, hk, rfl, HS⟩ := hrel
   by_cases hlt : k < rm.length
   ·
    have hjj : decide ((k : Int) < (rm.length : Int)) = true := decide_eq_true (by omega)
    have hji : (k : Int) < (rm.length : Int) := by omega
    obtain ⟨ad, rfl, hc⟩ := at_num HR.out k hlt
    cases hb : inB (rm.getD k 0) 4 8
    ·
     have HF : Hid (roomB rm = false) := Lib.hid (by
      rw [HRB.out]
      unfold allInB
      rw [List.all_eq_false]
      exact ⟨rm.getD k 0, mem_getD hlt, by rw [hb]; simp⟩)
     have HW := Lib.hid hb
     clear hb
     generalize rm.getD k 0 = x at hc HW
     go_wp2_with (go_at_call 64; refine (within_is _ _ _ _ HW _).mono ?_; rintro e w2 ⟨rfl, rfl⟩)
     go_ret
     exact ⟨ret_bool HF.out.symm, rfl⟩
    ·
     have HN : Hid (∀ j, j < k + 1 → inB (rm.getD j 0) 4 8 = true) := Lib.hid (fun j hj => by
      by_cases e : j = k
      ·
       rw [e]; exact hb
      ·
       exact HS.out j (by omega))
     have HW := Lib.hid hb
     clear hb
     generalize rm.getD k 0 = x at hc HW
     go_wp2_with (go_at_call 64; refine (within_is _ _ _ _ HW _).mono ?_; rintro e w2 ⟨rfl, rfl⟩)
     go_round
     case rel => exact ⟨k + 1, by omega, by go_num, HN⟩
     case measure => simp [intOf]; omega
   ·
    have HF : Hid (roomB rm = true) := Lib.hid (by rw [HRB.out]; exact all_take 0 (fun j hj => HS.out j (by omega)))
    have hjj : decide ((k : Int) < (rm.length : Int)) = false := decide_eq_false (by omega)
    go_wp2
    go_ret
    exact ⟨ret_bool HF.out.symm, rfl⟩
 ·
  have d3 : ((rm.length : Int) != 3) = true := by rw [bne_iff_ne]; omega
  have HF : Hid (roomB rm = false) := Lib.hid (by unfold roomB; rw [decide_eq_false h3]; rfl)
  clear h3
  go_enter Tryd.func87, Tryd.ntmps87
  go_wp2
  go_ret
  exact ⟨ret_bool HF.out.symm, rfl⟩
theorem ValidRoom_is (b : Bool) (A : Option Addr) (c : Nat) (rm : List Int) (h : Hid (roomB rm = b)) (w : World) (hr : (Kd.int .i64).C w A rm.length rm) :
  Calls Tryd.prog 87 #[.slice A rm.length c] w fun e w' => e = .returned (.bool b) ∧ w' = w :=
 (ValidRoom_calls A c rm w hr).mono fun e w' ⟨he, hw⟩ => ⟨by rw [he, h.out], hw⟩
def placeB (rm : List Int) (wk : Int) : Bool := roomB rm && inB wk 1 4
set_option maxRecDepth 100000 in
theorem placeIn_yes (A : Option Addr) (c : Nat) (g : List Tk) (ns : List Nat) (A1 : Option Addr) (c1 : Nat) (rm : List Int) (wk : Int) (hp : placeB rm wk = true) (w : World) (hr : kTk.C w A g.length g) (hT : Tab w) (hg : graphN g = some ns) (hr1 : (Kd.int .i64).C w A1 rm.length rm) :
  Calls Tryd.prog 54 #[.slice A g.length c, .slice A1 rm.length c1, .int .i64 wk] w fun e w' => ∃ C, e = .returned (.tuple #[.pointer (some ⟨C, 0, none⟩), .bool true]) ∧ IsGraph w' C g ns ∧ Below w.heap.size w w' := by
 unfold placeB at hp
 rw [Bool.and_eq_true] at hp
 have HG := Lib.hid (graphOf_yes A c g ns w hr hT hg)
 have HR1 := Lib.hid hr1
 have H1 := Lib.hid hp.1
 have H2 := Lib.hid hp.2
 clear hr hr1 hp hg
 go_enter Tryd.func54, Tryd.ntmps54
 go_wp2_with (first
  | (go_at_call 86; refine HG.out.mono ?_; rintro e w2 ⟨C, rfl, hI, hB⟩; have HC := Lib.hid hI; have HB := Lib.hid hB; clear hI hB)
  | (go_at_call 87; refine (ValidRoom_is _ _ _ _ H1 _ (Kd.C_below HR1.out HB.out)).mono ?_; rintro e w' ⟨rfl, rfl⟩)
  | (go_at_call 88; refine (workersValid_is _ _ H2 _).mono ?_; rintro e w' ⟨rfl, rfl⟩))
 go_ret2
 exact ⟨C, rfl, HC.out, HB.out⟩
set_option maxRecDepth 100000 in
theorem placeIn_no (A : Option Addr) (c : Nat) (g : List Tk) (A1 : Option Addr) (c1 : Nat) (rm : List Int) (wk : Int) (hn : ∀ ns, graphN g = some ns → placeB rm wk = false) (w : World) (hr : kTk.C w A g.length g) (hT : Tab w) (hr1 : (Kd.int .i64).C w A1 rm.length rm) :
  Calls Tryd.prog 54 #[.slice A g.length c, .slice A1 rm.length c1, .int .i64 wk] w fun e w' => e = .returned (.tuple #[.pointer none, .bool false]) ∧ Below w.heap.size w w' := by
 have HR1 := Lib.hid hr1
 clear hr1
 cases hg : graphN g with
 | none =>
  have HG := Lib.hid (graphOf_no A c g w hr hg)
  clear hr hn hg
  go_enter Tryd.func54, Tryd.ntmps54
  go_wp2_with (go_at_call 86; refine HG.out.mono ?_; rintro e w2 ⟨rfl, hB⟩; have HB := Lib.hid hB; clear hB)
  go_ret2
  exact ⟨rfl, HB.out⟩
 | some ns =>
  have hp := hn ns hg
  unfold placeB at hp
  have HG := Lib.hid (graphOf_yes A c g ns w hr hT hg)
  clear hr hn hg
  cases h1 : roomB rm with
  | false =>
   have H1 := Lib.hid h1
   clear h1 hp
   go_enter Tryd.func54, Tryd.ntmps54
   go_wp2_with (first
    | (go_at_call 86; refine HG.out.mono ?_; rintro e w2 ⟨C, rfl, hI, hB⟩; have HB := Lib.hid hB; clear hI hB)
    | (go_at_call 87; refine (ValidRoom_is _ _ _ _ H1 _ (Kd.C_below HR1.out HB.out)).mono ?_; rintro e w' ⟨rfl, rfl⟩))
   go_ret2
   exact ⟨rfl, HB.out⟩
  | true =>
   rw [h1, Bool.true_and] at hp
   have H1 := Lib.hid h1
   have H2 := Lib.hid hp
   clear h1 hp
   go_enter Tryd.func54, Tryd.ntmps54
   go_wp2_with (first
    | (go_at_call 86; refine HG.out.mono ?_; rintro e w2 ⟨C, rfl, hI, hB⟩; have HB := Lib.hid hB; clear hI hB)
    | (go_at_call 87; refine (ValidRoom_is _ _ _ _ H1 _ (Kd.C_below HR1.out HB.out)).mono ?_; rintro e w' ⟨rfl, rfl⟩)
    | (go_at_call 88; refine (workersValid_is _ _ H2 _).mono ?_; rintro e w' ⟨rfl, rfl⟩))
   go_ret2
   exact ⟨rfl, HB.out⟩
end Go.Proofs.YtdjdfbfcjajlkaaDoor

namespace Go.Proofs.YtdjdfbfcjajlkaaDoor
set_option linter.unusedVariables false
set_option linter.unusedSimpArgs false
open Go.RowKit Go.Shelf Bits
open Go.Proofs.YtdjdfbfcjajlkaaDoorW.PrintWords Go.Proofs.YtdjdfbfcjajlkaaDoorW.PrintLast Go.Proofs.YtdjdfbfcjajlkaaDoorW.PrintMore
attribute [local go_sem] Oper.semAt_some
set_option maxRecDepth 100000 in
set_option maxHeartbeats 2000000 in
theorem iend_calls (C : Nat) (g : List Tk) (ns : List Nat) (A' : Option Addr) (c' : Nat) (st : List Int) (hg : TOk g) (hs : SOk st) (hl : st.length = g.length) (w : World) (hG : IsGraph w C g ns) (hr' : (Kd.int .i64).C w A' st.length st) :
  Calls Tryd.prog 56 #[.pointer (some ⟨C, 0, none⟩), .slice A' st.length c'] w fun e w' => e = .returned (.int .i64 (endS g st g.length)) ∧ w' = w := by
 obtain ⟨Ag, cg, An, cn, Ao, co, vb, va, h1, h2, _, _⟩ := hG
 have cC := blk_cell h1 0
 simp at cC
 have HR := Lib.hid h2
 have HR' := Lib.hid hr'
 have HG := Lib.hid hg
 have HS := Lib.hid hs
 have HL := Lib.hid hl
 have h8 := hg.1
 have hl8 : st.length ≤ 8 := by omega
 clear h1 h2 hr' hg hs hl
 go_enter Tryd.func56, Tryd.ntmps56
 go_wp2
 go_loop [5, 10] (fun n i => ∃ (j : Nat), j ≤ st.length ∧ i = .int .i64 j ∧ n = .int .i64 (endS g st j)) (fun _ i => st.length - (intOf i).toNat)
 case atStart => exact ⟨0, Nat.zero_le _, rfl, rfl⟩
 case round =>
  obtain ⟨j, hj, rfl, rfl⟩ := hrel
  by_cases hjl : j < st.length
  ·
   have hjg : j < g.length := by have := HL.out; omega
   obtain ⟨ad, A1, c1, rfl, hc0, _⟩ := at_Tk HR.out j hjg
   obtain ⟨ads, rfl, cs⟩ := at_num HR'.out j hjl
   have hjj : decide ((j : Int) < (st.length : Int)) = true := decide_eq_true (by omega)
   have hji : (j : Int) < (g.length : Int) := by omega
   have hjsi : (j : Int) < (st.length : Int) := by omega
   have HE : Hid (endS g st (j + 1) = max (endS g st j) (st.getD j 0 + (rdTk g j).f0)) := Lib.hid rfl
   have hsj := HS.out j
   have htj := HG.out.2.1 j
   have heb := endS_bound HG.out HS.out j
   generalize st.getD j 0 = s at cs hsj HE
   generalize (rdTk g j).f0 = tm at hc0 htj HE
   generalize endS g st j = en at heb HE
   have hwr : IntKind.i64.wrap (s + tm) = s + tm := IntWalk.i64_in _ (by omega)
   go_wp2
   clear hwr
   all_goals
    go_round
    case rel => exact ⟨j + 1, by omega, by go_num, by rw [HE.out]; congr 1; first | omega | (split <;> omega)⟩
    case measure => simp [intOf]; omega
  ·
   obtain rfl : j = st.length := by omega
   have HE : Hid (endS g st g.length = endS g st st.length) := Lib.hid (by rw [HL.out])
   have hjj : decide ((st.length : Int) < (st.length : Int)) = false := decide_eq_false (by omega)
   go_wp2
   go_ret
   exact ⟨ret_int HE.out.symm, rfl⟩
def longL (T : List Int) : Nat → Int
 | 0 => 0
 | k + 1 => max (longL T k) (T.getD k 0)
set_option maxRecDepth 100000 in
theorem longest_calls (A : Option Addr) (c : Nat) (T : List Int) (hl : T.length ≤ 100) (w : World) (hr : (Kd.int .i64).C w A T.length T) :
  Calls Tryd.prog 71 #[.slice A T.length c] w fun e w' => e = .returned (.int .i64 (longL T T.length)) ∧ w' = w := by
 have HR := Lib.hid hr
 clear hr
 go_enter Tryd.func71, Tryd.ntmps71
 go_wp2
 go_loop [3, 8] (fun n i => ∃ (j : Nat), j ≤ T.length ∧ i = .int .i64 j ∧ n = .int .i64 (longL T j)) (fun _ i => T.length - (intOf i).toNat)
 case atStart => exact ⟨0, Nat.zero_le _, rfl, rfl⟩
 case round =>
  obtain ⟨j, hj, rfl, rfl⟩ := hrel
  by_cases hjl : j < T.length
  ·
   obtain ⟨ads, rfl, cs⟩ := at_num HR.out j hjl
   have hjj : decide ((j : Int) < (T.length : Int)) = true := decide_eq_true (by omega)
   have hji : (j : Int) < (T.length : Int) := by omega
   have HE : Hid (longL T (j + 1) = max (longL T j) (T.getD j 0)) := Lib.hid rfl
   generalize T.getD j 0 = s at cs HE
   generalize longL T j = en at HE
   go_wp2
   all_goals
    go_round
    case rel => exact ⟨j + 1, by omega, by go_num, by rw [HE.out]; congr 1; first | omega | (split <;> omega)⟩
    case measure => simp [intOf]; omega
  ·
   obtain rfl : j = T.length := by omega
   have hjj : decide ((T.length : Int) < (T.length : Int)) = false := decide_eq_false (by omega)
   go_wp2
   go_ret
   exact ⟨rfl, rfl⟩
def longestN (g : List Tk) : Int := match graphN g with
 | some ns => longL (tailN g ns) g.length
 | none => -1
end Go.Proofs.YtdjdfbfcjajlkaaDoor

namespace Go.Proofs.YtdjdfbfcjajlkaaDoor
set_option linter.unusedVariables false
set_option linter.unusedSimpArgs false
open Go.RowKit Go.Shelf Bits
open Go.Proofs.YtdjdfbfcjajlkaaDoorW.PrintWords Go.Proofs.YtdjdfbfcjajlkaaDoorW.PrintLast Go.Proofs.YtdjdfbfcjajlkaaDoorW.PrintMore
attribute [local go_sem] Oper.semAt_some
def needsIn (ns : List Nat) (s i : Nat) : Bool := decide (diff (ns.getD i 0) s = 0)
def closedN (ns : List Nat) (s : Nat) : Bool := (elems s).all (needsIn ns s)
def doneN (g : List Tk) (l : List Int) : Option (List Nat × Nat) := (graphN g).bind fun ns => (setOfN l g.length).bind fun s => if closedN ns s then some (ns, s) else none
def doneRet (C s : Nat) : Bool → Value
 | true => .tuple #[.pointer (some ⟨C, 0, none⟩), .int .u16 (s : Nat), .bool true]
 | false => .tuple #[.pointer none, .int .u16 0, .bool false]
theorem below3 (w : World) (o1 o2 o3 : Obj) : Below w.heap.size w (((w.alloc o1).alloc o2).alloc o3) := (((Below.refl _ w).alloc (Nat.le_refl _) _).alloc (by simp) _).alloc (by simp; omega) _
theorem three_sets {W : World} {B : Nat} {t4 t5 t6 : TypeId} {v4 v5 v6 : Value} (b4 : Boxed W B t4 v4) (b5 : Boxed W (B + 1) t5 v5) (b6 : Boxed W (B + 1 + 1) t6 v6) (x y z : Value) :
  ∃ W', ((W.setCell ⟨B, 0, none⟩ x).setCell ⟨B + 1, 0, none⟩ y).setCell ⟨B + 1 + 1, 0, none⟩ z = W' ∧ Boxed W' B t4 x ∧ Boxed W' (B + 1) t5 y ∧ Boxed W' (B + 1 + 1) t6 z ∧ KeepsOthers W W' ∧ Below B W W' ∧ ∀ k, B + 1 + 1 < k → W'.heap[k]? = W.heap[k]? :=
 ⟨_, rfl, blk_far (blk_far (b4.set x) (by simp) _) (by simp; omega) _, blk_far ((show Boxed (W.setCell ⟨B, 0, none⟩ x) _ _ _ from blk_far b5 (by simp) _).set y) (by simp) _,
  (show Boxed ((W.setCell ⟨B, 0, none⟩ x).setCell ⟨B + 1, 0, none⟩ y) _ _ _ from blk_far (blk_far b6 (by simp; omega) _) (by simp) _).set z,
  ((KeepsOthers.setCell _ _ _).trans (KeepsOthers.setCell _ _ _)).trans (KeepsOthers.setCell _ _ _),
  (((Below.refl _ W).setCell (p := ⟨B, 0, none⟩) (by simp) _).setCell (p := ⟨B + 1, 0, none⟩) (by simp) _).setCell (p := ⟨B + 1 + 1, 0, none⟩) (by simp; omega) _,
  fun k hk => (Below.heap_setCell _ _ _ _ (by simp; omega)).trans ((Below.heap_setCell _ _ _ _ (by simp; omega)).trans (Below.heap_setCell _ _ _ _ (by simp; omega)))⟩
def Three (W : World) (B : Nat) : Prop := (∃ x, W.cell? ⟨B, 0, none⟩ = some x) ∧ (∃ x, W.cell? ⟨B + 1, 0, none⟩ = some x) ∧ (∃ x, W.cell? ⟨B + 1 + 1, 0, none⟩ = some x) ∧ W.frozen? ⟨B, 0, none⟩ = false ∧ W.frozen? ⟨B + 1, 0, none⟩ = false ∧ W.frozen? ⟨B + 1 + 1, 0, none⟩ = false
theorem three_facts {W : World} {B : Nat} {t4 t5 t6 : TypeId} {v4 v5 v6 : Value} (b4 : Boxed W B t4 v4) (b5 : Boxed W (B + 1) t5 v5) (b6 : Boxed W (B + 1 + 1) t6 v6) : Three W B := ⟨⟨_, b4.cell⟩, ⟨_, b5.cell⟩, ⟨_, b6.cell⟩, b4.frozen, b5.frozen, b6.frozen⟩
structure P3 (W0 : World) (B : Nat) (t4 t5 t6 : TypeId) (x y z : Value) (W : World) : Prop where
 b4 : Boxed W B t4 x
 b5 : Boxed W (B + 1) t5 y
 b6 : Boxed W (B + 1 + 1) t6 z
 below : Below B W0 W
 up : ∀ k, B + 1 + 1 < k → W.heap[k]? = W0.heap[k]?
section
variable {W0 W : World} {B : Nat} {t4 t5 t6 : TypeId} {x y z v : Value}
theorem P3.set4 (h : P3 W0 B t4 t5 t6 v y z W) : P3 W0 B t4 t5 t6 x y z (W.setCell ⟨B, 0, none⟩ x) :=
 ⟨h.b4.set x, blk_far h.b5 (by simp) _, blk_far h.b6 (by simp; omega) _, h.below.setCell (p := ⟨B, 0, none⟩) (by simp) _, fun k hk => (Below.heap_setCell _ _ _ _ (by simp; omega)).trans (h.up k hk)⟩
theorem P3.set5 (h : P3 W0 B t4 t5 t6 x v z W) : P3 W0 B t4 t5 t6 x y z (W.setCell ⟨B + 1, 0, none⟩ y) :=
 ⟨blk_far h.b4 (by simp) _, h.b5.set y, blk_far h.b6 (by simp) _, h.below.setCell (p := ⟨B + 1, 0, none⟩) (by simp) _, fun k hk => (Below.heap_setCell _ _ _ _ (by simp; omega)).trans (h.up k hk)⟩
theorem P3.set6 (h : P3 W0 B t4 t5 t6 x y v W) : P3 W0 B t4 t5 t6 x y z (W.setCell ⟨B + 1 + 1, 0, none⟩ z) :=
 ⟨blk_far h.b4 (by simp; omega) _, blk_far h.b5 (by simp) _, h.b6.set z, h.below.setCell (p := ⟨B + 1 + 1, 0, none⟩) (by simp; omega) _, fun k hk => (Below.heap_setCell _ _ _ _ (by simp; omega)).trans (h.up k hk)⟩
theorem P3.drew (h : P3 W0 B t4 t5 t6 x y z W) : P3 W0 B t4 t5 t6 x y z W.drew := ⟨h.b4, h.b5, h.b6, h.below.drew, h.up⟩
end
theorem three_allocs (w : World) (t4 t5 t6 : TypeId) (x y z : Value) : Boxed (((w.alloc (.cells #[x] t4)).alloc (.cells #[y] t5)).alloc (.cells #[z] t6)) w.heap.size t4 x ∧ Boxed (((w.alloc (.cells #[x] t4)).alloc (.cells #[y] t5)).alloc (.cells #[z] t6)) (w.heap.size + 1) t5 y ∧
  Boxed (((w.alloc (.cells #[x] t4)).alloc (.cells #[y] t5)).alloc (.cells #[z] t6)) (w.heap.size + 1 + 1) t6 z ∧ Below w.heap.size w (((w.alloc (.cells #[x] t4)).alloc (.cells #[y] t5)).alloc (.cells #[z] t6)) ∧ (((w.alloc (.cells #[x] t4)).alloc (.cells #[y] t5)).alloc (.cells #[z] t6)).heap.size = w.heap.size + 1 + 1 + 1 := by
 have h5 := (Boxed.new (w.alloc (.cells #[x] t4)) t5 y).alloc (.cells #[z] t6)
 have h6 := Boxed.new ((w.alloc (.cells #[x] t4)).alloc (.cells #[y] t5)) t6 z
 rw [World.size_alloc] at h5
 rw [World.size_alloc, World.size_alloc] at h6
 exact ⟨((Boxed.new w _ _).alloc _).alloc _, h5, h6, below3 _ _ _ _, by simp⟩
theorem graph_some_lt {g : List Tk} {l : List Int} {ns : List Nat} {s : Nat} (hg : graphN g = some ns) (hs : setOfN l g.length = some s) : doneN g l = if closedN ns s then some (ns, s) else none := by
 unfold doneN
 rw [hg]
 show ((setOfN l g.length).bind _) = _
 rw [hs]
 rfl
end Go.Proofs.YtdjdfbfcjajlkaaDoor

namespace Go.Proofs.YtdjdfbfcjajlkaaDoor
set_option linter.unusedVariables false
set_option linter.unusedSimpArgs false
def lessB (T : List Int) (a b : Nat) : Bool := if T.getD a 0 ≠ T.getD b 0 then decide (T.getD a 0 > T.getD b 0) else decide (a < b)
def leT (T : List Int) (a b : Nat) : Prop := T.getD b 0 < T.getD a 0 ∨ (T.getD a 0 = T.getD b 0 ∧ a ≤ b)
theorem less_false {T : List Int} {a b : Nat} : lessB T a b = false ↔ leT T b a := by
 unfold lessB leT
 split
 ·
  rw [decide_eq_false_iff_not]
  omega
 ·
  rw [decide_eq_false_iff_not]
  omega
theorem less_true {T : List Int} {a b : Nat} (h : lessB T a b = true) : leT T a b := by
 unfold lessB at h
 unfold leT
 split at h
 ·
  rw [decide_eq_true_eq] at h
  omega
 ·
  rw [decide_eq_true_eq] at h
  omega
theorem leT.trans {T : List Int} {a b c : Nat} (h : leT T a b) (k : leT T b c) : leT T a c := by
 unfold leT at *
 omega
theorem leT.refl (T : List Int) (a : Nat) : leT T a a := .inr ⟨rfl, Nat.le_refl _⟩
theorem leT.antisymm {T : List Int} {a b : Nat} (h : leT T a b) (k : leT T b a) : a = b := by
 unfold leT at *
 omega
def swapL (L : List Nat) (i k : Nat) : List Nat := (L.set i (L.getD k 0)).set k (L.getD i 0)
theorem length_swapL (L : List Nat) (i k : Nat) : (swapL L i k).length = L.length := by simp [swapL]
theorem getD_swap {L : List Nat} {i k : Nat} (hi : i < L.length) (hk : k < L.length) (j : Nat) : (swapL L i k).getD j 0 = if j = k then L.getD i 0 else if j = i then L.getD k 0 else L.getD j 0 := by
 unfold swapL
 simp only [List.getD_eq_getElem?_getD, List.getElem?_set, List.length_set]
 by_cases h1 : k = j
 ·
  subst h1
  simp [hk]
 ·
  have h1' : ¬ j = k := fun e => h1 e.symm
  rw [if_neg h1, if_neg h1']
  by_cases h2 : i = j
  ·
   subst h2
   simp [hi]
  ·
   have h2' : ¬ j = i := fun e => h2 e.symm
   rw [if_neg h2, if_neg h2']
theorem swapL_perm {L : List Nat} {i k : Nat} (hi : i < L.length) (hk : k < L.length) : (swapL L i k).Perm L := by
 unfold swapL
 rw [List.getD_eq_getElem?_getD, List.getD_eq_getElem?_getD, List.getElem?_eq_getElem hi, List.getElem?_eq_getElem hk]
 exact List.set_set_perm hi hk
theorem mem_swapL {L : List Nat} {i k : Nat} (hi : i < L.length) (hk : k < L.length) {x : Nat} (hx : x ∈ swapL L i k) : x ∈ L := (swapL_perm hi hk).mem_iff.1 hx
def upL (T : List Int) : Nat → List Nat → Nat → List Nat
 | 0, L, _ => L
 | c + 1, L, j => if (j - 1) / 2 = j ∨ lessB T (L.getD j 0) (L.getD ((j - 1) / 2) 0) = false then L else upL T c (swapL L ((j - 1) / 2) j) ((j - 1) / 2)
def childL (T : List Int) (L : List Nat) (i n : Nat) : Nat := if 2 * i + 2 < n ∧ lessB T (L.getD (2 * i + 2) 0) (L.getD (2 * i + 1) 0) = true then 2 * i + 2 else 2 * i + 1
def downL (T : List Int) : Nat → List Nat → Nat → Nat → List Nat
 | 0, L, _, _ => L
 | c + 1, L, i, n => if n ≤ 2 * i + 1 then L else if lessB T (L.getD (childL T L i n) 0) (L.getD i 0) = false then L else downL T c (swapL L i (childL T L i n)) (childL T L i n) n
def pushL (T : List Int) (L : List Nat) (x : Nat) : List Nat := upL T (L.length + 1) (L ++ [x]) L.length
def popL (T : List Int) (L : List Nat) : List Nat := downL T L.length (swapL L 0 (L.length - 1)) 0 (L.length - 1)
def buildL (T : List Int) (xs : List Nat) : List Nat := xs.foldl (pushL T) []
def drainL (T : List Int) : Nat → List Nat → List Nat
 | 0, _ => []
 | c + 1, L => if L.length = 0 then [] else (popL T L).getD (L.length - 1) 0 :: drainL T c ((popL T L).take (L.length - 1))
def HP (T : List Int) (L : List Nat) (n : Nat) : Prop := ∀ i, 0 < i → i < n → leT T (L.getD ((i - 1) / 2) 0) (L.getD i 0)
def UpI (T : List Int) (L : List Nat) (j : Nat) : Prop := (∀ i, 0 < i → i < L.length → i ≠ j → leT T (L.getD ((i - 1) / 2) 0) (L.getD i 0)) ∧ (0 < j → ∀ i, 0 < i → i < L.length → (i - 1) / 2 = j → leT T (L.getD ((j - 1) / 2) 0) (L.getD i 0))
def DownI (T : List Int) (L : List Nat) (i n : Nat) : Prop := (∀ k, 0 < k → k < n → (k - 1) / 2 ≠ i → leT T (L.getD ((k - 1) / 2) 0) (L.getD k 0)) ∧ (0 < i → ∀ k, 0 < k → k < n → (k - 1) / 2 = i → leT T (L.getD ((i - 1) / 2) 0) (L.getD k 0))
theorem up_heap (T : List Int) : ∀ (c : Nat) (L : List Nat) (j : Nat), j < c → j < L.length → UpI T L j → HP T (upL T c L j) L.length ∧ (upL T c L j).Perm L
 | 0, L, j, hc, _, _ => absurd hc (Nat.not_lt_zero _)
 | c + 1, L, j, hc, hj, hU => by
  unfold upL
  split
  ·
   rename_i h
   refine ⟨fun i h0 h1 => ?_, List.Perm.refl _⟩
   by_cases he : i = j
   ·
    subst he
    rcases h with h | h
    ·
     omega
    ·
     exact less_false.1 h
   ·
    exact hU.1 i h0 h1 he
  ·
   rename_i h
   have h1 : ¬ (j - 1) / 2 = j := fun e => h (.inl e)
   have h2 : lessB T (L.getD j 0) (L.getD ((j - 1) / 2) 0) = true := by
    cases hb : lessB T (L.getD j 0) (L.getD ((j - 1) / 2) 0) with
    | true => rfl
    | false => exact absurd (.inr hb) h
   have hx := less_true h2
   generalize hp : (j - 1) / 2 = p at *
   have hpj : p < j := by omega
   have hpl : p < L.length := by omega
   have hg := getD_swap hpl hj
   have ih := up_heap T c (swapL L p j) p (by omega) (by rw [length_swapL]; exact hpl) ⟨fun i i0 i1 i2 => ?_, fun p0 i i0 i1 i2 => ?_⟩
   ·
    rw [length_swapL] at ih
    exact ⟨ih.1, ih.2.trans (swapL_perm hpl hj)⟩
   ·
    rw [length_swapL] at i1
    rw [hg, hg]
    by_cases e1 : i = j
    ·
     subst e1
     rw [if_pos rfl, hp, if_neg (by omega), if_pos rfl]
     exact hx
    ·
     rw [if_neg e1, if_neg i2]
     by_cases e2 : (i - 1) / 2 = j
     ·
      rw [if_pos e2]
      have := hU.2 (by omega) i i0 i1 e2
      rwa [hp] at this
     ·
      rw [if_neg e2]
      by_cases e3 : (i - 1) / 2 = p
      ·
       rw [if_pos e3]
       have := hU.1 i i0 i1 e1
       rw [e3] at this
       exact hx.trans this
      ·
       rw [if_neg e3]
       exact hU.1 i i0 i1 e1
   ·
    rw [length_swapL] at i1
    have h3 := hU.1 p p0 hpl (by omega)
    rw [hg, hg, if_neg (by omega), if_neg (by omega)]
    by_cases e1 : i = j
    ·
     rw [if_pos e1]
     exact h3
    ·
     rw [if_neg e1, if_neg (by omega)]
     have := hU.1 i i0 i1 e1
     rw [i2] at this
     exact h3.trans this
theorem down_heap (T : List Int) : ∀ (c : Nat) (L : List Nat) (i n : Nat), n ≤ i + c → n ≤ L.length → i < L.length → DownI T L i n → HP T (downL T c L i n) n ∧ (downL T c L i n).Perm L ∧ (∀ k, n ≤ k → i < k → (downL T c L i n).getD k 0 = L.getD k 0) ∧ (downL T c L i n).length = L.length
 | 0, L, i, n, hc, hn, hi, hD => ⟨fun k h0 h1 => hD.1 k h0 h1 (by omega), List.Perm.refl _, fun _ _ _ => rfl, rfl⟩
 | c + 1, L, i, n, hc, hn, hi, hD => by
  unfold downL
  split
  ·
   exact ⟨fun k h0 h1 => hD.1 k h0 h1 (by omega), List.Perm.refl _, fun _ _ _ => rfl, rfl⟩
  ·
   rename_i hn1
   have hch : (childL T L i n = 2 * i + 1 ∨ childL T L i n = 2 * i + 2) ∧ childL T L i n < n ∧ ∀ k, 0 < k → k < n → (k - 1) / 2 = i → leT T (L.getD (childL T L i n) 0) (L.getD k 0) := by
    unfold childL
    split
    ·
     rename_i h
     refine ⟨.inr rfl, h.1, fun k k0 k1 k2 => ?_⟩
     have : k = 2 * i + 1 ∨ k = 2 * i + 2 := by omega
     rcases this with rfl | rfl
     ·
      exact less_true h.2
     ·
      exact leT.refl _ _
    ·
     rename_i h
     refine ⟨.inl rfl, by omega, fun k k0 k1 k2 => ?_⟩
     have : k = 2 * i + 1 ∨ k = 2 * i + 2 := by omega
     rcases this with rfl | rfl
     ·
      exact leT.refl _ _
     ·
      refine less_false.1 ?_
      cases hb : lessB T (L.getD (2 * i + 2) 0) (L.getD (2 * i + 1) 0) with
      | false => rfl
      | true => exact absurd ⟨k1, hb⟩ h
   generalize childL T L i n = j at hch ⊢
   obtain ⟨hj, hjn, hmin⟩ := hch
   split
   ·
    rename_i h
    have hle := less_false.1 h
    refine ⟨fun k k0 k1 => ?_, List.Perm.refl _, fun _ _ _ => rfl, rfl⟩
    by_cases e : (k - 1) / 2 = i
    ·
     rw [e]
     exact hle.trans (hmin k k0 k1 e)
    ·
     exact hD.1 k k0 k1 e
   ·
    rename_i h
    have hx : leT T (L.getD j 0) (L.getD i 0) := less_true (by
     cases hb : lessB T (L.getD j 0) (L.getD i 0) with
     | true => rfl
     | false => exact absurd hb h)
    have hjl : j < L.length := by omega
    have hg := getD_swap hi hjl
    have ih := down_heap T c (swapL L i j) j n (by omega) (by rw [length_swapL]; exact hn) (by rw [length_swapL]; exact hjl) ⟨fun k k0 k1 k2 => ?_, fun _ k k0 k1 k2 => ?_⟩
    ·
     refine ⟨ih.1, ih.2.1.trans (swapL_perm hi hjl), fun k k1 k2 => ?_, by rw [ih.2.2.2, length_swapL]⟩
     rw [ih.2.2.1 k k1 (by omega), hg, if_neg (by omega), if_neg (by omega)]
    ·
     rw [hg, hg]
     rw [if_neg k2]
     by_cases e1 : k = j
     ·
      have e2 : (k - 1) / 2 = i := by omega
      rw [if_pos e1, if_pos e2]
      exact hx
     ·
      rw [if_neg e1]
      by_cases e2 : (k - 1) / 2 = i
      ·
       rw [if_pos e2, if_neg (by omega)]
       exact hmin k k0 k1 e2
      ·
       rw [if_neg e2]
       by_cases e3 : k = i
       ·
        subst e3
        rw [if_pos rfl]
        exact hD.2 (by omega) j (by omega) hjn (by omega)
       ·
        rw [if_neg e3]
        exact hD.1 k k0 k1 e2
    ·
     have e : (j - 1) / 2 = i := by omega
     rw [hg, hg, e, if_neg (by omega), if_pos rfl, if_neg (by omega), if_neg (by omega)]
     have := hD.1 k k0 k1 (by omega)
     rwa [k2] at this
theorem push_heap {T : List Int} {L : List Nat} (h : HP T L L.length) (x : Nat) : HP T (pushL T L x) (L.length + 1) ∧ (pushL T L x).Perm (L ++ [x]) ∧ (pushL T L x).length = L.length + 1 := by
 unfold pushL
 have hlen : (L ++ [x]).length = L.length + 1 := by simp
 have hu := up_heap T (L.length + 1) (L ++ [x]) L.length (by omega) (by omega) ⟨fun i i0 i1 i2 => ?_, fun _ i i0 i1 i2 => by omega⟩
 ·
  rw [hlen] at hu
  exact ⟨hu.1, hu.2, hu.2.length_eq.trans hlen⟩
 ·
  have hi : i < L.length := by omega
  have := h i i0 hi
  simp only [List.getD_eq_getElem?_getD] at this ⊢
  rwa [List.getElem?_append_left (by omega), List.getElem?_append_left hi]
theorem build_heap {T : List Int} : ∀ (xs L : List Nat), HP T L L.length → HP T (xs.foldl (pushL T) L) (xs.foldl (pushL T) L).length ∧ (xs.foldl (pushL T) L).Perm (L ++ xs)
 | [], L, h => ⟨h, by simp⟩
 | x :: xs, L, h => by
  obtain ⟨p1, p2, p3⟩ := push_heap h x
  obtain ⟨q1, q2⟩ := build_heap xs (pushL T L x) (by rw [p3]; exact p1)
  refine ⟨q1, q2.trans ?_⟩
  have := p2.append_right xs
  simpa using this
theorem heap_min {T : List Int} {L : List Nat} {n : Nat} (h : HP T L n) : ∀ (m i : Nat), i ≤ m → i < n → leT T (L.getD 0 0) (L.getD i 0)
 | 0, i, h0, _ => by
  obtain rfl : i = 0 := by omega
  exact leT.refl _ _
 | m + 1, i, h0, h1 => by
  by_cases e : i = 0
  ·
   subst e
   exact leT.refl _ _
  ·
   exact (heap_min h m ((i - 1) / 2) (by omega) (by omega)).trans (h i (by omega) h1)
theorem pop_heap {T : List Int} {L : List Nat} (hL : 0 < L.length) (h : HP T L L.length) :
  (popL T L).length = L.length ∧ (popL T L).getD (L.length - 1) 0 = L.getD 0 0 ∧ HP T ((popL T L).take (L.length - 1)) (L.length - 1) ∧ L.Perm (L.getD 0 0 :: (popL T L).take (L.length - 1)) := by
 unfold popL
 have hn : L.length - 1 < L.length := by omega
 have hg := getD_swap hL hn
 have hd := down_heap T L.length (swapL L 0 (L.length - 1)) 0 (L.length - 1) (by omega) (by rw [length_swapL]; omega) (by rw [length_swapL]; exact hL) ⟨fun k k0 k1 k2 => ?_, fun h0 => absurd h0 (Nat.lt_irrefl _)⟩
 ·
  obtain ⟨d1, d2, d3, d4⟩ := hd
  rw [length_swapL] at d4
  generalize downL T L.length (swapL L 0 (L.length - 1)) 0 (L.length - 1) = M at *
  have hlast : M.getD (L.length - 1) 0 = L.getD 0 0 := by
   by_cases e : 0 < L.length - 1
   ·
    rw [d3 _ (Nat.le_refl _) e, hg, if_pos rfl]
   ·
    have e1 : L.length = 1 := by omega
    have p := d2.trans (swapL_perm hL hn)
    match L, M, e1, d4, p with
    | [a], [b], _, _, p =>
     have := List.singleton_perm_singleton.1 p
     simp [this]
  refine ⟨d4, hlast, fun i i0 i1 => ?_, ?_⟩
  ·
   have := d1 i i0 i1
   simp only [List.getD_eq_getElem?_getD] at this ⊢
   rwa [List.getElem?_take_of_lt (by omega), List.getElem?_take_of_lt i1]
  ·
   have hm : M = M.take (L.length - 1) ++ [M.getD (L.length - 1) 0] := by
    conv => lhs; rw [← List.take_append_drop (L.length - 1) M]
    congr 1
    rw [List.drop_eq_getElem_cons (by omega), List.drop_eq_nil_of_le (by omega), List.getD_eq_getElem?_getD, List.getElem?_eq_getElem (by omega)]
    rfl
   have p := (d2.trans (swapL_perm hL hn)).symm
   rw [hm, hlast] at p
   exact p.trans List.perm_append_comm
 ·
  rw [hg, hg, if_neg (by omega), if_neg k2, if_neg (by omega), if_neg (by omega)]
  exact h k k0 (by omega)
theorem drain_sorted {T : List Int} : ∀ (c : Nat) (L : List Nat), L.length ≤ c → HP T L L.length → (drainL T c L).Pairwise (leT T) ∧ (drainL T c L).Perm L
 | 0, L, hc, _ => by
  obtain rfl : L = [] := List.eq_nil_of_length_eq_zero (by omega)
  exact ⟨List.Pairwise.nil, List.Perm.refl _⟩
 | c + 1, L, hc, h => by
  unfold drainL
  split
  ·
   rename_i h0
   obtain rfl := List.eq_nil_of_length_eq_zero h0
   exact ⟨List.Pairwise.nil, List.Perm.refl _⟩
  ·
   rename_i h0
   obtain ⟨p1, p2, p3, p4⟩ := pop_heap (by omega) h
   have hl : ((popL T L).take (L.length - 1)).length = L.length - 1 := by rw [List.length_take]; omega
   obtain ⟨q1, q2⟩ := drain_sorted c ((popL T L).take (L.length - 1)) (by omega) (by rw [hl]; exact p3)
   rw [p2]
   refine ⟨List.pairwise_cons.2 ⟨fun x hx => ?_, q1⟩, (q2.cons _).trans p4.symm⟩
   have hx2 : x ∈ L := p4.mem_iff.2 (List.mem_cons_of_mem _ (q2.mem_iff.1 hx))
   obtain ⟨i, hi, rfl⟩ := List.getElem_of_mem hx2
   have := heap_min h i i (Nat.le_refl _) hi
   rwa [List.getD_eq_getElem?_getD (i := i), List.getElem?_eq_getElem hi] at this
def rankL (T : List Int) (xs : List Nat) : List Nat := drainL T (buildL T xs).length (buildL T xs)
theorem rank_sorted (T : List Int) (xs : List Nat) : (rankL T xs).Pairwise (leT T) ∧ (rankL T xs).Perm xs := by
 obtain ⟨b1, b2⟩ := build_heap (T := T) xs [] (fun i _ h => absurd h (Nat.not_lt_zero _))
 obtain ⟨d1, d2⟩ := drain_sorted _ (buildL T xs) (Nat.le_refl _) b1
 exact ⟨d1, d2.trans (show (buildL T xs).Perm xs from b2)⟩
theorem rank_unique {T : List Int} {l m : List Nat} (hl : l.Pairwise (leT T)) (hm : m.Pairwise (leT T)) (h : l.Perm m) : l = m := h.eq_of_pairwise (fun _ _ _ _ => leT.antisymm) hl hm
end Go.Proofs.YtdjdfbfcjajlkaaDoor
