/- Parts of the proof, laid as one text by a program of mine. -/
import Derived.Test.YtpmfghbjkampkaaDoorKPFc4
import Derived.Test.YtpmfghbjkampkaaDoorKPFc2
import Derived.BigRegion
namespace Go.Proofs.YtpmfghbjkampkaaDoor
set_option linter.unusedVariables false
set_option linter.unusedSimpArgs false
open Go.RowKit Go.Shelf Bits
open Go.Proofs.YtpmfghbjkampkaaDoorW.PrintWords Go.Proofs.YtpmfghbjkampkaaDoorW.PrintLast Go.Proofs.YtpmfghbjkampkaaDoorW.PrintMore
attribute [local go_sem] Oper.semAt_some
def needsIn (ns : List Nat) (s i : Nat) : Bool := decide (diff (ns.getD i 0) s = 0)
def closedN (ns : List Nat) (s : Nat) : Bool := (elems s).all (needsIn ns s)
def doneN (g : List Tk) (l : List Int) : Option (List Nat × Nat) := (graphN g).bind fun ns => (setOfN l g.length).bind fun s => if closedN ns s then some (ns, s) else none
def doneRet (C s : Nat) : Bool → Value
 | true => .tuple #[.pointer (some ⟨C, 0, none⟩), .int .u16 (s : Nat), .bool true]
 | false => .tuple #[.pointer none, .int .u16 0, .bool false]
theorem below3 (w : World) (o1 o2 o3 : Obj) : Below w.heap.size w (((w.alloc o1).alloc o2).alloc o3) := (((Below.refl _ w).alloc (Nat.le_refl _) _).alloc (by simp) _).alloc (by simp; omega) _
theorem doneRes {tmps : Array Value} {a b c : Nat} {x y z : Value} {w : World} (h4 : tmps.getD 4 undef = .pointer (some ⟨a, 0, none⟩)) (h5 : tmps.getD 5 undef = .pointer (some ⟨b, 0, none⟩)) (h6 : tmps.getD 6 undef = .pointer (some ⟨c, 0, none⟩))
  (hx : w.cell? ⟨a, 0, none⟩ = some x) (hy : w.cell? ⟨b, 0, none⟩ = some y) (hz : w.cell? ⟨c, 0, none⟩ = some z) : (results Tryd.f63 tmps).run Tryd.prog w = .ok (.tuple #[x, y, z]) w := by
 have h4' : tmps[4]?.getD undef = .pointer (some ⟨a, 0, none⟩) := by simpa using h4
 have h5' : tmps[5]?.getD undef = .pointer (some ⟨b, 0, none⟩) := by simpa using h5
 have h6' : tmps[6]?.getD undef = .pointer (some ⟨c, 0, none⟩) := by simpa using h6
 simp [results, Tryd.f63, go_sem, asAddr, h4', h5', h6', hx, hy, hz]
theorem three_sets {W : World} {B : Nat} {t4 t5 t6 : TypeId} {v4 v5 v6 : Value} (b4 : Boxed W B t4 v4) (b5 : Boxed W (B + 1) t5 v5) (b6 : Boxed W (B + 1 + 1) t6 v6) (x y z : Value) :
  ∃ W', ((W.setCell ⟨B, 0, none⟩ x).setCell ⟨B + 1, 0, none⟩ y).setCell ⟨B + 1 + 1, 0, none⟩ z = W' ∧ Boxed W' B t4 x ∧ Boxed W' (B + 1) t5 y ∧ Boxed W' (B + 1 + 1) t6 z ∧ KeepsOthers W W' ∧ Below B W W' ∧ ∀ k, B + 1 + 1 < k → W'.heap[k]? = W.heap[k]? :=
 ⟨_, rfl, blk_far (blk_far (b4.set x) (by simp) _) (by simp; omega) _, blk_far ((show Boxed (W.setCell ⟨B, 0, none⟩ x) _ _ _ from blk_far b5 (by simp) _).set y) (by simp) _,
  (show Boxed ((W.setCell ⟨B, 0, none⟩ x).setCell ⟨B + 1, 0, none⟩ y) _ _ _ from blk_far (blk_far b6 (by simp; omega) _) (by simp) _).set z,
  ((KeepsOthers.setCell _ _ _).trans (KeepsOthers.setCell _ _ _)).trans (KeepsOthers.setCell _ _ _),
  (((Below.refl _ W).setCell (p := ⟨B, 0, none⟩) (by simp) _).setCell (p := ⟨B + 1, 0, none⟩) (by simp) _).setCell (p := ⟨B + 1 + 1, 0, none⟩) (by simp; omega) _,
  fun k hk => (Below.heap_setCell _ _ _ _ (by simp; omega)).trans ((Below.heap_setCell _ _ _ _ (by simp; omega)).trans (Below.heap_setCell _ _ _ _ (by simp; omega)))⟩
def Three (W : World) (B : Nat) : Prop := (∃ x, W.cell? ⟨B, 0, none⟩ = some x) ∧ (∃ x, W.cell? ⟨B + 1, 0, none⟩ = some x) ∧ (∃ x, W.cell? ⟨B + 1 + 1, 0, none⟩ = some x) ∧ W.frozen? ⟨B, 0, none⟩ = false ∧ W.frozen? ⟨B + 1, 0, none⟩ = false ∧ W.frozen? ⟨B + 1 + 1, 0, none⟩ = false
theorem three_facts {W : World} {B : Nat} {t4 t5 t6 : TypeId} {v4 v5 v6 : Value} (b4 : Boxed W B t4 v4) (b5 : Boxed W (B + 1) t5 v5) (b6 : Boxed W (B + 1 + 1) t6 v6) : Three W B := ⟨⟨_, b4.cell⟩, ⟨_, b5.cell⟩, ⟨_, b6.cell⟩, b4.frozen, b5.frozen, b6.frozen⟩
structure P3 (W0 : World) (B : Nat) (t4 t5 t6 : TypeId) (x y z : Value) (W : World) : Prop where
 b4 : Boxed W B t4 x
 b5 : Boxed W (B + 1) t5 y
 b6 : Boxed W (B + 1 + 1) t6 z
 below : Below B W0 W
 up : ∀ k, B + 1 + 1 < k → W.heap[k]? = W0.heap[k]?
section
variable {W0 W : World} {B : Nat} {t4 t5 t6 : TypeId} {x y z v : Value}
theorem P3.set4 (h : P3 W0 B t4 t5 t6 v y z W) : P3 W0 B t4 t5 t6 x y z (W.setCell ⟨B, 0, none⟩ x) :=
 ⟨h.b4.set x, blk_far h.b5 (by simp) _, blk_far h.b6 (by simp; omega) _, h.below.setCell (p := ⟨B, 0, none⟩) (by simp) _, fun k hk => (Below.heap_setCell _ _ _ _ (by simp; omega)).trans (h.up k hk)⟩
theorem P3.set5 (h : P3 W0 B t4 t5 t6 x v z W) : P3 W0 B t4 t5 t6 x y z (W.setCell ⟨B + 1, 0, none⟩ y) :=
 ⟨blk_far h.b4 (by simp) _, h.b5.set y, blk_far h.b6 (by simp) _, h.below.setCell (p := ⟨B + 1, 0, none⟩) (by simp) _, fun k hk => (Below.heap_setCell _ _ _ _ (by simp; omega)).trans (h.up k hk)⟩
theorem P3.set6 (h : P3 W0 B t4 t5 t6 x y v W) : P3 W0 B t4 t5 t6 x y z (W.setCell ⟨B + 1 + 1, 0, none⟩ z) :=
 ⟨blk_far h.b4 (by simp; omega) _, blk_far h.b5 (by simp) _, h.b6.set z, h.below.setCell (p := ⟨B + 1 + 1, 0, none⟩) (by simp; omega) _, fun k hk => (Below.heap_setCell _ _ _ _ (by simp; omega)).trans (h.up k hk)⟩
theorem P3.drew (h : P3 W0 B t4 t5 t6 x y z W) : P3 W0 B t4 t5 t6 x y z W.drew := ⟨h.b4, h.b5, h.b6, h.below.drew, h.up⟩
end
theorem three_allocs (w : World) (t4 t5 t6 : TypeId) (x y z : Value) : Boxed (((w.alloc (.cells #[x] t4)).alloc (.cells #[y] t5)).alloc (.cells #[z] t6)) w.heap.size t4 x ∧ Boxed (((w.alloc (.cells #[x] t4)).alloc (.cells #[y] t5)).alloc (.cells #[z] t6)) (w.heap.size + 1) t5 y ∧
  Boxed (((w.alloc (.cells #[x] t4)).alloc (.cells #[y] t5)).alloc (.cells #[z] t6)) (w.heap.size + 1 + 1) t6 z ∧ Below w.heap.size w (((w.alloc (.cells #[x] t4)).alloc (.cells #[y] t5)).alloc (.cells #[z] t6)) ∧ (((w.alloc (.cells #[x] t4)).alloc (.cells #[y] t5)).alloc (.cells #[z] t6)).heap.size = w.heap.size + 1 + 1 + 1 := by
 have h5 := (Boxed.new (w.alloc (.cells #[x] t4)) t5 y).alloc (.cells #[z] t6)
 have h6 := Boxed.new ((w.alloc (.cells #[x] t4)).alloc (.cells #[y] t5)) t6 z
 rw [World.size_alloc] at h5
 rw [World.size_alloc, World.size_alloc] at h6
 exact ⟨((Boxed.new w _ _).alloc _).alloc _, h5, h6, below3 _ _ _ _, by simp⟩
set_option maxRecDepth 100000 in
set_option maxHeartbeats 2000000 in
theorem doneIn_no1 (A : Option Addr) (c : Nat) (g : List Tk) (A' : Option Addr) (c' : Nat) (l : List Int) (w : World) (hr : kTk.C w A g.length g) (hg : graphN g = none) :
  Calls Tryd.prog 63 #[.slice A g.length c, .slice A' l.length c'] w fun e W' => e = .returned (doneRet 0 0 false) ∧ Below w.heap.size w W' := by
 obtain ⟨b4, b5, b6, hB0, hs0⟩ := (three_allocs w 60 80 4 (.pointer none) (.int .u16 0) (.bool false))
 have HP := Lib.hid (fun (W : World) (hB : Below w.heap.size w W) => graphOf_no A c g W (Kd.C_below hr hB) hg)
 have H0 := Lib.hid (And.intro b4 (And.intro b5 (And.intro b6 (And.intro hB0 hs0))))
 clear hr hg b4 b5 b6 hB0 hs0
 refine calls_of_wp_marks Tryd.func63 rfl ?_
 simp only [Tryd.ntmps63, List.size_toArray, List.length_cons, List.length_nil, Nat.reduceAdd, Nat.reduceSub, Array.replicate_succ, Array.replicate_zero, List.push_toArray, List.append_toArray, List.nil_append, List.cons_append]
 go_wp2_with (go_at_call 79; refine (HP.out _ H0.out.2.2.2.1).mono ?_; rintro e w1 ⟨rfl, hB1⟩; obtain ⟨⟨x4, hc4⟩, ⟨x5, hc5⟩, ⟨x6, hc6⟩, hf4, hf5, hf6⟩ := three_facts ((show Boxed w1 _ _ _ from blk_below H0.out.1 hB1).alloc (.cells #[.pointer none] 60)) ((show Boxed w1 _ _ _ from blk_below H0.out.2.1 hB1).alloc _) ((show Boxed w1 _ _ _ from blk_below H0.out.2.2.1 hB1).alloc _))
 obtain ⟨b4, b5, b6, hB0, hs0⟩ := H0.out
 obtain ⟨W', hW', c4, c5, c6, _, hb, _⟩ := three_sets ((show Boxed w1 _ _ _ from blk_below b4 hB1).alloc (.cells #[.pointer none] 60)) ((show Boxed w1 _ _ _ from blk_below b5 hB1).alloc _) ((show Boxed w1 _ _ _ from blk_below b6 hB1).alloc _) (.pointer none) (.int .u16 0) (.bool false)
 rw [hW']
 refine ⟨_, doneRes rfl rfl rfl c4.cell c5.cell c6.cell, rfl, ?_⟩
 have hBw := hB0.trans (hB1.mono (by omega))
 exact (hBw.alloc hBw.size _).trans hb
set_option maxRecDepth 100000 in
set_option maxHeartbeats 2000000 in
theorem doneIn_no2 (A : Option Addr) (c : Nat) (g : List Tk) (A' : Option Addr) (c' : Nat) (l : List Int) (w : World) (hr : kTk.C w A g.length g) (hr' : (Kd.int .i64).C w A' l.length l) (hT : Tab w) (ns : List Nat) (hg : graphN g = some ns) (hs : setOfN l g.length = none) :
  Calls Tryd.prog 63 #[.slice A g.length c, .slice A' l.length c'] w fun e W' => e = .returned (doneRet 0 0 false) ∧ Below w.heap.size w W' := by
 obtain ⟨b4, b5, b6, hB0, hs0⟩ := (three_allocs w 60 80 4 (.pointer none) (.int .u16 0) (.bool false))
 have h8 := (graphN_some hg).2.2.1
 have HS := Lib.hid hs
 have HP := Lib.hid (fun (W : World) (hB : Below w.heap.size w W) => graphOf_yes A c g ns W (Kd.C_below hr hB) (hT.keep hT.lt hB) hg)
 have HL := Lib.hid (fun (W : World) (hB : Below w.heap.size w W) => Kd.C_below hr' hB)
 have H0 := Lib.hid (And.intro b4 (And.intro b5 (And.intro b6 (And.intro hB0 hs0))))
 clear hr hg hs hr' hT b4 b5 b6 hB0 hs0
 refine calls_of_wp_marks Tryd.func63 rfl ?_
 simp only [Tryd.ntmps63, List.size_toArray, List.length_cons, List.length_nil, Nat.reduceAdd, Nat.reduceSub, Array.replicate_succ, Array.replicate_zero, List.push_toArray, List.append_toArray, List.nil_append, List.cons_append]
 go_wp2_with (first | (go_at_call 79; refine (HP.out _ H0.out.2.2.2.1).mono ?_; rintro e w1 ⟨C, rfl, hG, hB1⟩; have HG := Lib.hid hG; have HBW := Lib.hid (H0.out.2.2.2.1.trans (hB1.mono (by rw [H0.out.2.2.2.2]; omega))); clear hG; obtain ⟨⟨x4, hc4⟩, ⟨x5, hc5⟩, ⟨x6, hc6⟩, hf4, hf5, hf6⟩ := three_facts (((show Boxed w1 _ _ _ from blk_below H0.out.1 hB1).alloc (.cells #[.pointer (some ⟨C, 0, none⟩)] 60)).alloc (.cells #[.int .u16 0] 80)) (((show Boxed w1 _ _ _ from blk_below H0.out.2.1 hB1).alloc _).alloc _) (((show Boxed w1 _ _ _ from blk_below H0.out.2.2.1 hB1).alloc _).alloc _)) | (go_at_call 72; refine (size_calls _ C g ns (HG.out.below ((Below.refl _ w1).alloc (Nat.le_refl _) _))).mono ?_; rintro e w' ⟨rfl, rfl⟩) | (go_at_call 101; refine (setOf_none A' c' l g.length HS (by omega) _ (HL.out _ (HBW.out.alloc HBW.out.size _))).mono ?_; rintro e w' ⟨rfl, rfl⟩))
 obtain ⟨b4, b5, b6, hB0, hs0⟩ := H0.out
 obtain ⟨W', hW', c4, c5, c6, _, hb, _⟩ := three_sets (((show Boxed w1 _ _ _ from blk_below b4 hB1).alloc (.cells #[.pointer (some ⟨C, 0, none⟩)] 60)).alloc (.cells #[.int .u16 0] 80)) (((show Boxed w1 _ _ _ from blk_below b5 hB1).alloc _).alloc _) (((show Boxed w1 _ _ _ from blk_below b6 hB1).alloc _).alloc _) (.pointer none) (.int .u16 0) (.bool false)
 rw [hW']
 refine ⟨_, doneRes rfl rfl rfl c4.cell c5.cell c6.cell, rfl, ?_⟩
 have hBw := HBW.out.alloc HBW.out.size (.cells #[.pointer (some ⟨C, 0, none⟩)] 60)
 exact (hBw.alloc hBw.size _).trans hb
set_option maxRecDepth 100000 in
set_option maxHeartbeats 4000000 in
theorem doneIn_set (A : Option Addr) (c : Nat) (g : List Tk) (A' : Option Addr) (c' : Nat) (l : List Int) (w : World) (hr : kTk.C w A g.length g) (hr' : (Kd.int .i64).C w A' l.length l) (hT : Tab w) (ns : List Nat) (s : Nat) (hg : graphN g = some ns) (hs : setOfN l g.length = some s) :
  Calls Tryd.prog 63 #[.slice A g.length c, .slice A' l.length c'] w fun e W' => ∃ C, e = .returned (doneRet C s (closedN ns s)) ∧ (closedN ns s = true → IsGraph W' C g ns) ∧ Below w.heap.size w W' := by
 obtain ⟨b4, b5, b6, hB0, hs0⟩ := (three_allocs w 60 80 4 (.pointer none) (.int .u16 0) (.bool false))
 obtain ⟨hn, hord, h8, hnl⟩ := graphN_some hg
 have hs16 : s < 65536 := Nat.lt_of_lt_of_le (setOfN_lt hs) (pow_le_u16 (by omega))
 have hsl := setOfN_lt hs
 have hns := needsN_lt hn
 have HNS := Lib.hid hns
 have HS := Lib.hid hs
 have HT := Lib.hid hT
 have HR := Lib.hid hr
 have HP := Lib.hid (fun (W : World) (hB : Below w.heap.size w W) => graphOf_yes2 A c g ns W (Kd.C_below hr hB) (hT.keep hT.lt hB) hg)
 have HL := Lib.hid (fun (W : World) (hB : Below w.heap.size w W) => Kd.C_below hr' hB)
 have H0 := Lib.hid (And.intro b4 (And.intro b5 (And.intro b6 (And.intro hB0 hs0))))
 clear hr hg hs hr' hT b4 b5 b6 hB0 hs0 hn hord hns
 refine calls_of_wp_marks Tryd.func63 rfl ?_
 simp only [Tryd.ntmps63, List.size_toArray, List.length_cons, List.length_nil, Nat.reduceAdd, Nat.reduceSub, Array.replicate_succ, Array.replicate_zero, List.push_toArray, List.append_toArray, List.nil_append, List.cons_append]
 go_wp2_with (first | (go_at_call 79; refine (HP.out _ H0.out.2.2.2.1).mono ?_; rintro e w1 ⟨C, rfl, hG, hB1, hSt⟩; have HG := Lib.hid hG; have HBW := Lib.hid (H0.out.2.2.2.1.trans (hB1.mono (by rw [H0.out.2.2.2.2]; omega))); have HSt := Lib.hid hSt; clear hG hSt) | (go_at_call 72; refine (size_calls _ C g ns (HG.out.below ((Below.refl _ w1).alloc (Nat.le_refl _) _))).mono ?_; rintro e w' ⟨rfl, rfl⟩) | (go_at_call 101; refine (setOf_some A' c' l g.length s HS (by omega) _ (HL.out _ (HBW.out.alloc HBW.out.size _))).mono ?_; rintro e w' ⟨rfl, rfl⟩) | (go_at_call 59; refine (all_calls s _).mono ?_; rintro e w' ⟨rfl, rfl⟩))
 obtain ⟨b4, b5, b6, hB0, hs0⟩ := H0.out
 have hsz1 := hB1.size
 obtain ⟨W0, hW0⟩ : ∃ W0, W0 = (w1.alloc (.cells #[.pointer (some ⟨C, 0, none⟩)] 60)).alloc (.cells #[.int .u16 s] 80) := ⟨_, rfl⟩
 have hB2 : Below w1.heap.size w1 W0 := by rw [hW0]; exact ((Below.refl _ w1).alloc (Nat.le_refl _) _).alloc (by simp) _
 have hz0' : W0.heap.size = w1.heap.size + 1 + 1 := by rw [hW0]; simp
 have hb9 : Boxed W0 (w1.heap.size + 1) 80 (.int .u16 s) := by rw [hW0]; have := Boxed.new (w1.alloc (.cells #[.pointer (some ⟨C, 0, none⟩)] 60)) 80 (.int .u16 s); rwa [World.size_alloc] at this
 have hb7 : Boxed W0 w1.heap.size 60 (.pointer (some ⟨C, 0, none⟩)) := by rw [hW0]; exact (Boxed.new w1 60 (.pointer (some ⟨C, 0, none⟩))).alloc _
 rw [← hW0]
 clear hW0
 have c4 : Boxed W0 w.heap.size 60 (.pointer none) := blk_below (blk_below b4 hB1) hB2
 have c5 : Boxed W0 (w.heap.size + 1) 80 (.int .u16 0) := blk_below (blk_below b5 hB1) hB2
 have c6 : Boxed W0 (w.heap.size + 1 + 1) 4 (.bool false) := blk_below (blk_below b6 hB1) hB2
 have htl := HT.out.lt
 have hT1 := HT.out.keep htl HBW.out
 have htl1 := hT1.lt
 have hT0 := hT1.keep htl1 hB2
 have hBox := Boxed.new W0 80 (.int .u16 s)
 rw [hz0'] at hBox
 rw [hs0] at hsz1
 have hs3 := hs0
 clear b4 b5 b6 hB0 hs0
 refine wp_rangeSet1 s (w1.heap.size + 1 + 1) w1.heap.size hs16 rfl (by simp [hz0']) hBox.cell (hT0.keep hT0.lt ((Below.refl _ _).alloc (Nat.le_refl _) _)) (by simp [hz0']; omega) htl1
  (fun pre W => (∀ i ∈ pre.map (·.1), needsIn ns s i = true) ∧ Below w1.heap.size w1 W ∧ Boxed W (w1.heap.size + 1) 80 (.int .u16 s) ∧ Boxed W w1.heap.size 60 (.pointer (some ⟨C, 0, none⟩)) ∧
   Boxed W w.heap.size 60 (.pointer none) ∧ Boxed W (w.heap.size + 1) 80 (.int .u16 0) ∧ Boxed W (w.heap.size + 1 + 1) 4 (.bool false))
  (fun cd _ W => cd = .ret ∧ closedN ns s = false ∧ Below w.heap.size w W ∧ Boxed W w.heap.size 60 (.pointer none) ∧ Boxed W (w.heap.size + 1) 80 (.int .u16 0) ∧ Boxed W (w.heap.size + 1 + 1) 4 (.bool false))
  ?ownI ?ownX ?start
  (fun x => { tmps := #[.slice A g.length c, .slice A' l.length c', undef, undef, .pointer (some ⟨w.heap.size, 0, none⟩), .pointer (some ⟨w.heap.size + 1, 0, none⟩), .pointer (some ⟨w.heap.size + 1 + 1, 0, none⟩), .pointer (some ⟨w1.heap.size, 0, none⟩), .bool true, .pointer (some ⟨w1.heap.size + 1, 0, none⟩), .int .i64 (x.1 : Nat),
   .tuple #[.pointer (some ⟨C, 0, none⟩), .bool true], .slice A g.length c, .tuple #[.pointer (some ⟨C, 0, none⟩), .bool true], .pointer (some ⟨C, 0, none⟩), .bool true, .bool true, .bool false, .tuple #[.int .u16 s, .bool true], .slice A' l.length c', .pointer (some ⟨C, 0, none⟩), .int .i64 (g.length : Nat), .tuple #[.int .u16 s, .bool true], .int .u16 s, .bool true, .bool true, .bool false, .int .u16 s,
   .func (.func 98) #[] #[.pointer (some ⟨w1.heap.size + 1 + 1, 0, none⟩)], .int .i64 (x.1 : Nat), undef, undef, undef, undef, undef, undef, undef, undef, undef, undef, undef, undef], defers := [] }) ?assign ?body ?done ?stop
 case ownI =>
  exact (ownFrom_pure _ _).and ((ownFrom_below (Nat.le_refl _) (by simp [hz0']; omega)).and ((Own.from (boxed_own _ _ (fun _ => _)) _).and ((Own.from (boxed_own _ _ (fun _ => _)) _).and ((Own.from (boxed_own _ _ (fun _ => _)) _).and ((Own.from (boxed_own _ _ (fun _ => _)) _).and (Own.from (boxed_own _ _ (fun _ => _)) _))))))
 case ownX =>
  intro cd
  exact (ownFrom_pure _ _).and ((ownFrom_pure _ _).and ((ownFrom_below (Nat.le_refl _) (by simp [hz0']; omega)).and ((Own.from (boxed_own _ _ (fun _ => _)) _).and ((Own.from (boxed_own _ _ (fun _ => _)) _).and (Own.from (boxed_own _ _ (fun _ => _)) _)))))
 case start => exact ⟨by simp, hB2.alloc hB2.size _, hb9.alloc _, hb7.alloc _, c4.alloc _, c5.alloc _, c6.alloc _⟩
 case assign =>
  intro l x W K hK
  gi_wp2
  exact hK
 case body =>
  rintro l pre x W ⟨hall, hB, hb9, hb7, hb4, hb5, hb6⟩ hlt
  have hxn : x.1 < g.length := elems_below hsl x.2
  have hGW := HG.out.below hB
  obtain ⟨Ag, cg, An, cn, Ao, co, vb, va, h1, h2, h3, h4⟩ := hGW
  have cC := blk_cell h1 1
  simp at cC
  obtain ⟨ad, rfl, hcx⟩ := at_set h3 x.1 (by omega)
  have hvx := HNS.out x.1
  have hx9 := hb9.cell
  have hx7 := hb7.cell
  have hX : needsIn ns s x.1 = decide (diff (ns.getD x.1 0) s = 0) := rfl
  have HX := Lib.hid hX
  have HALL := Lib.hid hall
  have HGW : Hid (IsGraph W C g ns) := Lib.hid (HG.out.below hB)
  have HB := Lib.hid hB
  clear hall h1 h2 h3 h4 hX hB
  generalize ns.getD x.1 0 = z at hcx hvx HX
  have hxi : ((x.1 : Nat) : Int) < (ns.length : Int) := by omega
  by_cases hd : diff z s = 0
  ·
   have hbt : (bits BinOp.andNot IntKind.u16 (z : Int) (s : Int) != 0) = false := by rw [bits_andNot_u16 _ s hvx, hd]; rfl
   have HD := Lib.hid hd
   clear hd
   gi_wp2
   refine wpIn_region_still_tail 9 mixed (by kernel_rfl) (by kernel_rfl) (fun ⟨_, _, h⟩ => h) ?_
   simp only [List.take_succ_cons, List.take_zero, List.drop_succ_cons, List.drop_zero]
   repeat (with_reducible refine wpStill_step (fun K hK => ?_); go_simp; with_reducible refine hK _ ?_; clear hK K)
   with_reducible refine wpStill_nil ?_
   go_wp2
   gi_wp2
   refine ⟨(KeepsOthers.drew _).from _, (Below.refl _ _).drew, fun i hi => ?_, HB.out.drew, hb9, hb7, hb4, hb5, hb6⟩
   rw [List.map_append, List.mem_append] at hi
   rcases hi with hi | hi
   ·
    exact HALL.out i hi
   ·
    simp at hi
    subst hi
    rw [HX.out, HD.out]
    rfl
  ·
   have hbt : (bits BinOp.andNot IntKind.u16 (z : Int) (s : Int) != 0) = true := by
    rw [bits_andNot_u16 _ s hvx, bne_iff_ne]
    omega
   have HD := Lib.hid hd
   clear hd
   gi_wp2
   refine wpIn_region_still_tail 9 mixed (by kernel_rfl) (by kernel_rfl) (fun ⟨_, _, h⟩ => h) ?_
   simp only [List.take_succ_cons, List.take_zero, List.drop_succ_cons, List.drop_zero]
   repeat (with_reducible refine wpStill_step (fun K hK => ?_); go_simp; with_reducible refine hK _ ?_; clear hK K)
   with_reducible refine wpStill_nil ?_
   have hf4 := hb4.frozen
   have hf5 := hb5.frozen
   have hf6 := hb6.frozen
   have hc4 := hb4.cell
   have hc5 := hb5.cell
   have hc6 := hb6.cell
   go_wp2
   gi_wp2
   obtain ⟨W', hW', d4, d5, d6, hko, hbl, _⟩ := three_sets hb4 hb5 hb6 (.pointer none) (.int .u16 0) (.bool false)
   rw [hW']
   have hcl : closedN ns s = false := by
    cases hc : closedN ns s with
    | false => rfl
    | true =>
     have := List.all_eq_true.1 hc x.1 x.2
     rw [HX.out, decide_eq_true_eq] at this
     exact absurd this HD.out
   have hBW := HB.out
   exact ⟨(hko.trans (KeepsOthers.drew _)).from _, rfl, hcl, ((HBW.out.trans (hBW.mono HBW.out.size)).trans hbl).drew, d4, d5, d6⟩
 case stop =>
  rintro D cd pre W hD _ ⟨rfl, hcl, hB, d4, d5, d6⟩ hK
  simp [hz0'] at hD
  have hg1 := grownBy_putObj' W D (.deferred none)
  have e4 := d4.kept hg1 (by simp; omega)
  have e5 := d5.kept hg1 (by simp; omega)
  have e6 := d6.kept hg1 (by simp; omega)
  go_wp2
  refine leave_one hK (doneRes rfl rfl rfl e4.cell e5.cell e6.cell) ⟨C, by rw [hcl]; rfl, fun h => (by rw [hcl] at h; exact absurd h (by decide)), ?_⟩
  exact hB.trans (belowK_b (w := w) (Nat.le_refl _) W D _ _ (by omega) hK rfl rfl)
 case done =>
  rintro D ys W hD hys ⟨hall, hB, hb9, hb7, hb4, hb5, hb6⟩ hK
  have hc9 := hb9.cell
  have hc7 := hb7.cell
  have hcl : closedN ns s = true := List.all_eq_true.2 (by rw [← hys]; exact hall)
  have hf4 := hb4.frozen
  have hf5 := hb5.frozen
  have hf6 := hb6.frozen
  have hc4 := hb4.cell
  have hc5 := hb5.cell
  have hc6 := hb6.cell
  simp [hz0'] at hD
  have HB := Lib.hid hB
  have HCL := Lib.hid hcl
  clear hall hys hB hcl
  have hP0 : P3 W w.heap.size 60 80 4 (.pointer none) (.int .u16 0) (.bool false) W := ⟨hb4, hb5, hb6, Below.refl _ _, fun _ _ => rfl⟩
  go_wp2
  go_cut [41] from 40 to 42 (fun v41 wc => P3 W w.heap.size 60 80 4 (.pointer (some ⟨C, 0, none⟩)) (.int .u16 s) (.bool true) wc)
  case first =>
   go_region_with (fail)
   all_goals
    go_wp2
    go_meet
    case rel => repeat (with_reducible first | exact hP0 | apply P3.drew | apply P3.set4 | apply P3.set5 | apply P3.set6)
  case rest =>
  obtain ⟨d4, d5, d6, hbl, hup⟩ := hcut
  go_wp2
  have hK' : wc.heap[D]? = some (.deferred (some [])) := (hup D (by omega)).trans hK
  have hg1 := grownBy_putObj' wc D (.deferred none)
  have e4 := (show Boxed wc _ _ _ from d4).kept hg1 (by simp; omega)
  have e5 := (show Boxed wc _ _ _ from d5).kept hg1 (by simp; omega)
  have e6 := (show Boxed wc _ _ _ from d6).kept hg1 (by simp; omega)
  have hBW := ((HBW.out.trans (HB.out.mono HBW.out.size)).trans hbl)
  have hBf : Below w.heap.size w (wc.putObj D (.deferred none)) := hBW.trans (belowK_b (w := w) (Nat.le_refl _) wc D _ _ (by omega) hK' rfl rfl)
  refine leave_one hK' (doneRes rfl rfl rfl e4.cell e5.cell e6.cell) ⟨C, by rw [HCL.out]; rfl, fun _ => HSt.out _ (Kd.C_below HR.out hBf) fun k hk1 hk2 => ?_, hBf⟩
  have hk3 : k ≠ D := by omega
  exact (hg1.block k (by have := HB.out.size; have := hbl.size; show k < wc.heap.size; omega) (by simp; omega)).trans ((hup k (by omega)).trans (HB.out.block k hk2))
theorem graph_some_lt {g : List Tk} {l : List Int} {ns : List Nat} {s : Nat} (hg : graphN g = some ns) (hs : setOfN l g.length = some s) : doneN g l = if closedN ns s then some (ns, s) else none := by
 unfold doneN
 rw [hg]
 show ((setOfN l g.length).bind _) = _
 rw [hs]
 rfl
theorem doneIn_yes (A : Option Addr) (c : Nat) (g : List Tk) (A' : Option Addr) (c' : Nat) (l : List Int) (w : World) (hr : kTk.C w A g.length g) (hr' : (Kd.int .i64).C w A' l.length l) (hT : Tab w) (ns : List Nat) (s : Nat) (hd : doneN g l = some (ns, s)) :
  Calls Tryd.prog 63 #[.slice A g.length c, .slice A' l.length c'] w fun e W' => ∃ C, e = .returned (.tuple #[.pointer (some ⟨C, 0, none⟩), .int .u16 (s : Nat), .bool true]) ∧ IsGraph W' C g ns ∧ Below w.heap.size w W' := by
 unfold doneN at hd
 obtain ⟨ns', hg, hd⟩ := Option.bind_eq_some_iff.1 hd
 obtain ⟨s', hs, hd⟩ := Option.bind_eq_some_iff.1 hd
 split at hd
 ·
  rename_i hc
  cases hd
  refine (doneIn_set A c g A' c' l w hr hr' hT ns s hg hs).mono fun e W' ⟨C, h1, h2, h3⟩ => ⟨C, ?_, h2 hc, h3⟩
  rw [h1, hc]
  rfl
 ·
  cases hd
theorem doneIn_no (A : Option Addr) (c : Nat) (g : List Tk) (A' : Option Addr) (c' : Nat) (l : List Int) (w : World) (hr : kTk.C w A g.length g) (hr' : (Kd.int .i64).C w A' l.length l) (hT : Tab w) (hd : doneN g l = none) :
  Calls Tryd.prog 63 #[.slice A g.length c, .slice A' l.length c'] w fun e W' => e = .returned (.tuple #[.pointer none, .int .u16 0, .bool false]) ∧ Below w.heap.size w W' := by
 cases hg : graphN g with
 | none => exact doneIn_no1 A c g A' c' l w hr hg
 | some ns =>
  cases hs : setOfN l g.length with
  | none => exact doneIn_no2 A c g A' c' l w hr hr' hT ns hg hs
  | some s =>
   rw [graph_some_lt hg hs] at hd
   split at hd
   ·
    cases hd
   ·
    rename_i hc
    refine (doneIn_set A c g A' c' l w hr hr' hT ns s hg hs).mono fun e W' ⟨C, h1, h2, h3⟩ => ⟨?_, h3⟩
    rw [h1, Bool.eq_false_iff.2 hc]
    rfl
end Go.Proofs.YtpmfghbjkampkaaDoor

namespace Go.Proofs.YtpmfghbjkampkaaDoor
set_option linter.unusedVariables false
set_option linter.unusedSimpArgs false
def lessB (T : List Int) (a b : Nat) : Bool := if T.getD a 0 ≠ T.getD b 0 then decide (T.getD a 0 > T.getD b 0) else decide (a < b)
def leT (T : List Int) (a b : Nat) : Prop := T.getD b 0 < T.getD a 0 ∨ (T.getD a 0 = T.getD b 0 ∧ a ≤ b)
theorem less_false {T : List Int} {a b : Nat} : lessB T a b = false ↔ leT T b a := by
 unfold lessB leT
 split
 ·
  rw [decide_eq_false_iff_not]
  omega
 ·
  rw [decide_eq_false_iff_not]
  omega
theorem less_true {T : List Int} {a b : Nat} (h : lessB T a b = true) : leT T a b := by
 unfold lessB at h
 unfold leT
 split at h
 ·
  rw [decide_eq_true_eq] at h
  omega
 ·
  rw [decide_eq_true_eq] at h
  omega
theorem leT.trans {T : List Int} {a b c : Nat} (h : leT T a b) (k : leT T b c) : leT T a c := by
 unfold leT at *
 omega
theorem leT.refl (T : List Int) (a : Nat) : leT T a a := .inr ⟨rfl, Nat.le_refl _⟩
theorem leT.antisymm {T : List Int} {a b : Nat} (h : leT T a b) (k : leT T b a) : a = b := by
 unfold leT at *
 omega
def swapL (L : List Nat) (i k : Nat) : List Nat := (L.set i (L.getD k 0)).set k (L.getD i 0)
theorem length_swapL (L : List Nat) (i k : Nat) : (swapL L i k).length = L.length := by simp [swapL]
theorem getD_swap {L : List Nat} {i k : Nat} (hi : i < L.length) (hk : k < L.length) (j : Nat) : (swapL L i k).getD j 0 = if j = k then L.getD i 0 else if j = i then L.getD k 0 else L.getD j 0 := by
 unfold swapL
 simp only [List.getD_eq_getElem?_getD, List.getElem?_set, List.length_set]
 by_cases h1 : k = j
 ·
  subst h1
  simp [hk]
 ·
  have h1' : ¬ j = k := fun e => h1 e.symm
  rw [if_neg h1, if_neg h1']
  by_cases h2 : i = j
  ·
   subst h2
   simp [hi]
  ·
   have h2' : ¬ j = i := fun e => h2 e.symm
   rw [if_neg h2, if_neg h2']
theorem swapL_perm {L : List Nat} {i k : Nat} (hi : i < L.length) (hk : k < L.length) : (swapL L i k).Perm L := by
 unfold swapL
 rw [List.getD_eq_getElem?_getD, List.getD_eq_getElem?_getD, List.getElem?_eq_getElem hi, List.getElem?_eq_getElem hk]
 exact List.set_set_perm hi hk
theorem mem_swapL {L : List Nat} {i k : Nat} (hi : i < L.length) (hk : k < L.length) {x : Nat} (hx : x ∈ swapL L i k) : x ∈ L := (swapL_perm hi hk).mem_iff.1 hx
def upL (T : List Int) : Nat → List Nat → Nat → List Nat
 | 0, L, _ => L
 | c + 1, L, j => if (j - 1) / 2 = j ∨ lessB T (L.getD j 0) (L.getD ((j - 1) / 2) 0) = false then L else upL T c (swapL L ((j - 1) / 2) j) ((j - 1) / 2)
def childL (T : List Int) (L : List Nat) (i n : Nat) : Nat := if 2 * i + 2 < n ∧ lessB T (L.getD (2 * i + 2) 0) (L.getD (2 * i + 1) 0) = true then 2 * i + 2 else 2 * i + 1
def downL (T : List Int) : Nat → List Nat → Nat → Nat → List Nat
 | 0, L, _, _ => L
 | c + 1, L, i, n => if n ≤ 2 * i + 1 then L else if lessB T (L.getD (childL T L i n) 0) (L.getD i 0) = false then L else downL T c (swapL L i (childL T L i n)) (childL T L i n) n
def pushL (T : List Int) (L : List Nat) (x : Nat) : List Nat := upL T (L.length + 1) (L ++ [x]) L.length
def popL (T : List Int) (L : List Nat) : List Nat := downL T L.length (swapL L 0 (L.length - 1)) 0 (L.length - 1)
def buildL (T : List Int) (xs : List Nat) : List Nat := xs.foldl (pushL T) []
def drainL (T : List Int) : Nat → List Nat → List Nat
 | 0, _ => []
 | c + 1, L => if L.length = 0 then [] else (popL T L).getD (L.length - 1) 0 :: drainL T c ((popL T L).take (L.length - 1))
def HP (T : List Int) (L : List Nat) (n : Nat) : Prop := ∀ i, 0 < i → i < n → leT T (L.getD ((i - 1) / 2) 0) (L.getD i 0)
def UpI (T : List Int) (L : List Nat) (j : Nat) : Prop := (∀ i, 0 < i → i < L.length → i ≠ j → leT T (L.getD ((i - 1) / 2) 0) (L.getD i 0)) ∧ (0 < j → ∀ i, 0 < i → i < L.length → (i - 1) / 2 = j → leT T (L.getD ((j - 1) / 2) 0) (L.getD i 0))
def DownI (T : List Int) (L : List Nat) (i n : Nat) : Prop := (∀ k, 0 < k → k < n → (k - 1) / 2 ≠ i → leT T (L.getD ((k - 1) / 2) 0) (L.getD k 0)) ∧ (0 < i → ∀ k, 0 < k → k < n → (k - 1) / 2 = i → leT T (L.getD ((i - 1) / 2) 0) (L.getD k 0))
theorem up_heap (T : List Int) : ∀ (c : Nat) (L : List Nat) (j : Nat), j < c → j < L.length → UpI T L j → HP T (upL T c L j) L.length ∧ (upL T c L j).Perm L
 | 0, L, j, hc, _, _ => absurd hc (Nat.not_lt_zero _)
 | c + 1, L, j, hc, hj, hU => by
  unfold upL
  split
  ·
   rename_i h
   refine ⟨fun i h0 h1 => ?_, List.Perm.refl _⟩
   by_cases he : i = j
   ·
    subst he
    rcases h with h | h
    ·
     omega
    ·
     exact less_false.1 h
   ·
    exact hU.1 i h0 h1 he
  ·
   rename_i h
   have h1 : ¬ (j - 1) / 2 = j := fun e => h (.inl e)
   have h2 : lessB T (L.getD j 0) (L.getD ((j - 1) / 2) 0) = true := by
    cases hb : lessB T (L.getD j 0) (L.getD ((j - 1) / 2) 0) with
    | true => rfl
    | false => exact absurd (.inr hb) h
   have hx := less_true h2
   generalize hp : (j - 1) / 2 = p at *
   have hpj : p < j := by omega
   have hpl : p < L.length := by omega
   have hg := getD_swap hpl hj
   have ih := up_heap T c (swapL L p j) p (by omega) (by rw [length_swapL]; exact hpl) ⟨fun i i0 i1 i2 => ?_, fun p0 i i0 i1 i2 => ?_⟩
   ·
    rw [length_swapL] at ih
    exact ⟨ih.1, ih.2.trans (swapL_perm hpl hj)⟩
   ·
    rw [length_swapL] at i1
    rw [hg, hg]
    by_cases e1 : i = j
    ·
     subst e1
     rw [if_pos rfl, hp, if_neg (by omega), if_pos rfl]
     exact hx
    ·
     rw [if_neg e1, if_neg i2]
     by_cases e2 : (i - 1) / 2 = j
     ·
      rw [if_pos e2]
      have := hU.2 (by omega) i i0 i1 e2
      rwa [hp] at this
     ·
      rw [if_neg e2]
      by_cases e3 : (i - 1) / 2 = p
      ·
       rw [if_pos e3]
       have := hU.1 i i0 i1 e1
       rw [e3] at this
       exact hx.trans this
      ·
       rw [if_neg e3]
       exact hU.1 i i0 i1 e1
   ·
    rw [length_swapL] at i1
    have h3 := hU.1 p p0 hpl (by omega)
    rw [hg, hg, if_neg (by omega), if_neg (by omega)]
    by_cases e1 : i = j
    ·
     rw [if_pos e1]
     exact h3
    ·
     rw [if_neg e1, if_neg (by omega)]
     have := hU.1 i i0 i1 e1
     rw [i2] at this
     exact h3.trans this
theorem down_heap (T : List Int) : ∀ (c : Nat) (L : List Nat) (i n : Nat), n ≤ i + c → n ≤ L.length → i < L.length → DownI T L i n → HP T (downL T c L i n) n ∧ (downL T c L i n).Perm L ∧ (∀ k, n ≤ k → i < k → (downL T c L i n).getD k 0 = L.getD k 0) ∧ (downL T c L i n).length = L.length
 | 0, L, i, n, hc, hn, hi, hD => ⟨fun k h0 h1 => hD.1 k h0 h1 (by omega), List.Perm.refl _, fun _ _ _ => rfl, rfl⟩
 | c + 1, L, i, n, hc, hn, hi, hD => by
  unfold downL
  split
  ·
   exact ⟨fun k h0 h1 => hD.1 k h0 h1 (by omega), List.Perm.refl _, fun _ _ _ => rfl, rfl⟩
  ·
   rename_i hn1
   have hch : (childL T L i n = 2 * i + 1 ∨ childL T L i n = 2 * i + 2) ∧ childL T L i n < n ∧ ∀ k, 0 < k → k < n → (k - 1) / 2 = i → leT T (L.getD (childL T L i n) 0) (L.getD k 0) := by
    unfold childL
    split
    ·
     rename_i h
     refine ⟨.inr rfl, h.1, fun k k0 k1 k2 => ?_⟩
     have : k = 2 * i + 1 ∨ k = 2 * i + 2 := by omega
     rcases this with rfl | rfl
     ·
      exact less_true h.2
     ·
      exact leT.refl _ _
    ·
     rename_i h
     refine ⟨.inl rfl, by omega, fun k k0 k1 k2 => ?_⟩
     have : k = 2 * i + 1 ∨ k = 2 * i + 2 := by omega
     rcases this with rfl | rfl
     ·
      exact leT.refl _ _
     ·
      refine less_false.1 ?_
      cases hb : lessB T (L.getD (2 * i + 2) 0) (L.getD (2 * i + 1) 0) with
      | false => rfl
      | true => exact absurd ⟨k1, hb⟩ h
   generalize childL T L i n = j at hch ⊢
   obtain ⟨hj, hjn, hmin⟩ := hch
   split
   ·
    rename_i h
    have hle := less_false.1 h
    refine ⟨fun k k0 k1 => ?_, List.Perm.refl _, fun _ _ _ => rfl, rfl⟩
    by_cases e : (k - 1) / 2 = i
    ·
     rw [e]
     exact hle.trans (hmin k k0 k1 e)
    ·
     exact hD.1 k k0 k1 e
   ·
    rename_i h
    have hx : leT T (L.getD j 0) (L.getD i 0) := less_true (by
     cases hb : lessB T (L.getD j 0) (L.getD i 0) with
     | true => rfl
     | false => exact absurd hb h)
    have hjl : j < L.length := by omega
    have hg := getD_swap hi hjl
    have ih := down_heap T c (swapL L i j) j n (by omega) (by rw [length_swapL]; exact hn) (by rw [length_swapL]; exact hjl) ⟨fun k k0 k1 k2 => ?_, fun _ k k0 k1 k2 => ?_⟩
    ·
     refine ⟨ih.1, ih.2.1.trans (swapL_perm hi hjl), fun k k1 k2 => ?_, by rw [ih.2.2.2, length_swapL]⟩
     rw [ih.2.2.1 k k1 (by omega), hg, if_neg (by omega), if_neg (by omega)]
    ·
     rw [hg, hg]
     rw [if_neg k2]
     by_cases e1 : k = j
     ·
      have e2 : (k - 1) / 2 = i := by omega
      rw [if_pos e1, if_pos e2]
      exact hx
     ·
      rw [if_neg e1]
      by_cases e2 : (k - 1) / 2 = i
      ·
       rw [if_pos e2, if_neg (by omega)]
       exact hmin k k0 k1 e2
      ·
       rw [if_neg e2]
       by_cases e3 : k = i
       ·
        subst e3
        rw [if_pos rfl]
        exact hD.2 (by omega) j (by omega) hjn (by omega)
       ·
        rw [if_neg e3]
        exact hD.1 k k0 k1 e2
    ·
     have e : (j - 1) / 2 = i := by omega
     rw [hg, hg, e, if_neg (by omega), if_pos rfl, if_neg (by omega), if_neg (by omega)]
     have := hD.1 k k0 k1 (by omega)
     rwa [k2] at this
theorem push_heap {T : List Int} {L : List Nat} (h : HP T L L.length) (x : Nat) : HP T (pushL T L x) (L.length + 1) ∧ (pushL T L x).Perm (L ++ [x]) ∧ (pushL T L x).length = L.length + 1 := by
 unfold pushL
 have hlen : (L ++ [x]).length = L.length + 1 := by simp
 have hu := up_heap T (L.length + 1) (L ++ [x]) L.length (by omega) (by omega) ⟨fun i i0 i1 i2 => ?_, fun _ i i0 i1 i2 => by omega⟩
 ·
  rw [hlen] at hu
  exact ⟨hu.1, hu.2, hu.2.length_eq.trans hlen⟩
 ·
  have hi : i < L.length := by omega
  have := h i i0 hi
  simp only [List.getD_eq_getElem?_getD] at this ⊢
  rwa [List.getElem?_append_left (by omega), List.getElem?_append_left hi]
theorem build_heap {T : List Int} : ∀ (xs L : List Nat), HP T L L.length → HP T (xs.foldl (pushL T) L) (xs.foldl (pushL T) L).length ∧ (xs.foldl (pushL T) L).Perm (L ++ xs)
 | [], L, h => ⟨h, by simp⟩
 | x :: xs, L, h => by
  obtain ⟨p1, p2, p3⟩ := push_heap h x
  obtain ⟨q1, q2⟩ := build_heap xs (pushL T L x) (by rw [p3]; exact p1)
  refine ⟨q1, q2.trans ?_⟩
  have := p2.append_right xs
  simpa using this
theorem heap_min {T : List Int} {L : List Nat} {n : Nat} (h : HP T L n) : ∀ (m i : Nat), i ≤ m → i < n → leT T (L.getD 0 0) (L.getD i 0)
 | 0, i, h0, _ => by
  obtain rfl : i = 0 := by omega
  exact leT.refl _ _
 | m + 1, i, h0, h1 => by
  by_cases e : i = 0
  ·
   subst e
   exact leT.refl _ _
  ·
   exact (heap_min h m ((i - 1) / 2) (by omega) (by omega)).trans (h i (by omega) h1)
theorem pop_heap {T : List Int} {L : List Nat} (hL : 0 < L.length) (h : HP T L L.length) :
  (popL T L).length = L.length ∧ (popL T L).getD (L.length - 1) 0 = L.getD 0 0 ∧ HP T ((popL T L).take (L.length - 1)) (L.length - 1) ∧ L.Perm (L.getD 0 0 :: (popL T L).take (L.length - 1)) := by
 unfold popL
 have hn : L.length - 1 < L.length := by omega
 have hg := getD_swap hL hn
 have hd := down_heap T L.length (swapL L 0 (L.length - 1)) 0 (L.length - 1) (by omega) (by rw [length_swapL]; omega) (by rw [length_swapL]; exact hL) ⟨fun k k0 k1 k2 => ?_, fun h0 => absurd h0 (Nat.lt_irrefl _)⟩
 ·
  obtain ⟨d1, d2, d3, d4⟩ := hd
  rw [length_swapL] at d4
  generalize downL T L.length (swapL L 0 (L.length - 1)) 0 (L.length - 1) = M at *
  have hlast : M.getD (L.length - 1) 0 = L.getD 0 0 := by
   by_cases e : 0 < L.length - 1
   ·
    rw [d3 _ (Nat.le_refl _) e, hg, if_pos rfl]
   ·
    have e1 : L.length = 1 := by omega
    have p := d2.trans (swapL_perm hL hn)
    match L, M, e1, d4, p with
    | [a], [b], _, _, p =>
     have := List.singleton_perm_singleton.1 p
     simp [this]
  refine ⟨d4, hlast, fun i i0 i1 => ?_, ?_⟩
  ·
   have := d1 i i0 i1
   simp only [List.getD_eq_getElem?_getD] at this ⊢
   rwa [List.getElem?_take_of_lt (by omega), List.getElem?_take_of_lt i1]
  ·
   have hm : M = M.take (L.length - 1) ++ [M.getD (L.length - 1) 0] := by
    conv => lhs; rw [← List.take_append_drop (L.length - 1) M]
    congr 1
    rw [List.drop_eq_getElem_cons (by omega), List.drop_eq_nil_of_le (by omega), List.getD_eq_getElem?_getD, List.getElem?_eq_getElem (by omega)]
    rfl
   have p := (d2.trans (swapL_perm hL hn)).symm
   rw [hm, hlast] at p
   exact p.trans List.perm_append_comm
 ·
  rw [hg, hg, if_neg (by omega), if_neg k2, if_neg (by omega), if_neg (by omega)]
  exact h k k0 (by omega)
theorem drain_sorted {T : List Int} : ∀ (c : Nat) (L : List Nat), L.length ≤ c → HP T L L.length → (drainL T c L).Pairwise (leT T) ∧ (drainL T c L).Perm L
 | 0, L, hc, _ => by
  obtain rfl : L = [] := List.eq_nil_of_length_eq_zero (by omega)
  exact ⟨List.Pairwise.nil, List.Perm.refl _⟩
 | c + 1, L, hc, h => by
  unfold drainL
  split
  ·
   rename_i h0
   obtain rfl := List.eq_nil_of_length_eq_zero h0
   exact ⟨List.Pairwise.nil, List.Perm.refl _⟩
  ·
   rename_i h0
   obtain ⟨p1, p2, p3, p4⟩ := pop_heap (by omega) h
   have hl : ((popL T L).take (L.length - 1)).length = L.length - 1 := by rw [List.length_take]; omega
   obtain ⟨q1, q2⟩ := drain_sorted c ((popL T L).take (L.length - 1)) (by omega) (by rw [hl]; exact p3)
   rw [p2]
   refine ⟨List.pairwise_cons.2 ⟨fun x hx => ?_, q1⟩, (q2.cons _).trans p4.symm⟩
   have hx2 : x ∈ L := p4.mem_iff.2 (List.mem_cons_of_mem _ (q2.mem_iff.1 hx))
   obtain ⟨i, hi, rfl⟩ := List.getElem_of_mem hx2
   have := heap_min h i i (Nat.le_refl _) hi
   rwa [List.getD_eq_getElem?_getD (i := i), List.getElem?_eq_getElem hi] at this
def rankL (T : List Int) (xs : List Nat) : List Nat := drainL T (buildL T xs).length (buildL T xs)
theorem rank_sorted (T : List Int) (xs : List Nat) : (rankL T xs).Pairwise (leT T) ∧ (rankL T xs).Perm xs := by
 obtain ⟨b1, b2⟩ := build_heap (T := T) xs [] (fun i _ h => absurd h (Nat.not_lt_zero _))
 obtain ⟨d1, d2⟩ := drain_sorted _ (buildL T xs) (Nat.le_refl _) b1
 exact ⟨d1, d2.trans (show (buildL T xs).Perm xs from b2)⟩
theorem rank_unique {T : List Int} {l m : List Nat} (hl : l.Pairwise (leT T)) (hm : m.Pairwise (leT T)) (h : l.Perm m) : l = m := h.eq_of_pairwise (fun _ _ _ _ => leT.antisymm) hl hm
end Go.Proofs.YtpmfghbjkampkaaDoor

namespace Go.Proofs.YtpmfghbjkampkaaDoor
set_option linter.unusedVariables false
set_option linter.unusedSimpArgs false
open Go.RowKit Go.Shelf Bits
open Go.Proofs.YtpmfghbjkampkaaDoorW.PrintWords Go.Proofs.YtpmfghbjkampkaaDoorW.PrintLast Go.Proofs.YtpmfghbjkampkaaDoorW.PrintMore
def RankAt (W : World) (h : Nat) (B : Option Nat) (T : List Int) (L : List Nat) : Prop :=
 ∃ At ct v, W.heap[h]? = some (.cells #[.slice At T.length ct, v] 121 (0, 0)) ∧ (Kd.int .i64).C W At T.length T ∧ (∀ ad, At = some ad → 0 < T.length → ad.block < h) ∧
  Kd.R (Kd.int .i64) 3 W (h + 1) (fun _ => True) v (ints L) ∧ v.ownBlock = B
theorem RankAt.move {w w' : World} {h : Nat} {B : Option Nat} {T : List Int} {L : List Nat} (hR : RankAt w h B T L) (hm : ∀ k, k < w.heap.size → k ≤ h ∨ some k = B → w'.heap[k]? = w.heap[k]?) : RankAt w' h B T L := by
 obtain ⟨At, ct, v, h1, h3, h4, h5, h6⟩ := hR
 refine ⟨At, ct, v, (hm h (blk_lt h1) (.inl (Nat.le_refl _))).trans h1, C_block h3 fun ad e hn => hm _ ?_ (.inl (Nat.le_of_lt (h4 ad e hn))), h4, Kd.R_mono (Kd.R_step (Kd.R_tight rfl h5) fun k hk hlt => hm k hlt (.inr (hk.trans h6))) (fun _ _ => trivial), h6⟩
 exact Nat.lt_trans (h4 ad e hn) (blk_lt h1)
theorem RankAt.drewN {W : World} {h : Nat} {B : Option Nat} {T : List Int} {L : List Nat} (hR : RankAt W h B T L) (q : Nat) : RankAt (W.drewN q) h B T L := hR.move fun _ _ _ => rfl
theorem RankAt.below {w w' : World} {h : Nat} {B : Option Nat} {T : List Int} {L : List Nat} (hR : RankAt w h B T L) (hb : Below w.heap.size w w') : RankAt w' h B T L := hR.move fun k hk _ => hb.block k hk
theorem RankAt.lt {w : World} {h : Nat} {B : Option Nat} {T : List Int} {L : List Nat} (hR : RankAt w h B T L) : h < w.heap.size := by
 obtain ⟨At, ct, v, h1, _⟩ := hR
 exact blk_lt h1
theorem rd_ints (L : List Nat) (i : Nat) : rdOf (0 : Int) (ints L) (i : Int) = ((L.getD i 0 : Nat) : Int) := by
 unfold rdOf
 rw [Int.toNat_natCast, ints_getD]
theorem drew3 (w : World) (a b c : Nat) : ∃ q, ((w.drewN a).drewN b).drewN c = w.drewN q := ⟨a + b + c, by rw [World.drewN_drewN, World.drewN_drewN, Nat.add_assoc]⟩
set_option maxRecDepth 1000000 in
set_option maxHeartbeats 2000000 in
theorem Less_calls (h : Nat) (B : Option Nat) (T : List Int) (L : List Nat) (i k : Nat) (hi : i < L.length) (hk : k < L.length) (hT : ∀ x ∈ L, x < T.length) (w : World) (hR : RankAt w h B T L) :
  Calls Tryd.prog 141 #[.pointer (some ⟨h, 0, none⟩), .int .i64 i, .int .i64 k] w fun e w' => e = .returned (.bool (lessB T (L.getD i 0) (L.getD k 0))) ∧ ∃ q, w' = w.drewN q := by
 obtain ⟨At, ct, v, hB, hCT, hAT, hRL, hvB⟩ := hR
 obtain ⟨b, cap, rfl, _, _, _⟩ := Kd.R_form hRL (by rw [ints_length]; omega)
 have ci := (Kd.R_cell (0 : Int) hRL i (by omega) (by rw [ints_length]; omega)).1
 have ck := (Kd.R_cell (0 : Int) hRL k (by omega) (by rw [ints_length]; omega)).1
 rw [rd_ints, Int.toNat_natCast] at ci ck
 have hl := ints_length L
 have h0 := blk_cell hB 0
 have h1 := blk_cell hB 1
 simp at h0 h1
 have ha : L.getD i 0 < T.length := hT _ (by rw [List.getD_eq_getElem?_getD, List.getElem?_eq_getElem hi]; exact List.getElem_mem _)
 have hb : L.getD k 0 < T.length := hT _ (by rw [List.getD_eq_getElem?_getD, List.getElem?_eq_getElem hk]; exact List.getElem_mem _)
 have HE : Hid (∀ a b, lessB T a b = if T.getD a 0 ≠ T.getD b 0 then decide (T.getD a 0 > T.getD b 0) else decide (a < b)) := Lib.hid fun _ _ => rfl
 generalize L.getD i 0 = x at ci ha ⊢
 generalize L.getD k 0 = y at ck hb ⊢
 obtain ⟨ad, rfl, cx⟩ := at_num hCT x ha
 obtain ⟨ad', e', cy⟩ := at_num hCT y hb
 obtain rfl : ad = ad' := Option.some.inj e'
 have HE2 := Lib.hid (HE.out x y)
 generalize T.getD x 0 = p at cx HE2
 generalize T.getD y 0 = q at cy HE2
 rw [hl] at h1
 generalize L.length = n at hi hk h1
 generalize T.length = m at ha hb h0
 have hi' : (i : Int) < n := by omega
 have hk' : (k : Int) < n := by omega
 have hx' : (x : Int) < m := by omega
 have hy' : (y : Int) < m := by omega
 generalize lessB T x y = r at HE2 ⊢
 clear hB hCT hAT hRL hvB hT hl HE e' hi hk ha hb
 by_cases hpq : p = q
 ·
  have hd : (p != q) = false := by rw [hpq]; simp
  have HR2 : Hid (decide (x < y) = r) := Lib.hid (by rw [HE2.out, if_neg (by simp [hpq])])
  clear HE2 hpq
  go_enter Tryd.func141, Tryd.ntmps141
  go_wp2
  go_quiet (fail)
  go_wp2
  go_quiet (fail)
  go_wp2
  go_ret
  exact ⟨ret_bool HR2.out, _, rfl⟩
 ·
  have hd : (p != q) = true := by simp [hpq]
  have HR2 : Hid (decide (p > q) = r) := Lib.hid (by rw [HE2.out, if_pos hpq])
  clear HE2 hpq
  go_enter Tryd.func141, Tryd.ntmps141
  go_wp2
  go_quiet (fail)
  go_wp2
  go_quiet (fail)
  go_wp2
  go_quiet (fail)
  go_wp2
  go_ret
  exact ⟨ret_bool HR2.out, drew3 _ _ _ _⟩
theorem ints_set (L : List Nat) (i x : Nat) : ints (L.set i x) = (ints L).set i (x : Int) := by simp [ints, List.map_set]
set_option maxRecDepth 1000000 in
set_option maxHeartbeats 4000000 in
theorem Swap_cells (h b cap n : Nat) (vt : Value) (x y : Int) (i k : Nat) (hi : i < n) (hk : k < n) (w : World) (hB : w.heap[h]? = some (.cells #[vt, .slice (some ⟨b, 0, none⟩) n cap] 121 (0, 0)))
  (ci : w.cell? ⟨b, i, none⟩ = some (.int .i64 x)) (ck : w.cell? ⟨b, k, none⟩ = some (.int .i64 y)) (fi : w.frozen? ⟨b, i, none⟩ = false) (fk : w.frozen? ⟨b, k, none⟩ = false) (hhb : h ≠ b) :
  Calls Tryd.prog 144 #[.pointer (some ⟨h, 0, none⟩), .int .i64 i, .int .i64 k] w fun e w' => e = .returned (.tuple #[]) ∧ ∃ q, w' = ((w.setCell ⟨b, i, none⟩ (.int .i64 y)).setCell ⟨b, k, none⟩ (.int .i64 x)).drewN q := by
 obtain ⟨v', hy'⟩ := cell?_setCell_some (w := w) (p := ⟨b, i, none⟩) (x := .int .i64 y) (q := ⟨b, k, none⟩) ck
 have h1 := blk_cell hB 1
 simp at h1
 have hi' : (i : Int) < n := by omega
 have hk' : (k : Int) < n := by omega
 clear hB hi hk
 go_enter Tryd.func144, Tryd.ntmps144
 go_wp2
 go_region
 all_goals (try go_wp2)
 all_goals go_end0
 all_goals exact ⟨rfl, 1, rfl⟩
theorem Swap_calls (h : Nat) (B : Option Nat) (T : List Int) (L : List Nat) (i k : Nat) (hi : i < L.length) (hk : k < L.length) (w : World) (hR : RankAt w h B T L) :
  Calls Tryd.prog 144 #[.pointer (some ⟨h, 0, none⟩), .int .i64 i, .int .i64 k] w fun e w' => e = .returned (.tuple #[]) ∧ RankAt w' h B T (swapL L i k) ∧ KeepBut w w' h B ∧ Below h w w' := by
 obtain ⟨At, ct, v, hB, hCT, hAT, hRL, hvB⟩ := hR
 have hl := ints_length L
 obtain ⟨b, cap, rfl, hb1, hb2, _⟩ := Kd.R_form hRL (by omega)
 obtain ⟨ci, fi⟩ := Kd.R_cell (0 : Int) hRL i (by omega) (by omega)
 obtain ⟨ck, fk⟩ := Kd.R_cell (0 : Int) hRL k (by omega) (by omega)
 rw [rd_ints, Int.toNat_natCast] at ci ck
 rw [Int.toNat_natCast] at fi fk
 have hbB : B = some b := by rw [← hvB]; simp [Value.ownBlock]
 have hhb : h ≠ b := by omega
 refine (Swap_cells h b cap (ints L).length _ _ _ i k (by omega) (by omega) w hB ci ck fi fk hhb).mono ?_
 rintro e w' ⟨rfl, q, rfl⟩
 obtain ⟨p1, g1⟩ := Kd.R_put hRL (i : Int) ((L.getD k 0 : Nat) : Int)
 rw [Int.toNat_natCast] at p1 g1
 have e1 : (ints L).length = ((ints L).set i ((L.getD k 0 : Nat) : Int)).length := by simp
 rw [e1] at p1
 obtain ⟨p2, g2⟩ := Kd.R_put p1 (k : Int) ((L.getD i 0 : Nat) : Int)
 rw [Int.toNat_natCast] at p2 g2
 refine ⟨rfl, ⟨At, ct, _, blk_far (blk_far hB hhb _) hhb _, C_block hCT fun ad e hn => ?_, hAT, ?_, hvB⟩, ?_, ?_⟩
 ·
  have := hAT ad e hn
  exact (Below.heap_setCell _ _ _ _ (by simp; omega)).trans (Below.heap_setCell _ _ _ _ (by simp; omega))
 ·
  unfold swapL
  rw [ints_set, ints_set]
  rw [← e1] at p2
  exact Kd.R_drewN p2 q
 ·
  rw [hbB]
  exact (KeepBut.of_grown g1 h).trans (KeepBut.of_grown g2 h) (.inl rfl)
 ·
  exact pw_below_drewN (((Below.refl h w).setCell (p := ⟨b, i, none⟩) (by simp; omega) _).setCell (p := ⟨b, k, none⟩) (by simp; omega) _) q
theorem mLess (h : Nat) : ∀ w, Sem.run Tryd.prog (method 265 119 (.pointer (some ⟨h, 0, none⟩)) "Less") w = .ok (141, .pointer (some ⟨h, 0, none⟩)) w := fun _ => by kernel_rfl
theorem mSwap (h : Nat) : ∀ w, Sem.run Tryd.prog (method 265 119 (.pointer (some ⟨h, 0, none⟩)) "Swap") w = .ok (144, .pointer (some ⟨h, 0, none⟩)) w := fun _ => by kernel_rfl
set_option maxRecDepth 1000000 in
set_option maxHeartbeats 4000000 in
theorem up_calls (h : Nat) (B : Option Nat) (T : List Int) (L : List Nat) (j : Nat) (hj : j < L.length) (h16 : L.length ≤ 1000) (hT : ∀ x ∈ L, x < T.length) (w : World) (hR : RankAt w h B T L) :
  Calls Tryd.prog 118 #[.iface 119 (.pointer (some ⟨h, 0, none⟩)), .int .i64 j] w fun e w' => e = .returned (.tuple #[]) ∧ RankAt w' h B T (upL T (j + 1) L j) ∧ KeepBut w w' h B ∧ Below h w w' := by
 have mL := mLess h
 have mS := mSwap h
 have HT := Lib.hid hT
 have HJ := Lib.hid hj
 have HRR := Lib.hid hR
 clear hR hT hj
 go_enter Tryd.func118, Tryd.ntmps118
 go_wp2
 go_loopw [1] (fun v wr => ∃ (i c : Nat) (M : List Nat), v = .int .i64 i ∧ i < c ∧ i < M.length ∧ Hid (M.length = L.length ∧ (∀ x ∈ M, x < T.length) ∧ upL T c M i = upL T (j + 1) L j ∧ RankAt wr h B T M ∧ KeepBut w wr h B ∧ Below h w wr)) (fun v _ => (intOf v).toNat)
 case atStart => exact ⟨j, j + 1, L, rfl, by omega, HJ.out, Lib.hid ⟨rfl, HT.out, rfl, HRR.out, KeepBut.refl _ _ _, Below.refl _ _⟩⟩
 case round =>
  obtain ⟨i, c, M, rfl, hic, hiM, HX⟩ := hrel
  obtain ⟨c, rfl⟩ : ∃ c', c = c' + 1 := ⟨c - 1, by omega⟩
  have hM := HX.out.1
  have hq : ((i : Int) - 1).tdiv 2 = (((i - 1) / 2 : Nat) : Int) := by
   cases i with
   | zero => rfl
   | succ n =>
    rw [show ((n + 1 : Nat) : Int) - 1 = ((n : Nat) : Int) by omega]
    rfl
  by_cases h0 : (i - 1) / 2 = i
  ·
   obtain rfl : i = 0 := by omega
   go_wp2
   go_end0
   have hE : upL T (c + 1) M 0 = M := by unfold upL; rw [if_pos (.inl rfl)]
   obtain ⟨_, _, e, hR, hK, hB⟩ := HX.out
   rw [← e, hE]
   exact ⟨rfl, hR, hK, hB⟩
  ·
   have hi0 : 0 < i := by omega
   have hpi : (i - 1) / 2 < i := by omega
   have hne : ((((i - 1) / 2 : Nat) : Int) == (i : Int)) = false := by rw [beq_eq_false_iff_ne]; omega
   generalize hp : (i - 1) / 2 = p at *
   have HLess := Lib.hid (fun (W : World) (hW : RankAt W h B T M) => Less_calls h B T M i p hiM (by omega) HX.out.2.1 W hW)
   cases hl : lessB T (M.getD i 0) (M.getD p 0) with
   | false =>
    rw [hl] at HLess
    go_wp2_with (go_at_call 141; refine (HLess.out _ HX.out.2.2.2.1).mono ?_; rintro e w' ⟨rfl, q, rfl⟩)
    go_end0
    have hE : upL T (c + 1) M i = M := by unfold upL; rw [hp, if_pos (.inr hl)]
    obtain ⟨_, _, e, hR, hK, hB⟩ := HX.out
    rw [← e, hE]
    exact ⟨rfl, hR.drewN _, keep_drewN hK _, pw_below_drewN hB _⟩
   | true =>
    rw [hl] at HLess
    have HSwap := Lib.hid (fun (W : World) (hW : RankAt W h B T M) => Swap_calls h B T M p i (by omega) hiM W hW)
    have hE : upL T (c + 1) M i = upL T c (swapL M p i) p := by
     conv => lhs; unfold upL
     rw [hp, hl, if_neg (fun h => h.elim (fun h => absurd h (by omega)) (fun h => by cases h))]
    have HE := Lib.hid hE
    clear hE hl
    go_wp2_with (first | (go_at_call 141; refine (HLess.out _ HX.out.2.2.2.1).mono ?_; rintro e w' ⟨rfl, q, rfl⟩) | (go_at_call 144; refine (HSwap.out _ (HX.out.2.2.2.1.drewN q)).mono ?_; rintro e w2 ⟨rfl, hR2, hK2, hB2⟩))
    go_roundw
    case rel =>
     obtain ⟨x1, x2, x3, x4, x5, x6⟩ := HX.out
     exact ⟨p, c, swapL M p i, rfl, by omega, by rw [length_swapL]; omega, Lib.hid ⟨by rw [length_swapL]; exact x1, fun x hx => x2 x (mem_swapL (by omega) hiM hx), by rw [← x3, HE.out], hR2, (keep_drewN x5 q).trans hK2 (.inl rfl), (pw_below_drewN x6 q).trans hB2⟩⟩
    case measure => simp [intOf]; omega
end Go.Proofs.YtpmfghbjkampkaaDoor
