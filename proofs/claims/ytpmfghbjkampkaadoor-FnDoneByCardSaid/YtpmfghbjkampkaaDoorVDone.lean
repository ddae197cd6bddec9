/- impl doneIn: the graph and the set of valid done tasks. -/
import Derived.Test.YtpmfghbjkampkaaDoorMach
namespace Go.Proofs.YtpmfghbjkampkaaDoor
set_option linter.unusedVariables false
set_option linter.unusedSimpArgs false
open Go.RowKit Go.Shelf Bits
open Go.Proofs.YtpmfghbjkampkaaDoorW.PrintWords Go.Proofs.YtpmfghbjkampkaaDoorW.PrintLast Go.Proofs.YtpmfghbjkampkaaDoorW.PrintMore
attribute [local go_sem] Oper.semAt_some
def needsIn (ns : List Nat) (s i : Nat) : Bool := decide (diff (ns.getD i 0) s = 0)
def closedN (ns : List Nat) (s : Nat) : Bool := (elems s).all (needsIn ns s)
def doneN (g : List Tk) (l : List Int) : Option (List Nat × Nat) := (graphN g).bind fun ns => (setOfN l g.length).bind fun s => if closedN ns s then some (ns, s) else none
def doneRet (C s : Nat) : Bool → Value
 | true => .tuple #[.pointer (some ⟨C, 0, none⟩), .int .u16 (s : Nat), .bool true]
 | false => .tuple #[.pointer none, .int .u16 0, .bool false]
theorem below3 (w : World) (o1 o2 o3 : Obj) : Below w.heap.size w (((w.alloc o1).alloc o2).alloc o3) := (((Below.refl _ w).alloc (Nat.le_refl _) _).alloc (by simp) _).alloc (by simp; omega) _
theorem doneRes {tmps : Array Value} {a b c : Nat} {x y z : Value} {w : World} (h4 : tmps.getD 4 undef = .pointer (some ⟨a, 0, none⟩)) (h5 : tmps.getD 5 undef = .pointer (some ⟨b, 0, none⟩)) (h6 : tmps.getD 6 undef = .pointer (some ⟨c, 0, none⟩))
  (hx : w.cell? ⟨a, 0, none⟩ = some x) (hy : w.cell? ⟨b, 0, none⟩ = some y) (hz : w.cell? ⟨c, 0, none⟩ = some z) : (results Tryd.f63 tmps).run Tryd.prog w = .ok (.tuple #[x, y, z]) w := by
 have h4' : tmps[4]?.getD undef = .pointer (some ⟨a, 0, none⟩) := by simpa using h4
 have h5' : tmps[5]?.getD undef = .pointer (some ⟨b, 0, none⟩) := by simpa using h5
 have h6' : tmps[6]?.getD undef = .pointer (some ⟨c, 0, none⟩) := by simpa using h6
 simp [results, Tryd.f63, go_sem, asAddr, h4', h5', h6', hx, hy, hz]
theorem three_sets {W : World} {B : Nat} {t4 t5 t6 : TypeId} {v4 v5 v6 : Value} (b4 : Boxed W B t4 v4) (b5 : Boxed W (B + 1) t5 v5) (b6 : Boxed W (B + 1 + 1) t6 v6) (x y z : Value) :
  ∃ W', ((W.setCell ⟨B, 0, none⟩ x).setCell ⟨B + 1, 0, none⟩ y).setCell ⟨B + 1 + 1, 0, none⟩ z = W' ∧ Boxed W' B t4 x ∧ Boxed W' (B + 1) t5 y ∧ Boxed W' (B + 1 + 1) t6 z ∧ KeepsOthers W W' ∧ Below B W W' ∧ ∀ k, B + 1 + 1 < k → W'.heap[k]? = W.heap[k]? :=
 ⟨_, rfl, blk_far (blk_far (b4.set x) (by simp) _) (by simp; omega) _, blk_far ((show Boxed (W.setCell ⟨B, 0, none⟩ x) _ _ _ from blk_far b5 (by simp) _).set y) (by simp) _,
  (show Boxed ((W.setCell ⟨B, 0, none⟩ x).setCell ⟨B + 1, 0, none⟩ y) _ _ _ from blk_far (blk_far b6 (by simp; omega) _) (by simp) _).set z,
  ((KeepsOthers.setCell _ _ _).trans (KeepsOthers.setCell _ _ _)).trans (KeepsOthers.setCell _ _ _),
  (((Below.refl _ W).setCell (p := ⟨B, 0, none⟩) (by simp) _).setCell (p := ⟨B + 1, 0, none⟩) (by simp) _).setCell (p := ⟨B + 1 + 1, 0, none⟩) (by simp; omega) _,
  fun k hk => (Below.heap_setCell _ _ _ _ (by simp; omega)).trans ((Below.heap_setCell _ _ _ _ (by simp; omega)).trans (Below.heap_setCell _ _ _ _ (by simp; omega)))⟩
def Three (W : World) (B : Nat) : Prop := (∃ x, W.cell? ⟨B, 0, none⟩ = some x) ∧ (∃ x, W.cell? ⟨B + 1, 0, none⟩ = some x) ∧ (∃ x, W.cell? ⟨B + 1 + 1, 0, none⟩ = some x) ∧ W.frozen? ⟨B, 0, none⟩ = false ∧ W.frozen? ⟨B + 1, 0, none⟩ = false ∧ W.frozen? ⟨B + 1 + 1, 0, none⟩ = false
theorem three_facts {W : World} {B : Nat} {t4 t5 t6 : TypeId} {v4 v5 v6 : Value} (b4 : Boxed W B t4 v4) (b5 : Boxed W (B + 1) t5 v5) (b6 : Boxed W (B + 1 + 1) t6 v6) : Three W B := ⟨⟨_, b4.cell⟩, ⟨_, b5.cell⟩, ⟨_, b6.cell⟩, b4.frozen, b5.frozen, b6.frozen⟩
structure P3 (W0 : World) (B : Nat) (t4 t5 t6 : TypeId) (x y z : Value) (W : World) : Prop where
 b4 : Boxed W B t4 x
 b5 : Boxed W (B + 1) t5 y
 b6 : Boxed W (B + 1 + 1) t6 z
 below : Below B W0 W
 up : ∀ k, B + 1 + 1 < k → W.heap[k]? = W0.heap[k]?
section
variable {W0 W : World} {B : Nat} {t4 t5 t6 : TypeId} {x y z v : Value}
theorem P3.set4 (h : P3 W0 B t4 t5 t6 v y z W) : P3 W0 B t4 t5 t6 x y z (W.setCell ⟨B, 0, none⟩ x) :=
 ⟨h.b4.set x, blk_far h.b5 (by simp) _, blk_far h.b6 (by simp; omega) _, h.below.setCell (p := ⟨B, 0, none⟩) (by simp) _, fun k hk => (Below.heap_setCell _ _ _ _ (by simp; omega)).trans (h.up k hk)⟩
theorem P3.set5 (h : P3 W0 B t4 t5 t6 x v z W) : P3 W0 B t4 t5 t6 x y z (W.setCell ⟨B + 1, 0, none⟩ y) :=
 ⟨blk_far h.b4 (by simp) _, h.b5.set y, blk_far h.b6 (by simp) _, h.below.setCell (p := ⟨B + 1, 0, none⟩) (by simp) _, fun k hk => (Below.heap_setCell _ _ _ _ (by simp; omega)).trans (h.up k hk)⟩
theorem P3.set6 (h : P3 W0 B t4 t5 t6 x y v W) : P3 W0 B t4 t5 t6 x y z (W.setCell ⟨B + 1 + 1, 0, none⟩ z) :=
 ⟨blk_far h.b4 (by simp; omega) _, blk_far h.b5 (by simp) _, h.b6.set z, h.below.setCell (p := ⟨B + 1 + 1, 0, none⟩) (by simp; omega) _, fun k hk => (Below.heap_setCell _ _ _ _ (by simp; omega)).trans (h.up k hk)⟩
theorem P3.drew (h : P3 W0 B t4 t5 t6 x y z W) : P3 W0 B t4 t5 t6 x y z W.drew := ⟨h.b4, h.b5, h.b6, h.below.drew, h.up⟩
end
theorem three_allocs (w : World) (t4 t5 t6 : TypeId) (x y z : Value) : Boxed (((w.alloc (.cells #[x] t4)).alloc (.cells #[y] t5)).alloc (.cells #[z] t6)) w.heap.size t4 x ∧ Boxed (((w.alloc (.cells #[x] t4)).alloc (.cells #[y] t5)).alloc (.cells #[z] t6)) (w.heap.size + 1) t5 y ∧
  Boxed (((w.alloc (.cells #[x] t4)).alloc (.cells #[y] t5)).alloc (.cells #[z] t6)) (w.heap.size + 1 + 1) t6 z ∧ Below w.heap.size w (((w.alloc (.cells #[x] t4)).alloc (.cells #[y] t5)).alloc (.cells #[z] t6)) ∧ (((w.alloc (.cells #[x] t4)).alloc (.cells #[y] t5)).alloc (.cells #[z] t6)).heap.size = w.heap.size + 1 + 1 + 1 := by
 have h5 := (Boxed.new (w.alloc (.cells #[x] t4)) t5 y).alloc (.cells #[z] t6)
 have h6 := Boxed.new ((w.alloc (.cells #[x] t4)).alloc (.cells #[y] t5)) t6 z
 rw [World.size_alloc] at h5
 rw [World.size_alloc, World.size_alloc] at h6
 exact ⟨((Boxed.new w _ _).alloc _).alloc _, h5, h6, below3 _ _ _ _, by simp⟩
set_option maxRecDepth 100000 in
set_option maxHeartbeats 2000000 in
theorem doneIn_no1 (A : Option Addr) (c : Nat) (g : List Tk) (A' : Option Addr) (c' : Nat) (l : List Int) (w : World) (hr : kTk.C w A g.length g) (hg : graphN g = none) :
  Calls Tryd.prog 63 #[.slice A g.length c, .slice A' l.length c'] w fun e W' => e = .returned (doneRet 0 0 false) ∧ Below w.heap.size w W' := by
 obtain ⟨b4, b5, b6, hB0, hs0⟩ := (three_allocs w 60 80 4 (.pointer none) (.int .u16 0) (.bool false))
 have HP := Lib.hid (fun (W : World) (hB : Below w.heap.size w W) => graphOf_no A c g W (Kd.C_below hr hB) hg)
 have H0 := Lib.hid (And.intro b4 (And.intro b5 (And.intro b6 (And.intro hB0 hs0))))
 clear hr hg b4 b5 b6 hB0 hs0
 refine calls_of_wp_marks Tryd.func63 rfl ?_
 simp only [Tryd.ntmps63, List.size_toArray, List.length_cons, List.length_nil, Nat.reduceAdd, Nat.reduceSub, Array.replicate_succ, Array.replicate_zero, List.push_toArray, List.append_toArray, List.nil_append, List.cons_append]
 go_wp2_with (go_at_call 79; refine (HP.out _ H0.out.2.2.2.1).mono ?_; rintro e w1 ⟨rfl, hB1⟩; obtain ⟨⟨x4, hc4⟩, ⟨x5, hc5⟩, ⟨x6, hc6⟩, hf4, hf5, hf6⟩ := three_facts ((show Boxed w1 _ _ _ from blk_below H0.out.1 hB1).alloc (.cells #[.pointer none] 60)) ((show Boxed w1 _ _ _ from blk_below H0.out.2.1 hB1).alloc _) ((show Boxed w1 _ _ _ from blk_below H0.out.2.2.1 hB1).alloc _))
 obtain ⟨b4, b5, b6, hB0, hs0⟩ := H0.out
 obtain ⟨W', hW', c4, c5, c6, _, hb, _⟩ := three_sets ((show Boxed w1 _ _ _ from blk_below b4 hB1).alloc (.cells #[.pointer none] 60)) ((show Boxed w1 _ _ _ from blk_below b5 hB1).alloc _) ((show Boxed w1 _ _ _ from blk_below b6 hB1).alloc _) (.pointer none) (.int .u16 0) (.bool false)
 rw [hW']
 refine ⟨_, doneRes rfl rfl rfl c4.cell c5.cell c6.cell, rfl, ?_⟩
 have hBw := hB0.trans (hB1.mono (by omega))
 exact (hBw.alloc hBw.size _).trans hb
set_option maxRecDepth 100000 in
set_option maxHeartbeats 2000000 in
theorem doneIn_no2 (A : Option Addr) (c : Nat) (g : List Tk) (A' : Option Addr) (c' : Nat) (l : List Int) (w : World) (hr : kTk.C w A g.length g) (hr' : (Kd.int .i64).C w A' l.length l) (hT : Tab w) (ns : List Nat) (hg : graphN g = some ns) (hs : setOfN l g.length = none) :
  Calls Tryd.prog 63 #[.slice A g.length c, .slice A' l.length c'] w fun e W' => e = .returned (doneRet 0 0 false) ∧ Below w.heap.size w W' := by
 obtain ⟨b4, b5, b6, hB0, hs0⟩ := (three_allocs w 60 80 4 (.pointer none) (.int .u16 0) (.bool false))
 have h8 := (graphN_some hg).2.2.1
 have HS := Lib.hid hs
 have HP := Lib.hid (fun (W : World) (hB : Below w.heap.size w W) => graphOf_yes A c g ns W (Kd.C_below hr hB) (hT.keep hT.lt hB) hg)
 have HL := Lib.hid (fun (W : World) (hB : Below w.heap.size w W) => Kd.C_below hr' hB)
 have H0 := Lib.hid (And.intro b4 (And.intro b5 (And.intro b6 (And.intro hB0 hs0))))
 clear hr hg hs hr' hT b4 b5 b6 hB0 hs0
 refine calls_of_wp_marks Tryd.func63 rfl ?_
 simp only [Tryd.ntmps63, List.size_toArray, List.length_cons, List.length_nil, Nat.reduceAdd, Nat.reduceSub, Array.replicate_succ, Array.replicate_zero, List.push_toArray, List.append_toArray, List.nil_append, List.cons_append]
 go_wp2_with (first | (go_at_call 79; refine (HP.out _ H0.out.2.2.2.1).mono ?_; rintro e w1 ⟨C, rfl, hG, hB1⟩; have HG := Lib.hid hG; have HBW := Lib.hid (H0.out.2.2.2.1.trans (hB1.mono (by rw [H0.out.2.2.2.2]; omega))); clear hG; obtain ⟨⟨x4, hc4⟩, ⟨x5, hc5⟩, ⟨x6, hc6⟩, hf4, hf5, hf6⟩ := three_facts (((show Boxed w1 _ _ _ from blk_below H0.out.1 hB1).alloc (.cells #[.pointer (some ⟨C, 0, none⟩)] 60)).alloc (.cells #[.int .u16 0] 80)) (((show Boxed w1 _ _ _ from blk_below H0.out.2.1 hB1).alloc _).alloc _) (((show Boxed w1 _ _ _ from blk_below H0.out.2.2.1 hB1).alloc _).alloc _)) | (go_at_call 72; refine (size_calls _ C g ns (HG.out.below ((Below.refl _ w1).alloc (Nat.le_refl _) _))).mono ?_; rintro e w' ⟨rfl, rfl⟩) | (go_at_call 101; refine (setOf_none A' c' l g.length HS (by omega) _ (HL.out _ (HBW.out.alloc HBW.out.size _))).mono ?_; rintro e w' ⟨rfl, rfl⟩))
 obtain ⟨b4, b5, b6, hB0, hs0⟩ := H0.out
 obtain ⟨W', hW', c4, c5, c6, _, hb, _⟩ := three_sets (((show Boxed w1 _ _ _ from blk_below b4 hB1).alloc (.cells #[.pointer (some ⟨C, 0, none⟩)] 60)).alloc (.cells #[.int .u16 0] 80)) (((show Boxed w1 _ _ _ from blk_below b5 hB1).alloc _).alloc _) (((show Boxed w1 _ _ _ from blk_below b6 hB1).alloc _).alloc _) (.pointer none) (.int .u16 0) (.bool false)
 rw [hW']
 refine ⟨_, doneRes rfl rfl rfl c4.cell c5.cell c6.cell, rfl, ?_⟩
 have hBw := HBW.out.alloc HBW.out.size (.cells #[.pointer (some ⟨C, 0, none⟩)] 60)
 exact (hBw.alloc hBw.size _).trans hb
set_option maxRecDepth 100000 in
set_option maxHeartbeats 4000000 in
theorem doneIn_set (A : Option Addr) (c : Nat) (g : List Tk) (A' : Option Addr) (c' : Nat) (l : List Int) (w : World) (hr : kTk.C w A g.length g) (hr' : (Kd.int .i64).C w A' l.length l) (hT : Tab w) (ns : List Nat) (s : Nat) (hg : graphN g = some ns) (hs : setOfN l g.length = some s) :
  Calls Tryd.prog 63 #[.slice A g.length c, .slice A' l.length c'] w fun e W' => ∃ C, e = .returned (doneRet C s (closedN ns s)) ∧ (closedN ns s = true → IsGraph W' C g ns) ∧ Below w.heap.size w W' := by
 obtain ⟨b4, b5, b6, hB0, hs0⟩ := (three_allocs w 60 80 4 (.pointer none) (.int .u16 0) (.bool false))
 obtain ⟨hn, hord, h8, hnl⟩ := graphN_some hg
 have hs16 : s < 65536 := Nat.lt_of_lt_of_le (setOfN_lt hs) (pow_le_u16 (by omega))
 have hsl := setOfN_lt hs
 have hns := needsN_lt hn
 have HNS := Lib.hid hns
 have HS := Lib.hid hs
 have HT := Lib.hid hT
 have HR := Lib.hid hr
 have HP := Lib.hid (fun (W : World) (hB : Below w.heap.size w W) => graphOf_yes2 A c g ns W (Kd.C_below hr hB) (hT.keep hT.lt hB) hg)
 have HL := Lib.hid (fun (W : World) (hB : Below w.heap.size w W) => Kd.C_below hr' hB)
 have H0 := Lib.hid (And.intro b4 (And.intro b5 (And.intro b6 (And.intro hB0 hs0))))
 clear hr hg hs hr' hT b4 b5 b6 hB0 hs0 hn hord hns
 refine calls_of_wp_marks Tryd.func63 rfl ?_
 simp only [Tryd.ntmps63, List.size_toArray, List.length_cons, List.length_nil, Nat.reduceAdd, Nat.reduceSub, Array.replicate_succ, Array.replicate_zero, List.push_toArray, List.append_toArray, List.nil_append, List.cons_append]
 go_wp2_with (first | (go_at_call 79; refine (HP.out _ H0.out.2.2.2.1).mono ?_; rintro e w1 ⟨C, rfl, hG, hB1, hSt⟩; have HG := Lib.hid hG; have HBW := Lib.hid (H0.out.2.2.2.1.trans (hB1.mono (by rw [H0.out.2.2.2.2]; omega))); have HSt := Lib.hid hSt; clear hG hSt) | (go_at_call 72; refine (size_calls _ C g ns (HG.out.below ((Below.refl _ w1).alloc (Nat.le_refl _) _))).mono ?_; rintro e w' ⟨rfl, rfl⟩) | (go_at_call 101; refine (setOf_some A' c' l g.length s HS (by omega) _ (HL.out _ (HBW.out.alloc HBW.out.size _))).mono ?_; rintro e w' ⟨rfl, rfl⟩) | (go_at_call 59; refine (all_calls s _).mono ?_; rintro e w' ⟨rfl, rfl⟩))
 obtain ⟨b4, b5, b6, hB0, hs0⟩ := H0.out
 have hsz1 := hB1.size
 obtain ⟨W0, hW0⟩ : ∃ W0, W0 = (w1.alloc (.cells #[.pointer (some ⟨C, 0, none⟩)] 60)).alloc (.cells #[.int .u16 s] 80) := ⟨_, rfl⟩
 have hB2 : Below w1.heap.size w1 W0 := by rw [hW0]; exact ((Below.refl _ w1).alloc (Nat.le_refl _) _).alloc (by simp) _
 have hz0' : W0.heap.size = w1.heap.size + 1 + 1 := by rw [hW0]; simp
 have hb9 : Boxed W0 (w1.heap.size + 1) 80 (.int .u16 s) := by rw [hW0]; have := Boxed.new (w1.alloc (.cells #[.pointer (some ⟨C, 0, none⟩)] 60)) 80 (.int .u16 s); rwa [World.size_alloc] at this
 have hb7 : Boxed W0 w1.heap.size 60 (.pointer (some ⟨C, 0, none⟩)) := by rw [hW0]; exact (Boxed.new w1 60 (.pointer (some ⟨C, 0, none⟩))).alloc _
 rw [← hW0]
 clear hW0
 have c4 : Boxed W0 w.heap.size 60 (.pointer none) := blk_below (blk_below b4 hB1) hB2
 have c5 : Boxed W0 (w.heap.size + 1) 80 (.int .u16 0) := blk_below (blk_below b5 hB1) hB2
 have c6 : Boxed W0 (w.heap.size + 1 + 1) 4 (.bool false) := blk_below (blk_below b6 hB1) hB2
 have htl := HT.out.lt
 have hT1 := HT.out.keep htl HBW.out
 have htl1 := hT1.lt
 have hT0 := hT1.keep htl1 hB2
 have hBox := Boxed.new W0 80 (.int .u16 s)
 rw [hz0'] at hBox
 rw [hs0] at hsz1
 have hs3 := hs0
 clear b4 b5 b6 hB0 hs0
 refine wp_rangeSet1 s (w1.heap.size + 1 + 1) w1.heap.size hs16 rfl (by simp [hz0']) hBox.cell (hT0.keep hT0.lt ((Below.refl _ _).alloc (Nat.le_refl _) _)) (by simp [hz0']; omega) htl1
  (fun pre W => (∀ i ∈ pre.map (·.1), needsIn ns s i = true) ∧ Below w1.heap.size w1 W ∧ Boxed W (w1.heap.size + 1) 80 (.int .u16 s) ∧ Boxed W w1.heap.size 60 (.pointer (some ⟨C, 0, none⟩)) ∧
   Boxed W w.heap.size 60 (.pointer none) ∧ Boxed W (w.heap.size + 1) 80 (.int .u16 0) ∧ Boxed W (w.heap.size + 1 + 1) 4 (.bool false))
  (fun cd _ W => cd = .ret ∧ closedN ns s = false ∧ Below w.heap.size w W ∧ Boxed W w.heap.size 60 (.pointer none) ∧ Boxed W (w.heap.size + 1) 80 (.int .u16 0) ∧ Boxed W (w.heap.size + 1 + 1) 4 (.bool false))
  ?ownI ?ownX ?start
  (fun x => { tmps := #[.slice A g.length c, .slice A' l.length c', undef, undef, .pointer (some ⟨w.heap.size, 0, none⟩), .pointer (some ⟨w.heap.size + 1, 0, none⟩), .pointer (some ⟨w.heap.size + 1 + 1, 0, none⟩), .pointer (some ⟨w1.heap.size, 0, none⟩), .bool true, .pointer (some ⟨w1.heap.size + 1, 0, none⟩), .int .i64 (x.1 : Nat),
   .tuple #[.pointer (some ⟨C, 0, none⟩), .bool true], .slice A g.length c, .tuple #[.pointer (some ⟨C, 0, none⟩), .bool true], .pointer (some ⟨C, 0, none⟩), .bool true, .bool true, .bool false, .tuple #[.int .u16 s, .bool true], .slice A' l.length c', .pointer (some ⟨C, 0, none⟩), .int .i64 (g.length : Nat), .tuple #[.int .u16 s, .bool true], .int .u16 s, .bool true, .bool true, .bool false, .int .u16 s,
   .func (.func 98) #[] #[.pointer (some ⟨w1.heap.size + 1 + 1, 0, none⟩)], .int .i64 (x.1 : Nat), undef, undef, undef, undef, undef, undef, undef, undef, undef, undef, undef, undef], defers := [] }) ?assign ?body ?done ?stop
 case ownI =>
  exact (ownFrom_pure _ _).and ((ownFrom_below (Nat.le_refl _) (by simp [hz0']; omega)).and ((Own.from (boxed_own _ _ (fun _ => _)) _).and ((Own.from (boxed_own _ _ (fun _ => _)) _).and ((Own.from (boxed_own _ _ (fun _ => _)) _).and ((Own.from (boxed_own _ _ (fun _ => _)) _).and (Own.from (boxed_own _ _ (fun _ => _)) _))))))
 case ownX =>
  intro cd
  exact (ownFrom_pure _ _).and ((ownFrom_pure _ _).and ((ownFrom_below (Nat.le_refl _) (by simp [hz0']; omega)).and ((Own.from (boxed_own _ _ (fun _ => _)) _).and ((Own.from (boxed_own _ _ (fun _ => _)) _).and (Own.from (boxed_own _ _ (fun _ => _)) _)))))
 case start => exact ⟨by simp, hB2.alloc hB2.size _, hb9.alloc _, hb7.alloc _, c4.alloc _, c5.alloc _, c6.alloc _⟩
 case assign =>
  intro l x W K hK
  gi_wp2
  exact hK
 case body =>
  rintro l pre x W ⟨hall, hB, hb9, hb7, hb4, hb5, hb6⟩ hlt
  have hxn : x.1 < g.length := elems_below hsl x.2
  have hGW := HG.out.below hB
  obtain ⟨Ag, cg, An, cn, Ao, co, vb, va, h1, h2, h3, h4⟩ := hGW
  have cC := blk_cell h1 1
  simp at cC
  obtain ⟨ad, rfl, hcx⟩ := at_set h3 x.1 (by omega)
  have hvx := HNS.out x.1
  have hx9 := hb9.cell
  have hx7 := hb7.cell
  have hX : needsIn ns s x.1 = decide (diff (ns.getD x.1 0) s = 0) := rfl
  have HX := Lib.hid hX
  have HALL := Lib.hid hall
  have HGW : Hid (IsGraph W C g ns) := Lib.hid (HG.out.below hB)
  have HB := Lib.hid hB
  clear hall h1 h2 h3 h4 hX hB
  generalize ns.getD x.1 0 = z at hcx hvx HX
  have hxi : ((x.1 : Nat) : Int) < (ns.length : Int) := by omega
  by_cases hd : diff z s = 0
  ·
   have hbt : (bits BinOp.andNot IntKind.u16 (z : Int) (s : Int) != 0) = false := by rw [bits_andNot_u16 _ s hvx, hd]; rfl
   have HD := Lib.hid hd
   clear hd
   gi_wp2
   refine wpIn_region_still_tail 9 mixed (by kernel_rfl) (by kernel_rfl) (fun ⟨_, _, h⟩ => h) ?_
   simp only [List.take_succ_cons, List.take_zero, List.drop_succ_cons, List.drop_zero]
   repeat (with_reducible refine wpStill_step (fun K hK => ?_); go_simp; with_reducible refine hK _ ?_; clear hK K)
   with_reducible refine wpStill_nil ?_
   go_wp2
   gi_wp2
   refine ⟨(KeepsOthers.drew _).from _, (Below.refl _ _).drew, fun i hi => ?_, HB.out.drew, hb9, hb7, hb4, hb5, hb6⟩
   rw [List.map_append, List.mem_append] at hi
   rcases hi with hi | hi
   ·
    exact HALL.out i hi
   ·
    simp at hi
    subst hi
    rw [HX.out, HD.out]
    rfl
  ·
   have hbt : (bits BinOp.andNot IntKind.u16 (z : Int) (s : Int) != 0) = true := by
    rw [bits_andNot_u16 _ s hvx, bne_iff_ne]
    omega
   have HD := Lib.hid hd
   clear hd
   gi_wp2
   refine wpIn_region_still_tail 9 mixed (by kernel_rfl) (by kernel_rfl) (fun ⟨_, _, h⟩ => h) ?_
   simp only [List.take_succ_cons, List.take_zero, List.drop_succ_cons, List.drop_zero]
   repeat (with_reducible refine wpStill_step (fun K hK => ?_); go_simp; with_reducible refine hK _ ?_; clear hK K)
   with_reducible refine wpStill_nil ?_
   have hf4 := hb4.frozen
   have hf5 := hb5.frozen
   have hf6 := hb6.frozen
   have hc4 := hb4.cell
   have hc5 := hb5.cell
   have hc6 := hb6.cell
   go_wp2
   gi_wp2
   obtain ⟨W', hW', d4, d5, d6, hko, hbl, _⟩ := three_sets hb4 hb5 hb6 (.pointer none) (.int .u16 0) (.bool false)
   rw [hW']
   have hcl : closedN ns s = false := by
    cases hc : closedN ns s with
    | false => rfl
    | true =>
     have := List.all_eq_true.1 hc x.1 x.2
     rw [HX.out, decide_eq_true_eq] at this
     exact absurd this HD.out
   have hBW := HB.out
   exact ⟨(hko.trans (KeepsOthers.drew _)).from _, rfl, hcl, ((HBW.out.trans (hBW.mono HBW.out.size)).trans hbl).drew, d4, d5, d6⟩
 case stop =>
  rintro D cd pre W hD _ ⟨rfl, hcl, hB, d4, d5, d6⟩ hK
  simp [hz0'] at hD
  have hg1 := grownBy_putObj' W D (.deferred none)
  have e4 := d4.kept hg1 (by simp; omega)
  have e5 := d5.kept hg1 (by simp; omega)
  have e6 := d6.kept hg1 (by simp; omega)
  go_wp2
  refine leave_one hK (doneRes rfl rfl rfl e4.cell e5.cell e6.cell) ⟨C, by rw [hcl]; rfl, fun h => (by rw [hcl] at h; exact absurd h (by decide)), ?_⟩
  exact hB.trans (belowK_b (w := w) (Nat.le_refl _) W D _ _ (by omega) hK rfl rfl)
 case done =>
  rintro D ys W hD hys ⟨hall, hB, hb9, hb7, hb4, hb5, hb6⟩ hK
  have hc9 := hb9.cell
  have hc7 := hb7.cell
  have hcl : closedN ns s = true := List.all_eq_true.2 (by rw [← hys]; exact hall)
  have hf4 := hb4.frozen
  have hf5 := hb5.frozen
  have hf6 := hb6.frozen
  have hc4 := hb4.cell
  have hc5 := hb5.cell
  have hc6 := hb6.cell
  simp [hz0'] at hD
  have HB := Lib.hid hB
  have HCL := Lib.hid hcl
  clear hall hys hB hcl
  have hP0 : P3 W w.heap.size 60 80 4 (.pointer none) (.int .u16 0) (.bool false) W := ⟨hb4, hb5, hb6, Below.refl _ _, fun _ _ => rfl⟩
  go_wp2
  go_cut [41] from 40 to 42 (fun v41 wc => P3 W w.heap.size 60 80 4 (.pointer (some ⟨C, 0, none⟩)) (.int .u16 s) (.bool true) wc)
  case first =>
   go_region_with (fail)
   all_goals
    go_wp2
    go_meet
    case rel => repeat (with_reducible first | exact hP0 | apply P3.drew | apply P3.set4 | apply P3.set5 | apply P3.set6)
  case rest =>
  obtain ⟨d4, d5, d6, hbl, hup⟩ := hcut
  go_wp2
  have hK' : wc.heap[D]? = some (.deferred (some [])) := (hup D (by omega)).trans hK
  have hg1 := grownBy_putObj' wc D (.deferred none)
  have e4 := (show Boxed wc _ _ _ from d4).kept hg1 (by simp; omega)
  have e5 := (show Boxed wc _ _ _ from d5).kept hg1 (by simp; omega)
  have e6 := (show Boxed wc _ _ _ from d6).kept hg1 (by simp; omega)
  have hBW := ((HBW.out.trans (HB.out.mono HBW.out.size)).trans hbl)
  have hBf : Below w.heap.size w (wc.putObj D (.deferred none)) := hBW.trans (belowK_b (w := w) (Nat.le_refl _) wc D _ _ (by omega) hK' rfl rfl)
  refine leave_one hK' (doneRes rfl rfl rfl e4.cell e5.cell e6.cell) ⟨C, by rw [HCL.out]; rfl, fun _ => HSt.out _ (Kd.C_below HR.out hBf) fun k hk1 hk2 => ?_, hBf⟩
  have hk3 : k ≠ D := by omega
  exact (hg1.block k (by have := HB.out.size; have := hbl.size; show k < wc.heap.size; omega) (by simp; omega)).trans ((hup k (by omega)).trans (HB.out.block k hk2))
theorem graph_some_lt {g : List Tk} {l : List Int} {ns : List Nat} {s : Nat} (hg : graphN g = some ns) (hs : setOfN l g.length = some s) : doneN g l = if closedN ns s then some (ns, s) else none := by
 unfold doneN
 rw [hg]
 show ((setOfN l g.length).bind _) = _
 rw [hs]
 rfl
theorem doneIn_yes (A : Option Addr) (c : Nat) (g : List Tk) (A' : Option Addr) (c' : Nat) (l : List Int) (w : World) (hr : kTk.C w A g.length g) (hr' : (Kd.int .i64).C w A' l.length l) (hT : Tab w) (ns : List Nat) (s : Nat) (hd : doneN g l = some (ns, s)) :
  Calls Tryd.prog 63 #[.slice A g.length c, .slice A' l.length c'] w fun e W' => ∃ C, e = .returned (.tuple #[.pointer (some ⟨C, 0, none⟩), .int .u16 (s : Nat), .bool true]) ∧ IsGraph W' C g ns ∧ Below w.heap.size w W' := by
 unfold doneN at hd
 obtain ⟨ns', hg, hd⟩ := Option.bind_eq_some_iff.1 hd
 obtain ⟨s', hs, hd⟩ := Option.bind_eq_some_iff.1 hd
 split at hd
 ·
  rename_i hc
  cases hd
  refine (doneIn_set A c g A' c' l w hr hr' hT ns s hg hs).mono fun e W' ⟨C, h1, h2, h3⟩ => ⟨C, ?_, h2 hc, h3⟩
  rw [h1, hc]
  rfl
 ·
  cases hd
theorem doneIn_no (A : Option Addr) (c : Nat) (g : List Tk) (A' : Option Addr) (c' : Nat) (l : List Int) (w : World) (hr : kTk.C w A g.length g) (hr' : (Kd.int .i64).C w A' l.length l) (hT : Tab w) (hd : doneN g l = none) :
  Calls Tryd.prog 63 #[.slice A g.length c, .slice A' l.length c'] w fun e W' => e = .returned (.tuple #[.pointer none, .int .u16 0, .bool false]) ∧ Below w.heap.size w W' := by
 cases hg : graphN g with
 | none => exact doneIn_no1 A c g A' c' l w hr hg
 | some ns =>
  cases hs : setOfN l g.length with
  | none => exact doneIn_no2 A c g A' c' l w hr hr' hT ns hg hs
  | some s =>
   rw [graph_some_lt hg hs] at hd
   split at hd
   ·
    cases hd
   ·
    rename_i hc
    refine (doneIn_set A c g A' c' l w hr hr' hT ns s hg hs).mono fun e W' ⟨C, h1, h2, h3⟩ => ⟨?_, h3⟩
    rw [h1, Bool.eq_false_iff.2 hc]
    rfl
end Go.Proofs.YtpmfghbjkampkaaDoor
