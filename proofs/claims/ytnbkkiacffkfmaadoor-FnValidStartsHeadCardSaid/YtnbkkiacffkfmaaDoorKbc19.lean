/- Parts of the proof, laid as one text by a program of mine. -/
import Derived.Test.YtnbkkiacffkfmaaDoorKbc4
import Derived.Test.YtnbkkiacffkfmaaDoorKbc9
import Derived.Test.YtnbkkiacffkfmaaDoorKbc12
import Derived.Test.YtnbkkiacffkfmaaDoorKbc10
namespace Go.Proofs.YtnbkkiacffkfmaaDoor
set_option linter.unusedVariables false
set_option linter.unusedSimpArgs false
open Go.RowKit Go.Shelf Bits
open Go.Proofs.YtnbkkiacffkfmaaDoorW.PrintWords Go.Proofs.YtnbkkiacffkfmaaDoorW.PrintLast Go.Proofs.YtnbkkiacffkfmaaDoorW.PrintMore
attribute [local go_sem] Oper.semAt_some
def headPush (g : List Tk) (i : Nat) (o : List Int) (k : Nat) : List Int := o.set i (max (o.getD i 0) (o.getD k 0 + (rdTk g k).f0))
def headStep (g : List Tk) (ns : List Nat) (o : List Int) (i : Nat) : List Int := (elems (ns.getD i 0)).foldl (headPush g i) o
def headsL (g : List Tk) (ns ord : List Nat) (k : Nat) : List Int := (ord.take k).foldl (headStep g ns) (List.replicate g.length 0)
def headN (g : List Tk) (ns : List Nat) : List Int := headsL g ns (ordN ns ns.length).1 (ordN ns ns.length).1.length
theorem headsL_snoc (g : List Tk) (ns ord : List Nat) {k : Nat} (h : k < ord.length) : headsL g ns ord (k + 1) = headStep g ns (headsL g ns ord k) (ord.getD k 0) := by
 unfold headsL
 rw [List.take_succ_eq_append_getElem h, List.foldl_append, List.getD_eq_getElem?_getD, List.getElem?_eq_getElem h]
 rfl
theorem Span.wide {o : List Int} {n : Nat} {b b' : Int} (h : Span o n b) (hb : b ≤ b') : Span o n b' := ⟨h.1, fun j => by have := h.2 j; omega⟩
theorem Span.head {g : List Tk} (htm : ∀ i, 0 ≤ (rdTk g i).f0 ∧ (rdTk g i).f0 ≤ 20) {o : List Int} {n : Nat} {b : Int} (h : Span o n b) (i k : Nat) : Span (headPush g i o k) n (b + 20) := by
 have h1 := h.2 i
 have h2 := h.2 k
 have h3 := htm k
 exact h.set (by omega) (by omega) i
theorem Span.heads {g : List Tk} (htm : ∀ i, 0 ≤ (rdTk g i).f0 ∧ (rdTk g i).f0 ≤ 20) {n : Nat} (i : Nat) : ∀ (l : List Nat) (o : List Int) (b : Int), Span o n b → Span (l.foldl (headPush g i) o) n (b + 20 * l.length)
 | [], o, b, h => by simpa using h
 | k :: l, o, b, h => by
  have := Span.heads htm i l _ _ (h.head htm i k)
  rw [List.foldl_cons]
  exact this.wide (by simp only [List.length_cons]; omega)
theorem heads_span {g : List Tk} (htm : ∀ i, 0 ≤ (rdTk g i).f0 ∧ (rdTk g i).f0 ≤ 20) (ns ord : List Nat) : ∀ k, Span (headsL g ns ord k) g.length (320 * k)
 | 0 => by
  refine ⟨by simp [headsL], fun j => ?_⟩
  unfold headsL
  rw [List.take_zero, List.foldl_nil, List.getD_eq_getElem?_getD, List.getElem?_replicate]
  split <;> simp
 | k + 1 => by
  have ih := heads_span htm ns ord k
  by_cases h : k < ord.length
  ·
   rw [headsL_snoc g ns ord h]
   have h1 := Span.heads htm (ord.getD k 0) (elems (ns.getD (ord.getD k 0) 0)) _ _ ih
   have h2 := elems_length (ns.getD (ord.getD k 0) 0)
   exact h1.wide (by omega)
  ·
   have : headsL g ns ord (k + 1) = headsL g ns ord k := by
    unfold headsL
    rw [List.take_of_length_le (by omega), List.take_of_length_le (by omega)]
   rw [this]
   exact ih.wide (by omega)
def HLoop (w : World) (g : List Tk) (ns ol : List Nat) (C : Nat) (Ao : Option Addr) (co : Nat) (a : Act) (W : World) : Prop := ∃ (t : Array Value) (Ds : List Nat) (k : Nat), a = { tmps := t, defers := mk Ds } ∧ t.size = 51 ∧ t.getD 1 undef = .pointer (some ⟨w.heap.size, 0, none⟩) ∧ t.getD 3 undef = .pointer (some ⟨w.heap.size + 1 + 1, 0, none⟩) ∧
 t.getD 13 undef = .slice Ao ol.length co ∧ t.getD 14 undef = .int .i64 (ol.length : Nat) ∧ t.getD 15 undef = .int .i64 (k : Nat) ∧ k ≤ ol.length ∧ Marks Ds W ∧ (∀ D ∈ Ds, w.heap.size ≤ D) ∧
 THeap w (w.heap.size + 3) g.length C w.heap.size (w.heap.size + 1 + 1) (w.heap.size + 1) (headsL g ns ol k) W
set_option maxRecDepth 100000 in
set_option maxHeartbeats 8000000 in
theorem heads_calls (C : Nat) (g : List Tk) (ns : List Nat) (hgr : graphN g = some ns) (w : World) (hG : IsGraph w C g ns) (hT : Tab w) :
  Calls Tryd.prog 48 #[.pointer (some ⟨C, 0, none⟩)] w fun e w' => ∃ v, e = .returned v ∧ Kd.R (Kd.int .i64) 3 w' w.heap.size (fun _ => True) v (headN g ns) ∧ Below w.heap.size w w' := by
 obtain ⟨hn, hd, hlen, hnl⟩ := graphN_some hgr
 have HGR := Lib.hid hgr
 have HN := Lib.hid hn
 have HNL := Lib.hid hnl
 have HG := Lib.hid hG
 obtain ⟨Ag, cg, An, cn, Ao, co, vb, va, h1, h2, h3, h4⟩ := hG
 have hCl := blk_lt h1
 have cC := blk_cell h1 2
 simp at cC
 have HH := Lib.hid (And.intro h1 (And.intro h2 (And.intro h3 h4)))
 have hmk := run_makeI g.length (by omega)
 have cC3 : ∀ o1 o2 o3 : Obj, (((w.alloc o1).alloc o2).alloc o3).cell? ⟨C, 2, none⟩ = some (.slice Ao (ordN ns ns.length).1.length co) := fun o1 o2 o3 => pw_cell_below ((((Below.refl _ w).alloc (Nat.le_refl _) o1).alloc (by simp) o2).alloc (by simp; omega) o3) cC
 have htl := hT.lt
 have HT := Lib.hid hT
 have HTM := Lib.hid (graphN_time hgr)
 have HHN : Hid (headN g ns = headsL g ns (ordN ns ns.length).1 (ordN ns ns.length).1.length) := Lib.hid rfl
 have HORD := Lib.hid (ordN_lt ns ns.length).2.1
 have hol := (ordN_lt ns ns.length).2.2
 have hol8 : (ordN ns ns.length).1.length ≤ 8 := by omega
 clear h1 h2 h3 h4 hgr hn hd hnl cC hT
 generalize (ordN ns ns.length).1 = ol at HH cC3 HHN HORD hol hol8
 refine calls_of_wp_marks Tryd.func48 rfl ?_
 simp only [Tryd.ntmps48, List.size_toArray, List.length_cons, List.length_nil, Nat.reduceAdd, Nat.reduceSub, Array.replicate_succ, Array.replicate_zero, List.push_toArray, List.append_toArray, List.nil_append, List.cons_append]
 go_wp2_with (go_at_call 55; refine (size_calls _ C g ns (HG.out.below ((Below.refl _ _).alloc (Nat.le_refl _) _))).mono ?_; rintro e w' ⟨rfl, rfl⟩)
 obtain ⟨W0, hW0⟩ : ∃ W0, W0 = ((w.alloc (.cells #[.pointer (some ⟨C, 0, none⟩)] 49)).alloc (.cells (zeroI g.length) 3)).alloc (.cells #[.slice (some ⟨w.heap.size + 1, 0, none⟩) g.length g.length] 24) := ⟨_, rfl⟩
 have hB0 : Below w.heap.size w W0 := by rw [hW0]; exact (((Below.refl _ w).alloc (Nat.le_refl _) _).alloc (by simp) _).alloc (by simp; omega) _
 have hz0 : W0.heap.size = w.heap.size + 1 + 1 + 1 := by rw [hW0]; simp
 have hTH : THeap w (w.heap.size + 3) g.length C w.heap.size (w.heap.size + 1 + 1) (w.heap.size + 1) (headsL g ns ol 0) W0 := by
  refine ⟨?_, ?_, ?_, hB0, by rw [hz0]; omega⟩ <;> rw [hW0]
  ·
   exact ((Boxed.new w _ _).alloc _).alloc _
  ·
   have := Boxed.new ((w.alloc (.cells #[.pointer (some ⟨C, 0, none⟩)] 49)).alloc (.cells (zeroI g.length) 3)) 24 (.slice (some ⟨w.heap.size + 1, 0, none⟩) g.length g.length)
   rwa [World.size_alloc, World.size_alloc] at this
  ·
   have h0 : (w.alloc (.cells #[.pointer (some ⟨C, 0, none⟩)] 49)).heap.size = w.heap.size + 1 := by simp
   have := World.alloc_heap_new (w.alloc (.cells #[.pointer (some ⟨C, 0, none⟩)] 49)) (.cells (zeroI g.length) 3)
   rw [h0] at this
   exact (Below.heap_alloc _ _ _ (by simp)).trans this
 try rw [← hW0]
 clear hW0 cC3 hmk hz0 hB0
 refine wp_loop (HLoop w g ns ol C Ao co) (fun a _ => ol.length - (intOf (a.tmps.getD 15 undef)).toNat) ⟨_, [], 0, rfl, rfl, rfl, rfl, rfl, rfl, rfl, Nat.zero_le _, Marks.nil _, fun D h => (by cases h), hTH⟩ ?_
 clear hTH
 rintro a W ⟨t, Ds, k, rfl, ht, t1, t3, t13, t14, t15, hk, hM, hDs, hTH⟩
 obtain ⟨u, rfl⟩ : ∃ u : Nat → Value, t = #[u 0, u 1, u 2, u 3, u 4, u 5, u 6, u 7, u 8, u 9, u 10, u 11, u 12, u 13, u 14, u 15, u 16, u 17, u 18, u 19, u 20, u 21, u 22, u 23, u 24, u 25, u 26, u 27, u 28, u 29, u 30, u 31, u 32, u 33, u 34, u 35, u 36, u 37, u 38, u 39, u 40, u 41, u 42, u 43, u 44, u 45, u 46, u 47, u 48, u 49, u 50] := ⟨fun i => t.getD i undef, (arr_of_size t 51 ht).trans rfl⟩
 replace t1 : u 1 = _ := t1
 replace t3 : u 3 = _ := t3
 replace t13 : u 13 = _ := t13
 replace t14 : u 14 = _ := t14
 replace t15 : u 15 = _ := t15
 clear ht
 have hBw := hTH.hB
 by_cases hlt : k < ol.length
 ·
  obtain ⟨ad2, rfl, hc2⟩ := at_set (Kd.C_below HH.out.2.2.2 hBw) k hlt
  have hin : ol.getD k 0 < g.length := by
   rw [← HNL.out]
   apply HORD.out
   rw [List.getD_eq_getElem?_getD, List.getElem?_eq_getElem hlt]
   exact List.getElem_mem _
  have HSN := Lib.hid (headsL_snoc g ns ol hlt)
  have hSP := heads_span HTM.out ns ol k
  generalize headsL g ns ol k = o at hTH HSN hSP
  generalize ol.getD k 0 = i at hc2 hin HSN
  obtain ⟨adn, eAn, cn1⟩ := at_set (Kd.C_below HH.out.2.2.1 hBw) i (by rw [HNL.out]; exact hin)
  subst eAn
  have hs := needsN_lt HN.out i
  have hs2 := needsN_pow HN.out i
  have HTS : Hid (headStep g ns o i = (elems (ns.getD i 0)).foldl (headPush g i) o) := Lib.hid rfl
  generalize hsq : ns.getD i 0 = s at cn1 hs hs2 HTS
  clear hsq
  have cC1 : W.cell? ⟨C, 1, none⟩ = some (.slice (some adn) ns.length cn) := pw_cell_below hBw (by have := blk_cell HH.out.1 1; simpa using this)
  have hii : (i : Int) < (ns.length : Int) := by have := HNL.out; omega
  have hji : (k : Int) < (ol.length : Int) := by omega
  have HHO := Lib.hid (And.intro hTH (And.intro hM hBw))
  have cX1 := hTH.hX.cell
  have hnW0 := hTH.hn
  go_wp2
  obtain ⟨W1, hW1⟩ : ∃ W1, W1 = W.alloc (.cells #[.int .i64 (i : Int)] 3) := ⟨_, rfl⟩
  have hTH1 : THeap w (w.heap.size + 3) g.length C w.heap.size (w.heap.size + 1 + 1) (w.heap.size + 1) o W1 := by rw [hW1]; exact hTH.alloc _
  have hbx1 : Boxed W1 W.heap.size 3 (.int .i64 (i : Int)) := by rw [hW1]; exact Boxed.new W _ _
  have hM1 : Marks Ds W1 := by rw [hW1]; exact hM.alloc _
  have hB1 : Below W.heap.size W W1 := by rw [hW1]; exact (Below.refl _ _).alloc (Nat.le_refl _) _
  have hz1 : W1.heap.size = W.heap.size + 1 := by rw [hW1]; simp
  rw [← hW1]
  clear hW1 hc2 cX1
  replace cC1 := pw_cell_below hB1 cC1
  replace cn1 := pw_cell_below hB1 cn1
  have cX := hTH1.hX.cell
  have cI := hbx1.cell
  clear hTH hM
  have hnW := hTH1.hn
  clear hz1
  go_still_tail 7, mixed
  go_wp2_with (go_at_call 79; refine (all_calls s _).mono ?_; rintro e w' ⟨rfl, rfl⟩)
  have hset2 := Boxed.new W1.drew 62 (.int .u16 s)
  have hB2 := below_alloc hTH1.hB.drew (.cells #[.int .u16 s] 62)
  have hsd : W1.drew.heap.size = W1.heap.size := rfl
  refine wp_rangeSet s W1.heap.size w.heap.size hs rfl (by simp) hset2.cell (HT.out.keep htl hB2) (by simp; omega) htl
   (fun pre W' => THeap w (w.heap.size + 3) g.length C w.heap.size (w.heap.size + 1 + 1) (w.heap.size + 1) ((pre.map (·.1)).foldl (headPush g i) o) W' ∧ Boxed W' W.heap.size 3 (.int .i64 (i : Int)) ∧ Marks Ds W') (fun _ _ _ => False)
   ((THeap.own _ (by simp; omega)).and ((Own.from (boxed_own _ _ (fun _ => _)) _).and (ownFrom_marks _ Ds (fun D hD => by have := hM1.lt D hD; simp; omega))))
   (fun _ _ _ _ _ h _ _ => h) ⟨hTH1.drew.alloc _, Boxed.alloc (W := W1.drew) hbx1 _, Marks.alloc (w := W1.drew) hM1 _⟩
   (fun x a' _ => ∃ t : Array Value, a' = { tmps := t, defers := [] } ∧ t.size = 51 ∧ t.getD 1 undef = .pointer (some ⟨w.heap.size, 0, none⟩) ∧ t.getD 3 undef = .pointer (some ⟨w.heap.size + 1 + 1, 0, none⟩) ∧ t.getD 5 undef = .pointer (some ⟨W.heap.size, 0, none⟩) ∧ t.getD 6 undef = .int .i64 (x.1 : Nat)) (fun _ _ => ownFrom_pure _ _) ?assign1 ?body1 ?done1 ?stop1
  case stop1 => exact fun _ _ _ _ _ _ h _ => h.elim
  case assign1 =>
   intro l pre x W' K hi' hK
   gi_wp2
   exact hK _ _ (KeepsFrom.refl _ _) (Below.refl _ _) hi' ⟨_, rfl, rfl, rfl, rfl, rfl, rfl⟩
  case body1 =>
   clear cX cI cC1 cn1
   rintro l pre x a' W3 _ _ ⟨hI3, hbx3, hM3⟩ ⟨t, rfl, ht, q1, q3, q5, q6⟩ hlen'
   obtain ⟨u', rfl⟩ : ∃ u : Nat → Value, t = #[u 0, u 1, u 2, u 3, u 4, u 5, u 6, u 7, u 8, u 9, u 10, u 11, u 12, u 13, u 14, u 15, u 16, u 17, u 18, u 19, u 20, u 21, u 22, u 23, u 24, u 25, u 26, u 27, u 28, u 29, u 30, u 31, u 32, u 33, u 34, u 35, u 36, u 37, u 38, u 39, u 40, u 41, u 42, u 43, u 44, u 45, u 46, u 47, u 48, u 49, u 50] := ⟨fun i => t.getD i undef, (arr_of_size t 51 ht).trans rfl⟩
   replace q1 : u' 1 = _ := q1
   replace q3 : u' 3 = _ := q3
   replace q5 : u' 5 = _ := q5
   replace q6 : u' 6 = _ := q6
   clear ht
   have hxn : x.1 < g.length := elems_below hs2 x.2
   have hel := elems_length s
   have hSp := Span.heads HTM.out i (pre.map (·.1)) _ _ hSP
   rw [List.length_map] at hSp
   have HFS : Hid (((pre ++ [x]).map (·.1)).foldl (headPush g i) o = headPush g i ((pre.map (·.1)).foldl (headPush g i) o) x.1) := Lib.hid (by rw [List.map_append, List.foldl_append]; rfl)
   generalize (pre.map (·.1)).foldl (headPush g i) o = p at hI3 hSp HFS
   have hpl2 := hSp.1
   have cX := hI3.hX.cell
   have cO := hI3.hO.cell
   have cI := hbx3.cell
   have cR1 := hI3.hR.cell i (by omega)
   have cR2 := hI3.hR.cell x.1 (by omega)
   have fR := hI3.hR.frozen i
   have h1 := hSp.2 i
   have h2 := hSp.2 x.1
   have htx := HTM.out x.1
   have HTP : Hid (headPush g i p x.1 = p.set i (max (p.getD i 0) (p.getD x.1 0 + (rdTk g x.1).f0))) := Lib.hid rfl
   have cC0 : W3.cell? ⟨C, 0, none⟩ = some (.slice Ag g.length cg) := pw_cell_below hI3.hB (by have := blk_cell HH.out.1 0; simpa using this)
   obtain ⟨adg, A1, c1, eAg, hx0, _⟩ := at_Tk (Kd.C_below HH.out.2.1 hI3.hB) x.1 hxn
   subst eAg
   generalize p.getD i 0 = a1 at cR1 h1 HTP
   generalize p.getD x.1 0 = a2 at cR2 h2 HTP
   generalize (rdTk g x.1).f0 = tm at hx0 htx HTP
   have hxi : ((x.1 : Nat) : Int) < (g.length : Int) := by omega
   have hig : (i : Int) < (g.length : Int) := by omega
   have hwr : IntKind.i64.wrap (a2 + tm) = a2 + tm := IntWalk.i64_in _ (by omega)
   gi_wp2
   refine wpIn_region_still_tail 21 mixed (by kernel_rfl) (by kernel_rfl) (fun ⟨_, _, h⟩ => h) ?_
   simp only [List.take_succ_cons, List.take_zero, List.drop_succ_cons, List.drop_zero]
   repeat (with_reducible refine wpStill_step (fun K hK => ?_); go_simp; with_reducible refine hK _ ?_; clear hK K)
   with_reducible refine wpStill_nil ?_
   clear hwr
   have hXR : w.heap.size ≠ w.heap.size + 1 := by omega
   have hOR : w.heap.size + 1 + 1 ≠ w.heap.size + 1 := by omega
   have hbR : W.heap.size ≠ w.heap.size + 1 := by omega
   have HF : Hid (∀ z : Int, z = max a1 (a2 + tm) → KeepsFrom (W1.heap.size + 1) W3 (W3.setCell ⟨w.heap.size + 1, i, none⟩ (.int .i64 z)).drew ∧ Below w.heap.size W3 (W3.setCell ⟨w.heap.size + 1, i, none⟩ (.int .i64 z)).drew ∧ THeap w (w.heap.size + 3) g.length C w.heap.size (w.heap.size + 1 + 1) (w.heap.size + 1) (((pre ++ [x]).map (·.1)).foldl (headPush g i) o) (W3.setCell ⟨w.heap.size + 1, i, none⟩ (.int .i64 z)).drew ∧ Boxed (W3.setCell ⟨w.heap.size + 1, i, none⟩ (.int .i64 z)).drew W.heap.size 3 (.int .i64 (i : Int)) ∧ Marks Ds (W3.setCell ⟨w.heap.size + 1, i, none⟩ (.int .i64 z)).drew) := by
    refine Lib.hid fun z hz => ?_
    have hk : KeepsOthers W3 (W3.setCell ⟨w.heap.size + 1, i, none⟩ (.int .i64 z)).drew := (KeepsOthers.setCell _ _ _).trans (KeepsOthers.drew _)
    refine ⟨hk.from _, ((Below.refl _ _).setCell (p := ⟨w.heap.size + 1, i, none⟩) (show w.heap.size ≤ w.heap.size + 1 by omega) _).drew, ?_, blk_far hbx3 hbR _, Marks.set hM3 _ _ ⟨_, _, _, hI3.hR⟩⟩
    rw [HFS.out, HTP.out, ← hz]
    exact (hI3.set hXR hOR (by omega) i z).drew
   go_wp2
   all_goals exact HF.out _ (by omega)
  case done1 =>
   rintro D ys W3 hD hys ⟨hI3, hbx3, hM3⟩ hK3
   rw [hys, ← HTS.out, ← HSN.out] at hI3
   have hM4 := hM3.cons hK3 (fun E hE => by have := hM1.lt E hE; simp at hD; omega)
   have hD2 : w.heap.size ≤ D := by simp at hD; omega
   clear cX cI cC1 cn1 hys
   go_wp2
   refine ⟨⟨_, D :: Ds, k + 1, rfl, rfl, rfl, rfl, rfl, rfl, rfl, by omega, hM4, fun E hE => ?_, hI3⟩, ?_⟩
   ·
    rcases List.mem_cons.1 hE with rfl | hE
    ·
     exact hD2
    ·
     exact hDs E hE
   ·
    show _ - (intOf (Value.int IntKind.i64 ((k : Int) + 1))).toNat < _ - (intOf (u 15)).toNat
    rw [t15]
    simp [intOf]
    omega
 ·
  obtain rfl : k = ol.length := by omega
  have cO := hTH.hO.cell
  have hSP := (heads_span HTM.out ns ol ol.length).1
  rw [← HHN.out] at hTH hSP
  have HTH := Lib.hid hTH
  clear hTH
  go_wp2
  refine leave_marks (B := w.heap.size) (v := .slice (some ⟨w.heap.size + 1, 0, none⟩) g.length g.length) Ds W hM hDs (fun w' hs => ?_)
  have hR : IRow w' (w.heap.size + 1) (headN g ns) := hs.cells _ _ HTH.out.hR rfl
  have hO := hR.own (base := w.heap.size) (by omega) (by rw [hSP]; omega)
  rw [hSP] at hO
  exact ⟨results_tmp (t := 2) rfl _ _ _, _, rfl, hO, hBw.trans hs.below⟩
theorem R_nilH (w : World) (base : Nat) : Kd.R (Kd.int .i64) 3 w base (fun _ => True) (.slice none 0 0) [] := Kd.R_of_own ⟨by simp [encs], .inl ⟨rfl, by simp [encs]⟩⟩ (fun _ _ => trivial)
def headTimesN (g : List Tk) : List Int := match graphN g with
 | some ns => headN g ns
 | none => []
theorem headN_span {g : List Tk} {ns : List Nat} (h : graphN g = some ns) : Span (headN g ns) g.length 3000 := by
 have h1 := heads_span (graphN_time h) ns (ordN ns ns.length).1 (ordN ns ns.length).1.length
 have h2 := (ordN_lt ns ns.length).2.2
 obtain ⟨_, _, h3, h4⟩ := graphN_some h
 exact h1.wide (by omega)
set_option maxRecDepth 100000 in
theorem HeadTimes_impl (A : Option Addr) (c : Nat) (g : List Tk) (w : World) (hr : kTk.C w A g.length g) (hT : Tab w) :
  Calls Tryd.prog 23 #[.slice A g.length c] w fun e W' => ∃ v, e = .returned v ∧ Kd.R (Kd.int .i64) 3 W' w.heap.size (fun _ => True) v (headTimesN g) ∧ Below w.heap.size w W' := by
 cases hd : graphN g with
 | none =>
  have HP := Lib.hid (graphOf_no A c g w hr hd)
  have HF : Hid (headTimesN g = []) := Lib.hid (by unfold headTimesN; rw [hd])
  clear hr hT hd
  go_enter Tryd.func23, Tryd.ntmps23
  go_wp2_with (go_at_call 46; refine HP.out.mono ?_; rintro e w1 ⟨rfl, hB1⟩)
  go_ret
  exact ⟨_, rfl, by rw [HF.out]; exact R_nilH _ _, hB1⟩
 | some ns =>
  have HP := Lib.hid (graphOf_yes A c g ns w hr hT hd)
  have HF : Hid (headTimesN g = headN g ns) := Lib.hid (by unfold headTimesN; rw [hd])
  have HN := Lib.hid (fun (W : World) C (h : IsGraph W C g ns) (hT : Tab W) => heads_calls C g ns hd W h hT)
  have HT := Lib.hid hT
  clear hr hT hd
  go_enter Tryd.func23, Tryd.ntmps23
  go_wp2_with (first | (go_at_call 46; refine HP.out.mono ?_; rintro e w1 ⟨C, rfl, hG, hB1⟩; have HG := Lib.hid hG; have HB1 := Lib.hid hB1; clear hG hB1) | (go_at_call 48; refine (HN.out _ C HG.out (HT.out.keep HT.out.lt HB1.out)).mono ?_; rintro e w3 ⟨v, rfl, hR, hB3⟩))
  go_ret
  have hz := HB1.out.size
  exact ⟨_, rfl, by rw [HF.out]; exact Kd.R_lower hR hz, HB1.out.trans (hB3.mono hz)⟩
end Go.Proofs.YtnbkkiacffkfmaaDoor

namespace Go.Proofs.YtnbkkiacffkfmaaDoor
set_option linter.unusedVariables false
set_option linter.unusedSimpArgs false
open Go.RowKit Go.Shelf Bits
theorem headPush_le {g : List Tk} {st : List Int} {i k : Nat} (hk : k < g.length) (hn : st.getD k 0 + (rdTk g k).f0 ≤ st.getD i 0) {o : List Int} (h : ∀ j, j < g.length → o.getD j 0 ≤ st.getD j 0) : ∀ j, j < g.length → (headPush g i o k).getD j 0 ≤ st.getD j 0 := fun j hj => by
 unfold headPush
 rw [getD_setL]
 have h1 := h j hj
 have h2 := h k hk
 split
 ·
  rename_i hc
  rw [hc.1] at h1 ⊢
  omega
 ·
  exact h1
theorem headFold_le {g : List Tk} {st : List Int} {i : Nat} : ∀ (l : List Nat), (∀ k ∈ l, k < g.length ∧ st.getD k 0 + (rdTk g k).f0 ≤ st.getD i 0) → ∀ o : List Int, (∀ j, j < g.length → o.getD j 0 ≤ st.getD j 0) → ∀ j, j < g.length → (l.foldl (headPush g i) o).getD j 0 ≤ st.getD j 0
 | [], _, o, h => h
 | k :: l, hl, o, h => headFold_le l (fun x hx => hl x (List.mem_cons_of_mem _ hx)) _ (headPush_le (hl k List.mem_cons_self).1 (hl k List.mem_cons_self).2 h)
theorem heads_le {g : List Tk} {ns : List Nat} (hg : graphN g = some ns) {rm : List Int} {wk : Int} {st : List Int} (h : Valid g rm wk st) : ∀ k j, j < g.length → (headsL g ns (ordN ns ns.length).1 k).getD j 0 ≤ st.getD j 0
 | 0, j, hj => by
  unfold headsL
  rw [List.take_zero, List.foldl_nil, List.getD_eq_getElem?_getD, List.getElem?_replicate, if_pos hj]
  exact (h.b j hj).1
 | k + 1, j, hj => by
  have ih := heads_le hg h k
  by_cases hk : k < (ordN ns ns.length).1.length
  ·
   rw [headsL_snoc g ns _ hk]
   have ha := graphN_all hg
   have hin : (ordN ns ns.length).1.getD k 0 < g.length := by
    rw [← ha.2.1]
    apply (ordN_lt ns ns.length).2.1
    rw [List.getD_eq_getElem?_getD, List.getElem?_eq_getElem hk]
    exact List.getElem_mem _
   refine headFold_le _ (fun x hx => ?_) _ ih j hj
   have hb := elems_bit hx
   rw [setOfN_bits (ha.2.2 _ hin).2] at hb
   have hm := of_decide_eq_true hb
   have := spec_needs_in h.v _ hin _ hm
   exact ⟨by omega, h.needs _ hin x hm⟩
  ·
   have : headsL g ns (ordN ns ns.length).1 (k + 1) = headsL g ns (ordN ns ns.length).1 k := by
    unfold headsL
    rw [List.take_of_length_le (by omega), List.take_of_length_le (by omega)]
   rw [this]
   exact ih j hj
theorem head_law {g : List Tk} {rm : List Int} {wk : Int} {st : List Int} (h : Valid g rm wk st) : (headTimesN g).length = st.length ∧ ∀ j, j < st.length → (headTimesN g).getD j 0 ≤ st.getD j 0 := by
 obtain ⟨ns, hg⟩ := graphN_yes h.v
 have e : headTimesN g = headN g ns := by unfold headTimesN; rw [hg]
 rw [e, h.len]
 exact ⟨(headN_span hg).1, fun j hj => heads_le hg h _ j hj⟩
theorem nodup_get {o : List Nat} (hn : o.Nodup) {i j : Nat} (hi : i < o.length) (hj : j < o.length) (h : o[i] = o[j]) : i = j := by
 first | exact (List.getElem_inj hn).1 h | exact (List.Nodup.getElem_inj_iff hn).1 h
theorem len_one {i : Nat} : ∀ {l : List Nat}, l.Nodup → (∀ x ∈ l, x = i) → l.length ≤ 1
 | [], _, _ => by simp
 | [a], _, _ => by simp
 | a :: b :: t, hn, h => by
  have h1 := h a (by simp)
  have h2 := h b (by simp)
  rw [h1, h2] at hn
  have := (List.nodup_cons.1 hn).1
  exact absurd (List.mem_cons_self) this
def rowT (g : List Tk) (o : List Nat) : Nat → Int × List Int
 | 0 => (0, List.replicate g.length 0)
 | k + 1 => ((rowT g o k).1 + (rdTk g (o.getD k 0)).f0, (rowT g o k).2.set (o.getD k 0) (rowT g o k).1)
theorem rowT_len (g : List Tk) (o : List Nat) : ∀ k, (rowT g o k).2.length = g.length
 | 0 => by simp [rowT]
 | k + 1 => by
  unfold rowT
  rw [List.length_set]
  exact rowT_len g o k
theorem rowT_time {g : List Tk} (hok : TOk g) (o : List Nat) : ∀ k : Nat, 0 ≤ (rowT g o k).1 ∧ (rowT g o k).1 ≤ 20 * k
 | 0 => by simp [rowT]
 | k + 1 => by
  have ih := rowT_time hok o k
  have := hok.2.1 (o.getD k 0)
  unfold rowT
  show 0 ≤ (rowT g o k).1 + _ ∧ (rowT g o k).1 + _ ≤ _
  omega
theorem rowT_mono {g : List Tk} (hok : TOk g) (o : List Nat) (k : Nat) : ∀ d, (rowT g o k).1 ≤ (rowT g o (k + d)).1
 | 0 => Int.le_refl _
 | d + 1 => by
  have ih := rowT_mono hok o k d
  have := hok.2.1 (o.getD (k + d) 0)
  show _ ≤ (rowT g o (k + d)).1 + (rdTk g (o.getD (k + d) 0)).f0
  omega
theorem rowT_get {g : List Tk} {o : List Nat} (hn : o.Nodup) (hl : ∀ i ∈ o, i < g.length) {k : Nat} (hk : k < o.length) : ∀ m, k < m → m ≤ o.length → (rowT g o m).2.getD (o.getD k 0) 0 = (rowT g o k).1
 | 0, h, _ => absurd h (Nat.not_lt_zero _)
 | m + 1, h, hm => by
  show ((rowT g o m).2.set (o.getD m 0) (rowT g o m).1).getD (o.getD k 0) 0 = _
  have hmem : o.getD m 0 ∈ o := by
   rw [List.getD_eq_getElem?_getD, List.getElem?_eq_getElem (by omega)]
   exact List.getElem_mem _
  rw [getD_setI _ _ _ _ (by rw [rowT_len]; exact hl _ hmem)]
  by_cases e : k = m
  ·
   subst e
   rw [if_pos rfl]
  ·
   rw [if_neg (fun e2 => by
    rw [List.getD_eq_getElem?_getD, List.getElem?_eq_getElem hk, List.getD_eq_getElem?_getD, List.getElem?_eq_getElem (show m < o.length by omega)] at e2
    exact e (nodup_get hn hk (by omega) e2))]
   exact rowT_get hn hl hk m (by omega) (by omega)
theorem row_step {g : List Tk} (hok : TOk g) (o : List Nat) {p q : Nat} (h : p < q) : (rowT g o p).1 + (rdTk g (o.getD p 0)).f0 ≤ (rowT g o q).1 := by
 have := rowT_mono hok o (p + 1) (q - (p + 1))
 rw [show p + 1 + (q - (p + 1)) = q by omega] at this
 exact this
theorem row_valid {g : List Tk} (hv : specValid g = true) {rm : List Int} (hrm : roomB rm = true) : Valid g rm 1 (rowT g (topL g) (topL g).length).2 := by
 have hok := specValid_TOk hv
 have hf := topN_facts g g.length
 have hnd : (topL g).Nodup := hf.1
 have hlt : ∀ i ∈ topL g, i < g.length := hf.2.1
 have hlen : (topL g).length = g.length := topL_len hv
 have htopo : Topo g (topL g) := topo_topN g g.length
 have hpos : ∀ i, i < g.length → ∃ p, p < (topL g).length ∧ (topL g).getD p 0 = i := fun i hi => by
  obtain ⟨p, hp, e⟩ := List.getElem_of_mem (top_all hv hi)
  exact ⟨p, hp, by rw [List.getD_eq_getElem?_getD, List.getElem?_eq_getElem hp]; exact e⟩
 have hget : ∀ p, p < (topL g).length → (rowT g (topL g) (topL g).length).2.getD ((topL g).getD p 0) 0 = (rowT g (topL g) p).1 := fun p hp => rowT_get hnd hlt hp _ hp (Nat.le_refl _)
 have hRl := rowT_len g (topL g) (topL g).length
 generalize topL g = o at hnd hlt hlen htopo hpos hget hRl ⊢
 generalize (rowT g o o.length).2 = R at hget hRl ⊢
 refine ⟨hv, by unfold placeB; rw [hrm]; rfl, hRl, fun i hi => ?_, fun i hi => ?_⟩
 ·
  obtain ⟨p, hp, e⟩ := hpos i hi
  rw [← e, hget p hp]
  have := rowT_time hok o p
  have := hok.1
  omega
 ·
  obtain ⟨p, hp, e⟩ := hpos i hi
  have hRi : R.getD i 0 = (rowT g o p).1 := by rw [← e, hget p hp]
  have hrun : ∀ x ∈ runS g R (R.getD i 0), x = i := fun x hx => by
   unfold runS at hx
   rw [List.mem_filter, List.mem_range] at hx
   have h2 := runB_iff.1 hx.2
   obtain ⟨q, hq, e2⟩ := hpos x hx.1
   have hRx : R.getD x 0 = (rowT g o q).1 := by rw [← e2, hget q hq]
   rw [hRi, hRx] at h2
   by_cases h3 : q < p
   ·
    have := row_step hok o h3
    rw [e2] at this
    omega
   ·
    by_cases h4 : p < q
    ·
     have := row_step hok o h4
     rw [e] at this
     have := hok.2.2.2.2 i hi
     omega
    ·
     have : q = p := by omega
     rw [← e2, ← e, this]
  have hn : (runS g R (R.getD i 0)).Nodup := List.Pairwise.filter _ (List.nodup_range (n := g.length))
  have hl1 := len_one hn hrun
  refine ⟨fun k hk => ?_, by omega, fun pl hpl => ?_⟩
  ·
   have hk2 := htopo p hp k (by rw [e]; exact hk)
   obtain ⟨q, hq, e2⟩ := List.getElem_of_mem hk2
   rw [List.length_take] at hq
   have hqo : q < o.length := by omega
   rw [List.getElem_take] at e2
   have e3 : o.getD q 0 = k := by rw [List.getD_eq_getElem?_getD, List.getElem?_eq_getElem hqo]; exact e2
   have hRk : R.getD k 0 = (rowT g o q).1 := by rw [← e3, hget q hqo]
   rw [hRi, hRk]
   have := row_step hok o (show q < p by omega)
   rw [e3] at this
   exact this
  ·
   have h5 := (usedS_bound hok (pl : Nat) (runS g R (R.getD i 0))).2
   have h6 := (roomB_facts hrm).2 pl hpl
   omega
end Go.Proofs.YtnbkkiacffkfmaaDoor
