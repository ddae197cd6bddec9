/- Parts of the proof, laid as one text by a program of mine. -/
import Derived.Test.YtkljcdghbefceaaGreatDoorKbtc4
import Derived.StillTailTactics
import Derived.Test.YtkljcdghbefceaaGreatDoorKbtc3
import Derived.Deep.QuietTactic
import Derived.BigQuiet
namespace Go.Proofs.YtkljcdghbefceaaGreatDoor
set_option linter.unusedVariables false
set_option linter.unusedSimpArgs false
open Go.RowKit Go.Shelf Bits
open Go.Proofs.YtkljcdghbefceaaGreatDoorW.PrintWords Go.Proofs.YtkljcdghbefceaaGreatDoorW.PrintLast Go.Proofs.YtkljcdghbefceaaGreatDoorW.PrintMore
attribute [local go_sem] Oper.semAt_some
def zeroI (n : Nat) : Array Value := ((List.replicate n (0 : Int)).map (Value.int .i64)).toArray
theorem madeI (n : Nat) : madeCells #[Value.int .i64 0] n = zeroI n := by
 unfold zeroI
 apply Array.ext
 ·
  simp [madeCells]
 ·
  intro i h1 h2
  simp [madeCells, Nat.mod_one]
theorem run_makeI (n : Nat) (hn : n ≤ 1000000) (W : World) : (Instr.makeSlice 24 (Value.int IntKind.i64 (n : Int)) (Value.int IntKind.i64 (n : Int))).run Tryz.prog W = .ok (.slice (some ⟨W.heap.size, 0, none⟩) n n) (W.alloc (.cells (zeroI n) 3)) := by
 obtain ⟨i0, hi, hz0, hz1, hz2⟩ := info_parts infoInt
 rw [← madeI]
 have := run_make (P := Tryz.prog) W 24 3 i0 (.int .i64 0) Tryz.underlying24 hi hz0 .i64 .i64 (n : Int) (n : Int) (by omega) (by omega) (by rw [hz2]; omega) (by omega)
 simpa [hz1, Value.cells] using this
def tailN (g : List Tk) (ns : List Nat) : List Int := tailsL g ns (ordN ns ns.length).1 (backL (ordN ns ns.length).1.length (ordN ns ns.length).1.length)
set_option maxRecDepth 100000 in
set_option maxHeartbeats 8000000 in
theorem tails_calls (C : Nat) (g : List Tk) (ns : List Nat) (hgr : graphN g = some ns) (w : World) (hG : IsGraph w C g ns) (hT : Tab w) :
  Calls Tryz.prog 21 #[.pointer (some ⟨C, 0, none⟩)] w fun e w' => ∃ v, e = .returned v ∧ Kd.R (Kd.int .i64) 3 w' w.heap.size (fun _ => True) v (tailN g ns) ∧ Below w.heap.size w w' := by
 obtain ⟨hn, hd, hlen, hnl⟩ := graphN_some hgr
 have HGR := Lib.hid hgr
 have HN := Lib.hid hn
 have HNL := Lib.hid hnl
 have HG := Lib.hid hG
 obtain ⟨Ag, cg, An, cn, Ao, co, vb, va, h1, h2, h3, h4⟩ := hG
 have hCl := blk_lt h1
 have cC := blk_cell h1 2
 simp at cC
 have HH := Lib.hid (And.intro h1 (And.intro h2 (And.intro h3 h4)))
 have hmk := run_makeI g.length (by omega)
 have hol := (ordN_lt ns ns.length).2.2
 have cC3 : ∀ o1 o2 o3 : Obj, (((w.alloc o1).alloc o2).alloc o3).cell? ⟨C, 2, none⟩ = some (.slice Ao (ordN ns ns.length).1.length co) := fun o1 o2 o3 => pw_cell_below ((((Below.refl _ w).alloc (Nat.le_refl _) o1).alloc (by simp) o2).alloc (by simp; omega) o3) cC
 clear h1 h2 h3 h4 hgr hn hd hnl cC
 refine calls_of_wp_marks Tryz.func21 rfl ?_
 simp only [Tryz.ntmps21, List.size_toArray, List.length_cons, List.length_nil, Nat.reduceAdd, Nat.reduceSub, Array.replicate_succ, Array.replicate_zero, List.push_toArray, List.append_toArray, List.nil_append, List.cons_append]
 go_wp2_with (first | (go_at_call 25; refine (size_calls _ C g ns (HG.out.below ((Below.refl _ _).alloc (Nat.le_refl _) _))).mono ?_; rintro e w' ⟨rfl, rfl⟩) | (go_at_call 52; refine (backward_calls _ _ _ _).mono ?_; rintro e w' ⟨rfl, rfl⟩))
 obtain ⟨X, hXe⟩ : ∃ X, X = w.heap.size := ⟨_, rfl⟩
 obtain ⟨m, hm⟩ : ∃ m, m = (ordN ns ns.length).1.length := ⟨_, rfl⟩
 obtain ⟨W0, hW0⟩ : ∃ W0, W0 = (((w.alloc (.cells #[.pointer (some ⟨C, 0, none⟩)] 36)).alloc (.cells (zeroI g.length) 3)).alloc (.cells #[.slice (some ⟨w.heap.size + 1, 0, none⟩) g.length g.length] 24)).alloc (.cells #[.slice Ao (ordN ns ns.length).1.length co] 24) := ⟨_, rfl⟩
 have hB0 : Below w.heap.size w W0 := by rw [hW0]; exact ((((Below.refl _ w).alloc (Nat.le_refl _) _).alloc (by simp) _).alloc (by simp; omega) _).alloc (by simp; omega) _
 have hnl8 : ns.length ≤ 8 := by have := HNL.out; omega
 have hz0 : W0.heap.size = w.heap.size + 1 + 1 + 1 + 1 := by rw [hW0]; simp
 have hbB : Boxed W0 (w.heap.size + 1 + 1 + 1) 24 (.slice Ao (ordN ns ns.length).1.length co) := by rw [hW0]; have := Boxed.new (((w.alloc (.cells #[.pointer (some ⟨C, 0, none⟩)] 36)).alloc (.cells (zeroI g.length) 3)).alloc (.cells #[.slice (some ⟨w.heap.size + 1, 0, none⟩) g.length g.length] 24)) 24 (.slice Ao (ordN ns ns.length).1.length co); rwa [World.size_alloc, World.size_alloc, World.size_alloc] at this
 have hTH : THeap w (w.heap.size + 4) g.length C w.heap.size (w.heap.size + 1 + 1) (w.heap.size + 1) (List.replicate g.length 0) W0 := by
  refine ⟨?_, ?_, ?_, hB0, by rw [hz0]; omega⟩ <;> rw [hW0]
  ·
   exact (((Boxed.new w _ _).alloc _).alloc _).alloc _
  ·
   have := (Boxed.new ((w.alloc (.cells #[.pointer (some ⟨C, 0, none⟩)] 36)).alloc (.cells (zeroI g.length) 3)) 24 (.slice (some ⟨w.heap.size + 1, 0, none⟩) g.length g.length)).alloc (.cells #[.slice Ao (ordN ns ns.length).1.length co] 24)
   rwa [World.size_alloc, World.size_alloc] at this
  ·
   have h0 : (w.alloc (.cells #[.pointer (some ⟨C, 0, none⟩)] 36)).heap.size = w.heap.size + 1 := by simp
   have := World.alloc_heap_new (w.alloc (.cells #[.pointer (some ⟨C, 0, none⟩)] 36)) (.cells (zeroI g.length) 3)
   rw [h0] at this
   exact (Below.heap_alloc _ _ _ (by simp)).trans ((Below.heap_alloc _ _ _ (by simp)).trans this)
 rw [← hW0]
 clear hW0 cC3 hmk
 have hord := (ordN_lt ns ns.length).2.1
 have HORD := Lib.hid hord
 have hCo : (Kd.int .i64).C W0 Ao (ints (ordN ns ns.length).1).length (ints (ordN ns ns.length).1) := by rw [ints_length]; exact Kd.C_below HH.out.2.2.2 hB0
 obtain ⟨Aq, hA', hAl⟩ : ∃ Aq : Option Addr, (∀ ad, Ao = some ad → 0 < (ints (ordN ns ns.length).1).length → Aq = some ad) ∧ (∀ ad, Aq = some ad → ad.block < w.heap.size) := by
  refine ⟨if (ordN ns ns.length).1.length = 0 then none else Ao, fun ad e hl => ?_, fun ad e => ?_⟩
  ·
   rw [ints_length] at hl
   rw [if_neg (by omega)]
   exact e
  ·
   split at e
   ·
    cases e
   ·
    obtain ⟨ad', e', hc⟩ := at_num HH.out.2.2.2 0 (by omega)
    rw [e] at e'
    cases e'
    have := World.block_lt_of_cell? w _ hc
    have e2 : (ad.add 0).block = ad.block := by unfold Addr.add; split <;> rfl
    rwa [e2] at this
 have htl := hT.lt
 clear hord hXe hm
 have hil := ints_length (ordN ns ns.length).1
 refine wp_rangeBack (w.heap.size + 1 + 1 + 1) Ao Aq co (ints (ordN ns ns.length).1) hA' (by rw [hil]; omega) rfl (by rw [hz0]; omega) (by rw [hil]; exact hbB.cell) hCo (fun ad e => by have := hAl ad e; omega)
  (fun pre W => THeap w (w.heap.size + 4) g.length C w.heap.size (w.heap.size + 1 + 1) (w.heap.size + 1) (tailsL g ns (ordN ns ns.length).1 (pre.map (·.1))) W) (fun _ _ _ => False)
  (THeap.own _ (by rw [hz0]; omega)) (fun _ _ _ _ _ h _ _ => h) hTH
  (fun x a' W' => ∃ (t : Array Value) (b : Nat), a' = { tmps := t, defers := [] } ∧ t.size = 53 ∧ t.getD 1 undef = .pointer (some ⟨w.heap.size, 0, none⟩) ∧ t.getD 3 undef = .pointer (some ⟨w.heap.size + 1 + 1, 0, none⟩) ∧ t.getD 5 undef = .pointer (some ⟨b, 0, none⟩) ∧ W0.heap.size ≤ b ∧ Boxed W' b 3 (.int .i64 ((ints (ordN ns ns.length).1).getD x.1 0)))
  (fun x a' s W1 W2 row h hg hr => by
   obtain ⟨t, b, q1, q2, q3, q4, q5, q6, q7⟩ := h
   exact ⟨t, b, q1, q2, q3, q4, q5, q6, (Own.from (boxed_own b 3 (fun _ : Unit => _)) _) () W1 W2 row q7 hg hr⟩) ?assign ?body ?done ?stop
 case stop => exact fun _ _ _ _ _ h _ => h.elim
 case assign =>
  intro l pre x W K hI hK
  generalize (ints (ordN ns ns.length).1).getD x.1 0 = z at hK ⊢
  have hWs := hI.hB.size
  gi_wp2
  exact hK _ _ ((KeepsOthers.alloc _ _).from _) (KeepB.below ((Below.refl _ _).alloc (Nat.le_refl _) _)) (hI.alloc _) ⟨_, W.heap.size, rfl, rfl, rfl, rfl, rfl, by have := hI.hn; omega, Boxed.new _ _ _⟩
 case body =>
  rintro l pre x a' W hlW ⟨lr, hlr⟩ hI ⟨t, b, rfl, ht, t1, t3, t5, hb1, hbx⟩ hlen'
  obtain ⟨u, rfl⟩ : ∃ u : Nat → Value, t = #[u 0, u 1, u 2, u 3, u 4, u 5, u 6, u 7, u 8, u 9, u 10, u 11, u 12, u 13, u 14, u 15, u 16, u 17, u 18, u 19, u 20, u 21, u 22, u 23, u 24, u 25, u 26, u 27, u 28, u 29, u 30, u 31, u 32, u 33, u 34, u 35, u 36, u 37, u 38, u 39, u 40, u 41, u 42, u 43, u 44, u 45, u 46, u 47, u 48, u 49, u 50, u 51, u 52] := ⟨fun i => t.getD i undef, (arr_of_size t 53 ht).trans rfl⟩
  replace t1 : u 1 = _ := t1
  replace t3 : u 3 = _ := t3
  replace t5 : u 5 = _ := t5
  clear ht
  rw [ints_getD] at hbx
  have hxl : x.1 < (ordN ns ns.length).1.length := by rw [← hil]; exact x.2
  have hin : (ordN ns ns.length).1.getD x.1 0 < g.length := by
   rw [← HNL.out]
   apply HORD.out
   rw [List.getD_eq_getElem?_getD, List.getElem?_eq_getElem hxl]
   exact List.getElem_mem _
  have hSP := tails_span (g := g) (ns := ns) (ord := (ordN ns ns.length).1) (graphN_time HGR.out) (pre.map (·.1))
  have hSN := tailsL_snoc g ns (ordN ns ns.length).1 (pre.map (·.1)) x.1
  have HSN : Hid (tailsL g ns (ordN ns ns.length).1 ((pre ++ [x]).map (·.1)) = tailStep g ns (tailsL g ns (ordN ns ns.length).1 (pre.map (·.1))) ((ordN ns ns.length).1.getD x.1 0)) := Lib.hid (by rw [List.map_append, List.map_cons, List.map_nil]; exact hSN)
  clear hSN
  have hpl : pre.length < 8 := by omega
  rw [List.length_map] at hSP
  generalize tailsL g ns (ordN ns ns.length).1 (pre.map (·.1)) = o at hI hSP HSN
  generalize (ordN ns ns.length).1.getD x.1 0 = i at hbx hin HSN
  obtain ⟨h1, h2, h3, _⟩ := HH.out
  have hBw := hI.hB
  have h1' : W.heap[C]? = _ := (hBw.block C hCl).trans h1
  have cC0 := blk_cell h1' 0
  have cC1 := blk_cell h1' 1
  simp at cC0 cC1
  obtain ⟨adg, A1, c1, rfl, hx0, _⟩ := at_Tk (Kd.C_below h2 hBw) i hin
  obtain ⟨adn, rfl, hn1⟩ := at_set (Kd.C_below h3 hBw) i (by rw [HNL.out]; exact hin)
  have hnl := HNL.out
  have hin2 : i < ns.length := by omega
  have hs := needsN_lt HN.out i
  have hs2 := needsN_pow HN.out i
  have htm := graphN_time HGR.out i
  have hol' : o.length = g.length := hSP.1
  have cX := hI.hX.cell
  have cO := hI.hO.cell
  have cI := hbx.cell
  have cR := hI.hR.cell i (by omega)
  have fR := hI.hR.frozen i
  have hoi := hSP.2 i
  have HTS : Hid (tailStep g ns o i = (elems (ns.getD i 0)).foldl (tailPush i) (o.set i (o.getD i 0 + (rdTk g i).f0))) := Lib.hid rfl
  have HOI : Hid (o.getD i 0 = o.getD i 0) := Lib.hid rfl
  generalize hy : o.getD i 0 = y at cR hoi HTS
  generalize htq : (rdTk g i).f0 = tm at hx0 htm HTS
  generalize hsq : ns.getD i 0 = s at hn1 hs hs2 HTS
  have HY := Lib.hid hy
  have HSQ := Lib.hid hsq
  clear h1 h2 h3 h1' hy htq hsq HOI hnl
  have hii : (i : Int) < (g.length : Int) := by omega
  have hii2 : (i : Int) < (ns.length : Int) := by omega
  have hwr : IntKind.i64.wrap (y + tm) = y + tm := IntWalk.i64_in _ (by omega)
  gi_wp2
  refine wpIn_region_still_tail 14 mixed (by kernel_rfl) (by kernel_rfl) (fun ⟨_, _, h⟩ => h) ?_
  simp only [List.take_succ_cons, List.take_zero, List.drop_succ_cons, List.drop_zero]
  repeat (with_reducible refine wpStill_step (fun K hK => ?_); go_simp; with_reducible refine hK _ ?_; clear hK K)
  with_reducible refine wpStill_nil ?_
  clear hwr
  go_wp2
  have hXR : w.heap.size ≠ w.heap.size + 1 := by omega
  have hOR : w.heap.size + 1 + 1 ≠ w.heap.size + 1 := by omega
  have hWn := hI.hn
  have hbR : b ≠ w.heap.size + 1 := by omega
  obtain ⟨W1, hW1⟩ : ∃ W1, W1 = (W.setCell ⟨w.heap.size + 1, i, none⟩ (.int .i64 (y + tm))).drew := ⟨_, rfl⟩
  have hI1 : THeap w (w.heap.size + 4) g.length C w.heap.size (w.heap.size + 1 + 1) (w.heap.size + 1) (o.set i (y + tm)) W1 := by rw [hW1]; exact (hI.set hXR hOR (by omega) i (y + tm)).drew
  have hbx1 : Boxed W1 b 3 (.int .i64 (i : Int)) := by rw [hW1]; exact blk_far hbx hbR _
  have hKF1 : KeepsOthers W W1 := by rw [hW1]; exact (KeepsOthers.setCell _ _ _).trans (KeepsOthers.drew _)
  have hKB1 : KeepB (w.heap.size + 1 + 1 + 1) Aq W W1 := by
   rw [hW1]
   exact KeepB.set W ⟨w.heap.size + 1, i, none⟩ _ (show w.heap.size + 1 + 1 + 1 ≠ w.heap.size + 1 by omega) (fun ad e => show ad.block ≠ w.heap.size + 1 by have := hAl ad e; omega)
  have hlr1 : W1.heap[l]? = some (.loop lr) := hKF1.same l _ hlr rfl
  have hz1 : W1.heap.size = W.heap.size := by rw [hW1]; simp [World.setCell, World.drew]
  rw [← hW1]
  have HI := Lib.hid hI1
  have HK1 := Lib.hid (And.intro hKF1 (And.intro hKB1 hlr1))
  clear hW1 cX cO cI cR fR cC0 cC1 hI hbx hBw hKF1 hKB1 hlr1
  have hBw1 := hI1.hB
  have cC1 : W1.cell? ⟨C, 1, none⟩ = some (.slice (some adn) ns.length cn) := pw_cell_below hBw1 (by have := blk_cell HH.out.1 1; simpa using this)
  have cn1 : W1.cell? (adn.add i) = some (.int .u16 (s : Nat)) := by
   obtain ⟨ad', e', hc⟩ := at_set (Kd.C_below HH.out.2.2.1 hBw1) i hin2
   cases e'
   rw [hc, HSQ.out]
  have HZ1 := Lib.hid hz1
  clear hz1
  have cX := hI1.hX.cell
  have cI := hbx1.cell
  gi_wp2
  refine wpIn_region_still_tail 7 mixed (by kernel_rfl) (by kernel_rfl) (fun ⟨_, _, h⟩ => h) ?_
  simp only [List.take_succ_cons, List.take_zero, List.drop_succ_cons, List.drop_zero]
  repeat (with_reducible refine wpStill_step (fun K hK => ?_); go_simp; with_reducible refine hK _ ?_; clear hK K)
  with_reducible refine wpStill_nil ?_
  go_wp2_with (go_at_call 47; refine (all_calls s _).mono ?_; rintro e w' ⟨rfl, rfl⟩)
  gi_wp2
  obtain ⟨W2, hW2⟩ : ∃ W2, W2 = (W1.alloc (.cells #[.int .u16 s] 46)).drew := ⟨_, rfl⟩
  have hI2 : THeap w (w.heap.size + 4) g.length C w.heap.size (w.heap.size + 1 + 1) (w.heap.size + 1) (o.set i (y + tm)) W2 := by rw [hW2]; exact (hI1.alloc _).drew
  have hbx2 : Boxed W2 b 3 (.int .i64 (i : Int)) := by rw [hW2]; exact hbx1.alloc _
  have hset2 : Boxed W2 W1.heap.size 46 (.int .u16 s) := by rw [hW2]; exact Boxed.new W1 _ _
  have hKF2 : KeepsOthers W W2 := by rw [hW2]; exact HK1.out.1.trans ((KeepsOthers.alloc _ _).trans (KeepsOthers.drew _))
  have hKB2 : KeepB (w.heap.size + 1 + 1 + 1) Aq W W2 := by rw [hW2]; exact HK1.out.2.1.trans (KeepB.below (((Below.refl _ _).alloc (Nat.le_refl _) _).drew))
  have hlr2 : W2.heap[l]? = some (.loop lr) := by rw [hW2]; exact (KeepsOthers.alloc _ _).same l _ HK1.out.2.2 rfl
  have hz2 : W2.heap.size = W1.heap.size + 1 := by rw [hW2]; exact World.size_alloc _ _
  rw [← hW2]
  have hbw2 := hbx2.lt
  clear hW2 hI1 hBw1 cX cI cC1 cn1
  have hn1 := HI.out.hn
  refine wpIn_rangeSetN (l₀ := l) (r₀ := lr) s W1.heap.size w.heap.size hs ?hl0 rfl (by omega) ?hc0 ?hT0 (by have := hI2.hB.size; omega) htl
   (fun pre2 W' => THeap w (w.heap.size + 4) g.length C w.heap.size (w.heap.size + 1 + 1) (w.heap.size + 1) ((pre2.map (·.1)).foldl (tailPush i) (o.set i (y + tm))) W' ∧ Boxed W' b 3 (.int .i64 (i : Int)) ∧ KeepsFrom W0.heap.size W W' ∧ KeepB (w.heap.size + 1 + 1 + 1) Aq W W') (fun _ _ _ => False) ?hI ?hIx ?h0
   (fun x => { tmps := #[u 0, .pointer (some ⟨w.heap.size, 0, none⟩), u 2, .pointer (some ⟨w.heap.size + 1 + 1, 0, none⟩), u 4, .pointer (some ⟨b, 0, none⟩), .int .i64 (x.1 : Nat), u 7, u 8, u 9, u 10, u 11, u 12, u 13, u 14, u 15, u 16, .slice (some ⟨w.heap.size + 1, 0, none⟩) g.length g.length, .int .i64 (i : Int), .pointer (some ⟨w.heap.size + 1, i, none⟩), .int .i64 y, .pointer (some ⟨C, 0, none⟩), .pointer (some ⟨C, 0, none⟩), .pointer (some ⟨C, 0, none⟩), .slice (some adg) g.length cg, .int .i64 (i : Int), .pointer (some (adg.add (i * 4))), .pointer (some (adg.add (i * 4))), .int .i64 tm, .int .i64 (y + tm), .pointer (some ⟨w.heap.size + 1, i, none⟩), .pointer (some ⟨C, 0, none⟩), .pointer (some ⟨C, 0, none⟩), .pointer (some ⟨C, 1, none⟩), .slice (some adn) ns.length cn, .int .i64 (i : Int), .pointer (some (adn.add i)), .int .u16 s, .func (.func 74) #[] #[.pointer (some ⟨W1.heap.size, 0, none⟩)], .int .i64 (x.1 : Nat), u 40, u 41, u 42, u 43, u 44, u 45, u 46, u 47, u 48, u 49, u 50, u 51, u 52], defers := [] }) ?assign2 ?body2 ?done2 ?stop2
  case hl0 => exact hlr2
  case hc0 => exact hset2.cell
  case hT0 => exact hT.keep htl hI2.hB
  case hI =>
   exact (THeap.own _ (by omega)).and ((Own.from (boxed_own b 3 (fun _ => _)) _).and ((ownFrom_keepsFrom (by have := HK1.out.1.size; omega)).and (ownFrom_keepB (by omega) (fun ad e => by have := hAl ad e; omega))))
  case hIx => exact fun _ _ _ _ _ h _ _ => h
  case h0 => exact ⟨hI2, hbx2, hKF2.from _, hKB2⟩
  case stop2 => exact fun _ _ _ h => h.elim
  case assign2 =>
   intro l2 x2 W3 K hK
   gi_wp2
   exact hK
  case body2 =>
   rintro l2 pre2 x2 W3 ⟨hI3, hbx3, hKF3, hKB3⟩ hlt2
   have hx2n : x2.1 < g.length := elems_below hs2 x2.2
   have hSp := Span.pushes i (pre2.map (·.1)) _ (hSP.set (b' := 20 * pre.length + 20) (x := y + tm) (by omega) (by omega) i)
   have HFS : Hid (((pre2 ++ [x2]).map (·.1)).foldl (tailPush i) (o.set i (y + tm)) = tailPush i ((pre2.map (·.1)).foldl (tailPush i) (o.set i (y + tm))) x2.1) := Lib.hid (by rw [List.map_append, List.foldl_append]; rfl)
   generalize (pre2.map (·.1)).foldl (tailPush i) (o.set i (y + tm)) = p at hI3 hSp HFS
   have hpl2 := hSp.1
   have cO := hI3.hO.cell
   have cI := hbx3.cell
   have cR1 := hI3.hR.cell x2.1 (by omega)
   have cR2 := hI3.hR.cell i (by omega)
   have fR := hI3.hR.frozen x2.1
   have h1 := hSp.2 x2.1
   have h2 := hSp.2 i
   have HTP : Hid (tailPush i p x2.1 = p.set x2.1 (max (p.getD x2.1 0) (p.getD i 0))) := Lib.hid rfl
   generalize p.getD x2.1 0 = a1 at cR1 h1 HTP
   generalize p.getD i 0 = a2 at cR2 h2 HTP
   have hxi : ((x2.1 : Nat) : Int) < (g.length : Int) := by omega
   clear hz0 hz2
   gi_wp2
   refine wpIn_region_still_tail 12 mixed (by kernel_rfl) (by kernel_rfl) (fun ⟨_, _, h⟩ => h) ?_
   simp only [List.take_succ_cons, List.take_zero, List.drop_succ_cons, List.drop_zero]
   repeat (with_reducible refine wpStill_step (fun K hK => ?_); go_simp; with_reducible refine hK _ ?_; clear hK K)
   with_reducible refine wpStill_nil ?_
   have HF : Hid (∀ z : Int, z = max a1 a2 → KeepsFrom W2.heap.size W3 (W3.setCell ⟨w.heap.size + 1, x2.1, none⟩ (.int .i64 z)).drew ∧ Below w.heap.size W3 (W3.setCell ⟨w.heap.size + 1, x2.1, none⟩ (.int .i64 z)).drew ∧ THeap w (w.heap.size + 4) g.length C w.heap.size (w.heap.size + 1 + 1) (w.heap.size + 1) (((pre2 ++ [x2]).map (·.1)).foldl (tailPush i) (o.set i (y + tm))) (W3.setCell ⟨w.heap.size + 1, x2.1, none⟩ (.int .i64 z)).drew ∧ Boxed (W3.setCell ⟨w.heap.size + 1, x2.1, none⟩ (.int .i64 z)).drew b 3 (.int .i64 (i : Int)) ∧ KeepsFrom W0.heap.size W (W3.setCell ⟨w.heap.size + 1, x2.1, none⟩ (.int .i64 z)).drew ∧ KeepB (w.heap.size + 1 + 1 + 1) Aq W (W3.setCell ⟨w.heap.size + 1, x2.1, none⟩ (.int .i64 z)).drew) := by
    refine Lib.hid fun z hz => ?_
    have hk : KeepsOthers W3 (W3.setCell ⟨w.heap.size + 1, x2.1, none⟩ (.int .i64 z)).drew := (KeepsOthers.setCell _ _ _).trans (KeepsOthers.drew _)
    refine ⟨hk.from _, ((Below.refl _ _).setCell (p := ⟨w.heap.size + 1, x2.1, none⟩) (show w.heap.size ≤ w.heap.size + 1 by omega) _).drew, ?_, blk_far hbx3 hbR _, hKF3.trans (hk.from _), hKB3.trans (KeepB.set W3 ⟨w.heap.size + 1, x2.1, none⟩ _ (show w.heap.size + 1 + 1 + 1 ≠ w.heap.size + 1 by omega) (fun ad e => show ad.block ≠ w.heap.size + 1 by have := hAl ad e; omega))⟩
    rw [HFS.out, HTP.out, ← hz]
    exact (hI3.set hXR hOR (by omega) x2.1 z).drew
   go_wp2
   all_goals exact HF.out _ (by omega)
  case done2 =>
   rintro ys W3 hys ⟨hI3, hbx3, hKF3, hKB3⟩
   gi_wp2
   rw [hys] at hI3
   refine ⟨hKF3, hKB3, ?_⟩
   show THeap _ _ _ _ _ _ _ _ _
   rw [HSN.out, HTS.out]
   exact hI3
 case done =>
  rintro D ys W hD hys hI hK
  have hbk : backL (ints (ordN ns ns.length).1).length (ints (ordN ns ns.length).1).length = backL (ordN ns ns.length).1.length (ordN ns ns.length).1.length := by rw [hil]
  have hM := congrArg (tailsL g ns (ordN ns ns.length).1) (hys.trans hbk)
  rw [hM] at hI
  have hlen' := tails_span (g := g) (ns := ns) (ord := (ordN ns ns.length).1) (graphN_time HGR.out) (backL (ordN ns ns.length).1.length (ordN ns ns.length).1.length)
  have HI := Lib.hid hI
  have cO := hI.hO.cell
  have HL := Lib.hid hlen'.1
  clear hI hM hlen' hys hbk
  go_wp2
  refine leave_one hK (results_tmp rfl _ _ _) ⟨_, rfl, ?_, ?_⟩
  ·
   have hR := HI.out.hR
   have : IRow (W.putObj D (.deferred none)) (w.heap.size + 1) (tailsL g ns (ordN ns ns.length).1 (backL (ordN ns ns.length).1.length (ordN ns ns.length).1.length)) := by
    refine ((grownBy_putObj' W D _).block _ (blk_lt hR) (fun e => ?_)).trans hR
    cases e
    omega
   have hown := this.own (base := w.heap.size) (by omega) (by rw [HL.out]; omega)
   rw [HL.out] at hown
   exact hown
  ·
   exact HI.out.hB.trans (belowK_b (w := w) (Nat.le_refl _) W D _ _ (by omega) hK rfl rfl)
theorem tailN_span {g : List Tk} {ns : List Nat} (h : graphN g = some ns) : Span (tailN g ns) g.length 160 := by
 have h1 := tails_span (g := g) (ns := ns) (ord := (ordN ns ns.length).1) (graphN_time h) (backL (ordN ns ns.length).1.length (ordN ns ns.length).1.length)
 have h2 := (ordN_lt ns ns.length).2.2
 obtain ⟨_, _, h3, h4⟩ := graphN_some h
 rw [backL_length] at h1
 exact ⟨h1.1, fun j => by have := h1.2 j; unfold tailN; omega⟩
end Go.Proofs.YtkljcdghbefceaaGreatDoor

namespace Go.Proofs.YtkljcdghbefceaaGreatDoor
set_option linter.unusedVariables false
set_option linter.unusedSimpArgs false
open Go.RowKit Go.Shelf Bits
open Go.Proofs.YtkljcdghbefceaaGreatDoorW.PrintWords Go.Proofs.YtkljcdghbefceaaGreatDoorW.PrintLast Go.Proofs.YtkljcdghbefceaaGreatDoorW.PrintMore
def rdB (g : List Tk) (d : List Int) (i : Nat) : Bool := !decide ((i : Int) ∈ d) && allDoneB (rdTk g i).f1 d
def readyS (g : List Tk) (d : List Int) : List Nat := (List.range g.length).filter (rdB g d)
theorem filter_snoc {p : Nat → Bool} (k : Nat) : (List.range (k + 1)).filter p = if p k then (List.range k).filter p ++ [k] else (List.range k).filter p := by
 rw [List.range_succ, List.filter_append]
 split
 ·
  rename_i h
  simp [h]
 ·
  rename_i h
  simp [h]
theorem filter_range_le (p : Nat → Bool) (k : Nat) : ((List.range k).filter p).length ≤ k := by
 have := List.length_filter_le p (List.range k)
 rwa [List.length_range] at this
end Go.Proofs.YtkljcdghbefceaaGreatDoor

namespace Go.Proofs.YtkljcdghbefceaaGreatDoor
set_option linter.unusedVariables false
set_option linter.unusedSimpArgs false
open Go.RowKit Go.Shelf Bits
open Go.Proofs.YtkljcdghbefceaaGreatDoorW.PrintWords Go.Proofs.YtkljcdghbefceaaGreatDoorW.PrintLast Go.Proofs.YtkljcdghbefceaaGreatDoorW.PrintMore
def overL (l : List Ev) : List Int := (l.filter (·.f2)).map (·.f1)
def begunL (t : Int) : List Ev → Int → Int
 | [], b => b
 | e :: r, b => begunL t r (if e.f2 then b else if e.f1 = t then e.f0 else b)
theorem begunL_snoc (t : Int) (e : Ev) : ∀ (l : List Ev) (b : Int), begunL t (l ++ [e]) b = if e.f2 then begunL t l b else if e.f1 = t then e.f0 else begunL t l b
 | [], b => rfl
 | x :: l, b => by
  show begunL t (l ++ [e]) _ = _
  rw [begunL_snoc t e l]
  rfl
theorem begunL_range (t : Int) (lo hi : Int) : ∀ (l : List Ev) (b : Int), lo ≤ b → b ≤ hi → (∀ e ∈ l, lo ≤ e.f0 ∧ e.f0 ≤ hi) → lo ≤ begunL t l b ∧ begunL t l b ≤ hi
 | [], b, h1, h2, _ => ⟨h1, h2⟩
 | e :: l, b, h1, h2, h => by
  have he := h e (List.mem_cons_self ..)
  refine begunL_range t lo hi l _ ?_ ?_ (fun x hx => h x (List.mem_cons_of_mem _ hx))
  ·
   split
   ·
    exact h1
   ·
    split
    ·
     exact he.1
    ·
     exact h1
  ·
   split
   ·
    exact h2
   ·
    split
    ·
     exact he.2
    ·
     exact h2
theorem overL_snoc (l : List Ev) (e : Ev) : overL (l ++ [e]) = if e.f2 then overL l ++ [e.f1] else overL l := by
 unfold overL
 rw [List.filter_append, List.map_append]
 cases h : e.f2 <;> simp [h]
theorem overL_length (l : List Ev) : (overL l).length ≤ l.length := by unfold overL; rw [List.length_map]; exact List.length_filter_le _ _
theorem take_snocE {l : List Ev} {k : Nat} (h : k < l.length) : l.take (k + 1) = l.take k ++ [rdEv l k] := by
 rw [List.take_succ_eq_append_getElem h]; simp [rdEv, List.getD_eq_getElem?_getD, h]
def evFit (g : List Tk) (pre : List Ev) (x : Ev) : Bool :=
 if x.f2 then decide (0 ≤ begunL x.f1 pre (-1)) && (!decide (x.f1 ∈ overL pre) && decide (x.f0 = begunL x.f1 pre (-1) + (rdTk g x.f1.toNat).f0)) else decide (begunL x.f1 pre (-1) < 0) && allDoneB (rdTk g x.f1.toNat).f1 (overL pre)
theorem evFit_begin {g : List Tk} {pre : List Ev} {x0 b : Int} {m : Nat} {ol : List Int} {t : Tk} (hb : begunL (m : Int) pre (-1) = b) (ho : overL pre = ol) (ht : rdTk g m = t) : evFit g pre ⟨x0, m, false⟩ = (decide (b < 0) && allDoneB t.f1 ol) := by
 unfold evFit
 simp only [Int.toNat_natCast, hb, ho, ht, Bool.false_eq_true, if_false]
theorem evFit_over {g : List Tk} {pre : List Ev} {x0 b : Int} {m : Nat} {ol : List Int} {t : Tk} (hb : begunL (m : Int) pre (-1) = b) (ho : overL pre = ol) (ht : rdTk g m = t) : evFit g pre ⟨x0, m, true⟩ = (decide (0 ≤ b) && (!decide ((m : Int) ∈ ol) && decide (x0 = b + t.f0))) := by
 unfold evFit
 simp only [Int.toNat_natCast, hb, ho, ht, if_true]
def eventFitsB (g : List Tk) (log : List Ev) (k : Nat) : Bool := evFit g (log.take k) (rdEv log k)
end Go.Proofs.YtkljcdghbefceaaGreatDoor

namespace Go.Proofs.YtkljcdghbefceaaGreatDoor
set_option linter.unusedVariables false
set_option linter.unusedSimpArgs false
open Go.RowKit Go.Shelf Bits
open Go.Proofs.YtkljcdghbefceaaGreatDoorW.PrintWords Go.Proofs.YtkljcdghbefceaaGreatDoorW.PrintLast Go.Proofs.YtkljcdghbefceaaGreatDoorW.PrintMore
def eventOkB (g : List Tk) (log : List Ev) (k : Nat) : Bool :=
 inB (rdEv log k).f0 0 200 && !(decide (0 < k) && decide ((rdEv log k).f0 < (rdEv log (k - 1)).f0)) && inB (rdEv log k).f1 0 (g.length - 1) && eventFitsB g log k
def validLogB (g : List Tk) (log : List Ev) : Bool := specValid g && decide (log.length ≤ 16) && (List.range log.length).all (eventOkB g log)
theorem specValid_time {g : List Tk} (h : specValid g = true) (i : Nat) : 0 ≤ (rdTk g i).f0 ∧ (rdTk g i).f0 ≤ 20 := by
 unfold specValid tasksFineB at h
 simp only [Bool.and_eq_true, List.all_eq_true] at h
 by_cases hi : i < g.length
 ·
  have := h.1.1 (rdTk g i) (by simp only [rdTk, List.getD_eq_getElem?_getD, List.getElem?_eq_getElem hi]; exact List.getElem_mem _)
  simp only [taskFineB, Bool.and_eq_true] at this
  have := inB_true.1 this.1.1.1.1
  omega
 ·
  simp [rdTk, List.getD_eq_getElem?_getD, List.getElem?_eq_none (Nat.le_of_not_lt hi), zTk]
end Go.Proofs.YtkljcdghbefceaaGreatDoor

namespace Go.Proofs.YtkljcdghbefceaaGreatDoor
set_option linter.unusedVariables false
set_option linter.unusedSimpArgs false
open Go.RowKit Go.Shelf Bits
open Go.Proofs.YtkljcdghbefceaaGreatDoorW.PrintWords Go.Proofs.YtkljcdghbefceaaGreatDoorW.PrintLast Go.Proofs.YtkljcdghbefceaaGreatDoorW.PrintMore
def TOk (g : List Tk) : Prop := g.length ≤ 8 ∧ (∀ i, 0 ≤ (rdTk g i).f0 ∧ (rdTk g i).f0 ≤ 20) ∧ (∀ i, 0 ≤ (rdTk g i).f2 ∧ (rdTk g i).f2 ≤ 2) ∧ (∀ i, 0 ≤ (rdTk g i).f3 ∧ (rdTk g i).f3 ≤ 4) ∧ (∀ i, i < g.length → 1 ≤ (rdTk g i).f0 ∧ 1 ≤ (rdTk g i).f3)
theorem specValid_fine {g : List Tk} (h : specValid g = true) {i : Nat} (hi : i < g.length) : taskFineB g.length (rdTk g i) = true := by
 unfold specValid tasksFineB at h
 rw [Bool.and_eq_true, Bool.and_eq_true] at h
 exact List.all_eq_true.1 h.1.1 _ (by
  unfold rdTk
  rw [List.getD_eq_getElem?_getD, List.getElem?_eq_getElem hi]
  exact List.getElem_mem _)
theorem specValid_TOk {g : List Tk} (h : specValid g = true) : TOk g := by
 have h8 : g.length ≤ 8 := by
  unfold specValid tasksFineB at h
  simp at h
  exact h.1.2
 have key : ∀ i, i < g.length → (1 ≤ (rdTk g i).f0 ∧ (rdTk g i).f0 ≤ 20) ∧ (0 ≤ (rdTk g i).f2 ∧ (rdTk g i).f2 ≤ 2) ∧ (1 ≤ (rdTk g i).f3 ∧ (rdTk g i).f3 ≤ 4) := fun i hi => by
  have hf := specValid_fine h hi
  unfold taskFineB at hf
  simp only [Bool.and_eq_true] at hf
  exact ⟨inB_true.1 hf.1.1.1.1, inB_true.1 hf.1.1.1.2, inB_true.1 hf.1.1.2⟩
 have out : ∀ i, ¬ i < g.length → rdTk g i = zTk := fun i hi => by
  unfold rdTk
  rw [List.getD_eq_getElem?_getD, List.getElem?_eq_none (by omega)]
  rfl
 refine ⟨h8, fun i => ?_, fun i => ?_, fun i => ?_, fun i hi => ?_⟩
 ·
  by_cases hi : i < g.length
  ·
   have := key i hi
   omega
  ·
   rw [out i hi]
   simp [zTk]
 ·
  by_cases hi : i < g.length
  ·
   exact (key i hi).2.1
  ·
   rw [out i hi]
   simp [zTk]
 ·
  by_cases hi : i < g.length
  ·
   have := key i hi
   omega
  ·
   rw [out i hi]
   simp [zTk]
 ·
  have := key i hi
  omega
def usedS (g : List Tk) (r : List Nat) (p : Int) : Int := (r.map fun i => if (rdTk g i).f2 = p then (rdTk g i).f3 else 0).sum
theorem usedS_snoc (g : List Tk) (r : List Nat) (i : Nat) (p : Int) : usedS g (r ++ [i]) p = usedS g r p + if (rdTk g i).f2 = p then (rdTk g i).f3 else 0 := by
 unfold usedS
 rw [List.map_append, List.sum_append]
 simp
theorem usedS_bound {g : List Tk} (h : TOk g) (p : Int) : ∀ r : List Nat, 0 ≤ usedS g r p ∧ usedS g r p ≤ 4 * r.length
 | [] => ⟨Int.le_refl _, by show (0 : Int) ≤ _; simp⟩
 | i :: r => by
  have ih := usedS_bound h p r
  have h3 := h.2.2.2.1 i
  have e : usedS g (i :: r) p = (if (rdTk g i).f2 = p then (rdTk g i).f3 else 0) + usedS g r p := by unfold usedS; simp
  rw [e, List.length_cons]
  split <;> omega
set_option maxRecDepth 100000 in
set_option maxHeartbeats 2000000 in
theorem used_calls (A : Option Addr) (c : Nat) (g : List Tk) (A' : Option Addr) (c' : Nat) (r : List Nat) (p : Int) (hg : TOk g) (hrl : r.length ≤ 100) (hrg : ∀ i ∈ r, i < g.length) (w : World) (hr : kTk.C w A g.length g) (hr' : (Kd.int .i64).C w A' r.length (ints r)) :
  Calls Tryz.prog 65 #[.slice A g.length c, .slice A' r.length c', .int .i64 p] w fun e w' => e = .returned (.int .i64 (usedS g r p)) ∧ w' = w := by
 have HR := Lib.hid hr
 have HR' := Lib.hid hr'
 have HG := Lib.hid hg
 have HRG := Lib.hid hrg
 clear hr hr' hg hrg
 go_enter Tryz.func65, Tryz.ntmps65
 go_wp2
 go_loop [7, 8] (fun n i => ∃ j, j ≤ r.length ∧ i = .int .i64 (j : Nat) ∧ n = .int .i64 (usedS g (r.take j) p)) (fun _ i => r.length - (intOf i).toNat)
 case atStart => exact ⟨0, Nat.zero_le _, rfl, rfl⟩
 case round =>
  obtain ⟨j, hj, rfl, rfl⟩ := hrel
  by_cases hjl : j < r.length
  ·
   have hjj : decide ((j : Int) < (r.length : Int)) = true := decide_eq_true (by omega)
   have hji : (j : Int) < (r.length : Int) := by omega
   obtain ⟨ad, rfl, cx⟩ := at_set HR'.out j hjl
   have hxg : r.getD j 0 < g.length := by
    apply HRG.out
    rw [List.getD_eq_getElem?_getD, List.getElem?_eq_getElem hjl]
    exact List.getElem_mem _
   have hub := usedS_bound HG.out p (r.take j)
   rw [List.length_take] at hub
   have HSN : Hid (usedS g (r.take (j + 1)) p = usedS g (r.take j) p + if (rdTk g (r.getD j 0)).f2 = p then (rdTk g (r.getD j 0)).f3 else 0) := Lib.hid (by
    rw [List.take_succ_eq_append_getElem hjl, usedS_snoc, List.getD_eq_getElem?_getD, List.getElem?_eq_getElem hjl]
    rfl)
   have h3 := HG.out.2.2.2.1 (r.getD j 0)
   obtain ⟨adg, A1, c1, rfl, hx0, hx1, hx2, hx3, _⟩ := at_Tk HR.out (r.getD j 0) hxg
   generalize r.getD j 0 = x at cx hxg HSN h3 hx0 hx1 hx2 hx3
   generalize usedS g (r.take j) p = U at hub HSN
   have hxi : (x : Int) < (g.length : Int) := by omega
   by_cases hp : (rdTk g x).f2 = p
   ·
    have dp : ((rdTk g x).f2 == p) = true := beq_iff_eq.2 hp
    rw [if_pos hp] at HSN
    clear hp
    generalize (rdTk g x).f2 = f2 at hx2 dp
    generalize (rdTk g x).f3 = f3 at hx3 h3 HSN
    go_wp2
    go_round
    case rel => exact ⟨j + 1, by omega, by go_num, by rw [HSN.out]⟩
    case measure => simp [intOf]; omega
   ·
    have dp : ((rdTk g x).f2 == p) = false := by rw [beq_eq_false_iff_ne]; exact hp
    rw [if_neg hp, Int.add_zero] at HSN
    clear hp
    generalize (rdTk g x).f2 = f2 at hx2 dp
    go_wp2
    go_round
    case rel => exact ⟨j + 1, by omega, by go_num, by rw [HSN.out]⟩
    case measure => simp [intOf]; omega
  ·
   obtain rfl : j = r.length := by omega
   have hjj : decide ((r.length : Int) < (r.length : Int)) = false := decide_eq_false (by omega)
   go_wp2
   go_ret
   exact ⟨ret_int (by first | rfl | rw [List.take_length]), rfl⟩
theorem used_is (u : Int) (A : Option Addr) (c : Nat) (g : List Tk) (A' : Option Addr) (c' : Nat) (r : List Nat) (p : Int) (h : Hid (usedS g r p = u)) (hg : TOk g) (hrl : r.length ≤ 100) (hrg : ∀ i ∈ r, i < g.length) (w : World) (hr : kTk.C w A g.length g) (hr' : (Kd.int .i64).C w A' r.length (ints r)) :
  Calls Tryz.prog 65 #[.slice A g.length c, .slice A' r.length c', .int .i64 p] w fun e w' => e = .returned (.int .i64 u) ∧ w' = w :=
 (used_calls A c g A' c' r p hg hrl hrg w hr hr').mono fun e w' ⟨he, hw⟩ => ⟨by rw [he, h.out], hw⟩
def SOk (st : List Int) : Prop := ∀ i, -1000 ≤ st.getD i 0 ∧ st.getD i 0 ≤ 1000
def runB (g : List Tk) (st : List Int) (now : Int) (i : Nat) : Bool := decide (st.getD i 0 ≤ now) && decide (now < st.getD i 0 + (rdTk g i).f0)
def runS (g : List Tk) (st : List Int) (now : Int) : List Nat := (List.range g.length).filter (runB g st now)
set_option maxRecDepth 1000000 in
set_option maxHeartbeats 4000000 in
theorem runningAt_calls (A : Option Addr) (c : Nat) (g : List Tk) (A' : Option Addr) (c' : Nat) (st : List Int) (now : Int) (hg : TOk g) (hs : SOk st) (hl : st.length = g.length) (w : World) (hr : kTk.C w A g.length g) (hr' : (Kd.int .i64).C w A' st.length st) :
  Calls Tryz.prog 64 #[.slice A g.length c, .slice A' st.length c', .int .i64 now] w fun e w' => ∃ v, e = .returned v ∧ Kd.R (Kd.int .i64) 3 w' w.heap.size (fun _ => True) v (ints (runS g st now)) ∧ Below w.heap.size w w' := by
 have HR := Lib.hid hr
 have HR' := Lib.hid hr'
 have HG := Lib.hid hg
 have HS := Lib.hid hs
 have HL := Lib.hid hl
 have h8 := hg.1
 clear hr hr' hg hs hl
 go_enter Tryz.func64, Tryz.ntmps64
 go_wp2
 have HB1 : Below w.heap.size w (w.alloc (.cells #[] 3)) := (Below.refl _ _).alloc (Nat.le_refl _) _
 have HO : Kd.R (Kd.int .i64) 3 (w.alloc (.cells #[] 3)) w.heap.size (fun _ => True) (.slice (some ⟨w.heap.size, 0, none⟩) 0 0) (ints []) := Kd.R_of_own (World.ownsRow_lit (base := w.heap.size) (size := 1) w #[] 0 (Nat.le_refl _) (by simp [maxLen]) rfl) (fun _ _ => trivial)
 go_loopw [7, 8] (fun out i wr => ∃ j, j ≤ g.length ∧ i = .int .i64 (j : Nat) ∧ Kd.R (Kd.int .i64) 3 wr w.heap.size (fun _ => True) out (ints ((List.range j).filter (runB g st now))) ∧ Below w.heap.size w wr) (fun _ i _ => g.length - (intOf i).toNat)
 case atStart => exact ⟨0, Nat.zero_le _, rfl, HO, HB1⟩
 case round =>
  clear HO HB1
  obtain ⟨j, hj, rfl, hO, hB⟩ := hrel
  by_cases hjl : j < g.length
  ·
   obtain ⟨ad, A1, c1, rfl, hc0, _⟩ := at_Tk (Kd.C_below HR.out hB) j hjl
   have hjs : j < st.length := by rw [HL.out]; exact hjl
   obtain ⟨ads, rfl, cs⟩ := at_num (Kd.C_below HR'.out hB) j hjs
   have hjj : decide ((j : Int) < (g.length : Int)) = true := decide_eq_true (by omega)
   have hji : (j : Int) < (g.length : Int) := by omega
   have hjsi : (j : Int) < (st.length : Int) := by omega
   have HFS : Hid ((List.range (j + 1)).filter (runB g st now) = if runB g st now j then (List.range j).filter (runB g st now) ++ [j] else (List.range j).filter (runB g st now)) := Lib.hid (filter_snoc j)
   have hfl := filter_range_le (runB g st now) j
   have HBD : Hid (runB g st now j = (decide (st.getD j 0 ≤ now) && decide (now < st.getD j 0 + (rdTk g j).f0))) := Lib.hid rfl
   generalize (List.range j).filter (runB g st now) = fl at hO HFS hfl
   have hsj := HS.out j
   have htj := HG.out.2.1 j
   generalize st.getD j 0 = s at cs hsj HBD
   generalize (rdTk g j).f0 = tm at hc0 htj HBD
   have hwr : IntKind.i64.wrap (s + tm) = s + tm := IntWalk.i64_in _ (by omega)
   have HOB := Lib.hid (And.intro hO hB)
   clear hO hB
   by_cases h1 : s ≤ now
   ·
    have d1 : decide (s ≤ now) = true := decide_eq_true h1
    by_cases h2 : now < s + tm
    ·
     have d2 : decide (now < s + tm) = true := decide_eq_true h2
     rw [d1, d2] at HBD
     clear h1 h2
     go_wp2
     go_quiet (fail)
     clear hwr
     have hO2 := Kd.R_drewN HOB.out.1 nq
     have hB2 := pw_below_drewN HOB.out.2 nq
     go_wp2_with (at_builtin; refine ap_int (w0 := w) w.heap.size rfl _ _ rfl u7 (ints fl) (j : Int) rfl rfl rfl hO2 hB2 hB2.size (by rw [ints_length]; omega) ?_; intro v1 w2 hO3 hB3 hg3 hat3; clear hg3 hat3)
     go_roundw
     case rel => exact ⟨j + 1, by omega, by go_num, by rw [HFS.out, HBD.out]; simpa [ints] using hO3, hB3⟩
     case measure => simp [intOf]; omega
    ·
     have d2 : decide (now < s + tm) = false := decide_eq_false h2
     rw [d1, d2] at HBD
     clear h1 h2
     go_wp2
     go_quiet (fail)
     clear hwr
     go_wp2
     go_roundw
     case rel => exact ⟨j + 1, by omega, by go_num, by rw [HFS.out, HBD.out]; exact Kd.R_drewN HOB.out.1 _, pw_below_drewN HOB.out.2 _⟩
     case measure => simp [intOf]; omega
   ·
    have d1 : decide (s ≤ now) = false := decide_eq_false h1
    rw [d1] at HBD
    clear h1
    go_wp2
    go_quiet (fail)
    clear hwr
    go_wp2
    go_roundw
    case rel => exact ⟨j + 1, by omega, by go_num, by rw [HFS.out, HBD.out]; exact Kd.R_drewN HOB.out.1 _, pw_below_drewN HOB.out.2 _⟩
    case measure => simp [intOf]; omega
  ·
   obtain rfl : j = g.length := by omega
   have hjj : decide ((g.length : Int) < (g.length : Int)) = false := decide_eq_false (by omega)
   go_wp2
   go_ret
   exact ⟨_, rfl, hO, hB⟩
def endS (g : List Tk) (st : List Int) : Nat → Int
 | 0 => 0
 | k + 1 => max (endS g st k) (st.getD k 0 + (rdTk g k).f0)
theorem endS_bound {g : List Tk} {st : List Int} (hg : TOk g) (hs : SOk st) : ∀ k, 0 ≤ endS g st k ∧ endS g st k ≤ 1020
 | 0 => by simp [endS]
 | k + 1 => by
  have ih := endS_bound hg hs k
  have h1 := hg.2.1 k
  have h2 := hs k
  unfold endS
  omega
set_option maxRecDepth 1000000 in
set_option maxHeartbeats 4000000 in
theorem endOf_calls (A : Option Addr) (c : Nat) (g : List Tk) (A' : Option Addr) (c' : Nat) (st : List Int) (hg : TOk g) (hs : SOk st) (hl : st.length = g.length) (w : World) (hr : kTk.C w A g.length g) (hr' : (Kd.int .i64).C w A' st.length st) :
  Calls Tryz.prog 13 #[.slice A g.length c, .slice A' st.length c'] w fun e w' => e = .returned (.int .i64 (endS g st g.length)) ∧ Below w.heap.size w w' := by
 have HR := Lib.hid hr
 have HR' := Lib.hid hr'
 have HG := Lib.hid hg
 have HS := Lib.hid hs
 have HL := Lib.hid hl
 have h8 := hg.1
 clear hr hr' hg hs hl
 go_enter Tryz.func13, Tryz.ntmps13
 go_wp2
 go_loopw [5, 6] (fun n i wr => ∃ j, j ≤ g.length ∧ i = .int .i64 (j : Nat) ∧ n = .int .i64 (endS g st j) ∧ Below w.heap.size w wr) (fun _ i _ => g.length - (intOf i).toNat)
 case atStart => exact ⟨0, Nat.zero_le _, rfl, rfl, Below.refl _ _⟩
 case round =>
  obtain ⟨j, hj, rfl, rfl, hB⟩ := hrel
  by_cases hjl : j < g.length
  ·
   obtain ⟨ad, A1, c1, rfl, hc0, _⟩ := at_Tk (Kd.C_below HR.out hB) j hjl
   have hjs : j < st.length := by rw [HL.out]; exact hjl
   obtain ⟨ads, rfl, cs⟩ := at_num (Kd.C_below HR'.out hB) j hjs
   have hjj : decide ((j : Int) < (g.length : Int)) = true := decide_eq_true (by omega)
   have hji : (j : Int) < (g.length : Int) := by omega
   have hjsi : (j : Int) < (st.length : Int) := by omega
   have HE : Hid (endS g st (j + 1) = max (endS g st j) (st.getD j 0 + (rdTk g j).f0)) := Lib.hid rfl
   have hsj := HS.out j
   have htj := HG.out.2.1 j
   have heb := endS_bound HG.out HS.out j
   generalize st.getD j 0 = s at cs hsj HE
   generalize (rdTk g j).f0 = tm at hc0 htj HE
   generalize endS g st j = en at heb HE
   have hwr : IntKind.i64.wrap (s + tm) = s + tm := IntWalk.i64_in _ (by omega)
   have HB := Lib.hid hB
   clear hB
   go_wp2
   go_quiet (fail)
   clear hwr
   go_wp2
   all_goals
    go_roundw
    case rel => exact ⟨j + 1, by omega, by go_num, by rw [HE.out]; congr 1; first | omega | (split <;> omega), pw_below_drewN HB.out _⟩
    case measure => simp [intOf]; omega
  ·
   obtain rfl : j = g.length := by omega
   have hjj : decide ((g.length : Int) < (g.length : Int)) = false := decide_eq_false (by omega)
   go_wp2
   go_ret
   exact ⟨rfl, hB⟩
def roomB (room : List Int) : Bool := decide (room.length = 3) && allInB room 4 8
theorem validRoom_calls (A : Option Addr) (c : Nat) (room : List Int) (w : World) (hr : (Kd.int .i64).C w A room.length room) :
  Calls Tryz.prog 34 #[.slice A room.length c] w fun e w' => e = .returned (.bool (roomB room)) ∧ w' = w := by
 have HR := Lib.hid hr
 have hl := (C_len hr).2
 clear hr
 by_cases h3 : room.length = 3
 ·
  have d3 : ((room.length : Int) == 3) = true := by rw [beq_iff_eq]; omega
  cases hi : allInB room 4 8
  ·
   have HI := Lib.hid hi
   have HF : Hid (roomB room = false) := Lib.hid (by unfold roomB; rw [hi, Bool.and_false])
   clear hi h3
   go_enter Tryz.func34, Tryz.ntmps34
   go_wp2_with (go_at_call 63; refine (allIn_is _ _ _ _ _ _ HI _ HR.out).mono ?_; rintro e w2 ⟨rfl, rfl⟩)
   go_ret
   exact ⟨ret_bool HF.out.symm, rfl⟩
  ·
   have HI := Lib.hid hi
   have HF : Hid (roomB room = true) := Lib.hid (by unfold roomB; rw [hi, decide_eq_true h3]; rfl)
   clear hi h3
   go_enter Tryz.func34, Tryz.ntmps34
   go_wp2_with (go_at_call 63; refine (allIn_is _ _ _ _ _ _ HI _ HR.out).mono ?_; rintro e w2 ⟨rfl, rfl⟩)
   go_ret
   exact ⟨ret_bool HF.out.symm, rfl⟩
 ·
  have d3 : ((room.length : Int) == 3) = false := by rw [beq_eq_false_iff_ne]; omega
  have HF : Hid (roomB room = false) := Lib.hid (by unfold roomB; rw [decide_eq_false h3]; rfl)
  clear h3
  go_enter Tryz.func34, Tryz.ntmps34
  go_wp2
  go_ret
  exact ⟨ret_bool HF.out.symm, rfl⟩
theorem validRoom_is (b : Bool) (A : Option Addr) (c : Nat) (room : List Int) (h : Hid (roomB room = b)) (w : World) (hr : (Kd.int .i64).C w A room.length room) :
  Calls Tryz.prog 34 #[.slice A room.length c] w fun e w' => e = .returned (.bool b) ∧ w' = w :=
 (validRoom_calls A c room w hr).mono fun e w' ⟨he, hw⟩ => ⟨by rw [he, h.out], hw⟩
end Go.Proofs.YtkljcdghbefceaaGreatDoor
