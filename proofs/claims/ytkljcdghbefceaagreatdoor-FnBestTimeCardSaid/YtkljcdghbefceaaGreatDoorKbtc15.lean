/- Parts of the proof, laid as one text by a program of mine. -/
import Derived.Deep.RegionHeld3
import Derived.Test.YtkljcdghbefceaaGreatDoorKbtc11
import Derived.Test.YtkljcdghbefceaaGreatDoorKbtc14
import Derived.Test.YtkljcdghbefceaaGreatDoorKbtc6
import Derived.Test.YtkljcdghbefceaaGreatDoorKbtc7
import Derived.Test.YtkljcdghbefceaaGreatDoorKbtc12
namespace Go.Proofs.YtkljcdghbefceaaGreatDoor
set_option linter.unusedVariables false
set_option linter.unusedSimpArgs false
open Go.RowKit Go.Shelf Bits
open Go.Proofs.YtkljcdghbefceaaGreatDoorW.PrintWords Go.Proofs.YtkljcdghbefceaaGreatDoorW.PrintLast Go.Proofs.YtkljcdghbefceaaGreatDoorW.PrintMore
attribute [local go_sem] Oper.semAt_some
structure PH (w : World) (C h n : Nat) (st : List Int) (o N : Nat) (now : Int) (W : World) : Prop where
 g : Boxed W h 36 (.pointer (some ⟨C, 0, none⟩))
 r : IRow W (h + 1) st
 s : Boxed W (h + 2) 24 (.slice (some ⟨h + 1, 0, none⟩) n n)
 o : Boxed W (h + 3) 46 (.int .u16 o)
 t : Boxed W N 3 (.int .i64 now)
 hN : h + 3 < N
 hB : Below h w W
theorem boxed_below {W W' : World} {B : Nat} {t : TypeId} {v : Value} (h : Boxed W B t v) (hb : Below W.heap.size W W') : Boxed W' B t v := (hb.block B h.lt).trans h
theorem PH.below {w W W' : World} {C h n o N : Nat} {st : List Int} {now : Int} (q : PH w C h n st o N now W) (hb : Below W.heap.size W W') : PH w C h n st o N now W' :=
 ⟨boxed_below q.g hb, q.r.below hb, boxed_below q.s hb, boxed_below q.o hb, boxed_below q.t hb, q.hN, q.hB.trans (hb.mono (by have := q.t.lt; have := q.hN; omega))⟩
theorem PH.setO {w W : World} {C h n o N : Nat} {st : List Int} {now : Int} (q : PH w C h n st o N now W) (x : Nat) : PH w C h n st x N now (W.setCell ⟨h + 3, 0, none⟩ (.int .u16 x)) :=
 ⟨blk_far q.g (by show h ≠ h + 3; omega) _, q.r.far (by show h + 1 ≠ h + 3; omega) _, blk_far q.s (by show h + 2 ≠ h + 3; omega) _, q.o.set _, blk_far q.t (by have := q.hN; show N ≠ h + 3; omega) _, q.hN, q.hB.setCell (p := ⟨h + 3, 0, none⟩) (by show h ≤ h + 3; omega) _⟩
theorem PH.setR {w W : World} {C h n o N : Nat} {st : List Int} {now : Int} (q : PH w C h n st o N now W) (i : Nat) (x : Int) : PH w C h n (st.set i x) o N now (W.setCell ⟨h + 1, i, none⟩ (.int .i64 x)) :=
 ⟨blk_far q.g (by show h ≠ h + 1; omega) _, q.r.set i x, blk_far q.s (by show h + 2 ≠ h + 1; omega) _, blk_far q.o (by show h + 3 ≠ h + 1; omega) _, blk_far q.t (by have := q.hN; show N ≠ h + 1; omega) _, q.hN, q.hB.setCell (p := ⟨h + 1, i, none⟩) (by show h ≤ h + 1; omega) _⟩
theorem PH.setT {w W : World} {C h n o N : Nat} {st : List Int} {now : Int} (q : PH w C h n st o N now W) (x : Int) : PH w C h n st o N x (W.setCell ⟨N, 0, none⟩ (.int .i64 x)) :=
 ⟨blk_far q.g (by have := q.hN; show h ≠ N; omega) _, q.r.far (by have := q.hN; show h + 1 ≠ N; omega) _, blk_far q.s (by have := q.hN; show h + 2 ≠ N; omega) _, blk_far q.o (by have := q.hN; show h + 3 ≠ N; omega) _, q.t.set _, q.hN, q.hB.setCell (p := ⟨N, 0, none⟩) (by have := q.hN; show h ≤ N; omega) _⟩
theorem PH.newT {w W : World} {C h n o N : Nat} {st : List Int} {now : Int} (q : PH w C h n st o N now W) (x : Int) : PH w C h n st o W.heap.size x (W.alloc (.cells #[.int .i64 x] 3)) :=
 have q2 := q.below ((Below.refl W.heap.size W).alloc (Nat.le_refl _) (.cells #[.int .i64 x] 3))
 ⟨q2.g, q2.r, q2.s, q2.o, Boxed.new W 3 (.int .i64 x), by have := q.hN; have := q.t.lt; omega, q2.hB⟩
def nowAt (v : Value) (W : World) : Nat := match v with
 | .pointer (some p) => (match W.cell? p with | some v => (intOf v).toNat | none => 0)
 | _ => 0
theorem nowAt_box {W : World} {N k : Nat} (h : Boxed W N 3 (.int .i64 (k : Int))) : nowAt (.pointer (some ⟨N, 0, none⟩)) W = k := by
 unfold nowAt
 simp only [h.cell]
 simp [intOf]
theorem PH.own {β : Type} {B0 C h n N : Nat} {w : World} {st : List Int} (o : β → Nat) {now : Int} (hN : N < B0) (hh : h + 3 < B0) (hw : h ≤ w.heap.size) : OwnFrom B0 (fun s W => PH w C h n st (o s) N now W) := by
 intro s W W' row q hg hr
 have key : ∀ k, k < B0 → k < W.heap.size → W'.heap[k]? = W.heap[k]? := fun k hk hl => hg.block k hl (fun e => by have := (hr k e.symm).1; omega)
 exact ⟨(key h (by omega) q.g.lt).trans q.g, (key (h + 1) (by omega) (blk_lt q.r)).trans q.r, (key (h + 2) (by omega) q.s.lt).trans q.s, (key (h + 3) (by omega) q.o.lt).trans q.o, (key N hN q.t.lt).trans q.t, q.hN,
  q.hB.trans ⟨hg.os, hg.tape, hg.output, hg.size, fun k hk => key k (by omega) (by have := q.g.lt; omega)⟩⟩
section
variable (w : World) (C h : Nat) (g : List Tk) (ns : List Nat) (A1 : Option Addr) (c1 : Nat) (rm : List Int) (wk : Int) (K : Nat)
def PLoop (a : Act) (W : World) : Prop := ∃ (t : Array Value) (Ds : List Nat) (k N : Nat), a = { tmps := t, defers := mk Ds } ∧ t.size = 78 ∧ t.getD 1 undef = .slice A1 rm.length c1 ∧ t.getD 2 undef = .int .i64 wk ∧
 t.getD 3 undef = .pointer (some ⟨h, 0, none⟩) ∧ t.getD 7 undef = .pointer (some ⟨h + 2, 0, none⟩) ∧ t.getD 8 undef = .int .u16 ((planN g ns rm wk k).b : Nat) ∧ t.getD 9 undef = .pointer (some ⟨h + 3, 0, none⟩) ∧ t.getD 10 undef = .pointer (some ⟨N, 0, none⟩) ∧
 k ≤ K ∧ Marks Ds W ∧ (∀ D ∈ Ds, h ≤ D) ∧ PH w C h g.length (planN g ns rm wk k).st (planN g ns rm wk k).o N k W
end
theorem ph_init (w : World) (C n : Nat) : PH w C w.heap.size n (List.replicate n 0) 0 (w.heap.size + 1 + 1 + 1 + 1) 0 (((((w.alloc (.cells #[.pointer (some ⟨C, 0, none⟩)] 36)).alloc (.cells (zeroI n) 3)).alloc (.cells #[.slice (some ⟨w.heap.size + 1, 0, none⟩) n n] 24)).alloc (.cells #[.int .u16 0] 46)).alloc (.cells #[.int .i64 0] 3)) := by
 have z : ∀ (W : World) (o : Obj), (W.alloc o).heap.size = W.heap.size + 1 := fun W o => World.size_alloc W o
 refine ⟨?_, ?_, ?_, ?_, ?_, by omega, ?_⟩
 ·
  refine ((((Boxed.new w 36 _).alloc _).alloc _).alloc _).alloc _
 ·
  have h1 : IRow ((w.alloc (.cells #[.pointer (some ⟨C, 0, none⟩)] 36)).alloc (.cells (zeroI n) 3)) (w.heap.size + 1) (List.replicate n 0) := by
   have := World.alloc_heap_new (w.alloc (.cells #[.pointer (some ⟨C, 0, none⟩)] 36)) (.cells (zeroI n) 3)
   rw [z] at this
   exact this
  exact ((h1.below ((Below.refl _ _).alloc (Nat.le_refl _) _)).below ((Below.refl _ _).alloc (Nat.le_refl _) _)).below ((Below.refl _ _).alloc (Nat.le_refl _) _)
 ·
  have h1 := Boxed.new ((w.alloc (.cells #[.pointer (some ⟨C, 0, none⟩)] 36)).alloc (.cells (zeroI n) 3)) 24 (.slice (some ⟨w.heap.size + 1, 0, none⟩) n n)
  rw [z, z] at h1
  exact (h1.alloc _).alloc _
 ·
  have h1 := Boxed.new (((w.alloc (.cells #[.pointer (some ⟨C, 0, none⟩)] 36)).alloc (.cells (zeroI n) 3)).alloc (.cells #[.slice (some ⟨w.heap.size + 1, 0, none⟩) n n] 24)) 46 (.int .u16 0)
  rw [z, z, z] at h1
  exact h1.alloc _
 ·
  have h1 := Boxed.new ((((w.alloc (.cells #[.pointer (some ⟨C, 0, none⟩)] 36)).alloc (.cells (zeroI n) 3)).alloc (.cells #[.slice (some ⟨w.heap.size + 1, 0, none⟩) n n] 24)).alloc (.cells #[.int .u16 0] 46)) 3 (.int .i64 0)
  rw [z, z, z, z] at h1
  exact h1
 ·
  exact (((((Below.refl _ w).alloc (Nat.le_refl _) _).alloc (by simp) _).alloc (by simp; omega) _).alloc (by simp; omega) _).alloc (by simp; omega) _
set_option maxRecDepth 1000000 in
set_option maxHeartbeats 8000000 in
theorem iplan_calls (C : Nat) (g : List Tk) (ns : List Nat) (A1 : Option Addr) (c1 : Nat) (rm : List Int) (wk : Int) (K : Nat) (hgr : graphN g = some ns) (hok : TOk g) (hrm : rm.length = 3) (hK : K ≤ 200) (hall : (planN g ns rm wk K).o = 2 ^ g.length - 1) (hnot : ∀ k, k < K → (planN g ns rm wk k).o ≠ 2 ^ g.length - 1) (w : World) (hG : IsGraph w C g ns) (hT : Tab w) (hr1 : (Kd.int .i64).C w A1 rm.length rm) :
  Calls Tryz.prog 19 #[.pointer (some ⟨C, 0, none⟩), .slice A1 rm.length c1, .int .i64 wk] w fun e w' => ∃ v, e = .returned v ∧ Kd.R (Kd.int .i64) 3 w' w.heap.size (fun _ => True) v (planN g ns rm wk K).st ∧ Below w.heap.size w w' := by
 have h8 := hok.1
 have hnl := (graphN_some hgr).2.2.2
 have HG := Lib.hid hG
 have HOK := Lib.hid hok
 have HGR := Lib.hid hgr
 have HRM := Lib.hid hrm
 have HR1 := Lib.hid hr1
 have HALL := Lib.hid hall
 have HNOT := Lib.hid hnot
 have HNL := Lib.hid hnl
 have hmk := run_makeI g.length (by omega)
 clear hG hok hgr hrm hr1 hall hnot hnl
 refine calls_of_wp_marks Tryz.func19 rfl ?_
 simp only [Tryz.ntmps19, List.size_toArray, List.length_cons, List.length_nil, Nat.reduceAdd, Nat.reduceSub, Array.replicate_succ, Array.replicate_zero, List.push_toArray, List.append_toArray, List.nil_append, List.cons_append]
 go_wp2_with (go_at_call 25; refine (size_calls _ C g ns (HG.out.below ((Below.refl _ _).alloc (Nat.le_refl _) _))).mono ?_; rintro e w' ⟨rfl, rfl⟩)
 have hP0 := ph_init w C g.length
 have htl := hT.lt
 refine wp_loop (PLoop w C w.heap.size g ns A1 c1 rm wk K) (fun a W => K - nowAt (a.tmps.getD 10 undef) W) ⟨_, [], 0, _, rfl, rfl, rfl, rfl, rfl, rfl, rfl, rfl, rfl, Nat.zero_le _, Marks.nil _, fun D h => (by cases h), hP0⟩ ?_
 clear hP0 hmk
 rintro a W ⟨t, Ds, k, N, rfl, ht, t1, t2, t3, t7, t8, t9, t10, hk, hM, hDs, hP⟩
 obtain ⟨u, rfl⟩ : ∃ u : Nat → Value, t = #[u 0, u 1, u 2, u 3, u 4, u 5, u 6, u 7, u 8, u 9, u 10, u 11, u 12, u 13, u 14, u 15, u 16, u 17, u 18, u 19, u 20, u 21, u 22, u 23, u 24, u 25, u 26, u 27, u 28, u 29, u 30, u 31, u 32, u 33, u 34, u 35, u 36, u 37, u 38, u 39, u 40, u 41, u 42, u 43, u 44, u 45, u 46, u 47, u 48, u 49, u 50, u 51, u 52, u 53, u 54, u 55, u 56, u 57, u 58, u 59, u 60, u 61, u 62, u 63, u 64, u 65, u 66, u 67, u 68, u 69, u 70, u 71, u 72, u 73, u 74, u 75, u 76, u 77] := ⟨fun i => t.getD i undef, arr_of_size t 78 ht⟩
 replace t1 : u 1 = _ := t1
 replace t2 : u 2 = _ := t2
 replace t3 : u 3 = _ := t3
 replace t7 : u 7 = _ := t7
 replace t8 : u 8 = _ := t8
 replace t9 : u 9 = _ := t9
 replace t10 : u 10 = _ := t10
 clear ht
 have hok := planN_ok rm wk HNL.out k (by omega)
 have HNE := HNOT.out k
 have hAL := HALL.out
 by_cases hkK : k < K
 ·
  replace HNE := HNE hkK
  generalize hp : planN g ns rm wk k = p at t8 hP hok HNE
  have HPK := Lib.hid hp
  obtain ⟨st, b, o⟩ := p
  obtain ⟨hst, hb, ho⟩ := hok
  replace hst : StOk g.length st := hst
  replace hb : b < 2 ^ g.length := hb
  replace ho : o < 2 ^ g.length := ho
  replace hP : PH w C w.heap.size g.length st o N k W := hP
  replace t8 : u 8 = .int .u16 (b : Nat) := t8
  have dne : (((o : Nat) : Int) != ((2 ^ g.length - 1 : Nat) : Int)) = true := by
   rw [bne_iff_ne]
   intro e
   exact HNE (Int.ofNat.inj e)
  have cg := hP.g.cell
  have co := hP.o.cell
  have HPH := Lib.hid hP
  have hsz := hP.hB.size
  have HM := Lib.hid hM
  clear hp HNE hAL hP hM
  go_wp2
  go_quiet (first
   | (go_at_call 25; exact Calls.quiet_of_same (size_calls _ C g ns (HG.out.below (pw_below_drewN HPH.out.hB _))))
   | (go_at_call 24; exact Calls.quiet_of_same (everything_calls g.length (by omega) _)))
  have hB1 : Below W.heap.size W (W.drewN nq) := pw_below_drewN (Below.refl _ _) nq
  obtain ⟨W1, hW1⟩ : ∃ W1, W1 = W.drewN nq := ⟨_, rfl⟩
  rw [← hW1] at hB1 ⊢
  clear hW1 cg co
  have HP1 := Lib.hid (HPH.out.below hB1)
  have HM1 := Lib.hid (HM.out.below hB1)
  go_wp2_with (go_at_call 47; refine (all_calls b _).mono ?_; rintro e w' ⟨rfl, rfl⟩)
  have hbox := Boxed.new W1 46 (.int .u16 b)
  have hBs : Below W1.heap.size W1 (W1.alloc (.cells #[.int .u16 b] 46)) := (Below.refl _ _).alloc (Nat.le_refl _) _
  have hws1 := HP1.out.hB.size
  have hb16 : b < 65536 := Nat.lt_of_lt_of_le hb (Nat.le_trans (Nat.pow_le_pow_right (by omega) h8) (by decide))
  have hN1 := HP1.out.t.lt
  have hh3 := HP1.out.o.lt
  refine wp_rangeSet1 b W1.heap.size w.heap.size hb16 rfl (by simp) hbox.cell (hT.keep htl (HP1.out.hB.trans (hBs.mono hws1))) (by simp; omega) htl
   (fun pre W' => PH w C w.heap.size g.length st (ovN g st k o (pre.map (·.1))) N k W' ∧ Marks Ds W') (fun _ _ _ => False)
   ((PH.own (fun pre : List (El b) => ovN g st k o (pre.map (·.1))) (by simp; omega) (by simp; omega) (Nat.le_refl _)).and (ownFrom_marks _ Ds (fun D hD => by have := HM1.out.lt D hD; simp; omega)))
   (fun _ _ _ _ _ h _ _ => h)
   ⟨HP1.out.below hBs, HM1.out.below hBs⟩
   (fun x => { tmps := #[u 0, .slice A1 rm.length c1, .int .i64 wk, .pointer (some ⟨w.heap.size, 0, none⟩), u 4, u 5, u 6, .pointer (some ⟨w.heap.size + 2, 0, none⟩), .int .u16 (b : Nat), .pointer (some ⟨w.heap.size + 3, 0, none⟩), .pointer (some ⟨N, 0, none⟩), .int .i64 (x.1 : Nat), u 12, u 13, u 14, u 15, u 16, u 17, .int .u16 (o : Nat), .pointer (some ⟨C, 0, none⟩), .int .i64 (g.length : Nat), .int .u16 ((2 ^ g.length - 1 : Nat) : Int), .bool true, u 23, u 24, .int .u16 (b : Nat), .func (.func 74) #[] #[.pointer (some ⟨W1.heap.size, 0, none⟩)], .int .i64 (x.1 : Nat), u 28, u 29, u 30, u 31, u 32, u 33, u 34, u 35, u 36, u 37, u 38, u 39, u 40, u 41, u 42, u 43, u 44, u 45, u 46, u 47, u 48, u 49, u 50, u 51, u 52, u 53, u 54, u 55, u 56, u 57, u 58, u 59, u 60, u 61, u 62, u 63, u 64, u 65, u 66, u 67, u 68, u 69, u 70, u 71, u 72, u 73, u 74, u 75, u 76, u 77], defers := [] }) ?assign ?body ?done ?stop
  case stop => exact fun _ _ _ _ _ _ h _ => h.elim
  case assign =>
   intro l x W' Kq hK
   gi_wp2
   exact hK
  case body =>
   rintro l pre x W' ⟨hP, hM⟩ hlt
   have hel := elems_length b
   have hxn : x.1 < g.length := elems_below hb x.2
   have hx16 : x.1 < 16 := by omega
   have HSN : Hid (ovN g st k o ((pre ++ [x]).map (·.1)) = ovF g st k (ovN g st k o (pre.map (·.1))) x.1) := Lib.hid (by rw [List.map_append, List.map_cons, List.map_nil, ovN_snoc])
   have hov : ovN g st k o (pre.map (·.1)) < 2 ^ g.length := ovN_lt _ ho (fun i hi => by
    obtain ⟨z, _, rfl⟩ := List.mem_map.1 hi
    exact elems_below hb z.2)
   generalize ovN g st k o (pre.map (·.1)) = ov at hP HSN hov
   have hov16 : ov < 65536 := Nat.lt_of_lt_of_le hov (Nat.le_trans (Nat.pow_le_pow_right (by omega) h8) (by decide))
   obtain ⟨Ag, cg, An, cn, Ao, co, vb, va, h1, h2, _, _⟩ := HG.out.below hP.hB
   have cC := blk_cell h1 0
   simp at cC
   obtain ⟨ad, A4, c4, rfl, hx0, _⟩ := at_Tk h2 x.1 hxn
   have cg := hP.g.cell
   have cs := hP.s.cell
   have co := hP.o.cell
   have fo := hP.o.frozen
   have ct := hP.t.cell
   have cr := hP.r.cell x.1 (by rw [hst.1]; exact hxn)
   have hsx := hst.2 x.1
   have htx := HOK.out.2.1 x.1
   have HOF : Hid (ovF g st k ov x.1 = if st.getD x.1 0 + (rdTk g x.1).f0 ≤ (k : Int) then ov ||| 2 ^ x.1 else ov) := Lib.hid rfl
   generalize st.getD x.1 0 = s at cr hsx HOF
   generalize (rdTk g x.1).f0 = tm at hx0 htx HOF
   have hwr : IntKind.i64.wrap (s + tm) = s + tm := IntWalk.i64_in _ (by omega)
   have hxi : ((x.1 : Nat) : Int) < (g.length : Int) := by clear hwr; omega
   have HPP := Lib.hid (And.intro hP hM)
   clear h1 h2 hP hM
   by_cases hfin : s + tm ≤ (k : Int)
   ·
    have dfin : decide (s + tm ≤ (k : Int)) = true := decide_eq_true hfin
    rw [if_pos hfin] at HOF
    clear hfin
    gi_wp2
    refine wpIn_region_still_tail 14 mixed (by kernel_rfl) (by kernel_rfl) (fun ⟨_, _, h⟩ => h) ?_
    simp only [List.take_succ_cons, List.take_zero, List.drop_succ_cons, List.drop_zero]
    repeat still_step
    refine wpStill_nil ?_
    clear hwr
    go_wp2
    gi_wp2_with (refine ⟨trivial, ?_⟩; gi_at_call 42; refine CallsIn.mono (CallsIn.inRound l (callsIn_wide.2 (with_calls ov x.1 hov16 hx16 _))) ?_; rintro e w' ⟨rfl, rfl⟩)
    have hPd := HPP.out.1.below (Below.refl W'.heap.size W').drew
    have hMd := HPP.out.2.below (Below.refl W'.heap.size W').drew
    refine ⟨((KeepsOthers.drew _).trans (KeepsOthers.setCell _ _ _)).from _, (Below.refl _ _).drew.setCell (p := ⟨w.heap.size + 3, 0, none⟩) (by simp) _, ?_, hMd.set _ _ ⟨_, _, _, hPd.o⟩⟩
    rw [HSN.out, HOF.out]
    exact hPd.setO _
   ·
    have dfin : decide (s + tm ≤ (k : Int)) = false := decide_eq_false hfin
    rw [if_neg hfin] at HOF
    clear hfin
    gi_wp2
    refine wpIn_region_still_tail 14 mixed (by kernel_rfl) (by kernel_rfl) (fun ⟨_, _, h⟩ => h) ?_
    simp only [List.take_succ_cons, List.take_zero, List.drop_succ_cons, List.drop_zero]
    repeat still_step
    refine wpStill_nil ?_
    clear hwr
    go_wp2
    gi_wp2
    have hPd := HPP.out.1.below (Below.refl W'.heap.size W').drew
    have hMd := HPP.out.2.below (Below.refl W'.heap.size W').drew
    refine ⟨(KeepsOthers.drew _).from _, (Below.refl _ _).drew, ?_, hMd⟩
    rw [HSN.out, HOF.out]
    exact hPd
  case done =>
   rintro D ys W5 hD hys ⟨hP5, hM5⟩ hK5
   rw [hys] at hP5
   have HM5 := Lib.hid (hM5.cons hK5 (fun E hE' => by have := HM1.out.lt E hE'; simp at hD; omega))
   have hD2 : w.heap.size ≤ D := by simp at hD; omega
   generalize hov : ovN g st k o (elems b) = ov at hP5
   have hovl : ov < 2 ^ g.length := by rw [← hov]; exact ovN_lt _ ho (fun i hi => elems_below hb hi)
   have HSTEP : Hid (planN g ns rm wk (k + 1) = ⟨putS k st (nextN g ns rm wk b ov), putB b (nextN g ns rm wk b ov), ov⟩) := Lib.hid (by
    show stepN g ns rm wk k (planN g ns rm wk k) = _
    rw [HPK.out]
    unfold stepN
    simp only []
    rw [hov])
   have hov16 : ov < 65536 := Nat.lt_of_lt_of_le hovl (Nat.le_trans (Nat.pow_le_pow_right (by omega) h8) (by decide))
   have HP5 := Lib.hid hP5
   have cg := hP5.g.cell
   have co := hP5.o.cell
   clear hP5 hys hov hM5 hK5 hbox hBs
   have hr15 : ns.length ≤ 15 := by rw [HNL.out]; omega
   have hrl : readyN ns ov < 2 ^ g.length := HNL.out ▸ readyU_lt ns ov _
   have hr16 : readyN ns ov < 65536 := Nat.lt_of_lt_of_le hrl (Nat.le_trans (Nat.pow_le_pow_right (by omega) h8) (by decide))
   have hbd : bits BinOp.andNot IntKind.u16 ((readyN ns ov : Nat) : Int) (b : Int) = ((diff (readyN ns ov) b : Nat) : Int) := bits_andNot_u16 _ _ hr16
   have HRK := fun W' hG hT' => ranked_calls C g ns (diff (readyN ns ov) b) HGR.out (diff_lt hrl) W' hG hT'
   have HNX : Hid (nextN g ns rm wk b ov = (admN g rm wk (cnt g (elems (diff b ov))) (rankL (tailN g ns) (elems (diff (readyN ns ov) b)))).2) := Lib.hid rfl
   have hrkl : ∀ x ∈ rankL (tailN g ns) (elems (diff (readyN ns ov) b)), x < g.length := fun x hx => elems_below (diff_lt (n := g.length) hrl) ((rank_sorted (tailN g ns) (elems (diff (readyN ns ov) b))).2.mem_iff.1 hx)
   have hrkn : (rankL (tailN g ns) (elems (diff (readyN ns ov) b))).length ≤ 16 := by rw [(rank_sorted (tailN g ns) (elems (diff (readyN ns ov) b))).2.length_eq]; exact elems_length _
   have HRKL := Lib.hid hrkl
   clear hrkl hrl
   generalize rankL (tailN g ns) (elems (diff (readyN ns ov) b)) = rk at HRK HNX HRKL hrkn
   go_wp2
   go_still_tail 6, mixed
   repeat still_step
   still_call (ready_calls C g ns ov hr15 (graphN_need_u16 HGR.out) hov16 _ (HG.out.below HP5.out.hB.drew))
   repeat still_step
   refine wpStill_nil ?_
   rw [show ({ heap := W5.heap, tape := W5.tape, drawn := W5.drawn + 1, os := W5.os, output := W5.output } : World) = W5.drew from rfl]
   have hB6 : Below W5.heap.size W5 W5.drew := (Below.refl _ _).drew
   have HP6 := Lib.hid (HP5.out.below hB6)
   have HM6 := Lib.hid (HM5.out.below hB6)
   obtain ⟨W6, hW6⟩ : ∃ W6, W6 = W5.drew := ⟨_, rfl⟩
   rw [← hW6] at HP6 HM6 ⊢
   clear hW6 hB6 cg co
   have HR6 := Lib.hid (HRK W6 (HG.out.below HP6.out.hB) (hT.keep htl HP6.out.hB))
   go_wp2_with (go_at_call 48; refine HR6.out.mono ?_; rintro e W7 ⟨v7, rfl, hR7, hB7⟩)
   obtain ⟨A7, c7, rfl, _, hC7⟩ := Kd.R_reads hR7
   rw [ints_length] at hC7 ⊢
   have HC7 := Lib.hid hC7
   have HP7 := Lib.hid (HP6.out.below hB7)
   have HM7 := Lib.hid (HM6.out.below hB7)
   have cg := HP7.out.g.cell
   have co := HP7.out.o.cell
   have hbd2 : bits BinOp.andNot IntKind.u16 (b : Int) (ov : Int) = ((diff b ov : Nat) : Int) := bits_andNot_u16 _ _ hb16
   have HB7 := Lib.hid (HP6.out.hB.trans (hB7.mono HP6.out.hB.size))
   clear hR7 hB7 hC7 hbd
   have HCT := fun W' h1 h2 => counted_calls C g ns (diff b ov) (diff_lt hb) HOK.out W' h1 h2
   have HCS : Hid ((cnt g (elems (diff b ov))).small 100) := Lib.hid (cnt_small100 HOK.out (Nat.le_trans (elems_length _) (by omega)))
   generalize cnt g (elems (diff b ov)) = ct at HCT HCS HNX
   have HC1 : Hid (∀ W, (W.cell? ⟨w.heap.size, 0, none⟩ = some (.pointer (some ⟨C, 0, none⟩)) ∧ W.cell? ⟨w.heap.size + 3, 0, none⟩ = some (.int .u16 (ov : Nat)) ∧ Below W7.heap.size W7 W) → Calls Tryz.prog 51 #[.pointer (some ⟨C, 0, none⟩), .int .u16 (diff b ov : Nat)] W fun e w' =>
     e = .returned (.agg #[.int .i64 ct.t, .int .i64 (ct.u 0), .int .i64 (ct.u 1), .int .i64 (ct.u 2)]) ∧ w'.cell? ⟨w.heap.size, 0, none⟩ = some (.pointer (some ⟨C, 0, none⟩)) ∧ w'.cell? ⟨w.heap.size + 3, 0, none⟩ = some (.int .u16 (ov : Nat)) ∧ Below W7.heap.size W7 w') := Lib.hid (by
    rintro W ⟨_, _, hW⟩
    refine (HCT W (HG.out.below (HP7.out.below hW).hB) (hT.keep htl (HP7.out.below hW).hB)).mono ?_
    rintro e w' ⟨he, hB9⟩
    have hB := hW.trans (hB9.mono hW.size)
    exact ⟨he, (HP7.out.below hB).g.cell, (HP7.out.below hB).o.cell, hB⟩)
   have HC2 : Hid (∀ W, (W.cell? ⟨w.heap.size, 0, none⟩ = some (.pointer (some ⟨C, 0, none⟩)) ∧ W.cell? ⟨w.heap.size + 3, 0, none⟩ = some (.int .u16 (ov : Nat)) ∧ Below W7.heap.size W7 W) → Calls Tryz.prog 50 #[.pointer (some ⟨C, 0, none⟩), .agg #[.int .i64 ct.t, .int .i64 (ct.u 0), .int .i64 (ct.u 1), .int .i64 (ct.u 2)], .slice A1 rm.length c1, .slice A7 rk.length c7, .int .i64 wk] W fun e w' =>
     ∃ A10 c10, e = .returned (.slice A10 (nextN g ns rm wk b ov).length c10) ∧ Kd.R (Kd.int .i64) 3 w' W7.heap.size (fun _ => True) (.slice A10 (nextN g ns rm wk b ov).length c10) (ints (nextN g ns rm wk b ov)) ∧ w'.cell? ⟨w.heap.size, 0, none⟩ = some (.pointer (some ⟨C, 0, none⟩)) ∧ w'.cell? ⟨w.heap.size + 3, 0, none⟩ = some (.int .u16 (ov : Nat)) ∧ Below W7.heap.size W7 w') := Lib.hid (by
    rintro W ⟨_, _, hW⟩
    have had := admitted_calls C g ns ct A1 c1 rm A7 c7 rk wk HOK.out HCS.out HRM.out hrkn HRKL.out W (HG.out.below (HP7.out.below hW).hB) (Kd.C_below HR1.out (HP7.out.below hW).hB) (Kd.C_below HC7.out hW)
    rw [← HNX.out] at had
    refine had.mono ?_
    rintro e w' ⟨v, rfl, hR, hB9⟩
    have hB := hW.trans (hB9.mono hW.size)
    obtain ⟨A10, c10, rfl, _, _⟩ := Kd.R_reads hR
    rw [ints_length] at hR ⊢
    exact ⟨A10, c10, rfl, Kd.R_lower hR hW.size, (HP7.out.below hB).g.cell, (HP7.out.below hB).o.cell, hB⟩)
   go_wp2
   go_region_held3 (fun w' => w'.cell? ⟨w.heap.size, 0, none⟩ = some (.pointer (some ⟨C, 0, none⟩)) ∧ w'.cell? ⟨w.heap.size + 3, 0, none⟩ = some (.int .u16 (ov : Nat)) ∧ Below W7.heap.size W7 w') (first | exact ⟨cg, co, (Below.refl _ W7).drew⟩ | go_keep | (trace_state; fail))
    (first | (go_at_call 51; refine (HC1.out _ ?_).mono ?_; (first | assumption | (refine ⟨?_, ?_, ?_⟩ <;> assumption) | (trace_state; fail)); rintro e W9 ⟨rfl, hS1, hS2, hS3⟩) | (go_at_call 50; refine (HC2.out _ ?_).mono ?_; (first | assumption | (refine ⟨?_, ?_, ?_⟩ <;> assumption) | (trace_state; fail)); rintro e W10 ⟨A10, c10, rfl, hR10, hX1, hX2, hB10⟩))
   have HP9 := HP7
   have HM9 := HM7
   have HP10 := HP9.out.below hB10
   have HM10 := HM9.out.below hB10
   have hnx := nextN_lt (g := g) (ns := ns) rm wk (b := b) (o := ov) HNL.out
   have hR11 : Kd.R (Kd.int .i64) 3 W10 w.heap.size (fun q => q ≠ w.heap.size + 1) (.slice A10 (nextN g ns rm wk b ov).length c10) (ints (nextN g ns rm wk b ov)) := by
    have h1 := HB7.out.size
    have h2 := blk_lt HP7.out.r
    exact Kd.R_lower (Kd.R_mono (Kd.R_bound hR10) (fun q hq => by have := hq.2.1; omega)) h1
   have HSO := Lib.hid (putS_ok (n := g.length) (now := (k : Int)) (by omega))
   have HNXM := Lib.hid hnx
   have hnn : (nextN g ns rm wk b ov).length ≤ 16 := by
    have h1 := (admN_facts HOK.out rm wk HCS.out rk rk.length (Nat.le_refl _)).2
    rw [List.take_length] at h1
    rw [HNX.out]
    omega
   clear hR10 hB10 hX1 hX2 hnx HRKL hrkn
   generalize nextN g ns rm wk b ov = nx at hR11 HNXM HSTEP hnn
   go_wp2
   go_loopw [8, 64] (fun bg i wr => ∃ j, j ≤ nx.length ∧ i = .int .i64 (j : Nat) ∧ bg = .int .u16 (putB b (nx.take j) : Nat) ∧ PH w C w.heap.size g.length (putS k st (nx.take j)) ov N k wr ∧ Marks (D :: Ds) wr ∧ Kd.R (Kd.int .i64) 3 wr w.heap.size (fun q => q ≠ w.heap.size + 1) (.slice A10 nx.length c10) (ints nx)) (fun _ i _ => nx.length - (intOf i).toNat)
   case atStart => exact ⟨0, Nat.zero_le _, rfl, rfl, HP10, HM10, hR11⟩
   case round =>
    clear HP10 HM10 hR11
    obtain ⟨j, hj, rfl, rfl, hP, hM, hR⟩ := hrel
    by_cases hjl : j < nx.length
    ·
     have hjj : decide ((j : Int) < (nx.length : Int)) = true := decide_eq_true (by omega)
     have hji : (j : Int) < (nx.length : Int) := by omega
     obtain ⟨A11, c11, e5, _, hCn⟩ := Kd.R_reads hR
     rw [ints_length] at e5 hCn
     cases e5
     obtain ⟨ad, rfl, cx⟩ := at_set hCn j hjl
     have hxg : nx.getD j 0 < g.length := by
      apply HNXM.out
      rw [List.getD_eq_getElem?_getD, List.getElem?_eq_getElem hjl]
      exact List.getElem_mem _
     have HPS : Hid (putS k st (nx.take (j + 1)) = (putS k st (nx.take j)).set (nx.getD j 0) k) := Lib.hid (by
      rw [List.take_succ_eq_append_getElem hjl, putS_snoc, List.getD_eq_getElem?_getD, List.getElem?_eq_getElem hjl]
      rfl)
     have HPB : Hid (putB b (nx.take (j + 1)) = putB b (nx.take j) ||| 2 ^ nx.getD j 0) := Lib.hid (by
      rw [List.take_succ_eq_append_getElem hjl, putB_snoc, List.getD_eq_getElem?_getD, List.getElem?_eq_getElem hjl]
      rfl)
     have hbl : putB b (nx.take j) < 2 ^ g.length := putB_lt _ hb (fun i hi => HNXM.out i (List.mem_of_mem_take hi))
     have hbl16 : putB b (nx.take j) < 65536 := Nat.lt_of_lt_of_le hbl (Nat.le_trans (Nat.pow_le_pow_right (by omega) h8) (by decide))
     generalize putB b (nx.take j) = bj at HPB hbl hbl16
     have hso := HSO.out (nx.take j) hst
     generalize nx.getD j 0 = x at cx hxg HPS HPB
     have hx16 : x < 16 := by omega
     have cs := hP.s.cell
     have ct := hP.t.cell
     have cr := hP.r.cell x (by rw [hso.1]; exact hxg)
     have fr := hP.r.frozen x
     have hxi : (x : Int) < (g.length : Int) := by omega
     have HIN := Lib.hid (And.intro hP (And.intro hM hR))
     clear hP hM hR hCn hso
     go_wp2_with (go_at_call 42; refine (with_calls bj x hbl16 hx16 _).mono ?_; rintro e w' ⟨rfl, rfl⟩)
     go_roundw
     case rel =>
      refine ⟨j + 1, by omega, by go_num, by rw [HPB.out], ?_, HIN.out.2.1.set _ _ ⟨_, _, _, HIN.out.1.r⟩, Kd.R_far (p := ⟨w.heap.size + 1, x, none⟩) HIN.out.2.2 (fun q h => h) _⟩
      rw [HPS.out]
      exact HIN.out.1.setR x k
     case measure => simp [intOf]; omega
    ·
     obtain rfl : j = nx.length := by omega
     have hjj : decide ((nx.length : Int) < (nx.length : Int)) = false := decide_eq_false (by omega)
     rw [List.take_length] at hP
     have ct := hP.t.cell
     have HPE := Lib.hid hP
     have HME := Lib.hid hM
     have hk1 : IntKind.i64.wrap ((k : Int) + 1) = (k : Int) + 1 := IntWalk.i64_in _ (by omega)
     clear hP hM hR
     go_wp2
     have hBz : Below wr.heap.size wr (wr.alloc (.cells #[.int .i64 ((k : Int) + 1)] 3)) := (Below.refl _ _).alloc (Nat.le_refl _) _
     have hPz := HPE.out.newT ((k : Int) + 1)
     rw [show (k : Int) + 1 = ((k + 1 : Nat) : Int) from by omega] at hPz hBz ⊢
     refine ⟨⟨_, D :: Ds, k + 1, wr.heap.size, rfl, rfl, rfl, rfl, rfl, rfl, ?_, rfl, rfl, by omega, HME.out.below hBz, ?_, ?_⟩, ?_⟩
     ·
      show Value.int .u16 _ = _
      rw [HSTEP.out, List.take_length]
     ·
      intro E hE
      rcases List.mem_cons.1 hE with rfl | hE
      ·
       exact hD2
      ·
       exact hDs E hE
     ·
      rw [HSTEP.out]
      exact hPz
     ·
      show K - nowAt (.pointer (some ⟨wr.heap.size, 0, none⟩)) _ < K - nowAt (u 10) W
      rw [nowAt_box hPz.t, t10, nowAt_box HPH.out.t]
      omega
 ·
  obtain rfl : k = K := by omega
  rw [hAL] at hP
  have dne : (((2 ^ g.length - 1 : Nat) : Int) != ((2 ^ g.length - 1 : Nat) : Int)) = false := by simp
  have cg := hP.g.cell
  have co := hP.o.cell
  have cs := hP.s.cell
  have HPH := Lib.hid hP
  have HM := Lib.hid hM
  clear HNE hAL hP hM
  go_wp2
  go_quiet (first
   | (go_at_call 25; exact Calls.quiet_of_same (size_calls _ C g ns (HG.out.below (pw_below_drewN HPH.out.hB _))))
   | (go_at_call 24; exact Calls.quiet_of_same (everything_calls g.length (by omega) _)))
  go_wp2
  refine leave_marks (B := w.heap.size) Ds _ (HM.out.below (pw_below_drewN (Below.refl _ _) nq)) hDs (fun w' hs => ⟨results_tmp rfl _ _ _, _, rfl, ?_, (pw_below_drewN HPH.out.hB nq).trans hs.below⟩)
  have hr := hs.cells (w.heap.size + 1) _ (HPH.out.r.below (pw_below_drewN (Below.refl _ _) nq)) rfl
  have hr2 := IRow.own (base := w.heap.size) (show IRow w' (w.heap.size + 1) _ from hr) (by omega) (by rw [hok.1.1]; omega)
  rw [hok.1.1] at hr2
  exact hr2
end Go.Proofs.YtkljcdghbefceaaGreatDoor

namespace Go.Proofs.YtkljcdghbefceaaGreatDoor
set_option linter.unusedVariables false
set_option linter.unusedSimpArgs false
open Go.RowKit Go.Shelf Bits
open Go.Proofs.YtkljcdghbefceaaGreatDoorW.PrintWords Go.Proofs.YtkljcdghbefceaaGreatDoorW.PrintLast Go.Proofs.YtkljcdghbefceaaGreatDoorW.PrintMore
attribute [local go_sem] Oper.semAt_some
theorem R_nilI (w : World) (base : Nat) : Kd.R (Kd.int .i64) 3 w base (fun _ => True) (.slice none 0 0) [] := Kd.R_of_own ⟨by simp [encs], .inl ⟨rfl, by simp [encs]⟩⟩ (fun _ _ => trivial)
theorem readyN_lt (ns : List Nat) (d : Nat) : readyN ns d < 2 ^ ns.length := readyU_lt ns d _
theorem doneN_facts {g : List Tk} {l : List Int} {ns : List Nat} {s : Nat} (h : doneN g l = some (ns, s)) : graphN g = some ns ∧ setOfN l g.length = some s ∧ closedN ns s = true := by
 unfold doneN at h
 obtain ⟨ns', h1, h⟩ := Option.bind_eq_some_iff.1 h
 obtain ⟨s', h2, h⟩ := Option.bind_eq_some_iff.1 h
 split at h
 ·
  cases h
  exact ⟨h1, h2, by assumption⟩
 ·
  cases h
def rdOrdN (g : List Tk) (l : List Int) : List Int := match doneN g l with
 | some (ns, s) => ints (rankL (tailN g ns) (elems (readyN ns s)))
 | none => []
def rdTasksN (g : List Tk) (l : List Int) : List Int := match doneN g l with
 | some (ns, s) => els (readyN ns s)
 | none => []
def tailTimesN (g : List Tk) : List Int := match graphN g with
 | some ns => tailN g ns
 | none => []
end Go.Proofs.YtkljcdghbefceaaGreatDoor

namespace Go.Proofs.YtkljcdghbefceaaGreatDoor
set_option linter.unusedVariables false
set_option linter.unusedSimpArgs false
open Go.RowKit Go.Shelf Bits
open Go.Proofs.YtkljcdghbefceaaGreatDoorW.PrintWords Go.Proofs.YtkljcdghbefceaaGreatDoorW.PrintLast Go.Proofs.YtkljcdghbefceaaGreatDoorW.PrintMore
def vDoneB (g : List Tk) (d : List Int) : Bool := specValid g && (ascB d && (allInB d 0 (g.length - 1) && d.all fun x => allDoneB (rdTk g x.toNat).f1 d))
theorem allIn_mem {l : List Int} {lo hi : Int} (h : allInB l lo hi = true) : ∀ j, j < l.length → lo ≤ l.getD j 0 ∧ l.getD j 0 ≤ hi := fun j hj => by
 unfold allInB at h
 rw [List.all_eq_true] at h
 exact inB_true.1 (h _ (mem_getD hj))
theorem specValid_len {g : List Tk} (h : specValid g = true) : g.length ≤ 8 := by
 unfold specValid tasksFineB at h
 simp at h
 exact h.1.2
end Go.Proofs.YtkljcdghbefceaaGreatDoor

namespace Go.Proofs.YtkljcdghbefceaaGreatDoor
set_option linter.unusedVariables false
set_option linter.unusedSimpArgs false
open Go.RowKit Go.Shelf Bits
open Go.Proofs.YtkljcdghbefceaaGreatDoorW.PrintWords Go.Proofs.YtkljcdghbefceaaGreatDoorW.PrintLast Go.Proofs.YtkljcdghbefceaaGreatDoorW.PrintMore
def sRdTasks (g : List Tk) (d : List Int) : List Nat := if vDoneB g d then readyS g d else []
def sRdOrd (g : List Tk) (d : List Int) : List Nat := if vDoneB g d then insL (tailsS g) (readyS g d) else []
theorem vDone_valid {g : List Tk} {d : List Int} (h : vDoneB g d = true) : specValid g = true := by
 unfold vDoneB at h
 rw [Bool.and_eq_true] at h
 exact h.1
theorem readyS_len (g : List Tk) (d : List Int) : (readyS g d).length ≤ g.length := filter_range_le _ _
theorem readyS_lt {g : List Tk} {d : List Int} : ∀ x ∈ readyS g d, x < g.length := fun x hx => List.mem_range.1 (List.mem_filter.1 hx).1
theorem sRdTasks_len (g : List Tk) (d : List Int) : (sRdTasks g d).length ≤ 8 := by
 unfold sRdTasks
 split
 ·
  rename_i h
  exact Nat.le_trans (readyS_len g d) (specValid_len (vDone_valid h))
 ·
  simp
end Go.Proofs.YtkljcdghbefceaaGreatDoor

namespace Go.Proofs.YtkljcdghbefceaaGreatDoor
set_option linter.unusedVariables false
set_option linter.unusedSimpArgs false
open Go.RowKit Go.Shelf Bits
theorem filter_rangeR {P : Nat → Bool} {n : Nat} (h : ∀ i, P i = true → i < n) : ∀ d, (List.range (n + d)).filter P = (List.range n).filter P
 | 0 => rfl
 | d + 1 => by
  rw [← Nat.add_assoc, List.range_succ, List.filter_append, filter_rangeR h d]
  have : P (n + d) = false := by
   cases hp : P (n + d) with
   | false => rfl
   | true => have := h _ hp; omega
  simp [this]
theorem needs_in {g : List Tk} {ns : List Nat} (hg : graphN g = some ns) {l : List Int} {s : Nat} (hs : ∀ j : Nat, s.testBit j = decide ((j : Int) ∈ l)) {i : Nat} (hi : i < g.length) : decide (diff (ns.getD i 0) s = 0) = allDoneB (rdTk g i).f1 l := by
 rw [Bool.eq_iff_iff, decide_eq_true_iff, diff_zero]
 unfold allDoneB
 rw [List.all_eq_true]
 obtain ⟨_, _, hn⟩ := graphN_all hg
 constructor
 ·
  intro h x hx
  obtain ⟨hx0, hx1⟩ := setOfL_mem _ _ _ _ _ (by omega) (hn i hi).2 x hx
  have hxe : x = ((x.toNat : Nat) : Int) := by omega
  have := h x.toNat (by rw [need_bit hg hi]; exact decide_eq_true (by rw [← hxe]; exact hx))
  rw [hs] at this
  rw [hxe]
  exact this
 ·
  intro h j hj
  rw [need_bit hg hi] at hj
  rw [hs]
  exact h _ (of_decide_eq_true hj)
theorem doneN_eq (g : List Tk) (l : List Int) : vDoneB g l = (doneN g l).isSome := by
 unfold vDoneB
 rw [specValid_eq]
 cases hg : graphN g with
 | none =>
  rw [show doneN g l = none by unfold doneN; rw [hg]; rfl]
  rfl
 | some ns =>
  rw [show (some ns).isSome = true from rfl, Bool.true_and]
  have h1 := setOfN_isSome l g.length
  cases hs : setOfN l g.length with
  | none =>
   rw [hs] at h1
   rw [show doneN g l = none by unfold doneN; rw [hg]; show (setOfN l g.length).bind _ = none; rw [hs]; rfl]
   cases ha : ascB l
   ·
    rfl
   ·
    rw [ha, Bool.and_true] at h1
    rw [← h1]
    rfl
  | some s =>
   rw [hs] at h1
   have h2 : allInB l 0 (g.length - 1) = true ∧ ascB l = true := by rw [← Bool.and_eq_true]; exact h1.symm
   rw [h2.1, h2.2, Bool.true_and, Bool.true_and, graph_some_lt hg hs]
   have hb : ∀ j : Nat, s.testBit j = decide ((j : Int) ∈ l) := fun j => setOfN_bits hs j
   have hin := setOfL_mem _ _ _ _ _ (by omega) hs
   have h8 := (graphN_all hg).1
   have hc : closedN ns s = l.all fun x => allDoneB (rdTk g x.toNat).f1 l := by
    unfold closedN
    rw [Bool.eq_iff_iff, List.all_eq_true, List.all_eq_true]
    constructor
    ·
     intro h x hx
     obtain ⟨x0, x1⟩ := hin x hx
     have hxe : x = ((x.toNat : Nat) : Int) := by omega
     rw [← needs_in hg hb (by omega)]
     exact h x.toNat (mem_elems.2 ⟨by omega, by rw [hb, ← hxe]; exact decide_eq_true hx⟩)
    ·
     intro h i hi
     have hil := of_decide_eq_true ((hb i).symm.trans (elems_bit hi))
     obtain ⟨i0, i1⟩ := hin _ hil
     show needsIn ns s i = true
     unfold needsIn
     rw [needs_in hg hb (by omega)]
     exact h _ hil
   rw [← hc]
   cases closedN ns s <;> rfl
theorem readyN_eq {g : List Tk} {l : List Int} {ns : List Nat} {s : Nat} (hd : doneN g l = some (ns, s)) : elems (readyN ns s) = readyS g l := by
 obtain ⟨hg, hs, hc⟩ := doneN_facts hd
 obtain ⟨h8, hn, _⟩ := graphN_all hg
 have hb : ∀ j : Nat, s.testBit j = decide ((j : Int) ∈ l) := fun j => setOfN_bits hs j
 unfold elems readyS
 have e : ∀ i, (readyN ns s).testBit i = (decide (i < g.length) && rdB g l i) := fun i => by
  rw [readyN_bit, hn]
  by_cases hi : i < g.length
  ·
   rw [decide_eq_true hi, Bool.true_and, Bool.true_and]
   unfold isReady rdB
   rw [hb, needs_in hg hb hi]
  ·
   rw [decide_eq_false hi]
   rfl
 have h1 := filter_rangeR (P := (readyN ns s).testBit) (n := g.length) (fun i hi => by
  rw [e, Bool.and_eq_true] at hi
  exact of_decide_eq_true hi.1) (16 - g.length)
 rw [show g.length + (16 - g.length) = 16 by omega] at h1
 show (List.range 16).filter (readyN ns s).testBit = _
 rw [h1]
 apply List.filter_congr
 intro i hi
 rw [e, decide_eq_true (List.mem_range.1 hi), Bool.true_and]
theorem bubL_sorted (T : List Int) : ∀ (k : Nat) (A B : List Nat) (x : Nat), A.length = k → (A ++ B).Pairwise (leT T) → (∀ b ∈ B, leT T x b) → (bubL T k (A ++ x :: B)).Pairwise (leT T)
 | 0, A, B, x, hA, hs, hx => by
  obtain rfl : A = [] := List.eq_nil_of_length_eq_zero hA
  show (x :: B).Pairwise (leT T)
  exact List.pairwise_cons.2 ⟨hx, by simpa using hs⟩
 | k + 1, A, B, x, hA, hs, hx => by
  obtain ⟨A', y, rfl⟩ : ∃ A' y, A = A' ++ [y] := ⟨A.dropLast, A.getLast (by intro h; rw [h] at hA; simp at hA), (List.dropLast_concat_getLast _).symm⟩
  have hA' : A'.length = k := by simpa using hA
  have e1 : (A' ++ [y] ++ x :: B).getD (k + 1) 0 = x := by
   rw [List.getD_eq_getElem?_getD, ← hA', show A' ++ [y] ++ x :: B = (A' ++ [y]) ++ x :: B from rfl, List.getElem?_append_right (by simp)]
   simp
  have e2 : (A' ++ [y] ++ x :: B).getD k 0 = y := by
   rw [List.getD_eq_getElem?_getD, ← hA']
   simp
  unfold bubL
  rw [e1, e2]
  have hpw : (A' ++ (y :: B)).Pairwise (leT T) := by simpa using hs
  obtain ⟨p1, p2, p3⟩ := List.pairwise_append.1 hpw
  obtain ⟨p4, p5⟩ := List.pairwise_cons.1 p2
  by_cases hl : lessB T x y = true
  ·
   rw [if_pos hl]
   have e3 : swapL (A' ++ [y] ++ x :: B) k (k + 1) = A' ++ x :: (y :: B) := by
    unfold swapL
    rw [e1, e2, ← hA']
    simp [List.set_append]
   rw [e3]
   exact bubL_sorted T k A' (y :: B) x hA' hpw (fun b hb => by
    rcases List.mem_cons.1 hb with rfl | hb
    ·
     exact less_true hl
    ·
     exact (less_true hl).trans (p4 b hb))
  ·
   rw [if_neg hl]
   have hyx : leT T y x := less_false.1 (by simpa using hl)
   have : (A' ++ [y] ++ x :: B) = A' ++ (y :: x :: B) := by simp
   rw [this]
   refine List.pairwise_append.2 ⟨p1, List.pairwise_cons.2 ⟨fun b hb => ?_, List.pairwise_cons.2 ⟨hx, p5⟩⟩, fun a ha b hb => ?_⟩
   ·
    rcases List.mem_cons.1 hb with rfl | hb
    ·
     exact hyx
    ·
     exact p4 b hb
   ·
    rcases List.mem_cons.1 hb with rfl | hb
    ·
     exact p3 a ha _ (List.mem_cons_self ..)
    ·
     rcases List.mem_cons.1 hb with rfl | hb
     ·
      exact (p3 a ha y (List.mem_cons_self ..)).trans hyx
     ·
      exact p3 a ha b (List.mem_cons_of_mem _ hb)
theorem insL_sortedA (T : List Int) : ∀ (xs acc : List Nat), acc.Pairwise (leT T) → (xs.foldl (fun out x => bubL T out.length (out ++ [x])) acc).Pairwise (leT T)
 | [], acc, h => h
 | x :: xs, acc, h => insL_sortedA T xs _ (bubL_sorted T acc.length acc [] x rfl (by simpa using h) (fun b hb => by cases hb))
theorem insL_sorted (T : List Int) (xs : List Nat) : (insL T xs).Pairwise (leT T) := insL_sortedA T xs [] List.Pairwise.nil
theorem rank_ins (T : List Int) (xs : List Nat) : rankL T xs = insL T xs :=
 rank_unique (rank_sorted T xs).1 (insL_sorted T xs) ((rank_sorted T xs).2.trans (insL_perm T xs).symm)
theorem rdOrd_eq (g : List Tk) (l : List Int) : rdOrdN g l = ints (sRdOrd g l) := by
 unfold rdOrdN sRdOrd
 rw [doneN_eq]
 cases hd : doneN g l with
 | none => rfl
 | some p =>
  obtain ⟨ns, s⟩ := p
  rw [if_pos (show (some (ns, s)).isSome = true from rfl), ← tailN_eq (doneN_facts hd).1, ← readyN_eq hd, ← rank_ins]
theorem rdTasks_eq (g : List Tk) (l : List Int) : rdTasksN g l = ints (sRdTasks g l) := by
 unfold rdTasksN sRdTasks
 rw [doneN_eq]
 cases hd : doneN g l with
 | none => rfl
 | some p =>
  obtain ⟨ns, s⟩ := p
  rw [if_pos (show (some (ns, s)).isSome = true from rfl), ← readyN_eq hd]
  rfl
end Go.Proofs.YtkljcdghbefceaaGreatDoor

namespace Go.Proofs.YtkljcdghbefceaaGreatDoor
set_option linter.unusedVariables false
set_option linter.unusedSimpArgs false
open Go.RowKit Go.Shelf Bits
structure PRel (g : List Tk) (L : List Int) (k : Nat) (p : PS) : Prop where
 len : p.st.length = g.length
 b : p.b < 2 ^ g.length
 o : p.o < 2 ^ g.length
 hb : ∀ j, j < g.length → p.b.testBit j = !idleB L j
 hs : ∀ j, j < g.length → p.st.getD j 0 = if idleB L j then 0 else L.getD j 0
 ho : ∀ j, j < g.length → p.o.testBit j = decide (L.getD j 0 + (rdTk g j).f0 ≤ (k : Int) - 1)
theorem bit_far {n x j : Nat} (h : x < 2 ^ n) (hj : n ≤ j) : x.testBit j = false := Nat.testBit_lt_two_pow (Nat.lt_of_lt_of_le h (Nat.pow_le_pow_right (by omega) hj))
theorem elems_eq {n x : Nat} (hn : n ≤ 16) (hx : x < 2 ^ n) (P : Nat → Bool) (h : ∀ j, j < n → x.testBit j = P j) : elems x = (List.range n).filter P := by
 unfold elems
 have h1 := filter_rangeR (P := x.testBit) (n := n) (fun i hi => by
  by_cases hin : i < n
  ·
   exact hin
  ·
   rw [bit_far hx (by omega)] at hi
   cases hi) (16 - n)
 rw [show n + (16 - n) = 16 by omega] at h1
 rw [h1]
 exact List.filter_congr fun i hi => h i (List.mem_range.1 hi)
theorem ovN_bit (g : List Tk) (st : List Int) (now : Int) (j : Nat) : ∀ (l : List Nat) (o : Nat), (ovN g st now o l).testBit j = (o.testBit j || (decide (j ∈ l) && decide (st.getD j 0 + (rdTk g j).f0 ≤ now)))
 | [], o => by simp [ovN]
 | i :: l, o => by
  show (ovN g st now (ovF g st now o i) l).testBit j = _
  rw [ovN_bit g st now j l]
  unfold ovF
  by_cases hij : i = j
  ·
   subst hij
   by_cases hc : st.getD i 0 + (rdTk g i).f0 ≤ now
   ·
    rw [if_pos hc, or_bit, decide_eq_true hc, decide_eq_true (rfl : i = i), decide_eq_true (List.mem_cons_self : i ∈ i :: l)]
    simp
   ·
    rw [if_neg hc, decide_eq_false hc]
    simp
  ·
   have hm : decide (j ∈ i :: l) = decide (j ∈ l) := by
    rw [decide_eq_decide, List.mem_cons]
    constructor
    ·
     rintro (e | e)
     ·
      exact absurd e.symm hij
     ·
      exact e
    ·
     exact Or.inr
   rw [hm]
   by_cases hc : st.getD i 0 + (rdTk g i).f0 ≤ now
   ·
    rw [if_pos hc, or_bit, decide_eq_false hij, Bool.or_false]
   ·
    rw [if_neg hc]
theorem putB_bit (j : Nat) : ∀ (l : List Nat) (b : Nat), (putB b l).testBit j = (b.testBit j || decide (j ∈ l))
 | [], b => by simp [putB]
 | i :: l, b => by
  show (putB (b ||| 2 ^ i) l).testBit j = _
  rw [putB_bit j l, or_bit]
  by_cases hij : i = j
  ·
   subst hij
   simp
  ·
   rw [decide_eq_false hij, Bool.or_false]
   congr 1
   rw [decide_eq_decide, List.mem_cons]
   constructor
   ·
    exact Or.inr
   ·
    rintro (e | e)
    ·
     exact absurd e.symm hij
    ·
     exact e
theorem plan_step {g : List Tk} {ns : List Nat} (rm : List Int) (wk : Int) (hg : graphN g = some ns) {L : List Int} {k : Nat} {p : PS} (hk : k < 200) (hL : L.length = g.length) (hB : ∀ j, j < g.length → L.getD j 0 = 200 ∨ (0 ≤ L.getD j 0 ∧ L.getD j 0 < k)) (h : PRel g L k p) : PRel g (stepS g rm wk L k) (k + 1) (stepN g ns rm wk k p) := by
 obtain ⟨st, b, o⟩ := p
 obtain ⟨h1, h2, h3, h4, h5, h6⟩ := h
 simp only [] at h1 h2 h3 h4 h5 h6
 obtain ⟨h8, hn, _⟩ := graphN_all hg
 have hok := specValid_TOk (graphN_spec hg)
 have hol : ovN g st k o (elems b) < 2 ^ g.length := ovN_lt _ h3 (fun i hi => elems_below h2 hi)
 have hob : ∀ j, j < g.length → (ovN g st k o (elems b)).testBit j = overB g L k j := fun j hj => by
  have ht := hok.2.1 j
  rw [ovN_bit, h6 j hj, show decide (j ∈ elems b) = b.testBit j by
   rw [Bool.eq_iff_iff, decide_eq_true_iff, mem_elems]
   exact ⟨fun e => e.2, fun e => ⟨by omega, e⟩⟩, h4 j hj, h5 j hj]
  unfold overB
  rcases hB j hj with e | e
  ·
   rw [idleB_iff.2 e, e, Bool.not_true, Bool.false_and, Bool.or_false, decide_eq_decide]
   omega
  ·
   have : idleB L j = false := by
    cases hi : idleB L j with
    | false => rfl
    | true => have := idleB_iff.1 hi; omega
   rw [this, Bool.not_false, Bool.true_and, if_neg (by simp), Bool.eq_iff_iff, Bool.or_eq_true, decide_eq_true_iff, decide_eq_true_iff]
   omega
 generalize hov : ovN g st k o (elems b) = ov at hol hob
 have e1 : elems (diff b ov) = runS g L k := by
  refine elems_eq (by omega) (diff_lt h2) _ (fun j hj => ?_)
  rw [diff_bit, h4 j hj, hob j hj]
  unfold runB overB
  rcases hB j hj with e | e
  ·
   rw [idleB_iff.2 e, e, Bool.not_true, Bool.false_and]
   symm
   rw [Bool.and_eq_false_iff]
   left
   exact decide_eq_false (by omega)
  ·
   have : idleB L j = false := by
    cases hi : idleB L j with
    | false => rfl
    | true => have := idleB_iff.1 hi; omega
   rw [this, Bool.not_false, Bool.true_and, decide_eq_true (show L.getD j 0 ≤ (k : Int) by omega), Bool.true_and, Bool.eq_iff_iff, Bool.not_eq_true', decide_eq_false_iff_not, decide_eq_true_iff]
   omega
 have hbit : ∀ j : Nat, ov.testBit j = decide ((j : Int) ∈ ints (overS g L k)) := fun j => by
  by_cases hj : j < g.length
  ·
   rw [hob j hj, Bool.eq_iff_iff, overB_iff, decide_eq_true_iff, mem_intsN, mem_overS]
   exact ⟨fun e => ⟨hj, e⟩, fun e => e.2⟩
  ·
   rw [bit_far hol (by omega)]
   symm
   apply decide_eq_false
   rw [mem_intsN, mem_overS]
   exact fun e => hj e.1
 have e2 : elems (diff (readyN ns ov) b) = (readyS g (ints (overS g L k))).filter (idleB L) := by
  unfold readyS
  rw [List.filter_filter]
  refine elems_eq (by omega) (diff_lt (hn ▸ readyU_lt ns ov _)) _ (fun j hj => ?_)
  rw [diff_bit, readyN_bit, hn, decide_eq_true hj, Bool.true_and, h4 j hj, Bool.not_not, Bool.and_comm]
  congr 1
  unfold isReady rdB
  rw [hbit, needs_in hg hbit hj]
 have e3 : nextN g ns rm wk b ov = nextS g rm wk L k := by
  unfold nextN nextS
  rw [e1, e2, rank_ins, tailN_eq hg]
 unfold stepN
 simp only []
 rw [hov, e3]
 have hnl := nextS_lt g rm wk L k
 have hni : ∀ j, j < g.length → idleB (stepS g rm wk L k) j = (idleB L j && !decide (j ∈ nextS g rm wk L k)) := fun j hj => by
  rw [Bool.eq_iff_iff, idleB_iff, stepS_get hL, Bool.and_eq_true, idleB_iff]
  by_cases hm : j ∈ nextS g rm wk L k
  ·
   rw [if_pos hm]
   simp [hm]
   omega
  ·
   rw [if_neg hm]
   simp [hm]
 refine ⟨by simp only []; rw [putS_len]; exact h1, putB_lt _ h2 hnl, hol, fun j hj => ?_, fun j hj => ?_, fun j hj => ?_⟩
 ·
  simp only []
  rw [putB_bit, h4 j hj, hni j hj]
  cases idleB L j <;> cases decide (j ∈ nextS g rm wk L k) <;> rfl
 ·
  simp only []
  rw [putS_get _ _ _ _ (fun x hx => by rw [h1]; exact hnl x hx), h5 j hj, hni j hj, stepS_get hL]
  by_cases hm : j ∈ nextS g rm wk L k
  ·
   simp [hm]
  ·
   simp [hm]
 ·
  simp only []
  rw [hob j hj, stepS_get hL]
  unfold overB
  have ht := hok.2.2.2.2 j hj
  rw [decide_eq_decide]
  by_cases hm : j ∈ nextS g rm wk L k
  ·
   have := (nextS_in hm).2.2
   rw [if_pos hm, this]
   omega
  ·
   rw [if_neg hm]
   omega
theorem plan_rel {g : List Tk} {ns : List Nat} (rm : List Int) (wk : Int) (hg : graphN g = some ns) : ∀ k, k ≤ 200 → PRel g (planL g rm wk k) k (planN g ns rm wk k)
 | 0, _ => by
  have hok := specValid_TOk (graphN_spec hg)
  have e : ∀ j, j < g.length → (planL g rm wk 0).getD j 0 = 200 := fun j hj => by
   unfold planL
   rw [List.getD_eq_getElem?_getD, List.getElem?_replicate, if_pos hj]
   rfl
  refine ⟨by simp [planN], Nat.two_pow_pos _, Nat.two_pow_pos _, fun j hj => ?_, fun j hj => ?_, fun j hj => ?_⟩
  ·
   rw [idleB_iff.2 (e j hj)]
   simp [planN]
  ·
   rw [idleB_iff.2 (e j hj)]
   show (List.replicate g.length (0 : Int)).getD j 0 = _
   rw [List.getD_eq_getElem?_getD, List.getElem?_replicate, if_pos hj]
   rfl
  ·
   rw [e j hj]
   have := hok.2.1 j
   show (0 : Nat).testBit j = _
   rw [Nat.zero_testBit]
   symm
   exact decide_eq_false (by omega)
 | k + 1, hk => plan_step rm wk hg (by omega) (planL_ok g rm wk k (by omega)).1 (planL_before g rm wk k (by omega)) (plan_rel rm wk hg k (by omega))
theorem least_of {P : Nat → Prop} [DecidablePred P] : ∀ n, P n → ∃ k, k ≤ n ∧ P k ∧ ∀ j, j < k → ¬ P j
 | 0, h => ⟨0, Nat.le_refl _, h, fun j hj => absurd hj (Nat.not_lt_zero _)⟩
 | n + 1, h => by
  by_cases hc : ∃ m, m ≤ n ∧ P m
  ·
   obtain ⟨m, hm, hp⟩ := hc
   obtain ⟨k, h1, h2, h3⟩ := least_of m hp
   exact ⟨k, by omega, h2, h3⟩
  ·
   exact ⟨n + 1, Nat.le_refl _, h, fun j hj hp => hc ⟨j, by omega, hp⟩⟩
theorem all_bits {n x : Nat} (hx : x < 2 ^ n) (h : ∀ j, j < n → x.testBit j = true) : x = 2 ^ n - 1 := by
 apply Nat.eq_of_testBit_eq
 intro i
 rw [Nat.testBit_two_pow_sub_one]
 by_cases hi : i < n
 ·
  rw [h i hi, decide_eq_true hi]
 ·
  rw [bit_far hx (by omega), decide_eq_false hi]
theorem plan_eq {g : List Tk} {ns : List Nat} {rm : List Int} {wk : Int} (hg : graphN g = some ns) (hrm : roomB rm = true) (hwk : 1 ≤ wk) :
  ∃ K, K ≤ 200 ∧ (planN g ns rm wk K).o = 2 ^ g.length - 1 ∧ (∀ k, k < K → (planN g ns rm wk k).o ≠ 2 ^ g.length - 1) ∧ (planN g ns rm wk K).st = planS g rm wk := by
 have hv := graphN_spec hg
 have hok := specValid_TOk hv
 have hT := timeS_bound hok
 obtain ⟨k, hk, he⟩ := plan_ends hv hrm hwk
 have hn200 : ∀ i, i < g.length → (planL g rm wk k).getD i 0 ≠ 200 := fun i hi e => by
  have := he i hi
  have := hok.2.1 i
  omega
 have hall : (planN g ns rm wk (k + 1)).o = 2 ^ g.length - 1 := by
  have hr := plan_rel rm wk hg (k + 1) (by omega)
  refine all_bits hr.o (fun j hj => ?_)
  rw [hr.ho j hj, plan_stands hn200 1]
  have := he j hj
  exact decide_eq_true (by omega)
 obtain ⟨K, h1, h2, h3⟩ := least_of (P := fun k => (planN g ns rm wk k).o = 2 ^ g.length - 1) (k + 1) hall
 refine ⟨K, by omega, h2, h3, ?_⟩
 have hr := plan_rel rm wk hg K (by omega)
 have hK : ∀ i, i < g.length → (planL g rm wk K).getD i 0 ≠ 200 := fun i hi e => by
  have h4 := hr.ho i hi
  rw [h2, Nat.testBit_two_pow_sub_one, decide_eq_true hi, e] at h4
  have h5 := of_decide_eq_true h4.symm
  have := hok.2.1 i
  omega
 have e : planS g rm wk = planL g rm wk K := by
  have := plan_stands hK (200 - K)
  rw [show K + (200 - K) = 200 by omega] at this
  exact this
 rw [e]
 refine list_ext0 (by rw [hr.len, (planL_ok g rm wk K (by omega)).1]) (fun j hj => ?_)
 rw [hr.len] at hj
 rw [hr.hs j hj, if_neg (fun hi => hK j hj (idleB_iff.1 hi))]
end Go.Proofs.YtkljcdghbefceaaGreatDoor

namespace Go.Proofs.YtkljcdghbefceaaGreatDoor
set_option linter.unusedVariables false
set_option linter.unusedSimpArgs false
open Go.RowKit Go.Shelf Bits
open Go.Proofs.YtkljcdghbefceaaGreatDoorW.PrintWords Go.Proofs.YtkljcdghbefceaaGreatDoorW.PrintLast Go.Proofs.YtkljcdghbefceaaGreatDoorW.PrintMore
attribute [local go_sem] Oper.semAt_some
theorem plan_impl (C : Nat) (g : List Tk) (ns : List Nat) (A1 : Option Addr) (c1 : Nat) (rm : List Int) (wk : Int) (hgr : graphN g = some ns) (hrm : roomB rm = true) (hwk : 1 ≤ wk) (w : World) (hG : IsGraph w C g ns) (hT : Tab w) (hr1 : (Kd.int .i64).C w A1 rm.length rm) :
  Calls Tryz.prog 19 #[.pointer (some ⟨C, 0, none⟩), .slice A1 rm.length c1, .int .i64 wk] w fun e w' => ∃ v, e = .returned v ∧ Kd.R (Kd.int .i64) 3 w' w.heap.size (fun _ => True) v (planS g rm wk) ∧ Below w.heap.size w w' := by
 obtain ⟨K, h1, h2, h3, h4⟩ := plan_eq hgr hrm hwk
 rw [← h4]
 exact iplan_calls C g ns A1 c1 rm wk K hgr (specValid_TOk (graphN_spec hgr)) (roomB_facts hrm).1 h1 h2 h3 w hG hT hr1
set_option maxRecDepth 100000 in
theorem PlanStarts_impl (A : Option Addr) (c : Nat) (g : List Tk) (A1 : Option Addr) (c1 : Nat) (rm : List Int) (wk : Int) (w : World) (hr : kTk.C w A g.length g) (hr1 : (Kd.int .i64).C w A1 rm.length rm) (hT : Tab w) :
  Calls Tryz.prog 8 #[.slice A g.length c, .slice A1 rm.length c1, .int .i64 wk] w fun e W' => ∃ v, e = .returned v ∧ Kd.R (Kd.int .i64) 3 W' w.heap.size (fun _ => True) v (pS g rm wk) ∧ Below w.heap.size w W' := by
 by_cases hp : (specValid g && placeB rm wk) = true
 ·
  have HF : Hid (pS g rm wk = planS g rm wk) := Lib.hid (by unfold pS; rw [if_pos hp])
  rw [Bool.and_eq_true] at hp
  obtain ⟨ns, hg⟩ := graphN_yes hp.1
  obtain ⟨h1, h2, h3⟩ := placeB_facts hp.2
  have HP := Lib.hid (placeIn_yes A c g ns A1 c1 rm wk hp.2 w hr hT hg hr1)
  have HK := Lib.hid (fun (W : World) C (h : IsGraph W C g ns) (hT : Tab W) hr => plan_impl C g ns A1 c1 rm wk hg h1 h2 W h hT hr)
  have HR1 := Lib.hid hr1
  have HT := Lib.hid hT
  clear hr hT hg h1 h2 h3 hp hr1
  go_enter Tryz.func8, Tryz.ntmps8
  go_wp2_with (first | (go_at_call 18; refine HP.out.mono ?_; rintro e w1 ⟨C, rfl, hG, hB1⟩; have HG := Lib.hid hG; have HB1 := Lib.hid hB1; clear hG hB1) | (go_at_call 19; refine (HK.out _ C HG.out (HT.out.keep HT.out.lt HB1.out) (Kd.C_below HR1.out HB1.out)).mono ?_; rintro e w3 ⟨v, rfl, hR, hB3⟩))
  go_ret
  have hz := HB1.out.size
  exact ⟨_, rfl, by rw [HF.out]; exact Kd.R_lower hR hz, HB1.out.trans (hB3.mono hz)⟩
 ·
  have HF : Hid (pS g rm wk = []) := Lib.hid (by unfold pS; rw [if_neg hp])
  have hn : ∀ ns, graphN g = some ns → placeB rm wk = false := fun ns hg => by
   rw [graphN_spec hg, Bool.true_and] at hp
   simpa using hp
  have HP := Lib.hid (placeIn_no A c g A1 c1 rm wk hn w hr hT hr1)
  clear hr hT hp hr1 hn
  go_enter Tryz.func8, Tryz.ntmps8
  go_wp2_with (go_at_call 18; refine HP.out.mono ?_; rintro e w1 ⟨rfl, hB1⟩)
  go_ret
  exact ⟨_, rfl, by rw [HF.out]; exact R_nilJ _ _, hB1⟩
end Go.Proofs.YtkljcdghbefceaaGreatDoor

namespace Go.Proofs.YtkljcdghbefceaaGreatDoor
set_option linter.unusedVariables false
set_option linter.unusedSimpArgs false
open Go.RowKit Go.Shelf Bits
theorem longestN_eq {g : List Tk} (hv : specValid g = true) : longestN g = longL (tailsS g) g.length := by
 obtain ⟨ns, hg⟩ := graphN_yes hv
 unfold longestN
 rw [hg]
 show longL (tailN g ns) g.length = _
 rw [tailN_eq hg]
theorem longest_le {g : List Tk} (hv : specValid g = true) {st : List Int} (h0 : ∀ i, i < g.length → 0 ≤ st.getD i 0) (hN : ∀ k, k < g.length → ∀ i : Nat, (i : Int) ∈ (rdTk g k).f1 → st.getD i 0 + (rdTk g i).f0 ≤ st.getD k 0) : longestN g ≤ endS g st g.length := by
 rw [longestN_eq hv]
 exact longS_le h0 hN
theorem vDone_nil {g : List Tk} (hv : specValid g = true) : vDoneB g [] = true := by
 unfold vDoneB
 rw [hv]
 rfl
theorem first_zero {g : List Tk} (hv : specValid g = true) {rm : List Int} (hrm : roomB rm = true) {wk : Int} (hwk : 1 ≤ wk) (hg : 0 < g.length) : ∃ y, 0 < (rdOrdN g []).length ∧ (rdOrdN g []).getD 0 0 = ((y : Nat) : Int) ∧ y < g.length ∧ (planS g rm wk).getD y 0 = 0 := by
 have hok := specValid_TOk hv
 rw [rdOrd_eq]
 have e : sRdOrd g [] = insL (tailsS g) (readyS g []) := by
  unfold sRdOrd
  rw [if_pos (vDone_nil hv)]
 rw [e]
 have h0 : ∀ j, j < g.length → (planL g rm wk 0).getD j 0 = 200 := fun j hj => by
  unfold planL
  rw [List.getD_eq_getElem?_getD, List.getElem?_replicate, if_pos hj]
  rfl
 obtain ⟨x, hx, hrd⟩ := some_ready hv (D := []) ⟨0, hg, by simp⟩
 have hmem : x ∈ insL (tailsS g) (readyS g []) := (insL_perm _ _).mem_iff.2 (List.mem_filter.2 ⟨List.mem_range.2 hx, hrd⟩)
 obtain ⟨y, ys, hys⟩ := List.exists_cons_of_ne_nil (List.ne_nil_of_mem hmem)
 have ho : overS g (planL g rm wk 0) (0 : Nat) = [] := by
  unfold overS
  rw [List.filter_eq_nil_iff]
  intro i hi
  rw [overB_iff, h0 i (List.mem_range.1 hi)]
  have := hok.2.1 i
  omega
 have hrn : runS g (planL g rm wk 0) (0 : Nat) = [] := by
  unfold runS
  rw [List.filter_eq_nil_iff]
  intro i hi
  unfold runB
  rw [h0 i (List.mem_range.1 hi)]
  simp
 have hfl : (readyS g []).filter (idleB (planL g rm wk 0)) = readyS g [] := by
  rw [List.filter_eq_self]
  exact fun a ha => idleB_iff.2 (h0 a (readyS_lt a ha))
 have hn : y ∈ nextS g rm wk (planL g rm wk 0) (0 : Nat) := by
  unfold nextS
  rw [ho, hrn, show ints [] = [] from rfl, hfl, hys]
  exact adm_first hok hrm hwk y ys
 have hyl := nextS_lt _ _ _ _ _ y hn
 have h1 : (planL g rm wk 1).getD y 0 = 0 := by
  rw [show planL g rm wk 1 = stepS g rm wk (planL g rm wk 0) (0 : Nat) from rfl, stepS_get (planL_ok g rm wk 0 (by omega)).1, if_pos hn]
  rfl
 refine ⟨y, by rw [hys]; simp [ints], by rw [hys]; rfl, hyl, ?_⟩
 rw [planL_final (k := 1) (by omega) (by rw [h1]; decide), h1]
theorem firstN_mono {P Q : Nat → Bool} (h : ∀ n, P n = true → Q n = true) : ∀ f n, firstN P f n = -1 ∨ ((n : Int) ≤ firstN Q f n ∧ firstN Q f n ≤ firstN P f n)
 | 0, _ => .inl rfl
 | f + 1, n => by
  have ih := firstN_mono h f (n + 1)
  unfold firstN
  by_cases hp : P n = true
  ·
   rw [if_pos hp, if_pos (h n hp)]
   right
   omega
  ·
   rw [if_neg hp]
   by_cases hq : Q n = true
   ·
    rw [if_pos hq]
    rcases ih with e | e
    ·
     exact .inl e
    ·
     right
     omega
   ·
    rw [if_neg hq]
    rcases ih with e | e
    ·
     exact .inl e
    ·
     right
     omega
theorem later_law {g : List Tk} {rm : List Int} {dl : Int} (h : 0 ≤ wfS g rm dl) (hd : dl ≠ 200) : 1 ≤ wfS g rm (dl + 1) ∧ wfS g rm (dl + 1) ≤ wfS g rm dl := by
 unfold wfS at h ⊢
 by_cases hc : (specValid g && (roomB rm && inB dl 0 200)) = true
 ·
  have hc' := hc
  rw [Bool.and_eq_true, Bool.and_eq_true] at hc
  have h1 := inB_true.1 hc.2.2
  have h2 : inB (dl + 1) 0 200 = true := inB_true.2 (by omega)
  rw [if_pos hc'] at h ⊢
  rw [h2, hc.1, hc.2.1, if_pos (show (true && (true && true)) = true from rfl)]
  rcases firstN_mono (P := meetsB g rm dl) (Q := meetsB g rm (dl + 1)) (fun n hn => by
   unfold meetsB at hn ⊢
   have := of_decide_eq_true hn
   exact decide_eq_true (by omega)) 4 1 with e | e
  ·
   rw [e] at h
   omega
  ·
   omega
 ·
  rw [if_neg hc] at h
  omega
theorem firstN_none {P : Nat → Bool} : ∀ f n, (∀ k, n ≤ k → P k = false) → firstN P f n = -1
 | 0, _, _ => rfl
 | f + 1, n, h => by
  unfold firstN
  rw [if_neg (by rw [h n (Nat.le_refl _)]; simp)]
  exact firstN_none f (n + 1) (fun k hk => h k (by omega))
theorem one_law {g : List Tk} (hv : specValid g = true) {rm : List Int} (hrm : roomB rm = true) (hg : 0 < g.length) : wfS g rm (timeS g) = 1 ∧ wfS g rm (longestN g - 1) = -1 := by
 have hok := specValid_TOk hv
 have hT := timeS_bound hok
 constructor
 ·
  unfold wfS
  rw [hv, hrm, inB_true.2 (show 0 ≤ timeS g ∧ timeS g ≤ 200 by omega), if_pos (show (true && (true && true)) = true from rfl)]
  show (if meetsB g rm (timeS g) 1 then ((1 : Nat) : Int) else _) = 1
  rw [if_pos]
  ·
   rfl
  ·
   unfold meetsB
   exact decide_eq_true (endS_le hT.1 _ (planS_ends hv hrm (Int.le_refl _)))
 ·
  unfold wfS
  split
  ·
   refine firstN_none _ _ (fun k hk => ?_)
   unfold meetsB
   apply decide_eq_false
   have := longest_le hv (st := planS g rm (k : Nat)) (fun i _ => (planS_ok g rm k).2 i |>.1) (fun q hq i hi => planS_needs hv hrm (by omega) hq i hi)
   omega
  ·
   rfl
end Go.Proofs.YtkljcdghbefceaaGreatDoor
