/- Parts of the proof, laid as one text by a program of mine. -/
import Derived.Test.YtlapphhcficbjaaDoorKfc2
import Derived.Deep.RegionWith
import Derived.Deep.CutRange
import Derived.Deep.QuietTactic
import Derived.BigQuiet
import Derived.StillTailTactics
namespace Go.Proofs.YtlapphhcficbjaaDoor
set_option linter.unusedVariables false
set_option linter.unusedSimpArgs false
open Go.RowKit Go.Shelf Bits
open Go.Proofs.YtlapphhcficbjaaDoorW.PrintWords Go.Proofs.YtlapphhcficbjaaDoorW.PrintLast Go.Proofs.YtlapphhcficbjaaDoorW.PrintMore
attribute [local go_sem] Oper.semAt_some
theorem mixed : Tryd.prog.follows .mixedOrders = true := by kernel_rfl
def RowAt (W : World) (b : Nat) (xs : List Nat) : Prop := W.heap[b]? = some (.cells ((ints xs).map (Value.int .u16)).toArray 70 (0, 0))
theorem RowAt.cell {W : World} {b : Nat} {xs : List Nat} (h : RowAt W b xs) (i : Nat) (hi : i < xs.length) : W.cell? ⟨b, i, none⟩ = some (.int .u16 ((xs.getD i 0 : Nat) : Int)) := by
 rw [blk_cell h i]
 simp [ints, hi]
theorem RowAt.frozen {W : World} {b : Nat} {xs : List Nat} (h : RowAt W b xs) (i : Nat) : W.frozen? ⟨b, i, none⟩ = false := blk_frozen h i
theorem RowAt.set {W : World} {b : Nat} {xs : List Nat} (h : RowAt W b xs) (i x : Nat) : RowAt (W.setCell ⟨b, i, none⟩ (.int .u16 x)) b (xs.set i x) := by
 have := blk_set h i (.int .u16 (x : Int))
 unfold RowAt
 rw [this]
 congr 2
 simp [ints, List.map_set]
theorem RowAt.far {W : World} {b : Nat} {xs : List Nat} (h : RowAt W b xs) {p : Addr} (hp : b ≠ p.block) (u : Value) : RowAt (W.setCell p u) b xs := blk_far h hp u
def zeroRow (n : Nat) : Array Value := ((ints (List.replicate n 0)).map (Value.int .u16)).toArray
theorem made_row (n : Nat) : madeCells #[Value.int .u16 0] n = zeroRow n := by
 apply Array.ext
 ·
  simp [madeCells, zeroRow, ints]
 ·
  intro i h1 h2
  simp [madeCells, zeroRow, ints, Nat.mod_one]
theorem RowAt.zero {W : World} {b n : Nat} (h : W.heap[b]? = some (.cells (zeroRow n) 70 (0, 0))) : RowAt W b (List.replicate n 0) := h
theorem getD_rep (n i : Nat) {m : Nat} (h : 0 < m) : (List.replicate n 0).getD i 0 < m := by
 rw [List.getD_eq_getElem?_getD, List.getElem?_replicate]
 split <;> exact h
theorem four_allocs (w : World) (o0 o1 o2 o3 : Obj) : ((((w.alloc o0).alloc o1).alloc o2).alloc o3).drew.heap[w.heap.size]? = some o0 ∧ ((((w.alloc o0).alloc o1).alloc o2).alloc o3).drew.heap[w.heap.size + 1]? = some o1 ∧
  ((((w.alloc o0).alloc o1).alloc o2).alloc o3).drew.heap[w.heap.size + 1 + 1]? = some o2 ∧ ((((w.alloc o0).alloc o1).alloc o2).alloc o3).drew.heap[w.heap.size + 1 + 1 + 1]? = some o3 := by
 have e1 := World.size_alloc w o0
 have e2 := World.size_alloc (w.alloc o0) o1
 have e3 := World.size_alloc ((w.alloc o0).alloc o1) o2
 rw [e1] at e2
 rw [e2] at e3
 have h1 := World.alloc_heap_new w o0
 have h2 := World.alloc_heap_new (w.alloc o0) o1
 have h3 := World.alloc_heap_new ((w.alloc o0).alloc o1) o2
 have h4 := World.alloc_heap_new (((w.alloc o0).alloc o1).alloc o2) o3
 rw [e1] at h2
 rw [e2] at h3
 rw [e3] at h4
 refine ⟨?_, ?_, ?_, h4⟩
 ·
  exact (Below.heap_alloc _ _ _ (by omega)).trans ((Below.heap_alloc _ _ _ (by omega)).trans ((Below.heap_alloc _ _ _ (by omega)).trans h1))
 ·
  exact (Below.heap_alloc _ _ _ (by omega)).trans ((Below.heap_alloc _ _ _ (by omega)).trans h2)
 ·
  exact (Below.heap_alloc _ _ _ (by omega)).trans h3
structure GHeap (n : Nat) (gv nv ov : Value) (bB bA C X : Nat) (W : World) : Prop where
 hX : W.heap[X]? = some (.cells #[.pointer (some ⟨C, 0, none⟩)] 65 (0, 0))
 hC : W.heap[C]? = some (.cells #[gv, nv, ov, .slice (some ⟨bB, 0, none⟩) n n, .slice (some ⟨bA, 0, none⟩) n n] 75 (0, 0))
 hB : ∃ bl : List Nat, bl.length = n ∧ (∀ i, bl.getD i 0 < 2 ^ n) ∧ RowAt W bB bl
 hA : ∃ al : List Nat, al.length = n ∧ (∀ i, al.getD i 0 < 65536) ∧ RowAt W bA al
theorem GHeap.move {n : Nat} {gv nv ov : Value} {bB bA C X : Nat} {W W' : World} (h : GHeap n gv nv ov bB bA C X W) (hm : ∀ (k : Nat) (cs : Array Value) t f, W.heap[k]? = some (.cells cs t f) → W'.heap[k]? = some (.cells cs t f)) : GHeap n gv nv ov bB bA C X W' := by
 obtain ⟨h1, h2, ⟨bl, h3, h4, h5⟩, ⟨al, h6, h7, h8⟩⟩ := h
 exact ⟨hm _ _ _ _ h1, hm _ _ _ _ h2, ⟨bl, h3, h4, hm _ _ _ _ h5⟩, ⟨al, h6, h7, hm _ _ _ _ h8⟩⟩
theorem GHeap.own {β : Type} (B n : Nat) (gv nv ov : Value) (bB bA C X : Nat) : OwnFrom B (fun (_ : β) W => GHeap n gv nv ov bB bA C X W) :=
 fun s W W' row hs hg hr => hs.move fun k cs t f hk => (hg.block k (Array.getElem?_eq_some_iff.1 hk).1 (fun e => by
  obtain ⟨_, o, ho, hn⟩ := hr k e.symm
  rw [hk] at ho
  cases ho
  cases hn)).trans hk
theorem GHeap.alloc {n : Nat} {gv nv ov : Value} {bB bA C X : Nat} {W : World} (h : GHeap n gv nv ov bB bA C X W) (o : Obj) : GHeap n gv nv ov bB bA C X (W.alloc o) :=
 h.move fun k cs t f hk => (Below.heap_alloc W o k (Array.getElem?_eq_some_iff.1 hk).1).trans hk
theorem GHeap.drew {n : Nat} {gv nv ov : Value} {bB bA C X : Nat} {W : World} (h : GHeap n gv nv ov bB bA C X W) : GHeap n gv nv ov bB bA C X W.drew := ⟨h.hX, h.hC, h.hB, h.hA⟩
theorem Marks.set {Ds : List Nat} {W : World} (h : Marks Ds W) (p : Addr) (u : Value) (hp : ∃ cs t f, W.heap[p.block]? = some (.cells cs t f)) : Marks Ds (W.setCell p u) :=
 ⟨h.1, fun D hD => (Below.heap_setCell W p u D (fun e => by
  obtain ⟨cs, t, f, hc⟩ := hp
  have := h.2 D hD
  rw [e, hc] at this
  cases this)).trans (h.2 D hD)⟩
theorem hnb {W : World} {b r : Nat} (v : Value) (xs : List Nat) (h : Boxed W b 3 v) (h' : RowAt W r xs) : b ≠ r := blk_ne h h' (by decide)
theorem getD_set_lt {xs : List Nat} {i x m : Nat} (hx : x < m) (h : ∀ j, xs.getD j 0 < m) (j : Nat) : (xs.set i x).getD j 0 < m := by
 have := h j
 simp only [List.getD_eq_getElem?_getD, List.getElem?_set] at this ⊢
 split
 ·
  split
  ·
   exact hx
  ·
   have := h i; simp only [List.getD_eq_getElem?_getD] at this; exact Nat.lt_of_le_of_lt (Nat.zero_le _) this
 ·
  exact this
theorem GHeap.setB {n : Nat} {gv nv ov : Value} {bB bA C X : Nat} {W : World} (h : GHeap n gv nv ov bB bA C X W) (hn : n ≤ 15) (i x : Nat) (hx : x < 2 ^ n) (ht : 65 ≠ 70) (ht' : 75 ≠ 70) :
  GHeap n gv nv ov bB bA C X (W.setCell ⟨bB, i, none⟩ (.int .u16 x)) := by
 obtain ⟨h1, h2, ⟨bl, h3, h4, h5⟩, ⟨al, h6, h7, h8⟩⟩ := h
 have n1 : X ≠ bB := blk_ne h1 h5 ht
 have n2 : C ≠ bB := blk_ne h2 h5 ht'
 refine ⟨blk_far h1 n1 _, blk_far h2 n2 _, ⟨bl.set i x, by simpa using h3, getD_set_lt hx h4, h5.set i x⟩, ?_⟩
 by_cases e : bA = bB
 ·
  subst e
  refine ⟨al.set i x, by simpa using h6, getD_set_lt (Nat.lt_of_lt_of_le hx (pow_le_u16 (by omega))) h7, h8.set i x⟩
 ·
  exact ⟨al, h6, h7, h8.far e _⟩
theorem GHeap.setA {n : Nat} {gv nv ov : Value} {bB bA C X : Nat} {W : World} (h : GHeap n gv nv ov bB bA C X W) (hne : bB ≠ bA) (i x : Nat) (hx : x < 65536) (ht : 65 ≠ 70) (ht' : 75 ≠ 70) :
  GHeap n gv nv ov bB bA C X (W.setCell ⟨bA, i, none⟩ (.int .u16 x)) := by
 obtain ⟨h1, h2, ⟨bl, h3, h4, h5⟩, ⟨al, h6, h7, h8⟩⟩ := h
 have n1 : X ≠ bA := blk_ne h1 h8 ht
 have n2 : C ≠ bA := blk_ne h2 h8 ht'
 exact ⟨blk_far h1 n1 _, blk_far h2 n2 _, ⟨bl, h3, h4, h5.far hne _⟩, ⟨al.set i x, by simpa using h6, getD_set_lt hx h7, h8.set i x⟩⟩
def graphN (g : List Tk) : Option (List Nat) := (needsN g).bind fun ns => if (ordN ns ns.length).2 = 2 ^ g.length - 1 then some ns else none
theorem graphN_some {g : List Tk} {ns : List Nat} (h : graphN g = some ns) : needsN g = some ns ∧ (ordN ns ns.length).2 = 2 ^ g.length - 1 ∧ g.length ≤ 8 ∧ ns.length = g.length := by
 unfold graphN at h
 obtain ⟨ms, h1, h2⟩ := Option.bind_eq_some_iff.1 h
 split at h2
 ·
  cases h2
  exact ⟨h1, by assumption, (needsN_some h1).1, needsN_length h1⟩
 ·
  cases h2
def IsGraph (W : World) (C : Nat) (g : List Tk) (ns : List Nat) : Prop :=
 ∃ Ag cg An cn Ao co vb va, W.heap[C]? = some (.cells #[.slice Ag g.length cg, .slice An ns.length cn, .slice Ao (ordN ns ns.length).1.length co, vb, va] 75 (0, 0)) ∧
  kTk.C W Ag g.length g ∧ (Kd.int .u16).C W An ns.length (ints ns) ∧ (Kd.int .i64).C W Ao (ordN ns ns.length).1.length (ints (ordN ns ns.length).1)
theorem IsGraph.below {W W' : World} {C : Nat} {g : List Tk} {ns : List Nat} (h : IsGraph W C g ns) (hb : Below W.heap.size W W') : IsGraph W' C g ns := by
 obtain ⟨Ag, cg, An, cn, Ao, co, vb, va, h1, h2, h3, h4⟩ := h
 exact ⟨Ag, cg, An, cn, Ao, co, vb, va, (hb.block C (blk_lt h1)).trans h1, Kd.C_below h2 hb, Kd.C_below h3 hb, Kd.C_below h4 hb⟩
section
variable (w2 : World) (n₀ n : Nat) (A1 A2 : Option Addr) (c1 c2 : Nat) (ns ol : List Nat) (gv : Value) (bB bA C X : Nat)
def GLoop (a : Act) (W : World) : Prop := ∃ (t : Array Value) (Ds : List Nat) (k : Nat), a = { tmps := t, defers := mk Ds } ∧ t.size = 97 ∧ t.getD 4 undef = .slice A1 ns.length c1 ∧ t.getD 8 undef = .pointer (some ⟨X, 0, none⟩) ∧
 t.getD 41 undef = .slice A2 ol.length c2 ∧ t.getD 42 undef = .int .i64 (ol.length : Nat) ∧ t.getD 43 undef = .int .i64 (k : Nat) ∧ k ≤ ol.length ∧ Marks Ds W ∧ (∀ D ∈ Ds, w2.heap.size ≤ D) ∧
 GHeap n gv (.slice A1 ns.length c1) (.slice A2 ol.length c2) bB bA C X W ∧ Below w2.heap.size w2 W
end
theorem C_block {k : IntKind} {w W' : World} {A : Option Addr} {n : Nat} {xs : List Int} (h : (Kd.int k).C w A n xs) (hb : ∀ ad, A = some ad → 0 < n → W'.heap[ad.block]? = w.heap[ad.block]?) : (Kd.int k).C W' A n xs :=
 ⟨h.1, h.2.1, fun hn => by
  obtain ⟨ad, e, hc⟩ := h.2.2 hn
  refine ⟨ad, e, fun j p hj => ?_⟩
  obtain ⟨c, h1, h2, h3⟩ := hc j p hj
  refine ⟨c, h1, h2, fun i u hu => ?_⟩
  rw [← h3 i u hu]
  have e2 : ∀ m, (ad.add m).block = ad.block := fun m => by unfold Addr.add; split <;> rfl
  simp only [World.cell?, e2, hb ad e hn]⟩
theorem R_blk {k : IntKind} {e : Nat} {w : World} {base : Nat} {ok : Nat → Prop} {A : Option Addr} {n c : Nat} {xs : List Int} (h : (Kd.int k).R e w base ok (.slice A n c) xs) (hp : 0 < xs.length) : ∀ ad, A = some ad → base ≤ ad.block ∧ ad.block < w.heap.size := by
 obtain ⟨g, cap, hv, h1, h2, _⟩ := Kd.R_form h hp
 intro ad he
 subst he
 cases hv
 exact ⟨h1, h2⟩
def GStands (w w' : World) (A : Option Addr) (C : Nat) (g : List Tk) (ns : List Nat) : Prop := ∀ W', kTk.C W' A g.length g → (∀ k, w.heap.size ≤ k → k < w'.heap.size → W'.heap[k]? = w'.heap[k]?) → IsGraph W' C g ns
set_option maxRecDepth 100000 in
set_option maxHeartbeats 8000000 in
theorem graphOf_yes2 (A : Option Addr) (c : Nat) (g : List Tk) (ns : List Nat) (w : World) (hr : kTk.C w A g.length g) (hT : Tab w) (hg : graphN g = some ns) :
  Calls Tryd.prog 61 #[.slice A g.length c] w fun e w' => ∃ C, e = .returned (.tuple #[.pointer (some ⟨C, 0, none⟩), .bool true]) ∧ IsGraph w' C g ns ∧ Below w.heap.size w w' ∧ GStands w w' A C g ns ∧ w.heap.size ≤ C := by
 obtain ⟨hn, hd, hlen, hnl⟩ := graphN_some hg
 have HR := Lib.hid hr
 have HN := Lib.hid hn
 have HD := Lib.hid hd
 have HL := Lib.hid hnl
 clear hr hn hd hg hnl
 obtain ⟨i0, hi, hz0, hz1, hz2⟩ := info_parts infoSet
 have hmk : ∀ W, (Instr.makeSlice 73 (Value.int IntKind.i64 (g.length : Int)) (Value.int IntKind.i64 (g.length : Int))).run Tryd.prog W = .ok (.slice (some ⟨W.heap.size, 0, none⟩) g.length g.length) (W.alloc (.cells (zeroRow g.length) 70)) := by
  intro W
  rw [← made_row]
  have := run_make (P := Tryd.prog) W 73 70 i0 (.int .u16 0) Tryd.underlying73 hi hz0 .i64 .i64 (g.length : Int) (g.length : Int) (by omega) (by omega) (by rw [hz2]; omega) (by omega)
  simpa [hz1, Value.cells] using this
 refine calls_of_wp_marks Tryd.func61 rfl ?_
 simp only [Tryd.ntmps61, List.size_toArray, List.length_cons, List.length_nil, Nat.reduceAdd, Nat.reduceSub, Array.replicate_succ, Array.replicate_zero, List.push_toArray, List.append_toArray, List.nil_append, List.cons_append]
 go_wp2_with (first | (go_at_call 93; refine (needsOf_calls _ _ _ _ HR.out).mono ?_; rintro e w1 ⟨v1, rfl, hR1, hB1⟩; rw [HN.out]; have HR1 := Lib.hid (hR1 _ HN.out); clear hR1; obtain ⟨A1, c1, rfl, hl1, hC1⟩ := Kd.R_reads HR1.out; rw [ints_length] at hl1; rw [ints_length] at HR1; rw [ints_length] at hC1; rw [ints_length]; have HC1 := Lib.hid hC1; clear hC1) | (go_at_call 94; refine (order_calls _ _ ns (by rw [HL.out]; omega) (needsN_lt HN.out) _ HC1.out).mono ?_; rintro e w2 ⟨v2, rfl, hR2, hB2⟩; rw [HD.out]; obtain ⟨A2, c2, rfl, hl2, hC2⟩ := Kd.R_reads hR2; rw [ints_length] at hl2; rw [ints_length]; rw [ints_length] at hC2; have HR2 := Lib.hid hR2; have HC2 := Lib.hid hC2; clear hR2 hC2) | (go_at_call 88; refine (everything_calls g.length (by omega) _).mono ?_; rintro e w' ⟨rfl, rfl⟩))
 obtain ⟨w2, rfl⟩ : ∃ w2 : World, w2 = w' := ⟨_, rfl⟩
 go_cut [8, 35, 38, 40] from 30 to 41 (fun v8 v35 v38 v40 wc => ∃ bB bA C X : Nat, v8 = .pointer (some ⟨X, 0, none⟩) ∧ v35 = .slice (some ⟨bB, 0, none⟩) g.length g.length ∧ v38 = .slice (some ⟨bA, 0, none⟩) g.length g.length ∧ v40 = .pointer (some ⟨C, 0, none⟩) ∧ GHeap g.length (.slice A g.length c) (.slice A1 ns.length c1) (.slice A2 (ordN ns ns.length).1.length c2) bB bA C X wc ∧ bB ≠ bA ∧ w2.heap.size ≤ bB ∧ w2.heap.size ≤ bA ∧ w2.heap.size ≤ C ∧ Below w2.heap.size w2 wc)
 case first =>
  go_region_with (fail)
  all_goals
   go_wp2
   go_meet
   case rel =>
    refine ⟨_, _, _, _, rfl, rfl, rfl, rfl, ⟨?_, ?_, ⟨List.replicate g.length 0, by simp, fun i => getD_rep _ _ (Nat.two_pow_pos _), RowAt.zero ?_⟩, ⟨List.replicate g.length 0, by simp, fun i => getD_rep _ _ (by omega), RowAt.zero ?_⟩⟩, by omega, by omega, by omega, by omega, by repeat (with_reducible first | exact Below.refl _ _ | apply below_alloc | apply below_drew1)⟩
    all_goals (with_reducible first | exact (four_allocs _ _ _ _ _).1 | exact (four_allocs _ _ _ _ _).2.1 | exact (four_allocs _ _ _ _ _).2.2.1 | exact (four_allocs _ _ _ _ _).2.2.2)
 case rest =>
  obtain ⟨bB, bA, C, X, rfl, rfl, rfl, rfl, hG, hne, hbB, hbA, hbC, hB⟩ := hcut
  have HBC := Lib.hid hbC
  clear hbC
  have htab := hT.lt
  have HT2 := Lib.hid ((hT.keep htab (hB1.trans (hB2.mono hB1.size))))
  replace htab := Nat.lt_of_lt_of_le htab (Nat.le_trans hB1.size hB2.size)
  go_wp2
  refine wp_loop (GLoop w2 g.length A1 A2 c1 c2 ns (ordN ns ns.length).1 (.slice A g.length c) bB bA C X) (fun a _ => (ordN ns ns.length).1.length - (intOf (a.tmps.getD 43 undef)).toNat) ⟨_, [], 0, rfl, rfl, rfl, rfl, rfl, rfl, rfl, Nat.zero_le _, Marks.nil _, fun D h => (by cases h), hG, hB⟩ ?_
  rintro a W ⟨t, Ds, k, rfl, ht, h4, h8, h41, h42, h43, hk, hM, hDs, hG, hB⟩
  obtain ⟨u, rfl⟩ : ∃ u : Nat → Value, t = #[u 0, u 1, u 2, u 3, u 4, u 5, u 6, u 7, u 8, u 9, u 10, u 11, u 12, u 13, u 14, u 15, u 16, u 17, u 18, u 19, u 20, u 21, u 22, u 23, u 24, u 25, u 26, u 27, u 28, u 29, u 30, u 31, u 32, u 33, u 34, u 35, u 36, u 37, u 38, u 39, u 40, u 41, u 42, u 43, u 44, u 45, u 46, u 47, u 48, u 49, u 50, u 51, u 52, u 53, u 54, u 55, u 56, u 57, u 58, u 59, u 60, u 61, u 62, u 63, u 64, u 65, u 66, u 67, u 68, u 69, u 70, u 71, u 72, u 73, u 74, u 75, u 76, u 77, u 78, u 79, u 80, u 81, u 82, u 83, u 84, u 85, u 86, u 87, u 88, u 89, u 90, u 91, u 92, u 93, u 94, u 95, u 96] := ⟨fun i => t.getD i undef, (arr_of_size t 97 ht).trans rfl⟩
  replace h4 : u 4 = _ := h4
  replace h8 : u 8 = _ := h8
  replace h41 : u 41 = _ := h41
  replace h42 : u 42 = _ := h42
  replace h43 : u 43 = _ := h43
  clear ht
  have hord := ordN_lt ns ns.length
  have hol := hord.2.2
  have HORD := Lib.hid hord.2.1
  clear hord
  by_cases hlt : k < (ordN ns ns.length).1.length
  ·
   obtain ⟨ad2, rfl, hc2⟩ := at_set (Kd.C_below HC2.out hB) k hlt
   have hin : (ordN ns ns.length).1.getD k 0 < g.length := by
    rw [← HL.out]
    apply HORD.out
    rw [List.getD_eq_getElem?_getD, List.getElem?_eq_getElem hlt]
    exact List.getElem_mem _
   generalize (ordN ns ns.length).1.getD k 0 = i at hc2 hin
   obtain ⟨ad1, rfl, hc1⟩ := at_set (Kd.C_below HC1.out (hB2.trans (hB.mono hB2.size))) i (by rw [HL.out]; exact hin)
   have hin2 : i < ns.length := by rw [HL.out]; exact hin
   have hs := needsN_lt HN.out i
   have hs2 := needsN_pow HN.out i
   generalize ns.getD i 0 = s at hc1 hs hs2
   have hc1' := pw_cell_below ((Below.refl _ W).alloc (Nat.le_refl _) (.cells #[.int .i64 (i : Int)] 3)) hc1
   go_wp2_with (go_at_call 79; refine (all_calls _ _).mono ?_; rintro e w' ⟨rfl, rfl⟩)
   have hk9 : k < 9 := by have := HL.out; omega
   have hbox := Boxed.new W 3 (.int .i64 (i : Int))
   have hset := Boxed.new (W.alloc (.cells #[.int .i64 (i : Int)] 3)) 70 (.int .u16 s)
   rw [World.size_alloc] at hset
   have hTab := htab
   have hsz := hB.size
   have hB' := below_alloc (below_alloc hB (.cells #[.int .i64 (i : Int)] 3)) (.cells #[.int .u16 s] 70)
   refine wp_rangeSet s (W.heap.size + 1) w2.heap.size hs rfl (by simp) hset.cell (HT2.out.keep hTab hB') (by simp; omega) hTab
    (fun _ W' => GHeap g.length (.slice A g.length c) (.slice (some ad1) ns.length c1) (.slice (some ad2) (ordN ns ns.length).1.length c2) bB bA C X W' ∧ Boxed W' W.heap.size 3 (.int .i64 (i : Int)) ∧ Below w2.heap.size w2 W' ∧ Marks Ds W') (fun _ _ _ => False)
    ((GHeap.own _ _ _ _ _ _ _ _ _).and ((Own.from (boxed_own _ _ (fun _ => _)) _).and ((ownFrom_below (Nat.le_refl _) (by simp; omega)).and (ownFrom_marks _ Ds (fun D hD => by have := hM.lt D hD; simp; omega)))))
    (fun _ _ _ _ _ h _ _ => h) ⟨(hG.alloc _).alloc _, hbox.alloc _, hB', (hM.alloc _).alloc _⟩
    (fun x a' _ => ∃ t : Array Value, a' = { tmps := t, defers := [] } ∧ t.size = 97 ∧ t.getD 8 undef = .pointer (some ⟨X, 0, none⟩) ∧ t.getD 10 undef = .pointer (some ⟨W.heap.size, 0, none⟩) ∧ t.getD 11 undef = .int .i64 (x.1 : Nat)) (fun _ _ => ownFrom_pure _ _) ?assign1 ?body1 ?done1 ?stop1
   case stop1 => exact fun _ _ _ _ _ _ h _ => h.elim
   case assign1 =>
    intro l pre x W' K hi' hK
    gi_wp2
    exact hK _ _ (KeepsFrom.refl _ _) (Below.refl _ _) hi' ⟨_, rfl, rfl, rfl, rfl, rfl⟩
   case body1 =>
    rintro l pre x a' W' _ _ ⟨hG1, hbx, hB1', hM1⟩ ⟨t, rfl, ht, t8, t10, t11⟩ hlen'
    obtain ⟨u', rfl⟩ : ∃ u : Nat → Value, t = #[u 0, u 1, u 2, u 3, u 4, u 5, u 6, u 7, u 8, u 9, u 10, u 11, u 12, u 13, u 14, u 15, u 16, u 17, u 18, u 19, u 20, u 21, u 22, u 23, u 24, u 25, u 26, u 27, u 28, u 29, u 30, u 31, u 32, u 33, u 34, u 35, u 36, u 37, u 38, u 39, u 40, u 41, u 42, u 43, u 44, u 45, u 46, u 47, u 48, u 49, u 50, u 51, u 52, u 53, u 54, u 55, u 56, u 57, u 58, u 59, u 60, u 61, u 62, u 63, u 64, u 65, u 66, u 67, u 68, u 69, u 70, u 71, u 72, u 73, u 74, u 75, u 76, u 77, u 78, u 79, u 80, u 81, u 82, u 83, u 84, u 85, u 86, u 87, u 88, u 89, u 90, u 91, u 92, u 93, u 94, u 95, u 96] := ⟨fun i => t.getD i undef, (arr_of_size t 97 ht).trans rfl⟩
    replace t8 : u' 8 = _ := t8
    replace t10 : u' 10 = _ := t10
    replace t11 : u' 11 = _ := t11
    clear ht
    have hxn : x.1 < g.length := elems_below hs2 x.2
    have hx16 : x.1 < 16 := by omega
    obtain ⟨bl, hbl, hbl2, hrow⟩ := hG1.hB
    have cX := blk_cell hG1.hX 0
    have cC := blk_cell hG1.hC 3
    have cI := hbx.cell
    have cB1 := hrow.cell i (by omega)
    have cB2 := hrow.cell x.1 (by omega)
    have fB1 := hrow.frozen i
    have b1 := hbl2 i
    have b2 := hbl2 x.1
    simp at cX cC
    clear hbl2
    generalize bl.getD i 0 = y at cB1 b1
    generalize bl.getD x.1 0 = z at cB2 b2
    have hpn := pow_le_u16 (show g.length ≤ 16 by omega)
    have hz : z < 65536 := by omega
    have hy : y < 65536 := by omega
    have hzx := or_lt z (2 ^ x.1) hz (pow_u16 x.1 hx16).2
    have hor := bits_or_u16 y (z ||| 2 ^ x.1) hy hzx
    gi_wp2
    refine wpIn_region_still_tail 18 mixed (by kernel_rfl) (by kernel_rfl) (fun ⟨_, _, h⟩ => h) ?_
    simp only [List.take_succ_cons, List.take_zero, List.drop_succ_cons, List.drop_zero]
    repeat still_step
    still_call (with_calls z x.1 hz hx16 _)
    repeat still_step
    refine wpStill_nil ?_
    go_wp2
    refine ⟨((KeepsOthers.setCell _ _ _).trans (KeepsOthers.drew _)).from _, ((Below.refl _ _).setCell (p := ⟨bB, i, none⟩) hbB _).drew, (hG1.setB (by omega) i _ (or_lt_pow b1 (or_lt_pow b2 (Nat.pow_lt_pow_right (by omega) hxn))) (by decide) (by decide)).drew, blk_far hbx (hnb _ _ hbx hrow) _, (hB1'.setCell (p := ⟨bB, i, none⟩) hbB _).drew, Marks.set hM1 _ _ ⟨_, _, _, hrow⟩⟩
   case done1 =>
    rintro D ys W3 hD hys ⟨hG3, hbx3, hB3, hM3⟩ hK3
    clear hys
    have hM4 := hM3.cons hK3 (fun E hE => by have := hM.lt E hE; simp at hD; omega)
    have hD2 : w2.heap.size ≤ D := by simp at hD; omega
    obtain ⟨bl, hbl, hbl2, hrow⟩ := hG3.hB
    have cX := blk_cell hG3.hX 0
    have cC := blk_cell hG3.hC 3
    have cI := hbx3.cell
    have cB1 := hrow.cell i (by omega)
    have b1 := hbl2 i
    simp at cX cC
    clear hbl2
    generalize bl.getD i 0 = y at cB1 b1
    have hpn := pow_le_u16 (show g.length ≤ 16 by omega)
    have hy : y < 65536 := by omega
    go_wp2
    go_still_tail 7, mixed
    go_wp2_with (go_at_call 79; refine (all_calls _ _).mono ?_; rintro e w' ⟨rfl, rfl⟩)
    have hsz3 := hB3.size
    have hWlt := hbx3.lt
    have hDlt : D < W3.heap.size := (Array.getElem?_eq_some_iff.1 hK3).1
    have hset3 := Boxed.new W3.drew 70 (.int .u16 y)
    have hB3' := below_alloc hB3.drew (.cells #[.int .u16 y] 70)
    have hsd : W3.drew.heap.size = W3.heap.size := rfl
    refine wp_rangeSet y W3.heap.size w2.heap.size hy rfl (by simp) hset3.cell (HT2.out.keep hTab hB3') (by simp; omega) hTab
     (fun _ W' => GHeap g.length (.slice A g.length c) (.slice (some ad1) ns.length c1) (.slice (some ad2) (ordN ns ns.length).1.length c2) bB bA C X W' ∧ Boxed W' W.heap.size 3 (.int .i64 (i : Int)) ∧ Below w2.heap.size w2 W' ∧ Marks (D :: Ds) W') (fun _ _ _ => False)
     ((GHeap.own _ _ _ _ _ _ _ _ _).and ((Own.from (boxed_own _ _ (fun _ => _)) _).and ((ownFrom_below (Nat.le_refl _) (by simp; omega)).and (ownFrom_marks _ (D :: Ds) (fun E hE => by have := hM4.lt E hE; simp; omega)))))
     (fun _ _ _ _ _ h _ _ => h) ⟨hG3.drew.alloc _, Boxed.alloc (W := W3.drew) hbx3 _, hB3', Marks.alloc (w := W3.drew) hM4 _⟩
     (fun x a' _ => ∃ t : Array Value, a' = { tmps := t, defers := [] } ∧ t.size = 97 ∧ t.getD 8 undef = .pointer (some ⟨X, 0, none⟩) ∧ t.getD 10 undef = .pointer (some ⟨W.heap.size, 0, none⟩) ∧ t.getD 12 undef = .int .i64 (x.1 : Nat)) (fun _ _ => ownFrom_pure _ _) ?assign2 ?body2 ?done2 ?stop2
    case stop2 => exact fun _ _ _ _ _ _ h _ => h.elim
    case assign2 =>
     intro l pre x W' K hi' hK
     gi_wp2
     exact hK _ _ (KeepsFrom.refl _ _) (Below.refl _ _) hi' ⟨_, rfl, rfl, rfl, rfl, rfl⟩
    case body2 =>
     clear cX cC cI cB1 hrow hbl
     rintro l pre x a' W' _ _ ⟨hG1, hbx, hB1', hM1⟩ ⟨t, rfl, ht, t8, t10, t12⟩ hlen'
     obtain ⟨u', rfl⟩ : ∃ u : Nat → Value, t = #[u 0, u 1, u 2, u 3, u 4, u 5, u 6, u 7, u 8, u 9, u 10, u 11, u 12, u 13, u 14, u 15, u 16, u 17, u 18, u 19, u 20, u 21, u 22, u 23, u 24, u 25, u 26, u 27, u 28, u 29, u 30, u 31, u 32, u 33, u 34, u 35, u 36, u 37, u 38, u 39, u 40, u 41, u 42, u 43, u 44, u 45, u 46, u 47, u 48, u 49, u 50, u 51, u 52, u 53, u 54, u 55, u 56, u 57, u 58, u 59, u 60, u 61, u 62, u 63, u 64, u 65, u 66, u 67, u 68, u 69, u 70, u 71, u 72, u 73, u 74, u 75, u 76, u 77, u 78, u 79, u 80, u 81, u 82, u 83, u 84, u 85, u 86, u 87, u 88, u 89, u 90, u 91, u 92, u 93, u 94, u 95, u 96] := ⟨fun i => t.getD i undef, (arr_of_size t 97 ht).trans rfl⟩
     replace t8 : u' 8 = _ := t8
     replace t10 : u' 10 = _ := t10
     replace t12 : u' 12 = _ := t12
     clear ht
     have hxn : x.1 < g.length := elems_below b1 x.2
     have hx16 : x.1 < 16 := by omega
     have hi16 : i < 16 := by omega
     obtain ⟨al, hal, hal2, hrow⟩ := hG1.hA
     have cX := blk_cell hG1.hX 0
     have cC := blk_cell hG1.hC 4
     have cI := hbx.cell
     have cA := hrow.cell x.1 (by omega)
     have fA := hrow.frozen x.1
     have a1 := hal2 x.1
     simp at cX cC
     clear hal2
     generalize al.getD x.1 0 = z at cA a1
     have hzi := or_lt z (2 ^ i) a1 (pow_u16 i hi16).2
     gi_wp2
     refine wpIn_region_still_tail 15 mixed (by kernel_rfl) (by kernel_rfl) (fun ⟨_, _, h⟩ => h) ?_
     simp only [List.take_succ_cons, List.take_zero, List.drop_succ_cons, List.drop_zero]
     repeat still_step
     still_call (with_calls z i a1 hi16 _)
     repeat still_step
     refine wpStill_nil ?_
     go_wp2
     refine ⟨((KeepsOthers.setCell _ _ _).trans (KeepsOthers.drew _)).from _, ((Below.refl _ _).setCell (p := ⟨bA, x.1, none⟩) hbA _).drew, (hG1.setA hne x.1 _ hzi (by decide) (by decide)).drew, blk_far hbx (hnb _ _ hbx hrow) _, (hB1'.setCell (p := ⟨bA, x.1, none⟩) hbA _).drew, Marks.set hM1 _ _ ⟨_, _, _, hrow⟩⟩
    case done2 =>
     rintro D2 ys W5 hE hys ⟨hG5, hbx5, hB5, hM5⟩ hK5
     clear hys
     have hM6 := hM5.cons hK5 (fun E hE' => by have := hM4.lt E hE'; simp at hE; omega)
     have hE2 : w2.heap.size ≤ D2 := by simp at hE; omega
     go_wp2
     refine ⟨⟨_, D2 :: D :: Ds, k + 1, rfl, rfl, rfl, rfl, rfl, rfl, rfl, by omega, hM6, fun E hE' => ?_, hG5, hB5⟩, ?_⟩
     ·
      rcases List.mem_cons.1 hE' with rfl | hE'
      ·
       exact hE2
      ·
       rcases List.mem_cons.1 hE' with rfl | hE'
       ·
        exact hD2
       ·
        exact hDs E hE'
     ·
      show _ - (intOf (Value.int IntKind.i64 ((k : Int) + 1))).toNat < _ - (intOf (u 43)).toNat
      rw [h43]
      simp [intOf]
      omega
  ·
   have cX := blk_cell hG.hX 0
   simp at cX
   go_wp2
   refine leave_marks (B := w2.heap.size) (v := .tuple #[.pointer (some ⟨C, 0, none⟩), .bool true]) Ds W hM hDs (fun w' hs => ?_)
   have k2 : Below w2.heap.size w2 w' := hB.trans hs.below
   have k1 : Below w1.heap.size w1 w' := hB2.trans (k2.mono hB2.size)
   have k0 : Below w.heap.size w w' := hB1.trans (k1.mono hB1.size)
   have hCx := hs.cells C _ hG.hC rfl
   have z1 := hB1.size
   have z2 := hB2.size
   have z3 := k2.size
   have hCl := blk_lt hCx
   have hbC := HBC.out
   refine ⟨results_tmp2 (t := 2) (u := 3) rfl _ _ _, C, rfl, ⟨A, c, A1, c1, A2, c2, _, _, hCx, Kd.C_below HR.out k0, Kd.C_below HC1.out k1, Kd.C_below HC2.out k2⟩, k0, fun W' hA hk => ⟨A, c, A1, c1, A2, c2, _, _, (hk C (by omega) (by omega)).trans hCx, hA, C_block (Kd.C_below HC1.out k1) fun ad e hn => ?_, C_block (Kd.C_below HC2.out k2) fun ad e hn => ?_⟩, by omega⟩
   ·
    obtain ⟨q1, q2⟩ := R_blk HR1.out (by rw [ints_length]; exact hn) ad e
    exact hk _ (by omega) (by omega)
   ·
    obtain ⟨q1, q2⟩ := R_blk HR2.out (by rw [ints_length]; exact hn) ad e
    exact hk _ (by omega) (by omega)
theorem graphOf_yes (A : Option Addr) (c : Nat) (g : List Tk) (ns : List Nat) (w : World) (hr : kTk.C w A g.length g) (hT : Tab w) (hg : graphN g = some ns) :
  Calls Tryd.prog 61 #[.slice A g.length c] w fun e w' => ∃ C, e = .returned (.tuple #[.pointer (some ⟨C, 0, none⟩), .bool true]) ∧ IsGraph w' C g ns ∧ Below w.heap.size w w' :=
 (graphOf_yes2 A c g ns w hr hT hg).mono fun e w' ⟨C, h1, h2, h3, _⟩ => ⟨C, h1, h2, h3⟩
set_option maxRecDepth 100000 in
set_option maxHeartbeats 4000000 in
theorem graphOf_no (A : Option Addr) (c : Nat) (g : List Tk) (w : World) (hr : kTk.C w A g.length g) (hg : graphN g = none) :
  Calls Tryd.prog 61 #[.slice A g.length c] w fun e w' => e = .returned (.tuple #[.pointer none, .bool false]) ∧ Below w.heap.size w w' := by
 have HR := Lib.hid hr
 clear hr
 cases hn : needsN g with
 | none =>
  have HN := Lib.hid hn
  clear hn hg
  refine calls_of_wp_marks Tryd.func61 rfl ?_
  simp only [Tryd.ntmps61, List.size_toArray, List.length_cons, List.length_nil, Nat.reduceAdd, Nat.reduceSub, Array.replicate_succ, Array.replicate_zero, List.push_toArray, List.append_toArray, List.nil_append, List.cons_append]
  go_wp2_with (go_at_call 93; refine (needsOf_calls _ _ _ _ HR.out).mono ?_; rintro e w1 ⟨v1, rfl, hR1, hB1⟩; rw [HN.out]; clear hR1)
  exact leave_marks (B := w.heap.size) (v := .tuple #[.pointer none, .bool false]) [] _ (Marks.nil _) (fun D h => by cases h) (fun w' hs => ⟨results_tmp2 (t := 2) (u := 3) rfl _ _ _, rfl, hB1.trans hs.below⟩)
 | some ns =>
  have hd : (ordN ns ns.length).2 ≠ 2 ^ g.length - 1 := by
   intro h
   unfold graphN at hg
   rw [hn] at hg
   simp [h] at hg
  have hd2 : ((((ordN ns ns.length).2 : Nat) : Int) != ((2 ^ g.length - 1 : Nat) : Int)) = true := by
   rw [bne_iff_ne]
   omega
  have HN := Lib.hid hn
  have HL := Lib.hid (needsN_length hn)
  have hlen := (needsN_some hn).1
  clear hn hd hg
  refine calls_of_wp_marks Tryd.func61 rfl ?_
  simp only [Tryd.ntmps61, List.size_toArray, List.length_cons, List.length_nil, Nat.reduceAdd, Nat.reduceSub, Array.replicate_succ, Array.replicate_zero, List.push_toArray, List.append_toArray, List.nil_append, List.cons_append]
  generalize hdd : (ordN ns ns.length).2 = dd at hd2
  generalize hee : 2 ^ g.length - 1 = ee at hd2
  have HDD := Lib.hid hdd
  have HEE := Lib.hid hee
  clear hdd hee
  go_wp2_with (first | (go_at_call 93; refine (needsOf_calls _ _ _ _ HR.out).mono ?_; rintro e w1 ⟨v1, rfl, hR1, hB1⟩; rw [HN.out]; have HR1 := Lib.hid (hR1 _ HN.out); clear hR1; obtain ⟨A1, c1, rfl, hl1, hC1⟩ := Kd.R_reads HR1.out; rw [ints_length] at hl1; rw [ints_length] at HR1; rw [ints_length] at hC1; rw [ints_length]; have HC1 := Lib.hid hC1; clear hC1) | (go_at_call 94; refine (order_calls _ _ ns (by rw [HL.out]; omega) (needsN_lt HN.out) _ HC1.out).mono ?_; rintro e w2 ⟨v2, rfl, hR2, hB2⟩; rw [HDD.out]; clear hR2) | (go_at_call 88; refine (everything_calls g.length (by omega) _).mono ?_; rintro e w' ⟨rfl, rfl⟩; rw [HEE.out]))
  exact leave_marks (B := w.heap.size) (v := .tuple #[.pointer none, .bool false]) [] _ (Marks.nil _) (fun D h => by cases h) (fun w' hs => ⟨results_tmp2 (t := 2) (u := 3) rfl _ _ _, rfl, (hB1.trans (hB2.mono hB1.size)).trans hs.below⟩)
end Go.Proofs.YtlapphhcficbjaaDoor

namespace Go.Proofs.YtlapphhcficbjaaDoor
set_option linter.unusedVariables false
set_option linter.unusedSimpArgs false
open Go.RowKit Go.Shelf Bits
open Go.Proofs.YtlapphhcficbjaaDoorW.PrintWords Go.Proofs.YtlapphhcficbjaaDoorW.PrintLast Go.Proofs.YtlapphhcficbjaaDoorW.PrintMore
attribute [local go_sem] Oper.semAt_some
def KeepB (Bs : Nat) (A : Option Addr) (w w' : World) : Prop := w.heap.size ≤ w'.heap.size ∧ (Bs < w.heap.size → w'.heap[Bs]? = w.heap[Bs]?) ∧ ∀ ad, A = some ad → ad.block < w.heap.size → w'.heap[ad.block]? = w.heap[ad.block]?
theorem KeepB.refl (Bs : Nat) (A : Option Addr) (w : World) : KeepB Bs A w w := ⟨Nat.le_refl _, fun _ => rfl, fun _ _ _ => rfl⟩
theorem KeepB.trans {Bs : Nat} {A : Option Addr} {a b c : World} (h : KeepB Bs A a b) (k : KeepB Bs A b c) : KeepB Bs A a c :=
 ⟨Nat.le_trans h.1 k.1, fun hl => (k.2.1 (Nat.lt_of_lt_of_le hl h.1)).trans (h.2.1 hl), fun ad e hl => (k.2.2 ad e (Nat.lt_of_lt_of_le hl h.1)).trans (h.2.2 ad e hl)⟩
def backL (n m : Nat) : List Nat := (List.range m).map fun q => n - 1 - q
theorem backL_succ (n m : Nat) : backL n (m + 1) = backL n m ++ [n - 1 - m] := by simp [backL, List.range_succ]
theorem backL_length (n m : Nat) : (backL n m).length = m := by simp [backL]
set_option maxRecDepth 100000 in
set_option maxHeartbeats 2000000 in
theorem back1_in (l Bs n : Nat) (hn : 1 ≤ n) (A A' : Option Addr) (cap : Nat) (xs : List Int) (hA' : ∀ ad, A = some ad → 0 < xs.length → A' = some ad) (hlen : xs.length ≤ 1000000) (J Jx : List (Fin xs.length) → World → Prop)
  (hY : ∀ (pre : List (Fin xs.length)) (i : Fin xs.length) W, J pre W → pre.length < xs.length → YieldAt Fence.wide (n - 1) Tryd.prog l #[.int .i64 (i.1 : Nat), .int .i64 (xs.getD i.1 0)] W fun e W' =>
   (e = .returned (.bool true) ∧ J (pre ++ [i]) W' ∧ KeepB Bs A' W W') ∨ (e = .returned (.bool false) ∧ Jx (pre ++ [i]) W'))
  (W : World) (hBs : W.cell? ⟨Bs, 0, none⟩ = some (.slice A xs.length cap)) (hC : (Kd.int .i64).C W A xs.length xs) (h0 : J [] W) :
  CallsIn Fence.wide n Tryd.prog 150 #[.func (.yield l) #[] #[], .pointer (some ⟨Bs, 0, none⟩)] W fun e W' => (∃ v, e = .returned v) ∧
   ((∃ ys : List (Fin xs.length), ys.map (·.1) = backL xs.length xs.length ∧ J ys W') ∨ (∃ pre : List (Fin xs.length), True ∧ Jx pre W')) := by
 refine callsIn_of_wp Tryd.func150 rfl trivial ?_ rfl
 simp only [Tryd.ntmps150, List.size_toArray, List.length_cons, List.length_nil, Nat.reduceAdd, Nat.reduceSub, Array.replicate_succ, Array.replicate_zero, List.push_toArray, List.append_toArray, List.nil_append, List.cons_append]
 have HC := Lib.hid hC
 have HBS := Lib.hid hBs
 have HL := Lib.hid hlen
 clear hC
 gi_wp2
 gi_loopw [3] (fun p wr => ∃ (m : Nat) (pre : List (Fin xs.length)), m ≤ xs.length ∧ p = .int .i64 ((xs.length : Int) - 1 - m) ∧ pre.map (·.1) = backL xs.length m ∧ J pre wr ∧ KeepB Bs A' W wr) (fun p _ => (intOf p + 1).toNat)
 case atStart => exact ⟨0, [], Nat.zero_le _, by simp, rfl, h0, KeepB.refl _ _ _⟩
 case round =>
  clear hBs
  obtain ⟨m, pre, hm, rfl, hpre, hJs, hK⟩ := hrel
  have HPRE := Lib.hid hpre
  have hpl : pre.length = m := by
   have := congrArg List.length hpre
   rwa [List.length_map, backL_length] at this
  clear hpre
  have hBlt : Bs < W.heap.size := World.block_lt_of_cell? W ⟨Bs, 0, none⟩ HBS.out
  have hcb : ∀ wr' : World, KeepB Bs A' W wr' → wr'.cell? ⟨Bs, 0, none⟩ = some (.slice A xs.length cap) := fun wr' hk => by
   have := HBS.out
   simp only [World.cell?, hk.2.1 hBlt] at this ⊢
   exact this
  have hcx := hcb wr hK
  by_cases hlt : m < xs.length
  ·
   obtain ⟨i, hi⟩ : ∃ i : Nat, i = xs.length - 1 - m := ⟨_, rfl⟩
   have ei : (xs.length : Int) - 1 - m = (i : Int) := by omega
   have hil : i < xs.length := by omega
   have hCr : (Kd.int .i64).C wr A xs.length xs := C_block HC.out fun ad e hn => hK.2.2 ad (hA' ad e hn) (by
    obtain ⟨ad', e', hc⟩ := at_num HC.out i hil
    have := World.block_lt_of_cell? W _ hc
    rw [e] at e'
    cases e'
    have e2 : (ad.add i).block = ad.block := by unfold Addr.add; split <;> rfl
    rwa [e2] at this)
   obtain ⟨ad, rfl, hci⟩ := at_num hCr i hil
   have hY2 := hY pre ⟨i, hil⟩ wr hJs (by rw [hpl]; exact hlt)
   dsimp only at hY2
   generalize xs.getD i 0 = z at hci hY2
   obtain ⟨fn, tmps, assign, body, hy, hR⟩ := hY2
   rw [ei]
   have hil' : (i : Int) < (xs.length : Int) := by omega
   have HI := Lib.hid hi
   clear hi ei hCr
   gi_wp2
   refine hR.mono ?_
   rintro e W3 (⟨rfl, hJ3, hk3⟩ | ⟨rfl, hJx3⟩)
   ·
    gi_wp2
    go_roundw
    case rel => exact ⟨m + 1, pre ++ [⟨i, hil⟩], by omega, by have := HI.out; exact congrArg _ (by omega), by rw [List.map_append, HPRE.out, backL_succ, ← HI.out]; rfl, hJ3, hK.trans hk3⟩
    case measure => first | (simp [intOf]; done) | (simp [intOf]; omega)
   ·
    gi_wp2
    refine bodyPost_ret (results_none rfl _ _ _) rfl ?_
    exact ⟨⟨_, rfl⟩, .inr ⟨_, trivial, hJx3⟩⟩
  ·
   obtain rfl : m = xs.length := by omega
   have e : (xs.length : Int) - 1 - (xs.length : Nat) = -1 := by omega
   rw [e]
   gi_wp2
   go_end0
   exact ⟨⟨_, rfl⟩, .inl ⟨_, HPRE.out, hJs⟩⟩
set_option maxHeartbeats 1000000 in
theorem backward_calls (A : Option Addr) (n c : Nat) (w : World) :
  Calls Tryd.prog 134 #[.slice A n c] w fun e w' => e = .returned (.func (.func 150) #[] #[.pointer (some ⟨w.heap.size, 0, none⟩)]) ∧ w' = w.alloc (.cells #[.slice A n c] 24) := by
 go_enter Tryd.func134, Tryd.ntmps134
 go_wp2
 go_ret
 exact ⟨rfl, rfl⟩
theorem back_stops (n : Nat) (hn : 1 ≤ n) (Bs : Nat) (A A' : Option Addr) (cap : Nat) (xs : List Int) (hA' : ∀ ad, A = some ad → 0 < xs.length → A' = some ad) (hlen : xs.length ≤ 1000000) (w : World) (hB : Bs < w.heap.size) (hc : w.cell? ⟨Bs, 0, none⟩ = some (.slice A xs.length cap)) (hC : (Kd.int .i64).C w A xs.length xs) :
  SeqStopsK Fence.wide n Tryd.prog 150 #[.pointer (some ⟨Bs, 0, none⟩)] (fun i : Fin xs.length => #[Value.int .i64 (i.1 : Nat), .int .i64 (xs.getD i.1 0)]) (KeepB Bs A')
   (fun ys => ys.map (·.1) = backL xs.length xs.length) (fun _ => True) xs.length w := fun l J Jx W hW _ _ hY h0 =>
 back1_in l Bs n hn A A' cap xs hA' hlen J Jx hY W ((hW.cell (p := ⟨Bs, 0, none⟩) hB).trans hc) (Kd.C_below hC hW) h0
theorem wp_rangeBack {g : Operand} {p1 p2 : Tmp} {assign body : Code} {Q : Exit → Act → World → Prop} {a : Act} {w : World} (Bs : Nat) (A A' : Option Addr) (cap : Nat) (xs : List Int) (hA' : ∀ ad, A = some ad → 0 < xs.length → A' = some ad) (hlen : xs.length ≤ 1000000)
  (hg : a.eval g = .func (.func 150) #[] #[.pointer (some ⟨Bs, 0, none⟩)]) (hB : Bs < w.heap.size)
  (hc : w.cell? ⟨Bs, 0, none⟩ = some (.slice A xs.length cap)) (hC : (Kd.int .i64).C w A xs.length xs) (hA : ∀ ad, A' = some ad → ad.block < w.heap.size)
  (I : List (Fin xs.length) → World → Prop) (Ix : Code → List (Fin xs.length) → World → Prop) (hI : OwnFrom w.heap.size I) (hIx : ∀ c, OwnFrom w.heap.size (Ix c)) (h0 : I [] w)
  (Ax : Fin xs.length → Act → World → Prop) (hAx : ∀ x a', OwnFrom w.heap.size (fun (_ : Unit) W => Ax x a' W))
  (hassign : ∀ (l : Nat) (pre : List (Fin xs.length)) (x : Fin xs.length) (W : World) (K : Act → World → Prop), I pre W → (∀ a' W', KeepsFrom w.heap.size W W' → KeepB Bs A' W W' → I pre W' → Ax x a' W' → K a' W') →
   assign.wpIn (Fence.wide.inRound l) 7 Tryd.prog (Exit.then K (fun _ _ _ => False)) { tmps := (a.tmps.setIfInBounds p1 (.int .i64 (x.1 : Nat))).setIfInBounds p2 (.int .i64 (xs.getD x.1 0)), defers := [] } W)
  (hbody : ∀ (l : Nat) (pre : List (Fin xs.length)) (x : Fin xs.length) (a' : Act) (W : World), w.heap.size ≤ l → (∃ r, W.heap[l]? = some (.loop r)) → I pre W → Ax x a' W → pre.length < xs.length → body.wpIn (Fence.wide.inRound l) 7 Tryd.prog (ownPostG w.heap.size (KeepB Bs A') I Ix (pre ++ [x]) W) a' W)
  (hdone : ∀ (D : Nat) (ys : List (Fin xs.length)) (W : World), w.heap.size ≤ D → ys.map (·.1) = backL xs.length xs.length → I ys W → W.heap[D]? = some (.deferred (some [])) → Q .normal { a with defers := { target := .collected D, args := #[] } :: a.defers } W)
  (hstop : ∀ (D : Nat) (c : Code) (pre : List (Fin xs.length)) (W : World), w.heap.size ≤ D → Ix c pre W → W.heap[D]? = some (.deferred (some [])) → c.wp Tryd.prog Q { a with defers := { target := .collected D, args := #[] } :: a.defers } W) :
  (Code.rangeFunc g #[p1, p2] assign body).wp Tryd.prog Q a w := by
 refine (wpIn_wide (n := 9)).1 (wpIn_rangeFunc_ownH (F := Fence.wide) rfl (by omega) hg trivial (enters_of Tryd.func150 (by kernel_rfl) rfl)
  (back_stops 8 (by omega) Bs A A' cap xs hA' hlen w hB hc hC) KeepB.trans ?hKb (Below.refl _ _) (fun _ => rfl) I Ix hI hIx h0 Ax hAx ?_ hbody ?_ ?_)
 case hKb =>
  intro W l o o' hl ho hoc _
  have hg1 := grownBy_putObj' W l o'
  exact ⟨hg1.size, fun h => hg1.block _ h (fun e => by cases e; omega), fun ad e h => hg1.block _ h (fun e2 => by
   cases e2
   have := hA ad e
   omega)⟩
 ·
  intro l pre x W K hi hK
  simpa using hassign l pre x W K hi hK
 ·
  rintro D ys W hD hy hi hd
  exact hdone D ys W hD hy hi hd
 ·
  intro D c pre W h1 _ h3 h4
  exact wpIn_wide.2 (hstop D c pre W h1 h3 h4)
end Go.Proofs.YtlapphhcficbjaaDoor

namespace Go.Proofs.YtlapphhcficbjaaDoor
set_option linter.unusedVariables false
set_option linter.unusedSimpArgs false
open Go.RowKit Go.Shelf Bits
open Go.Proofs.YtlapphhcficbjaaDoorW.PrintWords Go.Proofs.YtlapphhcficbjaaDoorW.PrintLast Go.Proofs.YtlapphhcficbjaaDoorW.PrintMore
structure Mach where
 b : Nat
 o : Nat
 bg : Nat → Int
 cl : Nat → Int
def Mach.zero : Mach := ⟨0, 0, fun _ => 0, fun _ => 0⟩
def Ev.i (e : Ev) : Nat := e.f1.toNat
def evIn (g : List Tk) (e : Ev) : Bool := inB e.f0 0 200 && inB e.f1 0 (g.length - 1)
def mayBegin (ns : List Nat) (M : Mach) (e : Ev) : Bool := !M.b.testBit e.i && decide (diff (ns.getD e.i 0) M.o = 0)
def mayEnd (g : List Tk) (M : Mach) (e : Ev) : Bool := M.b.testBit e.i && !M.o.testBit e.i && decide (e.f0 = M.bg e.i + (rdTk g e.i).f0)
def Mach.begin (M : Mach) (e : Ev) : Mach := { M with b := M.b ||| 2 ^ e.i, bg := fun j => if j = e.i then e.f0 else M.bg j }
def Mach.finish (M : Mach) (e : Ev) : Mach := { M with o := M.o ||| 2 ^ e.i, cl := fun j => if j = e.i then e.f0 else M.cl j }
def stepM (g : List Tk) (ns : List Nat) (M : Mach) (e : Ev) : Option Mach :=
 if evIn g e = false then none
 else if e.f2 = false then (if mayBegin ns M e then some (M.begin e) else none)
 else (if mayEnd g M e then some (M.finish e) else none)
def MAt (h C : Nat) (M : Mach) (W : World) : Prop :=
 W.cell? ⟨h, 0, none⟩ = some (.pointer (some ⟨C, 0, none⟩)) ∧ W.cell? ⟨h, 1, none⟩ = some (.int .u16 M.b) ∧ W.cell? ⟨h, 2, none⟩ = some (.int .u16 M.o) ∧
 (∀ i, i < 8 → W.cell? ⟨h, 3 + i, none⟩ = some (.int .i64 (M.bg i))) ∧ (∀ i, i < 8 → W.cell? ⟨h, 11 + i, none⟩ = some (.int .i64 (M.cl i))) ∧
 (∀ j, j < 19 → W.frozen? ⟨h, j, none⟩ = false) ∧ M.b < 65536 ∧ M.o < 65536 ∧ h < W.heap.size
section
variable {h C : Nat} {M : Mach} {W : World}
theorem oth (W : World) (h j k : Nat) (v : Value) (hne : j ≠ k) : (W.setCell ⟨h, j, none⟩ v).cell? ⟨h, k, none⟩ = W.cell? ⟨h, k, none⟩ := World.cell?_setCell_other _ _ _ _ (by simp [hne])
theorem MAt.setB (hM : MAt h C M W) (b : Nat) (hb : b < 65536) : MAt h C { M with b := b } (W.setCell ⟨h, 1, none⟩ (.int .u16 b)) := by
 obtain ⟨h0, h1, h2, h3, h4, h5, h6, h7, h8⟩ := hM
 exact ⟨by rw [oth _ _ _ _ _ (by omega)]; exact h0, World.cell?_setCell_same _ _ _ h1, by rw [oth _ _ _ _ _ (by omega)]; exact h2, fun i hi => by rw [oth _ _ _ _ _ (by omega)]; exact h3 i hi,
  fun i hi => by rw [oth _ _ _ _ _ (by omega)]; exact h4 i hi, fun j hj => by rw [World.frozen?_setCell]; exact h5 j hj, hb, h7, by simpa [World.setCell] using h8⟩
theorem MAt.setO (hM : MAt h C M W) (b : Nat) (hb : b < 65536) : MAt h C { M with o := b } (W.setCell ⟨h, 2, none⟩ (.int .u16 b)) := by
 obtain ⟨h0, h1, h2, h3, h4, h5, h6, h7, h8⟩ := hM
 exact ⟨by rw [oth _ _ _ _ _ (by omega)]; exact h0, by rw [oth _ _ _ _ _ (by omega)]; exact h1, World.cell?_setCell_same _ _ _ h2, fun i hi => by rw [oth _ _ _ _ _ (by omega)]; exact h3 i hi,
  fun i hi => by rw [oth _ _ _ _ _ (by omega)]; exact h4 i hi, fun j hj => by rw [World.frozen?_setCell]; exact h5 j hj, h6, hb, by simpa [World.setCell] using h8⟩
theorem MAt.setBg (hM : MAt h C M W) (i : Nat) (hi : i < 8) (v : Int) : MAt h C { M with bg := fun j => if j = i then v else M.bg j } (W.setCell ⟨h, 3 + i, none⟩ (.int .i64 v)) := by
 obtain ⟨h0, h1, h2, h3, h4, h5, h6, h7, h8⟩ := hM
 refine ⟨by rw [oth _ _ _ _ _ (by omega)]; exact h0, by rw [oth _ _ _ _ _ (by omega)]; exact h1, by rw [oth _ _ _ _ _ (by omega)]; exact h2, fun j hj => ?_,
  fun j hj => by rw [oth _ _ _ _ _ (by omega)]; exact h4 j hj, fun j hj => by rw [World.frozen?_setCell]; exact h5 j hj, h6, h7, by simpa [World.setCell] using h8⟩
 by_cases hij : j = i
 ·
  subst hij
  simp only [if_pos]
  exact World.cell?_setCell_same _ _ _ (h3 j hj)
 ·
  simp only [if_neg hij]
  rw [oth _ _ _ _ _ (by omega)]
  exact h3 j hj
theorem MAt.setCl (hM : MAt h C M W) (i : Nat) (hi : i < 8) (v : Int) : MAt h C { M with cl := fun j => if j = i then v else M.cl j } (W.setCell ⟨h, 11 + i, none⟩ (.int .i64 v)) := by
 obtain ⟨h0, h1, h2, h3, h4, h5, h6, h7, h8⟩ := hM
 refine ⟨by rw [oth _ _ _ _ _ (by omega)]; exact h0, by rw [oth _ _ _ _ _ (by omega)]; exact h1, by rw [oth _ _ _ _ _ (by omega)]; exact h2, fun j hj => by rw [oth _ _ _ _ _ (by omega)]; exact h3 j hj,
  fun j hj => ?_, fun j hj => by rw [World.frozen?_setCell]; exact h5 j hj, h6, h7, by simpa [World.setCell] using h8⟩
 by_cases hij : j = i
 ·
  subst hij
  simp only [if_pos]
  exact World.cell?_setCell_same _ _ _ (h4 j hj)
 ·
  simp only [if_neg hij]
  rw [oth _ _ _ _ _ (by omega)]
  exact h4 j hj
theorem MAt.below {W' : World} (hM : MAt h C M W) (hb : Below W.heap.size W W') : MAt h C M W' := by
 obtain ⟨h0, h1, h2, h3, h4, h5, h6, h7, h8⟩ := hM
 have e : ∀ j, W'.cell? ⟨h, j, none⟩ = W.cell? ⟨h, j, none⟩ := fun j => by simp only [World.cell?, hb.block h h8]
 have f : ∀ j, W'.frozen? ⟨h, j, none⟩ = W.frozen? ⟨h, j, none⟩ := fun j => by simp only [World.frozen?, hb.block h h8]
 exact ⟨by rw [e]; exact h0, by rw [e]; exact h1, by rw [e]; exact h2, fun i hi => by rw [e]; exact h3 i hi, fun i hi => by rw [e]; exact h4 i hi, fun j hj => by rw [f]; exact h5 j hj, h6, h7, by have := hb.size; omega⟩
theorem MAt.drew (hM : MAt h C M W) : MAt h C M W.drew := hM.below ((Below.refl _ W).drew)
end
def Others (h : Nat) (w w' : World) : Prop := ∀ k, k < w.heap.size → k ≠ h → w'.heap[k]? = w.heap[k]?
theorem Others.of_below {h : Nat} {w w' : World} (hb : Below w.heap.size w w') : Others h w w' := fun k hk _ => hb.block k hk
theorem Others.setCell {h : Nat} {w w' : World} (hb : Others h w w') (j : Nat) (v : Value) : Others h w (w'.setCell ⟨h, j, none⟩ v) := fun k hk hne => by
 rw [← hb k hk hne]
 exact Below.heap_setCell _ _ _ _ hne
theorem Others.drew {h : Nat} {w w' : World} (hb : Others h w w') : Others h w w'.drew := hb
theorem Others.cell {h : Nat} {w w' : World} (hb : Others h w w') (a : Addr) (ha : a.block < w.heap.size) (hne : a.block ≠ h) : w'.cell? a = w.cell? a := by
 simp only [World.cell?, hb a.block ha hne]
theorem size_calls (W : World) (C : Nat) (g : List Tk) (ns : List Nat) (h : IsGraph W C g ns) :
  Calls Tryd.prog 51 #[.pointer (some ⟨C, 0, none⟩)] W fun e w' => e = .returned (.int .i64 g.length) ∧ w' = W := by
 obtain ⟨Ag, cg, An, cn, Ao, co, vb, va, h1, h2, h3, h4⟩ := h
 have hc0 : W.cell? ⟨C, 0, none⟩ = some (.slice Ag g.length cg) := by simp [World.cell?, h1]
 clear h1 h2 h3 h4
 go_enter Tryd.func51, Tryd.ntmps51
 go_wp2
 go_ret
 trivial
end Go.Proofs.YtlapphhcficbjaaDoor

namespace Go.Proofs.YtlapphhcficbjaaDoor
set_option linter.unusedVariables false
set_option linter.unusedSimpArgs false
open Go.RowKit Go.Shelf Bits
open Go.Proofs.YtlapphhcficbjaaDoorW.PrintWords Go.Proofs.YtlapphhcficbjaaDoorW.PrintLast Go.Proofs.YtlapphhcficbjaaDoorW.PrintMore
attribute [local go_sem] Oper.semAt_some
theorem wpIn_rangeSetN {g : Operand} {p : Tmp} {assign body : Code} {Q : Exit → Act → World → Prop} {a : Act} {w : World} {l₀ : Nat} {r₀ : Loop} (s Bn n₀ : Nat) (hs : s < 65536) (hl₀ : w.heap[l₀]? = some (.loop r₀))
  (hg : a.eval g = .func (.func 112) #[] #[.pointer (some ⟨Bn, 0, none⟩)]) (hB : Bn < w.heap.size)
  (hc : w.cell? ⟨Bn, 0, none⟩ = some (.int .u16 s)) (hT : Tab w) (hn : n₀ ≤ w.heap.size) (htab : 0 < n₀)
  (I : List (El s) → World → Prop) (Ix : Code → List (El s) → World → Prop) (hI : OwnFrom w.heap.size I) (hIx : ∀ c, OwnFrom w.heap.size (Ix c)) (h0 : I [] w)
  (a₁ : El s → Act)
  (hassign : ∀ (l : Nat) (x : El s) (W : World) (K : Act → World → Prop), K (a₁ x) W →
   assign.wpIn (Fence.wide.inRound l) 5 Tryd.prog (Exit.then K (fun _ _ _ => False)) { tmps := a.tmps.setIfInBounds p (.int .i64 (x.1 : Nat)), defers := [] } W)
  (hbody : ∀ (l : Nat) (pre : List (El s)) (x : El s) (W : World), I pre W → pre.length < (elems s).length → body.wpIn (Fence.wide.inRound l) 5 Tryd.prog (ownPostG w.heap.size (Below n₀) I Ix (pre ++ [x]) W) (a₁ x) W)
  (hdone : ∀ (xs : List (El s)) (W : World), xs.map (·.1) = elems s → I xs W → Q .normal a W)
  (hstop : ∀ (c : Code) (pre : List (El s)) (W : World), Ix c pre W → c.wpIn (Fence.wide.inRound l₀) 7 Tryd.prog Q a W) :
  (Code.rangeFunc g #[p] assign body).wpIn (Fence.wide.inRound l₀) 7 Tryd.prog Q a w := by
 refine wpIn_rangeFunc_ownN (l₀ := l₀) (r₀ := r₀) rfl hl₀ (by omega) hg trivial (enters_of Tryd.func112 (by kernel_rfl) rfl)
  ((all_stops 6 (by omega) Bn n₀ s hs w hB hc hT htab).inRound l₀) belowK_t (belowK_b hn) (Below.refl _ _) (fun _ => rfl) I Ix hI hIx h0 (fun x a' _ => a' = a₁ x) (fun _ _ => ownFrom_pure _ _) ?_ ?_ hdone (fun c pre W _ h => hstop c pre W h)
 ·
  intro l pre x W K hi hK
  have := hassign l x W K (hK _ _ (KeepsFrom.refl _ _) (Below.refl _ _) hi rfl)
  rw [show (Fence.wide.inRound l₀).inRound l = Fence.wide.inRound l from rfl]
  simpa using this
 ·
  intro l pre x a' W _ _ hi ha hlt
  subst ha
  exact hbody l pre x W hi hlt
def IRow (W : World) (b : Nat) (xs : List Int) : Prop := W.heap[b]? = some (.cells (xs.map (Value.int .i64)).toArray 3 (0, 0))
theorem IRow.cell {W : World} {b : Nat} {xs : List Int} (h : IRow W b xs) (i : Nat) (hi : i < xs.length) : W.cell? ⟨b, i, none⟩ = some (.int .i64 (xs.getD i 0)) := by
 rw [blk_cell h i]
 simp [hi]
theorem IRow.frozen {W : World} {b : Nat} {xs : List Int} (h : IRow W b xs) (i : Nat) : W.frozen? ⟨b, i, none⟩ = false := blk_frozen h i
theorem IRow.set {W : World} {b : Nat} {xs : List Int} (h : IRow W b xs) (i : Nat) (x : Int) : IRow (W.setCell ⟨b, i, none⟩ (.int .i64 x)) b (xs.set i x) := by
 have := blk_set h i (.int .i64 x)
 unfold IRow
 rw [this]
 congr 2
 simp [List.map_set]
theorem IRow.far {W : World} {b : Nat} {xs : List Int} (h : IRow W b xs) {p : Addr} (hp : b ≠ p.block) (u : Value) : IRow (W.setCell p u) b xs := blk_far h hp u
theorem IRow.own {W : World} {b base : Nat} {xs : List Int} (h : IRow W b xs) (hb : base ≤ b) (hl : xs.length ≤ 1000000) : Kd.R (Kd.int .i64) 3 W base (fun _ => True) (.slice (some ⟨b, 0, none⟩) xs.length xs.length) xs :=
 Kd.R_of_own ⟨by simp [encs], .inr ⟨b, xs.length, _, rfl, hb, h, Nat.le_refl _, by simp only [maxLen]; omega, by simp, by simp [encs, List.take_of_length_le]⟩⟩ (fun _ _ => trivial)
theorem ownFrom_keepB {β : Type} {B Bs : Nat} {A : Option Addr} {W : World} (h : Bs < B) (hA : ∀ ad, A = some ad → ad.block < B) : OwnFrom B (fun (_ : β) W' => KeepB Bs A W W') :=
 fun s W1 W2 row hs hg hr => hs.trans ⟨hg.size, fun hl => hg.block _ hl (fun e => by have := (hr Bs e.symm).1; omega), fun ad e hl => hg.block _ hl (fun e2 => by have := (hr _ e2.symm).1; have := hA ad e; omega)⟩
def tailPush (i : Nat) (o : List Int) (k : Nat) : List Int := o.set k (max (o.getD k 0) (o.getD i 0))
def tailStep (g : List Tk) (ns : List Nat) (o : List Int) (i : Nat) : List Int := (elems (ns.getD i 0)).foldl (tailPush i) (o.set i (o.getD i 0 + (rdTk g i).f0))
def tailsL (g : List Tk) (ns ord : List Nat) (pre : List Nat) : List Int := pre.foldl (fun o p => tailStep g ns o (ord.getD p 0)) (List.replicate g.length 0)
def Span (o : List Int) (n : Nat) (b : Int) : Prop := o.length = n ∧ ∀ j, 0 ≤ o.getD j 0 ∧ o.getD j 0 ≤ b
theorem Span.set {o : List Int} {n : Nat} {b b' x : Int} (h : Span o n b) (hb : b ≤ b') (hx : 0 ≤ x ∧ x ≤ b') (i : Nat) : Span (o.set i x) n b' := by
 refine ⟨by rw [List.length_set]; exact h.1, fun j => ?_⟩
 have := h.2 j
 simp only [List.getD_eq_getElem?_getD, List.getElem?_set] at this ⊢
 split
 ·
  split
  ·
   exact hx
  ·
   simp; omega
 ·
  omega
theorem Span.push {o : List Int} {n : Nat} {b : Int} (h : Span o n b) (i k : Nat) : Span (tailPush i o k) n b := by
 have h1 := h.2 k
 have h2 := h.2 i
 exact h.set (Int.le_refl _) (by omega) k
theorem Span.pushes {n : Nat} {b : Int} (i : Nat) : ∀ (l : List Nat) (o : List Int), Span o n b → Span (l.foldl (tailPush i) o) n b
 | [], o, h => h
 | k :: l, o, h => Span.pushes i l _ (h.push i k)
theorem tails_span {g : List Tk} {ns ord : List Nat} (htm : ∀ i, 0 ≤ (rdTk g i).f0 ∧ (rdTk g i).f0 ≤ 20) : ∀ (pre : List Nat), Span (tailsL g ns ord pre) g.length (20 * pre.length)
 | pre => by
  have key : ∀ (pre : List Nat) (o : List Int) (b : Int), 0 ≤ b → Span o g.length b → Span (pre.foldl (fun o p => tailStep g ns o (ord.getD p 0)) o) g.length (b + 20 * pre.length) := by
   intro pre
   induction pre with
   | nil =>
    intro o b _ h
    simpa using h
   | cons p pre ih =>
    intro o b hb h
    have h1 := h.2 (ord.getD p 0)
    have h2 := htm (ord.getD p 0)
    have h3 := Span.pushes (ord.getD p 0) (elems (ns.getD (ord.getD p 0) 0)) _ (h.set (b' := b + 20) (by omega) (x := o.getD (ord.getD p 0) 0 + (rdTk g (ord.getD p 0)).f0) (by omega) (ord.getD p 0))
    have h4 := ih _ (b + 20) (by omega) h3
    rw [List.length_cons]
    have e : b + 20 + 20 * (pre.length : Int) = b + 20 * ((pre.length + 1 : Nat) : Int) := by omega
    rw [← e]
    exact h4
  have := key pre (List.replicate g.length 0) 0 (Int.le_refl _) ⟨by simp, fun j => by
   rw [List.getD_eq_getElem?_getD, List.getElem?_replicate]
   split <;> simp⟩
  simpa [tailsL] using this
theorem tailsL_snoc (g : List Tk) (ns ord pre : List Nat) (p : Nat) : tailsL g ns ord (pre ++ [p]) = tailStep g ns (tailsL g ns ord pre) (ord.getD p 0) := by
 unfold tailsL
 rw [List.foldl_append]
 rfl
structure THeap (w : World) (n0 n C X O R : Nat) (o : List Int) (W : World) : Prop where
 hX : Boxed W X 65 (.pointer (some ⟨C, 0, none⟩))
 hO : Boxed W O 24 (.slice (some ⟨R, 0, none⟩) n n)
 hR : IRow W R o
 hB : Below w.heap.size w W
 hn : n0 ≤ W.heap.size
theorem THeap.own {β : Type} {w : World} {n0 n C X O R B : Nat} (o : β → List Int) (hB : w.heap.size ≤ B) : OwnFrom B (fun s W => THeap w n0 n C X O R (o s) W) := by
 intro s W1 W2 row h hg hr
 exact ⟨(Own.from (boxed_own X 65 (fun _ : β => _)) B) s W1 W2 row h.hX hg hr, (Own.from (boxed_own O 24 (fun _ : β => _)) B) s W1 W2 row h.hO hg hr,
  ownFrom_cells B R (fun s => ((o s).map (Value.int .i64)).toArray) 3 s W1 W2 row h.hR hg hr,
  h.hB.trans ⟨hg.os, hg.tape, hg.output, hg.size, fun k hk => hg.block k (Nat.lt_of_lt_of_le hk h.hB.size) (fun e => by have := (hr k e.symm).1; omega)⟩, Nat.le_trans h.hn hg.size⟩
theorem THeap.alloc {w : World} {n0 n C X O R : Nat} {o : List Int} {W : World} (h : THeap w n0 n C X O R o W) (ob : Obj) : THeap w n0 n C X O R o (W.alloc ob) :=
 ⟨h.hX.alloc _, h.hO.alloc _, (Below.heap_alloc W ob R (blk_lt h.hR)).trans h.hR, h.hB.alloc h.hB.size _, by have := h.hn; simp; omega⟩
theorem THeap.drew {w : World} {n0 n C X O R : Nat} {o : List Int} {W : World} (h : THeap w n0 n C X O R o W) : THeap w n0 n C X O R o W.drew := ⟨h.hX, h.hO, h.hR, h.hB.drew, h.hn⟩
theorem THeap.set {w : World} {n0 n C X O R : Nat} {o : List Int} {W : World} (h : THeap w n0 n C X O R o W) (hXR : X ≠ R) (hOR : O ≠ R) (hw : w.heap.size ≤ R) (i : Nat) (x : Int) : THeap w n0 n C X O R (o.set i x) (W.setCell ⟨R, i, none⟩ (.int .i64 x)) :=
 ⟨blk_far h.hX hXR _, blk_far h.hO hOR _, h.hR.set i x, h.hB.setCell (p := ⟨R, i, none⟩) hw _, by have := h.hn; simpa [World.setCell] using this⟩
theorem heap_far (w : World) (a : Addr) (u : Value) (k : Nat) (h : k ≠ a.block) : (w.setCell a u).heap[k]? = w.heap[k]? := by
 simp only [World.setCell, Array.getElem?_modify]
 rw [if_neg (fun e => h e.symm)]
theorem KeepB.set {Bs : Nat} {A : Option Addr} (W : World) (p : Addr) (v : Value) (h1 : Bs ≠ p.block) (h2 : ∀ ad, A = some ad → ad.block ≠ p.block) : KeepB Bs A W (W.setCell p v) :=
 ⟨Nat.le_of_eq (by simp [World.setCell]), fun _ => heap_far _ _ _ _ h1, fun ad e _ => heap_far _ _ _ _ (h2 ad e)⟩
theorem KeepB.below {Bs : Nat} {A : Option Addr} {W W' : World} (h : Below W.heap.size W W') : KeepB Bs A W W' := ⟨h.size, fun hl => h.block _ hl, fun ad _ hl => h.block _ hl⟩
end Go.Proofs.YtlapphhcficbjaaDoor
