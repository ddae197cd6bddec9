/- Parts of the proof, laid as one text by a program of mine. -/
import Derived.Test.YtkljcdghbefceaaGreatDoorKbtc2
import Derived.Deep.RegionWith
import Derived.Deep.CutRange
import Derived.Deep.QuietTactic
import Derived.BigQuiet
import Derived.StillTailTactics
namespace Go.Proofs.YtkljcdghbefceaaGreatDoor
set_option linter.unusedVariables false
set_option linter.unusedSimpArgs false
open Go.RowKit Go.Shelf Bits
open Go.Proofs.YtkljcdghbefceaaGreatDoorW.PrintWords Go.Proofs.YtkljcdghbefceaaGreatDoorW.PrintLast Go.Proofs.YtkljcdghbefceaaGreatDoorW.PrintMore
attribute [local go_sem] Oper.semAt_some
theorem mixed : Tryz.prog.follows .mixedOrders = true := by kernel_rfl
def RowAt (W : World) (b : Nat) (xs : List Nat) : Prop := W.heap[b]? = some (.cells ((ints xs).map (Value.int .u16)).toArray 46 (0, 0))
theorem RowAt.cell {W : World} {b : Nat} {xs : List Nat} (h : RowAt W b xs) (i : Nat) (hi : i < xs.length) : W.cell? ⟨b, i, none⟩ = some (.int .u16 ((xs.getD i 0 : Nat) : Int)) := by
 rw [blk_cell h i]
 simp [ints, hi]
theorem RowAt.frozen {W : World} {b : Nat} {xs : List Nat} (h : RowAt W b xs) (i : Nat) : W.frozen? ⟨b, i, none⟩ = false := blk_frozen h i
theorem RowAt.set {W : World} {b : Nat} {xs : List Nat} (h : RowAt W b xs) (i x : Nat) : RowAt (W.setCell ⟨b, i, none⟩ (.int .u16 x)) b (xs.set i x) := by
 have := blk_set h i (.int .u16 (x : Int))
 unfold RowAt
 rw [this]
 congr 2
 simp [ints, List.map_set]
theorem RowAt.far {W : World} {b : Nat} {xs : List Nat} (h : RowAt W b xs) {p : Addr} (hp : b ≠ p.block) (u : Value) : RowAt (W.setCell p u) b xs := blk_far h hp u
def zeroRow (n : Nat) : Array Value := ((ints (List.replicate n 0)).map (Value.int .u16)).toArray
theorem made_row (n : Nat) : madeCells #[Value.int .u16 0] n = zeroRow n := by
 apply Array.ext
 ·
  simp [madeCells, zeroRow, ints]
 ·
  intro i h1 h2
  simp [madeCells, zeroRow, ints, Nat.mod_one]
theorem RowAt.zero {W : World} {b n : Nat} (h : W.heap[b]? = some (.cells (zeroRow n) 46 (0, 0))) : RowAt W b (List.replicate n 0) := h
theorem getD_rep (n i : Nat) {m : Nat} (h : 0 < m) : (List.replicate n 0).getD i 0 < m := by
 rw [List.getD_eq_getElem?_getD, List.getElem?_replicate]
 split <;> exact h
theorem four_allocs (w : World) (o0 o1 o2 o3 : Obj) : ((((w.alloc o0).alloc o1).alloc o2).alloc o3).drew.heap[w.heap.size]? = some o0 ∧ ((((w.alloc o0).alloc o1).alloc o2).alloc o3).drew.heap[w.heap.size + 1]? = some o1 ∧
  ((((w.alloc o0).alloc o1).alloc o2).alloc o3).drew.heap[w.heap.size + 1 + 1]? = some o2 ∧ ((((w.alloc o0).alloc o1).alloc o2).alloc o3).drew.heap[w.heap.size + 1 + 1 + 1]? = some o3 := by
 have e1 := World.size_alloc w o0
 have e2 := World.size_alloc (w.alloc o0) o1
 have e3 := World.size_alloc ((w.alloc o0).alloc o1) o2
 rw [e1] at e2
 rw [e2] at e3
 have h1 := World.alloc_heap_new w o0
 have h2 := World.alloc_heap_new (w.alloc o0) o1
 have h3 := World.alloc_heap_new ((w.alloc o0).alloc o1) o2
 have h4 := World.alloc_heap_new (((w.alloc o0).alloc o1).alloc o2) o3
 rw [e1] at h2
 rw [e2] at h3
 rw [e3] at h4
 refine ⟨?_, ?_, ?_, h4⟩
 ·
  exact (Below.heap_alloc _ _ _ (by omega)).trans ((Below.heap_alloc _ _ _ (by omega)).trans ((Below.heap_alloc _ _ _ (by omega)).trans h1))
 ·
  exact (Below.heap_alloc _ _ _ (by omega)).trans ((Below.heap_alloc _ _ _ (by omega)).trans h2)
 ·
  exact (Below.heap_alloc _ _ _ (by omega)).trans h3
structure GHeap (n : Nat) (gv nv ov : Value) (bB bA C X : Nat) (W : World) : Prop where
 hX : W.heap[X]? = some (.cells #[.pointer (some ⟨C, 0, none⟩)] 36 (0, 0))
 hC : W.heap[C]? = some (.cells #[gv, nv, ov, .slice (some ⟨bB, 0, none⟩) n n, .slice (some ⟨bA, 0, none⟩) n n] 77 (0, 0))
 hB : ∃ bl : List Nat, bl.length = n ∧ (∀ i, bl.getD i 0 < 2 ^ n) ∧ RowAt W bB bl
 hA : ∃ al : List Nat, al.length = n ∧ (∀ i, al.getD i 0 < 65536) ∧ RowAt W bA al
theorem GHeap.move {n : Nat} {gv nv ov : Value} {bB bA C X : Nat} {W W' : World} (h : GHeap n gv nv ov bB bA C X W) (hm : ∀ (k : Nat) (cs : Array Value) t f, W.heap[k]? = some (.cells cs t f) → W'.heap[k]? = some (.cells cs t f)) : GHeap n gv nv ov bB bA C X W' := by
 obtain ⟨h1, h2, ⟨bl, h3, h4, h5⟩, ⟨al, h6, h7, h8⟩⟩ := h
 exact ⟨hm _ _ _ _ h1, hm _ _ _ _ h2, ⟨bl, h3, h4, hm _ _ _ _ h5⟩, ⟨al, h6, h7, hm _ _ _ _ h8⟩⟩
theorem GHeap.own {β : Type} (B n : Nat) (gv nv ov : Value) (bB bA C X : Nat) : OwnFrom B (fun (_ : β) W => GHeap n gv nv ov bB bA C X W) :=
 fun s W W' row hs hg hr => hs.move fun k cs t f hk => (hg.block k (Array.getElem?_eq_some_iff.1 hk).1 (fun e => by
  obtain ⟨_, o, ho, hn⟩ := hr k e.symm
  rw [hk] at ho
  cases ho
  cases hn)).trans hk
theorem GHeap.alloc {n : Nat} {gv nv ov : Value} {bB bA C X : Nat} {W : World} (h : GHeap n gv nv ov bB bA C X W) (o : Obj) : GHeap n gv nv ov bB bA C X (W.alloc o) :=
 h.move fun k cs t f hk => (Below.heap_alloc W o k (Array.getElem?_eq_some_iff.1 hk).1).trans hk
theorem GHeap.drew {n : Nat} {gv nv ov : Value} {bB bA C X : Nat} {W : World} (h : GHeap n gv nv ov bB bA C X W) : GHeap n gv nv ov bB bA C X W.drew := ⟨h.hX, h.hC, h.hB, h.hA⟩
theorem Marks.set {Ds : List Nat} {W : World} (h : Marks Ds W) (p : Addr) (u : Value) (hp : ∃ cs t f, W.heap[p.block]? = some (.cells cs t f)) : Marks Ds (W.setCell p u) :=
 ⟨h.1, fun D hD => (Below.heap_setCell W p u D (fun e => by
  obtain ⟨cs, t, f, hc⟩ := hp
  have := h.2 D hD
  rw [e, hc] at this
  cases this)).trans (h.2 D hD)⟩
theorem hnb {W : World} {b r : Nat} (v : Value) (xs : List Nat) (h : Boxed W b 3 v) (h' : RowAt W r xs) : b ≠ r := blk_ne h h' (by decide)
theorem getD_set_lt {xs : List Nat} {i x m : Nat} (hx : x < m) (h : ∀ j, xs.getD j 0 < m) (j : Nat) : (xs.set i x).getD j 0 < m := by
 have := h j
 simp only [List.getD_eq_getElem?_getD, List.getElem?_set] at this ⊢
 split
 ·
  split
  ·
   exact hx
  ·
   have := h i; simp only [List.getD_eq_getElem?_getD] at this; exact Nat.lt_of_le_of_lt (Nat.zero_le _) this
 ·
  exact this
theorem GHeap.setB {n : Nat} {gv nv ov : Value} {bB bA C X : Nat} {W : World} (h : GHeap n gv nv ov bB bA C X W) (hn : n ≤ 15) (i x : Nat) (hx : x < 2 ^ n) (ht : 36 ≠ 46) (ht' : 77 ≠ 46) :
  GHeap n gv nv ov bB bA C X (W.setCell ⟨bB, i, none⟩ (.int .u16 x)) := by
 obtain ⟨h1, h2, ⟨bl, h3, h4, h5⟩, ⟨al, h6, h7, h8⟩⟩ := h
 have n1 : X ≠ bB := blk_ne h1 h5 ht
 have n2 : C ≠ bB := blk_ne h2 h5 ht'
 refine ⟨blk_far h1 n1 _, blk_far h2 n2 _, ⟨bl.set i x, by simpa using h3, getD_set_lt hx h4, h5.set i x⟩, ?_⟩
 by_cases e : bA = bB
 ·
  subst e
  refine ⟨al.set i x, by simpa using h6, getD_set_lt (Nat.lt_of_lt_of_le hx (pow_le_u16 (by omega))) h7, h8.set i x⟩
 ·
  exact ⟨al, h6, h7, h8.far e _⟩
theorem GHeap.setA {n : Nat} {gv nv ov : Value} {bB bA C X : Nat} {W : World} (h : GHeap n gv nv ov bB bA C X W) (hne : bB ≠ bA) (i x : Nat) (hx : x < 65536) (ht : 36 ≠ 46) (ht' : 77 ≠ 46) :
  GHeap n gv nv ov bB bA C X (W.setCell ⟨bA, i, none⟩ (.int .u16 x)) := by
 obtain ⟨h1, h2, ⟨bl, h3, h4, h5⟩, ⟨al, h6, h7, h8⟩⟩ := h
 have n1 : X ≠ bA := blk_ne h1 h8 ht
 have n2 : C ≠ bA := blk_ne h2 h8 ht'
 exact ⟨blk_far h1 n1 _, blk_far h2 n2 _, ⟨bl, h3, h4, h5.far hne _⟩, ⟨al.set i x, by simpa using h6, getD_set_lt hx h7, h8.set i x⟩⟩
def graphN (g : List Tk) : Option (List Nat) := (needsN g).bind fun ns => if (ordN ns ns.length).2 = 2 ^ g.length - 1 then some ns else none
theorem graphN_some {g : List Tk} {ns : List Nat} (h : graphN g = some ns) : needsN g = some ns ∧ (ordN ns ns.length).2 = 2 ^ g.length - 1 ∧ g.length ≤ 8 ∧ ns.length = g.length := by
 unfold graphN at h
 obtain ⟨ms, h1, h2⟩ := Option.bind_eq_some_iff.1 h
 split at h2
 ·
  cases h2
  exact ⟨h1, by assumption, (needsN_some h1).1, needsN_length h1⟩
 ·
  cases h2
def IsGraph (W : World) (C : Nat) (g : List Tk) (ns : List Nat) : Prop :=
 ∃ Ag cg An cn Ao co vb va, W.heap[C]? = some (.cells #[.slice Ag g.length cg, .slice An ns.length cn, .slice Ao (ordN ns ns.length).1.length co, vb, va] 77 (0, 0)) ∧
  kTk.C W Ag g.length g ∧ (Kd.int .u16).C W An ns.length (ints ns) ∧ (Kd.int .i64).C W Ao (ordN ns ns.length).1.length (ints (ordN ns ns.length).1)
theorem IsGraph.below {W W' : World} {C : Nat} {g : List Tk} {ns : List Nat} (h : IsGraph W C g ns) (hb : Below W.heap.size W W') : IsGraph W' C g ns := by
 obtain ⟨Ag, cg, An, cn, Ao, co, vb, va, h1, h2, h3, h4⟩ := h
 exact ⟨Ag, cg, An, cn, Ao, co, vb, va, (hb.block C (blk_lt h1)).trans h1, Kd.C_below h2 hb, Kd.C_below h3 hb, Kd.C_below h4 hb⟩
section
variable (w2 : World) (n₀ n : Nat) (A1 A2 : Option Addr) (c1 c2 : Nat) (ns ol : List Nat) (gv : Value) (bB bA C X : Nat)
def GLoop (a : Act) (W : World) : Prop := ∃ (t : Array Value) (Ds : List Nat) (k : Nat), a = { tmps := t, defers := mk Ds } ∧ t.size = 97 ∧ t.getD 4 undef = .slice A1 ns.length c1 ∧ t.getD 8 undef = .pointer (some ⟨X, 0, none⟩) ∧
 t.getD 41 undef = .slice A2 ol.length c2 ∧ t.getD 42 undef = .int .i64 (ol.length : Nat) ∧ t.getD 43 undef = .int .i64 (k : Nat) ∧ k ≤ ol.length ∧ Marks Ds W ∧ (∀ D ∈ Ds, w2.heap.size ≤ D) ∧
 GHeap n gv (.slice A1 ns.length c1) (.slice A2 ol.length c2) bB bA C X W ∧ Below w2.heap.size w2 W
end
theorem C_block {k : IntKind} {w W' : World} {A : Option Addr} {n : Nat} {xs : List Int} (h : (Kd.int k).C w A n xs) (hb : ∀ ad, A = some ad → 0 < n → W'.heap[ad.block]? = w.heap[ad.block]?) : (Kd.int k).C W' A n xs :=
 ⟨h.1, h.2.1, fun hn => by
  obtain ⟨ad, e, hc⟩ := h.2.2 hn
  refine ⟨ad, e, fun j p hj => ?_⟩
  obtain ⟨c, h1, h2, h3⟩ := hc j p hj
  refine ⟨c, h1, h2, fun i u hu => ?_⟩
  rw [← h3 i u hu]
  have e2 : ∀ m, (ad.add m).block = ad.block := fun m => by unfold Addr.add; split <;> rfl
  simp only [World.cell?, e2, hb ad e hn]⟩
theorem R_blk {k : IntKind} {e : Nat} {w : World} {base : Nat} {ok : Nat → Prop} {A : Option Addr} {n c : Nat} {xs : List Int} (h : (Kd.int k).R e w base ok (.slice A n c) xs) (hp : 0 < xs.length) : ∀ ad, A = some ad → base ≤ ad.block ∧ ad.block < w.heap.size := by
 obtain ⟨g, cap, hv, h1, h2, _⟩ := Kd.R_form h hp
 intro ad he
 subst he
 cases hv
 exact ⟨h1, h2⟩
def GStands (w w' : World) (A : Option Addr) (C : Nat) (g : List Tk) (ns : List Nat) : Prop := ∀ W', kTk.C W' A g.length g → (∀ k, w.heap.size ≤ k → k < w'.heap.size → W'.heap[k]? = w'.heap[k]?) → IsGraph W' C g ns
set_option maxRecDepth 100000 in
set_option maxHeartbeats 8000000 in
theorem graphOf_yes2 (A : Option Addr) (c : Nat) (g : List Tk) (ns : List Nat) (w : World) (hr : kTk.C w A g.length g) (hT : Tab w) (hg : graphN g = some ns) :
  Calls Tryz.prog 44 #[.slice A g.length c] w fun e w' => ∃ C, e = .returned (.tuple #[.pointer (some ⟨C, 0, none⟩), .bool true]) ∧ IsGraph w' C g ns ∧ Below w.heap.size w w' ∧ GStands w w' A C g ns ∧ w.heap.size ≤ C := by
 obtain ⟨hn, hd, hlen, hnl⟩ := graphN_some hg
 have HR := Lib.hid hr
 have HN := Lib.hid hn
 have HD := Lib.hid hd
 have HL := Lib.hid hnl
 clear hr hn hd hg hnl
 obtain ⟨i0, hi, hz0, hz1, hz2⟩ := info_parts infoSet
 have hmk : ∀ W, (Instr.makeSlice 75 (Value.int IntKind.i64 (g.length : Int)) (Value.int IntKind.i64 (g.length : Int))).run Tryz.prog W = .ok (.slice (some ⟨W.heap.size, 0, none⟩) g.length g.length) (W.alloc (.cells (zeroRow g.length) 46)) := by
  intro W
  rw [← made_row]
  have := run_make (P := Tryz.prog) W 75 46 i0 (.int .u16 0) Tryz.underlying75 hi hz0 .i64 .i64 (g.length : Int) (g.length : Int) (by omega) (by omega) (by rw [hz2]; omega) (by omega)
  simpa [hz1, Value.cells] using this
 refine calls_of_wp_marks Tryz.func44 rfl ?_
 simp only [Tryz.ntmps44, List.size_toArray, List.length_cons, List.length_nil, Nat.reduceAdd, Nat.reduceSub, Array.replicate_succ, Array.replicate_zero, List.push_toArray, List.append_toArray, List.nil_append, List.cons_append]
 go_wp2_with (first | (go_at_call 72; refine (needsOf_calls _ _ _ _ HR.out).mono ?_; rintro e w1 ⟨v1, rfl, hR1, hB1⟩; rw [HN.out]; have HR1 := Lib.hid (hR1 _ HN.out); clear hR1; obtain ⟨A1, c1, rfl, hl1, hC1⟩ := Kd.R_reads HR1.out; rw [ints_length] at hl1; rw [ints_length] at HR1; rw [ints_length] at hC1; rw [ints_length]; have HC1 := Lib.hid hC1; clear hC1) | (go_at_call 73; refine (order_calls _ _ ns (by rw [HL.out]; omega) (needsN_lt HN.out) _ HC1.out).mono ?_; rintro e w2 ⟨v2, rfl, hR2, hB2⟩; rw [HD.out]; obtain ⟨A2, c2, rfl, hl2, hC2⟩ := Kd.R_reads hR2; rw [ints_length] at hl2; rw [ints_length]; rw [ints_length] at hC2; have HR2 := Lib.hid hR2; have HC2 := Lib.hid hC2; clear hR2 hC2) | (go_at_call 24; refine (everything_calls g.length (by omega) _).mono ?_; rintro e w' ⟨rfl, rfl⟩))
 obtain ⟨w2, rfl⟩ : ∃ w2 : World, w2 = w' := ⟨_, rfl⟩
 go_cut [8, 35, 38, 40] from 30 to 41 (fun v8 v35 v38 v40 wc => ∃ bB bA C X : Nat, v8 = .pointer (some ⟨X, 0, none⟩) ∧ v35 = .slice (some ⟨bB, 0, none⟩) g.length g.length ∧ v38 = .slice (some ⟨bA, 0, none⟩) g.length g.length ∧ v40 = .pointer (some ⟨C, 0, none⟩) ∧ GHeap g.length (.slice A g.length c) (.slice A1 ns.length c1) (.slice A2 (ordN ns ns.length).1.length c2) bB bA C X wc ∧ bB ≠ bA ∧ w2.heap.size ≤ bB ∧ w2.heap.size ≤ bA ∧ w2.heap.size ≤ C ∧ Below w2.heap.size w2 wc)
 case first =>
  go_region_with (fail)
  all_goals
   go_wp2
   go_meet
   case rel =>
    refine ⟨_, _, _, _, rfl, rfl, rfl, rfl, ⟨?_, ?_, ⟨List.replicate g.length 0, by simp, fun i => getD_rep _ _ (Nat.two_pow_pos _), RowAt.zero ?_⟩, ⟨List.replicate g.length 0, by simp, fun i => getD_rep _ _ (by omega), RowAt.zero ?_⟩⟩, by omega, by omega, by omega, by omega, by repeat (with_reducible first | exact Below.refl _ _ | apply below_alloc | apply below_drew1)⟩
    all_goals (with_reducible first | exact (four_allocs _ _ _ _ _).1 | exact (four_allocs _ _ _ _ _).2.1 | exact (four_allocs _ _ _ _ _).2.2.1 | exact (four_allocs _ _ _ _ _).2.2.2)
 case rest =>
  obtain ⟨bB, bA, C, X, rfl, rfl, rfl, rfl, hG, hne, hbB, hbA, hbC, hB⟩ := hcut
  have HBC := Lib.hid hbC
  clear hbC
  have htab := hT.lt
  have HT2 := Lib.hid ((hT.keep htab (hB1.trans (hB2.mono hB1.size))))
  replace htab := Nat.lt_of_lt_of_le htab (Nat.le_trans hB1.size hB2.size)
  go_wp2
  refine wp_loop (GLoop w2 g.length A1 A2 c1 c2 ns (ordN ns ns.length).1 (.slice A g.length c) bB bA C X) (fun a _ => (ordN ns ns.length).1.length - (intOf (a.tmps.getD 43 undef)).toNat) ⟨_, [], 0, rfl, rfl, rfl, rfl, rfl, rfl, rfl, Nat.zero_le _, Marks.nil _, fun D h => (by cases h), hG, hB⟩ ?_
  rintro a W ⟨t, Ds, k, rfl, ht, h4, h8, h41, h42, h43, hk, hM, hDs, hG, hB⟩
  obtain ⟨u, rfl⟩ : ∃ u : Nat → Value, t = #[u 0, u 1, u 2, u 3, u 4, u 5, u 6, u 7, u 8, u 9, u 10, u 11, u 12, u 13, u 14, u 15, u 16, u 17, u 18, u 19, u 20, u 21, u 22, u 23, u 24, u 25, u 26, u 27, u 28, u 29, u 30, u 31, u 32, u 33, u 34, u 35, u 36, u 37, u 38, u 39, u 40, u 41, u 42, u 43, u 44, u 45, u 46, u 47, u 48, u 49, u 50, u 51, u 52, u 53, u 54, u 55, u 56, u 57, u 58, u 59, u 60, u 61, u 62, u 63, u 64, u 65, u 66, u 67, u 68, u 69, u 70, u 71, u 72, u 73, u 74, u 75, u 76, u 77, u 78, u 79, u 80, u 81, u 82, u 83, u 84, u 85, u 86, u 87, u 88, u 89, u 90, u 91, u 92, u 93, u 94, u 95, u 96] := ⟨fun i => t.getD i undef, (arr_of_size t 97 ht).trans rfl⟩
  replace h4 : u 4 = _ := h4
  replace h8 : u 8 = _ := h8
  replace h41 : u 41 = _ := h41
  replace h42 : u 42 = _ := h42
  replace h43 : u 43 = _ := h43
  clear ht
  have hord := ordN_lt ns ns.length
  have hol := hord.2.2
  have HORD := Lib.hid hord.2.1
  clear hord
  by_cases hlt : k < (ordN ns ns.length).1.length
  ·
   obtain ⟨ad2, rfl, hc2⟩ := at_set (Kd.C_below HC2.out hB) k hlt
   have hin : (ordN ns ns.length).1.getD k 0 < g.length := by
    rw [← HL.out]
    apply HORD.out
    rw [List.getD_eq_getElem?_getD, List.getElem?_eq_getElem hlt]
    exact List.getElem_mem _
   generalize (ordN ns ns.length).1.getD k 0 = i at hc2 hin
   obtain ⟨ad1, rfl, hc1⟩ := at_set (Kd.C_below HC1.out (hB2.trans (hB.mono hB2.size))) i (by rw [HL.out]; exact hin)
   have hin2 : i < ns.length := by rw [HL.out]; exact hin
   have hs := needsN_lt HN.out i
   have hs2 := needsN_pow HN.out i
   generalize ns.getD i 0 = s at hc1 hs hs2
   have hc1' := pw_cell_below ((Below.refl _ W).alloc (Nat.le_refl _) (.cells #[.int .i64 (i : Int)] 3)) hc1
   go_wp2_with (go_at_call 47; refine (all_calls _ _).mono ?_; rintro e w' ⟨rfl, rfl⟩)
   have hk9 : k < 9 := by have := HL.out; omega
   have hbox := Boxed.new W 3 (.int .i64 (i : Int))
   have hset := Boxed.new (W.alloc (.cells #[.int .i64 (i : Int)] 3)) 46 (.int .u16 s)
   rw [World.size_alloc] at hset
   have hTab := htab
   have hsz := hB.size
   have hB' := below_alloc (below_alloc hB (.cells #[.int .i64 (i : Int)] 3)) (.cells #[.int .u16 s] 46)
   refine wp_rangeSet s (W.heap.size + 1) w2.heap.size hs rfl (by simp) hset.cell (HT2.out.keep hTab hB') (by simp; omega) hTab
    (fun _ W' => GHeap g.length (.slice A g.length c) (.slice (some ad1) ns.length c1) (.slice (some ad2) (ordN ns ns.length).1.length c2) bB bA C X W' ∧ Boxed W' W.heap.size 3 (.int .i64 (i : Int)) ∧ Below w2.heap.size w2 W' ∧ Marks Ds W') (fun _ _ _ => False)
    ((GHeap.own _ _ _ _ _ _ _ _ _).and ((Own.from (boxed_own _ _ (fun _ => _)) _).and ((ownFrom_below (Nat.le_refl _) (by simp; omega)).and (ownFrom_marks _ Ds (fun D hD => by have := hM.lt D hD; simp; omega)))))
    (fun _ _ _ _ _ h _ _ => h) ⟨(hG.alloc _).alloc _, hbox.alloc _, hB', (hM.alloc _).alloc _⟩
    (fun x a' _ => ∃ t : Array Value, a' = { tmps := t, defers := [] } ∧ t.size = 97 ∧ t.getD 8 undef = .pointer (some ⟨X, 0, none⟩) ∧ t.getD 10 undef = .pointer (some ⟨W.heap.size, 0, none⟩) ∧ t.getD 11 undef = .int .i64 (x.1 : Nat)) (fun _ _ => ownFrom_pure _ _) ?assign1 ?body1 ?done1 ?stop1
   case stop1 => exact fun _ _ _ _ _ _ h _ => h.elim
   case assign1 =>
    intro l pre x W' K hi' hK
    gi_wp2
    exact hK _ _ (KeepsFrom.refl _ _) (Below.refl _ _) hi' ⟨_, rfl, rfl, rfl, rfl, rfl⟩
   case body1 =>
    rintro l pre x a' W' _ _ ⟨hG1, hbx, hB1', hM1⟩ ⟨t, rfl, ht, t8, t10, t11⟩ hlen'
    obtain ⟨u', rfl⟩ : ∃ u : Nat → Value, t = #[u 0, u 1, u 2, u 3, u 4, u 5, u 6, u 7, u 8, u 9, u 10, u 11, u 12, u 13, u 14, u 15, u 16, u 17, u 18, u 19, u 20, u 21, u 22, u 23, u 24, u 25, u 26, u 27, u 28, u 29, u 30, u 31, u 32, u 33, u 34, u 35, u 36, u 37, u 38, u 39, u 40, u 41, u 42, u 43, u 44, u 45, u 46, u 47, u 48, u 49, u 50, u 51, u 52, u 53, u 54, u 55, u 56, u 57, u 58, u 59, u 60, u 61, u 62, u 63, u 64, u 65, u 66, u 67, u 68, u 69, u 70, u 71, u 72, u 73, u 74, u 75, u 76, u 77, u 78, u 79, u 80, u 81, u 82, u 83, u 84, u 85, u 86, u 87, u 88, u 89, u 90, u 91, u 92, u 93, u 94, u 95, u 96] := ⟨fun i => t.getD i undef, (arr_of_size t 97 ht).trans rfl⟩
    replace t8 : u' 8 = _ := t8
    replace t10 : u' 10 = _ := t10
    replace t11 : u' 11 = _ := t11
    clear ht
    have hxn : x.1 < g.length := elems_below hs2 x.2
    have hx16 : x.1 < 16 := by omega
    obtain ⟨bl, hbl, hbl2, hrow⟩ := hG1.hB
    have cX := blk_cell hG1.hX 0
    have cC := blk_cell hG1.hC 3
    have cI := hbx.cell
    have cB1 := hrow.cell i (by omega)
    have cB2 := hrow.cell x.1 (by omega)
    have fB1 := hrow.frozen i
    have b1 := hbl2 i
    have b2 := hbl2 x.1
    simp at cX cC
    clear hbl2
    generalize bl.getD i 0 = y at cB1 b1
    generalize bl.getD x.1 0 = z at cB2 b2
    have hpn := pow_le_u16 (show g.length ≤ 16 by omega)
    have hz : z < 65536 := by omega
    have hy : y < 65536 := by omega
    have hzx := or_lt z (2 ^ x.1) hz (pow_u16 x.1 hx16).2
    have hor := bits_or_u16 y (z ||| 2 ^ x.1) hy hzx
    gi_wp2
    refine wpIn_region_still_tail 18 mixed (by kernel_rfl) (by kernel_rfl) (fun ⟨_, _, h⟩ => h) ?_
    simp only [List.take_succ_cons, List.take_zero, List.drop_succ_cons, List.drop_zero]
    repeat still_step
    still_call (with_calls z x.1 hz hx16 _)
    repeat still_step
    refine wpStill_nil ?_
    go_wp2
    refine ⟨((KeepsOthers.setCell _ _ _).trans (KeepsOthers.drew _)).from _, ((Below.refl _ _).setCell (p := ⟨bB, i, none⟩) hbB _).drew, (hG1.setB (by omega) i _ (or_lt_pow b1 (or_lt_pow b2 (Nat.pow_lt_pow_right (by omega) hxn))) (by decide) (by decide)).drew, blk_far hbx (hnb _ _ hbx hrow) _, (hB1'.setCell (p := ⟨bB, i, none⟩) hbB _).drew, Marks.set hM1 _ _ ⟨_, _, _, hrow⟩⟩
   case done1 =>
    rintro D ys W3 hD hys ⟨hG3, hbx3, hB3, hM3⟩ hK3
    clear hys
    have hM4 := hM3.cons hK3 (fun E hE => by have := hM.lt E hE; simp at hD; omega)
    have hD2 : w2.heap.size ≤ D := by simp at hD; omega
    obtain ⟨bl, hbl, hbl2, hrow⟩ := hG3.hB
    have cX := blk_cell hG3.hX 0
    have cC := blk_cell hG3.hC 3
    have cI := hbx3.cell
    have cB1 := hrow.cell i (by omega)
    have b1 := hbl2 i
    simp at cX cC
    clear hbl2
    generalize bl.getD i 0 = y at cB1 b1
    have hpn := pow_le_u16 (show g.length ≤ 16 by omega)
    have hy : y < 65536 := by omega
    go_wp2
    go_still_tail 7, mixed
    go_wp2_with (go_at_call 47; refine (all_calls _ _).mono ?_; rintro e w' ⟨rfl, rfl⟩)
    have hsz3 := hB3.size
    have hWlt := hbx3.lt
    have hDlt : D < W3.heap.size := (Array.getElem?_eq_some_iff.1 hK3).1
    have hset3 := Boxed.new W3.drew 46 (.int .u16 y)
    have hB3' := below_alloc hB3.drew (.cells #[.int .u16 y] 46)
    have hsd : W3.drew.heap.size = W3.heap.size := rfl
    refine wp_rangeSet y W3.heap.size w2.heap.size hy rfl (by simp) hset3.cell (HT2.out.keep hTab hB3') (by simp; omega) hTab
     (fun _ W' => GHeap g.length (.slice A g.length c) (.slice (some ad1) ns.length c1) (.slice (some ad2) (ordN ns ns.length).1.length c2) bB bA C X W' ∧ Boxed W' W.heap.size 3 (.int .i64 (i : Int)) ∧ Below w2.heap.size w2 W' ∧ Marks (D :: Ds) W') (fun _ _ _ => False)
     ((GHeap.own _ _ _ _ _ _ _ _ _).and ((Own.from (boxed_own _ _ (fun _ => _)) _).and ((ownFrom_below (Nat.le_refl _) (by simp; omega)).and (ownFrom_marks _ (D :: Ds) (fun E hE => by have := hM4.lt E hE; simp; omega)))))
     (fun _ _ _ _ _ h _ _ => h) ⟨hG3.drew.alloc _, Boxed.alloc (W := W3.drew) hbx3 _, hB3', Marks.alloc (w := W3.drew) hM4 _⟩
     (fun x a' _ => ∃ t : Array Value, a' = { tmps := t, defers := [] } ∧ t.size = 97 ∧ t.getD 8 undef = .pointer (some ⟨X, 0, none⟩) ∧ t.getD 10 undef = .pointer (some ⟨W.heap.size, 0, none⟩) ∧ t.getD 12 undef = .int .i64 (x.1 : Nat)) (fun _ _ => ownFrom_pure _ _) ?assign2 ?body2 ?done2 ?stop2
    case stop2 => exact fun _ _ _ _ _ _ h _ => h.elim
    case assign2 =>
     intro l pre x W' K hi' hK
     gi_wp2
     exact hK _ _ (KeepsFrom.refl _ _) (Below.refl _ _) hi' ⟨_, rfl, rfl, rfl, rfl, rfl⟩
    case body2 =>
     clear cX cC cI cB1 hrow hbl
     rintro l pre x a' W' _ _ ⟨hG1, hbx, hB1', hM1⟩ ⟨t, rfl, ht, t8, t10, t12⟩ hlen'
     obtain ⟨u', rfl⟩ : ∃ u : Nat → Value, t = #[u 0, u 1, u 2, u 3, u 4, u 5, u 6, u 7, u 8, u 9, u 10, u 11, u 12, u 13, u 14, u 15, u 16, u 17, u 18, u 19, u 20, u 21, u 22, u 23, u 24, u 25, u 26, u 27, u 28, u 29, u 30, u 31, u 32, u 33, u 34, u 35, u 36, u 37, u 38, u 39, u 40, u 41, u 42, u 43, u 44, u 45, u 46, u 47, u 48, u 49, u 50, u 51, u 52, u 53, u 54, u 55, u 56, u 57, u 58, u 59, u 60, u 61, u 62, u 63, u 64, u 65, u 66, u 67, u 68, u 69, u 70, u 71, u 72, u 73, u 74, u 75, u 76, u 77, u 78, u 79, u 80, u 81, u 82, u 83, u 84, u 85, u 86, u 87, u 88, u 89, u 90, u 91, u 92, u 93, u 94, u 95, u 96] := ⟨fun i => t.getD i undef, (arr_of_size t 97 ht).trans rfl⟩
     replace t8 : u' 8 = _ := t8
     replace t10 : u' 10 = _ := t10
     replace t12 : u' 12 = _ := t12
     clear ht
     have hxn : x.1 < g.length := elems_below b1 x.2
     have hx16 : x.1 < 16 := by omega
     have hi16 : i < 16 := by omega
     obtain ⟨al, hal, hal2, hrow⟩ := hG1.hA
     have cX := blk_cell hG1.hX 0
     have cC := blk_cell hG1.hC 4
     have cI := hbx.cell
     have cA := hrow.cell x.1 (by omega)
     have fA := hrow.frozen x.1
     have a1 := hal2 x.1
     simp at cX cC
     clear hal2
     generalize al.getD x.1 0 = z at cA a1
     have hzi := or_lt z (2 ^ i) a1 (pow_u16 i hi16).2
     gi_wp2
     refine wpIn_region_still_tail 15 mixed (by kernel_rfl) (by kernel_rfl) (fun ⟨_, _, h⟩ => h) ?_
     simp only [List.take_succ_cons, List.take_zero, List.drop_succ_cons, List.drop_zero]
     repeat still_step
     still_call (with_calls z i a1 hi16 _)
     repeat still_step
     refine wpStill_nil ?_
     go_wp2
     refine ⟨((KeepsOthers.setCell _ _ _).trans (KeepsOthers.drew _)).from _, ((Below.refl _ _).setCell (p := ⟨bA, x.1, none⟩) hbA _).drew, (hG1.setA hne x.1 _ hzi (by decide) (by decide)).drew, blk_far hbx (hnb _ _ hbx hrow) _, (hB1'.setCell (p := ⟨bA, x.1, none⟩) hbA _).drew, Marks.set hM1 _ _ ⟨_, _, _, hrow⟩⟩
    case done2 =>
     rintro D2 ys W5 hE hys ⟨hG5, hbx5, hB5, hM5⟩ hK5
     clear hys
     have hM6 := hM5.cons hK5 (fun E hE' => by have := hM4.lt E hE'; simp at hE; omega)
     have hE2 : w2.heap.size ≤ D2 := by simp at hE; omega
     go_wp2
     refine ⟨⟨_, D2 :: D :: Ds, k + 1, rfl, rfl, rfl, rfl, rfl, rfl, rfl, by omega, hM6, fun E hE' => ?_, hG5, hB5⟩, ?_⟩
     ·
      rcases List.mem_cons.1 hE' with rfl | hE'
      ·
       exact hE2
      ·
       rcases List.mem_cons.1 hE' with rfl | hE'
       ·
        exact hD2
       ·
        exact hDs E hE'
     ·
      show _ - (intOf (Value.int IntKind.i64 ((k : Int) + 1))).toNat < _ - (intOf (u 43)).toNat
      rw [h43]
      simp [intOf]
      omega
  ·
   have cX := blk_cell hG.hX 0
   simp at cX
   go_wp2
   refine leave_marks (B := w2.heap.size) (v := .tuple #[.pointer (some ⟨C, 0, none⟩), .bool true]) Ds W hM hDs (fun w' hs => ?_)
   have k2 : Below w2.heap.size w2 w' := hB.trans hs.below
   have k1 : Below w1.heap.size w1 w' := hB2.trans (k2.mono hB2.size)
   have k0 : Below w.heap.size w w' := hB1.trans (k1.mono hB1.size)
   have hCx := hs.cells C _ hG.hC rfl
   have z1 := hB1.size
   have z2 := hB2.size
   have z3 := k2.size
   have hCl := blk_lt hCx
   have hbC := HBC.out
   refine ⟨results_tmp2 (t := 2) (u := 3) rfl _ _ _, C, rfl, ⟨A, c, A1, c1, A2, c2, _, _, hCx, Kd.C_below HR.out k0, Kd.C_below HC1.out k1, Kd.C_below HC2.out k2⟩, k0, fun W' hA hk => ⟨A, c, A1, c1, A2, c2, _, _, (hk C (by omega) (by omega)).trans hCx, hA, C_block (Kd.C_below HC1.out k1) fun ad e hn => ?_, C_block (Kd.C_below HC2.out k2) fun ad e hn => ?_⟩, by omega⟩
   ·
    obtain ⟨q1, q2⟩ := R_blk HR1.out (by rw [ints_length]; exact hn) ad e
    exact hk _ (by omega) (by omega)
   ·
    obtain ⟨q1, q2⟩ := R_blk HR2.out (by rw [ints_length]; exact hn) ad e
    exact hk _ (by omega) (by omega)
theorem graphOf_yes (A : Option Addr) (c : Nat) (g : List Tk) (ns : List Nat) (w : World) (hr : kTk.C w A g.length g) (hT : Tab w) (hg : graphN g = some ns) :
  Calls Tryz.prog 44 #[.slice A g.length c] w fun e w' => ∃ C, e = .returned (.tuple #[.pointer (some ⟨C, 0, none⟩), .bool true]) ∧ IsGraph w' C g ns ∧ Below w.heap.size w w' :=
 (graphOf_yes2 A c g ns w hr hT hg).mono fun e w' ⟨C, h1, h2, h3, _⟩ => ⟨C, h1, h2, h3⟩
set_option maxRecDepth 100000 in
set_option maxHeartbeats 4000000 in
theorem graphOf_no (A : Option Addr) (c : Nat) (g : List Tk) (w : World) (hr : kTk.C w A g.length g) (hg : graphN g = none) :
  Calls Tryz.prog 44 #[.slice A g.length c] w fun e w' => e = .returned (.tuple #[.pointer none, .bool false]) ∧ Below w.heap.size w w' := by
 have HR := Lib.hid hr
 clear hr
 cases hn : needsN g with
 | none =>
  have HN := Lib.hid hn
  clear hn hg
  refine calls_of_wp_marks Tryz.func44 rfl ?_
  simp only [Tryz.ntmps44, List.size_toArray, List.length_cons, List.length_nil, Nat.reduceAdd, Nat.reduceSub, Array.replicate_succ, Array.replicate_zero, List.push_toArray, List.append_toArray, List.nil_append, List.cons_append]
  go_wp2_with (go_at_call 72; refine (needsOf_calls _ _ _ _ HR.out).mono ?_; rintro e w1 ⟨v1, rfl, hR1, hB1⟩; rw [HN.out]; clear hR1)
  exact leave_marks (B := w.heap.size) (v := .tuple #[.pointer none, .bool false]) [] _ (Marks.nil _) (fun D h => by cases h) (fun w' hs => ⟨results_tmp2 (t := 2) (u := 3) rfl _ _ _, rfl, hB1.trans hs.below⟩)
 | some ns =>
  have hd : (ordN ns ns.length).2 ≠ 2 ^ g.length - 1 := by
   intro h
   unfold graphN at hg
   rw [hn] at hg
   simp [h] at hg
  have hd2 : ((((ordN ns ns.length).2 : Nat) : Int) != ((2 ^ g.length - 1 : Nat) : Int)) = true := by
   rw [bne_iff_ne]
   omega
  have HN := Lib.hid hn
  have HL := Lib.hid (needsN_length hn)
  have hlen := (needsN_some hn).1
  clear hn hd hg
  refine calls_of_wp_marks Tryz.func44 rfl ?_
  simp only [Tryz.ntmps44, List.size_toArray, List.length_cons, List.length_nil, Nat.reduceAdd, Nat.reduceSub, Array.replicate_succ, Array.replicate_zero, List.push_toArray, List.append_toArray, List.nil_append, List.cons_append]
  generalize hdd : (ordN ns ns.length).2 = dd at hd2
  generalize hee : 2 ^ g.length - 1 = ee at hd2
  have HDD := Lib.hid hdd
  have HEE := Lib.hid hee
  clear hdd hee
  go_wp2_with (first | (go_at_call 72; refine (needsOf_calls _ _ _ _ HR.out).mono ?_; rintro e w1 ⟨v1, rfl, hR1, hB1⟩; rw [HN.out]; have HR1 := Lib.hid (hR1 _ HN.out); clear hR1; obtain ⟨A1, c1, rfl, hl1, hC1⟩ := Kd.R_reads HR1.out; rw [ints_length] at hl1; rw [ints_length] at HR1; rw [ints_length] at hC1; rw [ints_length]; have HC1 := Lib.hid hC1; clear hC1) | (go_at_call 73; refine (order_calls _ _ ns (by rw [HL.out]; omega) (needsN_lt HN.out) _ HC1.out).mono ?_; rintro e w2 ⟨v2, rfl, hR2, hB2⟩; rw [HDD.out]; clear hR2) | (go_at_call 24; refine (everything_calls g.length (by omega) _).mono ?_; rintro e w' ⟨rfl, rfl⟩; rw [HEE.out]))
  exact leave_marks (B := w.heap.size) (v := .tuple #[.pointer none, .bool false]) [] _ (Marks.nil _) (fun D h => by cases h) (fun w' hs => ⟨results_tmp2 (t := 2) (u := 3) rfl _ _ _, rfl, (hB1.trans (hB2.mono hB1.size)).trans hs.below⟩)
end Go.Proofs.YtkljcdghbefceaaGreatDoor

namespace Go.Proofs.YtkljcdghbefceaaGreatDoor
set_option linter.unusedVariables false
set_option linter.unusedSimpArgs false
open Go.RowKit Go.Shelf Bits
open Go.Proofs.YtkljcdghbefceaaGreatDoorW.PrintWords Go.Proofs.YtkljcdghbefceaaGreatDoorW.PrintLast Go.Proofs.YtkljcdghbefceaaGreatDoorW.PrintMore
attribute [local go_sem] Oper.semAt_some
structure Ct where
 t : Int
 u : Nat → Int
def Ct.zero : Ct := ⟨0, fun _ => 0⟩
def Ct.add (c : Ct) (p : Nat) (x s : Int) : Ct := ⟨c.t + s, fun j => if j = p then c.u j + s * x else c.u j⟩
def CAt (W : World) (b : Nat) (c : Ct) : Prop := W.heap[b]? = some (.cells #[.int .i64 c.t, .int .i64 (c.u 0), .int .i64 (c.u 1), .int .i64 (c.u 2)] 70 (0, 0))
theorem CAt.lt {W : World} {b : Nat} {c : Ct} (h : CAt W b c) : b < W.heap.size := blk_lt h
theorem CAt.below {W W' : World} {b : Nat} {c : Ct} (h : CAt W b c) (hb : Below W.heap.size W W') : CAt W' b c := (hb.block b h.lt).trans h
theorem CAt.cell {W : World} {b : Nat} {c : Ct} (h : CAt W b c) (p : Nat) (hp : p < 3) : W.cell? ⟨b, 1 + p, none⟩ = some (.int .i64 (c.u p)) := by
 rw [blk_cell h]
 rcases p with _ | _ | _ | p
 ·
  simp
 ·
  simp
 ·
  simp
 ·
  omega
theorem CAt.setT {W : World} {b : Nat} {c : Ct} (h : CAt W b c) (v : Int) : CAt (W.setCell ⟨b, 0, none⟩ (.int .i64 v)) b ⟨v, c.u⟩ := by
 have h1 := blk_set h 0 (.int .i64 v)
 unfold CAt
 rw [h1]
 simp
theorem CAt.setU {W : World} {b : Nat} {c : Ct} (h : CAt W b c) (p : Nat) (hp : p < 3) (v : Int) : CAt (W.setCell ⟨b, 1 + p, none⟩ (.int .i64 v)) b ⟨c.t, fun j => if j = p then v else c.u j⟩ := by
 have h2 := blk_set h (1 + p) (.int .i64 v)
 unfold CAt
 rw [h2]
 rcases p with _ | _ | _ | p
 ·
  simp
 ·
  simp
 ·
  simp
 ·
  omega
def Ct.small (c : Ct) (n : Int) : Prop := (-n ≤ c.t ∧ c.t ≤ n) ∧ ∀ j, -(1000 * n) ≤ c.u j ∧ c.u j ≤ 1000 * n
set_option maxRecDepth 100000 in
set_option maxHeartbeats 4000000 in
theorem add_calls (b : Nat) (c : Ct) (f0 : Int) (fv : Value) (p : Nat) (x s : Int) (hp : p < 3) (hx : 0 ≤ x ∧ x ≤ 1000) (hs : s = 1 ∨ s = -1) (hc : c.small 1000) (w : World) (hC : CAt w b c) :
  Calls Tryz.prog 41 #[.pointer (some ⟨b, 0, none⟩), .agg #[.int .i64 f0, fv, .int .i64 p, .int .i64 x], .int .i64 s] w fun e w' => e = .returned (.tuple #[]) ∧ CAt w' b (c.add p x s) ∧ KeepBut w w' b none ∧ Below b w w' := by
 have hlt := hC.lt
 obtain ⟨⟨t1, t2⟩, hu⟩ := hc
 have hup := hu p
 have c0 := blk_cell hC 0
 simp at c0
 have f0' := blk_frozen hC 0
 have hne : b ≠ w.heap.size := by omega
 have hct : IntKind.i64.wrap (c.t + s) = c.t + s := IntWalk.i64_in _ (by rcases hs with rfl | rfl <;> omega)
 have hsb : -1 ≤ s ∧ s ≤ 1 := by rcases hs with rfl | rfl <;> omega
 have hsx : IntKind.i64.wrap (s * x) = s * x := IntWalk.i64_in _ (by rcases hs with rfl | rfl <;> omega)
 have hsu : IntKind.i64.wrap (c.u p + s * x) = c.u p + s * x := IntWalk.i64_in _ (by rcases hs with rfl | rfl <;> omega)
 have HSX := Lib.hid (And.intro hsx hsu)
 have HC := Lib.hid hC
 clear hC hu hs hup hct hsx hsu
 generalize hctq : c.t = ct at c0 t1 t2
 have HCT := Lib.hid hctq
 clear hctq
 go_enter Tryz.func41, Tryz.ntmps41
 go_upto_region 2 with (fail)
 obtain ⟨W1, hW1⟩ : ∃ W1, W1 = (w.setCell ⟨b, 0, none⟩ (.int .i64 (ct + s))).alloc (.cells #[.int .i64 f0, fv, .int .i64 p, .int .i64 x] 63) := ⟨_, rfl⟩
 have hsz : (w.setCell ⟨b, 0, none⟩ (.int .i64 (ct + s))).heap.size = w.heap.size := by simp [World.setCell]
 have hBa : Below (w.setCell ⟨b, 0, none⟩ (.int .i64 (ct + s))).heap.size (w.setCell ⟨b, 0, none⟩ (.int .i64 (ct + s))) W1 := by rw [hW1]; exact (Below.refl _ _).alloc (Nat.le_refl _) _
 have bb : W1.heap[w.heap.size]? = some (.cells #[.int .i64 f0, fv, .int .i64 p, .int .i64 x] 63 (0, 0)) := by rw [hW1, ← hsz]; exact World.alloc_heap_new _ _
 have b2 : W1.cell? ⟨w.heap.size, 2, none⟩ = some (.int .i64 p) := (blk_cell bb 2).trans (by simp)
 have b3 : W1.cell? ⟨w.heap.size, 3, none⟩ = some (.int .i64 x) := (blk_cell bb 3).trans (by simp)
 clear bb
 have HC1 := Lib.hid ((HC.out.setT (ct + s)).below hBa)
 have HB1 : Hid (Below b w W1) := Lib.hid (((Below.refl b w).setCell (p := ⟨b, 0, none⟩) (Nat.le_refl _) _).trans (hBa.mono (by rw [hsz]; omega)))
 have HK1 : Hid (KeepBut w W1 b none) := Lib.hid (((KeepBut.refl w b none).set_ 0 _).trans (KeepBut.of_below hBa b none) (.inl rfl))
 rw [← hW1]
 clear hW1 hBa hsz
 have cp := HC1.out.cell p hp
 have fp := blk_frozen HC1.out (1 + p)
 have hpi : (p : Int) < 3 := by omega
 have hsx := HSX.out.1
 have hsu := HSX.out.2
 change W1.cell? ⟨b, 1 + p, none⟩ = some (.int .i64 (c.u p)) at cp
 generalize hq : c.u p = cu at cp hsu
 have HQ := Lib.hid hq
 clear hq c0 f0'
 go_still_tail 15, mixed
 go_wp2
 refine bodyPost_end (results_none rfl _ _ _) rfl ?_
 have hend : CAt (W1.setCell ⟨b, 1 + p, none⟩ (.int .i64 (cu + s * x))) b (c.add p x s) := by
  have h := HC1.out.setU p hp (cu + s * x)
  unfold Ct.add
  rw [HCT.out, ← HQ.out] 
  rw [← HQ.out] at h
  have e : (fun j => if j = p then c.u j + s * x else c.u j) = fun j => if j = p then c.u p + s * x else c.u j := by
   funext j
   by_cases hj : j = p
   ·
    rw [if_pos hj, if_pos hj, hj]
   ·
    rw [if_neg hj, if_neg hj]
  rw [e]
  exact h
 have hBb : Below b W1 (W1.setCell ⟨b, 1 + p, none⟩ (.int .i64 (cu + s * x))) := (Below.refl b W1).setCell (p := ⟨b, 1 + p, none⟩) (Nat.le_refl _) _
 exact ⟨rfl, hend.below (Below.refl _ _).drew, (KeepBut.set_ HK1.out (1 + p) _).trans (KeepBut.of_below (Below.refl _ _).drew b none) (.inl rfl), (HB1.out.trans hBb).drew⟩
def Ct.can (c : Ct) (p : Nat) (x : Int) (rm : List Int) (wk : Int) : Bool := decide (c.t < wk) && decide (c.u p + x ≤ rm.getD p 0)
set_option maxRecDepth 100000 in
set_option maxHeartbeats 4000000 in
theorem takes_calls (b : Nat) (c : Ct) (f0 : Int) (fv : Value) (p : Nat) (x : Int) (A : Option Addr) (k : Nat) (rm : List Int) (wk : Int) (hp : p < 3) (hx : 0 ≤ x ∧ x ≤ 1000) (hc : c.small 1000) (hrm : rm.length = 3) (w : World) (hC : CAt w b c) (hr : (Kd.int .i64).C w A rm.length rm) :
  Calls Tryz.prog 43 #[.pointer (some ⟨b, 0, none⟩), .agg #[.int .i64 f0, fv, .int .i64 p, .int .i64 x], .slice A rm.length k, .int .i64 wk] w fun e w' => e = .returned (.bool (c.can p x rm wk)) ∧ CAt w' b (if c.can p x rm wk then c.add p x 1 else c) ∧ KeepBut w w' b none ∧ Below b w w' := by
 have hlt := hC.lt
 have hup := hc.2 p
 have HS := Lib.hid hc
 have HR := Lib.hid hr
 clear hc hr
 have hne : b ≠ w.heap.size := by omega
 obtain ⟨W1, hW1⟩ : ∃ W1, W1 = w.alloc (.cells #[.int .i64 f0, fv, .int .i64 p, .int .i64 x] 63) := ⟨_, rfl⟩
 have hBa : Below w.heap.size w W1 := by rw [hW1]; exact (Below.refl _ _).alloc (Nat.le_refl _) _
 have bb : W1.heap[w.heap.size]? = some (.cells #[.int .i64 f0, fv, .int .i64 p, .int .i64 x] 63 (0, 0)) := by rw [hW1]; exact World.alloc_heap_new _ _
 have b0 : W1.cell? ⟨w.heap.size, 0, none⟩ = some (.int .i64 f0) := (blk_cell bb 0).trans (by simp)
 have b1 : W1.cell? ⟨w.heap.size, 1, none⟩ = some fv := (blk_cell bb 1).trans (by simp)
 have b2 : W1.cell? ⟨w.heap.size, 2, none⟩ = some (.int .i64 p) := (blk_cell bb 2).trans (by simp)
 have b3 : W1.cell? ⟨w.heap.size, 3, none⟩ = some (.int .i64 x) := (blk_cell bb 3).trans (by simp)
 have HC1 := Lib.hid (hC.below hBa)
 have HBa := Lib.hid hBa
 have HC0 := Lib.hid hC
 have c0 := blk_cell (hC.below hBa) 0
 simp at c0
 have cp := (hC.below hBa).cell p hp
 obtain ⟨ad, rfl, cr⟩ := at_num (Kd.C_below HR.out hBa) p (by omega)
 clear bb hBa hC
 have hpi : (p : Int) < 3 := by omega
 have hpr : (p : Int) < (rm.length : Int) := by omega
 have hsu : IntKind.i64.wrap (c.u p + x) = c.u p + x := IntWalk.i64_in _ (by omega)
 have HCAN : Hid (c.can p x rm wk = (decide (c.t < wk) && decide (c.u p + x ≤ rm.getD p 0))) := Lib.hid rfl
 have HADD := fun W hC => add_calls b c f0 fv p x 1 hp hx (.inl rfl) HS.out W hC
 generalize c.can p x rm wk = cb at HCAN ⊢
 generalize hce : (if cb then c.add p x 1 else c) = c' 
 have HCE := Lib.hid hce
 clear hce
 generalize c.u p = cu at cp hsu hup HCAN
 generalize c.t = ct at c0 HCAN
 generalize rm.getD p 0 = rp at cr HCAN
 go_enter Tryz.func43, Tryz.ntmps43
 go_upto_region 1 with (fail)
 rw [← hW1]
 clear hW1
 by_cases h1 : ct < wk
 ·
  have g1 : decide (ct ≥ wk) = false := decide_eq_false (by omega)
  have g1' : decide (wk ≤ ct) = false := decide_eq_false (by omega)
  have e1 : decide (ct < wk) = true := decide_eq_true h1
  by_cases h2 : cu + x ≤ rp
  ·
   have g2 : decide (cu + x > rp) = false := decide_eq_false (by omega)
   have g2' : decide (rp < cu + x) = false := decide_eq_false (by omega)
   have e2 : decide (cu + x ≤ rp) = true := decide_eq_true h2
   rw [e1, e2] at HCAN
   clear h1 h2 e1 e2
   go_wp2
   go_quiet (fail)
   have hBq : Below w.heap.size w (W1.drewN nq) := pw_below_drewN HBa.out nq
   have hCq := HC0.out.below hBq
   go_wp2_with (go_at_call 41; refine (HADD _ hCq).mono ?_; rintro e w2 ⟨rfl, hC2, hK2, hB2⟩)
   go_ret
   have hc' : c' = c.add p x 1 := by rw [← HCE.out, HCAN.out]; rfl
   refine ⟨ret_bool HCAN.out.symm, ?_, (KeepBut.of_below hBq b none).trans hK2 (.inl rfl), (hBq.mono (by omega)).trans hB2⟩
   rw [hc']
   exact hC2
  ·
   have g2 : decide (cu + x > rp) = true := decide_eq_true (by omega)
   have g2' : decide (rp < cu + x) = true := decide_eq_true (by omega)
   have e2 : decide (cu + x ≤ rp) = false := decide_eq_false h2
   rw [e1, e2] at HCAN
   clear h1 h2 e1 e2
   go_wp2
   go_quiet (fail)
   go_wp2
   go_ret
   have hc' : c' = c := by rw [← HCE.out, HCAN.out]; rfl
   refine ⟨ret_bool HCAN.out.symm, ?_, (KeepBut.of_below HBa.out b none |> fun h => h.trans (KeepBut.of_below (pw_below_drewN (Below.refl _ _) nq) b none) (.inl rfl)), (pw_below_drewN HBa.out nq).mono (by omega)⟩
   rw [hc']
   exact HC1.out.below (pw_below_drewN (Below.refl _ _) nq)
 ·
  have g1 : decide (ct ≥ wk) = true := decide_eq_true (by omega)
  have g1' : decide (wk ≤ ct) = true := decide_eq_true (by omega)
  have e1 : decide (ct < wk) = false := decide_eq_false h1
  rw [e1, Bool.false_and] at HCAN
  clear h1 e1
  go_wp2
  go_quiet (fail)
  go_wp2
  go_ret
  have hc' : c' = c := by rw [← HCE.out, HCAN.out]; rfl
  refine ⟨ret_bool HCAN.out.symm, ?_, (KeepBut.of_below HBa.out b none |> fun h => h.trans (KeepBut.of_below (pw_below_drewN (Below.refl _ _) nq) b none) (.inl rfl)), (pw_below_drewN HBa.out nq).mono (by omega)⟩
  rw [hc']
  exact HC1.out.below (pw_below_drewN (Below.refl _ _) nq)
end Go.Proofs.YtkljcdghbefceaaGreatDoor

namespace Go.Proofs.YtkljcdghbefceaaGreatDoor
set_option linter.unusedVariables false
set_option linter.unusedSimpArgs false
open Go.RowKit Go.Shelf Bits
open Go.Proofs.YtkljcdghbefceaaGreatDoorW.PrintWords Go.Proofs.YtkljcdghbefceaaGreatDoorW.PrintLast Go.Proofs.YtkljcdghbefceaaGreatDoorW.PrintMore
theorem inRange_calls (n lo hi : Int) (w : World) : Calls Tryz.prog 35 #[.int .i64 n, .int .i64 lo, .int .i64 hi] w fun e w' => e = .returned (.bool (inB n lo hi)) ∧ w' = w := by
 by_cases h1 : lo ≤ n
 ·
  have d1 : decide (lo ≤ n) = true := by simpa using h1
  go_enter Tryz.func35, Tryz.ntmps35
  go_wp2
  go_ret
  exact ⟨ret_bool (by rw [inB, decide_eq_true h1, Bool.true_and]), rfl⟩
 ·
  have d1 : decide (lo ≤ n) = false := by simpa using h1
  go_enter Tryz.func35, Tryz.ntmps35
  go_wp2
  go_ret
  exact ⟨ret_bool (by rw [inB, decide_eq_false (by omega : ¬ lo ≤ n), Bool.false_and]), rfl⟩
theorem inRange_is (b : Bool) (n lo hi : Int) (h : Hid (inB n lo hi = b)) (w : World) : Calls Tryz.prog 35 #[.int .i64 n, .int .i64 lo, .int .i64 hi] w fun e w' => e = .returned (.bool b) ∧ w' = w :=
 (inRange_calls n lo hi w).mono fun e w' ⟨he, hw⟩ => ⟨by rw [he, h.out], hw⟩
def ascB (l : List Int) : Bool := (List.range (l.length - 1)).all fun j => decide (l.getD j 0 < l.getD (j + 1) 0)
def allInB (l : List Int) (lo hi : Int) : Bool := l.all fun x => inB x lo hi
def allDoneB (needs done : List Int) : Bool := needs.all fun x => decide (x ∈ done)
theorem all_take {α : Type} {p : α → Bool} {l : List α} (z : α) (h : ∀ j, j < l.length → p (l.getD j z) = true) : l.all p = true := by
 rw [List.all_eq_true]
 intro x hx
 obtain ⟨j, hj, rfl⟩ := List.getElem_of_mem hx
 have := h j hj
 rwa [List.getD_eq_getElem?_getD, List.getElem?_eq_getElem hj] at this
theorem all_not {α : Type} {p : α → Bool} {l : List α} (z : α) {j : Nat} (hj : j < l.length) (h : p (l.getD j z) = false) : l.all p = false := by
 rw [List.all_eq_false]
 refine ⟨l.getD j z, ?_, by rw [h]; simp⟩
 rw [List.getD_eq_getElem?_getD, List.getElem?_eq_getElem hj]
 exact List.getElem_mem _
theorem not_mem_of {l : List Int} {n : Int} (h : ∀ j, j < l.length → l.getD j 0 ≠ n) : ¬ n ∈ l := by
 intro hx
 obtain ⟨j, hj, rfl⟩ := List.getElem_of_mem hx
 exact h j hj (by rw [List.getD_eq_getElem?_getD, List.getElem?_eq_getElem hj]; rfl)
theorem mem_getD {l : List Int} {j : Nat} (hj : j < l.length) : l.getD j 0 ∈ l := by
 rw [List.getD_eq_getElem?_getD, List.getElem?_eq_getElem hj]
 exact List.getElem_mem _
theorem step_lt {k : Nat} {P : Nat → Prop} (h : Hid (∀ j, j < k → P j)) (hk : P k) : Hid (∀ j, j < k + 1 → P j) := Lib.hid fun j hj => by
 rcases Nat.lt_succ_iff_lt_or_eq.1 hj with h1 | h1
 ·
  exact h.out j h1
 ·
  rw [h1]; exact hk
set_option maxHeartbeats 1000000 in
theorem allIn_calls (A : Option Addr) (c : Nat) (l : List Int) (lo hi : Int) (w : World) (hr : (Kd.int .i64).C w A l.length l) :
  Calls Tryz.prog 63 #[.slice A l.length c, .int .i64 lo, .int .i64 hi] w fun e w' => e = .returned (.bool (allInB l lo hi)) ∧ w' = w := by
 have hl := (C_len hr).2
 have HR := Lib.hid hr
 clear hr
 go_enter Tryz.func63, Tryz.ntmps63
 go_wp2
 go_loop [7] (fun i => ∃ (k : Nat), k ≤ l.length ∧ i = .int .i64 k ∧ Hid (∀ j, j < k → inB (l.getD j 0) lo hi = true)) (fun i => l.length - (intOf i).toNat)
 case atStart => exact ⟨0, Nat.zero_le _, rfl, Lib.hid fun j h => absurd h (Nat.not_lt_zero _)⟩
 case round =>
  obtain ⟨k, hk, rfl, HS⟩ := hrel
  by_cases hlt : k < l.length
  ·
   obtain ⟨ad, rfl, hc⟩ := at_num HR.out k hlt
   cases hb : inB (l.getD k 0) lo hi
   ·
    have HB := Lib.hid hb
    have HF := Lib.hid (all_not (p := fun x => inB x lo hi) 0 hlt hb)
    clear hb
    generalize l.getD k 0 = x at hc HB
    go_wp2_with (go_at_call 35; refine (inRange_is _ _ _ _ HB _).mono ?_; rintro e w' ⟨rfl, rfl⟩)
    go_ret
    exact ⟨ret_bool HF.out.symm, rfl⟩
   ·
    have HB := Lib.hid hb
    have HN := step_lt HS hb
    clear hb
    generalize l.getD k 0 = x at hc HB
    go_wp2_with (go_at_call 35; refine (inRange_is _ _ _ _ HB _).mono ?_; rintro e w' ⟨rfl, rfl⟩)
    go_round
    case rel => exact ⟨k + 1, by omega, by go_num, HN⟩
    case measure => simp [intOf]; omega
  ·
   have HF := Lib.hid (all_take (p := fun x => inB x lo hi) (l := l) 0 fun j hj => HS.out j (by omega))
   go_wp2
   go_ret
   exact ⟨ret_bool HF.out.symm, rfl⟩
set_option maxHeartbeats 1000000 in
theorem isIn_calls (A : Option Addr) (c : Nat) (l : List Int) (n : Int) (w : World) (hr : (Kd.int .i64).C w A l.length l) :
  Calls Tryz.prog 66 #[.slice A l.length c, .int .i64 n] w fun e w' => e = .returned (.bool (decide (n ∈ l))) ∧ w' = w := by
 have hl := (C_len hr).2
 have HR := Lib.hid hr
 clear hr
 go_enter Tryz.func66, Tryz.ntmps66
 go_wp2
 go_loop [5] (fun i => ∃ (k : Nat), k ≤ l.length ∧ i = .int .i64 k ∧ Hid (∀ j, j < k → l.getD j 0 ≠ n)) (fun i => l.length - (intOf i).toNat)
 case atStart => exact ⟨0, Nat.zero_le _, rfl, Lib.hid fun j h => absurd h (Nat.not_lt_zero _)⟩
 case round =>
  obtain ⟨k, hk, rfl, HS⟩ := hrel
  by_cases hlt : k < l.length
  ·
   obtain ⟨ad, rfl, hc⟩ := at_num HR.out k hlt
   by_cases hb : l.getD k 0 = n
   ·
    have HF : Hid (decide (n ∈ l) = true) := Lib.hid (decide_eq_true (by rw [← hb]; exact mem_getD hlt))
    have d1 : (l.getD k 0 == n) = true := beq_iff_eq.2 hb
    clear hb
    generalize l.getD k 0 = x at hc d1
    go_wp2
    go_ret
    exact ⟨ret_bool HF.out.symm, rfl⟩
   ·
    have HN := step_lt HS hb
    have d1 : (l.getD k 0 == n) = false := beq_eq_false_iff_ne.2 hb
    clear hb
    generalize l.getD k 0 = x at hc d1
    go_wp2
    go_round
    case rel => exact ⟨k + 1, by omega, by go_num, HN⟩
    case measure => simp [intOf]; omega
  ·
   have HF : Hid (decide (n ∈ l) = false) := Lib.hid (decide_eq_false (not_mem_of fun j hj => HS.out j (by omega)))
   go_wp2
   go_ret
   exact ⟨ret_bool HF.out.symm, rfl⟩
theorem isIn_is (b : Bool) (A : Option Addr) (c : Nat) (l : List Int) (n : Int) (h : Hid (decide (n ∈ l) = b)) (w : World) (hr : (Kd.int .i64).C w A l.length l) : Calls Tryz.prog 66 #[.slice A l.length c, .int .i64 n] w fun e w' => e = .returned (.bool b) ∧ w' = w :=
 (isIn_calls A c l n w hr).mono fun e w' ⟨he, hw⟩ => ⟨by rw [he, h.out], hw⟩
set_option maxHeartbeats 1000000 in
theorem allDone_calls (A : Option Addr) (c : Nat) (l : List Int) (A' : Option Addr) (c' : Nat) (d : List Int) (w : World) (hr : (Kd.int .i64).C w A l.length l) (hr' : (Kd.int .i64).C w A' d.length d) :
  Calls Tryz.prog 67 #[.slice A l.length c, .slice A' d.length c'] w fun e w' => e = .returned (.bool (allDoneB l d)) ∧ w' = w := by
 have hl := (C_len hr).2
 have HR := Lib.hid hr
 have HR' := Lib.hid hr'
 clear hr hr'
 go_enter Tryz.func67, Tryz.ntmps67
 go_wp2
 go_loop [5] (fun i => ∃ (k : Nat), k ≤ l.length ∧ i = .int .i64 k ∧ Hid (∀ j, j < k → decide (l.getD j 0 ∈ d) = true)) (fun i => l.length - (intOf i).toNat)
 case atStart => exact ⟨0, Nat.zero_le _, rfl, Lib.hid fun j h => absurd h (Nat.not_lt_zero _)⟩
 case round =>
  obtain ⟨k, hk, rfl, HS⟩ := hrel
  by_cases hlt : k < l.length
  ·
   obtain ⟨ad, rfl, hc⟩ := at_num HR.out k hlt
   cases hb : decide (l.getD k 0 ∈ d)
   ·
    have HB := Lib.hid hb
    have HF := Lib.hid (all_not (p := fun x => decide (x ∈ d)) 0 hlt hb)
    clear hb
    generalize l.getD k 0 = x at hc HB
    go_wp2_with (go_at_call 66; refine (isIn_is _ _ _ _ _ HB _ HR'.out).mono ?_; rintro e w' ⟨rfl, rfl⟩)
    go_ret
    exact ⟨ret_bool HF.out.symm, rfl⟩
   ·
    have HB := Lib.hid hb
    have HN := step_lt HS hb
    clear hb
    generalize l.getD k 0 = x at hc HB
    go_wp2_with (go_at_call 66; refine (isIn_is _ _ _ _ _ HB _ HR'.out).mono ?_; rintro e w' ⟨rfl, rfl⟩)
    go_round
    case rel => exact ⟨k + 1, by omega, by go_num, HN⟩
    case measure => simp [intOf]; omega
  ·
   have HF := Lib.hid (all_take (p := fun x => decide (x ∈ d)) (l := l) 0 fun j hj => HS.out j (by omega))
   go_wp2
   go_ret
   exact ⟨ret_bool HF.out.symm, rfl⟩
theorem allDone_is (b : Bool) (A : Option Addr) (c : Nat) (l : List Int) (A' : Option Addr) (c' : Nat) (d : List Int) (h : Hid (allDoneB l d = b)) (w : World) (hr : (Kd.int .i64).C w A l.length l) (hr' : (Kd.int .i64).C w A' d.length d) :
  Calls Tryz.prog 67 #[.slice A l.length c, .slice A' d.length c'] w fun e w' => e = .returned (.bool b) ∧ w' = w :=
 (allDone_calls A c l A' c' d w hr hr').mono fun e w' ⟨he, hw⟩ => ⟨by rw [he, h.out], hw⟩
set_option maxHeartbeats 1000000 in
theorem ascends_calls (A : Option Addr) (c : Nat) (l : List Int) (w : World) (hr : (Kd.int .i64).C w A l.length l) :
  Calls Tryz.prog 89 #[.slice A l.length c] w fun e w' => e = .returned (.bool (ascB l)) ∧ Below w.heap.size w w' := by
 have hl := (C_len hr).2
 have HR := Lib.hid hr
 clear hr
 go_enter Tryz.func89, Tryz.ntmps89
 go_wp2
 go_loopw [3] (fun i wr => ∃ (k : Nat), 1 ≤ k ∧ k ≤ max 1 l.length ∧ i = .int .i64 k ∧ Hid (∀ j, j < k - 1 → decide (l.getD j 0 < l.getD (j + 1) 0) = true) ∧ Below w.heap.size w wr) (fun i _ => l.length - (intOf i).toNat)
 case atStart => exact ⟨1, Nat.le_refl _, by omega, rfl, Lib.hid fun j h => absurd h (Nat.not_lt_zero _), Below.refl _ _⟩
 case round =>
  obtain ⟨k, hk0, hk, rfl, HS, HB⟩ := hrel
  by_cases hlt : k < l.length
  ·
   obtain ⟨ad, rfl, hc⟩ := at_num (Kd.C_below HR.out HB) k hlt
   obtain ⟨ad', e, hc'⟩ := at_num (Kd.C_below HR.out HB) (k - 1) (by omega)
   cases e
   have hkk : k - 1 + 1 = k := by omega
   have hkl : k - 1 < l.length := by omega
   have HKK := Lib.hid hkk
   clear hkk
   cases hb : decide (l.getD (k - 1) 0 < l.getD k 0)
   ·
    have HF : Hid (ascB l = false) := Lib.hid (by
     unfold ascB
     rw [List.all_eq_false]
     exact ⟨k - 1, List.mem_range.2 (by omega), by rw [HKK.out, hb]; simp⟩)
    have hle : l.getD k 0 ≤ l.getD (k - 1) 0 := by have := of_decide_eq_false hb; omega
    clear hb
    generalize l.getD k 0 = x at hc hle
    generalize l.getD (k - 1) 0 = y at hc' hle
    go_wp2
    go_quiet (fail)
    go_wp2
    go_ret
    exact ⟨ret_bool HF.out.symm, pw_below_drewN HB _⟩
   ·
    have HN : Hid (∀ j, j < k + 1 - 1 → decide (l.getD j 0 < l.getD (j + 1) 0) = true) := Lib.hid fun j hj => by
     by_cases e : j = k - 1
     ·
      rw [e, HKK.out]; exact hb
     ·
      exact HS.out j (by omega)
    have hle : l.getD (k - 1) 0 < l.getD k 0 := of_decide_eq_true hb
    clear hb
    generalize l.getD k 0 = x at hc hle
    generalize l.getD (k - 1) 0 = y at hc' hle
    go_wp2
    go_quiet (fail)
    go_wp2
    go_roundw
    case rel => exact ⟨k + 1, by omega, by omega, by go_num, HN, pw_below_drewN HB _⟩
    case measure => simp [intOf]; omega
  ·
   have HF : Hid (ascB l = true) := Lib.hid (by
    unfold ascB
    rw [List.all_eq_true]
    exact fun j hj => HS.out j (by have := List.mem_range.1 hj; omega))
   go_wp2
   go_ret
   exact ⟨ret_bool HF.out.symm, HB⟩
end Go.Proofs.YtkljcdghbefceaaGreatDoor
