/- Parts of the proof, laid as one text by a program of mine. -/
import Derived.Test.YtkljcdghbefceaaDoorKbestc22
namespace Go.Proofs.YtkljcdghbefceaaDoor
set_option linter.unusedVariables false
set_option linter.unusedSimpArgs false
open Go.RowKit Go.Shelf Bits
open Go.Proofs.YtkljcdghbefceaaDoorW.PrintWords Go.Proofs.YtkljcdghbefceaaDoorW.PrintLast Go.Proofs.YtkljcdghbefceaaDoorW.PrintMore
attribute [local go_sem] Oper.semAt_some max2_int max_two
structure SBx (h S p : Nat) (e : Int) (W : World) : Prop where
 s : Boxed W h 98 (.pointer (some ⟨S, 0, none⟩))
 p : Boxed W (h + 1) 53 (.int .u16 (p : Nat))
 e : Boxed W (h + 1 + 1) 3 (.int .i64 e)
theorem sbx_init (w : World) (S p : Nat) (e : Int) : SBx w.heap.size S p e (((w.alloc (.cells #[.pointer (some ⟨S, 0, none⟩)] 98)).alloc (.cells #[.int .u16 (p : Nat)] 53)).alloc (.cells #[.int .i64 e] 3)) := by
 have z : ∀ (W : World) (o : Obj), (W.alloc o).heap.size = W.heap.size + 1 := fun W o => World.size_alloc W o
 refine ⟨((Boxed.new w 98 _).alloc _).alloc _, ?_, ?_⟩
 ·
  have h1 := Boxed.new (w.alloc (.cells #[.pointer (some ⟨S, 0, none⟩)] 98)) 53 (.int .u16 (p : Nat))
  rw [z] at h1
  exact h1.alloc _
 ·
  have h1 := Boxed.new ((w.alloc (.cells #[.pointer (some ⟨S, 0, none⟩)] 98)).alloc (.cells #[.int .u16 (p : Nat)] 53)) 3 (.int .i64 e)
  rw [z, z] at h1
  exact h1
theorem SBx.run {h S p sb : Nat} {e : Int} {vl v' : Value} {W1 W' : World} (q : SBx h S p e W1) (hr : SRun S sb vl W1 v' W') (h1 : S < h) (h2 : sb < h) (h3 : ∀ k, vl.ownBlock = some k → k < h) : SBx h S p e W' := by
 have key : ∀ (k : Nat) (o : Obj), h ≤ k → W1.heap[k]? = some o → W'.heap[k]? = some o := fun k o hk ho => (hr.keep k (blk_lt ho) (by omega) (by omega) (fun e => by have := h3 k e.symm; omega)).trans ho
 exact ⟨key h _ (Nat.le_refl _) q.s, key (h + 1) _ (by omega) q.p, key (h + 1 + 1) _ (by omega) q.e⟩
theorem SS.shut {w0 : World} {C n S sb : Nat} {A1 : Option Addr} {c1 r : Nat} {wk : Int} {L : List Nat} {st : List Int} {acc : Option (List Nat × Int)} {vl vb : Value} {W W' : World} {B : Nat} (h : SS w0 C n S sb A1 c1 r wk L st acc vl vb W) (hs : Shut B W W') (hB : w0.heap.size ≤ B) : SS w0 C n S sb A1 c1 r wk L st acc vl vb W' :=
 ⟨hs.cells _ _ h.blk rfl, hs.cells _ _ h.row rfl, Shut.R hs h.lst, Shut.R hs h.bst, h.low.trans (hs.below.mono hB)⟩
theorem SRun.shut {S sb : Nat} {vl v1 : Value} {W W1 W' : World} (h : SRun S sb vl W v1 W1) (hs : Shut W.heap.size W1 W') : SRun S sb vl W v1 W' :=
 ⟨by rw [hs.size]; exact h.size, fun k hk h1 h2 h3 => (hs.block k hk).trans (h.keep k hk h1 h2 h3), h.at_⟩
theorem below_mid {B : Nat} {w0 W W' : World} (h1 : Below B w0 W) (h2 : Below B w0 W') (hs : W.heap.size ≤ W'.heap.size) : Below B W W' := ⟨h2.os.trans h1.os.symm, h2.tape.trans h1.tape.symm, h2.output.trans h1.output.symm, hs, fun k hk => (h2.block k hk).trans (h1.block k hk).symm⟩
def accN (g : List Tk) (rm : List Int) (wk : Int) (f : Nat) (L : List Nat) (e : Int) (is : List Nat) (acc : Option (List Nat × Int)) : Option (List Nat × Int) := is.foldl (fun a i => searchN g rm wk f (L ++ [i]) (max e ((placeS g rm wk (rowO g rm wk L) i : Nat) + (rdTk g i).f0)) a) acc
theorem accN_snoc (g : List Tk) (rm : List Int) (wk : Int) (f : Nat) (L : List Nat) (e : Int) (is : List Nat) (i : Nat) (acc : Option (List Nat × Int)) : accN g rm wk f L e (is ++ [i]) acc = searchN g rm wk f (L ++ [i]) (max e ((placeS g rm wk (rowO g rm wk L) i : Nat) + (rdTk g i).f0)) (accN g rm wk f L e is acc) := by
 unfold accN
 rw [List.foldl_append]
 rfl
theorem searchN_cut {g : List Tk} {rm : List Int} {wk : Int} {L : List Nat} {e : Int} {acc : Option (List Nat × Int)} (h : cutO acc e = true) : ∀ f, searchN g rm wk f L e acc = acc
 | 0 => by unfold searchN; rw [h]; rfl
 | f + 1 => by unfold searchN; rw [h]; rfl
theorem searchN_go {g : List Tk} {rm : List Int} {wk : Int} {L : List Nat} {e : Int} {acc : Option (List Nat × Int)} (h : cutO acc e = false) (f : Nat) : searchN g rm wk (f + 1) L e acc = accN g rm wk f L e (nextN2 g L) acc := by
 unfold searchN accN
 rw [h]
 rfl
theorem searchN_leaf {g : List Tk} {rm : List Int} {wk : Int} {L : List Nat} {e : Int} {acc : Option (List Nat × Int)} (h : cutO acc e = false) : searchN g rm wk 0 L e acc = some (L, e) := by
 unfold searchN
 rw [h]
 rfl
theorem max_is (e x : Int) : (if e < x then x else e) = max e x := by
 split <;> omega
def FromAt (w0 : World) (C : Nat) (g : List Tk) (S sb : Nat) (A1 : Option Addr) (c1 : Nat) (rm : List Int) (wk : Int) (f : Nat) : Prop := ∀ (L : List Nat) (p : Nat) (e : Int) (acc : Option (List Nat × Int)) (st : List Int) (vl vb : Value) (W : World), POrd g L → L.length + f = g.length → p < 2 ^ g.length → (∀ k, p.testBit k = decide (k ∈ L)) → Agr g rm wk st L → (0 ≤ e ∧ e ≤ 200) → SS w0 C g.length S sb A1 c1 rm.length wk L st acc vl vb W →
 Calls Tryd.prog 67 #[.pointer (some ⟨S, 0, none⟩), .int .u16 (p : Nat), .int .i64 e] W fun E W' => (∃ v, E = .returned v) ∧ ∃ st' vl' vb', Agr g rm wk st' L ∧ SS w0 C g.length S sb A1 c1 rm.length wk L st' (searchN g rm wk f L e acc) vl' vb' W' ∧ SRun S sb vl W vl' W'
set_option maxRecDepth 1000000 in
set_option maxHeartbeats 8000000 in
theorem from_cut (w0 : World) (C : Nat) (g : List Tk) (ns : List Nat) (S sb : Nat) (A1 : Option Addr) (c1 : Nat) (rm : List Int) (wk : Int) (hgr : graphN g = some ns) (hv : specValid g = true) (h5 : g.length ≤ 5) (hp : placeB rm wk = true) (hG : IsGraph w0 C g ns) (hT : Tab w0) (hr1 : (Kd.int .i64).C w0 A1 rm.length rm) (hSb : S ≠ sb) (hS0 : w0.heap.size ≤ S) (hs0 : w0.heap.size ≤ sb) (f : Nat) (L : List Nat) (p : Nat) (e : Int) (acc : Option (List Nat × Int)) (st : List Int) (vl vb : Value) (W : World) (hL : POrd g L) (hlen : L.length + f = g.length) (hpb : p < 2 ^ g.length) (hbits : ∀ k, p.testBit k = decide (k ∈ L)) (hA : Agr g rm wk st L) (he : 0 ≤ e ∧ e ≤ 200) (hSS : SS w0 C g.length S sb A1 c1 rm.length wk L st acc vl vb W) (hcut : cutO acc e = true) :
  Calls Tryd.prog 67 #[.pointer (some ⟨S, 0, none⟩), .int .u16 (p : Nat), .int .i64 e] W fun E W' => (∃ v, E = .returned v) ∧ ∃ st' vl' vb', Agr g rm wk st' L ∧ SS w0 C g.length S sb A1 c1 rm.length wk L st' (acc) vl' vb' W' ∧ SRun S sb vl W vl' W' := by
 obtain ⟨b, x, rfl, hx⟩ : ∃ b x, acc = some (b, x) ∧ x ≤ e := by
  cases acc with
  | none => cases hcut
  | some q =>
   obtain ⟨b, x⟩ := q
   exact ⟨b, x, rfl, of_decide_eq_true hcut⟩
 clear hcut
 obtain ⟨AL, cL, rfl, hcL, hCL⟩ := Kd.R_reads hSS.lst
 rw [ints_length] at hSS hcL hCL ⊢
 have hok := specValid_TOk hv
 have hlL : L.length ≤ 5 := by have := hL.le; omega
 have hSl := blk_lt hSS.blk
 have hsl := blk_lt hSS.row
 have hll := Kd.R_lt hSS.lst
 have hB1 : Below W.heap.size W (((W.alloc (.cells #[.pointer (some ⟨S, 0, none⟩)] 98)).alloc (.cells #[.int .u16 (p : Nat)] 53)).alloc (.cells #[.int .i64 e] 3)) := (((Below.refl _ W).alloc (Nat.le_refl _) _).alloc (by simp) _).alloc (by simp; omega) _
 have hBx := sbx_init W S p e
 have hS1 := hSS.below hB1
 have hz1 : (((W.alloc (.cells #[.pointer (some ⟨S, 0, none⟩)] 98)).alloc (.cells #[.int .u16 (p : Nat)] 53)).alloc (.cells #[.int .i64 e] 3)).heap.size = W.heap.size + 3 := by simp
 have HLL := Lib.hid hll
 have HBITS := Lib.hid hbits
 have HLEN := Lib.hid hlen
 have HGR := Lib.hid hgr
 have HV := Lib.hid hv
 have HPB := Lib.hid hp
 have HPP := Lib.hid hpb
 have HG0 := Lib.hid hG
 have HT0 := Lib.hid hT
 have HR0 := Lib.hid hr1
 have HAG := Lib.hid hA
 have HLO := Lib.hid hL
 have HOK := Lib.hid hok
 have HS0 := Lib.hid hSS
 have htl := hT.lt
 obtain ⟨hh, HH⟩ : ∃ hh : Nat, Hid (hh = W.heap.size) := ⟨_, Lib.hid rfl⟩
 rw [← HH.out] at hBx
 clear hll hbits hlen hgr hv hp hG hT hr1 hA hL hok hSS
 refine calls_of_wp_marks Tryd.func67 rfl ?_
 simp only [Tryd.ntmps67, List.size_toArray, List.length_cons, List.length_nil, Nat.reduceAdd, Nat.reduceSub, Array.replicate_succ, Array.replicate_zero, List.push_toArray, List.append_toArray, List.nil_append, List.cons_append]
 go_wp2
 obtain ⟨W1, hW1⟩ : ∃ W1, W1 = ((W.alloc (.cells #[.pointer (some ⟨S, 0, none⟩)] 98)).alloc (.cells #[.int .u16 (p : Nat)] 53)).alloc (.cells #[.int .i64 e] 3) := ⟨_, rfl⟩
 rw [← hW1] at hBx hB1 hS1 hz1 ⊢
 clear hW1
 rw [← HH.out] at hz1 hSl hsl ⊢
 have HZ1 := Lib.hid hz1
 have HB1 := Lib.hid hB1
 have HR1 : Hid (SRun S sb (.slice AL L.length cL) W (.slice AL L.length cL) W1) := Lib.hid (SRun.below hB1)
 clear hz1 hB1
 have cS := hBx.s.cell
 have cE := hBx.e.cell
 have HBX := Lib.hid hBx
 have HS1 := Lib.hid hS1
 clear hBx
 have c6 := blk_cell hS1.blk 6
 have c7 := blk_cell hS1.blk 7
 simp [accE] at c6 c7
 clear hS1
 have dge : decide (x ≤ e) = true := decide_eq_true hx
 clear hx
 go_quiet (fail)
 go_wp2
 refine leave_marks (B := W.heap.size) [] _ (Marks.nil _) (fun D h => by cases h) (fun w' hs => ⟨results_none rfl _ _ _, ?_⟩)
 have hBq : Below W1.heap.size W1 (W1.drewN nq) := pw_below_drewN (Below.refl _ _) nq
 exact ⟨⟨_, rfl⟩, st, _, vb, HAG.out, (HS1.out.below hBq).shut hs HS0.out.low.size, (HR1.out.trans (SRun.below hBq)).shut hs⟩
set_option maxRecDepth 1000000 in
set_option maxHeartbeats 8000000 in
theorem from_leaf (w0 : World) (C : Nat) (g : List Tk) (ns : List Nat) (S sb : Nat) (A1 : Option Addr) (c1 : Nat) (rm : List Int) (wk : Int) (hgr : graphN g = some ns) (hv : specValid g = true) (h5 : g.length ≤ 5) (hp : placeB rm wk = true) (hG : IsGraph w0 C g ns) (hT : Tab w0) (hr1 : (Kd.int .i64).C w0 A1 rm.length rm) (hSb : S ≠ sb) (hS0 : w0.heap.size ≤ S) (hs0 : w0.heap.size ≤ sb) (L : List Nat) (p : Nat) (e : Int) (acc : Option (List Nat × Int)) (st : List Int) (vl vb : Value) (W : World) (hL : POrd g L) (hlen : L.length + 0 = g.length) (hpb : p < 2 ^ g.length) (hbits : ∀ k, p.testBit k = decide (k ∈ L)) (hA : Agr g rm wk st L) (he : 0 ≤ e ∧ e ≤ 200) (hSS : SS w0 C g.length S sb A1 c1 rm.length wk L st acc vl vb W) (hcu : cutO acc e = false) :
  Calls Tryd.prog 67 #[.pointer (some ⟨S, 0, none⟩), .int .u16 (p : Nat), .int .i64 e] W fun E W' => (∃ v, E = .returned v) ∧ ∃ st' vl' vb', Agr g rm wk st' L ∧ SS w0 C g.length S sb A1 c1 rm.length wk L st' (some (L, e)) vl' vb' W' ∧ SRun S sb vl W vl' W' := by
 have dl : ((L.length : Int) == (g.length : Int)) = true := by rw [beq_iff_eq]; omega
 obtain ⟨AL, cL, rfl, hcL, hCL⟩ := Kd.R_reads hSS.lst
 rw [ints_length] at hSS hcL hCL ⊢
 have hok := specValid_TOk hv
 have hlL : L.length ≤ 5 := by have := hL.le; omega
 have hSl := blk_lt hSS.blk
 have hsl := blk_lt hSS.row
 have hll := Kd.R_lt hSS.lst
 have hB1 : Below W.heap.size W (((W.alloc (.cells #[.pointer (some ⟨S, 0, none⟩)] 98)).alloc (.cells #[.int .u16 (p : Nat)] 53)).alloc (.cells #[.int .i64 e] 3)) := (((Below.refl _ W).alloc (Nat.le_refl _) _).alloc (by simp) _).alloc (by simp; omega) _
 have hBx := sbx_init W S p e
 have hS1 := hSS.below hB1
 have hz1 : (((W.alloc (.cells #[.pointer (some ⟨S, 0, none⟩)] 98)).alloc (.cells #[.int .u16 (p : Nat)] 53)).alloc (.cells #[.int .i64 e] 3)).heap.size = W.heap.size + 3 := by simp
 have HLL := Lib.hid hll
 have HBITS := Lib.hid hbits
 have HLEN := Lib.hid hlen
 have HGR := Lib.hid hgr
 have HV := Lib.hid hv
 have HPB := Lib.hid hp
 have HPP := Lib.hid hpb
 have HG0 := Lib.hid hG
 have HT0 := Lib.hid hT
 have HR0 := Lib.hid hr1
 have HAG := Lib.hid hA
 have HLO := Lib.hid hL
 have HOK := Lib.hid hok
 have HS0 := Lib.hid hSS
 have htl := hT.lt
 obtain ⟨hh, HH⟩ : ∃ hh : Nat, Hid (hh = W.heap.size) := ⟨_, Lib.hid rfl⟩
 rw [← HH.out] at hBx
 clear hll hbits hlen hgr hv hp hG hT hr1 hA hL hok hSS
 refine calls_of_wp_marks Tryd.func67 rfl ?_
 simp only [Tryd.ntmps67, List.size_toArray, List.length_cons, List.length_nil, Nat.reduceAdd, Nat.reduceSub, Array.replicate_succ, Array.replicate_zero, List.push_toArray, List.append_toArray, List.nil_append, List.cons_append]
 go_wp2
 obtain ⟨W1, hW1⟩ : ∃ W1, W1 = ((W.alloc (.cells #[.pointer (some ⟨S, 0, none⟩)] 98)).alloc (.cells #[.int .u16 (p : Nat)] 53)).alloc (.cells #[.int .i64 e] 3) := ⟨_, rfl⟩
 rw [← hW1] at hBx hB1 hS1 hz1 ⊢
 clear hW1
 rw [← HH.out] at hz1 hSl hsl ⊢
 have HZ1 := Lib.hid hz1
 have HB1 := Lib.hid hB1
 have HR1 : Hid (SRun S sb (.slice AL L.length cL) W (.slice AL L.length cL) W1) := Lib.hid (SRun.below hB1)
 clear hz1 hB1
 have cS := hBx.s.cell
 have cE := hBx.e.cell
 have HBX := Lib.hid hBx
 have HS1 := Lib.hid hS1
 clear hBx
 have c6 := blk_cell hS1.blk 6
 have c7 := blk_cell hS1.blk 7
 simp at c6 c7
 clear hS1
 have HCU := Lib.hid hcu
 clear hcu
 go_cut [18] from 7 to 19 (fun v18 wc => v18 = .bool false ∧ Below W1.heap.size W1 wc)
 case first =>
  rcases acc with _ | ⟨b, x0⟩
  ·
   simp [accE] at c6 c7
   go_quiet (fail)
   (try go_wp2)
   go_meet
   case rel => exact ⟨rfl, pw_below_drewN (Below.refl _ _) nq⟩
  ·
   simp [accE] at c6 c7
   have dge : decide (x0 ≤ e) = false := HCU.out
   go_quiet (fail)
   (try go_wp2)
   go_meet
   case rel => exact ⟨rfl, pw_below_drewN (Below.refl _ _) nq⟩
 case rest =>
  obtain ⟨rfl, hBq⟩ := hcut
  go_wp2
  obtain ⟨W2, rfl⟩ : ∃ W2, W2 = wc := ⟨_, rfl⟩
  clear cS cE c6 c7
  have HS2 := Lib.hid (HS1.out.below hBq)
  have HR2 : Hid (SRun S sb (.slice AL L.length cL) W1 (.slice AL L.length cL) W2) := Lib.hid (SRun.below hBq)
  have hsz : ∀ k, (Value.slice AL L.length cL).ownBlock = some k → k < hh := fun k hk => by have := HLL.out k hk; have := HH.out; omega
  have HSZ := Lib.hid hsz
  have hBx2 := HBX.out.run HR2.out hSl hsl hsz
  have cS := hBx2.s.cell
  have c4 := blk_cell HS2.out.blk 4
  have c0 := blk_cell HS2.out.blk 0
  simp at c4 c0
  have HGW : Hid (∀ W', Below W2.heap.size W2 W' → IsGraph W' C g ns) := Lib.hid (fun W' hW => HG0.out.below (HS2.out.low.trans (hW.mono HS2.out.low.size)))
  clear hBx2 hBq hsz
  go_quiet ((go_at_call 30; exact Calls.quiet_of_same (size_calls _ C g ns (HGW.out _ (pw_below_drewN (Below.refl _ _) _)))))
  go_wp2
  have hBq : Below W2.heap.size W2 (W2.drewN nq) := pw_below_drewN (Below.refl _ _) nq
  obtain ⟨W3, hW3⟩ : ∃ W3, W3 = W2.drewN nq := ⟨_, rfl⟩
  rw [← hW3] at hBq ⊢
  clear hW3 cS c4 c0
  have HS3 := Lib.hid (HS2.out.below hBq)
  have HR3 : Hid (SRun S sb (.slice AL L.length cL) W1 (.slice AL L.length cL) W3) := Lib.hid (HR2.out.trans (SRun.below hBq))
  have HGD : Hid (∀ W', Below W3.heap.size W3 W' → IsGraph W' C g ns ∧ Tab W') := Lib.hid (fun W' hW => ⟨HG0.out.below (HS3.out.low.trans (hW.mono HS3.out.low.size)), HT0.out.keep htl (HS3.out.low.trans (hW.mono HS3.out.low.size))⟩)
  clear hBq
  have hBx3 := HBX.out.run HR3.out hSl hsl HSZ.out
  have hBd : Below W3.heap.size W3 W3.drew := (Below.refl _ _).drew
  have hSd := HS3.out.below hBd
  have cSd := (boxed_low hBx3.s hBd).cell
  have cEd := (boxed_low hBx3.e hBd).cell
  have c4d := blk_cell hSd.blk 4
  simp at c4d
  have hcl := clone_calls AL cL (ints L) (by rw [ints_length]; omega) W3.drew (Kd.R_reads' hSd.lst).2.2
  rw [ints_length] at hcl
  have HCL := Lib.hid hcl
  have HSD := Lib.hid hSd
  clear hcl hSd hBd hBx3
  refine wp_region_held_drew (S := fun w' => w'.cell? ⟨hh, 0, none⟩ = some (.pointer (some ⟨S, 0, none⟩)) ∧ w'.cell? ⟨hh + 1 + 1, 0, none⟩ = some (.int .i64 e)) (by kernel_rfl) ⟨cSd, cEd⟩ (fun hHeld => ?_)
  refine take_lit (i := 0) (v := ?v1) rfl (by kernel_rfl) (by kernel_rfl) (by kernel_rfl) (fun _ _ _ h => h) (Or.inl ⟨by rfl, ?hy1⟩) hHeld ?rest1
  case hy1 =>
   rintro ww ⟨hs1, hs2⟩
   go_simp
   (try with_reducible rfl)
  case rest1 =>
  try simp only [Act.put, List.setIfInBounds_toArray, List.set_cons_zero, List.set_cons_succ]
  refine take_lit (i := 1) (v := ?v2) rfl (by kernel_rfl) (by kernel_rfl) (by kernel_rfl) (fun _ _ _ h => h) (Or.inl ⟨by rfl, ?hy2⟩) hHeld ?rest2
  case hy2 =>
   rintro ww ⟨hs1, hs2⟩
   go_simp
   (try with_reducible rfl)
  case rest2 =>
  try simp only [Act.put, List.setIfInBounds_toArray, List.set_cons_zero, List.set_cons_succ]
  refine take_lit (i := 2) (v := ?v3) rfl (by kernel_rfl) (by kernel_rfl) (by kernel_rfl) (fun _ _ _ h => h) (Or.inl ⟨by rfl, ?hy3⟩) hHeld ?rest3
  case hy3 =>
   rintro ww ⟨hs1, hs2⟩
   go_simp
   (try with_reducible rfl)
  case rest3 =>
  try simp only [Act.put, List.setIfInBounds_toArray, List.set_cons_zero, List.set_cons_succ]
  refine take_lit (i := 3) (v := ?v4) rfl (by kernel_rfl) (by kernel_rfl) (by kernel_rfl) (fun _ _ _ h => h) (Or.inl ⟨by rfl, ?hy4⟩) hHeld ?rest4
  case hy4 =>
   rintro ww ⟨hs1, hs2⟩
   go_simp
   (try with_reducible rfl)
  case rest4 =>
  try simp only [Act.put, List.setIfInBounds_toArray, List.set_cons_zero, List.set_cons_succ]
  refine take_lit (i := 4) (v := ?v5) rfl (by kernel_rfl) (by kernel_rfl) (by kernel_rfl) (fun _ _ _ h => h) (Or.inl ⟨by rfl, ?hy5⟩) hHeld ?rest5
  case hy5 =>
   rintro ww ⟨hs1, hs2⟩
   go_simp
   (try with_reducible rfl)
  case rest5 =>
  try simp only [Act.put, List.setIfInBounds_toArray, List.set_cons_zero, List.set_cons_succ]
  refine take_lit (i := 5) (v := ?v6) rfl (by kernel_rfl) (by kernel_rfl) (by kernel_rfl) (fun _ _ _ h => h) (Or.inl ⟨by rfl, ?hy6⟩) hHeld ?rest6
  case hy6 =>
   rintro ww ⟨hs1, hs2⟩
   go_simp
   (try with_reducible rfl)
  case rest6 =>
  try simp only [Act.put, List.setIfInBounds_toArray, List.set_cons_zero, List.set_cons_succ]
  refine take_lit (i := 8) (v := ?v7) rfl (by kernel_rfl) (by kernel_rfl) (by kernel_rfl) (fun _ _ _ h => h) (Or.inl ⟨by rfl, ?hy7⟩) hHeld ?rest7
  case hy7 =>
   rintro ww ⟨hs1, hs2⟩
   go_simp
   (try with_reducible rfl)
  case rest7 =>
  try simp only [Act.put, List.setIfInBounds_toArray, List.set_cons_zero, List.set_cons_succ]
  refine wpAnyH_ready (rs := [6]) (by kernel_rfl) (by simp) ?_
  refine cons_lit rfl (fun K hK => ?_) AllReadyH.nil
  go_simp
  refine hK.out _ _ hHeld (fun hHeld => ?_)
  clear hK K
  try simp only [Act.put, List.setIfInBounds_toArray, List.set_cons_zero, List.set_cons_succ]
  refine wpAnyH_ready (rs := [7]) (by kernel_rfl) (by simp) ?_
  refine cons_lit rfl (fun K hK => ?_) AllReadyH.nil
  go_simp
  go_at_call 85
  refine HCL.out.mono ?_
  rintro E w5 ⟨v5, rfl, hR5, hB5⟩
  obtain ⟨A5, c5', rfl, _, _⟩ := Kd.R_reads hR5
  refine hK.out _ _ ⟨pw_cell_below hB5 hHeld.1, pw_cell_below hB5 hHeld.2⟩ (fun hHeld => ?_)
  clear hK K
  try simp only [Act.put, List.setIfInBounds_toArray, List.set_cons_zero, List.set_cons_succ]
  have HS5 := Lib.hid (HSD.out.below hB5)
  have HRB := Lib.hid (And.intro hR5 hB5)
  have c5 := blk_cell HS5.out.blk 5
  simp at c5
  have f5 := blk_frozen HS5.out.blk 5
  have k6 := blk_set HS5.out.blk 5 (.slice A5 (ints L).length c5')
  have c6 := blk_cell k6 6
  simp at c6
  have f6 := blk_frozen k6 6
  have k7 := blk_set k6 6 (.int .i64 e)
  have c7 := blk_cell k7 7
  simp at c7
  have f7 := blk_frozen k7 7
  clear hR5 hB5 k6 k7 c4d cSd cEd
  refine take_lit (i := 9) (v := ?v8) rfl (by kernel_rfl) (by kernel_rfl) (by kernel_rfl) (fun _ _ _ h => h) (Or.inl ⟨by rfl, ?hy8⟩) hHeld ?rest8
  case hy8 =>
   rintro ww ⟨hs1, hs2⟩
   go_simp
   (try with_reducible rfl)
  case rest8 =>
  try simp only [Act.put, List.setIfInBounds_toArray, List.set_cons_zero, List.set_cons_succ]
  refine take_lit (i := 10) (v := ?v9) rfl (by kernel_rfl) (by kernel_rfl) (by kernel_rfl) (fun _ _ _ h => h) (Or.inl ⟨by rfl, ?hy9⟩) hHeld ?rest9
  case hy9 =>
   rintro ww ⟨hs1, hs2⟩
   go_simp
   (try with_reducible rfl)
  case rest9 =>
  try simp only [Act.put, List.setIfInBounds_toArray, List.set_cons_zero, List.set_cons_succ]
  refine wpAnyH_ready (rs := [11]) (by kernel_rfl) (by simp) ?_
  refine cons_lit rfl (fun K hK => ?_) AllReadyH.nil
  go_simp
  refine hK.out _ _ (⟨cell_far2 hHeld.1 (by show S ≠ hh; omega), cell_far2 hHeld.2 (by show S ≠ hh + 1 + 1; omega)⟩) (fun hHeld => ?_)
  clear hK K
  try simp only [Act.put, List.setIfInBounds_toArray, List.set_cons_zero, List.set_cons_succ]
  refine take_lit (i := 12) (v := ?v10) rfl (by kernel_rfl) (by kernel_rfl) (by kernel_rfl) (fun _ _ _ h => h) (Or.inl ⟨by rfl, ?hy10⟩) hHeld ?rest10
  case hy10 =>
   rintro ww ⟨hs1, hs2⟩
   go_simp
   (try with_reducible rfl)
  case rest10 =>
  try simp only [Act.put, List.setIfInBounds_toArray, List.set_cons_zero, List.set_cons_succ]
  refine take_lit (i := 13) (v := ?v11) rfl (by kernel_rfl) (by kernel_rfl) (by kernel_rfl) (fun _ _ _ h => h) (Or.inl ⟨by rfl, ?hy11⟩) hHeld ?rest11
  case hy11 =>
   rintro ww ⟨hs1, hs2⟩
   go_simp
   (try with_reducible rfl)
  case rest11 =>
  try simp only [Act.put, List.setIfInBounds_toArray, List.set_cons_zero, List.set_cons_succ]
  refine wpAnyH_ready (rs := [14]) (by kernel_rfl) (by simp) ?_
  refine cons_lit rfl (fun K hK => ?_) AllReadyH.nil
  go_simp
  refine hK.out _ _ (⟨cell_far2 hHeld.1 (by show S ≠ hh; omega), cell_far2 hHeld.2 (by show S ≠ hh + 1 + 1; omega)⟩) (fun hHeld => ?_)
  clear hK K
  try simp only [Act.put, List.setIfInBounds_toArray, List.set_cons_zero, List.set_cons_succ]
  refine take_lit (i := 15) (v := ?v12) rfl (by kernel_rfl) (by kernel_rfl) (by kernel_rfl) (fun _ _ _ h => h) (Or.inl ⟨by rfl, ?hy12⟩) hHeld ?rest12
  case hy12 =>
   rintro ww ⟨hs1, hs2⟩
   go_simp
   (try with_reducible rfl)
  case rest12 =>
  try simp only [Act.put, List.setIfInBounds_toArray, List.set_cons_zero, List.set_cons_succ]
  refine take_lit (i := 16) (v := ?v13) rfl (by kernel_rfl) (by kernel_rfl) (by kernel_rfl) (fun _ _ _ h => h) (Or.inl ⟨by rfl, ?hy13⟩) hHeld ?rest13
  case hy13 =>
   rintro ww ⟨hs1, hs2⟩
   go_simp
   (try with_reducible rfl)
  case rest13 =>
  try simp only [Act.put, List.setIfInBounds_toArray, List.set_cons_zero, List.set_cons_succ]
  refine wpAnyH_ready (rs := [17]) (by kernel_rfl) (by simp) ?_
  refine cons_lit rfl (fun K hK => ?_) AllReadyH.nil
  go_simp
  refine hK.out _ _ (⟨cell_far2 hHeld.1 (by show S ≠ hh; omega), cell_far2 hHeld.2 (by show S ≠ hh + 1 + 1; omega)⟩) (fun hHeld => ?_)
  clear hK K
  try simp only [Act.put, List.setIfInBounds_toArray, List.set_cons_zero, List.set_cons_succ]
  refine wpAnyH_done (by kernel_rfl) ?_ _
  go_wp2
  refine leave_marks (B := W.heap.size) [] _ (Marks.nil _) (fun D h => by cases h) (fun w' hs => ⟨results_none rfl _ _ _, ?_⟩)
  have hF := HSD.out.leaf hSb hS0 HRB.out.2 HRB.out.1 e
  have hr := (((SRun.below (S := S) (sb := sb) (vl := .slice AL L.length cL) HRB.out.2).trans (SRun.set w5 (p := ⟨S, 5, none⟩) (.inl rfl) (.slice A5 (ints L).length c5'))).trans (SRun.set _ (p := ⟨S, 6, none⟩) (.inl rfl) (.int .i64 e))).trans (SRun.set _ (p := ⟨S, 7, none⟩) (.inl rfl) (.bool true))
  have hr3 : SRun S sb (.slice AL L.length cL) W3 (.slice AL L.length cL) W3.drew := SRun.below (Below.refl _ _).drew
  exact ⟨⟨_, rfl⟩, st, _, _, HAG.out, hF.shut hs HS0.out.low.size, (HR1.out.trans ((HR3.out.trans hr3).trans hr)).shut hs⟩
end Go.Proofs.YtkljcdghbefceaaDoor
