/- Parts of the proof, laid as one text by a program of mine. -/
import Derived.Test.YtkljcdghbefceaaGreatDoorKbtc18
import Derived.Test.YtkljcdghbefceaaGreatDoorKbtc10
import Derived.Test.YtkljcdghbefceaaGreatDoorKbtc3
namespace Go.Proofs.YtkljcdghbefceaaGreatDoor
set_option linter.unusedVariables false
set_option linter.unusedSimpArgs false
open Go.RowKit Go.Shelf Bits
open Go.Proofs.YtkljcdghbefceaaGreatDoorW.PrintWords Go.Proofs.YtkljcdghbefceaaGreatDoorW.PrintLast Go.Proofs.YtkljcdghbefceaaGreatDoorW.PrintMore
attribute [local go_sem] Oper.semAt_some max2_int max_two
def SFr (h : Nat) (t : Array Value) : Prop := t.size = 128 ∧ t.getD 3 undef = .pointer (some ⟨h, 0, none⟩) ∧ t.getD 4 undef = .pointer (some ⟨h + 1, 0, none⟩) ∧ t.getD 5 undef = .pointer (some ⟨h + 1 + 1, 0, none⟩)
set_option maxRecDepth 1000000 in
set_option maxHeartbeats 16000000 in
theorem from_step (w0 : World) (C : Nat) (g : List Tk) (ns : List Nat) (S sb : Nat) (A1 : Option Addr) (c1 : Nat) (rm : List Int) (wk : Int) (hgr : graphN g = some ns) (hv : specValid g = true) (h5 : g.length ≤ 5) (hp : placeB rm wk = true) (hG : IsGraph w0 C g ns) (hT : Tab w0) (hr1 : (Kd.int .i64).C w0 A1 rm.length rm) (hSb : S ≠ sb) (hS0 : w0.heap.size ≤ S) (hs0 : w0.heap.size ≤ sb) (f : Nat) (ih : FromAt w0 C g S sb A1 c1 rm wk f) (L : List Nat) (p : Nat) (e : Int) (acc : Option (List Nat × Int)) (st : List Int) (vl vb : Value) (W : World) (hL : POrd g L) (hlen : L.length + (f + 1) = g.length) (hpb : p < 2 ^ g.length) (hbits : ∀ k, p.testBit k = decide (k ∈ L)) (hA : Agr g rm wk st L) (he : 0 ≤ e ∧ e ≤ 200) (hSS : SS w0 C g.length S sb A1 c1 rm.length wk L st acc vl vb W) (hcu : cutO acc e = false) :
  Calls Tryz.prog 32 #[.pointer (some ⟨S, 0, none⟩), .int .u16 (p : Nat), .int .i64 e] W fun E W' => (∃ v, E = .returned v) ∧ ∃ st' vl' vb', Agr g rm wk st' L ∧ SS w0 C g.length S sb A1 c1 rm.length wk L st' (searchN g rm wk (f + 1) L e acc) vl' vb' W' ∧ SRun S sb vl W vl' W' := by
 have dl : ((L.length : Int) == (g.length : Int)) = false := by rw [beq_eq_false_iff_ne]; omega
 have HSN := Lib.hid (searchN_go (g := g) (rm := rm) (wk := wk) (L := L) hcu f)
 obtain ⟨AL, cL, rfl, hcL, hCL⟩ := Kd.R_reads hSS.lst
 rw [ints_length] at hSS hcL hCL ⊢
 have hok := specValid_TOk hv
 have hlL : L.length ≤ 5 := by have := hL.le; omega
 have hSl := blk_lt hSS.blk
 have hsl := blk_lt hSS.row
 have hll := Kd.R_lt hSS.lst
 have hB1 : Below W.heap.size W (((W.alloc (.cells #[.pointer (some ⟨S, 0, none⟩)] 55)).alloc (.cells #[.int .u16 (p : Nat)] 46)).alloc (.cells #[.int .i64 e] 3)) := (((Below.refl _ W).alloc (Nat.le_refl _) _).alloc (by simp) _).alloc (by simp; omega) _
 have hBx := sbx_init W S p e
 have hS1 := hSS.below hB1
 have hz1 : (((W.alloc (.cells #[.pointer (some ⟨S, 0, none⟩)] 55)).alloc (.cells #[.int .u16 (p : Nat)] 46)).alloc (.cells #[.int .i64 e] 3)).heap.size = W.heap.size + 3 := by simp
 have HLL := Lib.hid hll
 have HBITS := Lib.hid hbits
 have HLEN := Lib.hid hlen
 have HGR := Lib.hid hgr
 have HV := Lib.hid hv
 have HPB := Lib.hid hp
 have HPP := Lib.hid hpb
 have HG0 := Lib.hid hG
 have HT0 := Lib.hid hT
 have HR0 := Lib.hid hr1
 have HAG := Lib.hid hA
 have HLO := Lib.hid hL
 have HOK := Lib.hid hok
 have HS0 := Lib.hid hSS
 have htl := hT.lt
 obtain ⟨hh, HH⟩ : ∃ hh : Nat, Hid (hh = W.heap.size) := ⟨_, Lib.hid rfl⟩
 rw [← HH.out] at hBx
 clear hll hbits hlen hgr hv hp hG hT hr1 hA hL hok hSS
 refine calls_of_wp_marks Tryz.func32 rfl ?_
 simp only [Tryz.ntmps32, List.size_toArray, List.length_cons, List.length_nil, Nat.reduceAdd, Nat.reduceSub, Array.replicate_succ, Array.replicate_zero, List.push_toArray, List.append_toArray, List.nil_append, List.cons_append]
 go_wp2
 obtain ⟨W1, hW1⟩ : ∃ W1, W1 = ((W.alloc (.cells #[.pointer (some ⟨S, 0, none⟩)] 55)).alloc (.cells #[.int .u16 (p : Nat)] 46)).alloc (.cells #[.int .i64 e] 3) := ⟨_, rfl⟩
 rw [← hW1] at hBx hB1 hS1 hz1 ⊢
 clear hW1
 rw [← HH.out] at hz1 hSl hsl ⊢
 have HZ1 := Lib.hid hz1
 have HB1 := Lib.hid hB1
 have HR1 : Hid (SRun S sb (.slice AL L.length cL) W (.slice AL L.length cL) W1) := Lib.hid (SRun.below hB1)
 clear hz1 hB1
 have cS := hBx.s.cell
 have cE := hBx.e.cell
 have HBX := Lib.hid hBx
 have HS1 := Lib.hid hS1
 clear hBx
 have c6 := blk_cell hS1.blk 6
 have c7 := blk_cell hS1.blk 7
 simp at c6 c7
 clear hS1
 have HCU := Lib.hid hcu
 clear hcu
 go_cut [18] from 7 to 19 (fun v18 wc => v18 = .bool false ∧ Below W1.heap.size W1 wc)
 case first =>
  rcases acc with _ | ⟨b, x0⟩
  ·
   simp [accE] at c6 c7
   go_quiet (fail)
   (try go_wp2)
   go_meet
   case rel => exact ⟨rfl, pw_below_drewN (Below.refl _ _) nq⟩
  ·
   simp [accE] at c6 c7
   have dge : decide (x0 ≤ e) = false := HCU.out
   go_quiet (fail)
   (try go_wp2)
   go_meet
   case rel => exact ⟨rfl, pw_below_drewN (Below.refl _ _) nq⟩
 case rest =>
  obtain ⟨rfl, hBq⟩ := hcut
  go_wp2
  obtain ⟨W2, rfl⟩ : ∃ W2, W2 = wc := ⟨_, rfl⟩
  clear cS cE c6 c7
  have HS2 := Lib.hid (HS1.out.below hBq)
  have HR2 : Hid (SRun S sb (.slice AL L.length cL) W1 (.slice AL L.length cL) W2) := Lib.hid (SRun.below hBq)
  have hsz : ∀ k, (Value.slice AL L.length cL).ownBlock = some k → k < hh := fun k hk => by have := HLL.out k hk; have := HH.out; omega
  have HSZ := Lib.hid hsz
  have hBx2 := HBX.out.run HR2.out hSl hsl hsz
  have cS := hBx2.s.cell
  have c4 := blk_cell HS2.out.blk 4
  have c0 := blk_cell HS2.out.blk 0
  simp at c4 c0
  have HGW : Hid (∀ W', Below W2.heap.size W2 W' → IsGraph W' C g ns) := Lib.hid (fun W' hW => HG0.out.below (HS2.out.low.trans (hW.mono HS2.out.low.size)))
  clear hBx2 hBq hsz
  go_quiet ((go_at_call 25; exact Calls.quiet_of_same (size_calls _ C g ns (HGW.out _ (pw_below_drewN (Below.refl _ _) _)))))
  go_wp2
  have hBq : Below W2.heap.size W2 (W2.drewN nq) := pw_below_drewN (Below.refl _ _) nq
  obtain ⟨W3, hW3⟩ : ∃ W3, W3 = W2.drewN nq := ⟨_, rfl⟩
  rw [← hW3] at hBq ⊢
  clear hW3 cS c4 c0
  have HS3 := Lib.hid (HS2.out.below hBq)
  have HR3 : Hid (SRun S sb (.slice AL L.length cL) W1 (.slice AL L.length cL) W3) := Lib.hid (HR2.out.trans (SRun.below hBq))
  have HGD : Hid (∀ W', Below W3.heap.size W3 W' → IsGraph W' C g ns ∧ Tab W') := Lib.hid (fun W' hW => ⟨HG0.out.below (HS3.out.low.trans (hW.mono HS3.out.low.size)), HT0.out.keep htl (HS3.out.low.trans (hW.mono HS3.out.low.size))⟩)
  clear hBq
  have hBx3 := HBX.out.run HR3.out hSl hsl HSZ.out
  have h8 := HOK.out.1
  have hp16 : p < 65536 := Nat.lt_of_lt_of_le HPP.out (Nat.le_trans (Nat.pow_le_pow_right (by omega) h8) (by decide))
  have hr15 : ns.length ≤ 15 := by rw [(graphN_all HGR.out).2.1]; omega
  have HEL0 : elems (readyN ns p) = nextN2 g L := ready_next HGR.out HBITS.out
  have hr16' : readyN ns p < 65536 := Nat.lt_of_lt_of_le (readyU_lt ns p _) (Nat.le_trans (Nat.pow_le_pow_right (by omega) hr15) (by decide))
  have hrc := fun W' hG' => ready_calls C g ns p hr15 (graphN_need_u16 HGR.out) hp16 W' hG'
  obtain ⟨s, hs⟩ : ∃ s, s = readyN ns p := ⟨_, rfl⟩
  rw [← hs] at HEL0 hr16' hrc
  have hr16 := hr16'
  have HEL := Lib.hid HEL0
  have HRC := Lib.hid hrc
  clear HEL0 hr16' hrc hs
  have cS := hBx3.s.cell
  have cP := hBx3.p.cell
  have c0 := blk_cell HS3.out.blk 0
  simp at c0
  clear hBx3
  go_still_tail 6, mixed
  repeat (with_reducible refine wpStill_step (fun K hK => ?_); go_simp; with_reducible refine hK _ ?_; clear hK K)
  still_call (HRC.out _ (HGD.out _ (Below.refl _ _).drew).1)
  repeat (with_reducible refine wpStill_step (fun K hK => ?_); go_simp; with_reducible refine hK _ ?_; clear hK K)
  with_reducible refine wpStill_nil ?_
  (try rw [show ({ heap := W3.heap, tape := W3.tape, drawn := W3.drawn + 1, os := W3.os, output := W3.output } : World) = W3.drew from rfl])
  have hB4 : Below W3.heap.size W3 W3.drew := (Below.refl _ _).drew
  obtain ⟨W4, hW4⟩ : ∃ W4, W4 = W3.drew := ⟨_, rfl⟩
  rw [← hW4] at hB4 ⊢
  clear hW4 cS cP c0
  have HS4 := Lib.hid (HS3.out.below hB4)
  have HR4 : Hid (SRun S sb (.slice AL L.length cL) W1 (.slice AL L.length cL) W4) := Lib.hid (HR3.out.trans (SRun.below hB4))
  clear hB4
  go_wp2_with (go_at_call 47; refine (all_calls s _).mono ?_; rintro e' w' ⟨rfl, rfl⟩)
  have hbox := Boxed.new W4 46 (.int .u16 s)
  have hB5 : Below W4.heap.size W4 (W4.alloc (.cells #[.int .u16 s] 46)) := (Below.refl _ _).alloc (Nat.le_refl _) _
  have hS5 := HS4.out.below hB5
  have hR5 : SRun S sb (.slice AL L.length cL) W1 (.slice AL L.length cL) (W4.alloc (.cells #[.int .u16 s] 46)) := HR4.out.trans (SRun.below hB5)
  have HZ5 := Lib.hid (And.intro hS5.low.size hR5.size)
  clear hB5
  refine wp_rangeSet s W4.heap.size w0.heap.size hr16 rfl (by simp) hbox.cell (HT0.out.keep htl hS5.low) hS5.low.size htl
   (fun pre W' => ∃ st' vl' vb', Agr g rm wk st' L ∧ SS w0 C g.length S sb A1 c1 rm.length wk L st' (accN g rm wk f L e (pre.map (·.1)) acc) vl' vb' W' ∧ SRun S sb (.slice AL L.length cL) W1 vl' W') (fun _ _ _ => False)
   (by
    rintro pre W' W'' row ⟨st', vl', vb', a1, a2, a3⟩ hg hr
    have h1 := HZ5.out.1
    have h2 := HZ5.out.2
    exact ⟨st', vl', vb', a1, a2.nc hg (fun q eq => ⟨by have := (hr q eq).1; omega, (hr q eq).2⟩), a3.own hg (fun q eq => by have := (hr q eq).1; omega)⟩)
   (fun _ _ _ _ _ h _ _ => h) ⟨st, _, vb, HAG.out, hS5, hR5⟩
   (fun x a' _ => ∃ t : Array Value, a' = { tmps := t, defers := [] } ∧ SFr hh t ∧ t.getD 6 undef = .int .i64 (x.1 : Nat)) (fun _ _ => ownFrom_pure _ _) ?assign1 ?body1 ?done1 ?stop1
  case stop1 => exact fun _ _ _ _ _ _ h _ => h.elim
  case assign1 =>
   intro l pre x W' K hi' hK
   gi_wp2
   exact hK _ _ (KeepsFrom.refl _ _) (Below.refl _ _) hi' ⟨_, rfl, ⟨rfl, rfl, rfl, rfl⟩, rfl⟩
  case done1 =>
   rintro D ys W7 hD hys ⟨st7, vl7, vb7, hA7, hS7, hR7⟩ hK7
   rw [hys, HEL.out] at hS7
   have hDW : W.heap.size ≤ D := by have h1 := HZ5.out.2; have h2 := HZ1.out; have h3 := HH.out; omega
   clear hys hS5 hR5 hbox
   go_wp2
   refine leave_marks (B := W.heap.size) [D] _ ((Marks.nil _).cons hK7 (fun E h => by cases h)) (fun E hE => by rw [List.mem_singleton.1 hE]; exact hDW) (fun w' hs => ⟨results_none rfl _ _ _, ?_⟩)
   exact ⟨⟨_, rfl⟩, st7, vl7, vb7, hA7, by rw [HSN.out]; exact hS7.shut hs HS0.out.low.size, (HR1.out.trans hR7).shut hs⟩
  case body1 =>
   clear hS5 hR5 hbox
   rintro l pre x a' W6 _ _ ⟨st6, vl6, vb6, hA6, hS6, hR6⟩ ⟨t, rfl, ⟨ht, q3, q4, q5⟩, q6⟩ hlt'
   obtain ⟨u', rfl⟩ : ∃ u : Nat → Value, t = #[u 0, u 1, u 2, u 3, u 4, u 5, u 6, u 7, u 8, u 9, u 10, u 11, u 12, u 13, u 14, u 15, u 16, u 17, u 18, u 19, u 20, u 21, u 22, u 23, u 24, u 25, u 26, u 27, u 28, u 29, u 30, u 31, u 32, u 33, u 34, u 35, u 36, u 37, u 38, u 39, u 40, u 41, u 42, u 43, u 44, u 45, u 46, u 47, u 48, u 49, u 50, u 51, u 52, u 53, u 54, u 55, u 56, u 57, u 58, u 59, u 60, u 61, u 62, u 63, u 64, u 65, u 66, u 67, u 68, u 69, u 70, u 71, u 72, u 73, u 74, u 75, u 76, u 77, u 78, u 79, u 80, u 81, u 82, u 83, u 84, u 85, u 86, u 87, u 88, u 89, u 90, u 91, u 92, u 93, u 94, u 95, u 96, u 97, u 98, u 99, u 100, u 101, u 102, u 103, u 104, u 105, u 106, u 107, u 108, u 109, u 110, u 111, u 112, u 113, u 114, u 115, u 116, u 117, u 118, u 119, u 120, u 121, u 122, u 123, u 124, u 125, u 126, u 127] := ⟨fun i => t.getD i undef, (arr_of_size t 128 ht).trans rfl⟩
   replace q3 : u' 3 = _ := q3
   replace q4 : u' 4 = _ := q4
   replace q5 : u' 5 = _ := q5
   replace q6 : u' 6 = _ := q6
   clear ht hlt'
   obtain ⟨A6, c6, rfl, hc6, hC6⟩ := Kd.R_reads hS6.lst
   rw [ints_length] at hS6 hR6 hc6 hC6
   have hxm : x.1 ∈ nextN2 g L := HEL.out ▸ x.2
   obtain ⟨hxn, hcan⟩ := nextN2_mem.1 hxm
   have hni := (canN_iff.1 hcan).1
   have hx16 : x.1 < 16 := by omega
   have hxi : ((x.1 : Nat) : Int) < (g.length : Int) := by omega
   have hBx6 := HBX.out.run hR6 hSl hsl HSZ.out
   have hP := HLO.out.part HOK.out HPB.out (rm := rm) (wk := wk)
   obtain ⟨bb, g1, g2, g3, g4, g5⟩ := earl_place (i := x.1) HGR.out HV.out HPB.out hP HLO.out.nd.1 hA6.ag HPP.out HBITS.out hxn (canN_needs hcan)
   have HAST := Lib.hid (hA6.step HOK.out HPB.out HLO.out hxn hcan)
   have HACC : Hid (accN g rm wk f L e ((pre ++ [x]).map (·.1)) acc = searchN g rm wk f (L ++ [x.1]) (max e ((placeS g rm wk (rowO g rm wk L) x.1 : Nat) + (rdTk g x.1).f0)) (accN g rm wk f L e (pre.map (·.1)) acc)) := Lib.hid (by rw [List.map_append, List.map_cons, List.map_nil, accN_snoc])
   generalize accN g rm wk f L e (pre.map (·.1)) acc = acc6 at hS6 HACC
   generalize placeS g rm wk (rowO g rm wk L) x.1 = r at g2 g3 g4 g5 HAST HACC
   have hrm3 : rm.length = 3 := (roomB_facts (placeB_facts HPB.out).1).1
   have hr160 : r ≤ 180 := by omega
   have hl6 := hA6.len
   have HE := Lib.hid (fun (W' : World) (hW : Below w0.heap.size w0 W') (hI : IRow W' sb st6) => earl_calls C g ns (some ⟨sb, 0, none⟩) g.length st6 p x.1 A1 c1 rm wk bb r HGR.out HOK.out hl6 (fun i => by have := hA6.b i; omega) HPP.out hxn hrm3 g1 g2 (by omega) g4 g5 W' (HG0.out.below hW) (HT0.out.keep htl hW) (hI.C (by rw [hl6]; omega)) (Kd.C_below HR0.out hW))
   rw [hl6] at HE
   have HA6 := Lib.hid hA6
   have HR6 := Lib.hid hR6
   have HS6 := Lib.hid hS6
   have hBd6 : Below W6.heap.size W6 W6.drew := (Below.refl _ _).drew
   have hSd := hS6.below hBd6
   have bS := (boxed_low hBx6.s hBd6).cell
   have bP := (boxed_low hBx6.p hBd6).cell
   have c0 := blk_cell hSd.blk 0
   have c1' := blk_cell hSd.blk 1
   have c2 := blk_cell hSd.blk 2
   have c3 := blk_cell hSd.blk 3
   simp at c0 c1' c2 c3
   have HSD := Lib.hid hSd
   have HBD6 := Lib.hid hBd6
   clear hA6 hR6 hS6 hSd hBd6 hBx6 hP g1 g2 g3 g4 g5 hrm3 hl6 hc6 hC6 hxm
   gi_wp2
   refine wpIn_region_held (S := fun w' => w'.cell? ⟨hh, 0, none⟩ = some (.pointer (some ⟨S, 0, none⟩)) ∧ w'.cell? ⟨hh + 1, 0, none⟩ = some (.int .u16 (p : Nat)) ∧ w'.cell? ⟨S, 0, none⟩ = some (.pointer (some ⟨C, 0, none⟩)) ∧ w'.cell? ⟨S, 1, none⟩ = some (.slice A1 rm.length c1) ∧ w'.cell? ⟨S, 2, none⟩ = some (.int .i64 wk) ∧ w'.cell? ⟨S, 3, none⟩ = some (.slice (some ⟨sb, 0, none⟩) g.length g.length)) mixed (by kernel_rfl) (fun ⟨_, _, h⟩ => h) ?_
   have hHeld : (fun w' => w'.cell? ⟨hh, 0, none⟩ = some (.pointer (some ⟨S, 0, none⟩)) ∧ w'.cell? ⟨hh + 1, 0, none⟩ = some (.int .u16 (p : Nat)) ∧ w'.cell? ⟨S, 0, none⟩ = some (.pointer (some ⟨C, 0, none⟩)) ∧ w'.cell? ⟨S, 1, none⟩ = some (.slice A1 rm.length c1) ∧ w'.cell? ⟨S, 2, none⟩ = some (.int .i64 wk) ∧ w'.cell? ⟨S, 3, none⟩ = some (.slice (some ⟨sb, 0, none⟩) g.length g.length)) W6.drew := ⟨bS, bP, c0, c1', c2, c3⟩
   clear bS bP c0 c1' c2 c3
   refine take_lit (i := 0) (v := ?v14) rfl (by kernel_rfl) (by kernel_rfl) (by kernel_rfl) (fun _ _ _ h => h) (Or.inl ⟨by rfl, ?hy14⟩) hHeld ?rest14
   case hy14 =>
    rintro ww ⟨hs1, hs2, hs3, hs4, hs5, hs6⟩
    go_simp
    (try with_reducible rfl)
   case rest14 =>
   try simp only [Act.put, List.setIfInBounds_toArray, List.set_cons_zero, List.set_cons_succ]
   refine take_lit (i := 1) (v := ?v15) rfl (by kernel_rfl) (by kernel_rfl) (by kernel_rfl) (fun _ _ _ h => h) (Or.inl ⟨by rfl, ?hy15⟩) hHeld ?rest15
   case hy15 =>
    rintro ww ⟨hs1, hs2, hs3, hs4, hs5, hs6⟩
    go_simp
    (try with_reducible rfl)
   case rest15 =>
   try simp only [Act.put, List.setIfInBounds_toArray, List.set_cons_zero, List.set_cons_succ]
   refine take_lit (i := 2) (v := ?v16) rfl (by kernel_rfl) (by kernel_rfl) (by kernel_rfl) (fun _ _ _ h => h) (Or.inl ⟨by rfl, ?hy16⟩) hHeld ?rest16
   case hy16 =>
    rintro ww ⟨hs1, hs2, hs3, hs4, hs5, hs6⟩
    go_simp
    (try with_reducible rfl)
   case rest16 =>
   try simp only [Act.put, List.setIfInBounds_toArray, List.set_cons_zero, List.set_cons_succ]
   refine take_lit (i := 3) (v := ?v17) rfl (by kernel_rfl) (by kernel_rfl) (by kernel_rfl) (fun _ _ _ h => h) (Or.inl ⟨by rfl, ?hy17⟩) hHeld ?rest17
   case hy17 =>
    rintro ww ⟨hs1, hs2, hs3, hs4, hs5, hs6⟩
    go_simp
    (try with_reducible rfl)
   case rest17 =>
   try simp only [Act.put, List.setIfInBounds_toArray, List.set_cons_zero, List.set_cons_succ]
   refine take_lit (i := 4) (v := ?v18) rfl (by kernel_rfl) (by kernel_rfl) (by kernel_rfl) (fun _ _ _ h => h) (Or.inl ⟨by rfl, ?hy18⟩) hHeld ?rest18
   case hy18 =>
    rintro ww ⟨hs1, hs2, hs3, hs4, hs5, hs6⟩
    go_simp
    (try with_reducible rfl)
   case rest18 =>
   try simp only [Act.put, List.setIfInBounds_toArray, List.set_cons_zero, List.set_cons_succ]
   refine take_lit (i := 5) (v := ?v19) rfl (by kernel_rfl) (by kernel_rfl) (by kernel_rfl) (fun _ _ _ h => h) (Or.inl ⟨by rfl, ?hy19⟩) hHeld ?rest19
   case hy19 =>
    rintro ww ⟨hs1, hs2, hs3, hs4, hs5, hs6⟩
    go_simp
    (try with_reducible rfl)
   case rest19 =>
   try simp only [Act.put, List.setIfInBounds_toArray, List.set_cons_zero, List.set_cons_succ]
   refine take_lit (i := 6) (v := ?v20) rfl (by kernel_rfl) (by kernel_rfl) (by kernel_rfl) (fun _ _ _ h => h) (Or.inl ⟨by rfl, ?hy20⟩) hHeld ?rest20
   case hy20 =>
    rintro ww ⟨hs1, hs2, hs3, hs4, hs5, hs6⟩
    go_simp
    (try with_reducible rfl)
   case rest20 =>
   try simp only [Act.put, List.setIfInBounds_toArray, List.set_cons_zero, List.set_cons_succ]
   refine take_lit (i := 7) (v := ?v21) rfl (by kernel_rfl) (by kernel_rfl) (by kernel_rfl) (fun _ _ _ h => h) (Or.inl ⟨by rfl, ?hy21⟩) hHeld ?rest21
   case hy21 =>
    rintro ww ⟨hs1, hs2, hs3, hs4, hs5, hs6⟩
    go_simp
    (try with_reducible rfl)
   case rest21 =>
   try simp only [Act.put, List.setIfInBounds_toArray, List.set_cons_zero, List.set_cons_succ]
   refine take_lit (i := 8) (v := ?v22) rfl (by kernel_rfl) (by kernel_rfl) (by kernel_rfl) (fun _ _ _ h => h) (Or.inl ⟨by rfl, ?hy22⟩) hHeld ?rest22
   case hy22 =>
    rintro ww ⟨hs1, hs2, hs3, hs4, hs5, hs6⟩
    go_simp
    (try with_reducible rfl)
   case rest22 =>
   try simp only [Act.put, List.setIfInBounds_toArray, List.set_cons_zero, List.set_cons_succ]
   refine take_lit (i := 9) (v := ?v23) rfl (by kernel_rfl) (by kernel_rfl) (by kernel_rfl) (fun _ _ _ h => h) (Or.inl ⟨by rfl, ?hy23⟩) hHeld ?rest23
   case hy23 =>
    rintro ww ⟨hs1, hs2, hs3, hs4, hs5, hs6⟩
    go_simp
    (try with_reducible rfl)
   case rest23 =>
   try simp only [Act.put, List.setIfInBounds_toArray, List.set_cons_zero, List.set_cons_succ]
   refine take_lit (i := 10) (v := ?v24) rfl (by kernel_rfl) (by kernel_rfl) (by kernel_rfl) (fun _ _ _ h => h) (Or.inl ⟨by rfl, ?hy24⟩) hHeld ?rest24
   case hy24 =>
    rintro ww ⟨hs1, hs2, hs3, hs4, hs5, hs6⟩
    go_simp
    (try with_reducible rfl)
   case rest24 =>
   try simp only [Act.put, List.setIfInBounds_toArray, List.set_cons_zero, List.set_cons_succ]
   refine take_lit (i := 11) (v := ?v25) rfl (by kernel_rfl) (by kernel_rfl) (by kernel_rfl) (fun _ _ _ h => h) (Or.inl ⟨by rfl, ?hy25⟩) hHeld ?rest25
   case hy25 =>
    rintro ww ⟨hs1, hs2, hs3, hs4, hs5, hs6⟩
    go_simp
    (try with_reducible rfl)
   case rest25 =>
   try simp only [Act.put, List.setIfInBounds_toArray, List.set_cons_zero, List.set_cons_succ]
   refine take_lit (i := 12) (v := ?v26) rfl (by kernel_rfl) (by kernel_rfl) (by kernel_rfl) (fun _ _ _ h => h) (Or.inl ⟨by rfl, ?hy26⟩) hHeld ?rest26
   case hy26 =>
    rintro ww ⟨hs1, hs2, hs3, hs4, hs5, hs6⟩
    go_simp
    (try with_reducible rfl)
   case rest26 =>
   try simp only [Act.put, List.setIfInBounds_toArray, List.set_cons_zero, List.set_cons_succ]
   refine take_lit (i := 13) (v := ?v27) rfl (by kernel_rfl) (by kernel_rfl) (by kernel_rfl) (fun _ _ _ h => h) (Or.inl ⟨by rfl, ?hy27⟩) hHeld ?rest27
   case hy27 =>
    rintro ww ⟨hs1, hs2, hs3, hs4, hs5, hs6⟩
    go_simp
    (try with_reducible rfl)
   case rest27 =>
   try simp only [Act.put, List.setIfInBounds_toArray, List.set_cons_zero, List.set_cons_succ]
   refine take_lit (i := 14) (v := ?v28) rfl (by kernel_rfl) (by kernel_rfl) (by kernel_rfl) (fun _ _ _ h => h) (Or.inl ⟨by rfl, ?hy28⟩) hHeld ?rest28
   case hy28 =>
    rintro ww ⟨hs1, hs2, hs3, hs4, hs5, hs6⟩
    go_simp
    (try with_reducible rfl)
   case rest28 =>
   try simp only [Act.put, List.setIfInBounds_toArray, List.set_cons_zero, List.set_cons_succ]
   refine take_lit (i := 15) (v := ?v29) rfl (by kernel_rfl) (by kernel_rfl) (by kernel_rfl) (fun _ _ _ h => h) (Or.inl ⟨by rfl, ?hy29⟩) hHeld ?rest29
   case hy29 =>
    rintro ww ⟨hs1, hs2, hs3, hs4, hs5, hs6⟩
    go_simp
    (try with_reducible rfl)
   case rest29 =>
   try simp only [Act.put, List.setIfInBounds_toArray, List.set_cons_zero, List.set_cons_succ]
   refine take_lit (i := 16) (v := ?v30) rfl (by kernel_rfl) (by kernel_rfl) (by kernel_rfl) (fun _ _ _ h => h) (Or.inl ⟨by rfl, ?hy30⟩) hHeld ?rest30
   case hy30 =>
    rintro ww ⟨hs1, hs2, hs3, hs4, hs5, hs6⟩
    go_simp
    (try with_reducible rfl)
   case rest30 =>
   try simp only [Act.put, List.setIfInBounds_toArray, List.set_cons_zero, List.set_cons_succ]
   refine take_lit (i := 17) (v := ?v31) rfl (by kernel_rfl) (by kernel_rfl) (by kernel_rfl) (fun _ _ _ h => h) (Or.inl ⟨by rfl, ?hy31⟩) hHeld ?rest31
   case hy31 =>
    rintro ww ⟨hs1, hs2, hs3, hs4, hs5, hs6⟩
    go_simp
    (try with_reducible rfl)
   case rest31 =>
   try simp only [Act.put, List.setIfInBounds_toArray, List.set_cons_zero, List.set_cons_succ]
   refine take_lit (i := 18) (v := ?v32) rfl (by kernel_rfl) (by kernel_rfl) (by kernel_rfl) (fun _ _ _ h => h) (Or.inl ⟨by rfl, ?hy32⟩) hHeld ?rest32
   case hy32 =>
    rintro ww ⟨hs1, hs2, hs3, hs4, hs5, hs6⟩
    go_simp
    (try with_reducible rfl)
   case rest32 =>
   try simp only [Act.put, List.setIfInBounds_toArray, List.set_cons_zero, List.set_cons_succ]
   refine take_lit (i := 19) (v := ?v33) rfl (by kernel_rfl) (by kernel_rfl) (by kernel_rfl) (fun _ _ _ h => h) (Or.inl ⟨by rfl, ?hy33⟩) hHeld ?rest33
   case hy33 =>
    rintro ww ⟨hs1, hs2, hs3, hs4, hs5, hs6⟩
    go_simp
    (try with_reducible rfl)
   case rest33 =>
   try simp only [Act.put, List.setIfInBounds_toArray, List.set_cons_zero, List.set_cons_succ]
   refine take_lit (i := 20) (v := ?v34) rfl (by kernel_rfl) (by kernel_rfl) (by kernel_rfl) (fun _ _ _ h => h) (Or.inl ⟨by rfl, ?hy34⟩) hHeld ?rest34
   case hy34 =>
    rintro ww ⟨hs1, hs2, hs3, hs4, hs5, hs6⟩
    go_simp
    (try with_reducible rfl)
   case rest34 =>
   try simp only [Act.put, List.setIfInBounds_toArray, List.set_cons_zero, List.set_cons_succ]
   refine take_lit (i := 21) (v := ?v35) rfl (by kernel_rfl) (by kernel_rfl) (by kernel_rfl) (fun _ _ _ h => h) (Or.inl ⟨by rfl, ?hy35⟩) hHeld ?rest35
   case hy35 =>
    rintro ww ⟨hs1, hs2, hs3, hs4, hs5, hs6⟩
    go_simp
    (try with_reducible rfl)
   case rest35 =>
   try simp only [Act.put, List.setIfInBounds_toArray, List.set_cons_zero, List.set_cons_succ]
   refine take_lit (i := 22) (v := ?v36) rfl (by kernel_rfl) (by kernel_rfl) (by kernel_rfl) (fun _ _ _ h => h) (Or.inl ⟨by rfl, ?hy36⟩) hHeld ?rest36
   case hy36 =>
    rintro ww ⟨hs1, hs2, hs3, hs4, hs5, hs6⟩
    go_simp
    (try with_reducible rfl)
   case rest36 =>
   try simp only [Act.put, List.setIfInBounds_toArray, List.set_cons_zero, List.set_cons_succ]
   refine wpAnyH_ready (rs := [23]) (by kernel_rfl) (by simp) ?_
   refine cons_lit rfl (fun K hK => ?_) AllReadyH.nil
   go_simp
   go_at_call 60
   refine (HE.out _ HSD.out.low HSD.out.row).mono ?_
   rintro E w7 ⟨rfl, hB7⟩
   refine hK.out _ _ ⟨pw_cell_below hB7 hHeld.1, pw_cell_below hB7 hHeld.2.1, pw_cell_below hB7 hHeld.2.2.1, pw_cell_below hB7 hHeld.2.2.2.1, pw_cell_below hB7 hHeld.2.2.2.2.1, pw_cell_below hB7 hHeld.2.2.2.2.2⟩ (fun hHeld => ?_)
   clear hK K
   try simp only [Act.put, List.setIfInBounds_toArray, List.set_cons_zero, List.set_cons_succ]
   have HS7 := Lib.hid (HSD.out.below hB7)
   have cr := HS7.out.row.cell x.1 (by have := HA6.out.len; omega)
   have fr := HS7.out.row.frozen x.1
   have HB7 := Lib.hid hB7
   clear hB7
   refine take_lit (i := 24) (v := ?v37) rfl (by kernel_rfl) (by kernel_rfl) (by kernel_rfl) (fun _ _ _ h => h) (Or.inl ⟨by rfl, ?hy37⟩) hHeld ?rest37
   case hy37 =>
    rintro ww ⟨hs1, hs2, hs3, hs4, hs5, hs6⟩
    go_simp
    (try with_reducible rfl)
   case rest37 =>
   try simp only [Act.put, List.setIfInBounds_toArray, List.set_cons_zero, List.set_cons_succ]
   refine wpAnyH_ready (rs := [25]) (by kernel_rfl) (by simp) ?_
   refine cons_lit rfl (fun K hK => ?_) AllReadyH.nil
   go_simp
   refine hK.out _ _ (⟨cell_far2 hHeld.1 (by show sb ≠ hh; omega), cell_far2 hHeld.2.1 (by show sb ≠ hh + 1; omega), cell_far2 hHeld.2.2.1 (by show sb ≠ S; omega), cell_far2 hHeld.2.2.2.1 (by show sb ≠ S; omega), cell_far2 hHeld.2.2.2.2.1 (by show sb ≠ S; omega), cell_far2 hHeld.2.2.2.2.2 (by show sb ≠ S; omega)⟩) (fun hHeld => ?_)
   clear hK K
   try simp only [Act.put, List.setIfInBounds_toArray, List.set_cons_zero, List.set_cons_succ]
   refine wpAnyH_done (by kernel_rfl) ?_ _
   have hS8 := HS7.out.setStart hSb hs0 x.1 (r : Nat)
   have hR8 : SRun S sb (.slice A6 L.length c6) W6 (.slice A6 L.length c6) (w7.setCell ⟨sb, x.1, none⟩ (.int .i64 (r : Nat))) := (SRun.below HBD6.out).trans ((SRun.below HB7.out).trans (SRun.set w7 (p := ⟨sb, x.1, none⟩) (.inr rfl) _))
   obtain ⟨W8, hW8⟩ : ∃ W8, W8 = w7.setCell ⟨sb, x.1, none⟩ (.int .i64 (r : Nat)) := ⟨_, rfl⟩
   rw [← hW8] at hS8 hR8 ⊢
   clear hW8 cr fr hHeld
   have hBd8 : Below W8.heap.size W8 W8.drew := (Below.refl _ _).drew
   have HR8 : Hid (SRun S sb (.slice A6 L.length c6) W6 (.slice A6 L.length c6) W8.drew) := Lib.hid (hR8.trans (SRun.below hBd8))
   have HS8 := Lib.hid (And.intro (hS8.below hBd8) trivial)
   have hBx8 := HBX.out.run (HR6.out.trans HR8.out) hSl hsl HSZ.out
   have HBX8 := Lib.hid hBx8
   have HNE := Lib.hid (Kd.R_ne HS8.out.1.lst hBx8.s (by decide))
   have HFR : Hid (∀ k, W8.drew.heap.size ≤ k → k ≠ S ∧ k ≠ sb) := Lib.hid (fun k hk => ⟨by have := blk_lt HS8.out.1.blk; omega, by have := blk_lt HS8.out.1.row; omega⟩)
   have bS := hBx8.s.cell
   have c4d := blk_cell HS8.out.1.blk 4
   simp at c4d
   clear hS8 hR8 hBd8 hBx8
   gi_wp2
   refine wpIn_region_held (S := fun w' => w'.cell? ⟨hh, 0, none⟩ = some (.pointer (some ⟨S, 0, none⟩))) mixed (by kernel_rfl) (fun ⟨_, _, h⟩ => h) ?_
   have hHeld : W8.drew.cell? ⟨hh, 0, none⟩ = some (.pointer (some ⟨S, 0, none⟩)) := bS
   clear bS
   refine take_lit (i := 0) (v := ?v38) rfl (by kernel_rfl) (by kernel_rfl) (by kernel_rfl) (fun _ _ _ h => h) (Or.inl ⟨by rfl, ?hy38⟩) hHeld ?rest38
   case hy38 =>
    rintro ww hs1
    go_simp
    (try with_reducible rfl)
   case rest38 =>
   try simp only [Act.put, List.setIfInBounds_toArray, List.set_cons_zero, List.set_cons_succ]
   refine take_lit (i := 1) (v := ?v39) rfl (by kernel_rfl) (by kernel_rfl) (by kernel_rfl) (fun _ _ _ h => h) (Or.inl ⟨by rfl, ?hy39⟩) hHeld ?rest39
   case hy39 =>
    rintro ww hs1
    go_simp
    (try with_reducible rfl)
   case rest39 =>
   try simp only [Act.put, List.setIfInBounds_toArray, List.set_cons_zero, List.set_cons_succ]
   refine take_lit (i := 2) (v := ?v40) rfl (by kernel_rfl) (by kernel_rfl) (by kernel_rfl) (fun _ _ _ h => h) (Or.inl ⟨by rfl, ?hy40⟩) hHeld ?rest40
   case hy40 =>
    rintro ww hs1
    go_simp
    (try with_reducible rfl)
   case rest40 =>
   try simp only [Act.put, List.setIfInBounds_toArray, List.set_cons_zero, List.set_cons_succ]
   refine take_lit (i := 3) (v := ?v41) rfl (by kernel_rfl) (by kernel_rfl) (by kernel_rfl) (fun _ _ _ h => h) (Or.inl ⟨by rfl, ?hy41⟩) hHeld ?rest41
   case hy41 =>
    rintro ww hs1
    go_simp
    (try with_reducible rfl)
   case rest41 =>
   try simp only [Act.put, List.setIfInBounds_toArray, List.set_cons_zero, List.set_cons_succ]
   refine take_lit (i := 5) (v := ?v42) rfl (by kernel_rfl) (by kernel_rfl) (by kernel_rfl) (fun _ _ _ h => h) (Or.inl ⟨by rfl, ?hy42⟩) hHeld ?rest42
   case hy42 =>
    rintro ww hs1
    go_simp
    (try with_reducible rfl)
   case rest42 =>
   try simp only [Act.put, List.setIfInBounds_toArray, List.set_cons_zero, List.set_cons_succ]
   refine wpAnyH_ready (rs := [4, 6]) (by kernel_rfl) (by simp) ?_
   refine cons_lit rfl (fun K hK => ?_) (cons_lit rfl (fun K hK => ?_) AllReadyH.nil)
   ·
    go_simp
    refine hK.out _ _ hHeld (fun hHeld => ?_)
    clear hK K
    try simp only [Act.put, List.setIfInBounds_toArray, List.set_cons_zero, List.set_cons_succ]
    refine wpAnyH_ready (rs := [6]) (by kernel_rfl) (by simp) ?_
    refine cons_lit rfl (fun K hK => ?_) AllReadyH.nil
    go_simp
    refine hK.out _ _ (cell_alloc2 hHeld) (fun hHeld => ?_)
    clear hK K
    try simp only [Act.put, List.setIfInBounds_toArray, List.set_cons_zero, List.set_cons_succ]
    refine wpAnyH_ready (rs := [7]) (by kernel_rfl) (by simp) ?_
    refine cons_lit rfl (fun K hK => ?_) AllReadyH.nil
    refine Kd.R_append_step (Kd.int .i64) (w0 := w0) w0.heap.size rfl (.tmp 82) (.tmp 84) 24 3 (.int .i64 0) 8 rfl Tryz.underlying24 infoInt rfl (by decide) (by omega) (.slice A6 L.length c6) (ints L) ((x.1 : Nat) : Int) [.int .i64 ((x.1 : Nat) : Int)] (fun k => k ≠ S ∧ k ≠ sb) (fun _ => False) rfl rfl rfl (fun _ h => h.elim) HFR.out HS8.out.1.lst HS8.out.1.low HS8.out.1.low.size (by rw [ints_length]; omega) ?_
    intro v1 w1 hO1 hB1 hg1 hat1
    obtain ⟨A11, c11, e11, hc11, _⟩ := Kd.R_reads hO1
    obtain ⟨n11, hn11⟩ : ∃ n11 : Nat, n11 = (ints L ++ [((x.1 : Nat) : Int)]).length := ⟨_, rfl⟩
    rw [← hn11] at e11 hc11
    subst e11
    clear hn11 hc11
    have hbw := (HBX8.out.s.kept hg1 HNE.out).cell
    refine hK.out _ _ hbw (fun hHeld => ?_)
    clear hK K
    try simp only [Act.put, List.setIfInBounds_toArray, List.set_cons_zero, List.set_cons_succ]
    have kS1 := (hg1.block S (blk_lt HS8.out.1.blk) HS8.out.1.neS).trans HS8.out.1.blk
    have c4w := blk_cell kS1 4
    simp at c4w
    have f4w := blk_frozen kS1 4
    clear kS1 hbw
    refine take_lit (i := 8) (v := ?v43) rfl (by kernel_rfl) (by kernel_rfl) (by kernel_rfl) (fun _ _ _ h => h) (Or.inl ⟨by rfl, ?hy43⟩) hHeld ?rest43
    case hy43 =>
     rintro ww hs1
     go_simp
     (try with_reducible rfl)
    case rest43 =>
    try simp only [Act.put, List.setIfInBounds_toArray, List.set_cons_zero, List.set_cons_succ]
    refine take_lit (i := 9) (v := ?v44) rfl (by kernel_rfl) (by kernel_rfl) (by kernel_rfl) (fun _ _ _ h => h) (Or.inl ⟨by rfl, ?hy44⟩) hHeld ?rest44
    case hy44 =>
     rintro ww hs1
     go_simp
     (try with_reducible rfl)
    case rest44 =>
    try simp only [Act.put, List.setIfInBounds_toArray, List.set_cons_zero, List.set_cons_succ]
    refine wpAnyH_ready (rs := [10]) (by kernel_rfl) (by simp) ?_
    refine cons_lit rfl (fun K hK => ?_) AllReadyH.nil
    go_simp
    refine hK.out _ _ (cell_far2 hHeld (by show S ≠ hh; omega)) (fun hHeld => ?_)
    clear hK K
    try simp only [Act.put, List.setIfInBounds_toArray, List.set_cons_zero, List.set_cons_succ]
    refine wpAnyH_done (by kernel_rfl) ?_ _
    clear c4w f4w hHeld
    have HE1 : Hid (ints L ++ [((x.1 : Nat) : Int)] = ints (L ++ [x.1])) := Lib.hid (by simp [ints])
    rw [HE1.out] at hO1
    obtain ⟨W11, hW11⟩ : ∃ W11, W11 = w1.setCell ⟨S, 4, none⟩ (.slice A11 n11 c11) := ⟨_, rfl⟩
    have hS11 := HS8.out.1.setList hSb hS0 hO1 hg1 hat1 hB1
    have hR11 : SRun S sb (.slice A6 L.length c6) W6 (.slice A11 n11 c11) (w1.setCell ⟨S, 4, none⟩ (.slice A11 n11 c11)) := HR8.out.trans ((SRun.grown hg1 hat1).trans (SRun.set w1 (p := ⟨S, 4, none⟩) (.inl rfl) (.slice A11 n11 c11)))
    rw [← hW11] at hS11 hR11 ⊢
    clear hW11
    have HS11 := Lib.hid hS11
    have HR11 := Lib.hid hR11
    have hBx11 := HBX.out.run (HR6.out.trans hR11) hSl hsl HSZ.out
    have bS := hBx11.s.cell
    have bP := hBx11.p.cell
    have bE := hBx11.e.cell
    have c3 := blk_cell hS11.blk 3
    have c0 := blk_cell hS11.blk 0
    simp at c3 c0
    have cr := hS11.row.cell x.1 (by rw [List.length_set]; have := HA6.out.len; omega)
    rw [getD_setL, if_pos ⟨rfl, by have := HA6.out.len; omega⟩] at cr
    obtain ⟨Ag, cg, An, cn, Ao, co, vb', va', k1, k2, k3, _⟩ := HG0.out.below hS11.low
    have cC0 := blk_cell k1 0
    simp at cC0
    obtain ⟨adg, A5, c5, eAg, hx0, hx1, hx2, hx3, _⟩ := at_Tk k2 x.1 hxn
    subst eAg
    have htx := HOK.out.2.1 x.1
    have HACC2 := HACC
    generalize (rdTk g x.1).f0 = tm at hx0 htx HACC2
    have hwr : IntKind.i64.wrap ((r : Nat) + tm) = (r : Nat) + tm := IntWalk.i64_in _ (by omega)
    obtain ⟨M, hM⟩ : ∃ M, M = max e ((r : Nat) + tm) := ⟨_, rfl⟩
    rw [← hM] at HACC2
    have hmx : (if e < (r : Nat) + tm then (r : Nat) + tm else e) = M := by rw [max_is, ← hM]
    have hMb : 0 ≤ M ∧ M ≤ 200 := by omega
    have HIH := Lib.hid (ih (L ++ [x.1]) (p ||| 2 ^ x.1) M acc6 (st6.set x.1 (r : Nat)) (.slice A11 n11 c11) vb6 W11.drew (HLO.out.snoc hxn hcan) (by rw [List.length_append, List.length_singleton]; have := HLEN.out; omega) (Nat.or_lt_two_pow HPP.out (Nat.pow_lt_pow_right (by omega) hxn)) (bits_add HBITS.out) HAST.out hMb (hS11.below (Below.refl _ _).drew))
    clear hS11 hR11 hBx11 hx1 hx2 hx3 k1 k2 k3 hM hMb hO1 hg1 hat1 hB1
    gi_wp2
    refine wpIn_region_still_tail 25 mixed (by kernel_rfl) (by kernel_rfl) (fun ⟨_, _, h⟩ => h) ?_
    simp only [List.take_succ_cons, List.take_zero, List.drop_succ_cons, List.drop_zero]
    repeat (with_reducible refine wpStill_step (fun K hK => ?_); go_simp; with_reducible refine hK _ ?_; clear hK K)
    still_call (with_calls p x.1 hp16 hx16 _)
    repeat (with_reducible refine wpStill_step (fun K hK => ?_); go_simp; with_reducible refine hK _ ?_; clear hK K)
    with_reducible refine wpStill_nil ?_
    clear hwr hmx bS bP bE c3 c0 cr cC0 hx0
    go_wp2_with (go_at_call 32; refine HIH.out.mono ?_; rintro E w9 ⟨⟨vv, rfl⟩, st9, vl9, vb9, hA9, hS9, hR9⟩)
    obtain ⟨A9, c9, rfl, hc9, hC9⟩ := Kd.R_reads hS9.lst
    obtain ⟨ad9, rfl, _⟩ := hC9.2.2 (by rw [ints_length, List.length_append, List.length_singleton]; omega)
    obtain ⟨n9, HN9⟩ : ∃ n9 : Nat, Hid (n9 = (ints (L ++ [x.1])).length ∧ n9 = L.length + 1) := ⟨_, Lib.hid ⟨rfl, by rw [ints_length, List.length_append, List.length_singleton]⟩⟩
    rw [← HN9.out.1] at hS9 hR9 hc9
    have hcL9 : (L.length : Int) ≤ (c9 : Int) := by have := HN9.out.2; omega
    have hrd : SRun S sb (.slice A11 n11 c11) W11 (.slice A11 n11 c11) W11.drew := SRun.below (Below.refl _ _).drew
    have hR9' := HR11.out.trans (hrd.trans hR9)
    have hBx9 := HBX.out.run (HR6.out.trans hR9') hSl hsl HSZ.out
    have bS := hBx9.s.cell
    have c4 := blk_cell hS9.blk 4
    simp at c4
    have f4 := blk_frozen hS9.blk 4
    have hwn : IntKind.i64.wrap ((n9 : Int) - 1) = (L.length : Nat) := by rw [show (n9 : Int) - 1 = (L.length : Nat) by have := HN9.out.2; omega]; exact IntWalk.i64_in _ (by omega)
    have HS9 := Lib.hid hS9
    have HR9 := Lib.hid hR9'
    have HA9 := Lib.hid hA9
    have hLn : (0 : Int) ≤ (L.length : Int) := by omega
    have hLc : L.length ≤ c9 := by have := HN9.out.2; omega
    clear hS9 hR9 hA9 hBx9 hrd hR9' hC9 hc9
    gi_wp2
    refine wpIn_region_still_tail 14 mixed (by kernel_rfl) (by kernel_rfl) (fun ⟨_, _, h⟩ => h) ?_
    simp only [List.take_succ_cons, List.take_zero, List.drop_succ_cons, List.drop_zero]
    repeat (with_reducible refine wpStill_step (fun K hK => ?_); go_simp; with_reducible refine hK _ ?_; clear hK K)
    with_reducible refine wpStill_nil ?_
    clear hwn
    go_wp2
    gi_wp2
    have hSd := HS9.out.below (Below.refl w9.heap.size w9).drew
    have hSF := hSd.pop hSb hS0
    have hRF : SRun S sb (.slice A6 L.length c6) W6 (.slice (some ad9) L.length c9) (w9.drew.setCell ⟨S, 4, none⟩ (.slice (some ad9) L.length c9)) := (HR9.out.trans ((SRun.below (Below.refl w9.heap.size w9).drew).trans (SRun.set w9.drew (p := ⟨S, 4, none⟩) (.inl rfl) (.slice (some ad9) L.length c9)))).pop rfl
    refine ⟨(HS6.out.others hRF).from _, below_mid HS6.out.low hSF.low hRF.size, st9, _, vb9, HA9.out.back hni, ?_, HR6.out.trans hRF⟩
    rw [HACC2.out]
    exact hSF
   ·
    go_simp
    refine hK.out _ _ (cell_alloc2 hHeld) (fun hHeld => ?_)
    clear hK K
    try simp only [Act.put, List.setIfInBounds_toArray, List.set_cons_zero, List.set_cons_succ]
    have c4a : (W8.alloc (.cells #[.int .i64 ((x.1 : Nat) : Int)] 3)).cell? ⟨S, 4, none⟩ = some (.slice A6 L.length c6) := cell_alloc2 (w := W8) c4d
    refine wpAnyH_ready (rs := [4]) (by kernel_rfl) (by simp) ?_
    refine cons_lit rfl (fun K hK => ?_) AllReadyH.nil
    go_simp
    refine hK.out _ _ hHeld (fun hHeld => ?_)
    clear hK K
    try simp only [Act.put, List.setIfInBounds_toArray, List.set_cons_zero, List.set_cons_succ]
    clear c4a
    refine wpAnyH_ready (rs := [7]) (by kernel_rfl) (by simp) ?_
    refine cons_lit rfl (fun K hK => ?_) AllReadyH.nil
    refine Kd.R_append_step (Kd.int .i64) (w0 := w0) w0.heap.size rfl (.tmp 82) (.tmp 84) 24 3 (.int .i64 0) 8 rfl Tryz.underlying24 infoInt rfl (by decide) (by omega) (.slice A6 L.length c6) (ints L) ((x.1 : Nat) : Int) [.int .i64 ((x.1 : Nat) : Int)] (fun k => k ≠ S ∧ k ≠ sb) (fun _ => False) rfl rfl rfl (fun _ h => h.elim) HFR.out HS8.out.1.lst HS8.out.1.low HS8.out.1.low.size (by rw [ints_length]; omega) ?_
    intro v1 w1 hO1 hB1 hg1 hat1
    obtain ⟨A11, c11, e11, hc11, _⟩ := Kd.R_reads hO1
    obtain ⟨n11, hn11⟩ : ∃ n11 : Nat, n11 = (ints L ++ [((x.1 : Nat) : Int)]).length := ⟨_, rfl⟩
    rw [← hn11] at e11 hc11
    subst e11
    clear hn11 hc11
    have hbw := (HBX8.out.s.kept hg1 HNE.out).cell
    refine hK.out _ _ hbw (fun hHeld => ?_)
    clear hK K
    try simp only [Act.put, List.setIfInBounds_toArray, List.set_cons_zero, List.set_cons_succ]
    have kS1 := (hg1.block S (blk_lt HS8.out.1.blk) HS8.out.1.neS).trans HS8.out.1.blk
    have c4w := blk_cell kS1 4
    simp at c4w
    have f4w := blk_frozen kS1 4
    clear kS1 hbw
    refine take_lit (i := 8) (v := ?v45) rfl (by kernel_rfl) (by kernel_rfl) (by kernel_rfl) (fun _ _ _ h => h) (Or.inl ⟨by rfl, ?hy45⟩) hHeld ?rest45
    case hy45 =>
     rintro ww hs1
     go_simp
     (try with_reducible rfl)
    case rest45 =>
    try simp only [Act.put, List.setIfInBounds_toArray, List.set_cons_zero, List.set_cons_succ]
    refine take_lit (i := 9) (v := ?v46) rfl (by kernel_rfl) (by kernel_rfl) (by kernel_rfl) (fun _ _ _ h => h) (Or.inl ⟨by rfl, ?hy46⟩) hHeld ?rest46
    case hy46 =>
     rintro ww hs1
     go_simp
     (try with_reducible rfl)
    case rest46 =>
    try simp only [Act.put, List.setIfInBounds_toArray, List.set_cons_zero, List.set_cons_succ]
    refine wpAnyH_ready (rs := [10]) (by kernel_rfl) (by simp) ?_
    refine cons_lit rfl (fun K hK => ?_) AllReadyH.nil
    go_simp
    refine hK.out _ _ (cell_far2 hHeld (by show S ≠ hh; omega)) (fun hHeld => ?_)
    clear hK K
    try simp only [Act.put, List.setIfInBounds_toArray, List.set_cons_zero, List.set_cons_succ]
    refine wpAnyH_done (by kernel_rfl) ?_ _
    clear c4w f4w hHeld
    have HE1 : Hid (ints L ++ [((x.1 : Nat) : Int)] = ints (L ++ [x.1])) := Lib.hid (by simp [ints])
    rw [HE1.out] at hO1
    obtain ⟨W11, hW11⟩ : ∃ W11, W11 = w1.setCell ⟨S, 4, none⟩ (.slice A11 n11 c11) := ⟨_, rfl⟩
    have hS11 := HS8.out.1.setList hSb hS0 hO1 hg1 hat1 hB1
    have hR11 : SRun S sb (.slice A6 L.length c6) W6 (.slice A11 n11 c11) (w1.setCell ⟨S, 4, none⟩ (.slice A11 n11 c11)) := HR8.out.trans ((SRun.grown hg1 hat1).trans (SRun.set w1 (p := ⟨S, 4, none⟩) (.inl rfl) (.slice A11 n11 c11)))
    rw [← hW11] at hS11 hR11 ⊢
    clear hW11
    have HS11 := Lib.hid hS11
    have HR11 := Lib.hid hR11
    have hBx11 := HBX.out.run (HR6.out.trans hR11) hSl hsl HSZ.out
    have bS := hBx11.s.cell
    have bP := hBx11.p.cell
    have bE := hBx11.e.cell
    have c3 := blk_cell hS11.blk 3
    have c0 := blk_cell hS11.blk 0
    simp at c3 c0
    have cr := hS11.row.cell x.1 (by rw [List.length_set]; have := HA6.out.len; omega)
    rw [getD_setL, if_pos ⟨rfl, by have := HA6.out.len; omega⟩] at cr
    obtain ⟨Ag, cg, An, cn, Ao, co, vb', va', k1, k2, k3, _⟩ := HG0.out.below hS11.low
    have cC0 := blk_cell k1 0
    simp at cC0
    obtain ⟨adg, A5, c5, eAg, hx0, hx1, hx2, hx3, _⟩ := at_Tk k2 x.1 hxn
    subst eAg
    have htx := HOK.out.2.1 x.1
    have HACC2 := HACC
    generalize (rdTk g x.1).f0 = tm at hx0 htx HACC2
    have hwr : IntKind.i64.wrap ((r : Nat) + tm) = (r : Nat) + tm := IntWalk.i64_in _ (by omega)
    obtain ⟨M, hM⟩ : ∃ M, M = max e ((r : Nat) + tm) := ⟨_, rfl⟩
    rw [← hM] at HACC2
    have hmx : (if e < (r : Nat) + tm then (r : Nat) + tm else e) = M := by rw [max_is, ← hM]
    have hMb : 0 ≤ M ∧ M ≤ 200 := by omega
    have HIH := Lib.hid (ih (L ++ [x.1]) (p ||| 2 ^ x.1) M acc6 (st6.set x.1 (r : Nat)) (.slice A11 n11 c11) vb6 W11.drew (HLO.out.snoc hxn hcan) (by rw [List.length_append, List.length_singleton]; have := HLEN.out; omega) (Nat.or_lt_two_pow HPP.out (Nat.pow_lt_pow_right (by omega) hxn)) (bits_add HBITS.out) HAST.out hMb (hS11.below (Below.refl _ _).drew))
    clear hS11 hR11 hBx11 hx1 hx2 hx3 k1 k2 k3 hM hMb hO1 hg1 hat1 hB1
    gi_wp2
    refine wpIn_region_still_tail 25 mixed (by kernel_rfl) (by kernel_rfl) (fun ⟨_, _, h⟩ => h) ?_
    simp only [List.take_succ_cons, List.take_zero, List.drop_succ_cons, List.drop_zero]
    repeat (with_reducible refine wpStill_step (fun K hK => ?_); go_simp; with_reducible refine hK _ ?_; clear hK K)
    still_call (with_calls p x.1 hp16 hx16 _)
    repeat (with_reducible refine wpStill_step (fun K hK => ?_); go_simp; with_reducible refine hK _ ?_; clear hK K)
    with_reducible refine wpStill_nil ?_
    clear hwr hmx bS bP bE c3 c0 cr cC0 hx0
    go_wp2_with (go_at_call 32; refine HIH.out.mono ?_; rintro E w9 ⟨⟨vv, rfl⟩, st9, vl9, vb9, hA9, hS9, hR9⟩)
    obtain ⟨A9, c9, rfl, hc9, hC9⟩ := Kd.R_reads hS9.lst
    obtain ⟨ad9, rfl, _⟩ := hC9.2.2 (by rw [ints_length, List.length_append, List.length_singleton]; omega)
    obtain ⟨n9, HN9⟩ : ∃ n9 : Nat, Hid (n9 = (ints (L ++ [x.1])).length ∧ n9 = L.length + 1) := ⟨_, Lib.hid ⟨rfl, by rw [ints_length, List.length_append, List.length_singleton]⟩⟩
    rw [← HN9.out.1] at hS9 hR9 hc9
    have hcL9 : (L.length : Int) ≤ (c9 : Int) := by have := HN9.out.2; omega
    have hrd : SRun S sb (.slice A11 n11 c11) W11 (.slice A11 n11 c11) W11.drew := SRun.below (Below.refl _ _).drew
    have hR9' := HR11.out.trans (hrd.trans hR9)
    have hBx9 := HBX.out.run (HR6.out.trans hR9') hSl hsl HSZ.out
    have bS := hBx9.s.cell
    have c4 := blk_cell hS9.blk 4
    simp at c4
    have f4 := blk_frozen hS9.blk 4
    have hwn : IntKind.i64.wrap ((n9 : Int) - 1) = (L.length : Nat) := by rw [show (n9 : Int) - 1 = (L.length : Nat) by have := HN9.out.2; omega]; exact IntWalk.i64_in _ (by omega)
    have HS9 := Lib.hid hS9
    have HR9 := Lib.hid hR9'
    have HA9 := Lib.hid hA9
    have hLn : (0 : Int) ≤ (L.length : Int) := by omega
    have hLc : L.length ≤ c9 := by have := HN9.out.2; omega
    clear hS9 hR9 hA9 hBx9 hrd hR9' hC9 hc9
    gi_wp2
    refine wpIn_region_still_tail 14 mixed (by kernel_rfl) (by kernel_rfl) (fun ⟨_, _, h⟩ => h) ?_
    simp only [List.take_succ_cons, List.take_zero, List.drop_succ_cons, List.drop_zero]
    repeat (with_reducible refine wpStill_step (fun K hK => ?_); go_simp; with_reducible refine hK _ ?_; clear hK K)
    with_reducible refine wpStill_nil ?_
    clear hwn
    go_wp2
    gi_wp2
    have hSd := HS9.out.below (Below.refl w9.heap.size w9).drew
    have hSF := hSd.pop hSb hS0
    have hRF : SRun S sb (.slice A6 L.length c6) W6 (.slice (some ad9) L.length c9) (w9.drew.setCell ⟨S, 4, none⟩ (.slice (some ad9) L.length c9)) := (HR9.out.trans ((SRun.below (Below.refl w9.heap.size w9).drew).trans (SRun.set w9.drew (p := ⟨S, 4, none⟩) (.inl rfl) (.slice (some ad9) L.length c9)))).pop rfl
    refine ⟨(HS6.out.others hRF).from _, below_mid HS6.out.low hSF.low hRF.size, st9, _, vb9, HA9.out.back hni, ?_, HR6.out.trans hRF⟩
    rw [HACC2.out]
    exact hSF
end Go.Proofs.YtkljcdghbefceaaGreatDoor

namespace Go.Proofs.YtkljcdghbefceaaGreatDoor
set_option linter.unusedVariables false
set_option linter.unusedSimpArgs false
open Go.RowKit Go.Shelf Bits
open Go.Proofs.YtkljcdghbefceaaGreatDoorW.PrintWords Go.Proofs.YtkljcdghbefceaaGreatDoorW.PrintLast Go.Proofs.YtkljcdghbefceaaGreatDoorW.PrintMore
attribute [local go_sem] Oper.semAt_some max2_int max_two
theorem from_all (w0 : World) (C : Nat) (g : List Tk) (ns : List Nat) (S sb : Nat) (A1 : Option Addr) (c1 : Nat) (rm : List Int) (wk : Int) (hgr : graphN g = some ns) (hv : specValid g = true) (h5 : g.length ≤ 5) (hp : placeB rm wk = true) (hG : IsGraph w0 C g ns) (hT : Tab w0) (hr1 : (Kd.int .i64).C w0 A1 rm.length rm) (hSb : S ≠ sb) (hS0 : w0.heap.size ≤ S) (hs0 : w0.heap.size ≤ sb) : ∀ f, FromAt w0 C g S sb A1 c1 rm wk f
 | 0 => fun L p e acc st vl vb W h1 h2 h3 h4 h5' h6 h7 => by
  cases hc : cutO acc e with
  | true =>
   rw [searchN_cut hc]
   exact from_cut w0 C g ns S sb A1 c1 rm wk hgr hv h5 hp hG hT hr1 hSb hS0 hs0 0 L p e acc st vl vb W h1 h2 h3 h4 h5' h6 h7 hc
  | false =>
   rw [searchN_leaf hc]
   exact from_leaf w0 C g ns S sb A1 c1 rm wk hgr hv h5 hp hG hT hr1 hSb hS0 hs0 L p e acc st vl vb W h1 h2 h3 h4 h5' h6 h7 hc
 | f + 1 => fun L p e acc st vl vb W h1 h2 h3 h4 h5' h6 h7 => by
  cases hc : cutO acc e with
  | true =>
   rw [searchN_cut hc]
   exact from_cut w0 C g ns S sb A1 c1 rm wk hgr hv h5 hp hG hT hr1 hSb hS0 hs0 (f + 1) L p e acc st vl vb W h1 h2 h3 h4 h5' h6 h7 hc
  | false =>
   exact from_step w0 C g ns S sb A1 c1 rm wk hgr hv h5 hp hG hT hr1 hSb hS0 hs0 f (from_all w0 C g ns S sb A1 c1 rm wk hgr hv h5 hp hG hT hr1 hSb hS0 hs0 f) L p e acc st vl vb W h1 h2 h3 h4 h5' h6 h7 hc
theorem zeros_agr (g : List Tk) (rm : List Int) (wk : Int) : Agr g rm wk (List.replicate g.length 0) [] :=
 ⟨by simp, fun k hk => absurd hk (by simp), fun k => by
  rw [List.getD_eq_getElem?_getD, List.getElem?_replicate]
  split <;> simp⟩
set_option maxRecDepth 1000000 in
set_option maxHeartbeats 4000000 in
theorem bestIn_no (A : Option Addr) (c : Nat) (g : List Tk) (A1 : Option Addr) (c1 : Nat) (rm : List Int) (wk : Int) (hn : seaB g rm wk = false) (w : World) (hr : kTk.C w A g.length g) (hT : Tab w) (hr1 : (Kd.int .i64).C w A1 rm.length rm) :
  Calls Tryz.prog 11 #[.slice A g.length c, .slice A1 rm.length c1, .int .i64 wk] w fun e w' => e = .returned (.tuple #[.slice none 0 0, .int .i64 0, .bool false]) ∧ Below w.heap.size w w' := by
 have HP := Lib.hid (fewIn_no A c g A1 c1 rm wk hn w hr hT hr1)
 clear hn hr hT hr1
 go_enter Tryz.func11, Tryz.ntmps11
 go_wp2_with (go_at_call 31; refine HP.out.mono ?_; rintro e w1 ⟨rfl, hB1⟩; have HB1 := Lib.hid hB1; clear hB1)
 go_ret3
 exact ⟨rfl, HB1.out⟩
set_option maxRecDepth 1000000 in
set_option maxHeartbeats 8000000 in
theorem bestIn_yes (A : Option Addr) (c : Nat) (g : List Tk) (A1 : Option Addr) (c1 : Nat) (rm : List Int) (wk : Int) (hs : seaB g rm wk = true) (w : World) (hr : kTk.C w A g.length g) (hT : Tab w) (hr1 : (Kd.int .i64).C w A1 rm.length rm) :
  Calls Tryz.prog 11 #[.slice A g.length c, .slice A1 rm.length c1, .int .i64 wk] w fun e w' => ∃ Ao no co, e = .returned (.tuple #[.slice Ao no co, .int .i64 (btN g rm wk), .bool true]) ∧ Kd.R (Kd.int .i64) 3 w' w.heap.size (fun _ => True) (.slice Ao no co) (ints (boN g rm wk)) ∧ Below w.heap.size w w' := by
 obtain ⟨hv, h5, hp⟩ := seaB_facts hs
 obtain ⟨ns, hg⟩ := graphN_yes hv
 have HP := Lib.hid (fewIn_yes A c g ns A1 c1 rm wk hp h5 w hr hT hg hr1)
 have hmk := run_makeI g.length (by omega)
 obtain ⟨bst, hb1, hb2, hb3, hb4⟩ := best_some (rm := rm) (wk := wk) hv
 have HSE : Hid (searchN g rm wk g.length [] 0 none = some (bst, endO g rm wk bst)) := Lib.hid ((search_eq (specValid_TOk hv) hp).trans hb1)
 have HBN : Hid (boN g rm wk = bst ∧ btN g rm wk = endO g rm wk bst) := Lib.hid (by
  unfold boN btN
  rw [if_pos hs, if_pos hs, hb1]
  exact ⟨rfl, rfl⟩)
 generalize endO g rm wk bst = X at HSE HBN
 have HT := Lib.hid hT
 have HR1 := Lib.hid hr1
 have htl := hT.lt
 have HV := Lib.hid hv
 have HPB := Lib.hid hp
 have HGR := Lib.hid hg
 clear hs hr hT hr1 hv hp hg hb1 hb2 hb3 hb4
 go_enter Tryz.func11, Tryz.ntmps11
 go_upto_region 5 with (first | (go_at_call 31; refine HP.out.mono ?_; rintro e w1 ⟨C, rfl, hG1, hB1⟩; have HG1 := Lib.hid hG1; have HB1 := Lib.hid hB1; clear hG1 hB1) | (go_at_call 25; refine (size_calls _ C g ns HG1.out).mono ?_; rintro e w' ⟨rfl, hw⟩; have hw2 := hw.symm; subst hw2; clear hw))
 clear hmk
 have hz : (w1.alloc (.cells (zeroI g.length) 3)).heap.size = w1.heap.size + 1 := by simp
 have hrow : IRow (w1.alloc (.cells (zeroI g.length) 3)) w1.heap.size (List.replicate g.length 0) := World.alloc_heap_new w1 _
 obtain ⟨Wa, hWa⟩ : ∃ Wa, Wa = w1.alloc (.cells (zeroI g.length) 3) := ⟨_, rfl⟩
 have hBa : Below w1.heap.size w1 Wa := by rw [hWa]; exact (Below.refl _ _).alloc (Nat.le_refl _) _
 rw [← hWa] at hz hrow ⊢
 clear hWa
 have hblk := World.alloc_heap_new Wa (.cells #[.pointer (some ⟨C, 0, none⟩), .slice A1 rm.length c1, .int .i64 wk, .slice (some ⟨w1.heap.size, 0, none⟩) g.length g.length, .slice none 0 0, .slice none 0 0, .int .i64 0, .bool false] 57)
 have hBb : Below Wa.heap.size Wa (Wa.alloc (.cells #[.pointer (some ⟨C, 0, none⟩), .slice A1 rm.length c1, .int .i64 wk, .slice (some ⟨w1.heap.size, 0, none⟩) g.length g.length, .slice none 0 0, .slice none 0 0, .int .i64 0, .bool false] 57)) := (Below.refl _ _).alloc (Nat.le_refl _) _
 rw [hz] at hblk
 have hSS : SS w1 C g.length (w1.heap.size + 1) w1.heap.size A1 c1 rm.length wk [] (List.replicate g.length 0) none (.slice none 0 0) (.slice none 0 0) (Wa.alloc (.cells #[.pointer (some ⟨C, 0, none⟩), .slice A1 rm.length c1, .int .i64 wk, .slice (some ⟨w1.heap.size, 0, none⟩) g.length g.length, .slice none 0 0, .slice none 0 0, .int .i64 0, .bool false] 57)) :=
  ⟨hblk, hrow.below hBb, Kd.R_nil _ _ _ _ _, Kd.R_nil _ _ _ _ _, hBa.trans (hBb.mono hBa.size)⟩
 have HF := Lib.hid (from_all w1 C g ns (w1.heap.size + 1) w1.heap.size A1 c1 rm wk HGR.out HV.out h5 HPB.out HG1.out (HT.out.keep htl HB1.out) (Kd.C_below HR1.out HB1.out) (by omega) (by omega) (Nat.le_refl _) g.length [] 0 0 none _ _ _ _ .nil (by simp) (Nat.two_pow_pos _) (by simp) (zeros_agr g rm wk) (by omega) hSS)
 obtain ⟨Wb, hWb⟩ : ∃ Wb, Wb = Wa.alloc (.cells #[.pointer (some ⟨C, 0, none⟩), .slice A1 rm.length c1, .int .i64 wk, .slice (some ⟨w1.heap.size, 0, none⟩) g.length g.length, .slice none 0 0, .slice none 0 0, .int .i64 0, .bool false] 57) := ⟨_, rfl⟩
 rw [← hWb] at HF ⊢
 clear hWb hSS hblk hBb hrow hBa
 generalize w1.heap.size + 1 = S at HF ⊢
 rw [show ((0 : Nat) : Int) = 0 from rfl] at HF
 clear hz
 go_wp2_with (go_at_call 32; refine HF.out.mono ?_; rintro e w2 ⟨⟨vv, rfl⟩, st2, vl2, vb2, hA2, hS2, hR2⟩)
 rw [HSE.out] at hS2
 have hS2b : Kd.R (Kd.int .i64) 3 w2 w1.heap.size (fun _ => True) vb2 (ints bst) := Kd.R_mono hS2.bst (fun _ _ => trivial)
 obtain ⟨Ao, co, rfl, hco, _⟩ := Kd.R_reads hS2b
 have c5 := blk_cell hS2.blk 5
 have c6 := blk_cell hS2.blk 6
 simp [accE] at c5 c6
 have HS2 := Lib.hid (And.intro hS2.low hS2b)
 clear hS2 hS2b hR2 hA2
 go_quiet (fail)
 go_wp2
 go_ret3
 have hq : Below w2.heap.size w2 (w2.drewN nq) := pw_below_drewN (Below.refl _ _) nq
 refine ⟨Ao, (ints bst).length, co, by rw [HBN.out.2]; rfl, ?_, HB1.out.trans ((HS2.out.1.trans (hq.mono HS2.out.1.size)).mono HB1.out.size)⟩
 rw [HBN.out.1]
 exact Kd.R_lower (Kd.R_below HS2.out.2 hq) HB1.out.size
set_option maxRecDepth 1000000 in
theorem BestTime_impl (A : Option Addr) (c : Nat) (g : List Tk) (A1 : Option Addr) (c1 : Nat) (rm : List Int) (wk : Int) (w : World) (hr : kTk.C w A g.length g) (hr1 : (Kd.int .i64).C w A1 rm.length rm) (hT : Tab w) :
  Calls Tryz.prog 5 #[.slice A g.length c, .slice A1 rm.length c1, .int .i64 wk] w fun e w' => e = .returned (.int .i64 (btN g rm wk)) ∧ Below w.heap.size w w' := by
 cases hs : seaB g rm wk with
 | false =>
  have HF : Hid (btN g rm wk = -1) := Lib.hid (by unfold btN; rw [hs]; rfl)
  have HP := Lib.hid (bestIn_no A c g A1 c1 rm wk hs w hr hT hr1)
  clear hs hr hT hr1
  go_enter Tryz.func5, Tryz.ntmps5
  go_wp2_with (go_at_call 11; refine HP.out.mono ?_; rintro e w1 ⟨rfl, hB1⟩; have HB1 := Lib.hid hB1; clear hB1)
  go_ret
  exact ⟨by rw [HF.out]; rfl, HB1.out⟩
 | true =>
  have HP := Lib.hid (bestIn_yes A c g A1 c1 rm wk hs w hr hT hr1)
  clear hs hr hT hr1
  go_enter Tryz.func5, Tryz.ntmps5
  go_wp2_with (go_at_call 11; refine HP.out.mono ?_; rintro e w1 ⟨Ao, no, co, rfl, hR1, hB1⟩; have H1 := Lib.hid (And.intro hR1 hB1); clear hR1 hB1)
  go_ret
  exact ⟨rfl, H1.out.2⟩
end Go.Proofs.YtkljcdghbefceaaGreatDoor

namespace Go.Proofs.YtkljcdghbefceaaGreatDoor.PFnValidLog
set_option linter.unusedVariables false
set_option linter.unusedSimpArgs false
open Go.RowKit Go.Shelf
open Go.Proofs.YtkljcdghbefceaaGreatDoorW.PrintWords Go.Proofs.YtkljcdghbefceaaGreatDoorW.PrintLast Go.Proofs.YtkljcdghbefceaaGreatDoorW.PrintMore
def spec_isIn.f (k : Nat) (l0 : List Int) (a1 : Int) : Option Bool := some (decide (a1 ∈ l0))
theorem spec_isIn.calls (k : Nat) (A0 : Option Addr) (c0 : Nat) (l0 : List Int) (a1 : Int) (r : Bool) (w : World) (hr0 : Kd.C (Kd.int .i64) w A0 l0.length l0) (hc0 : l0.length ≤ c0) (h : spec_isIn.f k l0 a1 = some r) :
    Calls Tryz.prog 66 #[.slice A0 l0.length c0, .int .i64 a1] w fun e w' => e = .returned (.bool r) ∧ Drawn0 w w' := by
  obtain rfl := Option.some.inj h
  exact (isIn_calls A0 c0 l0 a1 w hr0).mono fun e w' h => ⟨h.1, h.2 ▸ Drawn0.refl w⟩
def spec_allDone.f (k : Nat) (l0 l1 : List Int) : Option Bool := some (allDoneB l0 l1)
theorem spec_allDone.calls (k : Nat) (A0 : Option Addr) (c0 : Nat) (l0 : List Int) (A1 : Option Addr) (c1 : Nat) (l1 : List Int) (r : Bool) (w : World) (hr0 : Kd.C (Kd.int .i64) w A0 l0.length l0) (hc0 : l0.length ≤ c0) (hr1 : Kd.C (Kd.int .i64) w A1 l1.length l1) (hc1 : l1.length ≤ c1) (h : spec_allDone.f k l0 l1 = some r) :
    Calls Tryz.prog 67 #[.slice A0 l0.length c0, .slice A1 l1.length c1] w fun e w' => e = .returned (.bool r) ∧ Drawn0 w w' := by
  obtain rfl := Option.some.inj h
  exact (allDone_calls A0 c0 l0 A1 c1 l1 w hr0 hr1).mono fun e w' h => ⟨h.1, h.2 ▸ Drawn0.refl w⟩
end Go.Proofs.YtkljcdghbefceaaGreatDoor.PFnValidLog
