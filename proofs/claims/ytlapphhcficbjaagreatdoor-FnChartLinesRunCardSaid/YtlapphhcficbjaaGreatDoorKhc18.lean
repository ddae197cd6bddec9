/- Parts of the proof, laid as one text by a program of mine. -/
import Derived.StillTailTactics
import Derived.Deep.RegionHeld3
import Derived.Test.YtlapphhcficbjaaGreatDoorKhc17
import Derived.Test.YtlapphhcficbjaaGreatDoorKhc14
import Derived.Test.YtlapphhcficbjaaGreatDoorKhc10
import Derived.Test.YtlapphhcficbjaaGreatDoorKhc9
import Derived.Test.YtlapphhcficbjaaGreatDoorKhc15
namespace Go.Proofs.YtlapphhcficbjaaGreatDoor
set_option linter.unusedVariables false
set_option linter.unusedSimpArgs false
open Go.RowKit Go.Shelf Bits
open Go.Proofs.YtlapphhcficbjaaGreatDoorW.PrintWords Go.Proofs.YtlapphhcficbjaaGreatDoorW.PrintLast Go.Proofs.YtlapphhcficbjaaGreatDoorW.PrintMore
attribute [local go_sem] Oper.semAt_some
theorem below_has {w w' : World} (h : Below w.heap.size w w') {a : Addr} {v : Value} (hc : w.cell? a = some v) : w'.cell? a = some v := by
 refine (h.cell ?_).trans hc
 apply Classical.byContradiction
 intro hn
 unfold World.cell? at hc
 rw [Array.getElem?_eq_none (by omega)] at hc
 cases hc
theorem kept_cell {w w' : World} {b : Nat} (h : KeepBut w w' b none) {a : Addr} {v : Value} (hc : w.cell? a = some v) (hn : a.block ≠ b) : w'.cell? a = some v := by
 refine (World.cell?_of_block (h.2 a.block ?_ hn (by simp))).trans hc
 apply Classical.byContradiction
 intro hn
 unfold World.cell? at hc
 rw [Array.getElem?_eq_none (by omega)] at hc
 cases hc
theorem all_not_at {g : List Tk} {ns : List Nat} {rm : List Int} {wk : Int} {cl : List Ev} {j : Nat} (h : okE g ns rm wk (cl.take j) (rdEv cl j) = false) (hj : j < cl.length) : okAllB g ns rm wk cl = false := by
 unfold okAllB
 rw [List.all_eq_false]
 exact ⟨j, List.mem_range.2 hj, by rw [h]; simp⟩
theorem sum_abs {f : Ev → Int} {b : Int} (hf : ∀ e, -b ≤ f e ∧ f e ≤ b) (hb : 0 ≤ b) : ∀ l : List Ev, -(b * l.length) ≤ (l.map f).sum ∧ (l.map f).sum ≤ b * l.length
 | [] => by simp
 | e :: l => by
  have ih := sum_abs hf hb l
  have h := hf e
  rw [List.map_cons, List.sum_cons, List.length_cons, show ((l.length + 1 : Nat) : Int) = (l.length : Int) + 1 from by omega, Int.mul_add, Int.mul_one]
  omega
theorem cOf_small {g : List Tk} (hok : TOk g) {l : List Ev} (hl : l.length ≤ 20) : (cOf g l).small 1000 := by
 refine ⟨?_, fun j => ?_⟩
 ·
  have := sum_abs (f := sgn) (b := 1) (fun e => by unfold sgn; split <;> omega) (by omega) l
  show -1000 ≤ (l.map sgn).sum ∧ (l.map sgn).sum ≤ 1000
  omega
 ·
  have := sum_abs (f := unU g (j : Int)) (b := 4) (fun e => by
   have := hok.2.2.2.1 e.f1.toNat
   unfold unU sgn
   split
   ·
    split <;> omega
   ·
    omega) (by omega) l
  show -(1000 * 1000) ≤ (l.map (unU g (j : Int))).sum ∧ (l.map (unU g (j : Int))).sum ≤ 1000 * 1000
  omega
theorem dOf_lt {n : Nat} : ∀ (l : List Ev) (d : Nat), d < 2 ^ n → (∀ e ∈ l, e.f1.toNat < n) → l.foldl dStep d < 2 ^ n
 | [], _, h, _ => h
 | e :: l, d, h, hl => by
  refine dOf_lt l (dStep d e) ?_ (fun x hx => hl x (List.mem_cons_of_mem _ hx))
  unfold dStep
  split
  ·
   exact Nat.or_lt_two_pow h (Nat.pow_lt_pow_right (by decide) (hl e List.mem_cons_self))
  ·
   exact h
def StPost (g : List Tk) (rm : List Int) (wk : Int) (st : List Int) (w : World) (e : Ending) (w' : World) : Prop :=
 (stN g rm wk st = true ∧ ∃ C ns, e = .returned (.tuple #[.pointer (some ⟨C, 0, none⟩), .bool true]) ∧ graphN g = some ns ∧ IsGraph w' C g ns ∧ Below w.heap.size w w') ∨
 (stN g rm wk st = false ∧ e = .returned (.tuple #[.pointer none, .bool false]) ∧ Below w.heap.size w w')
set_option maxRecDepth 1000000 in
set_option maxHeartbeats 8000000 in
theorem startsIn_calls (A : Option Addr) (c : Nat) (g : List Tk) (A1 : Option Addr) (c1 : Nat) (rm : List Int) (wk : Int) (A2 : Option Addr) (c2 : Nat) (st : List Int) (w : World) (hr : kTk.C w A g.length g) (hr1 : (Kd.int .i64).C w A1 rm.length rm) (hr2 : (Kd.int .i64).C w A2 st.length st) (hT : Tab w) :
  Calls Tryz.prog 24 #[.slice A g.length c, .slice A1 rm.length c1, .int .i64 wk, .slice A2 st.length c2] w (StPost g rm wk st w) := by
 have hgl := (C_len hr).2
 have hsl := (C_len hr2).2
 by_cases hp : ∃ ns, graphN g = some ns ∧ placeB rm wk = true
 ·
  obtain ⟨ns, hg, hp⟩ := hp
  have HP := Lib.hid (placeIn_yes A c g ns A1 c1 rm wk hp w hr hT hg hr1)
  have HR1 := Lib.hid hr1
  have HR2 := Lib.hid hr2
  have HGR := Lib.hid hg
  have HOK := Lib.hid (specValid_TOk (graphN_spec hg))
  have h8 := (specValid_TOk (graphN_spec hg)).1
  have HRM := Lib.hid (roomB_facts (placeB_facts hp).1).1
  have HNL := Lib.hid (graphN_all hg).2.1
  have HNS := Lib.hid (needsN_lt (graphN_some hg).1)
  by_cases h4 : st.length = g.length
  ·
   have d4 : ((st.length : Int) != (g.length : Int)) = false := by rw [bne_eq_false_iff_eq]; omega
   have HL := Lib.hid h4
   have HE : Hid (stN g rm wk st = (allInB st 0 200 && startsB g ns rm wk st)) := Lib.hid (by
    unfold stN
    rw [hg]
    show (placeB rm wk && (decide (st.length = g.length) && (allInB st 0 200 && startsB g ns rm wk st))) = _
    rw [hp, decide_eq_true h4, Bool.true_and, Bool.true_and])
   clear hr hr1 hr2 hT hg hp h4
   go_enter Tryz.func24, Tryz.ntmps24
   go_wp2_with (go_at_call 36; refine HP.out.mono ?_; rintro e w1 ⟨C, rfl, hG1, hB1⟩; have HG1 := Lib.hid hG1; have HB1 := Lib.hid hB1; clear hG1 hB1)
   go_loop [37] (fun i => ∃ (k : Nat), k ≤ st.length ∧ i = .int .i64 k ∧ Hid (∀ j, j < k → inB (st.getD j 0) 0 200 = true)) (fun i => st.length - (intOf i).toNat)
   case atStart => exact ⟨0, Nat.zero_le _, rfl, Lib.hid fun j h => absurd h (Nat.not_lt_zero _)⟩
   case round =>
    obtain ⟨k, hk, rfl, HS⟩ := hrel
    by_cases hlt : k < st.length
    ·
     have hjj : decide ((k : Int) < (st.length : Int)) = true := decide_eq_true (by omega)
     have hji : (k : Int) < (st.length : Int) := by omega
     obtain ⟨ad, rfl, hc⟩ := at_num (Kd.C_below HR2.out HB1.out) k hlt
     cases hb : inB (st.getD k 0) 0 200
     ·
      have HF : Hid (stN g rm wk st = false) := Lib.hid (by
       rw [HE.out, show allInB st 0 200 = false by
        unfold allInB
        exact all_not 0 hlt hb]
       rfl)
      have HW := Lib.hid hb
      clear hb
      generalize st.getD k 0 = x at hc HW
      go_wp2_with (go_at_call 54; refine (within_is _ _ _ _ HW _).mono ?_; rintro e w2 ⟨rfl, rfl⟩)
      go_ret2
      exact .inr ⟨HF.out, rfl, HB1.out⟩
     ·
      have HN : Hid (∀ j, j < k + 1 → inB (st.getD j 0) 0 200 = true) := Lib.hid (fun j hj => by
       by_cases e : j = k
       ·
        rw [e]; exact hb
       ·
        exact HS.out j (by omega))
      have HW := Lib.hid hb
      clear hb
      generalize st.getD k 0 = x at hc HW
      go_wp2_with (go_at_call 54; refine (within_is _ _ _ _ HW _).mono ?_; rintro e w2 ⟨rfl, rfl⟩)
      go_round
      case rel => exact ⟨k + 1, by omega, by go_num, HN⟩
      case measure => simp [intOf]; omega
    ·
     have hjj : decide ((k : Int) < (st.length : Int)) = false := decide_eq_false (by omega)
     have HAI : Hid (allInB st 0 200 = true) := Lib.hid (by
      unfold allInB
      exact all_take 0 (fun j hj => HS.out j (by omega)))
     have HSOK := Lib.hid (allIn_sok HAI.out)
     have HE2 : Hid (stN g rm wk st = okAllB g ns rm wk (chgS g st)) := Lib.hid (by rw [HE.out, HAI.out, Bool.true_and]; rfl)
     have HBa : Hid (Below w1.heap.size w1 (w1.alloc (.cells #[.int .i64 0, .int .i64 0, .int .i64 0, .int .i64 0] 89))) := Lib.hid ((Below.refl _ _).alloc (Nat.le_refl _) _)
     have HCH := Lib.hid (changes_calls C g ns A2 c2 st HOK.out HSOK.out HL.out _ (HG1.out.below HBa.out) (Kd.C_below HR2.out (HB1.out.trans (HBa.out.mono HB1.out.size))))
     have HCA : Hid (CAt (w1.alloc (.cells #[.int .i64 0, .int .i64 0, .int .i64 0, .int .i64 0] 89)) w1.heap.size (cOf g [])) := Lib.hid (World.alloc_heap_new w1 _)
     have HMEM := Lib.hid (fun (x : Ev) (hx : x ∈ chgS g st) => mem_chgS.1 hx)
     have hcl : (chgS g st).length ≤ 16 := by rw [chgS_len]; omega
     generalize chgS g st = cl at HE2 HCH HMEM hcl
     go_wp2_with (go_at_call 50; refine HCH.out.mono ?_; rintro e w3 ⟨A3, c3, rfl, hR3, hB3⟩; have HR3 := Lib.hid hR3; have HB3 := Lib.hid hB3; clear hR3 hB3)
     have HK3 := Lib.hid (keep_below w1.heap.size HB3.out)
     have HCA3 := Lib.hid (HCA.out.below HB3.out)
     have HB13 := Lib.hid (HBa.out.trans (HB3.out.mono HBa.out.size))
     have hb3 := HCA3.out.lt
     go_loopw [15, 49] (fun d i wr => ∃ j, j ≤ cl.length ∧ i = .int .i64 (j : Nat) ∧ d = .int .u16 (dOf (cl.take j) : Nat) ∧ Hid (∀ q, q < j → okE g ns rm wk (cl.take q) (rdEv cl q) = true) ∧ CAt wr w1.heap.size (cOf g (cl.take j)) ∧ KeepBut w3 wr w1.heap.size none ∧ Below w1.heap.size w1 wr) (fun _ i _ => cl.length - (intOf i).toNat)
     case atStart => exact ⟨0, Nat.zero_le _, rfl, rfl, Lib.hid fun q h => absurd h (Nat.not_lt_zero _), HCA3.out, KeepBut.refl _ _ _, HB13.out⟩
     case round =>
      obtain ⟨j, hj, rfl, rfl, HQ, hCA, hK, hB⟩ := hrel
      by_cases hjl : j < cl.length
      ·
       have hjj : decide ((j : Int) < (cl.length : Int)) = true := decide_eq_true (by omega)
       have hji : (j : Int) < (cl.length : Int) := by omega
       have hCR : kEv.C wr A3 cl.length cl := HR3.out wr hK.1 (fun q hq hql => hK.2 q hql (by simp at hq; omega) (by simp))
       obtain ⟨ad, rfl, x0, x1, x2⟩ := at_Ev hCR j hjl
       have hmem : rdEv cl j ∈ cl := by
        unfold rdEv
        rw [List.getD_eq_getElem?_getD, List.getElem?_eq_getElem hjl]
        exact List.getElem_mem _
       have HTK : Hid (cl.take (j + 1) = cl.take j ++ [rdEv cl j]) := Lib.hid (by
        rw [List.take_succ_eq_append_getElem hjl]
        unfold rdEv
        rw [List.getD_eq_getElem?_getD, List.getElem?_eq_getElem hjl]
        rfl)
       have hdl : dOf (cl.take j) < 2 ^ g.length := dOf_lt _ 0 (Nat.two_pow_pos _) (fun e he => by
        obtain ⟨q, hq, hh⟩ := HMEM.out e (List.mem_of_mem_take he)
        rcases hh with rfl | rfl
        ·
         simpa [chB] using hq
        ·
         simpa [chO] using hq)
       have hd16 : dOf (cl.take j) < 65536 := Nat.lt_of_lt_of_le hdl (Nat.le_trans (Nat.pow_le_pow_right (by omega) h8) (by decide))
       have HCS : Hid ((cOf g (cl.take j)).small 1000) := Lib.hid (cOf_small HOK.out (by rw [List.length_take]; omega))
       have HOE : Hid (okE g ns rm wk (cl.take j) (rdEv cl j) = ((rdEv cl j).f2 || (decide (diff (ns.getD (rdEv cl j).f1.toNat 0) (dOf (cl.take j)) = 0) && (cOf g (cl.take j)).can (rdTk g (rdEv cl j).f1.toNat).f2.toNat (rdTk g (rdEv cl j).f1.toNat).f3 rm wk))) := Lib.hid rfl
       have HSN := Lib.hid (fun (p : Nat) (hp : (rdTk g (rdEv cl j).f1.toNat).f2 = (p : Int)) => (cOf_snoc (g := g) (l := cl.take j) (e := rdEv cl j) hp))
       have HDN := Lib.hid (dOf_snoc (cl.take j) (rdEv cl j))
       rw [← HTK.out] at HSN HDN
       obtain ⟨i, hig, hev⟩ := HMEM.out _ hmem
       have hf1 : (rdEv cl j).f1 = (i : Int) := by rcases hev with e | e <;> (rw [e]; rfl)
       have htn : (rdEv cl j).f1.toNat = i := by rw [hf1, Int.toNat_natCast]
       have HFL : Hid (∃ b, b = (rdEv cl j).f2) := Lib.hid ⟨_, rfl⟩
       obtain ⟨bo, hbo⟩ := HFL.out
       have HSG : Hid (sgn (rdEv cl j) = if bo then -1 else 1) := Lib.hid (by unfold sgn; rw [hbo])
       have HDS : Hid (dStep (dOf (cl.take j)) (rdEv cl j) = if bo then dOf (cl.take j) ||| 2 ^ i else dOf (cl.take j)) := Lib.hid (by unfold dStep; rw [htn, hbo])
       rw [htn, ← hbo] at HOE
       rw [htn] at HSN
       rw [hf1] at x1
       rw [← hbo] at x2
       clear hf1 htn hbo hev HFL hmem hCR
       generalize (rdEv cl j).f0 = at0 at x0
       have hi16 : i < 16 := by omega
       -- the graph and the event, boxed
       have HCA := Lib.hid hCA
       have HK := Lib.hid hK
       have HBB := Lib.hid hB
       have hbr : w1.heap.size < wr.heap.size := hCA.lt
       clear hCA hK hB
       go_upto_region 15 with (fail)
       obtain ⟨W1, hW1⟩ : ∃ W1, W1 = wr.alloc (.cells #[.int .i64 at0, .int .i64 (i : Nat), .bool bo] 80) := ⟨_, rfl⟩
       have hsz1 : W1.heap.size = wr.heap.size + 1 := by rw [hW1]; simp
       have hBE : Below wr.heap.size wr W1 := by rw [hW1]; exact (Below.refl _ _).alloc (Nat.le_refl _) _
       have hEb : W1.heap[wr.heap.size]? = some (.cells #[.int .i64 at0, .int .i64 (i : Nat), .bool bo] 80 (0, 0)) := by rw [hW1]; exact World.alloc_heap_new _ _
       rw [← hW1]
       clear hW1 x0 x1 x2
       have HB11 := Lib.hid (HBB.out.trans (hBE.mono HBB.out.size))
       have HCA1 := Lib.hid (HCA.out.below hBE)
       have HK1 := Lib.hid (keep_trans HK.out (keep_below w1.heap.size hBE))
       have e1 : W1.cell? ⟨wr.heap.size, 1, none⟩ = some (.int .i64 (i : Nat)) := (blk_cell hEb 1).trans (by simp)
       obtain ⟨Ag, cg, An, cn, Ao, co, vb, va, h1, h2, h3, _⟩ := HG1.out.below HB11.out
       have cC := blk_cell h1 0
       simp at cC
       obtain ⟨adt, A4, c4, rfl, hx0, hx1, hx2, hx3, _, _⟩ := at_Tk h2 i hig
       obtain ⟨p, hp⟩ : ∃ p : Nat, (rdTk g i).f2 = (p : Int) := ⟨(rdTk g i).f2.toNat, by have := HOK.out.2.2.1 i; omega⟩
       have hp3 : p < 3 := by have := HOK.out.2.2.1 i; omega
       have hu4 := HOK.out.2.2.2.1 i
       have HSN2 : Hid (cOf g (cl.take (j + 1)) = (cOf g (cl.take j)).add p (rdTk g i).f3 (sgn (rdEv cl j))) := Lib.hid (HSN.out p hp)
       rw [hp] at hx2 HOE
       rw [Int.toNat_natCast] at HOE
       have HEB := Lib.hid hEb
       clear HSN hp h1 h2 h3 hBE hEb
       generalize (rdTk g i).f0 = f0 at hx0
       generalize (rdTk g i).f1.length = n1 at hx1
       generalize (rdTk g i).f3 = f3 at hx3 hu4 HSN2 HOE
       generalize cOf g (cl.take j) = ct at HCA1 HCS HOE HSN2
       generalize dOf (cl.take j) = dn at hdl hd16 HOE HDN HDS
       have hii : (i : Int) < (g.length : Int) := by omega
       have HKEEP : Hid (∀ W, Below W1.heap.size W1 W → (W.cell? ⟨wr.heap.size, 1, none⟩ = some (.int .i64 (i : Nat)) ∧ W.cell? ⟨C, 0, none⟩ = some (.slice (some adt) g.length cg) ∧ W.cell? (adt.add (i * 4)) = some (.int .i64 f0) ∧ W.cell? ⟨(adt.add (i * 4)).block, (adt.add (i * 4)).off + 1, none⟩ = some (.slice A4 n1 c4) ∧ W.cell? ⟨(adt.add (i * 4)).block, (adt.add (i * 4)).off + 2, none⟩ = some (.int .i64 (p : Nat)) ∧ W.cell? ⟨(adt.add (i * 4)).block, (adt.add (i * 4)).off + 3, none⟩ = some (.int .i64 f3) ∧ Below W1.heap.size W1 W)) := Lib.hid (fun W hW => ⟨below_has hW e1, below_has hW cC, below_has hW hx0, below_has hW hx1, below_has hW hx2, below_has hW hx3, hW⟩)
       go_region_held3 (fun W => W.cell? ⟨wr.heap.size, 1, none⟩ = some (.int .i64 (i : Nat)) ∧ W.cell? ⟨C, 0, none⟩ = some (.slice (some adt) g.length cg) ∧ W.cell? (adt.add (i * 4)) = some (.int .i64 f0) ∧ W.cell? ⟨(adt.add (i * 4)).block, (adt.add (i * 4)).off + 1, none⟩ = some (.slice A4 n1 c4) ∧ W.cell? ⟨(adt.add (i * 4)).block, (adt.add (i * 4)).off + 2, none⟩ = some (.int .i64 (p : Nat)) ∧ W.cell? ⟨(adt.add (i * 4)).block, (adt.add (i * 4)).off + 3, none⟩ = some (.int .i64 f3) ∧ Below W1.heap.size W1 W) (first | (refine HKEEP.out _ ?_; repeat (first | exact Below.refl _ _ | apply below_alloc | apply pw_below_drewN | apply below_drew1))) (fail)
       obtain ⟨W2, hW2⟩ : ∃ W2, W2 = (W1.alloc (.cells #[.int .i64 f0, .slice A4 n1 c4, .int .i64 (p : Nat), .int .i64 f3] 49)).drew := ⟨_, rfl⟩
       have HB2 : Hid (Below W1.heap.size W1 W2) := Lib.hid (by rw [hW2]; exact below_drew1 ((Below.refl _ _).alloc (Nat.le_refl _) _))
       have hTb : W2.heap[W1.heap.size]? = some (.cells #[.int .i64 f0, .slice A4 n1 c4, .int .i64 (p : Nat), .int .i64 f3] 49 (0, 0)) := by rw [hW2]; exact World.alloc_heap_new W1 _
       rw [hsz1] at hTb
       rw [← hW2]
       have e2 : W1.cell? ⟨wr.heap.size, 2, none⟩ = some (.bool bo) := (blk_cell HEB.out 2).trans (by simp)
       have HB12 := Lib.hid (HB11.out.trans (HB2.out.mono HB11.out.size))
       have HCA2 := Lib.hid (HCA1.out.below HB2.out)
       have HK2 := Lib.hid (keep_trans HK1.out (keep_below w1.heap.size HB2.out))
       replace e1 := below_has HB2.out e1
       replace e2 := below_has HB2.out e2
       have b0 : W2.cell? ⟨wr.heap.size + 1, 0, none⟩ = some (.int .i64 f0) := (blk_cell hTb 0).trans (by simp)
       have b1 : W2.cell? ⟨wr.heap.size + 1, 1, none⟩ = some (.slice A4 n1 c4) := (blk_cell hTb 1).trans (by simp)
       have b2 : W2.cell? ⟨wr.heap.size + 1, 2, none⟩ = some (.int .i64 (p : Nat)) := (blk_cell hTb 2).trans (by simp)
       have b3 : W2.cell? ⟨wr.heap.size + 1, 3, none⟩ = some (.int .i64 f3) := (blk_cell hTb 3).trans (by simp)
       clear hW2 hTb HKEEP hx0 hx1 hx2 hx3 cC HEB HCA1 HK1 hsz1
       cases bo
       ·
        rw [HSG.out, if_neg (by simp)] at HSN2
        rw [HDS.out, if_neg (by simp)] at HDN
        obtain ⟨Ag', cg', An, cn, Ao, co, vb, va, h1, h2, h3, _⟩ := HG1.out.below HB12.out
        have cN := blk_cell h1 1
        simp at cN
        obtain ⟨adn, rfl, cn1⟩ := at_set h3 i (by rw [HNL.out]; exact hig)
        rw [HNL.out] at cN
        have hn16 := HNS.out i
        rw [Bool.false_or] at HOE
        generalize ns.getD i 0 = nd at cn1 hn16 HOE
        have hbd : bits BinOp.andNot IntKind.u16 (nd : Int) (dn : Int) = ((diff nd dn : Nat) : Int) := bits_andNot_u16 _ _ hn16
        clear HSG HDS h1 h2 h3
        by_cases hdf : diff nd dn = 0
        ·
         have hdz : (((diff nd dn : Nat) : Int) != 0) = false := by rw [hdf]; rfl
         rw [decide_eq_true hdf, Bool.true_and] at HOE
         have HTK := Lib.hid (fun W hW => takes_calls w1.heap.size ct f0 (.slice A4 n1 c4) p f3 A1 c1 rm wk hp3 ⟨by omega, by omega⟩ HCS.out HRM.out W (HCA2.out.below hW) (Kd.C_below HR1.out (HB1.out.trans ((HB12.out.trans (hW.mono HB12.out.size)).mono HB1.out.size))))
         have HB5 : ∀ {w5 : World}, Below w1.heap.size W2.drew w5 → Below w1.heap.size W2 w5 := fun h => (Below.refl _ _).drew.trans h
         clear hdf
         generalize diff nd dn = dd at hbd hdz
         cases hcan : ct.can p f3 rm wk
         ·
          rw [hcan] at HTK HOE
          have HFL2 : Hid (stN g rm wk st = false) := Lib.hid (by rw [HE2.out]; exact all_not_at HOE.out hjl)
          go_upto_region 19 with (fail)
          go_still_tail 15, mixed
          repeat still_step
          try refine wpStill_nil ?_
          change wpList _ _ _ _ _ W2.drew
          go_wp2_with (go_at_call 56; refine (HTK.out _ (Below.refl _ _).drew).mono ?_; rintro e w5 ⟨rfl, hC5, hK5, hB5⟩)
          go_ret2
          exact .inr ⟨HFL2.out, rfl, HB1.out.trans ((HB12.out.trans (HB5 hB5)).mono HB1.out.size)⟩
         ·
          rw [hcan] at HTK HOE
          have HQ2 : Hid (∀ q, q < j + 1 → okE g ns rm wk (cl.take q) (rdEv cl q) = true) := Lib.hid (fun q hq => by
           by_cases e : q = j
           ·
            rw [e]; exact HOE.out
           ·
            exact HQ.out q (by omega))
          go_upto_region 19 with (fail)
          go_still_tail 15, mixed
          repeat still_step
          try refine wpStill_nil ?_
          change wpList _ _ _ _ _ W2.drew
          go_wp2_with (go_at_call 56; refine (HTK.out _ (Below.refl _ _).drew).mono ?_; rintro e w5 ⟨rfl, hC5, hK5, hB5⟩)
          replace hC5 : CAt w5 w1.heap.size (ct.add p f3 1) := by simpa using hC5
          go_roundw
          case rel => exact ⟨j + 1, by omega, by go_num, by rw [HDN.out], HQ2, by rw [HSN2.out]; exact hC5, keep_trans HK2.out ((keep_below w1.heap.size (Below.refl _ _).drew).trans hK5 (.inl rfl)), HB12.out.trans (HB5 hB5)⟩
          case measure => simp [intOf]; omega
        ·
         have hdz : (((diff nd dn : Nat) : Int) != 0) = true := bne_iff_ne.2 (by omega)
         rw [decide_eq_false hdf, Bool.false_and] at HOE
         have HFL2 : Hid (stN g rm wk st = false) := Lib.hid (by rw [HE2.out]; exact all_not_at HOE.out hjl)
         clear hdf
         generalize diff nd dn = dd at hbd hdz
         go_upto_region 19 with (fail)
         go_quiet (fail)
         go_wp2
         go_ret2
         exact .inr ⟨HFL2.out, rfl, HB1.out.trans (((pw_below_drewN HB12.out _)).mono HB1.out.size)⟩
       ·
        have HOE2 : Hid (okE g ns rm wk (cl.take j) (rdEv cl j) = true) := Lib.hid (by rw [HOE.out]; rfl)
        have HQ2 : Hid (∀ q, q < j + 1 → okE g ns rm wk (cl.take q) (rdEv cl q) = true) := Lib.hid (fun q hq => by
         by_cases e : q = j
         ·
          rw [e]; exact HOE2.out
         ·
          exact HQ.out q (by omega))
        have HADD := Lib.hid (add_calls w1.heap.size ct f0 (.slice A4 n1 c4) p f3 (-1) hp3 ⟨by omega, by omega⟩ (.inr rfl) HCS.out W2 HCA2.out)
        rw [HSG.out, if_pos rfl] at HSN2
        rw [HDS.out, if_pos rfl] at HDN
        clear HOE HOE2 HSG HDS
        go_wp2_with (first | (go_at_call 55; refine HADD.out.mono ?_; rintro e w5 ⟨rfl, hC5, hK5, hB5⟩; have e5 := kept_cell hK5 e1 (Nat.ne_of_gt hbr)) | (go_at_call 28; refine (with_calls dn i hd16 hi16 _).mono ?_; rintro e w6 ⟨rfl, rfl⟩))
        go_roundw
        case rel => exact ⟨j + 1, by omega, by go_num, by rw [HDN.out], HQ2, by rw [HSN2.out]; exact hC5, keep_trans HK2.out hK5, HB12.out.trans hB5⟩
        case measure => simp [intOf]; omega
      ·
       obtain rfl : j = cl.length := by omega
       have hjj : decide ((cl.length : Int) < (cl.length : Int)) = false := decide_eq_false (by omega)
       have HTR : Hid (stN g rm wk st = true) := Lib.hid (by
        rw [HE2.out]
        unfold okAllB
        rw [List.all_eq_true]
        exact fun q hq => HQ.out q (List.mem_range.1 hq))
       go_wp2
       go_ret2
       exact .inl ⟨HTR.out, C, ns, rfl, HGR.out, HG1.out.below hB, HB1.out.trans (hB.mono HB1.out.size)⟩
  ·
   have HF : Hid (stN g rm wk st = false) := Lib.hid (by
    unfold stN
    rw [hg]
    show (placeB rm wk && (decide (st.length = g.length) && (allInB st 0 200 && startsB g ns rm wk st))) = _
    rw [decide_eq_false h4, Bool.false_and, Bool.and_false])
   have d4 : ((st.length : Int) != (g.length : Int)) = true := bne_iff_ne.2 (by omega)
   clear hr hr1 hr2 hT hg hp h4
   go_enter Tryz.func24, Tryz.ntmps24
   go_wp2_with (go_at_call 36; refine HP.out.mono ?_; rintro e w1 ⟨C, rfl, hG1, hB1⟩)
   go_ret2
   exact .inr ⟨HF.out, rfl, hB1⟩
 ·
  have HF : Hid (stN g rm wk st = false) := Lib.hid (by
   unfold stN
   cases hg : graphN g with
   | none => rfl
   | some ns =>
    show (placeB rm wk && (decide (st.length = g.length) && (allInB st 0 200 && startsB g ns rm wk st))) = _
    cases hpb : placeB rm wk with
    | false => rfl
    | true => exact absurd ⟨ns, hg, hpb⟩ hp)
  have HP := Lib.hid (placeIn_no A c g A1 c1 rm wk (fun ns hg => by
   cases hpb : placeB rm wk with
   | false => rfl
   | true => exact absurd ⟨ns, hg, hpb⟩ hp) w hr hT hr1)
  clear hp hr hr1 hr2 hT
  go_enter Tryz.func24, Tryz.ntmps24
  go_wp2_with (go_at_call 36; refine HP.out.mono ?_; rintro e w1 ⟨rfl, hB1⟩)
  go_ret2
  exact .inr ⟨HF.out, rfl, hB1⟩
end Go.Proofs.YtlapphhcficbjaaGreatDoor

namespace Go.Proofs.YtlapphhcficbjaaGreatDoor
set_option linter.unusedVariables false
set_option linter.unusedSimpArgs false
open Go.RowKit Go.Shelf Bits
open Go.Proofs.YtlapphhcficbjaaGreatDoorW.PrintWords Go.Proofs.YtlapphhcficbjaaGreatDoorW.PrintLast Go.Proofs.YtlapphhcficbjaaGreatDoorW.PrintMore
set_option maxRecDepth 1000000 in
set_option maxHeartbeats 8000000 in
theorem down_calls (h : Nat) (B : Option Nat) (T : List Int) (L : List Nat) (i0 n c0 : Nat) (hn : n ≤ L.length) (hi : i0 < L.length) (hc : n ≤ i0 + c0) (h16 : L.length ≤ 1000) (hT : ∀ x ∈ L, x < T.length) (w : World) (hR : RankAt w h B T L) :
  Calls Tryz.prog 130 #[.iface 159 (.pointer (some ⟨h, 0, none⟩)), .int .i64 i0, .int .i64 n] w fun e w' => ∃ b, e = .returned (.bool b) ∧ RankAt w' h B T (downL T c0 L i0 n) ∧ KeepBut w w' h B ∧ Below h w w' := by
 have mL := mLess h
 have mS := mSwap h
 have HT := Lib.hid hT
 have HN := Lib.hid hn
 have HI := Lib.hid hi
 have HC := Lib.hid hc
 have HRR := Lib.hid hR
 clear hR hT hn hi hc
 go_enter Tryz.func130, Tryz.ntmps130
 go_wp2
 go_loopw [7] (fun v wr => ∃ (i c : Nat) (M : List Nat), v = .int .i64 i ∧ n ≤ i + c ∧ i < M.length ∧ Hid (M.length = L.length ∧ (∀ x ∈ M, x < T.length) ∧ downL T c M i n = downL T c0 L i0 n ∧ RankAt wr h B T M ∧ KeepBut w wr h B ∧ Below h w wr)) (fun v _ => n - (intOf v).toNat)
 case atStart => exact ⟨i0, c0, L, rfl, HC.out, HI.out, Lib.hid ⟨rfl, HT.out, rfl, HRR.out, KeepBut.refl _ _ _, Below.refl _ _⟩⟩
 case round =>
  obtain ⟨i, c, M, rfl, hic, hiM, HX⟩ := hrel
  have hM := HX.out.1
  have hnL := HN.out
  by_cases h1 : 2 * i + 1 < n
  ·
   obtain ⟨c, rfl⟩ : ∃ c', c = c' + 1 := ⟨c - 1, by omega⟩
   have e1 : ((2 * i + 1 : Nat) : Int) = 2 * (i : Int) + 1 := by omega
   have e2 : ((2 * i + 2 : Nat) : Int) = 2 * (i : Int) + 1 + 1 := by omega
   have d1 : decide (2 * (i : Int) + 1 ≥ (n : Int)) = false := decide_eq_false (by omega)
   have d0 : decide (2 * (i : Int) + 1 < 0) = false := decide_eq_false (by omega)
   by_cases h2 : 2 * i + 2 < n
   ·
    have d2 : decide (2 * (i : Int) + 1 + 1 < (n : Int)) = true := decide_eq_true (by omega)
    cases hl1 : lessB T (M.getD (2 * i + 2) 0) (M.getD (2 * i + 1) 0) with
    | true =>
     cases hl2 : lessB T (M.getD (2 * i + 2) 0) (M.getD i 0) with
     | false =>
      have hch : childL T M i n = 2 * i + 2 := by unfold childL; rw [if_pos ⟨h2, hl1⟩]
      have L1 := Lib.hid (fun (W : World) (hW : RankAt W h B T M) => Less_calls h B T M (2 * i + 2) (2 * i + 1) (by omega) (by omega) HX.out.2.1 W hW)
      rw [hl1, e2, e1] at L1
      have L2 := Lib.hid (fun (W : World) (hW : RankAt W h B T M) => Less_calls h B T M (2 * i + 2) i (by omega) (by omega) HX.out.2.1 W hW)
      rw [hl2, e2] at L2
      have HE : Hid (downL T (c + 1) M i n = M) := Lib.hid (by
       conv => lhs; unfold downL
       rw [if_neg (by omega), hch, hl2]
       rfl)
      have R0 := HX.out.2.2.2.1
      clear hl1 hl2 hch
      go_wp2_with (first | (go_at_call 171; with_reducible refine (L1.out _ R0).mono ?_; rintro e w' ⟨rfl, q1, rfl⟩; have R1 := R0.drewN q1) | (go_at_call 171; with_reducible refine (L2.out _ R1).mono ?_; rintro e w' ⟨rfl, q2, rfl⟩; have R2 := R0.drewN (q1 + q2)))
      go_ret
      obtain ⟨_, _, x3, _, x5, x6⟩ := HX.out
      rw [← x3, HE.out]
      exact ⟨_, rfl, R2, keep_drewN x5 _, pw_below_drewN x6 _⟩
     | true =>
      have hch : childL T M i n = 2 * i + 2 := by unfold childL; rw [if_pos ⟨h2, hl1⟩]
      have L1 := Lib.hid (fun (W : World) (hW : RankAt W h B T M) => Less_calls h B T M (2 * i + 2) (2 * i + 1) (by omega) (by omega) HX.out.2.1 W hW)
      rw [hl1, e2, e1] at L1
      have L2 := Lib.hid (fun (W : World) (hW : RankAt W h B T M) => Less_calls h B T M (2 * i + 2) i (by omega) (by omega) HX.out.2.1 W hW)
      rw [hl2, e2] at L2
      have SW := Lib.hid (fun (W : World) (hW : RankAt W h B T M) => Swap_calls h B T M i (2 * i + 2) (by omega) (by omega) W hW)
      rw [e2] at SW
      have HE : Hid (downL T (c + 1) M i n = downL T c (swapL M i (2 * i + 2)) (2 * i + 2) n) := Lib.hid (by
       conv => lhs; unfold downL
       rw [if_neg (by omega), hch, hl2]
       rfl)
      have R0 := HX.out.2.2.2.1
      clear hl1 hl2 hch
      go_wp2_with (first | (go_at_call 171; with_reducible refine (L1.out _ R0).mono ?_; rintro e w' ⟨rfl, q1, rfl⟩; have R1 := R0.drewN q1) | (go_at_call 171; with_reducible refine (L2.out _ R1).mono ?_; rintro e w' ⟨rfl, q2, rfl⟩; have R2 := R0.drewN (q1 + q2)) | (go_at_call 174; with_reducible refine (SW.out _ R2).mono ?_; rintro e w2 ⟨rfl, hR2, hK2, hB2⟩))
      go_roundw
      case rel =>
       obtain ⟨x1, x2, x3, x4, x5, x6⟩ := HX.out
       exact ⟨2 * i + 2, c, swapL M i (2 * i + 2), by go_num, by omega, by rw [length_swapL]; omega, Lib.hid ⟨by rw [length_swapL]; exact x1, fun x hx => x2 x (mem_swapL (by omega) (by omega) hx), by rw [← x3, HE.out], hR2, (keep_drewN x5 (q1 + q2)).trans hK2 (.inl rfl), (pw_below_drewN x6 (q1 + q2)).trans hB2⟩⟩
      case measure => simp [intOf]; omega
    | false =>
     cases hl2 : lessB T (M.getD (2 * i + 1) 0) (M.getD i 0) with
     | false =>
      have hch : childL T M i n = 2 * i + 1 := by unfold childL; rw [if_neg (fun h => by rw [hl1] at h; exact absurd h.2 (by decide))]
      have L1 := Lib.hid (fun (W : World) (hW : RankAt W h B T M) => Less_calls h B T M (2 * i + 2) (2 * i + 1) (by omega) (by omega) HX.out.2.1 W hW)
      rw [hl1, e2, e1] at L1
      have L2 := Lib.hid (fun (W : World) (hW : RankAt W h B T M) => Less_calls h B T M (2 * i + 1) i (by omega) (by omega) HX.out.2.1 W hW)
      rw [hl2, e1] at L2
      have HE : Hid (downL T (c + 1) M i n = M) := Lib.hid (by
       conv => lhs; unfold downL
       rw [if_neg (by omega), hch, hl2]
       rfl)
      have R0 := HX.out.2.2.2.1
      clear hl1 hl2 hch
      go_wp2_with (first | (go_at_call 171; with_reducible refine (L1.out _ R0).mono ?_; rintro e w' ⟨rfl, q1, rfl⟩; have R1 := R0.drewN q1) | (go_at_call 171; with_reducible refine (L2.out _ R1).mono ?_; rintro e w' ⟨rfl, q2, rfl⟩; have R2 := R0.drewN (q1 + q2)))
      go_ret
      obtain ⟨_, _, x3, _, x5, x6⟩ := HX.out
      rw [← x3, HE.out]
      exact ⟨_, rfl, R2, keep_drewN x5 _, pw_below_drewN x6 _⟩
     | true =>
      have hch : childL T M i n = 2 * i + 1 := by unfold childL; rw [if_neg (fun h => by rw [hl1] at h; exact absurd h.2 (by decide))]
      have L1 := Lib.hid (fun (W : World) (hW : RankAt W h B T M) => Less_calls h B T M (2 * i + 2) (2 * i + 1) (by omega) (by omega) HX.out.2.1 W hW)
      rw [hl1, e2, e1] at L1
      have L2 := Lib.hid (fun (W : World) (hW : RankAt W h B T M) => Less_calls h B T M (2 * i + 1) i (by omega) (by omega) HX.out.2.1 W hW)
      rw [hl2, e1] at L2
      have SW := Lib.hid (fun (W : World) (hW : RankAt W h B T M) => Swap_calls h B T M i (2 * i + 1) (by omega) (by omega) W hW)
      rw [e1] at SW
      have HE : Hid (downL T (c + 1) M i n = downL T c (swapL M i (2 * i + 1)) (2 * i + 1) n) := Lib.hid (by
       conv => lhs; unfold downL
       rw [if_neg (by omega), hch, hl2]
       rfl)
      have R0 := HX.out.2.2.2.1
      clear hl1 hl2 hch
      go_wp2_with (first | (go_at_call 171; with_reducible refine (L1.out _ R0).mono ?_; rintro e w' ⟨rfl, q1, rfl⟩; have R1 := R0.drewN q1) | (go_at_call 171; with_reducible refine (L2.out _ R1).mono ?_; rintro e w' ⟨rfl, q2, rfl⟩; have R2 := R0.drewN (q1 + q2)) | (go_at_call 174; with_reducible refine (SW.out _ R2).mono ?_; rintro e w2 ⟨rfl, hR2, hK2, hB2⟩))
      go_roundw
      case rel =>
       obtain ⟨x1, x2, x3, x4, x5, x6⟩ := HX.out
       exact ⟨2 * i + 1, c, swapL M i (2 * i + 1), by go_num, by omega, by rw [length_swapL]; omega, Lib.hid ⟨by rw [length_swapL]; exact x1, fun x hx => x2 x (mem_swapL (by omega) (by omega) hx), by rw [← x3, HE.out], hR2, (keep_drewN x5 (q1 + q2)).trans hK2 (.inl rfl), (pw_below_drewN x6 (q1 + q2)).trans hB2⟩⟩
      case measure => simp [intOf]; omega
   ·
    have d2 : decide (2 * (i : Int) + 1 + 1 < (n : Int)) = false := decide_eq_false (by omega)
    cases hl2 : lessB T (M.getD (2 * i + 1) 0) (M.getD i 0) with
    | false =>
     have hch : childL T M i n = 2 * i + 1 := by unfold childL; rw [if_neg (fun h => h2 h.1)]
     have L2 := Lib.hid (fun (W : World) (hW : RankAt W h B T M) => Less_calls h B T M (2 * i + 1) i (by omega) (by omega) HX.out.2.1 W hW)
     rw [hl2, e1] at L2
     have HE : Hid (downL T (c + 1) M i n = M) := Lib.hid (by
      conv => lhs; unfold downL
      rw [if_neg (by omega), hch, hl2]
      rfl)
     have R0 := HX.out.2.2.2.1
     clear hl2 hch
     go_wp2_with (go_at_call 171; with_reducible refine (L2.out _ R0).mono ?_; rintro e w' ⟨rfl, q2, rfl⟩; have R2 := R0.drewN q2)
     go_ret
     obtain ⟨_, _, x3, _, x5, x6⟩ := HX.out
     rw [← x3, HE.out]
     exact ⟨_, rfl, R2, keep_drewN x5 _, pw_below_drewN x6 _⟩
    | true =>
     have hch : childL T M i n = 2 * i + 1 := by unfold childL; rw [if_neg (fun h => h2 h.1)]
     have L2 := Lib.hid (fun (W : World) (hW : RankAt W h B T M) => Less_calls h B T M (2 * i + 1) i (by omega) (by omega) HX.out.2.1 W hW)
     rw [hl2, e1] at L2
     have SW := Lib.hid (fun (W : World) (hW : RankAt W h B T M) => Swap_calls h B T M i (2 * i + 1) (by omega) (by omega) W hW)
     rw [e1] at SW
     have HE : Hid (downL T (c + 1) M i n = downL T c (swapL M i (2 * i + 1)) (2 * i + 1) n) := Lib.hid (by
      conv => lhs; unfold downL
      rw [if_neg (by omega), hch, hl2]
      rfl)
     have R0 := HX.out.2.2.2.1
     clear hl2 hch
     go_wp2_with (first | (go_at_call 171; with_reducible refine (L2.out _ R0).mono ?_; rintro e w' ⟨rfl, q2, rfl⟩; have R2 := R0.drewN q2) | (go_at_call 174; with_reducible refine (SW.out _ R2).mono ?_; rintro e w2 ⟨rfl, hR2, hK2, hB2⟩))
     go_roundw
     case rel =>
      obtain ⟨x1, x2, x3, x4, x5, x6⟩ := HX.out
      exact ⟨2 * i + 1, c, swapL M i (2 * i + 1), by go_num, by omega, by rw [length_swapL]; omega, Lib.hid ⟨by rw [length_swapL]; exact x1, fun x hx => x2 x (mem_swapL (by omega) (by omega) hx), by rw [← x3, HE.out], hR2, (keep_drewN x5 q2).trans hK2 (.inl rfl), (pw_below_drewN x6 q2).trans hB2⟩⟩
     case measure => simp [intOf]; omega
  ·
   have d1 : decide (2 * (i : Int) + 1 ≥ (n : Int)) = true := decide_eq_true (by omega)
   have HE : Hid (downL T c M i n = M) := Lib.hid (by
    cases c with
    | zero => rfl
    | succ c =>
     unfold downL
     rw [if_pos (by omega)])
   go_wp2
   go_ret
   obtain ⟨_, _, x3, x4, x5, x6⟩ := HX.out
   rw [← x3, HE.out]
   exact ⟨_, rfl, x4, x5, x6⟩
end Go.Proofs.YtlapphhcficbjaaGreatDoor

namespace Go.Proofs.YtlapphhcficbjaaGreatDoor
set_option linter.unusedVariables false
set_option linter.unusedSimpArgs false
open Go.RowKit Go.Shelf Bits
open Go.Proofs.YtlapphhcficbjaaGreatDoorW.PrintWords Go.Proofs.YtlapphhcficbjaaGreatDoorW.PrintLast Go.Proofs.YtlapphhcficbjaaGreatDoorW.PrintMore
def push_T : Bool × List (List Nat × List Nat) := (true, [([], []), ([], []), ([1], [1]), ([2], [2]), ([3], [3]), ([], []), ([5], [5]), ([6], [6]), ([4, 7], [4, 7]), ([0, 0, 1, 2, 3, 4, 5, 6, 7, 8], [0]), ([9, 0, 1, 2, 3, 4, 5, 6, 7, 8], [9]), ([10, 8, 8, 0, 1, 2, 3, 4, 5, 6, 7, 8], [8, 10])])
def push_B : List Nat := [0, 0, 2, 6, 14, 0, 32, 96, 254, 511, 1023, 2047]
theorem push_tab : rtab .any (opsOf Tryz.f173 0) = push_T := by kernel_rfl
theorem push_bits : waitsOk push_T.2 push_B = true := by kernel_rfl
theorem ta (x : Nat) : ∀ w, Sem.run Tryz.prog (Instr.typeAssert (.iface 3 (.int .i64 (x : Int))) 20 3 false) w = .ok (.int .i64 (x : Int)) w := fun _ => by kernel_rfl
set_option maxHeartbeats 8000000 in
set_option maxRecDepth 100000 in
theorem Push_walk (h : Nat) (L : List Nat) (x : Nat) (A : Option Addr) (c : Nat) (h16 : L.length ≤ 1000) (w : World) (hlt : h + 1 ≤ w.heap.size) (hRL : Kd.R (Kd.int .i64) 3 w (h + 1) (fun _ => True) (.slice A (ints L).length c) (ints L))
  (hx : w.cell? ⟨h, 1, none⟩ = some (.slice A L.length c)) (hf : w.frozen? ⟨h, 1, none⟩ = false) :
  Calls Tryz.prog 173 #[.pointer (some ⟨h, 0, none⟩), .iface 3 (.int .i64 x)] w fun e w' => e = .returned (.tuple #[]) ∧ ∃ w2 w3 v, w' = w3.setCell ⟨h, 1, none⟩ v ∧ Kd.R (Kd.int .i64) 3 w3 (h + 1) (fun _ => True) v (ints L ++ [(x : Int)]) ∧
   Below w.heap.size w w2 ∧ Below (h + 1) w w3 ∧ w2.grownBy w3 (Value.slice A (ints L).length c).ownBlock ∧ (v.ownBlock = (Value.slice A (ints L).length c).ownBlock ∨ ∃ b, v.ownBlock = some b ∧ w2.heap.size ≤ b) := by
 have HRL := Lib.hid hRL
 have HLT := Lib.hid hlt
 clear hRL
 go_enter Tryz.func173, Tryz.ntmps173
 have TA := ta x
 go_wp2
 refine start_ (n := 12) (S := fun w' => w'.cell? ⟨h, 1, none⟩ = some (.slice A L.length c)) (ds := [8, 11]) #[false, false, false, false, false, false, false, false, false, false, false, false] (by kernel_rfl) rfl rfl hx (fun hHeld => ?_)
 refine with_tabW push_tab push_bits (fun HT_ HW_ => ?_)
 generalize hw1 : w.drew = w1 at hHeld ⊢
 have HW1 := Lib.hid hw1
 clear hw1
 refine pure_ (i := 0) (N := some 4) (v := ?_) (a' := ?_) #[true, false, false, false, false, false, false, false, false, false, false, false] rfl rfl (any_of HT_.out (by kernel_rfl)) (fun _ _ _ h => h) (Or.inl ⟨by rfl, ?_⟩) ?_ ?_
 rotate_left
 ·
  intro w'
  go_simp
  with_reducible rfl
 rotate_left
 ·
  simp only [Act.put, List.setIfInBounds_toArray, List.set_cons_zero, List.set_cons_succ]
  rfl
 refine pure_ (i := 1) (N := some 5) (v := ?_) (a' := ?_) #[true, true, false, false, false, false, false, false, false, false, false, false] rfl rfl (any_of HT_.out (by kernel_rfl)) (fun _ _ _ h => h) (Or.inl ⟨by rfl, ?_⟩) ?_ ?_
 rotate_left
 ·
  intro w'
  go_simp
  with_reducible rfl
 rotate_left
 ·
  simp only [Act.put, List.setIfInBounds_toArray, List.set_cons_zero, List.set_cons_succ]
  rfl
 refine pure_ (i := 2) (N := some 6) (v := ?_) (a' := ?_) #[true, true, true, false, false, false, false, false, false, false, false, false] rfl rfl (any_of HT_.out (by kernel_rfl)) (fun _ _ _ h => h) (Or.inl ⟨by rfl, ?_⟩) ?_ ?_
 rotate_left
 ·
  intro w'
  go_simp
  with_reducible rfl
 rotate_left
 ·
  simp only [Act.put, List.setIfInBounds_toArray, List.set_cons_zero, List.set_cons_succ]
  rfl
 refine pure_ (i := 3) (N := some 7) (v := ?_) (a' := ?_) #[true, true, true, true, false, false, false, false, false, false, false, false] rfl rfl (any_of HT_.out (by kernel_rfl)) (fun _ _ _ h => h) (Or.inl ⟨by rfl, ?_⟩) ?_ ?_
 rotate_left
 ·
  intro w'
  go_simp
  with_reducible rfl
 rotate_left
 ·
  simp only [Act.put, List.setIfInBounds_toArray, List.set_cons_zero, List.set_cons_succ]
  rfl
 refine take_ (i := 4) (N := some 8) (v := ?_) (a' := ?_) #[true, true, true, true, true, false, false, false, false, false, false, false] rfl rfl (take_ofW HT_.out HW_.out (by kernel_rfl)) (fun _ _ _ h => h) (Or.inl ⟨by rfl, ?_⟩) hHeld ?_ ?_
 rotate_left
 ·
  intro w' s0
  go_simp
  with_reducible rfl
 rotate_left
 ·
  simp only [Act.put, List.setIfInBounds_toArray, List.set_cons_zero, List.set_cons_succ]
  rfl
 refine pure_ (i := 5) (N := some 9) (v := ?_) (a' := ?_) #[true, true, true, true, true, true, false, false, false, false, false, false] rfl rfl (any_of HT_.out (by kernel_rfl)) (fun _ _ _ h => h) (Or.inl ⟨by rfl, ?_⟩) ?_ ?_
 rotate_left
 ·
  intro w'
  go_simp
  with_reducible rfl
 rotate_left
 ·
  simp only [Act.put, List.setIfInBounds_toArray, List.set_cons_zero, List.set_cons_succ]
  rfl
 refine pure_ (i := 6) (N := some 10) (v := ?_) (a' := ?_) #[true, true, true, true, true, true, true, false, false, false, false, false] rfl rfl (any_of HT_.out (by kernel_rfl)) (fun _ _ _ h => h) (Or.inl ⟨by rfl, ?_⟩) ?_ ?_
 rotate_left
 ·
  intro w'
  go_simp
  with_reducible rfl
 rotate_left
 ·
  simp only [Act.put, List.setIfInBounds_toArray, List.set_cons_zero, List.set_cons_succ]
  rfl
 refine one_ (i := 7) (N := some 11) #[true, true, true, true, true, true, true, true, false, false, false, false] rfl rfl (one_of HT_.out (by kernel_rfl)) (by decide) (fun K hK => ?_)
 refine Kd.R_lit_step (Kd.int .i64) _ 3 ?hg (N := 11) ?hd (xs := ([(x : Int)] : List Int)) (inner := [.int .i64 x]) (ok := fun _ => True) (okp := fun _ => True) ?hr ?hp (fun _ hk => hk) trivial (Below.refl _ _) (Nat.le_refl _) (by simp) ?_
 case hd => rfl
 case hg => rfl
 case hr => first | (go_simp; done) | (go_simp; rfl)
 case hp => exact (Reps.one (show Kd.M (Kd.int .i64) _ _ _ (x : Int) [.int .i64 x] from rfl) (Reps.none _ _))
 intro v11 w2 ho hb _ _
 have HS0_ := (hb.cell (World.block_lt_of_cell? _ _ hHeld)).trans hHeld
 obtain ⟨A11, c11, rfl⟩ := Kd.R_slice ho
 have HR11 := Lib.hid ho
 have hB1 : Below w.heap.size w w1 := by rw [← HW1.out]; exact below_drew1 (Below.refl _ _)
 have hB2 : Below w.heap.size w w2 := hB1.trans (hb.mono hB1.size)
 have HB2 := Lib.hid hB2
 have HR2 := Lib.hid (Kd.R_below HRL.out hB2)
 clear ho hb hB1 hB2
 refine hK.out _ _ HS0_ (fun hHeld => ?_)
 clear hK K
 refine norm_ (a' := ?_) ?_ ?_
 rotate_left
 ·
  show Act.put _ (some 11) _ = _
  simp only [Act.put, List.setIfInBounds_toArray, List.set_cons_zero, List.set_cons_succ]
  rfl
 refine last_ (i := 8) (N := some 12) #[true, true, true, true, true, true, true, true, true, false, false, false] rfl rfl (one_of HT_.out (by kernel_rfl)) (by decide) (fun K hK => ?_)
 refine Kd.R_append_rows_step (Kd.int .i64) (Rr := (Kd.int .i64).K w2) (w0 := w) (h + 1) (by rfl) (.tmp 8) (.tmp 11) 24 3 (.int .i64 0) 8 rfl Tryz.underlying24 infoInt rfl (by decide) (by omega) (.slice A (ints L).length c) (ints L) [(x : Int)] A11 1 c11 (fun _ => True) (fun _ => False) ?q1 ?q2 ?q3 ?q4 (fun _ _ h => h) (fun _ h => h.elim) (fun _ _ => trivial) ?q8 ?q9 ?q10 ?_
 case q1 => rw [ints_length]; rfl
 case q2 => rfl
 case q3 => exact HR2.out
 case q4 => exact (Kd.R_reads' HR11.out).2.2
 case q8 => exact HB2.out.mono HLT.out
 case q9 => exact Nat.le_trans HLT.out HB2.out.size
 case q10 => rw [ints_length]; omega
 intro v12 w3 ho hb hg hat
 obtain ⟨A12, c12, rfl⟩ := Kd.R_slice ho
 have HR3 := Lib.hid ho
 have HB3 := Lib.hid hb
 have HG3 := Lib.hid hg
 have HAT := Lib.hid hat
 have hne : (Value.slice A (ints L).length c).ownBlock ≠ some h := fun e => by
  have := Kd.R_base HRL.out h e
  omega
 have hblk : w3.heap[h]? = w.heap[h]? := (hg.block h (Nat.lt_of_lt_of_le HLT.out HB2.out.size) (fun e => hne e.symm)).trans (HB2.out.block h HLT.out)
 have hx3 : w3.cell? ⟨h, 1, none⟩ = some (.slice A L.length c) := by simp only [World.cell?, hblk]; exact hx
 have hf3 : w3.frozen? ⟨h, 1, none⟩ = false := by simp only [World.frozen?, hblk]; exact hf
 clear ho hb hg hat hne hHeld
 refine hK.out _ _ ?_
 clear hK K
 refine norm_ (a' := ?_) ?_ ?_
 rotate_left
 ·
  show Act.put _ (some 12) _ = _
  simp only [Act.put, List.setIfInBounds_toArray, List.set_cons_zero, List.set_cons_succ]
  rfl
 refine pure_ (i := 9) (N := some 13) (v := ?_) (a' := ?_) #[true, true, true, true, true, true, true, true, true, true, false, false] rfl rfl (any_of HT_.out (by kernel_rfl)) (fun _ _ _ h => h) (Or.inl ⟨by rfl, ?_⟩) ?_ ?_
 rotate_left
 ·
  intro w'
  go_simp
  with_reducible rfl
 rotate_left
 ·
  simp only [Act.put, List.setIfInBounds_toArray, List.set_cons_zero, List.set_cons_succ]
  rfl
 refine pure_ (i := 10) (N := some 14) (v := ?_) (a' := ?_) #[true, true, true, true, true, true, true, true, true, true, true, false] rfl rfl (any_of HT_.out (by kernel_rfl)) (fun _ _ _ h => h) (Or.inl ⟨by rfl, ?_⟩) ?_ ?_
 rotate_left
 ·
  intro w'
  go_simp
  with_reducible rfl
 rotate_left
 ·
  simp only [Act.put, List.setIfInBounds_toArray, List.set_cons_zero, List.set_cons_succ]
  rfl
 refine last_ (i := 11) (N := none) #[true, true, true, true, true, true, true, true, true, true, true, true] rfl rfl (one_of HT_.out (by kernel_rfl)) (by decide) (fun K hK => ?_)
 refine skip_ (w1 := w3.setCell ⟨h, 1, none⟩ (.slice A12 (ints L ++ [(x : Int)]).length c12)) (by rfl) rfl ?_ ?_
 ·
  first | (go_simp; done) | (go_simp; rfl)
 refine hK.out _ _ ?_
 clear hK K
 refine done_ (done_of HT_.out (by kernel_rfl)) ?_
 try go_wp2
 go_end0
 exact ⟨rfl, w2, w3, _, rfl, HR3.out, HB2.out, HB3.out, HG3.out, HAT.out⟩
end Go.Proofs.YtlapphhcficbjaaGreatDoor

namespace Go.Proofs.YtlapphhcficbjaaGreatDoor
set_option linter.unusedVariables false
set_option linter.unusedSimpArgs false
open Go.RowKit Go.Shelf Bits
open Go.Proofs.YtlapphhcficbjaaGreatDoorW.PrintWords Go.Proofs.YtlapphhcficbjaaGreatDoorW.PrintLast Go.Proofs.YtlapphhcficbjaaGreatDoorW.PrintMore
theorem length_upL (T : List Int) : ∀ (c : Nat) (L : List Nat) (j : Nat), (upL T c L j).length = L.length
 | 0, _, _ => rfl
 | c + 1, L, j => by
  unfold upL
  split
  ·
   rfl
  ·
   rw [length_upL, length_swapL]
theorem length_downL (T : List Int) : ∀ (c : Nat) (L : List Nat) (i n : Nat), (downL T c L i n).length = L.length
 | 0, _, _, _ => rfl
 | c + 1, L, i, n => by
  unfold downL
  split
  ·
   rfl
  ·
   split
   ·
    rfl
   ·
    rw [length_downL, length_swapL]
theorem Push_calls (h : Nat) (B : Option Nat) (T : List Int) (L : List Nat) (x : Nat) (h16 : L.length ≤ 1000) (w : World) (hR : RankAt w h B T L) :
  Calls Tryz.prog 173 #[.pointer (some ⟨h, 0, none⟩), .iface 3 (.int .i64 x)] w fun e w' => e = .returned (.tuple #[]) ∧ ∃ B', RankAt w' h B' T (L ++ [x]) ∧ KeepBut w w' h B ∧ Below h w w' ∧ (B' = B ∨ ∃ b, B' = some b ∧ w.heap.size ≤ b) := by
 obtain ⟨At, ct, v, hB, hCT, hAT, hRL, hvB⟩ := hR
 obtain ⟨A, c, rfl⟩ := Kd.R_slice hRL
 have hx := blk_cell hB 1
 simp at hx
 rw [ints_length] at hx
 have hlt := blk_lt hB
 refine (Push_walk h L x A c h16 w hlt hRL hx (blk_frozen hB 1)).mono ?_
 rintro e w' ⟨rfl, w2, w3, v', rfl, hR3, hB2, hB3, hG3, hat⟩
 have hs2 := hB2.size
 have hne : ∀ k, k ≤ h → (Value.slice A (ints L).length c).ownBlock ≠ some k := fun k hk e => by
  have := Kd.R_base hRL k e
  omega
 have hold : ∀ k, k ≤ h → w3.heap[k]? = w.heap[k]? := fun k hk => (hG3.block k (by omega) (fun e => hne k hk e.symm)).trans (hB2.block k (by omega))
 have hh := blk_set ((hold h (Nat.le_refl _)).trans hB) 1 v'
 refine ⟨rfl, v'.ownBlock, ⟨At, ct, v', hh, C_block hCT fun ad e hn => ?_, hAT, ?_, rfl⟩, ?_, ?_, ?_⟩
 ·
  have := hAT ad e hn
  exact (Below.heap_setCell _ _ _ _ (by simp; omega)).trans (hold _ (by omega))
 ·
  have e : ints (L ++ [x]) = ints L ++ [(x : Int)] := by simp [ints]
  rw [e]
  refine Kd.R_mono (Kd.R_step (Kd.R_tight rfl hR3) fun k hk _ => Below.heap_setCell _ _ _ _ ?_) fun _ _ => trivial
  have := Kd.R_base hR3 k hk.symm
  simp
  omega
 ·
  rw [← hvB]
  exact (((KeepBut.of_below hB2 h _).trans (KeepBut.of_grown hG3 h) (.inl rfl)).set_ 1 v')
 ·
  exact (hB3.mono (by omega)).setCell (p := ⟨h, 1, none⟩) (by simp) _
 ·
  rw [← hvB]
  rcases hat with e | ⟨b, e, hb⟩
  ·
   exact .inl e
  ·
   exact .inr ⟨b, e, by omega⟩
theorem Len_calls (h : Nat) (B : Option Nat) (T : List Int) (L : List Nat) (w : World) (hR : RankAt w h B T L) :
  Calls Tryz.prog 115 #[.pointer (some ⟨h, 0, none⟩)] w fun e w' => e = .returned (.int .i64 L.length) ∧ w' = w := by
 obtain ⟨At, ct, v, hB, hCT, hAT, hRL, hvB⟩ := hR
 obtain ⟨A, c, rfl⟩ := Kd.R_slice hRL
 have hx := blk_cell hB 1
 simp at hx
 rw [ints_length] at hx
 clear hB hCT hAT hRL hvB
 go_enter Tryz.func115, Tryz.ntmps115
 go_wp2
 go_ret
 exact ⟨rfl, rfl⟩
set_option maxRecDepth 1000000 in
set_option maxHeartbeats 4000000 in
theorem Pop_walk (h b cap n : Nat) (x : Int) (hn : 0 < n) (hcap : n ≤ cap) (hn1 : n ≤ 1000000) (w : World) (hx : w.cell? ⟨h, 1, none⟩ = some (.slice (some ⟨b, 0, none⟩) n cap)) (hf : w.frozen? ⟨h, 1, none⟩ = false)
  (hc : w.cell? ⟨b, n - 1, none⟩ = some (.int .i64 x)) :
  Calls Tryz.prog 172 #[.pointer (some ⟨h, 0, none⟩)] w fun e w' => e = .returned (.iface 3 (.int .i64 x)) ∧ ∃ q, w' = (w.setCell ⟨h, 1, none⟩ (.slice (some ⟨b, 0, none⟩) (n - 1) cap)).drewN q := by
 obtain ⟨m, rfl⟩ : ∃ m, n = m + 1 := ⟨n - 1, by omega⟩
 rw [Nat.add_sub_cancel] at hc ⊢
 go_enter Tryz.func172, Tryz.ntmps172
 go_wp2
 go_quiet (fail)
 obtain ⟨w1, hw1⟩ : ∃ w1, w1 = w.drewN nq := ⟨_, rfl⟩
 have hx1 : w1.cell? ⟨h, 1, none⟩ = some (.slice (some ⟨b, 0, none⟩) (m + 1) cap) := by rw [hw1]; exact hx
 have hf1 : w1.frozen? ⟨h, 1, none⟩ = false := by rw [hw1]; exact hf
 have HW := Lib.hid hw1
 rw [← hw1]
 clear hw1 hx hf hc
 have hmc : m ≤ cap := by omega
 have hwm : IntKind.i64.wrap (m : Int) = m := IntWalk.i64_in _ (by omega)
 go_wp2
 go_still_tail 14, mixed
 repeat still_step
 clear hwm
 go_wp2
 go_ret
 exact ⟨rfl, nq + 1, by rw [HW.out]; rfl⟩
theorem Pop_calls (h : Nat) (B : Option Nat) (T : List Int) (L : List Nat) (hL : 0 < L.length) (h16 : L.length ≤ 1000) (w : World) (hR : RankAt w h B T L) :
  Calls Tryz.prog 172 #[.pointer (some ⟨h, 0, none⟩)] w fun e w' => e = .returned (.iface 3 (.int .i64 (L.getD (L.length - 1) 0 : Nat))) ∧ RankAt w' h B T (L.take (L.length - 1)) ∧ KeepBut w w' h B ∧ Below h w w' := by
 obtain ⟨At, ct, v, hB, hCT, hAT, hRL, hvB⟩ := hR
 have hl := ints_length L
 obtain ⟨b, cap, rfl, hb1, hb2, _⟩ := Kd.R_form hRL (by omega)
 obtain ⟨ci, _⟩ := Kd.R_cell (0 : Int) hRL ((L.length - 1 : Nat) : Int) (by omega) (by omega)
 rw [rd_ints, Int.toNat_natCast] at ci
 have hcap := (Kd.R_reads' hRL).2.1
 have hx := blk_cell hB 1
 simp at hx
 rw [hl] at hcap hx
 refine (Pop_walk h b cap L.length _ hL hcap (by omega) w hx (blk_frozen hB 1) ci).mono ?_
 rintro e w' ⟨rfl, q, rfl⟩
 have hh := blk_set hB 1 (.slice (some ⟨b, 0, none⟩) (L.length - 1) cap)
 have hT := Kd.R_take hRL (m := L.length - 1) (by omega)
 have e2 : (ints L).take (L.length - 1) = ints (L.take (L.length - 1)) := by simp [ints, List.map_take]
 rw [e2] at hT
 refine ⟨rfl, ⟨At, ct, _, hh, C_block hCT fun ad e hn => ?_, hAT, ?_, ?_⟩, ?_, ?_⟩
 ·
  have := hAT ad e hn
  exact Below.heap_setCell _ _ _ _ (by simp; omega)
 ·
  refine Kd.R_mono (Kd.R_step (Kd.R_tight rfl hT) fun k hk _ => Below.heap_setCell _ _ _ _ ?_) fun _ _ => trivial
  have := Kd.R_base hT k hk.symm
  simp
  omega
 ·
  rw [← hvB]
  simp [Value.ownBlock]
 ·
  exact keep_drewN ((KeepBut.refl w h B).set_ 1 _) q
 ·
  exact pw_below_drewN ((Below.refl h w).setCell (p := ⟨h, 1, none⟩) (by simp) _) q
theorem mPush (h : Nat) : ∀ w, Sem.run Tryz.prog (method 315 159 (.pointer (some ⟨h, 0, none⟩)) "Push") w = .ok (173, .pointer (some ⟨h, 0, none⟩)) w := fun _ => by kernel_rfl
theorem mPop (h : Nat) : ∀ w, Sem.run Tryz.prog (method 315 159 (.pointer (some ⟨h, 0, none⟩)) "Pop") w = .ok (172, .pointer (some ⟨h, 0, none⟩)) w := fun _ => by kernel_rfl
theorem mLen (h : Nat) : ∀ w, Sem.run Tryz.prog (method 315 159 (.pointer (some ⟨h, 0, none⟩)) "Len") w = .ok (115, .pointer (some ⟨h, 0, none⟩)) w := fun _ => by kernel_rfl
set_option maxRecDepth 1000000 in
set_option maxHeartbeats 4000000 in
theorem heapPush_calls (h : Nat) (B : Option Nat) (T : List Int) (L : List Nat) (x : Nat) (hx : x < T.length) (hT : ∀ y ∈ L, y < T.length) (h16 : L.length ≤ 900) (w : World) (hR : RankAt w h B T L) :
  Calls Tryz.prog 114 #[.iface 159 (.pointer (some ⟨h, 0, none⟩)), .iface 3 (.int .i64 x)] w fun e w' => e = .returned (.tuple #[]) ∧ ∃ B', RankAt w' h B' T (pushL T L x) ∧ KeepBut w w' h B ∧ Below h w w' ∧ (B' = B ∨ ∃ b, B' = some b ∧ w.heap.size ≤ b) := by
 have mP := mPush h
 have mN := mLen h
 have HP := Lib.hid (Push_calls h B T L x (by omega) w hR)
 have hlen : (L ++ [x]).length = L.length + 1 := by simp
 have HL := Lib.hid (fun (B' : Option Nat) (W : World) (hW : RankAt W h B' T (L ++ [x])) => Len_calls h B' T (L ++ [x]) W hW)
 rw [hlen] at HL
 have HU := Lib.hid (fun (B' : Option Nat) (W : World) (hW : RankAt W h B' T (L ++ [x])) => up_calls h B' T (L ++ [x]) L.length (by omega) (by omega) (fun y hy => by
  rcases List.mem_append.1 hy with hy | hy
  ·
   exact hT y hy
  ·
   simp at hy
   omega) W hW)
 clear hR hT hx hlen
 go_enter Tryz.func114, Tryz.ntmps114
 go_wp2_with (first | (go_at_call 173; refine HP.out.mono ?_; rintro e w1 ⟨rfl, B1, hR1, hK1, hB1, hBB⟩) | (go_at_call 115; refine (HL.out B1 _ hR1).mono ?_; rintro e w' ⟨rfl, rfl⟩) | (go_at_call 129; refine (HU.out B1 _ hR1).mono ?_; rintro e w2 ⟨rfl, hR2, hK2, hB2⟩))
 go_end0
 exact ⟨rfl, B1, hR2, hK1.trans hK2 hBB, hB1.trans hB2, hBB⟩
set_option maxRecDepth 1000000 in
set_option maxHeartbeats 4000000 in
theorem heapPop_calls (h : Nat) (B : Option Nat) (T : List Int) (L : List Nat) (hL : 0 < L.length) (hT : ∀ y ∈ L, y < T.length) (h16 : L.length ≤ 900) (w : World) (hR : RankAt w h B T L) :
  Calls Tryz.prog 116 #[.iface 159 (.pointer (some ⟨h, 0, none⟩))] w fun e w' => e = .returned (.iface 3 (.int .i64 ((popL T L).getD (L.length - 1) 0 : Nat))) ∧ RankAt w' h B T ((popL T L).take (L.length - 1)) ∧ KeepBut w w' h B ∧ Below h w w' := by
 have mP := mPop h
 have mN := mLen h
 have mS := mSwap h
 obtain ⟨m, hm⟩ : ∃ m, L.length = m + 1 := ⟨L.length - 1, by omega⟩
 have HN := Lib.hid (Len_calls h B T L w hR)
 have HS := Lib.hid (Swap_calls h B T L 0 m (by omega) (by omega) w hR)
 have hs := length_swapL L 0 m
 have HD := Lib.hid (fun (W : World) (hW : RankAt W h B T (swapL L 0 m)) => down_calls h B T (swapL L 0 m) 0 m L.length (by omega) (by omega) (by omega) (by omega) (fun y hy => hT y (mem_swapL (by omega) (by omega) hy)) W hW)
 have hpl : downL T L.length (swapL L 0 m) 0 m = popL T L := by unfold popL; rw [hm, Nat.add_sub_cancel]
 have hpn : (popL T L).length = m + 1 := by rw [← hpl, length_downL, hs, hm]
 rw [hpl] at HD
 have HP := Lib.hid (fun (W : World) (hW : RankAt W h B T (popL T L)) => Pop_calls h B T (popL T L) (by omega) (by omega) W hW)
 rw [hpn, Nat.add_sub_cancel] at HP
 rw [hm, Nat.add_sub_cancel]
 rw [hm] at HN
 clear hR hT hs hpl hpn hL
 go_enter Tryz.func116, Tryz.ntmps116
 go_wp2_with (first | (go_at_call 115; refine HN.out.mono ?_; rintro e w' ⟨rfl, rfl⟩) | (go_at_call 174; refine HS.out.mono ?_; rintro e w1 ⟨rfl, hR1, hK1, hB1⟩) | (go_at_call 130; refine (HD.out _ hR1).mono ?_; rintro e w2 ⟨b, rfl, hR2, hK2, hB2⟩) | (go_at_call 172; refine (HP.out _ hR2).mono ?_; rintro e w3 ⟨rfl, hR3, hK3, hB3⟩))
 go_ret
 exact ⟨rfl, hR3, (hK1.trans hK2 (.inl rfl)).trans hK3 (.inl rfl), (hB1.trans hB2).trans hB3⟩
end Go.Proofs.YtlapphhcficbjaaGreatDoor
