/- Parts of the proof, laid as one text by a program of mine. -/
import Derived.StillTailTactics
import Derived.Deep.RegionHeld3
import Derived.Test.YtdjdfbfcjajlkaaDoorKbc18
import Derived.Test.YtdjdfbfcjajlkaaDoorKbc13
import Derived.Test.YtdjdfbfcjajlkaaDoorKbc10
import Derived.Test.YtdjdfbfcjajlkaaDoorKbc15
import Derived.Test.YtdjdfbfcjajlkaaDoorKbc12
namespace Go.Proofs.YtdjdfbfcjajlkaaDoor
set_option linter.unusedVariables false
set_option linter.unusedSimpArgs false
open Go.RowKit Go.Shelf Bits
open Go.Proofs.YtdjdfbfcjajlkaaDoorW.PrintWords Go.Proofs.YtdjdfbfcjajlkaaDoorW.PrintLast Go.Proofs.YtdjdfbfcjajlkaaDoorW.PrintMore
attribute [local go_sem] Oper.semAt_some
theorem below_has {w w' : World} (h : Below w.heap.size w w') {a : Addr} {v : Value} (hc : w.cell? a = some v) : w'.cell? a = some v := by
 refine (h.cell ?_).trans hc
 apply Classical.byContradiction
 intro hn
 unfold World.cell? at hc
 rw [Array.getElem?_eq_none (by omega)] at hc
 cases hc
theorem kept_cell {w w' : World} {b : Nat} (h : KeepBut w w' b none) {a : Addr} {v : Value} (hc : w.cell? a = some v) (hn : a.block ≠ b) : w'.cell? a = some v := by
 refine (World.cell?_of_block (h.2 a.block ?_ hn (by simp))).trans hc
 apply Classical.byContradiction
 intro hn
 unfold World.cell? at hc
 rw [Array.getElem?_eq_none (by omega)] at hc
 cases hc
theorem all_not_at {g : List Tk} {ns : List Nat} {rm : List Int} {wk : Int} {cl : List Ev} {j : Nat} (h : okE g ns rm wk (cl.take j) (rdEv cl j) = false) (hj : j < cl.length) : okAllB g ns rm wk cl = false := by
 unfold okAllB
 rw [List.all_eq_false]
 exact ⟨j, List.mem_range.2 hj, by rw [h]; simp⟩
theorem sum_abs {f : Ev → Int} {b : Int} (hf : ∀ e, -b ≤ f e ∧ f e ≤ b) (hb : 0 ≤ b) : ∀ l : List Ev, -(b * l.length) ≤ (l.map f).sum ∧ (l.map f).sum ≤ b * l.length
 | [] => by simp
 | e :: l => by
  have ih := sum_abs hf hb l
  have h := hf e
  rw [List.map_cons, List.sum_cons, List.length_cons, show ((l.length + 1 : Nat) : Int) = (l.length : Int) + 1 from by omega, Int.mul_add, Int.mul_one]
  omega
theorem cOf_small {g : List Tk} (hok : TOk g) {l : List Ev} (hl : l.length ≤ 20) : (cOf g l).small 1000 := by
 refine ⟨?_, fun j => ?_⟩
 ·
  have := sum_abs (f := sgn) (b := 1) (fun e => by unfold sgn; split <;> omega) (by omega) l
  show -1000 ≤ (l.map sgn).sum ∧ (l.map sgn).sum ≤ 1000
  omega
 ·
  have := sum_abs (f := unU g (j : Int)) (b := 4) (fun e => by
   have := hok.2.2.2.1 e.f1.toNat
   unfold unU sgn
   split
   ·
    split <;> omega
   ·
    omega) (by omega) l
  show -(1000 * 1000) ≤ (l.map (unU g (j : Int))).sum ∧ (l.map (unU g (j : Int))).sum ≤ 1000 * 1000
  omega
theorem dOf_lt {n : Nat} : ∀ (l : List Ev) (d : Nat), d < 2 ^ n → (∀ e ∈ l, e.f1.toNat < n) → l.foldl dStep d < 2 ^ n
 | [], _, h, _ => h
 | e :: l, d, h, hl => by
  refine dOf_lt l (dStep d e) ?_ (fun x hx => hl x (List.mem_cons_of_mem _ hx))
  unfold dStep
  split
  ·
   exact Nat.or_lt_two_pow h (Nat.pow_lt_pow_right (by decide) (hl e List.mem_cons_self))
  ·
   exact h
def StPost (g : List Tk) (rm : List Int) (wk : Int) (st : List Int) (w : World) (e : Ending) (w' : World) : Prop :=
 (stN g rm wk st = true ∧ ∃ C ns, e = .returned (.tuple #[.pointer (some ⟨C, 0, none⟩), .bool true]) ∧ graphN g = some ns ∧ IsGraph w' C g ns ∧ Below w.heap.size w w') ∨
 (stN g rm wk st = false ∧ e = .returned (.tuple #[.pointer none, .bool false]) ∧ Below w.heap.size w w')
set_option maxRecDepth 1000000 in
set_option maxHeartbeats 8000000 in
theorem startsIn_calls (A : Option Addr) (c : Nat) (g : List Tk) (A1 : Option Addr) (c1 : Nat) (rm : List Int) (wk : Int) (A2 : Option Addr) (c2 : Nat) (st : List Int) (w : World) (hr : kTk.C w A g.length g) (hr1 : (Kd.int .i64).C w A1 rm.length rm) (hr2 : (Kd.int .i64).C w A2 st.length st) (hT : Tab w) :
  Calls Tryd.prog 60 #[.slice A g.length c, .slice A1 rm.length c1, .int .i64 wk, .slice A2 st.length c2] w (StPost g rm wk st w) := by
 have hgl := (C_len hr).2
 have hsl := (C_len hr2).2
 by_cases hp : ∃ ns, graphN g = some ns ∧ placeB rm wk = true
 ·
  obtain ⟨ns, hg, hp⟩ := hp
  have HP := Lib.hid (placeIn_yes A c g ns A1 c1 rm wk hp w hr hT hg hr1)
  have HR1 := Lib.hid hr1
  have HR2 := Lib.hid hr2
  have HGR := Lib.hid hg
  have HOK := Lib.hid (specValid_TOk (graphN_spec hg))
  have h8 := (specValid_TOk (graphN_spec hg)).1
  have HRM := Lib.hid (roomB_facts (placeB_facts hp).1).1
  have HNL := Lib.hid (graphN_all hg).2.1
  have HNS := Lib.hid (needsN_lt (graphN_some hg).1)
  by_cases h4 : st.length = g.length
  ·
   have d4 : ((st.length : Int) != (g.length : Int)) = false := by rw [bne_eq_false_iff_eq]; omega
   have HL := Lib.hid h4
   have HE : Hid (stN g rm wk st = (allInB st 0 200 && startsB g ns rm wk st)) := Lib.hid (by
    unfold stN
    rw [hg]
    show (placeB rm wk && (decide (st.length = g.length) && (allInB st 0 200 && startsB g ns rm wk st))) = _
    rw [hp, decide_eq_true h4, Bool.true_and, Bool.true_and])
   clear hr hr1 hr2 hT hg hp h4
   go_enter Tryd.func60, Tryd.ntmps60
   go_wp2_with (go_at_call 54; refine HP.out.mono ?_; rintro e w1 ⟨C, rfl, hG1, hB1⟩; have HG1 := Lib.hid hG1; have HB1 := Lib.hid hB1; clear hG1 hB1)
   go_loop [37] (fun i => ∃ (k : Nat), k ≤ st.length ∧ i = .int .i64 k ∧ Hid (∀ j, j < k → inB (st.getD j 0) 0 200 = true)) (fun i => st.length - (intOf i).toNat)
   case atStart => exact ⟨0, Nat.zero_le _, rfl, Lib.hid fun j h => absurd h (Nat.not_lt_zero _)⟩
   case round =>
    obtain ⟨k, hk, rfl, HS⟩ := hrel
    by_cases hlt : k < st.length
    ·
     have hjj : decide ((k : Int) < (st.length : Int)) = true := decide_eq_true (by omega)
     have hji : (k : Int) < (st.length : Int) := by omega
     obtain ⟨ad, rfl, hc⟩ := at_num (Kd.C_below HR2.out HB1.out) k hlt
     cases hb : inB (st.getD k 0) 0 200
     ·
      have HF : Hid (stN g rm wk st = false) := Lib.hid (by
       rw [HE.out, show allInB st 0 200 = false by
        unfold allInB
        exact all_not 0 hlt hb]
       rfl)
      have HW := Lib.hid hb
      clear hb
      generalize st.getD k 0 = x at hc HW
      go_wp2_with (go_at_call 64; refine (within_is _ _ _ _ HW _).mono ?_; rintro e w2 ⟨rfl, rfl⟩)
      go_ret2
      exact .inr ⟨HF.out, rfl, HB1.out⟩
     ·
      have HN : Hid (∀ j, j < k + 1 → inB (st.getD j 0) 0 200 = true) := Lib.hid (fun j hj => by
       by_cases e : j = k
       ·
        rw [e]; exact hb
       ·
        exact HS.out j (by omega))
      have HW := Lib.hid hb
      clear hb
      generalize st.getD k 0 = x at hc HW
      go_wp2_with (go_at_call 64; refine (within_is _ _ _ _ HW _).mono ?_; rintro e w2 ⟨rfl, rfl⟩)
      go_round
      case rel => exact ⟨k + 1, by omega, by go_num, HN⟩
      case measure => simp [intOf]; omega
    ·
     have hjj : decide ((k : Int) < (st.length : Int)) = false := decide_eq_false (by omega)
     have HAI : Hid (allInB st 0 200 = true) := Lib.hid (by
      unfold allInB
      exact all_take 0 (fun j hj => HS.out j (by omega)))
     have HSOK := Lib.hid (allIn_sok HAI.out)
     have HE2 : Hid (stN g rm wk st = okAllB g ns rm wk (chgS g st)) := Lib.hid (by rw [HE.out, HAI.out, Bool.true_and]; rfl)
     have HBa : Hid (Below w1.heap.size w1 (w1.alloc (.cells #[.int .i64 0, .int .i64 0, .int .i64 0, .int .i64 0] 101))) := Lib.hid ((Below.refl _ _).alloc (Nat.le_refl _) _)
     have HCH := Lib.hid (changes_calls C g ns A2 c2 st HOK.out HSOK.out HL.out _ (HG1.out.below HBa.out) (Kd.C_below HR2.out (HB1.out.trans (HBa.out.mono HB1.out.size))))
     have HCA : Hid (CAt (w1.alloc (.cells #[.int .i64 0, .int .i64 0, .int .i64 0, .int .i64 0] 101)) w1.heap.size (cOf g [])) := Lib.hid (World.alloc_heap_new w1 _)
     have HMEM := Lib.hid (fun (x : Ev) (hx : x ∈ chgS g st) => mem_chgS.1 hx)
     have hcl : (chgS g st).length ≤ 16 := by rw [chgS_len]; omega
     generalize chgS g st = cl at HE2 HCH HMEM hcl
     go_wp2_with (go_at_call 66; refine HCH.out.mono ?_; rintro e w3 ⟨A3, c3, rfl, hR3, hB3⟩; have HR3 := Lib.hid hR3; have HB3 := Lib.hid hB3; clear hR3 hB3)
     have HK3 := Lib.hid (keep_below w1.heap.size HB3.out)
     have HCA3 := Lib.hid (HCA.out.below HB3.out)
     have HB13 := Lib.hid (HBa.out.trans (HB3.out.mono HBa.out.size))
     have hb3 := HCA3.out.lt
     go_loopw [15, 49] (fun d i wr => ∃ j, j ≤ cl.length ∧ i = .int .i64 (j : Nat) ∧ d = .int .u16 (dOf (cl.take j) : Nat) ∧ Hid (∀ q, q < j → okE g ns rm wk (cl.take q) (rdEv cl q) = true) ∧ CAt wr w1.heap.size (cOf g (cl.take j)) ∧ KeepBut w3 wr w1.heap.size none ∧ Below w1.heap.size w1 wr) (fun _ i _ => cl.length - (intOf i).toNat)
     case atStart => exact ⟨0, Nat.zero_le _, rfl, rfl, Lib.hid fun q h => absurd h (Nat.not_lt_zero _), HCA3.out, KeepBut.refl _ _ _, HB13.out⟩
     case round =>
      obtain ⟨j, hj, rfl, rfl, HQ, hCA, hK, hB⟩ := hrel
      by_cases hjl : j < cl.length
      ·
       have hjj : decide ((j : Int) < (cl.length : Int)) = true := decide_eq_true (by omega)
       have hji : (j : Int) < (cl.length : Int) := by omega
       have hCR : kEv.C wr A3 cl.length cl := HR3.out wr hK.1 (fun q hq hql => hK.2 q hql (by simp at hq; omega) (by simp))
       obtain ⟨ad, rfl, x0, x1, x2⟩ := at_Ev hCR j hjl
       have hmem : rdEv cl j ∈ cl := by
        unfold rdEv
        rw [List.getD_eq_getElem?_getD, List.getElem?_eq_getElem hjl]
        exact List.getElem_mem _
       have HTK : Hid (cl.take (j + 1) = cl.take j ++ [rdEv cl j]) := Lib.hid (by
        rw [List.take_succ_eq_append_getElem hjl]
        unfold rdEv
        rw [List.getD_eq_getElem?_getD, List.getElem?_eq_getElem hjl]
        rfl)
       have hdl : dOf (cl.take j) < 2 ^ g.length := dOf_lt _ 0 (Nat.two_pow_pos _) (fun e he => by
        obtain ⟨q, hq, hh⟩ := HMEM.out e (List.mem_of_mem_take he)
        rcases hh with rfl | rfl
        ·
         simpa [chB] using hq
        ·
         simpa [chO] using hq)
       have hd16 : dOf (cl.take j) < 65536 := Nat.lt_of_lt_of_le hdl (Nat.le_trans (Nat.pow_le_pow_right (by omega) h8) (by decide))
       have HCS : Hid ((cOf g (cl.take j)).small 1000) := Lib.hid (cOf_small HOK.out (by rw [List.length_take]; omega))
       have HOE : Hid (okE g ns rm wk (cl.take j) (rdEv cl j) = ((rdEv cl j).f2 || (decide (diff (ns.getD (rdEv cl j).f1.toNat 0) (dOf (cl.take j)) = 0) && (cOf g (cl.take j)).can (rdTk g (rdEv cl j).f1.toNat).f2.toNat (rdTk g (rdEv cl j).f1.toNat).f3 rm wk))) := Lib.hid rfl
       have HSN := Lib.hid (fun (p : Nat) (hp : (rdTk g (rdEv cl j).f1.toNat).f2 = (p : Int)) => (cOf_snoc (g := g) (l := cl.take j) (e := rdEv cl j) hp))
       have HDN := Lib.hid (dOf_snoc (cl.take j) (rdEv cl j))
       rw [← HTK.out] at HSN HDN
       obtain ⟨i, hig, hev⟩ := HMEM.out _ hmem
       have hf1 : (rdEv cl j).f1 = (i : Int) := by rcases hev with e | e <;> (rw [e]; rfl)
       have htn : (rdEv cl j).f1.toNat = i := by rw [hf1, Int.toNat_natCast]
       have HFL : Hid (∃ b, b = (rdEv cl j).f2) := Lib.hid ⟨_, rfl⟩
       obtain ⟨bo, hbo⟩ := HFL.out
       have HSG : Hid (sgn (rdEv cl j) = if bo then -1 else 1) := Lib.hid (by unfold sgn; rw [hbo])
       have HDS : Hid (dStep (dOf (cl.take j)) (rdEv cl j) = if bo then dOf (cl.take j) ||| 2 ^ i else dOf (cl.take j)) := Lib.hid (by unfold dStep; rw [htn, hbo])
       rw [htn, ← hbo] at HOE
       rw [htn] at HSN
       rw [hf1] at x1
       rw [← hbo] at x2
       clear hf1 htn hbo hev HFL hmem hCR
       generalize (rdEv cl j).f0 = at0 at x0
       have hi16 : i < 16 := by omega
       -- the graph and the event, boxed
       have HCA := Lib.hid hCA
       have HK := Lib.hid hK
       have HBB := Lib.hid hB
       have hbr : w1.heap.size < wr.heap.size := hCA.lt
       clear hCA hK hB
       go_upto_region 15 with (fail)
       obtain ⟨W1, hW1⟩ : ∃ W1, W1 = wr.alloc (.cells #[.int .i64 at0, .int .i64 (i : Nat), .bool bo] 81) := ⟨_, rfl⟩
       have hsz1 : W1.heap.size = wr.heap.size + 1 := by rw [hW1]; simp
       have hBE : Below wr.heap.size wr W1 := by rw [hW1]; exact (Below.refl _ _).alloc (Nat.le_refl _) _
       have hEb : W1.heap[wr.heap.size]? = some (.cells #[.int .i64 at0, .int .i64 (i : Nat), .bool bo] 81 (0, 0)) := by rw [hW1]; exact World.alloc_heap_new _ _
       rw [← hW1]
       clear hW1 x0 x1 x2
       have HB11 := Lib.hid (HBB.out.trans (hBE.mono HBB.out.size))
       have HCA1 := Lib.hid (HCA.out.below hBE)
       have HK1 := Lib.hid (keep_trans HK.out (keep_below w1.heap.size hBE))
       have e1 : W1.cell? ⟨wr.heap.size, 1, none⟩ = some (.int .i64 (i : Nat)) := (blk_cell hEb 1).trans (by simp)
       obtain ⟨Ag, cg, An, cn, Ao, co, vb, va, h1, h2, h3, _⟩ := HG1.out.below HB11.out
       have cC := blk_cell h1 0
       simp at cC
       obtain ⟨adt, A4, c4, rfl, hx0, hx1, hx2, hx3, _, _⟩ := at_Tk h2 i hig
       obtain ⟨p, hp⟩ : ∃ p : Nat, (rdTk g i).f2 = (p : Int) := ⟨(rdTk g i).f2.toNat, by have := HOK.out.2.2.1 i; omega⟩
       have hp3 : p < 3 := by have := HOK.out.2.2.1 i; omega
       have hu4 := HOK.out.2.2.2.1 i
       have HSN2 : Hid (cOf g (cl.take (j + 1)) = (cOf g (cl.take j)).add p (rdTk g i).f3 (sgn (rdEv cl j))) := Lib.hid (HSN.out p hp)
       rw [hp] at hx2 HOE
       rw [Int.toNat_natCast] at HOE
       have HEB := Lib.hid hEb
       clear HSN hp h1 h2 h3 hBE hEb
       generalize (rdTk g i).f0 = f0 at hx0
       generalize (rdTk g i).f1.length = n1 at hx1
       generalize (rdTk g i).f3 = f3 at hx3 hu4 HSN2 HOE
       generalize cOf g (cl.take j) = ct at HCA1 HCS HOE HSN2
       generalize dOf (cl.take j) = dn at hdl hd16 HOE HDN HDS
       have hii : (i : Int) < (g.length : Int) := by omega
       have HKEEP : Hid (∀ W, Below W1.heap.size W1 W → (W.cell? ⟨wr.heap.size, 1, none⟩ = some (.int .i64 (i : Nat)) ∧ W.cell? ⟨C, 0, none⟩ = some (.slice (some adt) g.length cg) ∧ W.cell? (adt.add (i * 4)) = some (.int .i64 f0) ∧ W.cell? ⟨(adt.add (i * 4)).block, (adt.add (i * 4)).off + 1, none⟩ = some (.slice A4 n1 c4) ∧ W.cell? ⟨(adt.add (i * 4)).block, (adt.add (i * 4)).off + 2, none⟩ = some (.int .i64 (p : Nat)) ∧ W.cell? ⟨(adt.add (i * 4)).block, (adt.add (i * 4)).off + 3, none⟩ = some (.int .i64 f3) ∧ Below W1.heap.size W1 W)) := Lib.hid (fun W hW => ⟨below_has hW e1, below_has hW cC, below_has hW hx0, below_has hW hx1, below_has hW hx2, below_has hW hx3, hW⟩)
       go_region_held3 (fun W => W.cell? ⟨wr.heap.size, 1, none⟩ = some (.int .i64 (i : Nat)) ∧ W.cell? ⟨C, 0, none⟩ = some (.slice (some adt) g.length cg) ∧ W.cell? (adt.add (i * 4)) = some (.int .i64 f0) ∧ W.cell? ⟨(adt.add (i * 4)).block, (adt.add (i * 4)).off + 1, none⟩ = some (.slice A4 n1 c4) ∧ W.cell? ⟨(adt.add (i * 4)).block, (adt.add (i * 4)).off + 2, none⟩ = some (.int .i64 (p : Nat)) ∧ W.cell? ⟨(adt.add (i * 4)).block, (adt.add (i * 4)).off + 3, none⟩ = some (.int .i64 f3) ∧ Below W1.heap.size W1 W) (first | (refine HKEEP.out _ ?_; repeat (first | exact Below.refl _ _ | apply below_alloc | apply pw_below_drewN | apply below_drew1))) (fail)
       obtain ⟨W2, hW2⟩ : ∃ W2, W2 = (W1.alloc (.cells #[.int .i64 f0, .slice A4 n1 c4, .int .i64 (p : Nat), .int .i64 f3] 58)).drew := ⟨_, rfl⟩
       have HB2 : Hid (Below W1.heap.size W1 W2) := Lib.hid (by rw [hW2]; exact below_drew1 ((Below.refl _ _).alloc (Nat.le_refl _) _))
       have hTb : W2.heap[W1.heap.size]? = some (.cells #[.int .i64 f0, .slice A4 n1 c4, .int .i64 (p : Nat), .int .i64 f3] 58 (0, 0)) := by rw [hW2]; exact World.alloc_heap_new W1 _
       rw [hsz1] at hTb
       rw [← hW2]
       have e2 : W1.cell? ⟨wr.heap.size, 2, none⟩ = some (.bool bo) := (blk_cell HEB.out 2).trans (by simp)
       have HB12 := Lib.hid (HB11.out.trans (HB2.out.mono HB11.out.size))
       have HCA2 := Lib.hid (HCA1.out.below HB2.out)
       have HK2 := Lib.hid (keep_trans HK1.out (keep_below w1.heap.size HB2.out))
       replace e1 := below_has HB2.out e1
       replace e2 := below_has HB2.out e2
       have b0 : W2.cell? ⟨wr.heap.size + 1, 0, none⟩ = some (.int .i64 f0) := (blk_cell hTb 0).trans (by simp)
       have b1 : W2.cell? ⟨wr.heap.size + 1, 1, none⟩ = some (.slice A4 n1 c4) := (blk_cell hTb 1).trans (by simp)
       have b2 : W2.cell? ⟨wr.heap.size + 1, 2, none⟩ = some (.int .i64 (p : Nat)) := (blk_cell hTb 2).trans (by simp)
       have b3 : W2.cell? ⟨wr.heap.size + 1, 3, none⟩ = some (.int .i64 f3) := (blk_cell hTb 3).trans (by simp)
       clear hW2 hTb HKEEP hx0 hx1 hx2 hx3 cC HEB HCA1 HK1 hsz1
       cases bo
       ·
        rw [HSG.out, if_neg (by simp)] at HSN2
        rw [HDS.out, if_neg (by simp)] at HDN
        obtain ⟨Ag', cg', An, cn, Ao, co, vb, va, h1, h2, h3, _⟩ := HG1.out.below HB12.out
        have cN := blk_cell h1 1
        simp at cN
        obtain ⟨adn, rfl, cn1⟩ := at_set h3 i (by rw [HNL.out]; exact hig)
        rw [HNL.out] at cN
        have hn16 := HNS.out i
        rw [Bool.false_or] at HOE
        generalize ns.getD i 0 = nd at cn1 hn16 HOE
        have hbd : bits BinOp.andNot IntKind.u16 (nd : Int) (dn : Int) = ((diff nd dn : Nat) : Int) := bits_andNot_u16 _ _ hn16
        clear HSG HDS h1 h2 h3
        by_cases hdf : diff nd dn = 0
        ·
         have hdz : (((diff nd dn : Nat) : Int) != 0) = false := by rw [hdf]; rfl
         rw [decide_eq_true hdf, Bool.true_and] at HOE
         have HTK := Lib.hid (fun W hW => takes_calls w1.heap.size ct f0 (.slice A4 n1 c4) p f3 A1 c1 rm wk hp3 ⟨by omega, by omega⟩ HCS.out HRM.out W (HCA2.out.below hW) (Kd.C_below HR1.out (HB1.out.trans ((HB12.out.trans (hW.mono HB12.out.size)).mono HB1.out.size))))
         have HB5 : ∀ {w5 : World}, Below w1.heap.size W2.drew w5 → Below w1.heap.size W2 w5 := fun h => (Below.refl _ _).drew.trans h
         clear hdf
         generalize diff nd dn = dd at hbd hdz
         cases hcan : ct.can p f3 rm wk
         ·
          rw [hcan] at HTK HOE
          have HFL2 : Hid (stN g rm wk st = false) := Lib.hid (by rw [HE2.out]; exact all_not_at HOE.out hjl)
          go_upto_region 19 with (fail)
          go_still_tail 15, mixed
          repeat still_step
          try refine wpStill_nil ?_
          change wpList _ _ _ _ _ W2.drew
          go_wp2_with (go_at_call 96; refine (HTK.out _ (Below.refl _ _).drew).mono ?_; rintro e w5 ⟨rfl, hC5, hK5, hB5⟩)
          go_ret2
          exact .inr ⟨HFL2.out, rfl, HB1.out.trans ((HB12.out.trans (HB5 hB5)).mono HB1.out.size)⟩
         ·
          rw [hcan] at HTK HOE
          have HQ2 : Hid (∀ q, q < j + 1 → okE g ns rm wk (cl.take q) (rdEv cl q) = true) := Lib.hid (fun q hq => by
           by_cases e : q = j
           ·
            rw [e]; exact HOE.out
           ·
            exact HQ.out q (by omega))
          go_upto_region 19 with (fail)
          go_still_tail 15, mixed
          repeat still_step
          try refine wpStill_nil ?_
          change wpList _ _ _ _ _ W2.drew
          go_wp2_with (go_at_call 96; refine (HTK.out _ (Below.refl _ _).drew).mono ?_; rintro e w5 ⟨rfl, hC5, hK5, hB5⟩)
          replace hC5 : CAt w5 w1.heap.size (ct.add p f3 1) := by simpa using hC5
          go_roundw
          case rel => exact ⟨j + 1, by omega, by go_num, by rw [HDN.out], HQ2, by rw [HSN2.out]; exact hC5, keep_trans HK2.out ((keep_below w1.heap.size (Below.refl _ _).drew).trans hK5 (.inl rfl)), HB12.out.trans (HB5 hB5)⟩
          case measure => simp [intOf]; omega
        ·
         have hdz : (((diff nd dn : Nat) : Int) != 0) = true := bne_iff_ne.2 (by omega)
         rw [decide_eq_false hdf, Bool.false_and] at HOE
         have HFL2 : Hid (stN g rm wk st = false) := Lib.hid (by rw [HE2.out]; exact all_not_at HOE.out hjl)
         clear hdf
         generalize diff nd dn = dd at hbd hdz
         go_upto_region 19 with (fail)
         go_quiet (fail)
         go_wp2
         go_ret2
         exact .inr ⟨HFL2.out, rfl, HB1.out.trans (((pw_below_drewN HB12.out _)).mono HB1.out.size)⟩
       ·
        have HOE2 : Hid (okE g ns rm wk (cl.take j) (rdEv cl j) = true) := Lib.hid (by rw [HOE.out]; rfl)
        have HQ2 : Hid (∀ q, q < j + 1 → okE g ns rm wk (cl.take q) (rdEv cl q) = true) := Lib.hid (fun q hq => by
         by_cases e : q = j
         ·
          rw [e]; exact HOE2.out
         ·
          exact HQ.out q (by omega))
        have HADD := Lib.hid (add_calls w1.heap.size ct f0 (.slice A4 n1 c4) p f3 (-1) hp3 ⟨by omega, by omega⟩ (.inr rfl) HCS.out W2 HCA2.out)
        rw [HSG.out, if_pos rfl] at HSN2
        rw [HDS.out, if_pos rfl] at HDN
        clear HOE HOE2 HSG HDS
        go_wp2_with (first | (go_at_call 95; refine HADD.out.mono ?_; rintro e w5 ⟨rfl, hC5, hK5, hB5⟩; have e5 := kept_cell hK5 e1 (Nat.ne_of_gt hbr)) | (go_at_call 62; refine (with_calls dn i hd16 hi16 _).mono ?_; rintro e w6 ⟨rfl, rfl⟩))
        go_roundw
        case rel => exact ⟨j + 1, by omega, by go_num, by rw [HDN.out], HQ2, by rw [HSN2.out]; exact hC5, keep_trans HK2.out hK5, HB12.out.trans hB5⟩
        case measure => simp [intOf]; omega
      ·
       obtain rfl : j = cl.length := by omega
       have hjj : decide ((cl.length : Int) < (cl.length : Int)) = false := decide_eq_false (by omega)
       have HTR : Hid (stN g rm wk st = true) := Lib.hid (by
        rw [HE2.out]
        unfold okAllB
        rw [List.all_eq_true]
        exact fun q hq => HQ.out q (List.mem_range.1 hq))
       go_wp2
       go_ret2
       exact .inl ⟨HTR.out, C, ns, rfl, HGR.out, HG1.out.below hB, HB1.out.trans (hB.mono HB1.out.size)⟩
  ·
   have HF : Hid (stN g rm wk st = false) := Lib.hid (by
    unfold stN
    rw [hg]
    show (placeB rm wk && (decide (st.length = g.length) && (allInB st 0 200 && startsB g ns rm wk st))) = _
    rw [decide_eq_false h4, Bool.false_and, Bool.and_false])
   have d4 : ((st.length : Int) != (g.length : Int)) = true := bne_iff_ne.2 (by omega)
   clear hr hr1 hr2 hT hg hp h4
   go_enter Tryd.func60, Tryd.ntmps60
   go_wp2_with (go_at_call 54; refine HP.out.mono ?_; rintro e w1 ⟨C, rfl, hG1, hB1⟩)
   go_ret2
   exact .inr ⟨HF.out, rfl, hB1⟩
 ·
  have HF : Hid (stN g rm wk st = false) := Lib.hid (by
   unfold stN
   cases hg : graphN g with
   | none => rfl
   | some ns =>
    show (placeB rm wk && (decide (st.length = g.length) && (allInB st 0 200 && startsB g ns rm wk st))) = _
    cases hpb : placeB rm wk with
    | false => rfl
    | true => exact absurd ⟨ns, hg, hpb⟩ hp)
  have HP := Lib.hid (placeIn_no A c g A1 c1 rm wk (fun ns hg => by
   cases hpb : placeB rm wk with
   | false => rfl
   | true => exact absurd ⟨ns, hg, hpb⟩ hp) w hr hT hr1)
  clear hp hr hr1 hr2 hT
  go_enter Tryd.func60, Tryd.ntmps60
  go_wp2_with (go_at_call 54; refine HP.out.mono ?_; rintro e w1 ⟨rfl, hB1⟩)
  go_ret2
  exact .inr ⟨HF.out, rfl, hB1⟩
end Go.Proofs.YtdjdfbfcjajlkaaDoor

namespace Go.Proofs.YtdjdfbfcjajlkaaDoor
set_option linter.unusedVariables false
set_option linter.unusedSimpArgs false
open Go.RowKit Go.Shelf Bits
open Go.Proofs.YtdjdfbfcjajlkaaDoorW.PrintWords Go.Proofs.YtdjdfbfcjajlkaaDoorW.PrintLast Go.Proofs.YtdjdfbfcjajlkaaDoorW.PrintMore
attribute [local go_sem] Oper.semAt_some
def maskN (P : Nat → Bool) : Nat → Nat
 | 0 => 0
 | n + 1 => if P n then maskN P n ||| 2 ^ n else maskN P n
theorem maskN_lt (P : Nat → Bool) : ∀ n, maskN P n < 2 ^ n
 | 0 => by simp [maskN]
 | n + 1 => by
  have ih := maskN_lt P n
  have h2 : maskN P n < 2 ^ (n + 1) := Nat.lt_of_lt_of_le ih (Nat.pow_le_pow_right (by omega) (Nat.le_succ n))
  unfold maskN
  split
  ·
   exact Nat.or_lt_two_pow h2 (Nat.pow_lt_pow_right (by omega) (by omega))
  ·
   exact h2
theorem maskN_bit (P : Nat → Bool) : ∀ n j, j < n → (maskN P n).testBit j = P j
 | n + 1, j, hj => by
  unfold maskN
  by_cases h : j = n
  ·
   subst h
   have h0 : (maskN P j).testBit j = false := bit_far (maskN_lt P j) (Nat.le_refl _)
   cases hp : P j with
   | true => rw [if_pos rfl, or_bit]; simp
   | false => rw [if_neg (by simp)]; exact h0
  ·
   have ih := maskN_bit P n j (by omega)
   split
   ·
    rw [or_bit, ih]; simp [show n ≠ j from fun e => h e.symm]
   ·
    exact ih
theorem els_mask (P : Nat → Bool) {n : Nat} (hn : n ≤ 16) : els (maskN P n) = ints ((List.range n).filter P) := by
 unfold els
 rw [elems_eq hn (maskN_lt P n) P (fun j hj => maskN_bit P n j hj)]
 rfl
theorem maskN_u16 (P : Nat → Bool) {n : Nat} (hn : n ≤ 16) : maskN P n < 65536 := Nat.lt_of_lt_of_le (maskN_lt P n) (Nat.le_trans (Nat.pow_le_pow_right (by omega) hn) (by decide))
theorem startsIn_yes (A : Option Addr) (c : Nat) (g : List Tk) (A1 : Option Addr) (c1 : Nat) (rm : List Int) (wk : Int) (A2 : Option Addr) (c2 : Nat) (st : List Int) (h : vStB g rm wk st = true) (w : World) (hr : kTk.C w A g.length g) (hr1 : (Kd.int .i64).C w A1 rm.length rm) (hr2 : (Kd.int .i64).C w A2 st.length st) (hT : Tab w) :
  Calls Tryd.prog 60 #[.slice A g.length c, .slice A1 rm.length c1, .int .i64 wk, .slice A2 st.length c2] w fun e w' => ∃ C ns, e = .returned (.tuple #[.pointer (some ⟨C, 0, none⟩), .bool true]) ∧ graphN g = some ns ∧ IsGraph w' C g ns ∧ Below w.heap.size w w' := by
 refine (startsIn_calls A c g A1 c1 rm wk A2 c2 st w hr hr1 hr2 hT).mono ?_
 rintro e w' (⟨_, hC⟩ | ⟨h2, _⟩)
 ·
  obtain ⟨C, ns, h1, h2, h3, h4⟩ := hC
  exact ⟨C, ns, h1, h2, h3, h4⟩
 ·
  rw [st_eq, h] at h2
  cases h2
theorem startsIn_no (A : Option Addr) (c : Nat) (g : List Tk) (A1 : Option Addr) (c1 : Nat) (rm : List Int) (wk : Int) (A2 : Option Addr) (c2 : Nat) (st : List Int) (h : vStB g rm wk st = false) (w : World) (hr : kTk.C w A g.length g) (hr1 : (Kd.int .i64).C w A1 rm.length rm) (hr2 : (Kd.int .i64).C w A2 st.length st) (hT : Tab w) :
  Calls Tryd.prog 60 #[.slice A g.length c, .slice A1 rm.length c1, .int .i64 wk, .slice A2 st.length c2] w fun e w' => e = .returned (.tuple #[.pointer none, .bool false]) ∧ Below w.heap.size w w' := by
 refine (startsIn_calls A c g A1 c1 rm wk A2 c2 st w hr hr1 hr2 hT).mono ?_
 rintro e w' (⟨h2, _⟩ | ⟨_, hC⟩)
 ·
  rw [st_eq, h] at h2
  cases h2
 ·
  exact hC
set_option maxRecDepth 100000 in
theorem ValidStarts_impl (A : Option Addr) (c : Nat) (g : List Tk) (A1 : Option Addr) (c1 : Nat) (rm : List Int) (wk : Int) (A2 : Option Addr) (c2 : Nat) (st : List Int) (w : World) (hr : kTk.C w A g.length g) (hr1 : (Kd.int .i64).C w A1 rm.length rm) (hr2 : (Kd.int .i64).C w A2 st.length st) (hT : Tab w) :
  Calls Tryd.prog 27 #[.slice A g.length c, .slice A1 rm.length c1, .int .i64 wk, .slice A2 st.length c2] w fun e w' => e = .returned (.bool (vStB g rm wk st)) ∧ Below w.heap.size w w' := by
 cases h : vStB g rm wk st with
 | true =>
  have HP := Lib.hid (startsIn_yes A c g A1 c1 rm wk A2 c2 st h w hr hr1 hr2 hT)
  clear hr hr1 hr2 hT h
  go_enter Tryd.func27, Tryd.ntmps27
  go_wp2_with (go_at_call 60; refine HP.out.mono ?_; rintro e w1 ⟨C, ns, rfl, hg, hG, hB1⟩)
  go_ret
  exact ⟨rfl, hB1⟩
 | false =>
  have HP := Lib.hid (startsIn_no A c g A1 c1 rm wk A2 c2 st h w hr hr1 hr2 hT)
  clear hr hr1 hr2 hT h
  go_enter Tryd.func27, Tryd.ntmps27
  go_wp2_with (go_at_call 60; refine HP.out.mono ?_; rintro e w1 ⟨rfl, hB1⟩)
  go_ret
  exact ⟨rfl, hB1⟩
set_option maxRecDepth 100000 in
theorem EndTime_impl (A : Option Addr) (c : Nat) (g : List Tk) (A1 : Option Addr) (c1 : Nat) (rm : List Int) (wk : Int) (A2 : Option Addr) (c2 : Nat) (st : List Int) (w : World) (hr : kTk.C w A g.length g) (hr1 : (Kd.int .i64).C w A1 rm.length rm) (hr2 : (Kd.int .i64).C w A2 st.length st) (hT : Tab w) :
  Calls Tryd.prog 31 #[.slice A g.length c, .slice A1 rm.length c1, .int .i64 wk, .slice A2 st.length c2] w fun e w' => e = .returned (.int .i64 (etS g rm wk st)) ∧ Below w.heap.size w w' := by
 cases h : vStB g rm wk st with
 | true =>
  have HF : Hid (etS g rm wk st = endS g st g.length) := Lib.hid (by unfold etS; rw [if_pos h])
  have HP := Lib.hid (startsIn_yes A c g A1 c1 rm wk A2 c2 st h w hr hr1 hr2 hT)
  have HV := Lib.hid (vSt_valid h)
  have HR2 := Lib.hid hr2
  clear hr hr1 hr2 hT h
  go_enter Tryd.func31, Tryd.ntmps31
  go_wp2_with (first | (go_at_call 60; refine HP.out.mono ?_; rintro e w1 ⟨C, ns, rfl, hg, hG, hB1⟩; have HG := Lib.hid hG; have HB1 := Lib.hid hB1; clear hg hG hB1) | (go_at_call 56; refine (iend_calls C g ns A2 c2 st HV.out.ok HV.out.sok HV.out.len _ HG.out (Kd.C_below HR2.out HB1.out)).mono ?_; rintro e w2 ⟨rfl, rfl⟩))
  go_ret
  exact ⟨ret_int HF.out.symm, HB1.out⟩
 | false =>
  have HF : Hid (etS g rm wk st = -1) := Lib.hid (by unfold etS; rw [h]; rfl)
  have HP := Lib.hid (startsIn_no A c g A1 c1 rm wk A2 c2 st h w hr hr1 hr2 hT)
  clear hr hr1 hr2 hT h
  go_enter Tryd.func31, Tryd.ntmps31
  go_wp2_with (go_at_call 60; refine HP.out.mono ?_; rintro e w1 ⟨rfl, hB1⟩)
  go_ret
  exact ⟨ret_int HF.out.symm, hB1⟩
set_option maxRecDepth 100000 in
theorem MeetsDeadline_impl (A : Option Addr) (c : Nat) (g : List Tk) (A1 : Option Addr) (c1 : Nat) (rm : List Int) (wk : Int) (A2 : Option Addr) (c2 : Nat) (st : List Int) (dl : Int) (w : World) (hr : kTk.C w A g.length g) (hr1 : (Kd.int .i64).C w A1 rm.length rm) (hr2 : (Kd.int .i64).C w A2 st.length st) (hT : Tab w) :
  Calls Tryd.prog 29 #[.slice A g.length c, .slice A1 rm.length c1, .int .i64 wk, .slice A2 st.length c2, .int .i64 dl] w fun e w' => e = .returned (.bool (mdS g rm wk st dl)) ∧ Below w.heap.size w w' := by
 cases h : vStB g rm wk st with
 | true =>
  have HP := Lib.hid (startsIn_yes A c g A1 c1 rm wk A2 c2 st h w hr hr1 hr2 hT)
  have HV := Lib.hid (vSt_valid h)
  have HR2 := Lib.hid hr2
  cases h3 : inB dl 0 200 with
  | true =>
   have HF : Hid (mdS g rm wk st dl = decide (endS g st g.length ≤ dl)) := Lib.hid (by unfold mdS; rw [h, h3]; rfl)
   have H3 := Lib.hid h3
   clear hr hr1 hr2 hT h h3
   go_enter Tryd.func29, Tryd.ntmps29
   go_wp2_with (first | (go_at_call 60; refine HP.out.mono ?_; rintro e w1 ⟨C, ns, rfl, hg, hG, hB1⟩; have HG := Lib.hid hG; have HB1 := Lib.hid hB1; clear hg hG hB1) | (go_at_call 55; refine (deadlineValid_is _ _ H3 _).mono ?_; rintro e wd ⟨rfl, rfl⟩) | (go_at_call 56; refine (iend_calls C g ns A2 c2 st HV.out.ok HV.out.sok HV.out.len _ HG.out (Kd.C_below HR2.out HB1.out)).mono ?_; rintro e w2 ⟨rfl, rfl⟩))
   go_ret
   exact ⟨by rw [HF.out]; rfl, HB1.out⟩
  | false =>
   have HF : Hid (mdS g rm wk st dl = false) := Lib.hid (by unfold mdS; rw [h, h3]; rfl)
   have H3 := Lib.hid h3
   clear hr hr1 hr2 hT h h3
   go_enter Tryd.func29, Tryd.ntmps29
   go_wp2_with (first | (go_at_call 60; refine HP.out.mono ?_; rintro e w1 ⟨C, ns, rfl, hg, hG, hB1⟩; have HG := Lib.hid hG; have HB1 := Lib.hid hB1; clear hg hG hB1) | (go_at_call 55; refine (deadlineValid_is _ _ H3 _).mono ?_; rintro e wd ⟨rfl, rfl⟩))
   go_ret
   exact ⟨by rw [HF.out]; rfl, HB1.out⟩
 | false =>
  have HF : Hid (mdS g rm wk st dl = false) := Lib.hid (by unfold mdS; rw [h]; rfl)
  have HP := Lib.hid (startsIn_no A c g A1 c1 rm wk A2 c2 st h w hr hr1 hr2 hT)
  clear hr hr1 hr2 hT h
  go_enter Tryd.func29, Tryd.ntmps29
  go_wp2_with (go_at_call 60; refine HP.out.mono ?_; rintro e w1 ⟨rfl, hB1⟩)
  go_ret
  exact ⟨by rw [HF.out]; rfl, hB1⟩
set_option maxRecDepth 100000 in
set_option maxHeartbeats 4000000 in
theorem RunningAt_impl (A : Option Addr) (c : Nat) (g : List Tk) (A1 : Option Addr) (c1 : Nat) (rm : List Int) (wk : Int) (A2 : Option Addr) (c2 : Nat) (st : List Int) (now : Int) (w : World) (hr : kTk.C w A g.length g) (hr1 : (Kd.int .i64).C w A1 rm.length rm) (hr2 : (Kd.int .i64).C w A2 st.length st) (hT : Tab w) :
  Calls Tryd.prog 33 #[.slice A g.length c, .slice A1 rm.length c1, .int .i64 wk, .slice A2 st.length c2, .int .i64 now] w fun e w' => ∃ v, e = .returned v ∧ Kd.R (Kd.int .i64) 3 w' w.heap.size (fun _ => True) v (ints (raS g rm wk st now)) ∧ Below w.heap.size w w' := by
 cases h : vStB g rm wk st with
 | true =>
  have HF : Hid (raS g rm wk st now = (List.range st.length).filter (runB g st now)) := Lib.hid (by unfold raS runS; rw [if_pos h, (vSt_valid h).len])
  have HP := Lib.hid (startsIn_yes A c g A1 c1 rm wk A2 c2 st h w hr hr1 hr2 hT)
  have HV := Lib.hid (vSt_valid h)
  have HR2 := Lib.hid hr2
  have HT := Lib.hid hT
  have hl8 : st.length ≤ 8 := by rw [HV.out.len]; exact HV.out.ok.1
  clear hr hr1 hr2 hT h
  go_enter Tryd.func33, Tryd.ntmps33
  go_wp2_with (go_at_call 60; refine HP.out.mono ?_; rintro e w1 ⟨C, ns, rfl, hg, hG, hB1⟩; have HB1 := Lib.hid hB1; have HR3 := Lib.hid (Kd.C_below HR2.out hB1); clear hg hB1; obtain ⟨Ag, cg, An, cn, Ao, co, vb, va, h1, h2, _, _⟩ := hG; have cC := blk_cell h1 0; simp at cC; have HR := Lib.hid h2; clear h1 h2)
  go_loop [13, 28] (fun s i => ∃ (j : Nat), j ≤ st.length ∧ i = .int .i64 j ∧ s = .int .u16 (maskN (runB g st now) j : Nat)) (fun _ i => st.length - (intOf i).toNat)
  case atStart => exact ⟨0, Nat.zero_le _, rfl, rfl⟩
  case round =>
   obtain ⟨j, hj, rfl, rfl⟩ := hrel
   by_cases hjl : j < st.length
   ·
    have hjg : j < g.length := by rw [← HV.out.len]; exact hjl
    obtain ⟨ad, A4, c4, rfl, hc0, _⟩ := at_Tk HR.out j hjg
    obtain ⟨ads, rfl, cs⟩ := at_num HR3.out j hjl
    have hjj : decide ((j : Int) < (st.length : Int)) = true := decide_eq_true (by omega)
    have hji : (j : Int) < (g.length : Int) := by omega
    have hjsi : (j : Int) < (st.length : Int) := by omega
    have HE : Hid (maskN (runB g st now) (j + 1) = if runB g st now j then maskN (runB g st now) j ||| 2 ^ j else maskN (runB g st now) j) := Lib.hid rfl
    have HBD : Hid (runB g st now j = (decide (st.getD j 0 ≤ now) && decide (now < st.getD j 0 + (rdTk g j).f0))) := Lib.hid rfl
    have hmk := maskN_u16 (runB g st now) (n := j) (by omega)
    have hj16 : j < 16 := by omega
    have hsj := HV.out.sok j
    have htj := HV.out.ok.2.1 j
    generalize st.getD j 0 = s at cs hsj HBD
    generalize (rdTk g j).f0 = tm at hc0 htj HBD
    generalize runB g st now j = rb at HE HBD
    generalize maskN (runB g st now) j = mk at HE hmk
    have hwr : IntKind.i64.wrap (s + tm) = s + tm := IntWalk.i64_in _ (by omega)
    by_cases g1 : s ≤ now
    ·
     have d1 : decide (s ≤ now) = true := decide_eq_true g1
     by_cases g2 : now < s + tm
     ·
      have d2 : decide (now < s + tm) = true := decide_eq_true g2
      rw [d1, d2] at HBD
      clear g1 g2
      go_wp2_with (go_at_call 62; refine (with_calls mk j hmk hj16 _).mono ?_; rintro e w6 ⟨rfl, rfl⟩)
      clear hwr
      go_round
      case rel => exact ⟨j + 1, by omega, by go_num, by rw [HE.out, HBD.out]; rfl⟩
      case measure => simp [intOf]; omega
     ·
      have d2 : decide (now < s + tm) = false := decide_eq_false g2
      rw [d1, d2] at HBD
      clear g1 g2
      go_wp2
      clear hwr
      go_round
      case rel => exact ⟨j + 1, by omega, by go_num, by rw [HE.out, HBD.out]; rfl⟩
      case measure => simp [intOf]; omega
    ·
     have d1 : decide (s ≤ now) = false := decide_eq_false g1
     rw [d1] at HBD
     clear g1
     go_wp2
     clear hwr
     go_round
     case rel => exact ⟨j + 1, by omega, by go_num, by rw [HE.out, HBD.out]; rfl⟩
     case measure => simp [intOf]; omega
   ·
    obtain rfl : j = st.length := by omega
    have hjj : decide ((st.length : Int) < (st.length : Int)) = false := decide_eq_false (by omega)
    have hmk := maskN_u16 (runB g st now) (n := st.length) (by omega)
    have HEL := Lib.hid (els_mask (runB g st now) (n := st.length) (by omega))
    have HLC := Lib.hid (list_calls (maskN (runB g st now) st.length) hmk _ (HT.out.keep HT.out.lt HB1.out))
    rw [HEL.out, ← HF.out] at HLC
    go_wp2_with (go_at_call 63; refine HLC.out.mono ?_; rintro e w3 ⟨v, rfl, hR, hB3⟩)
    go_ret
    have hz := HB1.out.size
    exact ⟨_, rfl, Kd.R_lower hR hz, HB1.out.trans (hB3.mono hz)⟩
 | false =>
  have HF : Hid (raS g rm wk st now = []) := Lib.hid (by unfold raS; rw [h]; rfl)
  have HP := Lib.hid (startsIn_no A c g A1 c1 rm wk A2 c2 st h w hr hr1 hr2 hT)
  clear hr hr1 hr2 hT h
  go_enter Tryd.func33, Tryd.ntmps33
  go_wp2_with (go_at_call 60; refine HP.out.mono ?_; rintro e w1 ⟨rfl, hB1⟩)
  go_ret
  exact ⟨_, rfl, by rw [HF.out]; exact R_nilJ _ _, hB1⟩
end Go.Proofs.YtdjdfbfcjajlkaaDoor

namespace Go.Proofs.YtdjdfbfcjajlkaaDoor
set_option linter.unusedVariables false
set_option linter.unusedSimpArgs false
open Go.RowKit Go.Shelf Bits
open Go.Proofs.YtdjdfbfcjajlkaaDoorW.PrintWords Go.Proofs.YtdjdfbfcjajlkaaDoorW.PrintLast Go.Proofs.YtdjdfbfcjajlkaaDoorW.PrintMore
def usedOkB (g : List Tk) (rm : List Int) (run : List Nat) : Bool := (List.range 3).all fun p => decide (usedS g run (p : Nat) ≤ rm.getD p 0)
theorem vRunB_eq {g : List Tk} (hv : specValid g = true) {rm : List Int} (hrm : roomB rm = true) (st : List Int) (now : Int) : vRunB g rm (runS g st now) = usedOkB g rm (runS g st now) := by
 unfold vRunB usedOkB
 rw [hv, hrm, runS_in, show ascB (ints (runS g st now)) = true from ascB_filter _ _]
 rfl
theorem ascends_isV (b : Bool) (A : Option Addr) (c : Nat) (l : List Int) (h : Hid (ascB l = b)) (w : World) (hr : (Kd.int .i64).C w A l.length l) :
  Calls Tryd.prog 123 #[.slice A l.length c] w fun e w' => e = .returned (.bool b) ∧ Below w.heap.size w w' :=
 (ascends_calls A c l w hr).mono fun e w' ⟨he, hw⟩ => ⟨by rw [he, h.out], by first | exact hw | (rw [hw]; exact Below.refl _ _)⟩
set_option maxRecDepth 100000 in
set_option maxHeartbeats 4000000 in
theorem validRunning_calls (A : Option Addr) (c : Nat) (g : List Tk) (A1 : Option Addr) (c1 : Nat) (rm : List Int) (A2 : Option Addr) (c2 : Nat) (run : List Nat) (hv : specValid g = true) (hrm : roomB rm = true) (hl : run.length ≤ 50) (hlt : ∀ i ∈ run, i < g.length) (hasc : ascB (ints run) = true) (hin : allInB (ints run) 0 (g.length - 1) = true) (w : World) (hr : kTk.C w A g.length g) (hr1 : (Kd.int .i64).C w A1 rm.length rm) (hr2 : (Kd.int .i64).C w A2 run.length (ints run)) :
  Calls Tryd.prog 94 #[.slice A g.length c, .slice A1 rm.length c1, .slice A2 run.length c2] w fun e w' => e = .returned (.bool (usedOkB g rm run)) ∧ Below w.heap.size w w' := by
 have HR := Lib.hid hr
 have HR1 := Lib.hid hr1
 have HR2 := Lib.hid hr2
 have HV := Lib.hid hv
 have HRM := Lib.hid hrm
 have HLT := Lib.hid hlt
 have HAS := Lib.hid hasc
 have hn8 := (specValid_TOk hv).1
 have HIN := Lib.hid hin
 have HOK := Lib.hid (specValid_TOk hv)
 have H3L := Lib.hid (roomB_facts hrm).1
 have hc2 : (Kd.int .i64).C w A2 (ints run).length (ints run) := by rw [ints_length]; exact hr2
 have HC2 := Lib.hid hc2
 have hwn : IntKind.i64.wrap ((g.length : Int) - 1) = (g.length : Int) - 1 := IntWalk.i64_in _ (by omega)
 have has := fun W (h : (Kd.int .i64).C W A2 (ints run).length (ints run)) => ascends_isV true A2 c2 (ints run) HAS W h
 have hal := fun W (h : (Kd.int .i64).C W A2 (ints run).length (ints run)) => allIn_is true A2 c2 (ints run) 0 ((g.length : Int) - 1) HIN W h
 rw [ints_length] at has hal
 have HASC := Lib.hid has
 have HALL := Lib.hid hal
 clear hr hr1 hr2 hv hrm hlt hasc hin hc2 has hal
 go_enter Tryd.func94, Tryd.ntmps94
 go_wp2_with (first
  | (go_at_call 48; refine (validGraph_is true A c g HV w HR.out).mono ?_; rintro e w1 ⟨rfl, hB1⟩; have HB1 := Lib.hid hB1; clear hB1)
  | (go_at_call 49; refine (validRoom_is _ _ _ _ HRM _ (Kd.C_below HR1.out HB1.out)).mono ?_; rintro e wv ⟨rfl, rfl⟩)
  | (go_at_call 123; refine (HASC.out _ (Kd.C_below HR2.out HB1.out)).mono ?_; rintro e w2 ⟨rfl, hB2⟩; have HB2 := Lib.hid (HB1.out.trans (hB2.mono HB1.out.size)); clear hB2)
  | (go_at_call 82; refine (HALL.out _ (Kd.C_below HR2.out HB2.out)).mono ?_; rintro e w3 ⟨rfl, rfl⟩))
 clear hwn
 go_loopw [7] (fun i wr => ∃ j, j ≤ 3 ∧ i = .int .i64 (j : Nat) ∧ Below w.heap.size w wr ∧ Hid (∀ q, q < j → decide (usedS g run (q : Nat) ≤ rm.getD q 0) = true)) (fun i _ => 3 - (intOf i).toNat)
 case atStart => exact ⟨0, by omega, rfl, HB2.out, Lib.hid fun q h => absurd h (Nat.not_lt_zero _)⟩
 case round =>
  obtain ⟨j, hj, rfl, hB, HS⟩ := hrel
  have HB := Lib.hid hB
  by_cases hj3 : j < 3
  ·
   have dj : decide ((j : Int) < 3) = true := decide_eq_true (by omega)
   obtain ⟨ad, rfl, cx⟩ := at_num (Kd.C_below HR1.out hB) j (by have := H3L.out; omega)
   have hji : (j : Int) < (rm.length : Int) := by have := H3L.out; omega
   have HCG := Lib.hid (Kd.C_below HR.out hB)
   have HCN := Lib.hid (Kd.C_below HR2.out hB)
   have hrl : run.length ≤ 100 := by omega
   obtain ⟨U, hU⟩ : ∃ U, usedS g run (j : Int) = U := ⟨_, rfl⟩
   have HU := Lib.hid hU
   have HX : Hid (∃ x, x = rm.getD j 0) := Lib.hid ⟨_, rfl⟩
   obtain ⟨x, hx⟩ := HX.out
   rw [← hx] at cx
   have hxx := Lib.hid hx
   clear hU
   clear hB hx HX
   by_cases hc : U ≤ x
   ·
    have dc : decide (x < U) = false := decide_eq_false (by omega)
    have HT : Hid (decide (usedS g run (j : Nat) ≤ rm.getD j 0) = true) := Lib.hid (decide_eq_true (by rw [HU.out, ← hxx.out]; exact hc))
    clear hc
    go_wp2
    go_quiet ((go_at_call 113; exact Calls.quiet_of_same (used_is U _ _ g _ _ run (j : Int) HU HOK.out hrl HLT.out _ (Kd.C_drewN HCG.out _) (Kd.C_drewN HCN.out _))))
    go_wp2
    go_roundw
    case rel =>
     refine ⟨j + 1, by omega, by go_num, pw_below_drewN HB.out _, Lib.hid fun q hq => ?_⟩
     by_cases e : q = j
     ·
      rw [e]; exact HT.out
     ·
      exact HS.out q (by omega)
    case measure => simp [intOf]; omega
   ·
    have dc : decide (x < U) = true := decide_eq_true (by omega)
    have HF : Hid (usedOkB g rm run = false) := Lib.hid (by
     unfold usedOkB
     rw [List.all_eq_false]
     exact ⟨j, List.mem_range.2 hj3, by rw [HU.out, ← hxx.out, decide_eq_false hc]; simp⟩)
    clear hc
    go_wp2
    go_quiet ((go_at_call 113; exact Calls.quiet_of_same (used_is U _ _ g _ _ run (j : Int) HU HOK.out hrl HLT.out _ (Kd.C_drewN HCG.out _) (Kd.C_drewN HCN.out _))))
    go_wp2
    go_ret
    exact ⟨ret_bool HF.out.symm, pw_below_drewN HB.out _⟩
  ·
   obtain rfl : j = 3 := by omega
   have dj : decide (((3 : Nat) : Int) < 3) = false := by decide
   have HF : Hid (usedOkB g rm run = true) := Lib.hid (by
    unfold usedOkB
    rw [List.all_eq_true]
    exact fun q hq => HS.out q (List.mem_range.1 hq))
   go_wp2
   go_ret
   exact ⟨ret_bool HF.out.symm, HB.out⟩
set_option maxRecDepth 1000000 in
set_option maxHeartbeats 8000000 in
theorem validStarts_calls (A : Option Addr) (c : Nat) (g : List Tk) (A1 : Option Addr) (c1 : Nat) (rm : List Int) (wk : Int) (A2 : Option Addr) (c2 : Nat) (st : List Int) (w : World) (hr : kTk.C w A g.length g) (hr1 : (Kd.int .i64).C w A1 rm.length rm) (hr2 : (Kd.int .i64).C w A2 st.length st) :
  Calls Tryd.prog 59 #[.slice A g.length c, .slice A1 rm.length c1, .int .i64 wk, .slice A2 st.length c2] w fun e w' => e = .returned (.bool (vStB g rm wk st)) ∧ Below w.heap.size w w' := by
 have HVG := fun b (h : specValid g = b) => validGraph_is b A c g (Lib.hid h) w hr
 have HR := Lib.hid hr
 have HR1 := Lib.hid hr1
 have HR2 := Lib.hid hr2
 have hlg := (C_len hr2).2
 clear hr hr1 hr2
 cases h1 : specValid g with
 | false =>
  have HF : Hid (vStB g rm wk st = false) := Lib.hid (by unfold vStB; rw [h1]; rfl)
  have HVG := Lib.hid (HVG _ h1)
  clear h1
  go_enter Tryd.func59, Tryd.ntmps59
  go_wp2_with (go_at_call 48; refine HVG.out.mono ?_; rintro e w1 ⟨rfl, hB1⟩; have HB1 := Lib.hid hB1; clear hB1)
  go_ret
  exact ⟨ret_bool HF.out.symm, HB1.out⟩
 | true =>
  have HVV := Lib.hid h1
  have HVG := Lib.hid (HVG _ h1)
  have HOK := Lib.hid (specValid_TOk h1)
  have hg8 := (specValid_TOk h1).1
  clear h1
  cases h2 : roomB rm with
  | false =>
   have HF : Hid (vStB g rm wk st = false) := Lib.hid (by unfold vStB; rw [h2, Bool.false_and, Bool.and_false])
   have H2 := Lib.hid h2
   clear h2
   go_enter Tryd.func59, Tryd.ntmps59
   go_wp2_with (first | (go_at_call 48; refine HVG.out.mono ?_; rintro e w1 ⟨rfl, hB1⟩; have HB1 := Lib.hid hB1; clear hB1) | (go_at_call 49; refine (validRoom_is _ _ _ _ H2 _ (Kd.C_below HR1.out HB1.out)).mono ?_; rintro e w' ⟨rfl, rfl⟩))
   go_ret
   exact ⟨ret_bool HF.out.symm, HB1.out⟩
  | true =>
   have H2 := Lib.hid h2
   clear h2
   cases h3 : inB wk 1 4 with
   | false =>
    have HF : Hid (vStB g rm wk st = false) := Lib.hid (by unfold vStB; rw [h3, Bool.false_and, Bool.and_false, Bool.and_false])
    have H3 := Lib.hid h3
    clear h3
    go_enter Tryd.func59, Tryd.ntmps59
    go_wp2_with (first | (go_at_call 48; refine HVG.out.mono ?_; rintro e w1 ⟨rfl, hB1⟩; have HB1 := Lib.hid hB1; clear hB1) | (go_at_call 49; refine (validRoom_is _ _ _ _ H2 _ (Kd.C_below HR1.out HB1.out)).mono ?_; rintro e w' ⟨rfl, rfl⟩) | (go_at_call 50; refine (inRange_is _ _ _ _ H3 _).mono ?_; rintro e w' ⟨rfl, rfl⟩))
    go_ret
    exact ⟨ret_bool HF.out.symm, HB1.out⟩
   | true =>
    have H3 := Lib.hid h3
    clear h3
    by_cases h4 : st.length = g.length
    ·
     have d4 : ((st.length : Int) != (g.length : Int)) = false := by rw [bne_eq_false_iff_eq]; omega
     have HL := Lib.hid h4
     cases h5 : allInB st 0 200 with
     | false =>
      have HF : Hid (vStB g rm wk st = false) := Lib.hid (by unfold vStB; rw [h5]; simp)
      have H5 := Lib.hid h5
      clear h4 h5
      go_enter Tryd.func59, Tryd.ntmps59
      go_wp2_with (first | (go_at_call 48; refine HVG.out.mono ?_; rintro e w1 ⟨rfl, hB1⟩; have HB1 := Lib.hid hB1; clear hB1) | (go_at_call 49; refine (validRoom_is _ _ _ _ H2 _ (Kd.C_below HR1.out HB1.out)).mono ?_; rintro e w' ⟨rfl, rfl⟩) | (go_at_call 50; refine (inRange_is _ _ _ _ H3 _).mono ?_; rintro e w' ⟨rfl, rfl⟩) | (go_at_call 82; refine (allIn_is _ _ _ _ _ _ H5 _ (Kd.C_below HR2.out HB1.out)).mono ?_; rintro e w' ⟨rfl, rfl⟩))
      go_ret
      exact ⟨ret_bool HF.out.symm, HB1.out⟩
     | true =>
      have HE : Hid (vStB g rm wk st = (List.range g.length).all (startOkB g rm wk st)) := Lib.hid (by unfold vStB; rw [HVV.out, H2.out, H3.out, h5, decide_eq_true h4]; rfl)
      have H5 := Lib.hid h5
      have HSOK := Lib.hid (allIn_sok h5)
      have HNI := Lib.hid (spec_needs_in HVV.out)
      have HVRG := Lib.hid (fun (run : List Nat) (b : Bool) (hu : usedOkB g rm run = b) (q1 : run.length ≤ 50) (q2 : ∀ i ∈ run, i < g.length) (q3 : ascB (ints run) = true) (q4 : allInB (ints run) 0 (g.length - 1) = true) (W : World) Ar cr h h1 h2 => (validRunning_calls A c g A1 c1 rm Ar cr run HVV.out H2.out q1 q2 q3 q4 W h h1 h2).mono fun e w' hh => (⟨by rw [hh.1, hu], hh.2⟩ : e = .returned (.bool b) ∧ Below W.heap.size W w'))
      have HRA := Lib.hid (fun (now : Int) (W : World) h h' => runningAt_calls A c g A2 c2 st now HOK.out HSOK.out h4 W h h')
      clear h4 h5
      go_enter Tryd.func59, Tryd.ntmps59
      go_wp2_with (first | (go_at_call 48; refine HVG.out.mono ?_; rintro e w1 ⟨rfl, hB1⟩; have HB1 := Lib.hid hB1; clear hB1) | (go_at_call 49; refine (validRoom_is _ _ _ _ H2 _ (Kd.C_below HR1.out HB1.out)).mono ?_; rintro e w' ⟨rfl, rfl⟩) | (go_at_call 50; refine (inRange_is _ _ _ _ H3 _).mono ?_; rintro e w' ⟨rfl, rfl⟩) | (go_at_call 82; refine (allIn_is _ _ _ _ _ _ H5 _ (Kd.C_below HR2.out HB1.out)).mono ?_; rintro e w' ⟨rfl, rfl⟩))
      have HBB := Lib.hid HB1.out
      go_loopw [9] (fun i wr => ∃ j, j ≤ g.length ∧ i = .int .i64 (j : Nat) ∧ Below w.heap.size w wr ∧ Hid (∀ q, q < j → startOkB g rm wk st q = true)) (fun i _ => g.length - (intOf i).toNat)
      case atStart => exact ⟨0, Nat.zero_le _, rfl, HBB.out, Lib.hid fun q h => absurd h (Nat.not_lt_zero _)⟩
      case round =>
       obtain ⟨j, hj, rfl, hB, HS⟩ := hrel
       obtain ⟨wo, rfl⟩ : ∃ wo : World, wo = wr := ⟨_, rfl⟩
       have HB := Lib.hid hB
       clear hB
       by_cases hjl : j < g.length
       ·
        have hjj : decide ((j : Int) < (g.length : Int)) = true := decide_eq_true (by omega)
        have hji : (j : Int) < (g.length : Int) := by omega
        have hjs : (j : Int) < (st.length : Int) := by have := HL.out; omega
        have HNJ := Lib.hid (HNI.out j hjl)
        obtain ⟨ad, A3, c3, rfl, hx0, hx1, hx2, hx3, hl3, hC3⟩ := at_Tk (Kd.C_below HR.out HB.out) j hjl
        have hnl := (C_len hC3).2
        have HNO : Hid (needsOkB g st j = (rdTk g j).f1.all fun x => decide (st.getD x.toNat 0 + (rdTk g x.toNat).f0 ≤ st.getD j 0)) := Lib.hid rfl
        have HTJ := Lib.hid (And.intro hx1 hC3)
        clear hx0 hx1 hx2 hx3 hl3 hC3
        generalize (rdTk g j).f1 = nd at HNJ HNO HTJ hnl
        go_wp2
        go_loopw [10] (fun i wi => ∃ q, q ≤ nd.length ∧ i = .int .i64 (q : Nat) ∧ Below wo.heap.size wo wi ∧ Hid (∀ p, p < q → decide (st.getD (nd.getD p 0).toNat 0 + (rdTk g (nd.getD p 0).toNat).f0 ≤ st.getD j 0) = true)) (fun i _ => nd.length - (intOf i).toNat)
        case atStart => exact ⟨0, Nat.zero_le _, rfl, Below.refl _ _, Lib.hid fun q h => absurd h (Nat.not_lt_zero _)⟩
        case round =>
         obtain ⟨q, hq, rfl, hBi, HI⟩ := hrel
         have HBi := Lib.hid hBi
         have HBw := Lib.hid (HB.out.trans (hBi.mono HB.out.size))
         have cn := (hBi.cell (World.block_lt_of_cell? wo _ HTJ.out.1)).trans HTJ.out.1
         have hC3 := Kd.C_below HTJ.out.2 hBi
         clear hBi
         by_cases hql : q < nd.length
         ·
          have hqq : decide ((q : Int) < (nd.length : Int)) = true := decide_eq_true (by omega)
          have hqi : (q : Int) < (nd.length : Int) := by omega
          obtain ⟨ad3, rfl, cq⟩ := at_num hC3 q hql
          have hxr := HNJ.out (nd.getD q 0) (mem_getD hql)
          have HXQ : Hid (∃ m : Nat, nd.getD q 0 = (m : Int) ∧ m < g.length) := Lib.hid ⟨(nd.getD q 0).toNat, by omega, by omega⟩
          obtain ⟨m, hm, hmg⟩ := HXQ.out
          have HMQ := Lib.hid hm
          rw [hm] at cq
          clear hxr HXQ hm hC3
          obtain ⟨adm, Am, cm, e1, hm0, _⟩ := at_Tk (Kd.C_below HR.out HBw.out) m hmg
          cases e1
          obtain ⟨ads, e2, csm⟩ := at_num (Kd.C_below HR2.out HBw.out) m (by have := HL.out; omega)
          obtain ⟨ads', e3, csj⟩ := at_num (Kd.C_below HR2.out HBw.out) j (by have := HL.out; omega)
          subst e2
          cases e3
          have hmi : (m : Int) < (g.length : Int) := by omega
          have hms : (m : Int) < (st.length : Int) := by have := HL.out; omega
          have hsm := HSOK.out m
          have htm := HOK.out.2.1 m
          have HD : Hid (decide (st.getD (nd.getD q 0).toNat 0 + (rdTk g (nd.getD q 0).toNat).f0 ≤ st.getD j 0) = decide (st.getD m 0 + (rdTk g m).f0 ≤ st.getD j 0)) := Lib.hid (by rw [HMQ.out, Int.toNat_natCast])
          generalize st.getD m 0 = sm at csm hsm HD
          generalize (rdTk g m).f0 = tm at hm0 htm HD
          have HSJ : Hid (∃ x, x = st.getD j 0) := Lib.hid ⟨_, rfl⟩
          obtain ⟨sj, hsj⟩ := HSJ.out
          rw [← hsj] at csj HD
          have HSJ2 := Lib.hid hsj
          clear hsj HSJ
          by_cases hc : sm + tm ≤ sj
          ·
           have dc : decide (sj < sm + tm) = false := decide_eq_false (by omega)
           have HT : Hid (decide (st.getD (nd.getD q 0).toNat 0 + (rdTk g (nd.getD q 0).toNat).f0 ≤ st.getD j 0) = true) := Lib.hid (by rw [← HSJ2.out, HD.out]; exact decide_eq_true hc)
           have hwr : IntKind.i64.wrap (sm + tm) = sm + tm := IntWalk.i64_in _ (by omega)
           clear hc
           go_wp2
           go_quiet (fail)
           clear hwr
           go_wp2
           go_roundw
           case rel =>
            refine ⟨q + 1, by omega, by go_num, pw_below_drewN HBi.out _, Lib.hid fun p hp => ?_⟩
            by_cases e : p = q
            ·
             rw [e]; exact HT.out
            ·
             exact HI.out p (by omega)
           case measure => simp [intOf]; omega
          ·
           have dc : decide (sj < sm + tm) = true := decide_eq_true (by omega)
           have HF : Hid (vStB g rm wk st = false) := Lib.hid (by
            rw [HE.out, List.all_eq_false]
            refine ⟨j, List.mem_range.2 hjl, ?_⟩
            unfold startOkB
            rw [show needsOkB g st j = false by
             rw [HNO.out]
             exact all_not 0 hql (by rw [← HSJ2.out, HD.out]; exact decide_eq_false hc)]
            simp)
           have hwr : IntKind.i64.wrap (sm + tm) = sm + tm := IntWalk.i64_in _ (by omega)
           clear hc
           go_wp2
           go_quiet (fail)
           clear hwr
           go_wp2
           go_ret
           exact ⟨ret_bool HF.out.symm, pw_below_drewN HBw.out _⟩
         ·
          obtain rfl : q = nd.length := by omega
          have hqq : decide ((nd.length : Int) < (nd.length : Int)) = false := decide_eq_false (by omega)
          have HNT : Hid (needsOkB g st j = true) := Lib.hid (by rw [HNO.out]; exact all_take 0 (fun p hp => HI.out p hp))
          obtain ⟨ads', e3, csj⟩ := at_num (Kd.C_below HR2.out HBw.out) j (by have := HL.out; omega)
          subst e3
          have HSE : Hid (startOkB g rm wk st j = (needsOkB g st j && (decide (((runS g st (st.getD j 0)).length : Int) ≤ wk) && usedOkB g rm (runS g st (st.getD j 0))))) := Lib.hid (by rw [← vRunB_eq HVV.out H2.out]; rfl)
          have HRJ := Lib.hid (HRA.out (st.getD j 0) wr (Kd.C_below HR.out HBw.out) (Kd.C_below HR2.out HBw.out))
          have HRF := Lib.hid (And.intro (show (runS g st (st.getD j 0)).length ≤ 50 from Nat.le_trans (filter_range_le _ _) (by omega)) (And.intro (fun i (hi : i ∈ runS g st (st.getD j 0)) => (mem_runS.1 hi).1) (And.intro (show ascB (ints (runS g st (st.getD j 0))) = true from ascB_filter _ _) (runS_in g st (st.getD j 0)))))
          generalize runS g st (st.getD j 0) = run at HSE HRJ HRF
          generalize st.getD j 0 = sj at csj HRJ
          by_cases hc : (run.length : Int) ≤ wk
          ·
           have dc : decide (wk < (run.length : Int)) = false := decide_eq_false (by omega)
           rw [HNT.out, decide_eq_true hc, Bool.true_and, Bool.true_and] at HSE
           clear hc
           cases hu : usedOkB g rm run with
           | true =>
            rw [hu] at HSE
            have HVR := Lib.hid (HVRG.out run true hu HRF.out.1 HRF.out.2.1 HRF.out.2.2.1 HRF.out.2.2.2)
            clear hu
            go_wp2_with (first | (go_at_call 61; refine HRJ.out.mono ?_; rintro e w4 ⟨v4, rfl, hR4, hB4⟩; obtain ⟨A4, c4, rfl, _, hC4⟩ := Kd.R_reads hR4; rw [ints_length] at hC4; rw [ints_length]; have HC4 := Lib.hid hC4; have HB4 := Lib.hid (HBw.out.trans (hB4.mono HBw.out.size)); clear hR4 hC4 hB4) | (go_at_call 94; refine (HVR.out _ A4 c4 (Kd.C_below HR.out HB4.out) (Kd.C_below HR1.out HB4.out) HC4.out).mono ?_; rintro e w5 ⟨rfl, hB5⟩; have HB5 := Lib.hid (HB4.out.trans (hB5.mono HB4.out.size)); clear hB5))
            go_roundw
            case rel =>
             refine ⟨j + 1, by omega, by go_num, HB5.out, Lib.hid fun q hq => ?_⟩
             by_cases e : q = j
             ·
              rw [e]; exact HSE.out
             ·
              exact HS.out q (by omega)
            case measure => simp [intOf]; omega
           | false =>
            rw [hu] at HSE
            have HF : Hid (vStB g rm wk st = false) := Lib.hid (by
             rw [HE.out, List.all_eq_false]
             exact ⟨j, List.mem_range.2 hjl, by rw [HSE.out]; simp⟩)
            have HVR := Lib.hid (HVRG.out run false hu HRF.out.1 HRF.out.2.1 HRF.out.2.2.1 HRF.out.2.2.2)
            clear hu
            go_wp2_with (first | (go_at_call 61; refine HRJ.out.mono ?_; rintro e w4 ⟨v4, rfl, hR4, hB4⟩; obtain ⟨A4, c4, rfl, _, hC4⟩ := Kd.R_reads hR4; rw [ints_length] at hC4; rw [ints_length]; have HC4 := Lib.hid hC4; have HB4 := Lib.hid (HBw.out.trans (hB4.mono HBw.out.size)); clear hR4 hC4 hB4) | (go_at_call 94; refine (HVR.out _ A4 c4 (Kd.C_below HR.out HB4.out) (Kd.C_below HR1.out HB4.out) HC4.out).mono ?_; rintro e w5 ⟨rfl, hB5⟩; have HB5 := Lib.hid (HB4.out.trans (hB5.mono HB4.out.size)); clear hB5))
            go_ret
            exact ⟨ret_bool HF.out.symm, HB5.out⟩
          ·
           have dc : decide (wk < (run.length : Int)) = true := decide_eq_true (by omega)
           have HF : Hid (vStB g rm wk st = false) := Lib.hid (by
            rw [HE.out, List.all_eq_false]
            exact ⟨j, List.mem_range.2 hjl, by rw [HSE.out, decide_eq_false hc]; simp⟩)
           clear hc
           go_wp2_with (go_at_call 61; refine HRJ.out.mono ?_; rintro e w4 ⟨v4, rfl, hR4, hB4⟩; obtain ⟨A4, c4, rfl, _, hC4⟩ := Kd.R_reads hR4; rw [ints_length] at hC4; rw [ints_length]; have HC4 := Lib.hid hC4; have HB4 := Lib.hid (HBw.out.trans (hB4.mono HBw.out.size)); clear hR4 hC4 hB4)
           go_ret
           exact ⟨ret_bool HF.out.symm, HB4.out⟩
       ·
        obtain rfl : j = g.length := by omega
        have hjj : decide ((g.length : Int) < (g.length : Int)) = false := decide_eq_false (by omega)
        have HF : Hid (vStB g rm wk st = true) := Lib.hid (by
         rw [HE.out, List.all_eq_true]
         exact fun q hq => HS.out q (List.mem_range.1 hq))
        go_wp2
        go_ret
        exact ⟨ret_bool HF.out.symm, HB.out⟩
    ·
     have d4 : ((st.length : Int) != (g.length : Int)) = true := by rw [bne_iff_ne]; omega
     have HF : Hid (vStB g rm wk st = false) := Lib.hid (by unfold vStB; rw [decide_eq_false h4]; simp)
     clear h4
     go_enter Tryd.func59, Tryd.ntmps59
     go_wp2_with (first | (go_at_call 48; refine HVG.out.mono ?_; rintro e w1 ⟨rfl, hB1⟩; have HB1 := Lib.hid hB1; clear hB1) | (go_at_call 49; refine (validRoom_is _ _ _ _ H2 _ (Kd.C_below HR1.out HB1.out)).mono ?_; rintro e w' ⟨rfl, rfl⟩) | (go_at_call 50; refine (inRange_is _ _ _ _ H3 _).mono ?_; rintro e w' ⟨rfl, rfl⟩))
     go_ret
     exact ⟨ret_bool HF.out.symm, HB1.out⟩
theorem validStarts_is (b : Bool) (A : Option Addr) (c : Nat) (g : List Tk) (A1 : Option Addr) (c1 : Nat) (rm : List Int) (wk : Int) (A2 : Option Addr) (c2 : Nat) (st : List Int) (h : Hid (vStB g rm wk st = b)) (w : World) (hr : kTk.C w A g.length g) (hr1 : (Kd.int .i64).C w A1 rm.length rm) (hr2 : (Kd.int .i64).C w A2 st.length st) :
  Calls Tryd.prog 59 #[.slice A g.length c, .slice A1 rm.length c1, .int .i64 wk, .slice A2 st.length c2] w fun e w' => e = .returned (.bool b) ∧ Below w.heap.size w w' :=
 (validStarts_calls A c g A1 c1 rm wk A2 c2 st w hr hr1 hr2).mono fun e w' ⟨he, hw⟩ => ⟨by rw [he, h.out], hw⟩
end Go.Proofs.YtdjdfbfcjajlkaaDoor
