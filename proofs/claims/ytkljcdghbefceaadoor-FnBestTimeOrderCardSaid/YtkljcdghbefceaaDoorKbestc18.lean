/- Parts of the proof, laid as one text by a program of mine. -/
import Derived.Test.YtkljcdghbefceaaDoorKbestc17
import Derived.Test.YtkljcdghbefceaaDoorKbestc7
import Derived.Test.YtkljcdghbefceaaDoorKbestc16
import Derived.Test.YtkljcdghbefceaaDoorKbestc12
namespace Go.Proofs.YtkljcdghbefceaaDoor
set_option linter.unusedVariables false
set_option linter.unusedSimpArgs false
open Go.RowKit Go.Shelf Bits
theorem nats_ints (L : List Nat) : nats (ints L) = L := by
 unfold nats ints
 rw [List.map_map]
 have : (Int.toNat ∘ Int.ofNat) = id := by funext x; exact Int.toNat_natCast x
 rw [this, List.map_id]
theorem take_ints (L : List Nat) (j : Nat) : (ints L).take j = ints (L.take j) := by
 unfold ints
 rw [List.map_take]
theorem ordB_of {g : List Tk} {L : List Nat} (hv : specValid g = true) (h : IsOrd g L) : isOrdB g (ints L) = true := by
 unfold isOrdB
 rw [Bool.and_eq_true, decide_eq_true_iff, ints_length, List.all_eq_true]
 refine ⟨h.len, fun j hj => ?_⟩
 have hj := List.mem_range.1 hj
 have hm := h.lt _ (getD_mem hj)
 have hn := nodup_take h.nd hj
 unfold ordAt
 rw [ints_getD, take_ints, Int.toNat_natCast, Bool.and_eq_true, Bool.and_eq_true]
 refine ⟨inB_true.2 (by omega), ?_, ?_⟩
 ·
  rw [Bool.not_eq_true', decide_eq_false_iff_not, mem_ints]
  exact hn.2
 ·
  unfold allDoneB
  rw [List.all_eq_true]
  intro x hx
  have h0 := spec_needs_in hv _ hm x hx
  have := h.ned j hj x hx
  rw [decide_eq_true_iff, show x = ((x.toNat : Nat) : Int) by omega, mem_ints]
  exact this
theorem top_ord {g : List Tk} (hv : specValid g = true) : IsOrd g (topL g) :=
 ⟨topL_len hv, (topN_facts g g.length).2.1, (topN_facts g g.length).1, fun j hj x hx => by
  have hm := (topN_facts g g.length).2.1 _ (getD_mem hj)
  have h0 := spec_needs_in hv _ hm x hx
  exact topo_topN g g.length j hj x.toNat (by rw [show ((x.toNat : Nat) : Int) = x by omega]; exact hx)⟩
theorem os_ord {g : List Tk} {rm : List Int} {wk : Int} {L : List Nat} (hs : seaB g rm wk = true) (h : IsOrd g L) : osN g rm wk (ints L) = ordL g rm wk L L.length := by
 unfold osN
 rw [hs, ordB_of (seaB_facts hs).1 h, nats_ints, ints_length]
 rfl
theorem os_law {g : List Tk} {rm : List Int} {wk : Int} {l : List Int} (h : osN g rm wk l ≠ []) : vStB g rm wk (osN g rm wk l) = true ∧ 0 ≤ etS g rm wk (osN g rm wk l) ∧ etS g rm wk (osN g rm wk l) ≤ timeS g := by
 obtain ⟨h1, h2, h3, h4⟩ := osN_yes h
 obtain ⟨a1, a2, a3⟩ := seaB_facts h1
 have hO := (isOrdB_ord h2).1
 obtain ⟨b1, b2⟩ := ord_valid a1 a3 hO
 rw [nats_len] at b1 b2
 rw [h3]
 refine ⟨valid_vSt b1, ?_, b2⟩
 rw [etS_valid b1]
 exact endS_nonneg _ _ _
theorem top_law {g : List Tk} {rm : List Int} {wk : Int} {l : List Int} (h : osN g rm wk l ≠ []) : vStB g rm wk (osN g rm wk (ints (topL g))) = true ∧ (osN g rm wk (ints (topL g))).length = g.length := by
 obtain ⟨h1, h2, h3, h4⟩ := osN_yes h
 obtain ⟨a1, a2, a3⟩ := seaB_facts h1
 have hO := top_ord a1
 obtain ⟨b1, b2⟩ := ord_valid a1 a3 hO
 rw [os_ord h1 hO]
 exact ⟨valid_vSt b1, b1.len⟩
def plR (n : Nat) (st : List Int) (t k : Nat) : List Nat := (List.range k).filter fun i => decide (st.getD i 0 = (t : Int))
def plO (n : Nat) (st : List Int) : Nat → List Nat
 | 0 => []
 | t + 1 => plO n st t ++ plR n st t n
theorem plR_mem {n : Nat} {st : List Int} {t k i : Nat} : i ∈ plR n st t k ↔ i < k ∧ st.getD i 0 = (t : Int) := by
 unfold plR
 rw [List.mem_filter, List.mem_range, decide_eq_true_iff]
theorem plR_snoc (n : Nat) (st : List Int) (t k : Nat) : plR n st t (k + 1) = if st.getD k 0 = (t : Int) then plR n st t k ++ [k] else plR n st t k := by
 unfold plR
 rw [filter_snoc]
 by_cases h : st.getD k 0 = (t : Int)
 ·
  rw [if_pos h, decide_eq_true h, if_pos rfl]
 ·
  rw [if_neg h, decide_eq_false h, if_neg (by simp)]
theorem plO_mem {n : Nat} {st : List Int} (h0 : ∀ i, i < n → 0 ≤ st.getD i 0) : ∀ t i, i ∈ plO n st t ↔ i < n ∧ st.getD i 0 < (t : Int)
 | 0, i => by
  constructor
  ·
   intro h; exact absurd h (by simp [plO])
  ·
   rintro ⟨h1, h2⟩
   have := h0 i h1
   omega
 | t + 1, i => by
  unfold plO
  rw [List.mem_append, plO_mem h0 t i, plR_mem]
  constructor
  ·
   rintro (⟨h1, h2⟩ | ⟨h1, h2⟩)
   ·
    exact ⟨h1, by omega⟩
   ·
    exact ⟨h1, by omega⟩
  ·
   rintro ⟨h1, h2⟩
   by_cases h : st.getD i 0 = (t : Int)
   ·
    exact .inr ⟨h1, h⟩
   ·
    exact .inl ⟨h1, by omega⟩
theorem plO_pair {n : Nat} {st : List Int} (h0 : ∀ i, i < n → 0 ≤ st.getD i 0) : ∀ t, (plO n st t).Pairwise fun a b => a ≠ b ∧ st.getD a 0 ≤ st.getD b 0
 | 0 => List.Pairwise.nil
 | t + 1 => by
  unfold plO
  rw [List.pairwise_append]
  refine ⟨plO_pair h0 t, ?_, fun a ha b hb => ?_⟩
  ·
   have hn : (plR n st t n).Nodup := List.Pairwise.filter _ List.nodup_range
   have hm : ∀ a ∈ plR n st t n, st.getD a 0 = (t : Int) := fun a ha => (plR_mem.1 ha).2
   generalize plR n st t n = l at hn hm
   induction l with
   | nil => exact List.Pairwise.nil
   | cons x l ih =>
    rw [List.nodup_cons] at hn
    refine List.Pairwise.cons (fun b hb => ⟨fun e => hn.1 (e ▸ hb), ?_⟩) (ih hn.2 fun a ha => hm a (List.mem_cons_of_mem _ ha))
    rw [hm x List.mem_cons_self, hm b (List.mem_cons_of_mem _ hb)]
    exact Int.le_refl _
  ·
   have h1 := (plO_mem h0 t a).1 ha
   have h2 := plR_mem.1 hb
   exact ⟨fun e => by rw [e] at h1; omega, by omega⟩
theorem plO_len {n : Nat} {st : List Int} (h0 : ∀ i, i < n → 0 ≤ st.getD i 0) (t : Nat) : (plO n st t).length ≤ n :=
 nodup_below ((plO_pair h0 t).imp fun h => h.1) (fun i hi => ((plO_mem h0 t i).1 hi).1)
theorem range_len : ∀ (n : Nat) (l : List Nat), (∀ i, i < n → i ∈ l) → n ≤ l.length
 | 0, _, _ => Nat.zero_le _
 | n + 1, l, h => by
  have h1 := List.length_erase_of_mem (h n (Nat.lt_succ_self n))
  have h2 := range_len n (l.erase n) (fun i hi => (List.mem_erase_of_ne (by omega)).2 (h i (by omega)))
  have h3 := List.length_pos_of_mem (h n (Nat.lt_succ_self n))
  omega
theorem getD_pair {R : Nat → Nat → Prop} {l : List Nat} (h : l.Pairwise R) {j k : Nat} (hj : j < k) (hk : k < l.length) : R (l.getD j 0) (l.getD k 0) := by
 rw [List.getD_eq_getElem?_getD, List.getD_eq_getElem?_getD, List.getElem?_eq_getElem (by omega), List.getElem?_eq_getElem hk]
 exact List.pairwise_iff_getElem.1 h j k (by omega) hk hj
theorem plO_ord {g : List Tk} {rm : List Int} {wk : Int} {st : List Int} (hs : Valid g rm wk st) (h200 : ∀ i, i < g.length → st.getD i 0 ≤ 200) : IsOrd g (plO g.length st 201) := by
 have h0 : ∀ i, i < g.length → 0 ≤ st.getD i 0 := fun i hi => (hs.b i hi).1
 have hall : ∀ i, i < g.length → i ∈ plO g.length st 201 := fun i hi => (plO_mem h0 201 i).2 ⟨hi, by have := h200 i hi; omega⟩
 have hP := plO_pair h0 201
 have hlt : ∀ i ∈ plO g.length st 201, i < g.length := fun i hi => ((plO_mem h0 201 i).1 hi).1
 refine ⟨Nat.le_antisymm (plO_len h0 201) (range_len _ _ hall), hlt, hP.imp fun h => h.1, fun j hj x hx => ?_⟩
 generalize plO g.length st 201 = L at hall hP hlt hj hx
 have hm := hlt _ (getD_mem hj)
 have hx0 := spec_needs_in hs.v _ hm x hx
 have hn := hs.needs _ hm x.toNat (by rw [show ((x.toNat : Nat) : Int) = x by omega]; exact hx)
 have ht := hs.ok.2.1 x.toNat
 have ht1 := hs.ok.2.2.2.2 x.toNat (by omega)
 obtain ⟨q, hq, e⟩ := List.getElem_of_mem (hall x.toNat (by omega))
 have eq : L.getD q 0 = x.toNat := by rw [List.getD_eq_getElem?_getD, List.getElem?_eq_getElem hq]; exact e
 by_cases hqj : q < j
 ·
  rw [← e]
  exact List.mem_take_iff_getElem.2 ⟨q, by omega, rfl⟩
 ·
  exfalso
  by_cases hqe : q = j
  ·
   subst hqe
   rw [eq] at hn
   omega
  ·
   have := (getD_pair hP (show j < q by omega) hq).2
   rw [eq] at this
   omega
theorem planO_law {g : List Tk} {rm : List Int} {wk : Int} (h1 : seaB g rm wk = true) (hg : 0 < g.length) : (osN g rm wk (ints (plO g.length (pS g rm wk) 201))).length = g.length ∧ ∀ i, i < g.length → (osN g rm wk (ints (plO g.length (pS g rm wk) 201))).getD i 0 ≤ (pS g rm wk).getD i 0 := by
 obtain ⟨a1, a2, a3⟩ := seaB_facts h1
 have hpe : pS g rm wk = planS g rm wk := by unfold pS; rw [a1, a3]; rfl
 have hV := plan_valid a1 a3
 have hne : pS g rm wk ≠ [] := by
  rw [hpe]
  intro e
  have := hV.len
  rw [e] at this
  simp at this
  omega
 obtain ⟨t1, _⟩ := plan_twice_law hne
 rw [hpe] at t1 ⊢
 have hts := sumTo_bound (f := fun i => (rdTk g i).f0) (a := 0) (b := 20) g.length (fun i _ => hV.ok.2.1 i)
 have h200 : ∀ i, i < g.length → (planS g rm wk).getD i 0 + (rdTk g i).f0 ≤ 200 := fun i hi => by
  have := etS_ge hV hi
  have h3 : timeS g = sumTo (fun i => (rdTk g i).f0) g.length := rfl
  omega
 have hO := plO_ord hV (fun i hi => (hV.b i hi).2)
 have h0 : ∀ i, i < g.length → 0 ≤ (planS g rm wk).getD i 0 := fun i hi => (hV.b i hi).1
 have hd := ord_dom hV h200 hO (fun j k hj hk => (getD_pair (plO_pair h0 201) hj hk).2) (plO g.length (planS g rm wk) 201).length (Nat.le_refl _)
 rw [List.take_length] at hd
 have hL := (ord_valid a1 a3 hO).1.len
 rw [os_ord h1 hO]
 exact ⟨hL, fun i hi => hd i (ord_all hO hi)⟩
end Go.Proofs.YtkljcdghbefceaaDoor

namespace Go.Proofs.YtkljcdghbefceaaDoor
set_option linter.unusedVariables false
set_option linter.unusedSimpArgs false
open Go.RowKit Go.Shelf Bits
open Go.Proofs.YtkljcdghbefceaaDoorW.PrintWords Go.Proofs.YtkljcdghbefceaaDoorW.PrintLast Go.Proofs.YtkljcdghbefceaaDoorW.PrintMore
attribute [local go_sem] Oper.semAt_some
set_option maxRecDepth 100000 in
set_option maxHeartbeats 2000000 in
theorem validSearch_calls (A : Option Addr) (c : Nat) (g : List Tk) (A1 : Option Addr) (c1 : Nat) (rm : List Int) (wk : Int) (w : World) (hr : kTk.C w A g.length g) (hr1 : (Kd.int .i64).C w A1 rm.length rm) :
  Calls Tryd.prog 35 #[.slice A g.length c, .slice A1 rm.length c1, .int .i64 wk] w fun e w' => e = .returned (.bool (seaB g rm wk)) ∧ Below w.heap.size w w' := by
 have HV := fun b (h : specValid g = b) => validGraph_is b A c g (Lib.hid h) w hr
 have HR1 := Lib.hid hr1
 clear hr hr1
 cases h1 : specValid g with
 | false =>
  have HF : Hid (seaB g rm wk = false) := Lib.hid (by unfold seaB; rw [h1]; rfl)
  have HV := Lib.hid (HV _ h1)
  clear h1
  go_enter Tryd.func35, Tryd.ntmps35
  go_wp2_with (go_at_call 53; refine HV.out.mono ?_; rintro e w1 ⟨rfl, hB1⟩; have HB1 := Lib.hid hB1; clear hB1)
  go_ret
  exact ⟨by rw [HF.out]; rfl, HB1.out⟩
 | true =>
  have HVV := Lib.hid h1
  have HV := Lib.hid (HV _ h1)
  clear h1
  by_cases h5 : g.length ≤ 5
  ·
   have d5 : decide ((g.length : Int) ≤ 5) = true := decide_eq_true (by omega)
   have d5' : decide ((5 : Int) < (g.length : Int)) = false := decide_eq_false (by omega)
   have H5 := Lib.hid h5
   clear h5
   cases h2 : roomB rm with
   | false =>
    have HF : Hid (seaB g rm wk = false) := Lib.hid (by unfold seaB placeB; rw [h2, Bool.false_and, Bool.and_false, Bool.and_false])
    have H2 := Lib.hid h2
    clear h2
    go_enter Tryd.func35, Tryd.ntmps35
    go_wp2_with (first | (go_at_call 53; refine HV.out.mono ?_; rintro e w1 ⟨rfl, hB1⟩; have HB1 := Lib.hid hB1; clear hB1) | (go_at_call 54; refine (validRoom_is _ _ _ _ H2 _ (Kd.C_below HR1.out HB1.out)).mono ?_; rintro e w' ⟨rfl, rfl⟩))
    go_ret
    exact ⟨by rw [HF.out]; rfl, HB1.out⟩
   | true =>
    have H2 := Lib.hid h2
    have HF : Hid (seaB g rm wk = inB wk 1 4) := Lib.hid (by unfold seaB placeB; rw [HVV.out, decide_eq_true H5.out, h2]; rfl)
    clear h2
    cases h3 : inB wk 1 4 with
    | false =>
     have HF : Hid (seaB g rm wk = false) := Lib.hid (by rw [HF.out, h3])
     have H3 := Lib.hid h3
     clear h3
     go_enter Tryd.func35, Tryd.ntmps35
     go_wp2_with (first | (go_at_call 53; refine HV.out.mono ?_; rintro e w1 ⟨rfl, hB1⟩; have HB1 := Lib.hid hB1; clear hB1) | (go_at_call 54; refine (validRoom_is _ _ _ _ H2 _ (Kd.C_below HR1.out HB1.out)).mono ?_; rintro e w' ⟨rfl, rfl⟩) | (go_at_call 55; refine (inRange_is _ _ _ _ H3 _).mono ?_; rintro e w' ⟨rfl, rfl⟩))
     go_ret
     exact ⟨by rw [HF.out]; rfl, HB1.out⟩
    | true =>
     have HF : Hid (seaB g rm wk = true) := Lib.hid (by rw [HF.out, h3])
     have H3 := Lib.hid h3
     clear h3
     go_enter Tryd.func35, Tryd.ntmps35
     go_wp2_with (first | (go_at_call 53; refine HV.out.mono ?_; rintro e w1 ⟨rfl, hB1⟩; have HB1 := Lib.hid hB1; clear hB1) | (go_at_call 54; refine (validRoom_is _ _ _ _ H2 _ (Kd.C_below HR1.out HB1.out)).mono ?_; rintro e w' ⟨rfl, rfl⟩) | (go_at_call 55; refine (inRange_is _ _ _ _ H3 _).mono ?_; rintro e w' ⟨rfl, rfl⟩))
     go_ret
     exact ⟨by rw [HF.out]; rfl, HB1.out⟩
  ·
   have d5 : decide ((g.length : Int) ≤ 5) = false := decide_eq_false (by omega)
   have d5' : decide ((5 : Int) < (g.length : Int)) = true := decide_eq_true (by omega)
   have HF : Hid (seaB g rm wk = false) := Lib.hid (by unfold seaB; rw [decide_eq_false h5, Bool.false_and, Bool.and_false])
   clear h5
   go_enter Tryd.func35, Tryd.ntmps35
   go_wp2_with (go_at_call 53; refine HV.out.mono ?_; rintro e w1 ⟨rfl, hB1⟩; have HB1 := Lib.hid hB1; clear hB1)
   go_ret
   exact ⟨by rw [HF.out]; rfl, HB1.out⟩
theorem validSearch_is (b : Bool) (A : Option Addr) (c : Nat) (g : List Tk) (A1 : Option Addr) (c1 : Nat) (rm : List Int) (wk : Int) (hb : Hid (seaB g rm wk = b)) (w : World) (hr : kTk.C w A g.length g) (hr1 : (Kd.int .i64).C w A1 rm.length rm) :
  Calls Tryd.prog 35 #[.slice A g.length c, .slice A1 rm.length c1, .int .i64 wk] w fun e w' => e = .returned (.bool b) ∧ Below w.heap.size w w' := by
 rw [← hb.out]
 exact validSearch_calls A c g A1 c1 rm wk w hr hr1
theorem R_nilS (w : World) (base : Nat) : Kd.R (Kd.int .i64) 3 w base (fun _ => True) (.slice none 0 0) [] := Kd.R_of_own ⟨by simp [encs], .inl ⟨rfl, by simp [encs]⟩⟩ (fun _ _ => trivial)
theorem isOrder_is (b : Bool) (A : Option Addr) (c : Nat) (g : List Tk) (A3 : Option Addr) (c3 : Nat) (l : List Int) (hc : l.length ≤ c3) (hb : Hid (isOrdB g l = b)) (w : World) (hr : kTk.C w A g.length g) (hr3 : (Kd.int .i64).C w A3 l.length l) :
  Calls Tryd.prog 36 #[.slice A g.length c, .slice A3 l.length c3] w fun e w' => e = .returned (.bool b) ∧ Below w.heap.size w w' := by
 rw [← hb.out]
 exact isOrder_calls A c g A3 c3 l hc w hr hr3
set_option maxRecDepth 100000 in
set_option maxHeartbeats 2000000 in
theorem sOrderStarts_calls (A : Option Addr) (c : Nat) (g : List Tk) (A1 : Option Addr) (c1 : Nat) (rm : List Int) (wk : Int) (A3 : Option Addr) (c3 : Nat) (lst : List Int) (hc : lst.length ≤ c3) (w : World) (hr : kTk.C w A g.length g) (hr1 : (Kd.int .i64).C w A1 rm.length rm) (hr3 : (Kd.int .i64).C w A3 lst.length lst) :
  Calls Tryd.prog 11 #[.slice A g.length c, .slice A1 rm.length c1, .int .i64 wk, .slice A3 lst.length c3] w fun e w' => ∃ v, e = .returned v ∧ Kd.R (Kd.int .i64) 3 w' w.heap.size (fun _ => True) v (osN g rm wk lst) ∧ Below w.heap.size w w' := by
 cases h1 : seaB g rm wk with
 | false =>
  have HF : Hid (osN g rm wk lst = []) := Lib.hid (by unfold osN; rw [h1]; rfl)
  have HV := Lib.hid (validSearch_is false A c g A1 c1 rm wk (Lib.hid h1) w hr hr1)
  clear h1 hr hr1 hr3
  go_enter Tryd.func11, Tryd.ntmps11
  go_wp2_with (go_at_call 35; refine HV.out.mono ?_; rintro e w1 ⟨rfl, hB1⟩; have HB1 := Lib.hid hB1; clear hB1)
  go_ret
  exact ⟨_, rfl, by rw [HF.out]; exact R_nilS _ _, HB1.out⟩
 | true =>
  have HV := Lib.hid (validSearch_is true A c g A1 c1 rm wk (Lib.hid h1) w hr hr1)
  cases h2 : isOrdB g lst with
  | false =>
   have HF : Hid (osN g rm wk lst = []) := Lib.hid (by unfold osN; rw [h2, Bool.and_false]; rfl)
   have HI := Lib.hid (fun (W : World) (hB : Below w.heap.size w W) => isOrder_is false A c g A3 c3 lst hc (Lib.hid h2) W (Kd.C_below hr hB) (Kd.C_below hr3 hB))
   clear h1 h2 hr hr1 hr3 hc
   go_enter Tryd.func11, Tryd.ntmps11
   go_wp2_with (first | (go_at_call 35; refine HV.out.mono ?_; rintro e w1 ⟨rfl, hB1⟩; have HB1 := Lib.hid hB1; clear hB1) | (go_at_call 36; refine (HI.out _ HB1.out).mono ?_; rintro e w2 ⟨rfl, hB2⟩; have HB2 := Lib.hid (HB1.out.trans (hB2.mono HB1.out.size)); clear hB2))
   go_ret
   exact ⟨_, rfl, by rw [HF.out]; exact R_nilS _ _, HB2.out⟩
  | true =>
   obtain ⟨a1, a2, a3⟩ := seaB_facts h1
   obtain ⟨L, hO, rfl⟩ : ∃ L, IsOrd g L ∧ lst = ints L := ⟨nats lst, (isOrdB_ord h2).1, (isOrdB_ord h2).2.symm⟩
   have HF : Hid (osN g rm wk (ints L) = ordL g rm wk L L.length) := Lib.hid (os_ord h1 hO)
   have HI := Lib.hid (fun (W : World) (hB : Below w.heap.size w W) => isOrder_is true A c g A3 c3 (ints L) hc (Lib.hid h2) W (Kd.C_below hr hB) (Kd.C_below hr3 hB))
   rw [ints_length] at hr3 HI ⊢
   have HK := Lib.hid (fun (W : World) (hB : Below w.heap.size w W) => sorder_calls A c g A1 c1 rm wk A3 c3 L a1 a3 hO W (Kd.C_below hr hB) (Kd.C_below hr1 hB) (Kd.C_below hr3 hB))
   clear h1 h2 hr hr1 hr3 hc a1 a2 a3 hO
   go_enter Tryd.func11, Tryd.ntmps11
   go_wp2_with (first | (go_at_call 35; refine HV.out.mono ?_; rintro e w1 ⟨rfl, hB1⟩; have HB1 := Lib.hid hB1; clear hB1) | (go_at_call 36; refine (HI.out _ HB1.out).mono ?_; rintro e w2 ⟨rfl, hB2⟩; have HB2 := Lib.hid (HB1.out.trans (hB2.mono HB1.out.size)); clear hB2) | (go_at_call 37; refine (HK.out _ HB2.out).mono ?_; rintro e w3 ⟨v3, rfl, hR3, hB3⟩; have H3 := Lib.hid (And.intro hR3 hB3); clear hR3 hB3))
   go_ret
   have hz := HB2.out.size
   exact ⟨_, rfl, by rw [HF.out]; exact Kd.R_lower H3.out.1 hz, HB2.out.trans (H3.out.2.mono hz)⟩
end Go.Proofs.YtkljcdghbefceaaDoor
