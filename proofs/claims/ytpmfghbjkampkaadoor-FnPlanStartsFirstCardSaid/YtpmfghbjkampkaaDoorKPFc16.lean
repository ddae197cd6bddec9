/- Parts of the proof, laid as one text by a program of mine. -/
import Derived.Test.YtpmfghbjkampkaaDoorKPFc12
import Derived.Test.YtpmfghbjkampkaaDoorKPFc15
import Derived.Test.YtpmfghbjkampkaaDoorKPFc11
import Derived.Test.YtpmfghbjkampkaaDoorKPFc14
import Derived.Test.YtpmfghbjkampkaaDoorKPFc3
import Derived.Deep.QuietTactic
import Derived.BigQuiet
import Derived.Test.YtpmfghbjkampkaaDoorKPFc13
namespace Go.Proofs.YtpmfghbjkampkaaDoor
set_option linter.unusedVariables false
set_option linter.unusedSimpArgs false
open Go.RowKit Go.Shelf Bits
theorem graphN_spec {g : List Tk} {ns : List Nat} (h : graphN g = some ns) : specValid g = true := by rw [specValid_eq, h]; rfl
theorem topL_eq {g : List Tk} {ns : List Nat} (h : graphN g = some ns) : topL g = (ordN ns ns.length).1 := by
 obtain ⟨h8, hn, hs⟩ := graphN_all h
 have := (ord_top hn (fun i hi => (hs i hi).2) g.length).1
 unfold topL
 rw [this, hn]
theorem need_bit {g : List Tk} {ns : List Nat} (h : graphN g = some ns) {i : Nat} (hi : i < g.length) (k : Nat) : (ns.getD i 0).testBit k = decide ((k : Int) ∈ (rdTk g i).f1) :=
 setOfN_bits ((graphN_all h).2.2 i hi).2 k
def Topo (g : List Tk) (l : List Nat) : Prop := ∀ p, p < l.length → ∀ k : Nat, (k : Int) ∈ (rdTk g (l.getD p 0)).f1 → k ∈ l.take p
theorem topo_topN (g : List Tk) : ∀ n, Topo g (topN g n)
 | 0 => fun p hp => absurd hp (Nat.not_lt_zero _)
 | n + 1 => by
  have ih := topo_topN g n
  show Topo g (topStep g (topN g n))
  unfold topStep
  cases hf : topFirst g (topN g n) with
  | none => exact ih
  | some i =>
   obtain ⟨hi, _, hr⟩ := topFirst_spec hf
   generalize topN g n = l at ih hr
   have key : Topo g (l ++ [i]) := by
    intro p hp k hk
    have hp' := hp
    simp at hp'
    by_cases hpl : p < l.length
    ·
     have e : (l ++ [i]).getD p 0 = l.getD p 0 := by
      rw [List.getD_eq_getElem?_getD, List.getD_eq_getElem?_getD, List.getElem?_append_left hpl]
     rw [e] at hk
     rw [List.take_append_of_le_length (by omega)]
     exact ih p hpl k hk
    ·
     obtain rfl : p = l.length := by omega
     have e : (l ++ [i]).getD l.length 0 = i := by rw [List.getD_eq_getElem?_getD]; simp
     rw [e] at hk
     unfold specReady at hr
     rw [Bool.and_eq_true] at hr
     unfold allDoneB at hr
     have := List.all_eq_true.1 hr.2 _ hk
     rw [List.take_left]
     exact mem_intsN.1 (of_decide_eq_true this)
   exact key
theorem top_all {g : List Tk} (hv : specValid g = true) {j : Nat} (hj : j < g.length) : j ∈ topL g := by
 obtain ⟨h1, h2, h3⟩ := topN_facts g g.length
 have hl : (topL g).length = g.length := by
  unfold specValid at hv
  rw [Bool.and_eq_true] at hv
  exact of_decide_eq_true hv.2
 by_cases hm : j ∈ topL g
 ·
  exact hm
 ·
  have := nodup_below (n := g.length) (l := j :: topL g) (List.nodup_cons.2 ⟨hm, h1⟩) (fun i hi => by
   rcases List.mem_cons.1 hi with rfl | hi
   ·
    exact hj
   ·
    exact h2 i hi)
  rw [List.length_cons] at this
  omega
theorem getD_setI (o : List Int) (a j : Nat) (v : Int) (ha : a < o.length) : (o.set a v).getD j 0 = if j = a then v else o.getD j 0 := by
 rw [List.getD_eq_getElem?_getD, List.getD_eq_getElem?_getD, List.getElem?_set]
 by_cases h : a = j
 ·
  subst h
  simp [ha]
 ·
  rw [if_neg h, if_neg (fun e => h e.symm)]
theorem mostS_nonneg (g : List Tk) (o : List Int) (i : Nat) : ∀ k, 0 ≤ mostS g o i k
 | 0 => Int.le_refl _
 | k + 1 => by
  have ih := mostS_nonneg g o i k
  unfold mostS
  split <;> omega
theorem mostS_set {g : List Tk} {o : List Int} {a : Nat} {v : Int} (ha : a < o.length) (h0 : o.getD a 0 = 0) (hv : 0 ≤ v) (j : Nat) :
  ∀ k, mostS g (o.set a v) j k = if a < k ∧ ((j : Int) ∈ (rdTk g a).f1) then max (mostS g o j k) v else mostS g o j k
 | 0 => by simp [mostS]
 | k + 1 => by
  have ih := mostS_set (g := g) ha h0 hv j k
  have hn := mostS_nonneg g o j k
  have e : mostS g (o.set a v) j (k + 1) = if decide ((j : Int) ∈ (rdTk g k).f1) then max (mostS g (o.set a v) j k) ((o.set a v).getD k 0) else mostS g (o.set a v) j k := rfl
  have e2 : mostS g o j (k + 1) = if decide ((j : Int) ∈ (rdTk g k).f1) then max (mostS g o j k) (o.getD k 0) else mostS g o j k := rfl
  rw [e, e2, ih, getD_setI _ _ _ _ ha]
  generalize mostS g o j k = M at hn ⊢
  by_cases hm : (j : Int) ∈ (rdTk g k).f1
  ·
   rw [if_pos (show decide ((j : Int) ∈ (rdTk g k).f1) = true from decide_eq_true hm), if_pos (show decide ((j : Int) ∈ (rdTk g k).f1) = true from decide_eq_true hm)]
   by_cases hk : k = a
   ·
    subst hk
    rw [if_neg (show ¬ (k < k ∧ ((j : Int) ∈ (rdTk g k).f1)) from fun h => by omega), if_pos (rfl : k = k), h0, if_pos (show k < k + 1 ∧ ((j : Int) ∈ (rdTk g k).f1) from ⟨by omega, hm⟩)]
    omega
   ·
    rw [if_neg hk]
    by_cases hc : a < k ∧ ((j : Int) ∈ (rdTk g a).f1)
    ·
     rw [if_pos hc, if_pos (show a < k + 1 ∧ ((j : Int) ∈ (rdTk g a).f1) from ⟨by omega, hc.2⟩)]
     omega
    ·
     rw [if_neg hc, if_neg (show ¬ (a < k + 1 ∧ ((j : Int) ∈ (rdTk g a).f1)) from fun h => hc ⟨by omega, h.2⟩)]
  ·
   rw [if_neg (show ¬ (decide ((j : Int) ∈ (rdTk g k).f1) = true) by simp [hm]), if_neg (show ¬ (decide ((j : Int) ∈ (rdTk g k).f1) = true) by simp [hm])]
   by_cases hk : k = a
   ·
    subst hk
    rw [if_neg (show ¬ (k < k ∧ ((j : Int) ∈ (rdTk g k).f1)) from fun h => by omega), if_neg (show ¬ (k < k + 1 ∧ ((j : Int) ∈ (rdTk g k).f1)) from fun h => hm h.2)]
   ·
    by_cases hc : a < k ∧ ((j : Int) ∈ (rdTk g a).f1)
    ·
     rw [if_pos hc, if_pos (show a < k + 1 ∧ ((j : Int) ∈ (rdTk g a).f1) from ⟨by omega, hc.2⟩)]
    ·
     rw [if_neg hc, if_neg (show ¬ (a < k + 1 ∧ ((j : Int) ∈ (rdTk g a).f1)) from fun h => hc ⟨by omega, h.2⟩)]
theorem pushes_get {i : Nat} : ∀ (l : List Nat) (o : List Int), i < o.length → (∀ k ∈ l, k < o.length ∧ k ≠ i) → ∀ j, (l.foldl (tailPush i) o).getD j 0 = if j ∈ l then max (o.getD j 0) (o.getD i 0) else o.getD j 0
 | [], o, _, _, j => by simp
 | k :: l, o, hi, h, j => by
  have hk := h k (List.mem_cons_self ..)
  rw [List.foldl_cons, pushes_get l (tailPush i o k) (by unfold tailPush; rw [List.length_set]; exact hi) (fun q hq => by unfold tailPush; rw [List.length_set]; exact h q (List.mem_cons_of_mem _ hq)) j]
  unfold tailPush
  rw [getD_setI _ _ _ _ hk.1, getD_setI _ _ _ _ hk.1]
  rw [if_neg (show ¬ (i = k) from fun e => hk.2 e.symm)]
  by_cases hjk : j = k
  ·
   subst hjk
   rw [if_pos (rfl : j = j), if_pos (show j ∈ j :: l from List.mem_cons_self ..)]
   split <;> omega
  ·
   rw [if_neg hjk]
   by_cases hjl : j ∈ l
   ·
    rw [if_pos hjl, if_pos (show j ∈ k :: l from List.mem_cons_of_mem _ hjl)]
   ·
    rw [if_neg hjl, if_neg (show ¬ (j ∈ k :: l) from fun h => by
     rcases List.mem_cons.1 h with e | e
     ·
      exact hjk e
     ·
      exact hjl e)]
theorem pushes_len {i : Nat} : ∀ (l : List Nat) (o : List Int), (l.foldl (tailPush i) o).length = o.length
 | [], _ => rfl
 | k :: l, o => by
  rw [List.foldl_cons, pushes_len l]
  unfold tailPush
  rw [List.length_set]
theorem tails_law {g : List Tk} {ns : List Nat} (hg : graphN g = some ns) : ∀ m, m ≤ (topL g).length →
  (∀ j ∈ (topL g).drop ((topL g).length - m), (tailsL g ns (topL g) (backL (topL g).length m)).getD j 0 = (tailsSL g (backL (topL g).length m)).getD j 0) ∧
  (∀ j, j < g.length → ¬ j ∈ (topL g).drop ((topL g).length - m) → (tailsSL g (backL (topL g).length m)).getD j 0 = 0 ∧ (tailsL g ns (topL g) (backL (topL g).length m)).getD j 0 = mostS g (tailsSL g (backL (topL g).length m)) j g.length)
 | 0, _ => by
  have h0 : ∀ j, (List.replicate g.length (0 : Int)).getD j 0 = 0 := fun j => by
   rw [List.getD_eq_getElem?_getD, List.getElem?_replicate]
   split <;> simp
  have hm : ∀ j k, mostS g (List.replicate g.length 0) j k = 0 := fun j k => by
   induction k with
   | zero => rfl
   | succ k ih =>
    unfold mostS
    rw [ih, h0]
    split <;> rfl
  refine ⟨fun j hj => by simp at hj, fun j hj _ => ?_⟩
  show (List.replicate g.length (0 : Int)).getD j 0 = 0 ∧ (List.replicate g.length (0 : Int)).getD j 0 = mostS g (List.replicate g.length 0) j g.length
  exact ⟨h0 j, by rw [h0, hm]⟩
 | m + 1, hm => by
  obtain ⟨ih1, ih2⟩ := tails_law hg m (by omega)
  have hv := graphN_spec hg
  obtain ⟨hnd, hlt, _⟩ := topN_facts g g.length
  have htm := graphN_time hg
  have hTS := (tailsSL_span (g := g) htm (backL (topL g).length m))
  have hTI := (tails_span (g := g) (ns := ns) (ord := topL g) htm (backL (topL g).length m))
  rw [backL_succ, tailsL_snoc, tailsSL_snoc]
  obtain ⟨p, hp⟩ : ∃ p, p = (topL g).length - 1 - m := ⟨_, rfl⟩
  rw [← hp]
  have hpl : p < (topL g).length := by omega
  have hdr : (topL g).drop ((topL g).length - (m + 1)) = (topL g).getD p 0 :: (topL g).drop ((topL g).length - m) := by
   rw [show (topL g).length - (m + 1) = p by omega, show (topL g).length - m = p + 1 by omega, List.drop_eq_getElem_cons hpl, List.getD_eq_getElem?_getD, List.getElem?_eq_getElem hpl]
   rfl
  have hat : (topL g).getD p 0 < g.length := hlt _ (by
   show _ ∈ topL g
   rw [List.getD_eq_getElem?_getD, List.getElem?_eq_getElem hpl]
   exact List.getElem_mem _)
  have htopo := topo_topN g g.length p hpl
  have hsplit : topL g = (topL g).take p ++ (topL g).getD p 0 :: (topL g).drop ((topL g).length - m) := by
   rw [← hdr, show (topL g).length - (m + 1) = p by omega, List.take_append_drop]
  have hnd2 : ((topL g).take p ++ (topL g).getD p 0 :: (topL g).drop ((topL g).length - m)).Nodup := by rw [← hsplit]; exact hnd
  obtain ⟨_, hn2, hn3⟩ := List.nodup_append.1 hnd2
  obtain ⟨hna, _⟩ := List.nodup_cons.1 hn2
  rw [hdr]
  change ∀ k : Nat, (k : Int) ∈ (rdTk g ((topL g).getD p 0)).f1 → k ∈ (topL g).take p at htopo
  generalize (topL g).getD p 0 = a at hat htopo hn3 hna
  generalize (topL g).drop ((topL g).length - m) = D at ih1 ih2 hn3 hna
  generalize tailsSL g (backL (topL g).length m) = oS at ih1 ih2 hTS
  generalize tailsL g ns (topL g) (backL (topL g).length m) = oI at ih1 ih2 hTI
  have hlS := hTS.1
  have hlI := hTI.1
  obtain ⟨ha0, haI⟩ := ih2 a hat hna
  have hmn := mostS_nonneg g oS a g.length
  have htma := htm a
  unfold sStep tailStep
  rw [haI]
  obtain ⟨v, hvv⟩ : ∃ v, v = mostS g oS a g.length + (rdTk g a).f0 := ⟨_, rfl⟩
  rw [← hvv]
  have hv0 : 0 ≤ v := by omega
  have hel : ∀ k ∈ elems (ns.getD a 0), k < g.length ∧ k ≠ a ∧ ¬ k ∈ D ∧ (k : Int) ∈ (rdTk g a).f1 := fun k hk => by
   have hb := elems_bit hk
   rw [need_bit hg hat] at hb
   have hkm := of_decide_eq_true hb
   have hkt := htopo k hkm
   refine ⟨hlt k (List.mem_of_mem_take hkt), fun e => hn3 k hkt a (List.mem_cons_self ..) e, fun hD => hn3 k hkt k (List.mem_cons_of_mem _ hD) rfl, hkm⟩
  have hpg := pushes_get (i := a) (elems (ns.getD a 0)) (oI.set a v) (by rw [List.length_set]; omega) (fun k hk => by rw [List.length_set]; exact ⟨by have := (hel k hk).1; omega, (hel k hk).2.1⟩)
  have hms : ∀ j, mostS g (oS.set a v) j g.length = if a < g.length ∧ ((j : Int) ∈ (rdTk g a).f1) then max (mostS g oS j g.length) v else mostS g oS j g.length := fun j => mostS_set (by omega) ha0 hv0 j g.length
  refine ⟨fun j hj => ?_, fun j hj hjD => ?_⟩
  ·
   rw [hpg, getD_setI _ _ _ _ (by omega), getD_setI _ _ _ _ (by omega), getD_setI _ _ _ _ (by omega), if_pos rfl]
   have hje : ¬ j ∈ elems (ns.getD a 0) := fun he => by
    rcases List.mem_cons.1 hj with e | e
    ·
     exact (hel j he).2.1 e
    ·
     exact (hel j he).2.2.1 e
   rw [if_neg hje]
   by_cases hja : j = a
   ·
    rw [if_pos hja, if_pos hja]
   ·
    rw [if_neg hja, if_neg hja]
    rcases List.mem_cons.1 hj with e | e
    ·
     exact absurd e hja
    ·
     exact ih1 j e
  ·
   have hja : j ≠ a := fun e => hjD (by rw [e]; exact List.mem_cons_self ..)
   have hjD' : ¬ j ∈ D := fun e => hjD (List.mem_cons_of_mem _ e)
   obtain ⟨q0, qI⟩ := ih2 j hj hjD'
   rw [hpg, hms, getD_setI _ _ _ _ (by omega), getD_setI _ _ _ _ (by omega), getD_setI _ _ _ _ (by omega), if_pos rfl, if_neg hja, if_neg hja, qI]
   refine ⟨q0, ?_⟩
   by_cases hje : j ∈ elems (ns.getD a 0)
   ·
    rw [if_pos hje, if_pos ⟨hat, (hel j hje).2.2.2⟩]
   ·
    have hnm : ¬ (j : Int) ∈ (rdTk g a).f1 := fun hm' => hje (mem_elems.2 ⟨by have := (graphN_all hg).1; omega, by rw [need_bit hg hat]; exact decide_eq_true hm'⟩)
    rw [if_neg hje, if_neg (fun h => hnm h.2)]
theorem tailN_eq {g : List Tk} {ns : List Nat} (hg : graphN g = some ns) : tailN g ns = tailsS g := by
 have hv := graphN_spec hg
 have htm := graphN_time hg
 have h := (tails_law hg (topL g).length (Nat.le_refl _)).1
 rw [Nat.sub_self, List.drop_zero] at h
 unfold tailN tailsS
 rw [← topL_eq hg]
 apply List.ext_getElem
 ·
  rw [(tails_span (g := g) (ns := ns) (ord := topL g) htm _).1, (tailsSL_span (g := g) htm _).1]
 ·
  intro j h1 h2
  have hj : j < g.length := by rw [(tails_span (g := g) (ns := ns) (ord := topL g) htm _).1] at h1; exact h1
  have := h j (top_all hv hj)
  rw [List.getD_eq_getElem?_getD, List.getD_eq_getElem?_getD, List.getElem?_eq_getElem h1, List.getElem?_eq_getElem h2] at this
  exact this
end Go.Proofs.YtpmfghbjkampkaaDoor

namespace Go.Proofs.YtpmfghbjkampkaaDoor
set_option linter.unusedVariables false
set_option linter.unusedSimpArgs false
open Go.RowKit Go.Shelf Bits
open Go.Proofs.YtpmfghbjkampkaaDoorW.PrintWords Go.Proofs.YtpmfghbjkampkaaDoorW.PrintLast Go.Proofs.YtpmfghbjkampkaaDoorW.PrintMore
attribute [local go_sem] Oper.semAt_some
theorem R_nilI (w : World) (base : Nat) : Kd.R (Kd.int .i64) 3 w base (fun _ => True) (.slice none 0 0) [] := Kd.R_of_own ⟨by simp [encs], .inl ⟨rfl, by simp [encs]⟩⟩ (fun _ _ => trivial)
theorem readyN_lt (ns : List Nat) (d : Nat) : readyN ns d < 2 ^ ns.length := readyU_lt ns d _
theorem doneN_facts {g : List Tk} {l : List Int} {ns : List Nat} {s : Nat} (h : doneN g l = some (ns, s)) : graphN g = some ns ∧ setOfN l g.length = some s ∧ closedN ns s = true := by
 unfold doneN at h
 obtain ⟨ns', h1, h⟩ := Option.bind_eq_some_iff.1 h
 obtain ⟨s', h2, h⟩ := Option.bind_eq_some_iff.1 h
 split at h
 ·
  cases h
  exact ⟨h1, h2, by assumption⟩
 ·
  cases h
def rdOrdN (g : List Tk) (l : List Int) : List Int := match doneN g l with
 | some (ns, s) => ints (rankL (tailN g ns) (elems (readyN ns s)))
 | none => []
def rdTasksN (g : List Tk) (l : List Int) : List Int := match doneN g l with
 | some (ns, s) => els (readyN ns s)
 | none => []
def tailTimesN (g : List Tk) : List Int := match graphN g with
 | some ns => tailN g ns
 | none => []
set_option maxRecDepth 100000 in
theorem ReadyOrder_impl (A : Option Addr) (c : Nat) (g : List Tk) (A' : Option Addr) (c' : Nat) (l : List Int) (w : World) (hr : kTk.C w A g.length g) (hr' : (Kd.int .i64).C w A' l.length l) (hT : Tab w) :
  Calls Tryd.prog 31 #[.slice A g.length c, .slice A' l.length c'] w fun e W' => ∃ v, e = .returned v ∧ Kd.R (Kd.int .i64) 3 W' w.heap.size (fun _ => True) v (rdOrdN g l) ∧ Below w.heap.size w W' := by
 cases hd : doneN g l with
 | none =>
  have HP := Lib.hid (doneIn_no A c g A' c' l w hr hr' hT hd)
  have HF : Hid (rdOrdN g l = []) := Lib.hid (by unfold rdOrdN; rw [hd])
  clear hr hr' hT hd
  go_enter Tryd.func31, Tryd.ntmps31
  go_wp2_with (go_at_call 63; refine HP.out.mono ?_; rintro e w1 ⟨rfl, hB1⟩)
  go_ret
  exact ⟨_, rfl, by rw [HF.out]; exact R_nilI _ _, hB1⟩
 | some p =>
  obtain ⟨ns, s⟩ := p
  have HP := Lib.hid (doneIn_yes A c g A' c' l w hr hr' hT ns s hd)
  obtain ⟨f1, f2, f3⟩ := doneN_facts hd
  have HF : Hid (rdOrdN g l = ints (rankL (tailN g ns) (elems (readyN ns s)))) := Lib.hid (by unfold rdOrdN; rw [hd])
  have H1 := Lib.hid f1
  have h8 := graphN_all f1
  have hnl := h8.2.1
  have h8 := h8.1
  have hs16 : s < 65536 := Nat.lt_of_lt_of_le (setOfN_lt f2) (pow_le_u16 (by omega))
  have hrd := readyN_lt ns s
  have HN := Lib.hid (fun (W : World) C (h : IsGraph W C g ns) => ready_calls C g ns s (by omega) (needsN_lt (graphN_some f1).1) hs16 W h)
  have HK := Lib.hid (fun (W : World) C (h : IsGraph W C g ns) (hT : Tab W) => ranked_calls C g ns (readyN ns s) f1 (by rw [← hnl]; exact hrd) W h hT)
  have HT := Lib.hid hT
  clear hr hr' hT hd f1 f2 f3 hnl
  generalize readyN ns s = rd at HF HN HK hrd
  go_enter Tryd.func31, Tryd.ntmps31
  go_wp2_with (first | (go_at_call 63; refine HP.out.mono ?_; rintro e w1 ⟨C, rfl, hG, hB1⟩; have HG := Lib.hid hG; clear hG) | (go_at_call 66; refine (HN.out _ C HG.out).mono ?_; rintro e w1 ⟨rfl, rfl⟩) | (go_at_call 65; refine (HK.out _ C HG.out (HT.out.keep HT.out.lt hB1)).mono ?_; rintro e w3 ⟨v, rfl, hR, hB3⟩))
  go_ret
  have hz := hB1.size
  exact ⟨_, rfl, by rw [HF.out]; exact Kd.R_lower hR hz, hB1.trans (hB3.mono hz)⟩
end Go.Proofs.YtpmfghbjkampkaaDoor

namespace Go.Proofs.YtpmfghbjkampkaaDoor
set_option linter.unusedVariables false
set_option linter.unusedSimpArgs false
open Go.RowKit Go.Shelf Bits
open Go.Proofs.YtpmfghbjkampkaaDoorW.PrintWords Go.Proofs.YtpmfghbjkampkaaDoorW.PrintLast Go.Proofs.YtpmfghbjkampkaaDoorW.PrintMore
def vDoneB (g : List Tk) (d : List Int) : Bool := specValid g && (ascB d && (allInB d 0 (g.length - 1) && d.all fun x => allDoneB (rdTk g x.toNat).f1 d))
theorem allIn_mem {l : List Int} {lo hi : Int} (h : allInB l lo hi = true) : ∀ j, j < l.length → lo ≤ l.getD j 0 ∧ l.getD j 0 ≤ hi := fun j hj => by
 unfold allInB at h
 rw [List.all_eq_true] at h
 exact inB_true.1 (h _ (mem_getD hj))
theorem specValid_len {g : List Tk} (h : specValid g = true) : g.length ≤ 8 := by
 unfold specValid tasksFineB at h
 simp at h
 exact h.1.2
end Go.Proofs.YtpmfghbjkampkaaDoor

namespace Go.Proofs.YtpmfghbjkampkaaDoor
set_option linter.unusedVariables false
set_option linter.unusedSimpArgs false
open Go.RowKit Go.Shelf Bits
open Go.Proofs.YtpmfghbjkampkaaDoorW.PrintWords Go.Proofs.YtpmfghbjkampkaaDoorW.PrintLast Go.Proofs.YtpmfghbjkampkaaDoorW.PrintMore
def sRdTasks (g : List Tk) (d : List Int) : List Nat := if vDoneB g d then readyS g d else []
def sRdOrd (g : List Tk) (d : List Int) : List Nat := if vDoneB g d then insL (tailsS g) (readyS g d) else []
theorem vDone_valid {g : List Tk} {d : List Int} (h : vDoneB g d = true) : specValid g = true := by
 unfold vDoneB at h
 rw [Bool.and_eq_true] at h
 exact h.1
theorem readyS_len (g : List Tk) (d : List Int) : (readyS g d).length ≤ g.length := filter_range_le _ _
theorem readyS_lt {g : List Tk} {d : List Int} : ∀ x ∈ readyS g d, x < g.length := fun x hx => List.mem_range.1 (List.mem_filter.1 hx).1
theorem sRdTasks_len (g : List Tk) (d : List Int) : (sRdTasks g d).length ≤ 8 := by
 unfold sRdTasks
 split
 ·
  rename_i h
  exact Nat.le_trans (readyS_len g d) (specValid_len (vDone_valid h))
 ·
  simp
end Go.Proofs.YtpmfghbjkampkaaDoor

namespace Go.Proofs.YtpmfghbjkampkaaDoor
set_option linter.unusedVariables false
set_option linter.unusedSimpArgs false
open Go.RowKit Go.Shelf Bits
theorem filter_rangeR {P : Nat → Bool} {n : Nat} (h : ∀ i, P i = true → i < n) : ∀ d, (List.range (n + d)).filter P = (List.range n).filter P
 | 0 => rfl
 | d + 1 => by
  rw [← Nat.add_assoc, List.range_succ, List.filter_append, filter_rangeR h d]
  have : P (n + d) = false := by
   cases hp : P (n + d) with
   | false => rfl
   | true => have := h _ hp; omega
  simp [this]
theorem needs_in {g : List Tk} {ns : List Nat} (hg : graphN g = some ns) {l : List Int} {s : Nat} (hs : ∀ j : Nat, s.testBit j = decide ((j : Int) ∈ l)) {i : Nat} (hi : i < g.length) : decide (diff (ns.getD i 0) s = 0) = allDoneB (rdTk g i).f1 l := by
 rw [Bool.eq_iff_iff, decide_eq_true_iff, diff_zero]
 unfold allDoneB
 rw [List.all_eq_true]
 obtain ⟨_, _, hn⟩ := graphN_all hg
 constructor
 ·
  intro h x hx
  obtain ⟨hx0, hx1⟩ := setOfL_mem _ _ _ _ _ (by omega) (hn i hi).2 x hx
  have hxe : x = ((x.toNat : Nat) : Int) := by omega
  have := h x.toNat (by rw [need_bit hg hi]; exact decide_eq_true (by rw [← hxe]; exact hx))
  rw [hs] at this
  rw [hxe]
  exact this
 ·
  intro h j hj
  rw [need_bit hg hi] at hj
  rw [hs]
  exact h _ (of_decide_eq_true hj)
theorem doneN_eq (g : List Tk) (l : List Int) : vDoneB g l = (doneN g l).isSome := by
 unfold vDoneB
 rw [specValid_eq]
 cases hg : graphN g with
 | none =>
  rw [show doneN g l = none by unfold doneN; rw [hg]; rfl]
  rfl
 | some ns =>
  rw [show (some ns).isSome = true from rfl, Bool.true_and]
  have h1 := setOfN_isSome l g.length
  cases hs : setOfN l g.length with
  | none =>
   rw [hs] at h1
   rw [show doneN g l = none by unfold doneN; rw [hg]; show (setOfN l g.length).bind _ = none; rw [hs]; rfl]
   cases ha : ascB l
   ·
    rfl
   ·
    rw [ha, Bool.and_true] at h1
    rw [← h1]
    rfl
  | some s =>
   rw [hs] at h1
   have h2 : allInB l 0 (g.length - 1) = true ∧ ascB l = true := by rw [← Bool.and_eq_true]; exact h1.symm
   rw [h2.1, h2.2, Bool.true_and, Bool.true_and, graph_some_lt hg hs]
   have hb : ∀ j : Nat, s.testBit j = decide ((j : Int) ∈ l) := fun j => setOfN_bits hs j
   have hin := setOfL_mem _ _ _ _ _ (by omega) hs
   have h8 := (graphN_all hg).1
   have hc : closedN ns s = l.all fun x => allDoneB (rdTk g x.toNat).f1 l := by
    unfold closedN
    rw [Bool.eq_iff_iff, List.all_eq_true, List.all_eq_true]
    constructor
    ·
     intro h x hx
     obtain ⟨x0, x1⟩ := hin x hx
     have hxe : x = ((x.toNat : Nat) : Int) := by omega
     rw [← needs_in hg hb (by omega)]
     exact h x.toNat (mem_elems.2 ⟨by omega, by rw [hb, ← hxe]; exact decide_eq_true hx⟩)
    ·
     intro h i hi
     have hil := of_decide_eq_true ((hb i).symm.trans (elems_bit hi))
     obtain ⟨i0, i1⟩ := hin _ hil
     show needsIn ns s i = true
     unfold needsIn
     rw [needs_in hg hb (by omega)]
     exact h _ hil
   rw [← hc]
   cases closedN ns s <;> rfl
theorem readyN_eq {g : List Tk} {l : List Int} {ns : List Nat} {s : Nat} (hd : doneN g l = some (ns, s)) : elems (readyN ns s) = readyS g l := by
 obtain ⟨hg, hs, hc⟩ := doneN_facts hd
 obtain ⟨h8, hn, _⟩ := graphN_all hg
 have hb : ∀ j : Nat, s.testBit j = decide ((j : Int) ∈ l) := fun j => setOfN_bits hs j
 unfold elems readyS
 have e : ∀ i, (readyN ns s).testBit i = (decide (i < g.length) && rdB g l i) := fun i => by
  rw [readyN_bit, hn]
  by_cases hi : i < g.length
  ·
   rw [decide_eq_true hi, Bool.true_and, Bool.true_and]
   unfold isReady rdB
   rw [hb, needs_in hg hb hi]
  ·
   rw [decide_eq_false hi]
   rfl
 have h1 := filter_rangeR (P := (readyN ns s).testBit) (n := g.length) (fun i hi => by
  rw [e, Bool.and_eq_true] at hi
  exact of_decide_eq_true hi.1) (16 - g.length)
 rw [show g.length + (16 - g.length) = 16 by omega] at h1
 show (List.range 16).filter (readyN ns s).testBit = _
 rw [h1]
 apply List.filter_congr
 intro i hi
 rw [e, decide_eq_true (List.mem_range.1 hi), Bool.true_and]
theorem bubL_sorted (T : List Int) : ∀ (k : Nat) (A B : List Nat) (x : Nat), A.length = k → (A ++ B).Pairwise (leT T) → (∀ b ∈ B, leT T x b) → (bubL T k (A ++ x :: B)).Pairwise (leT T)
 | 0, A, B, x, hA, hs, hx => by
  obtain rfl : A = [] := List.eq_nil_of_length_eq_zero hA
  show (x :: B).Pairwise (leT T)
  exact List.pairwise_cons.2 ⟨hx, by simpa using hs⟩
 | k + 1, A, B, x, hA, hs, hx => by
  obtain ⟨A', y, rfl⟩ : ∃ A' y, A = A' ++ [y] := ⟨A.dropLast, A.getLast (by intro h; rw [h] at hA; simp at hA), (List.dropLast_concat_getLast _).symm⟩
  have hA' : A'.length = k := by simpa using hA
  have e1 : (A' ++ [y] ++ x :: B).getD (k + 1) 0 = x := by
   rw [List.getD_eq_getElem?_getD, ← hA', show A' ++ [y] ++ x :: B = (A' ++ [y]) ++ x :: B from rfl, List.getElem?_append_right (by simp)]
   simp
  have e2 : (A' ++ [y] ++ x :: B).getD k 0 = y := by
   rw [List.getD_eq_getElem?_getD, ← hA']
   simp
  unfold bubL
  rw [e1, e2]
  have hpw : (A' ++ (y :: B)).Pairwise (leT T) := by simpa using hs
  obtain ⟨p1, p2, p3⟩ := List.pairwise_append.1 hpw
  obtain ⟨p4, p5⟩ := List.pairwise_cons.1 p2
  by_cases hl : lessB T x y = true
  ·
   rw [if_pos hl]
   have e3 : swapL (A' ++ [y] ++ x :: B) k (k + 1) = A' ++ x :: (y :: B) := by
    unfold swapL
    rw [e1, e2, ← hA']
    simp [List.set_append]
   rw [e3]
   exact bubL_sorted T k A' (y :: B) x hA' hpw (fun b hb => by
    rcases List.mem_cons.1 hb with rfl | hb
    ·
     exact less_true hl
    ·
     exact (less_true hl).trans (p4 b hb))
  ·
   rw [if_neg hl]
   have hyx : leT T y x := less_false.1 (by simpa using hl)
   have : (A' ++ [y] ++ x :: B) = A' ++ (y :: x :: B) := by simp
   rw [this]
   refine List.pairwise_append.2 ⟨p1, List.pairwise_cons.2 ⟨fun b hb => ?_, List.pairwise_cons.2 ⟨hx, p5⟩⟩, fun a ha b hb => ?_⟩
   ·
    rcases List.mem_cons.1 hb with rfl | hb
    ·
     exact hyx
    ·
     exact p4 b hb
   ·
    rcases List.mem_cons.1 hb with rfl | hb
    ·
     exact p3 a ha _ (List.mem_cons_self ..)
    ·
     rcases List.mem_cons.1 hb with rfl | hb
     ·
      exact (p3 a ha y (List.mem_cons_self ..)).trans hyx
     ·
      exact p3 a ha b (List.mem_cons_of_mem _ hb)
theorem insL_sortedA (T : List Int) : ∀ (xs acc : List Nat), acc.Pairwise (leT T) → (xs.foldl (fun out x => bubL T out.length (out ++ [x])) acc).Pairwise (leT T)
 | [], acc, h => h
 | x :: xs, acc, h => insL_sortedA T xs _ (bubL_sorted T acc.length acc [] x rfl (by simpa using h) (fun b hb => by cases hb))
theorem insL_sorted (T : List Int) (xs : List Nat) : (insL T xs).Pairwise (leT T) := insL_sortedA T xs [] List.Pairwise.nil
theorem rank_ins (T : List Int) (xs : List Nat) : rankL T xs = insL T xs :=
 rank_unique (rank_sorted T xs).1 (insL_sorted T xs) ((rank_sorted T xs).2.trans (insL_perm T xs).symm)
theorem rdOrd_eq (g : List Tk) (l : List Int) : rdOrdN g l = ints (sRdOrd g l) := by
 unfold rdOrdN sRdOrd
 rw [doneN_eq]
 cases hd : doneN g l with
 | none => rfl
 | some p =>
  obtain ⟨ns, s⟩ := p
  rw [if_pos (show (some (ns, s)).isSome = true from rfl), ← tailN_eq (doneN_facts hd).1, ← readyN_eq hd, ← rank_ins]
theorem rdTasks_eq (g : List Tk) (l : List Int) : rdTasksN g l = ints (sRdTasks g l) := by
 unfold rdTasksN sRdTasks
 rw [doneN_eq]
 cases hd : doneN g l with
 | none => rfl
 | some p =>
  obtain ⟨ns, s⟩ := p
  rw [if_pos (show (some (ns, s)).isSome = true from rfl), ← readyN_eq hd]
  rfl
end Go.Proofs.YtpmfghbjkampkaaDoor

namespace Go.Proofs.YtpmfghbjkampkaaDoor
set_option linter.unusedVariables false
set_option linter.unusedSimpArgs false
open Go.RowKit Go.Shelf Bits
open Go.Proofs.YtpmfghbjkampkaaDoorW.PrintWords Go.Proofs.YtpmfghbjkampkaaDoorW.PrintLast Go.Proofs.YtpmfghbjkampkaaDoorW.PrintMore
theorem list_ext0 {a b : List Int} (hl : a.length = b.length) (h : ∀ j, j < a.length → a.getD j 0 = b.getD j 0) : a = b := by
 apply List.ext_getElem hl
 intro j h1 h2
 have := h j h1
 rw [List.getD_eq_getElem?_getD, List.getD_eq_getElem?_getD, List.getElem?_eq_getElem h1, List.getElem?_eq_getElem h2] at this
 exact this
set_option maxRecDepth 100000 in
set_option maxHeartbeats 2000000 in
theorem equalInts_calls (A : Option Addr) (c : Nat) (a : List Int) (B : Option Addr) (d : Nat) (b : List Int) (w : World) (hr : (Kd.int .i64).C w A a.length a) (hr' : (Kd.int .i64).C w B b.length b) :
  Calls Tryd.prog 25 #[.slice A a.length c, .slice B b.length d] w fun e w' => e = .returned (.bool (decide (a = b))) ∧ Below w.heap.size w w' := by
 have HR := Lib.hid hr
 have HR' := Lib.hid hr'
 have hla := (C_len hr).2
 have hlb := (C_len hr').2
 clear hr hr'
 by_cases hl : a.length = b.length
 ·
  have dl : ((a.length : Int) != (b.length : Int)) = false := by rw [bne_eq_false_iff_eq]; omega
  have HL := Lib.hid hl
  clear hl
  go_enter Tryd.func25, Tryd.ntmps25
  go_wp2
  go_loopw [5] (fun i wr => ∃ j, j ≤ a.length ∧ i = .int .i64 (j : Nat) ∧ Hid (∀ q, q < j → a.getD q 0 = b.getD q 0) ∧ Below w.heap.size w wr) (fun i _ => a.length - (intOf i).toNat)
  case atStart => exact ⟨0, Nat.zero_le _, rfl, Lib.hid fun j h => absurd h (Nat.not_lt_zero _), Below.refl _ _⟩
  case round =>
   obtain ⟨j, hj, rfl, HS, hB⟩ := hrel
   by_cases hjl : j < a.length
   ·
    have hjj : decide ((j : Int) < (a.length : Int)) = true := decide_eq_true (by omega)
    have hjb : (j : Int) < (b.length : Int) := by have := HL.out; omega
    have hja : (j : Int) < (a.length : Int) := by omega
    obtain ⟨ad, rfl, cx⟩ := at_num (Kd.C_below HR.out hB) j hjl
    obtain ⟨bd, rfl, cy⟩ := at_num (Kd.C_below HR'.out hB) j (by omega)
    by_cases he : a.getD j 0 = b.getD j 0
    ·
     have dn : (a.getD j 0 != b.getD j 0) = false := by rw [bne_eq_false_iff_eq]; exact he
     have HN := step_lt HS he
     clear he
     generalize a.getD j 0 = x at cx dn
     generalize b.getD j 0 = y at cy dn
     have HB := Lib.hid hB
     go_wp2
     go_quiet (fail)
     go_wp2
     go_roundw
     case rel => exact ⟨j + 1, by omega, by go_num, HN, pw_below_drewN HB.out _⟩
     case measure => simp [intOf]; omega
    ·
     have dn : (a.getD j 0 != b.getD j 0) = true := by rw [bne_iff_ne]; exact he
     have HF : Hid (decide (a = b) = false) := Lib.hid (decide_eq_false fun e => he (by rw [e]))
     clear he
     generalize a.getD j 0 = x at cx dn
     generalize b.getD j 0 = y at cy dn
     have HB := Lib.hid hB
     go_wp2
     go_quiet (fail)
     go_wp2
     go_ret
     exact ⟨ret_bool HF.out.symm, pw_below_drewN HB.out _⟩
   ·
    obtain rfl : j = a.length := by omega
    have hjj : decide ((a.length : Int) < (a.length : Int)) = false := decide_eq_false (by omega)
    have HF : Hid (decide (a = b) = true) := Lib.hid (decide_eq_true (list_ext0 HL.out fun q hq => HS.out q hq))
    go_wp2
    go_ret
    exact ⟨ret_bool HF.out.symm, hB⟩
 ·
  have dl : ((a.length : Int) != (b.length : Int)) = true := by rw [bne_iff_ne]; omega
  have HF : Hid (decide (a = b) = false) := Lib.hid (decide_eq_false fun e => hl (by rw [e]))
  clear hl
  go_enter Tryd.func25, Tryd.ntmps25
  go_wp2
  go_ret
  exact ⟨ret_bool HF.out.symm, Below.refl _ _⟩
theorem equalInts_is (r : Bool) (A : Option Addr) (c : Nat) (a : List Int) (B : Option Addr) (d : Nat) (b : List Int) (h : Hid (decide (a = b) = r)) (w : World) (hr : (Kd.int .i64).C w A a.length a) (hr' : (Kd.int .i64).C w B b.length b) :
  Calls Tryd.prog 25 #[.slice A a.length c, .slice B b.length d] w fun e w' => e = .returned (.bool r) ∧ Below w.heap.size w w' :=
 (equalInts_calls A c a B d b w hr hr').mono fun e w' ⟨he, hw⟩ => ⟨by rw [he, h.out], hw⟩
theorem equalInts_same (A : Option Addr) (c : Nat) (a : List Int) (B : Option Addr) (d : Nat) (w : World) (hr : (Kd.int .i64).C w A a.length a) (hr' : (Kd.int .i64).C w B a.length a) :
  Calls Tryd.prog 25 #[.slice A a.length c, .slice B a.length d] w fun e w' => e = .returned (.bool true) ∧ Below w.heap.size w w' :=
 (equalInts_calls A c a B d a w hr hr').mono fun e w' ⟨he, hw⟩ => ⟨by rw [he, decide_eq_true rfl], hw⟩
set_option maxHeartbeats 1000000 in
theorem lIsIn_calls (A : Option Addr) (c : Nat) (l : List Int) (n : Int) (w : World) (hr : (Kd.int .i64).C w A l.length l) :
  Calls Tryd.prog 28 #[.slice A l.length c, .int .i64 n] w fun e w' => e = .returned (.bool (decide (n ∈ l))) ∧ w' = w := by
 have hl := (C_len hr).2
 have HR := Lib.hid hr
 clear hr
 go_enter Tryd.func28, Tryd.ntmps28
 go_wp2
 go_loop [5] (fun i => ∃ (k : Nat), k ≤ l.length ∧ i = .int .i64 k ∧ Hid (∀ j, j < k → l.getD j 0 ≠ n)) (fun i => l.length - (intOf i).toNat)
 case atStart => exact ⟨0, Nat.zero_le _, rfl, Lib.hid fun j h => absurd h (Nat.not_lt_zero _)⟩
 case round =>
  obtain ⟨k, hk, rfl, HS⟩ := hrel
  by_cases hlt : k < l.length
  ·
   obtain ⟨ad, rfl, hc⟩ := at_num HR.out k hlt
   by_cases hb : l.getD k 0 = n
   ·
    have HF : Hid (decide (n ∈ l) = true) := Lib.hid (decide_eq_true (by rw [← hb]; exact mem_getD hlt))
    have d1 : (l.getD k 0 == n) = true := beq_iff_eq.2 hb
    clear hb
    generalize l.getD k 0 = x at hc d1
    go_wp2
    go_ret
    exact ⟨ret_bool HF.out.symm, rfl⟩
   ·
    have HN := step_lt HS hb
    have d1 : (l.getD k 0 == n) = false := by rw [beq_eq_false_iff_ne]; exact hb
    clear hb
    generalize l.getD k 0 = x at hc d1
    go_wp2
    go_round
    case rel => exact ⟨k + 1, by omega, by go_num, HN⟩
    case measure => simp [intOf]; omega
  ·
   have HF : Hid (decide (n ∈ l) = false) := Lib.hid (decide_eq_false (not_mem_of fun j hj => HS.out j (by omega)))
   go_wp2
   go_ret
   exact ⟨ret_bool HF.out.symm, rfl⟩
theorem lIsIn_is (b : Bool) (A : Option Addr) (c : Nat) (l : List Int) (n : Int) (h : Hid (decide (n ∈ l) = b)) (w : World) (hr : (Kd.int .i64).C w A l.length l) :
  Calls Tryd.prog 28 #[.slice A l.length c, .int .i64 n] w fun e w' => e = .returned (.bool b) ∧ w' = w :=
 (lIsIn_calls A c l n w hr).mono fun e w' ⟨he, hw⟩ => ⟨by rw [he, h.out], hw⟩
end Go.Proofs.YtpmfghbjkampkaaDoor

namespace Go.Proofs.YtpmfghbjkampkaaDoor
set_option linter.unusedVariables false
set_option linter.unusedSimpArgs false
open Go.RowKit Go.Shelf Bits
theorem inB_iff {x a b : Int} : inB x a b = true ↔ a ≤ x ∧ x ≤ b := inB_true
theorem roomB_facts {rm : List Int} (h : roomB rm = true) : rm.length = 3 ∧ ∀ p, p < 3 → 4 ≤ rm.getD p 0 ∧ rm.getD p 0 ≤ 8 := by
 unfold roomB allInB at h
 rw [Bool.and_eq_true, List.all_eq_true] at h
 have h3 := of_decide_eq_true h.1
 refine ⟨h3, fun p hp => ?_⟩
 have := h.2 (rm.getD p 0) (by
  rw [List.getD_eq_getElem?_getD, List.getElem?_eq_getElem (by omega)]
  exact List.getElem_mem _)
 exact inB_true.1 this
theorem putS_len (now : Int) : ∀ (l : List Nat) (st : List Int), (putS now st l).length = st.length
 | [], _ => rfl
 | i :: l, st => by
  show (putS now (st.set i now) l).length = _
  rw [putS_len now l, List.length_set]
theorem putS_get (now : Int) : ∀ (l : List Nat) (st : List Int) (j : Nat), (∀ x ∈ l, x < st.length) → (putS now st l).getD j 0 = if j ∈ l then now else st.getD j 0
 | [], st, j, _ => by simp [putS]
 | i :: l, st, j, h => by
  show (putS now (st.set i now) l).getD j 0 = _
  rw [putS_get now l _ j (fun x hx => by rw [List.length_set]; exact h x (List.mem_cons_of_mem _ hx)), getD_setI _ _ _ _ (h i List.mem_cons_self)]
  by_cases hl : j ∈ l
  ·
   rw [if_pos hl, if_pos (List.mem_cons_of_mem _ hl)]
  ·
   rw [if_neg hl]
   by_cases hi : j = i
   ·
    subst hi
    rw [if_pos rfl, if_pos List.mem_cons_self]
   ·
    rw [if_neg hi, if_neg (fun h => by
     rcases List.mem_cons.1 h with e | e
     ·
      exact hi e
     ·
      exact hl e)]
theorem admN_in (g : List Tk) (rm : List Int) (wk : Int) (c : Ct) (l : List Nat) : ∀ i ∈ (admN g rm wk c l).2, i ∈ l := by
 have := admN_sub g rm wk c l l.length (Nat.le_refl _)
 rw [List.take_length] at this
 exact this
theorem nextS_in {g : List Tk} {rm : List Int} {wk : Int} {st : List Int} {now : Int} {x : Nat} (h : x ∈ nextS g rm wk st now) : x < g.length ∧ rdB g (ints (overS g st now)) x = true ∧ st.getD x 0 = 200 := by
 have h1 := insL_mem _ _ x (admN_in g rm wk _ _ x h)
 have h2 := List.mem_filter.1 h1
 have h3 := List.mem_filter.1 h2.1
 refine ⟨List.mem_range.1 h3.1, h3.2, ?_⟩
 have := h2.2
 unfold idleB at this
 exact beq_iff_eq.1 this
theorem stepS_get {g : List Tk} {rm : List Int} {wk : Int} {st : List Int} (hl : st.length = g.length) (k j : Nat) : (stepS g rm wk st k).getD j 0 = if j ∈ nextS g rm wk st k then (k : Int) else st.getD j 0 :=
 putS_get _ _ _ _ (fun x hx => by rw [hl]; exact nextS_lt g rm wk st k x hx)
theorem planL_before (g : List Tk) (rm : List Int) (wk : Int) : ∀ k, k ≤ 200 → ∀ j, j < g.length → (planL g rm wk k).getD j 0 = 200 ∨ (0 ≤ (planL g rm wk k).getD j 0 ∧ (planL g rm wk k).getD j 0 < k)
 | 0, _, j, hj => by
  left
  unfold planL
  rw [List.getD_eq_getElem?_getD, List.getElem?_replicate, if_pos hj]
  rfl
 | k + 1, hk, j, hj => by
  have ih := planL_before g rm wk k (by omega) j hj
  show (stepS g rm wk (planL g rm wk k) k).getD j 0 = 200 ∨ _
  rw [show planL g rm wk (k + 1) = stepS g rm wk (planL g rm wk k) k from rfl, stepS_get (planL_ok g rm wk k (by omega)).1]
  split
  ·
   right; omega
  ·
   rcases ih with h | h
   ·
    exact .inl h
   ·
    right; omega
theorem overB_iff {g : List Tk} {st : List Int} {now : Int} {i : Nat} : overB g st now i = true ↔ st.getD i 0 + (rdTk g i).f0 ≤ now := by
 unfold overB
 exact decide_eq_true_iff
theorem mem_overS {g : List Tk} {st : List Int} {now : Int} {i : Nat} : i ∈ overS g st now ↔ i < g.length ∧ st.getD i 0 + (rdTk g i).f0 ≤ now := by
 unfold overS
 rw [List.mem_filter, List.mem_range, overB_iff]
theorem mem_runS {g : List Tk} {st : List Int} {now : Int} {i : Nat} : i ∈ runS g st now ↔ i < g.length ∧ st.getD i 0 ≤ now ∧ now < st.getD i 0 + (rdTk g i).f0 := by
 unfold runS runB
 rw [List.mem_filter, List.mem_range, Bool.and_eq_true, decide_eq_true_iff, decide_eq_true_iff]
structure PRel (g : List Tk) (L : List Int) (k : Nat) (p : PS) : Prop where
 len : p.st.length = g.length
 b : p.b < 2 ^ g.length
 o : p.o < 2 ^ g.length
 hb : ∀ j, j < g.length → p.b.testBit j = !idleB L j
 hs : ∀ j, j < g.length → p.st.getD j 0 = if idleB L j then 0 else L.getD j 0
 ho : ∀ j, j < g.length → p.o.testBit j = decide (L.getD j 0 + (rdTk g j).f0 ≤ (k : Int) - 1)
theorem bit_far {n x j : Nat} (h : x < 2 ^ n) (hj : n ≤ j) : x.testBit j = false := Nat.testBit_lt_two_pow (Nat.lt_of_lt_of_le h (Nat.pow_le_pow_right (by omega) hj))
theorem elems_eq {n x : Nat} (hn : n ≤ 16) (hx : x < 2 ^ n) (P : Nat → Bool) (h : ∀ j, j < n → x.testBit j = P j) : elems x = (List.range n).filter P := by
 unfold elems
 have h1 := filter_rangeR (P := x.testBit) (n := n) (fun i hi => by
  by_cases hin : i < n
  ·
   exact hin
  ·
   rw [bit_far hx (by omega)] at hi
   cases hi) (16 - n)
 rw [show n + (16 - n) = 16 by omega] at h1
 rw [h1]
 exact List.filter_congr fun i hi => h i (List.mem_range.1 hi)
theorem ovN_bit (g : List Tk) (st : List Int) (now : Int) (j : Nat) : ∀ (l : List Nat) (o : Nat), (ovN g st now o l).testBit j = (o.testBit j || (decide (j ∈ l) && decide (st.getD j 0 + (rdTk g j).f0 ≤ now)))
 | [], o => by simp [ovN]
 | i :: l, o => by
  show (ovN g st now (ovF g st now o i) l).testBit j = _
  rw [ovN_bit g st now j l]
  unfold ovF
  by_cases hij : i = j
  ·
   subst hij
   by_cases hc : st.getD i 0 + (rdTk g i).f0 ≤ now
   ·
    rw [if_pos hc, or_bit, decide_eq_true hc, decide_eq_true (rfl : i = i), decide_eq_true (List.mem_cons_self : i ∈ i :: l)]
    simp
   ·
    rw [if_neg hc, decide_eq_false hc]
    simp
  ·
   have hm : decide (j ∈ i :: l) = decide (j ∈ l) := by
    rw [decide_eq_decide, List.mem_cons]
    constructor
    ·
     rintro (e | e)
     ·
      exact absurd e.symm hij
     ·
      exact e
    ·
     exact Or.inr
   rw [hm]
   by_cases hc : st.getD i 0 + (rdTk g i).f0 ≤ now
   ·
    rw [if_pos hc, or_bit, decide_eq_false hij, Bool.or_false]
   ·
    rw [if_neg hc]
theorem putB_bit (j : Nat) : ∀ (l : List Nat) (b : Nat), (putB b l).testBit j = (b.testBit j || decide (j ∈ l))
 | [], b => by simp [putB]
 | i :: l, b => by
  show (putB (b ||| 2 ^ i) l).testBit j = _
  rw [putB_bit j l, or_bit]
  by_cases hij : i = j
  ·
   subst hij
   simp
  ·
   rw [decide_eq_false hij, Bool.or_false]
   congr 1
   rw [decide_eq_decide, List.mem_cons]
   constructor
   ·
    exact Or.inr
   ·
    rintro (e | e)
    ·
     exact absurd e.symm hij
    ·
     exact e
theorem idleB_iff {L : List Int} {j : Nat} : idleB L j = true ↔ L.getD j 0 = 200 := by
 unfold idleB
 exact beq_iff_eq
theorem plan_step {g : List Tk} {ns : List Nat} (rm : List Int) (wk : Int) (hg : graphN g = some ns) {L : List Int} {k : Nat} {p : PS} (hk : k < 200) (hL : L.length = g.length) (hB : ∀ j, j < g.length → L.getD j 0 = 200 ∨ (0 ≤ L.getD j 0 ∧ L.getD j 0 < k)) (h : PRel g L k p) : PRel g (stepS g rm wk L k) (k + 1) (stepN g ns rm wk k p) := by
 obtain ⟨st, b, o⟩ := p
 obtain ⟨h1, h2, h3, h4, h5, h6⟩ := h
 simp only [] at h1 h2 h3 h4 h5 h6
 obtain ⟨h8, hn, _⟩ := graphN_all hg
 have hok := specValid_TOk (graphN_spec hg)
 have hol : ovN g st k o (elems b) < 2 ^ g.length := ovN_lt _ h3 (fun i hi => elems_below h2 hi)
 have hob : ∀ j, j < g.length → (ovN g st k o (elems b)).testBit j = overB g L k j := fun j hj => by
  have ht := hok.2.1 j
  rw [ovN_bit, h6 j hj, show decide (j ∈ elems b) = b.testBit j by
   rw [Bool.eq_iff_iff, decide_eq_true_iff, mem_elems]
   exact ⟨fun e => e.2, fun e => ⟨by omega, e⟩⟩, h4 j hj, h5 j hj]
  unfold overB
  rcases hB j hj with e | e
  ·
   rw [idleB_iff.2 e, e, Bool.not_true, Bool.false_and, Bool.or_false, decide_eq_decide]
   omega
  ·
   have : idleB L j = false := by
    cases hi : idleB L j with
    | false => rfl
    | true => have := idleB_iff.1 hi; omega
   rw [this, Bool.not_false, Bool.true_and, if_neg (by simp), Bool.eq_iff_iff, Bool.or_eq_true, decide_eq_true_iff, decide_eq_true_iff]
   omega
 generalize hov : ovN g st k o (elems b) = ov at hol hob
 have e1 : elems (diff b ov) = runS g L k := by
  refine elems_eq (by omega) (diff_lt h2) _ (fun j hj => ?_)
  rw [diff_bit, h4 j hj, hob j hj]
  unfold runB overB
  rcases hB j hj with e | e
  ·
   rw [idleB_iff.2 e, e, Bool.not_true, Bool.false_and]
   symm
   rw [Bool.and_eq_false_iff]
   left
   exact decide_eq_false (by omega)
  ·
   have : idleB L j = false := by
    cases hi : idleB L j with
    | false => rfl
    | true => have := idleB_iff.1 hi; omega
   rw [this, Bool.not_false, Bool.true_and, decide_eq_true (show L.getD j 0 ≤ (k : Int) by omega), Bool.true_and, Bool.eq_iff_iff, Bool.not_eq_true', decide_eq_false_iff_not, decide_eq_true_iff]
   omega
 have hbit : ∀ j : Nat, ov.testBit j = decide ((j : Int) ∈ ints (overS g L k)) := fun j => by
  by_cases hj : j < g.length
  ·
   rw [hob j hj, Bool.eq_iff_iff, overB_iff, decide_eq_true_iff, mem_intsN, mem_overS]
   exact ⟨fun e => ⟨hj, e⟩, fun e => e.2⟩
  ·
   rw [bit_far hol (by omega)]
   symm
   apply decide_eq_false
   rw [mem_intsN, mem_overS]
   exact fun e => hj e.1
 have e2 : elems (diff (readyN ns ov) b) = (readyS g (ints (overS g L k))).filter (idleB L) := by
  unfold readyS
  rw [List.filter_filter]
  refine elems_eq (by omega) (diff_lt (hn ▸ readyU_lt ns ov _)) _ (fun j hj => ?_)
  rw [diff_bit, readyN_bit, hn, decide_eq_true hj, Bool.true_and, h4 j hj, Bool.not_not, Bool.and_comm]
  congr 1
  unfold isReady rdB
  rw [hbit, needs_in hg hbit hj]
 have e3 : nextN g ns rm wk b ov = nextS g rm wk L k := by
  unfold nextN nextS
  rw [e1, e2, rank_ins, tailN_eq hg]
 unfold stepN
 simp only []
 rw [hov, e3]
 have hnl := nextS_lt g rm wk L k
 have hni : ∀ j, j < g.length → idleB (stepS g rm wk L k) j = (idleB L j && !decide (j ∈ nextS g rm wk L k)) := fun j hj => by
  rw [Bool.eq_iff_iff, idleB_iff, stepS_get hL, Bool.and_eq_true, idleB_iff]
  by_cases hm : j ∈ nextS g rm wk L k
  ·
   rw [if_pos hm]
   simp [hm]
   omega
  ·
   rw [if_neg hm]
   simp [hm]
 refine ⟨by simp only []; rw [putS_len]; exact h1, putB_lt _ h2 hnl, hol, fun j hj => ?_, fun j hj => ?_, fun j hj => ?_⟩
 ·
  simp only []
  rw [putB_bit, h4 j hj, hni j hj]
  cases idleB L j <;> cases decide (j ∈ nextS g rm wk L k) <;> rfl
 ·
  simp only []
  rw [putS_get _ _ _ _ (fun x hx => by rw [h1]; exact hnl x hx), h5 j hj, hni j hj, stepS_get hL]
  by_cases hm : j ∈ nextS g rm wk L k
  ·
   simp [hm]
  ·
   simp [hm]
 ·
  simp only []
  rw [hob j hj, stepS_get hL]
  unfold overB
  have ht := hok.2.2.2.2 j hj
  rw [decide_eq_decide]
  by_cases hm : j ∈ nextS g rm wk L k
  ·
   have := (nextS_in hm).2.2
   rw [if_pos hm, this]
   omega
  ·
   rw [if_neg hm]
   omega
theorem plan_rel {g : List Tk} {ns : List Nat} (rm : List Int) (wk : Int) (hg : graphN g = some ns) : ∀ k, k ≤ 200 → PRel g (planL g rm wk k) k (planN g ns rm wk k)
 | 0, _ => by
  have hok := specValid_TOk (graphN_spec hg)
  have e : ∀ j, j < g.length → (planL g rm wk 0).getD j 0 = 200 := fun j hj => by
   unfold planL
   rw [List.getD_eq_getElem?_getD, List.getElem?_replicate, if_pos hj]
   rfl
  refine ⟨by simp [planN], Nat.two_pow_pos _, Nat.two_pow_pos _, fun j hj => ?_, fun j hj => ?_, fun j hj => ?_⟩
  ·
   rw [idleB_iff.2 (e j hj)]
   simp [planN]
  ·
   rw [idleB_iff.2 (e j hj)]
   show (List.replicate g.length (0 : Int)).getD j 0 = _
   rw [List.getD_eq_getElem?_getD, List.getElem?_replicate, if_pos hj]
   rfl
  ·
   rw [e j hj]
   have := hok.2.1 j
   show (0 : Nat).testBit j = _
   rw [Nat.zero_testBit]
   symm
   exact decide_eq_false (by omega)
 | k + 1, hk => plan_step rm wk hg (by omega) (planL_ok g rm wk k (by omega)).1 (planL_before g rm wk k (by omega)) (plan_rel rm wk hg k (by omega))
def workF (g : List Tk) (L : List Int) (k : Int) (i : Nat) : Int := if L.getD i 0 = 200 then 0 else min (rdTk g i).f0 (k - L.getD i 0)
def sumTo (f : Nat → Int) : Nat → Int
 | 0 => 0
 | n + 1 => sumTo f n + f n
theorem sumTo_le {f h : Nat → Int} : ∀ n, (∀ i, i < n → f i ≤ h i) → sumTo f n ≤ sumTo h n
 | 0, _ => Int.le_refl _
 | n + 1, hh => by
  have h1 := sumTo_le n (fun i hi => hh i (by omega))
  have h2 := hh n (by omega)
  unfold sumTo
  omega
theorem sumTo_lt {f h : Nat → Int} : ∀ n, (∀ i, i < n → f i ≤ h i) → (∃ i, i < n ∧ f i + 1 ≤ h i) → sumTo f n + 1 ≤ sumTo h n
 | 0, _, ⟨_, hi, _⟩ => by omega
 | n + 1, hh, ⟨i, hi, hc⟩ => by
  have h2 := hh n (by omega)
  unfold sumTo
  by_cases hin : i < n
  ·
   have h1 := sumTo_lt n (fun i hi => hh i (by omega)) ⟨i, hin, hc⟩
   omega
  ·
   have h1 := sumTo_le n (fun i hi => hh i (Nat.lt_succ_of_lt hi))
   obtain rfl : i = n := by omega
   omega
def timeS (g : List Tk) : Int := sumTo (fun i => (rdTk g i).f0) g.length
theorem sumTo_bound {f : Nat → Int} {a b : Int} : ∀ n, (∀ i, i < n → a ≤ f i ∧ f i ≤ b) → a * n ≤ sumTo f n ∧ sumTo f n ≤ b * n
 | 0, _ => by simp [sumTo]
 | n + 1, h => by
  have h1 := sumTo_bound n (fun i hi => h i (by omega))
  have h2 := h n (by omega)
  unfold sumTo
  rw [show ((n + 1 : Nat) : Int) = (n : Int) + 1 from by omega, Int.mul_add, Int.mul_add]
  omega
theorem timeS_bound {g : List Tk} (h : TOk g) : 0 ≤ timeS g ∧ timeS g ≤ 160 := by
 have := sumTo_bound (f := fun i => (rdTk g i).f0) (a := 0) (b := 20) g.length (fun i _ => h.2.1 i)
 have := h.1
 unfold timeS
 omega
theorem admFold_keeps (g : List Tk) (rm : List Int) (wk : Int) : ∀ (l : List Nat) (st : Ct × List Nat), ∀ x ∈ st.2, x ∈ (l.foldl (admStep g rm wk) st).2
 | [], _, x, h => h
 | i :: l, st, x, h => admFold_keeps g rm wk l (admStep g rm wk st i) x (by
  unfold admStep
  split
  ·
   exact List.mem_append_left _ h
  ·
   exact h)
theorem adm_first {g : List Tk} (hok : TOk g) {rm : List Int} (hrm : roomB rm = true) {wk : Int} (hwk : 1 ≤ wk) (x : Nat) (l : List Nat) : x ∈ (admN g rm wk (cnt g []) (x :: l)).2 := by
 have h2 := hok.2.2.1 x
 have h3 := hok.2.2.2.1 x
 have h4 := (roomB_facts hrm).2 (rdTk g x).f2.toNat (by omega)
 refine admFold_keeps g rm wk l _ x ?_
 unfold admStep
 have : (cnt g []).can (rdTk g x).f2.toNat (rdTk g x).f3 rm wk = true := by
  unfold Ct.can
  rw [Bool.and_eq_true, decide_eq_true_iff, decide_eq_true_iff]
  refine ⟨by show (([] : List Nat).length : Int) < wk; simp; omega, ?_⟩
  show usedS g [] ((rdTk g x).f2.toNat : Int) + (rdTk g x).f3 ≤ rm.getD (rdTk g x).f2.toNat 0
  rw [show usedS g [] ((rdTk g x).f2.toNat : Int) = 0 from rfl]
  omega
 rw [if_pos this]
 simp
theorem topL_len {g : List Tk} (hv : specValid g = true) : (topL g).length = g.length := by
 unfold specValid at hv
 rw [Bool.and_eq_true] at hv
 exact of_decide_eq_true hv.2
theorem some_ready {g : List Tk} (hv : specValid g = true) {D : List Nat} (hD : ∃ i, i < g.length ∧ ¬ i ∈ D) : ∃ i, i < g.length ∧ rdB g (ints D) i = true := by
 obtain ⟨i, hi, hn⟩ := hD
 have hin := top_all hv hi
 -- the first task of the order that is not done
 have key : ∀ m, m ≤ (topL g).length → (∀ p, p < m → (topL g).getD p 0 ∈ D) ∨ ∃ p, p < (topL g).length ∧ ¬ (topL g).getD p 0 ∈ D ∧ ∀ q, q < p → (topL g).getD q 0 ∈ D := by
  intro m
  induction m with
  | zero => exact fun _ => .inl fun p hp => absurd hp (Nat.not_lt_zero _)
  | succ m ih =>
   intro hm
   rcases ih (by omega) with h | h
   ·
    by_cases hc : (topL g).getD m 0 ∈ D
    ·
     left
     intro p hp
     by_cases hpm : p = m
     ·
      rw [hpm]; exact hc
     ·
      exact h p (by omega)
    ·
     exact .inr ⟨m, by omega, hc, h⟩
   ·
    exact .inr h
 rcases key _ (Nat.le_refl _) with h | ⟨p, hp, h1, h2⟩
 ·
  obtain ⟨p, hp, e⟩ := List.getElem_of_mem hin
  refine absurd ?_ hn
  have := h p hp
  rw [List.getD_eq_getElem?_getD, List.getElem?_eq_getElem hp] at this
  rw [← e]
  exact this
 ·
  have hmem : (topL g).getD p 0 ∈ topL g := by
   rw [List.getD_eq_getElem?_getD, List.getElem?_eq_getElem hp]
   exact List.getElem_mem _
  have hlt := (topN_facts g g.length).2.1 _ hmem
  refine ⟨(topL g).getD p 0, hlt, ?_⟩
  unfold rdB allDoneB
  rw [Bool.and_eq_true, Bool.not_eq_true', decide_eq_false_iff_not, mem_intsN, List.all_eq_true]
  refine ⟨h1, fun x hx => ?_⟩
  obtain ⟨ns, hg⟩ := Option.isSome_iff_exists.1 ((specValid_eq g).symm.trans hv)
  obtain ⟨hx0, _⟩ := setOfL_mem _ _ _ _ _ (by omega) ((graphN_all hg).2.2 _ hlt).2 x hx
  have hxe : x = ((x.toNat : Nat) : Int) := by omega
  rw [hxe] at hx ⊢
  have ht := topo_topN g g.length p hp x.toNat hx
  obtain ⟨q, hq, e⟩ := List.getElem_of_mem ht
  have hq2 : q < p := by simp at hq; omega
  have := h2 q hq2
  rw [List.getElem_take] at e
  rw [List.getD_eq_getElem?_getD, List.getElem?_eq_getElem (show q < (topL g).length by omega)] at this
  rw [decide_eq_true_iff, mem_intsN, ← e]
  exact this
theorem plan_moves {g : List Tk} (hv : specValid g = true) {rm : List Int} (hrm : roomB rm = true) {wk : Int} (hwk : 1 ≤ wk) {L : List Int} {k : Nat} (hk : k < 200) (hL : L.length = g.length) (hB : ∀ j, j < g.length → L.getD j 0 = 200 ∨ (0 ≤ L.getD j 0 ∧ L.getD j 0 < k)) (hn : ∃ i, i < g.length ∧ ¬ L.getD i 0 + (rdTk g i).f0 ≤ k) :
  ∃ i, i < g.length ∧ (stepS g rm wk L k).getD i 0 ≤ k ∧ (k : Int) < (stepS g rm wk L k).getD i 0 + (rdTk g i).f0 := by
 have hok := specValid_TOk hv
 by_cases hr : runS g L k = []
 ·
  obtain ⟨x, hx, hrd⟩ := some_ready hv (D := overS g L k) (by
   obtain ⟨i, hi, h⟩ := hn
   exact ⟨i, hi, fun hm => h (mem_overS.1 hm).2⟩)
  have hxi : L.getD x 0 = 200 := by
   rcases hB x hx with e | e
   ·
    exact e
   ·
    exfalso
    have hno : ¬ x ∈ overS g L k := by
     intro hm
     unfold rdB at hrd
     rw [Bool.and_eq_true, Bool.not_eq_true', decide_eq_false_iff_not, mem_intsN] at hrd
     exact hrd.1 hm
    have hm : x ∈ runS g L k := mem_runS.2 ⟨hx, by omega, by
     by_cases hc : L.getD x 0 + (rdTk g x).f0 ≤ k
     ·
      exact absurd (mem_overS.2 ⟨hx, hc⟩) hno
     ·
      omega⟩
    rw [hr] at hm
    cases hm
  have hmem : x ∈ insL (tailsS g) ((readyS g (ints (overS g L k))).filter (idleB L)) := (insL_perm _ _).mem_iff.2 (List.mem_filter.2 ⟨List.mem_filter.2 ⟨List.mem_range.2 hx, hrd⟩, idleB_iff.2 hxi⟩)
  obtain ⟨y, ys, hys⟩ := List.exists_cons_of_ne_nil (List.ne_nil_of_mem hmem)
  have hy : y ∈ nextS g rm wk L k := by
   unfold nextS
   rw [hys, hr]
   exact adm_first hok hrm hwk y ys
  have hyl := nextS_lt g rm wk L k y hy
  have ht := hok.2.2.2.2 y hyl
  refine ⟨y, hyl, ?_, ?_⟩
  ·
   rw [stepS_get hL, if_pos hy]
   omega
  ·
   rw [stepS_get hL, if_pos hy]
   omega
 ·
  obtain ⟨y, ys, hys⟩ := List.exists_cons_of_ne_nil hr
  obtain ⟨h1, h2, h3⟩ := mem_runS.1 (show y ∈ runS g L k by rw [hys]; exact List.mem_cons_self)
  have hny : ¬ y ∈ nextS g rm wk L k := fun hm => by
   have := (nextS_in hm).2.2
   omega
  exact ⟨y, h1, by rw [stepS_get hL, if_neg hny]; exact h2, by rw [stepS_get hL, if_neg hny]; exact h3⟩
theorem work_le {g : List Tk} (rm : List Int) (wk : Int) {L : List Int} {k : Nat} (hL : L.length = g.length) (hok : TOk g) (hk : k < 200) (i : Nat) (hi : i < g.length) : workF g L k i ≤ workF g (stepS g rm wk L k) (k + 1) i ∧ ((stepS g rm wk L k).getD i 0 ≤ k → (k : Int) < (stepS g rm wk L k).getD i 0 + (rdTk g i).f0 → workF g L k i + 1 ≤ workF g (stepS g rm wk L k) (k + 1) i) := by
 have ht := hok.2.2.2.2 i hi
 unfold workF
 by_cases hm : i ∈ nextS g rm wk L k
 ·
  have h1 := (nextS_in hm).2.2
  have h2 : (stepS g rm wk L k).getD i 0 = k := by rw [stepS_get hL, if_pos hm]
  rw [h2, if_pos h1, if_neg (by omega)]
  omega
 ·
  have h2 : (stepS g rm wk L k).getD i 0 = L.getD i 0 := by rw [stepS_get hL, if_neg hm]
  rw [h2]
  by_cases hc : L.getD i 0 = 200
  ·
   rw [if_pos hc, if_pos hc, hc]
   omega
  ·
   rw [if_neg hc, if_neg hc]
   omega
theorem plan_work {g : List Tk} (hv : specValid g = true) {rm : List Int} (hrm : roomB rm = true) {wk : Int} (hwk : 1 ≤ wk) : ∀ m, m ≤ 200 → (∀ k, k < m → ∃ i, i < g.length ∧ ¬ (planL g rm wk k).getD i 0 + (rdTk g i).f0 ≤ k) → (m : Int) ≤ sumTo (workF g (planL g rm wk m) m) g.length
 | 0, _, _ => by
  have := sumTo_bound (f := workF g (planL g rm wk 0) (0 : Nat)) (a := 0) (b := 0) g.length (fun i hi => by
   unfold workF
   rw [if_pos (by
    unfold planL
    rw [List.getD_eq_getElem?_getD, List.getElem?_replicate, if_pos hi]
    rfl)]
   omega)
  omega
 | m + 1, hm, h => by
  have ih := plan_work hv hrm hwk m (by omega) (fun k hk => h k (by omega))
  have hL := (planL_ok g rm wk m (by omega)).1
  have hok := specValid_TOk hv
  obtain ⟨i, hi, h1, h2⟩ := plan_moves hv hrm hwk (by omega) hL (planL_before g rm wk m (by omega)) (h m (by omega))
  have := sumTo_lt (f := workF g (planL g rm wk m) m) (h := workF g (planL g rm wk (m + 1)) (m + 1 : Nat)) g.length (fun j hj => (work_le rm wk hL hok (by omega) j hj).1) ⟨i, hi, (work_le rm wk hL hok (by omega) i hi).2 h1 h2⟩
  omega
theorem plan_ends {g : List Tk} (hv : specValid g = true) {rm : List Int} (hrm : roomB rm = true) {wk : Int} (hwk : 1 ≤ wk) : ∃ k : Nat, (k : Int) ≤ timeS g ∧ ∀ i, i < g.length → (planL g rm wk k).getD i 0 + (rdTk g i).f0 ≤ k := by
 have hok := specValid_TOk hv
 have hT := timeS_bound hok
 by_cases hc : ∃ k : Nat, (k : Int) ≤ timeS g ∧ ∀ i, i < g.length → (planL g rm wk k).getD i 0 + (rdTk g i).f0 ≤ k
 ·
  exact hc
 ·
  exfalso
  have h1 := plan_work hv hrm hwk ((timeS g).toNat + 1) (by omega) (fun k hk => by
   by_cases he : ∃ i, i < g.length ∧ ¬ (planL g rm wk k).getD i 0 + (rdTk g i).f0 ≤ k
   ·
    exact he
   ·
    exfalso
    refine hc ⟨k, by omega, fun i hi => ?_⟩
    by_cases hx : (planL g rm wk k).getD i 0 + (rdTk g i).f0 ≤ k
    ·
     exact hx
    ·
     exact absurd ⟨i, hi, hx⟩ he)
  have h2 : sumTo (workF g (planL g rm wk ((timeS g).toNat + 1)) ((timeS g).toNat + 1 : Nat)) g.length ≤ timeS g := sumTo_le _ (fun i _ => by
   unfold workF
   have := hok.2.1 i
   split <;> omega)
  omega
theorem plan_stands {g : List Tk} {rm : List Int} {wk : Int} {k : Nat} (h : ∀ i, i < g.length → (planL g rm wk k).getD i 0 ≠ 200) : ∀ d, planL g rm wk (k + d) = planL g rm wk k
 | 0 => rfl
 | d + 1 => by
  show stepS g rm wk (planL g rm wk (k + d)) _ = _
  rw [plan_stands h d]
  unfold stepS
  cases hn : nextS g rm wk (planL g rm wk k) (k + d : Nat) with
  | nil => rfl
  | cons x xs =>
   have hx : x ∈ nextS g rm wk (planL g rm wk k) (k + d : Nat) := by rw [hn]; exact List.mem_cons_self
   exact absurd (nextS_in hx).2.2 (h x (nextS_in hx).1)
theorem least_of {P : Nat → Prop} [DecidablePred P] : ∀ n, P n → ∃ k, k ≤ n ∧ P k ∧ ∀ j, j < k → ¬ P j
 | 0, h => ⟨0, Nat.le_refl _, h, fun j hj => absurd hj (Nat.not_lt_zero _)⟩
 | n + 1, h => by
  by_cases hc : ∃ m, m ≤ n ∧ P m
  ·
   obtain ⟨m, hm, hp⟩ := hc
   obtain ⟨k, h1, h2, h3⟩ := least_of m hp
   exact ⟨k, by omega, h2, h3⟩
  ·
   exact ⟨n + 1, Nat.le_refl _, h, fun j hj hp => hc ⟨j, by omega, hp⟩⟩
theorem all_bits {n x : Nat} (hx : x < 2 ^ n) (h : ∀ j, j < n → x.testBit j = true) : x = 2 ^ n - 1 := by
 apply Nat.eq_of_testBit_eq
 intro i
 rw [Nat.testBit_two_pow_sub_one]
 by_cases hi : i < n
 ·
  rw [h i hi, decide_eq_true hi]
 ·
  rw [bit_far hx (by omega), decide_eq_false hi]
theorem plan_eq {g : List Tk} {ns : List Nat} {rm : List Int} {wk : Int} (hg : graphN g = some ns) (hrm : roomB rm = true) (hwk : 1 ≤ wk) :
  ∃ K, K ≤ 200 ∧ (planN g ns rm wk K).o = 2 ^ g.length - 1 ∧ (∀ k, k < K → (planN g ns rm wk k).o ≠ 2 ^ g.length - 1) ∧ (planN g ns rm wk K).st = planS g rm wk := by
 have hv := graphN_spec hg
 have hok := specValid_TOk hv
 have hT := timeS_bound hok
 obtain ⟨k, hk, he⟩ := plan_ends hv hrm hwk
 have hn200 : ∀ i, i < g.length → (planL g rm wk k).getD i 0 ≠ 200 := fun i hi e => by
  have := he i hi
  have := hok.2.1 i
  omega
 have hall : (planN g ns rm wk (k + 1)).o = 2 ^ g.length - 1 := by
  have hr := plan_rel rm wk hg (k + 1) (by omega)
  refine all_bits hr.o (fun j hj => ?_)
  rw [hr.ho j hj, plan_stands hn200 1]
  have := he j hj
  exact decide_eq_true (by omega)
 obtain ⟨K, h1, h2, h3⟩ := least_of (P := fun k => (planN g ns rm wk k).o = 2 ^ g.length - 1) (k + 1) hall
 refine ⟨K, by omega, h2, h3, ?_⟩
 have hr := plan_rel rm wk hg K (by omega)
 have hK : ∀ i, i < g.length → (planL g rm wk K).getD i 0 ≠ 200 := fun i hi e => by
  have h4 := hr.ho i hi
  rw [h2, Nat.testBit_two_pow_sub_one, decide_eq_true hi, e] at h4
  have h5 := of_decide_eq_true h4.symm
  have := hok.2.1 i
  omega
 have e : planS g rm wk = planL g rm wk K := by
  have := plan_stands hK (200 - K)
  rw [show K + (200 - K) = 200 by omega] at this
  exact this
 rw [e]
 refine list_ext0 (by rw [hr.len, (planL_ok g rm wk K (by omega)).1]) (fun j hj => ?_)
 rw [hr.len] at hj
 rw [hr.hs j hj, if_neg (fun hi => hK j hj (idleB_iff.1 hi))]
theorem planS_ends {g : List Tk} (hv : specValid g = true) {rm : List Int} (hrm : roomB rm = true) {wk : Int} (hwk : 1 ≤ wk) : ∀ i, i < g.length → (planS g rm wk).getD i 0 + (rdTk g i).f0 ≤ timeS g := by
 have hok := specValid_TOk hv
 have hT := timeS_bound hok
 obtain ⟨k, hk, he⟩ := plan_ends hv hrm hwk
 have hn200 : ∀ i, i < g.length → (planL g rm wk k).getD i 0 ≠ 200 := fun i hi e => by
  have := he i hi
  have := hok.2.1 i
  omega
 intro i hi
 have := plan_stands hn200 (200 - k)
 rw [show k + (200 - k) = 200 by omega] at this
 unfold planS
 rw [this]
 have := he i hi
 omega
end Go.Proofs.YtpmfghbjkampkaaDoor
