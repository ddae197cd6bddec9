/- Parts of the proof, laid as one text by a program of mine. -/
import Derived.Test.YtkljcdghbefceaaGreatDoorKbtc6
import Derived.StillTailTactics
import Derived.Test.YtkljcdghbefceaaGreatDoorKbtc2
namespace Go.Proofs.YtkljcdghbefceaaGreatDoor
set_option linter.unusedVariables false
set_option linter.unusedSimpArgs false
open Go.RowKit Go.Shelf Bits
theorem graphN_spec {g : List Tk} {ns : List Nat} (h : graphN g = some ns) : specValid g = true := by rw [specValid_eq, h]; rfl
theorem topL_eq {g : List Tk} {ns : List Nat} (h : graphN g = some ns) : topL g = (ordN ns ns.length).1 := by
 obtain ⟨h8, hn, hs⟩ := graphN_all h
 have := (ord_top hn (fun i hi => (hs i hi).2) g.length).1
 unfold topL
 rw [this, hn]
theorem need_bit {g : List Tk} {ns : List Nat} (h : graphN g = some ns) {i : Nat} (hi : i < g.length) (k : Nat) : (ns.getD i 0).testBit k = decide ((k : Int) ∈ (rdTk g i).f1) :=
 setOfN_bits ((graphN_all h).2.2 i hi).2 k
def Topo (g : List Tk) (l : List Nat) : Prop := ∀ p, p < l.length → ∀ k : Nat, (k : Int) ∈ (rdTk g (l.getD p 0)).f1 → k ∈ l.take p
theorem topo_topN (g : List Tk) : ∀ n, Topo g (topN g n)
 | 0 => fun p hp => absurd hp (Nat.not_lt_zero _)
 | n + 1 => by
  have ih := topo_topN g n
  show Topo g (topStep g (topN g n))
  unfold topStep
  cases hf : topFirst g (topN g n) with
  | none => exact ih
  | some i =>
   obtain ⟨hi, _, hr⟩ := topFirst_spec hf
   generalize topN g n = l at ih hr
   have key : Topo g (l ++ [i]) := by
    intro p hp k hk
    have hp' := hp
    simp at hp'
    by_cases hpl : p < l.length
    ·
     have e : (l ++ [i]).getD p 0 = l.getD p 0 := by
      rw [List.getD_eq_getElem?_getD, List.getD_eq_getElem?_getD, List.getElem?_append_left hpl]
     rw [e] at hk
     rw [List.take_append_of_le_length (by omega)]
     exact ih p hpl k hk
    ·
     obtain rfl : p = l.length := by omega
     have e : (l ++ [i]).getD l.length 0 = i := by rw [List.getD_eq_getElem?_getD]; simp
     rw [e] at hk
     unfold specReady at hr
     rw [Bool.and_eq_true] at hr
     unfold allDoneB at hr
     have := List.all_eq_true.1 hr.2 _ hk
     rw [List.take_left]
     exact mem_intsN.1 (of_decide_eq_true this)
   exact key
theorem top_all {g : List Tk} (hv : specValid g = true) {j : Nat} (hj : j < g.length) : j ∈ topL g := by
 obtain ⟨h1, h2, h3⟩ := topN_facts g g.length
 have hl : (topL g).length = g.length := by
  unfold specValid at hv
  rw [Bool.and_eq_true] at hv
  exact of_decide_eq_true hv.2
 by_cases hm : j ∈ topL g
 ·
  exact hm
 ·
  have := nodup_below (n := g.length) (l := j :: topL g) (List.nodup_cons.2 ⟨hm, h1⟩) (fun i hi => by
   rcases List.mem_cons.1 hi with rfl | hi
   ·
    exact hj
   ·
    exact h2 i hi)
  rw [List.length_cons] at this
  omega
theorem getD_setI (o : List Int) (a j : Nat) (v : Int) (ha : a < o.length) : (o.set a v).getD j 0 = if j = a then v else o.getD j 0 := by
 rw [List.getD_eq_getElem?_getD, List.getD_eq_getElem?_getD, List.getElem?_set]
 by_cases h : a = j
 ·
  subst h
  simp [ha]
 ·
  rw [if_neg h, if_neg (fun e => h e.symm)]
theorem mostS_nonneg (g : List Tk) (o : List Int) (i : Nat) : ∀ k, 0 ≤ mostS g o i k
 | 0 => Int.le_refl _
 | k + 1 => by
  have ih := mostS_nonneg g o i k
  unfold mostS
  split <;> omega
theorem mostS_set {g : List Tk} {o : List Int} {a : Nat} {v : Int} (ha : a < o.length) (h0 : o.getD a 0 = 0) (hv : 0 ≤ v) (j : Nat) :
  ∀ k, mostS g (o.set a v) j k = if a < k ∧ ((j : Int) ∈ (rdTk g a).f1) then max (mostS g o j k) v else mostS g o j k
 | 0 => by simp [mostS]
 | k + 1 => by
  have ih := mostS_set (g := g) ha h0 hv j k
  have hn := mostS_nonneg g o j k
  have e : mostS g (o.set a v) j (k + 1) = if decide ((j : Int) ∈ (rdTk g k).f1) then max (mostS g (o.set a v) j k) ((o.set a v).getD k 0) else mostS g (o.set a v) j k := rfl
  have e2 : mostS g o j (k + 1) = if decide ((j : Int) ∈ (rdTk g k).f1) then max (mostS g o j k) (o.getD k 0) else mostS g o j k := rfl
  rw [e, e2, ih, getD_setI _ _ _ _ ha]
  generalize mostS g o j k = M at hn ⊢
  by_cases hm : (j : Int) ∈ (rdTk g k).f1
  ·
   rw [if_pos (show decide ((j : Int) ∈ (rdTk g k).f1) = true from decide_eq_true hm), if_pos (show decide ((j : Int) ∈ (rdTk g k).f1) = true from decide_eq_true hm)]
   by_cases hk : k = a
   ·
    subst hk
    rw [if_neg (show ¬ (k < k ∧ ((j : Int) ∈ (rdTk g k).f1)) from fun h => by omega), if_pos (rfl : k = k), h0, if_pos (show k < k + 1 ∧ ((j : Int) ∈ (rdTk g k).f1) from ⟨by omega, hm⟩)]
    omega
   ·
    rw [if_neg hk]
    by_cases hc : a < k ∧ ((j : Int) ∈ (rdTk g a).f1)
    ·
     rw [if_pos hc, if_pos (show a < k + 1 ∧ ((j : Int) ∈ (rdTk g a).f1) from ⟨by omega, hc.2⟩)]
     omega
    ·
     rw [if_neg hc, if_neg (show ¬ (a < k + 1 ∧ ((j : Int) ∈ (rdTk g a).f1)) from fun h => hc ⟨by omega, h.2⟩)]
  ·
   rw [if_neg (show ¬ (decide ((j : Int) ∈ (rdTk g k).f1) = true) by simp [hm]), if_neg (show ¬ (decide ((j : Int) ∈ (rdTk g k).f1) = true) by simp [hm])]
   by_cases hk : k = a
   ·
    subst hk
    rw [if_neg (show ¬ (k < k ∧ ((j : Int) ∈ (rdTk g k).f1)) from fun h => by omega), if_neg (show ¬ (k < k + 1 ∧ ((j : Int) ∈ (rdTk g k).f1)) from fun h => hm h.2)]
   ·
    by_cases hc : a < k ∧ ((j : Int) ∈ (rdTk g a).f1)
    ·
     rw [if_pos hc, if_pos (show a < k + 1 ∧ ((j : Int) ∈ (rdTk g a).f1) from ⟨by omega, hc.2⟩)]
    ·
     rw [if_neg hc, if_neg (show ¬ (a < k + 1 ∧ ((j : Int) ∈ (rdTk g a).f1)) from fun h => hc ⟨by omega, h.2⟩)]
theorem pushes_get {i : Nat} : ∀ (l : List Nat) (o : List Int), i < o.length → (∀ k ∈ l, k < o.length ∧ k ≠ i) → ∀ j, (l.foldl (tailPush i) o).getD j 0 = if j ∈ l then max (o.getD j 0) (o.getD i 0) else o.getD j 0
 | [], o, _, _, j => by simp
 | k :: l, o, hi, h, j => by
  have hk := h k (List.mem_cons_self ..)
  rw [List.foldl_cons, pushes_get l (tailPush i o k) (by unfold tailPush; rw [List.length_set]; exact hi) (fun q hq => by unfold tailPush; rw [List.length_set]; exact h q (List.mem_cons_of_mem _ hq)) j]
  unfold tailPush
  rw [getD_setI _ _ _ _ hk.1, getD_setI _ _ _ _ hk.1]
  rw [if_neg (show ¬ (i = k) from fun e => hk.2 e.symm)]
  by_cases hjk : j = k
  ·
   subst hjk
   rw [if_pos (rfl : j = j), if_pos (show j ∈ j :: l from List.mem_cons_self ..)]
   split <;> omega
  ·
   rw [if_neg hjk]
   by_cases hjl : j ∈ l
   ·
    rw [if_pos hjl, if_pos (show j ∈ k :: l from List.mem_cons_of_mem _ hjl)]
   ·
    rw [if_neg hjl, if_neg (show ¬ (j ∈ k :: l) from fun h => by
     rcases List.mem_cons.1 h with e | e
     ·
      exact hjk e
     ·
      exact hjl e)]
theorem pushes_len {i : Nat} : ∀ (l : List Nat) (o : List Int), (l.foldl (tailPush i) o).length = o.length
 | [], _ => rfl
 | k :: l, o => by
  rw [List.foldl_cons, pushes_len l]
  unfold tailPush
  rw [List.length_set]
theorem tails_law {g : List Tk} {ns : List Nat} (hg : graphN g = some ns) : ∀ m, m ≤ (topL g).length →
  (∀ j ∈ (topL g).drop ((topL g).length - m), (tailsL g ns (topL g) (backL (topL g).length m)).getD j 0 = (tailsSL g (backL (topL g).length m)).getD j 0) ∧
  (∀ j, j < g.length → ¬ j ∈ (topL g).drop ((topL g).length - m) → (tailsSL g (backL (topL g).length m)).getD j 0 = 0 ∧ (tailsL g ns (topL g) (backL (topL g).length m)).getD j 0 = mostS g (tailsSL g (backL (topL g).length m)) j g.length)
 | 0, _ => by
  have h0 : ∀ j, (List.replicate g.length (0 : Int)).getD j 0 = 0 := fun j => by
   rw [List.getD_eq_getElem?_getD, List.getElem?_replicate]
   split <;> simp
  have hm : ∀ j k, mostS g (List.replicate g.length 0) j k = 0 := fun j k => by
   induction k with
   | zero => rfl
   | succ k ih =>
    unfold mostS
    rw [ih, h0]
    split <;> rfl
  refine ⟨fun j hj => by simp at hj, fun j hj _ => ?_⟩
  show (List.replicate g.length (0 : Int)).getD j 0 = 0 ∧ (List.replicate g.length (0 : Int)).getD j 0 = mostS g (List.replicate g.length 0) j g.length
  exact ⟨h0 j, by rw [h0, hm]⟩
 | m + 1, hm => by
  obtain ⟨ih1, ih2⟩ := tails_law hg m (by omega)
  have hv := graphN_spec hg
  obtain ⟨hnd, hlt, _⟩ := topN_facts g g.length
  have htm := graphN_time hg
  have hTS := (tailsSL_span (g := g) htm (backL (topL g).length m))
  have hTI := (tails_span (g := g) (ns := ns) (ord := topL g) htm (backL (topL g).length m))
  rw [backL_succ, tailsL_snoc, tailsSL_snoc]
  obtain ⟨p, hp⟩ : ∃ p, p = (topL g).length - 1 - m := ⟨_, rfl⟩
  rw [← hp]
  have hpl : p < (topL g).length := by omega
  have hdr : (topL g).drop ((topL g).length - (m + 1)) = (topL g).getD p 0 :: (topL g).drop ((topL g).length - m) := by
   rw [show (topL g).length - (m + 1) = p by omega, show (topL g).length - m = p + 1 by omega, List.drop_eq_getElem_cons hpl, List.getD_eq_getElem?_getD, List.getElem?_eq_getElem hpl]
   rfl
  have hat : (topL g).getD p 0 < g.length := hlt _ (by
   show _ ∈ topL g
   rw [List.getD_eq_getElem?_getD, List.getElem?_eq_getElem hpl]
   exact List.getElem_mem _)
  have htopo := topo_topN g g.length p hpl
  have hsplit : topL g = (topL g).take p ++ (topL g).getD p 0 :: (topL g).drop ((topL g).length - m) := by
   rw [← hdr, show (topL g).length - (m + 1) = p by omega, List.take_append_drop]
  have hnd2 : ((topL g).take p ++ (topL g).getD p 0 :: (topL g).drop ((topL g).length - m)).Nodup := by rw [← hsplit]; exact hnd
  obtain ⟨_, hn2, hn3⟩ := List.nodup_append.1 hnd2
  obtain ⟨hna, _⟩ := List.nodup_cons.1 hn2
  rw [hdr]
  change ∀ k : Nat, (k : Int) ∈ (rdTk g ((topL g).getD p 0)).f1 → k ∈ (topL g).take p at htopo
  generalize (topL g).getD p 0 = a at hat htopo hn3 hna
  generalize (topL g).drop ((topL g).length - m) = D at ih1 ih2 hn3 hna
  generalize tailsSL g (backL (topL g).length m) = oS at ih1 ih2 hTS
  generalize tailsL g ns (topL g) (backL (topL g).length m) = oI at ih1 ih2 hTI
  have hlS := hTS.1
  have hlI := hTI.1
  obtain ⟨ha0, haI⟩ := ih2 a hat hna
  have hmn := mostS_nonneg g oS a g.length
  have htma := htm a
  unfold sStep tailStep
  rw [haI]
  obtain ⟨v, hvv⟩ : ∃ v, v = mostS g oS a g.length + (rdTk g a).f0 := ⟨_, rfl⟩
  rw [← hvv]
  have hv0 : 0 ≤ v := by omega
  have hel : ∀ k ∈ elems (ns.getD a 0), k < g.length ∧ k ≠ a ∧ ¬ k ∈ D ∧ (k : Int) ∈ (rdTk g a).f1 := fun k hk => by
   have hb := elems_bit hk
   rw [need_bit hg hat] at hb
   have hkm := of_decide_eq_true hb
   have hkt := htopo k hkm
   refine ⟨hlt k (List.mem_of_mem_take hkt), fun e => hn3 k hkt a (List.mem_cons_self ..) e, fun hD => hn3 k hkt k (List.mem_cons_of_mem _ hD) rfl, hkm⟩
  have hpg := pushes_get (i := a) (elems (ns.getD a 0)) (oI.set a v) (by rw [List.length_set]; omega) (fun k hk => by rw [List.length_set]; exact ⟨by have := (hel k hk).1; omega, (hel k hk).2.1⟩)
  have hms : ∀ j, mostS g (oS.set a v) j g.length = if a < g.length ∧ ((j : Int) ∈ (rdTk g a).f1) then max (mostS g oS j g.length) v else mostS g oS j g.length := fun j => mostS_set (by omega) ha0 hv0 j g.length
  refine ⟨fun j hj => ?_, fun j hj hjD => ?_⟩
  ·
   rw [hpg, getD_setI _ _ _ _ (by omega), getD_setI _ _ _ _ (by omega), getD_setI _ _ _ _ (by omega), if_pos rfl]
   have hje : ¬ j ∈ elems (ns.getD a 0) := fun he => by
    rcases List.mem_cons.1 hj with e | e
    ·
     exact (hel j he).2.1 e
    ·
     exact (hel j he).2.2.1 e
   rw [if_neg hje]
   by_cases hja : j = a
   ·
    rw [if_pos hja, if_pos hja]
   ·
    rw [if_neg hja, if_neg hja]
    rcases List.mem_cons.1 hj with e | e
    ·
     exact absurd e hja
    ·
     exact ih1 j e
  ·
   have hja : j ≠ a := fun e => hjD (by rw [e]; exact List.mem_cons_self ..)
   have hjD' : ¬ j ∈ D := fun e => hjD (List.mem_cons_of_mem _ e)
   obtain ⟨q0, qI⟩ := ih2 j hj hjD'
   rw [hpg, hms, getD_setI _ _ _ _ (by omega), getD_setI _ _ _ _ (by omega), getD_setI _ _ _ _ (by omega), if_pos rfl, if_neg hja, if_neg hja, qI]
   refine ⟨q0, ?_⟩
   by_cases hje : j ∈ elems (ns.getD a 0)
   ·
    rw [if_pos hje, if_pos ⟨hat, (hel j hje).2.2.2⟩]
   ·
    have hnm : ¬ (j : Int) ∈ (rdTk g a).f1 := fun hm' => hje (mem_elems.2 ⟨by have := (graphN_all hg).1; omega, by rw [need_bit hg hat]; exact decide_eq_true hm'⟩)
    rw [if_neg hje, if_neg (fun h => hnm h.2)]
theorem tailN_eq {g : List Tk} {ns : List Nat} (hg : graphN g = some ns) : tailN g ns = tailsS g := by
 have hv := graphN_spec hg
 have htm := graphN_time hg
 have h := (tails_law hg (topL g).length (Nat.le_refl _)).1
 rw [Nat.sub_self, List.drop_zero] at h
 unfold tailN tailsS
 rw [← topL_eq hg]
 apply List.ext_getElem
 ·
  rw [(tails_span (g := g) (ns := ns) (ord := topL g) htm _).1, (tailsSL_span (g := g) htm _).1]
 ·
  intro j h1 h2
  have hj : j < g.length := by rw [(tails_span (g := g) (ns := ns) (ord := topL g) htm _).1] at h1; exact h1
  have := h j (top_all hv hj)
  rw [List.getD_eq_getElem?_getD, List.getD_eq_getElem?_getD, List.getElem?_eq_getElem h1, List.getElem?_eq_getElem h2] at this
  exact this
end Go.Proofs.YtkljcdghbefceaaGreatDoor

namespace Go.Proofs.YtkljcdghbefceaaGreatDoor
set_option linter.unusedVariables false
set_option linter.unusedSimpArgs false
open Go.RowKit Go.Shelf Bits
open Go.Proofs.YtkljcdghbefceaaGreatDoorW.PrintWords Go.Proofs.YtkljcdghbefceaaGreatDoorW.PrintLast Go.Proofs.YtkljcdghbefceaaGreatDoorW.PrintMore
attribute [local go_sem] Oper.semAt_some
def bF (g : List Tk) (st : List Int) (l : List Nat) : Int := l.foldl (fun m k => max m (st.getD k 0 + (rdTk g k).f0)) 0
theorem bF_snoc (g : List Tk) (st : List Int) (l : List Nat) (k : Nat) : bF g st (l ++ [k]) = max (bF g st l) (st.getD k 0 + (rdTk g k).f0) := by
 unfold bF
 rw [List.foldl_append]
 rfl
theorem bF_from {g : List Tk} {st : List Int} : ∀ (l : List Nat) (m : Int), m ≤ l.foldl (fun m k => max m (st.getD k 0 + (rdTk g k).f0)) m ∧ (∀ k ∈ l, st.getD k 0 + (rdTk g k).f0 ≤ l.foldl (fun m k => max m (st.getD k 0 + (rdTk g k).f0)) m) ∧ ∀ B, m ≤ B → (∀ k ∈ l, st.getD k 0 + (rdTk g k).f0 ≤ B) → l.foldl (fun m k => max m (st.getD k 0 + (rdTk g k).f0)) m ≤ B
 | [], m => ⟨Int.le_refl _, fun k h => absurd h (by simp), fun B h _ => h⟩
 | k :: l, m => by
  obtain ⟨h1, h2, h3⟩ := bF_from (g := g) (st := st) l (max m (st.getD k 0 + (rdTk g k).f0))
  rw [List.foldl_cons]
  refine ⟨by omega, fun q hq => ?_, fun B hB hl => h3 B ?_ (fun q hq => hl q (List.mem_cons_of_mem _ hq))⟩
  ·
   rcases List.mem_cons.1 hq with rfl | hq
   ·
    omega
   ·
    exact h2 q hq
  ·
   have := hl k List.mem_cons_self
   omega
theorem bF_bound {g : List Tk} {st : List Int} (hok : TOk g) (hso : SOk st) (l : List Nat) : 0 ≤ bF g st l ∧ bF g st l ≤ 1020 := by
 obtain ⟨h1, _, h3⟩ := bF_from (g := g) (st := st) l 0
 exact ⟨h1, h3 1020 (by omega) (fun k _ => by have := hso k; have := hok.2.1 k; omega)⟩
def canT (g : List Tk) (rm : List Int) (wk : Int) (p : Nat) (st : List Int) (i : Nat) (t : Int) : Bool := (cnt g ((elems p).filter (runB g st t))).can (rdTk g i).f2.toNat (rdTk g i).f3 rm wk
def fitI (g : List Tk) (rm : List Int) (wk : Int) (p : Nat) (st : List Int) (i : Nat) (m : Nat) : Bool := (List.range (rdTk g i).f0.toNat).all fun d => canT g rm wk p st i ((m + d : Nat) : Int)
theorem fitI_yes {g : List Tk} {rm : List Int} {wk : Int} {p : Nat} {st : List Int} {i m T : Nat} (hT : (rdTk g i).f0 = (T : Int)) (h : ∀ e, e < T → canT g rm wk p st i ((m + e : Nat) : Int) = true) : fitI g rm wk p st i m = true := by
 unfold fitI
 rw [hT, Int.toNat_natCast, List.all_eq_true]
 exact fun e he => h e (List.mem_range.1 he)
theorem fitI_no {g : List Tk} {rm : List Int} {wk : Int} {p : Nat} {st : List Int} {i m T e : Nat} (hT : (rdTk g i).f0 = (T : Int)) (he : e < T) (h : canT g rm wk p st i ((m + e : Nat) : Int) = false) : fitI g rm wk p st i m = false := by
 unfold fitI
 rw [hT, Int.toNat_natCast]
 apply Bool.eq_false_iff.2
 intro ha
 have := List.all_eq_true.1 ha e (List.mem_range.2 he)
 rw [h] at this
 cases this
structure EH (w : World) (C h : Nat) (Av : Value) (a : Int) (W : World) : Prop where
 g : Boxed W h 36 (.pointer (some ⟨C, 0, none⟩))
 s : Boxed W (h + 1) 24 Av
 a : Boxed W (h + 2) 3 (.int .i64 a)
 hB : Below h w W
theorem boxed_low {W W' : World} {B : Nat} {t : TypeId} {v : Value} (h : Boxed W B t v) (hb : Below W.heap.size W W') : Boxed W' B t v := (hb.block B h.lt).trans h
theorem EH.below {w W W' : World} {C h : Nat} {Av : Value} {a : Int} (q : EH w C h Av a W) (hb : Below W.heap.size W W') : EH w C h Av a W' :=
 ⟨boxed_low q.g hb, boxed_low q.s hb, boxed_low q.a hb, q.hB.trans (hb.mono (by have := q.g.lt; omega))⟩
theorem EH.setA {w W : World} {C h : Nat} {Av : Value} {a : Int} (q : EH w C h Av a W) (x : Int) : EH w C h Av x (W.setCell ⟨h + 2, 0, none⟩ (.int .i64 x)) :=
 ⟨blk_far q.g (by show h ≠ h + 2; omega) _, blk_far q.s (by show h + 1 ≠ h + 2; omega) _, q.a.set _, q.hB.setCell (p := ⟨h + 2, 0, none⟩) (by show h ≤ h + 2; omega) _⟩
theorem EH.far {w W : World} {C h b : Nat} {Av : Value} {a : Int} (q : EH w C h Av a W) (hb : h + 2 < b) (k : Nat) (x : Value) : EH w C h Av a (W.setCell ⟨b, k, none⟩ x) :=
 ⟨blk_far q.g (by show h ≠ b; omega) _, blk_far q.s (by show h + 1 ≠ b; omega) _, blk_far q.a (by show h + 2 ≠ b; omega) _, q.hB.setCell (p := ⟨b, k, none⟩) (by show h ≤ b; omega) _⟩
theorem EH.keep {w W W' : World} {C h b : Nat} {Av : Value} {a : Int} (q : EH w C h Av a W) (hk : KeepBut W W' b none) (hb : Below b W W') (hlt : h + 2 < b) : EH w C h Av a W' :=
 ⟨hk.blk q.g (by omega) (by simp), hk.blk q.s (by omega) (by simp), hk.blk q.a (by omega) (by simp), q.hB.trans (hb.mono (by omega))⟩
theorem EH.own {β : Type} {B0 C h : Nat} {w : World} {Av : Value} (a : β → Int) (hh : h + 2 < B0) (hw : h ≤ w.heap.size) : OwnFrom B0 (fun s W => EH w C h Av (a s) W) := by
 intro s W W' row q hg hr
 have key : ∀ k, k < B0 → k < W.heap.size → W'.heap[k]? = W.heap[k]? := fun k hk hl => hg.block k hl (fun e => by have := (hr k e.symm).1; omega)
 exact ⟨(key h (by omega) q.g.lt).trans q.g, (key (h + 1) (by omega) q.s.lt).trans q.s, (key (h + 2) (by omega) q.a.lt).trans q.a,
  q.hB.trans ⟨hg.os, hg.tape, hg.output, hg.size, fun k hk => key k (by omega) (by have := q.g.lt; omega)⟩⟩
theorem kept_cell2 {w w' : World} {b : Nat} (h : KeepBut w w' b none) {a : Addr} {v : Value} (hc : w.cell? a = some v) (hn : a.block ≠ b) : w'.cell? a = some v := by
 refine (World.cell?_of_block (h.2 a.block ?_ hn (by simp))).trans hc
 apply Classical.byContradiction
 intro hn
 unfold World.cell? at hc
 rw [Array.getElem?_eq_none (by omega)] at hc
 cases hc
theorem Marks.keepB {Ds : List Nat} {w w' : World} {b : Nat} {o : Obj} (h : Marks Ds w) (hk : KeepBut w w' b none) (hb : w.heap[b]? = some o) (ho : o.isCells = true) : Marks Ds w' :=
 ⟨h.1, fun D hD => (hk.2 D (h.lt D hD) (fun e => by
  have := h.2 D hD
  rw [e, hb] at this
  cases this
  cases ho) (by simp)).trans (h.2 D hD)⟩
def atBox (v : Value) (W : World) : Nat := match v with
 | .pointer (some p) => (match W.cell? p with | some v => (intOf v).toNat | none => 0)
 | _ => 0
theorem atBox_eq {W : World} {N k : Nat} (h : Boxed W N 3 (.int .i64 (k : Int))) : atBox (.pointer (some ⟨N, 0, none⟩)) W = k := by
 unfold atBox
 simp only [h.cell]
 simp [intOf]
theorem eh_init (w : World) (C : Nat) (Av : Value) : EH w C w.heap.size Av 0 (((w.alloc (.cells #[.pointer (some ⟨C, 0, none⟩)] 36)).alloc (.cells #[Av] 24)).alloc (.cells #[.int .i64 0] 3)) := by
 have z : ∀ (W : World) (o : Obj), (W.alloc o).heap.size = W.heap.size + 1 := fun W o => World.size_alloc W o
 refine ⟨((Boxed.new w 36 _).alloc _).alloc _, ?_, ?_, (((Below.refl _ w).alloc (Nat.le_refl _) _).alloc (by simp) _).alloc (by simp; omega) _⟩
 ·
  have h1 := Boxed.new (w.alloc (.cells #[.pointer (some ⟨C, 0, none⟩)] 36)) 24 Av
  rw [z] at h1
  exact h1.alloc _
 ·
  have h1 := Boxed.new ((w.alloc (.cells #[.pointer (some ⟨C, 0, none⟩)] 36)).alloc (.cells #[Av] 24)) 3 (.int .i64 0)
  rw [z, z] at h1
  exact h1
section
variable (w : World) (C h : Nat) (Av rv : Value) (wk : Int) (p i : Nat)
def EFr (t : Array Value) : Prop := t.size = 110 ∧ t.getD 2 undef = .int .u16 (p : Nat) ∧ t.getD 3 undef = .int .i64 (i : Nat) ∧ t.getD 4 undef = rv ∧ t.getD 5 undef = .int .i64 wk ∧ t.getD 6 undef = .pointer (some ⟨h, 0, none⟩) ∧ t.getD 7 undef = .pointer (some ⟨h + 1, 0, none⟩) ∧ t.getD 13 undef = .pointer (some ⟨h + 2, 0, none⟩)
def ELoop (b r : Nat) (a : Act) (W : World) : Prop := ∃ (t : Array Value) (Ds : List Nat) (m : Nat), a = { tmps := t, defers := mk Ds } ∧ EFr h rv wk p i t ∧ b ≤ m ∧ m ≤ r ∧ Marks Ds W ∧ (∀ D ∈ Ds, h ≤ D) ∧ EH w C h Av m W
def EIn (can : Int → Bool) (T m : Nat) (a : Act) (W : World) : Prop := ∃ (t : Array Value) (Ds : List Nat) (N d : Nat) (f : Bool), a = { tmps := t, defers := mk Ds } ∧ EFr h rv wk p i t ∧ t.getD 15 undef = .bool f ∧ t.getD 16 undef = .pointer (some ⟨N, 0, none⟩) ∧ h + 2 < N ∧ d ≤ T ∧ Hid (f = true → ∀ e, e < d → can ((m + e : Nat) : Int) = true) ∧ Hid (f = false → ∃ e, e < T ∧ can ((m + e : Nat) : Int) = false) ∧ Marks Ds W ∧ (∀ D ∈ Ds, h ≤ D) ∧ EH w C h Av m W ∧ Boxed W N 3 (.int .i64 ((m + d : Nat) : Int))
end
set_option maxRecDepth 1000000 in
set_option maxHeartbeats 8000000 in
theorem earl_calls (C : Nat) (g : List Tk) (ns : List Nat) (A3 : Option Addr) (c3 : Nat) (st : List Int) (p i : Nat) (A1 : Option Addr) (c1 : Nat) (rm : List Int) (wk : Int) (b r : Nat) (hgr : graphN g = some ns) (hok : TOk g) (hst : st.length = g.length) (hso : SOk st) (hp : p < 2 ^ g.length) (hi : i < g.length) (hrm : rm.length = 3) (hb : bF g st (elems (ns.getD i 0)) = (b : Int)) (hbr : b ≤ r) (hr2 : r ≤ 200) (hfit : fitI g rm wk p st i r = true) (hnot : ∀ k, b ≤ k → k < r → fitI g rm wk p st i k = false) (w : World) (hG : IsGraph w C g ns) (hT : Tab w) (hr3 : (Kd.int .i64).C w A3 st.length st) (hr1 : (Kd.int .i64).C w A1 rm.length rm) :
  Calls Tryz.prog 60 #[.pointer (some ⟨C, 0, none⟩), .slice A3 st.length c3, .int .u16 (p : Nat), .int .i64 (i : Nat), .slice A1 rm.length c1, .int .i64 wk] w fun e w' => e = .returned (.int .i64 (r : Nat)) ∧ Below w.heap.size w w' := by
 have h8 := hok.1
 have hnl := (graphN_some hgr).2.2.2
 have hs2 := graphN_need_lt hgr i
 have hs := graphN_need_u16 hgr i
 obtain ⟨T, hTm⟩ : ∃ T : Nat, (rdTk g i).f0 = (T : Int) := ⟨(rdTk g i).f0.toNat, by have := hok.2.1 i; omega⟩
 have hT20 : T ≤ 20 := by have := hok.2.1 i; omega
 obtain ⟨pp, hpp⟩ : ∃ pp : Nat, (rdTk g i).f2 = (pp : Int) := ⟨(rdTk g i).f2.toNat, by have := hok.2.2.1 i; omega⟩
 have hp3 : pp < 3 := by have := hok.2.2.1 i; omega
 have hu4 := hok.2.2.2.1 i
 obtain ⟨ad3, rfl, _⟩ := at_num hr3 i (by omega)
 rw [hst] at hr3 ⊢
 have HYES := Lib.hid (fun m h => fitI_yes (rm := rm) (wk := wk) (p := p) (st := st) (m := m) hTm h)
 have HNO := Lib.hid (fun m e he h => fitI_no (rm := rm) (wk := wk) (p := p) (st := st) (m := m) (e := e) hTm he h)
 have HCAN := Lib.hid (fun t => show canT g rm wk p st i t = (cnt g ((elems p).filter (runB g st t))).can pp (rdTk g i).f3 rm wk by unfold canT; rw [hpp, Int.toNat_natCast])
 have HG := Lib.hid hG
 have HT := Lib.hid hT
 have htl := hT.lt
 have HR1 := Lib.hid hr1
 have HOK := Lib.hid hok
 have HSO := Lib.hid hso
 have HP := Lib.hid hp
 have HRM := Lib.hid hrm
 have HFIT := Lib.hid hfit
 have HNOT := Lib.hid hnot
 have HNL := Lib.hid hnl
 have HST := Lib.hid hst
 have HR3 : Hid ((Kd.int .i64).C w (some ad3) st.length st) := Lib.hid (by rw [hst]; exact hr3)
 have HTM := Lib.hid hTm
 have HPP := Lib.hid hpp
 have HBB := Lib.hid hb
 have HBF := Lib.hid (fun l => bF_bound hok hso l)
 obtain ⟨Ag, cg, An, cn, Ao, co, vb, va, h1, h2, h3, h4⟩ := hG
 have hCl := blk_lt h1
 obtain ⟨adn, rfl, cn1⟩ := at_set h3 i (by omega)
 have cC1 := blk_cell h1 1
 simp at cC1
 have hii : (i : Int) < (g.length : Int) := by omega
 have hin : (i : Int) < (ns.length : Int) := by omega
 generalize hsq : ns.getD i 0 = s at cn1 hs hs2 HBB
 have hp16 : p < 65536 := Nat.lt_of_lt_of_le hp (Nat.le_trans (Nat.pow_le_pow_right (by omega) h8) (by decide))
 clear hsq hgr hok hso hst hp hrm hb hfit hnot hr3 hr1 hTm hpp hnl hT h2 h3 h4
 have hE0 := eh_init w C (.slice (some ad3) g.length c3)
 have cC2 : ∀ o1 o2 o3 : Obj, (((w.alloc o1).alloc o2).alloc o3).cell? ⟨C, 1, none⟩ = some (.slice (some adn) ns.length cn) := fun o1 o2 o3 => pw_cell_below ((((Below.refl _ w).alloc (Nat.le_refl _) o1).alloc (by simp) o2).alloc (by simp; omega) o3) cC1
 have cn2 : ∀ o1 o2 o3 : Obj, (((w.alloc o1).alloc o2).alloc o3).cell? (adn.add i) = some (.int .u16 (s : Nat)) := fun o1 o2 o3 => pw_cell_below ((((Below.refl _ w).alloc (Nat.le_refl _) o1).alloc (by simp) o2).alloc (by simp; omega) o3) cn1
 refine calls_of_wp_marks Tryz.func60 rfl ?_
 simp only [Tryz.ntmps60, List.size_toArray, List.length_cons, List.length_nil, Nat.reduceAdd, Nat.reduceSub, Array.replicate_succ, Array.replicate_zero, List.push_toArray, List.append_toArray, List.nil_append, List.cons_append]
 go_wp2_with (go_at_call 47; refine (all_calls s _).mono ?_; rintro e w' ⟨rfl, rfl⟩)
 obtain ⟨W0, hW0⟩ : ∃ W0, W0 = ((w.alloc (.cells #[.pointer (some ⟨C, 0, none⟩)] 36)).alloc (.cells #[.slice (some ad3) g.length c3] 24)).alloc (.cells #[.int .i64 0] 3) := ⟨_, rfl⟩
 have hz0 : W0.heap.size = w.heap.size + 1 + 1 + 1 := by rw [hW0]; simp
 rw [← hW0] at hE0 ⊢
 clear hW0 cC2 cn2 cC1 cn1
 have hBox := Boxed.new W0 46 (.int .u16 s)
 rw [← hz0]
 have hEa := hE0.below ((Below.refl W0.heap.size W0).alloc (Nat.le_refl _) (.cells #[.int .u16 s] 46))
 have HZ0 := Lib.hid hz0
 clear hz0
 refine wp_rangeSet s W0.heap.size w.heap.size hs rfl (by simp) hBox.cell (HT.out.keep htl hEa.hB) (by simp [HZ0.out]; omega) htl
  (fun pre W => EH w C w.heap.size (.slice (some ad3) g.length c3) (bF g st (pre.map (·.1))) W) (fun _ _ _ => False)
  (EH.own (fun pre : List (El s) => bF g st (pre.map (·.1))) (by rw [World.size_alloc, HZ0.out]; omega) (Nat.le_refl _))
  (fun _ _ _ _ _ h _ _ => h) hEa
  (fun x a' _ => ∃ t : Array Value, a' = { tmps := t, defers := [] } ∧ EFr w.heap.size (.slice A1 rm.length c1) wk p i t ∧ t.getD 14 undef = .int .i64 (x.1 : Nat)) (fun _ _ => ownFrom_pure _ _) ?assign1 ?body1 ?done1 ?stop1
 case stop1 => exact fun _ _ _ _ _ _ h _ => h.elim
 case assign1 =>
  intro l pre x W' K hi' hK
  gi_wp2
  exact hK _ _ (KeepsFrom.refl _ _) (Below.refl _ _) hi' ⟨_, rfl, ⟨rfl, rfl, rfl, rfl, rfl, rfl, rfl, rfl⟩, rfl⟩
 case body1 =>
  clear hE0 hEa hBox
  rintro l pre x a' W3 _ _ hI3 ⟨t, rfl, ⟨ht, q2, q3, q4, q5, q6, q7, q13⟩, q14⟩ hlen'
  obtain ⟨u', rfl⟩ : ∃ u : Nat → Value, t = #[u 0, u 1, u 2, u 3, u 4, u 5, u 6, u 7, u 8, u 9, u 10, u 11, u 12, u 13, u 14, u 15, u 16, u 17, u 18, u 19, u 20, u 21, u 22, u 23, u 24, u 25, u 26, u 27, u 28, u 29, u 30, u 31, u 32, u 33, u 34, u 35, u 36, u 37, u 38, u 39, u 40, u 41, u 42, u 43, u 44, u 45, u 46, u 47, u 48, u 49, u 50, u 51, u 52, u 53, u 54, u 55, u 56, u 57, u 58, u 59, u 60, u 61, u 62, u 63, u 64, u 65, u 66, u 67, u 68, u 69, u 70, u 71, u 72, u 73, u 74, u 75, u 76, u 77, u 78, u 79, u 80, u 81, u 82, u 83, u 84, u 85, u 86, u 87, u 88, u 89, u 90, u 91, u 92, u 93, u 94, u 95, u 96, u 97, u 98, u 99, u 100, u 101, u 102, u 103, u 104, u 105, u 106, u 107, u 108, u 109] := ⟨fun i => t.getD i undef, (arr_of_size t 110 ht).trans rfl⟩
  replace q6 : u' 6 = _ := q6
  replace q7 : u' 7 = _ := q7
  replace q13 : u' 13 = _ := q13
  replace q14 : u' 14 = _ := q14
  clear ht q2 q3 q4 q5
  have hxn : x.1 < g.length := elems_below hs2 x.2
  have HFS : Hid (bF g st ((pre ++ [x]).map (·.1)) = max (bF g st (pre.map (·.1))) (st.getD x.1 0 + (rdTk g x.1).f0)) := Lib.hid (by rw [List.map_append, List.map_cons, List.map_nil, bF_snoc])
  have hbb := HBF.out (pre.map (·.1))
  generalize bF g st (pre.map (·.1)) = a1 at hI3 HFS hbb
  have cX := hI3.g.cell
  have cS := hI3.s.cell
  have cA := hI3.a.cell
  have fA := hI3.a.frozen
  obtain ⟨ad3', e3, cR⟩ := at_num (Kd.C_below HR3.out hI3.hB) x.1 (by rw [HST.out]; exact hxn)
  cases e3
  have h2 := HSO.out x.1
  have htx := HOK.out.2.1 x.1
  obtain ⟨Ag, cg, An, cn, Ao, co, vb, va, k1, k2, _, _⟩ := HG.out.below hI3.hB
  have cC0 := blk_cell k1 0
  simp at cC0
  obtain ⟨adg, A5, c5, eAg, hx0, _⟩ := at_Tk k2 x.1 hxn
  subst eAg
  generalize st.getD x.1 0 = a2 at cR h2 HFS
  generalize (rdTk g x.1).f0 = tm at hx0 htx HFS
  have hxi : ((x.1 : Nat) : Int) < (g.length : Int) := by omega
  have hwr : IntKind.i64.wrap (a2 + tm) = a2 + tm := IntWalk.i64_in _ (by omega)
  have HI3 := Lib.hid hI3
  clear k1 k2 hI3
  gi_wp2
  refine wpIn_region_still_tail 15 mixed (by kernel_rfl) (by kernel_rfl) (fun ⟨_, _, h⟩ => h) ?_
  simp only [List.take_succ_cons, List.take_zero, List.drop_succ_cons, List.drop_zero]
  repeat (with_reducible refine wpStill_step (fun K hK => ?_); go_simp; with_reducible refine hK _ ?_; clear hK K)
  with_reducible refine wpStill_nil ?_
  clear hwr
  have HF : Hid (∀ z : Int, z = max a1 (a2 + tm) → KeepsFrom (W0.heap.size + 1) W3 (W3.setCell ⟨w.heap.size + 2, 0, none⟩ (.int .i64 z)).drew ∧ Below w.heap.size W3 (W3.setCell ⟨w.heap.size + 2, 0, none⟩ (.int .i64 z)).drew ∧ EH w C w.heap.size (.slice (some ad3) g.length c3) (bF g st ((pre ++ [x]).map (·.1))) (W3.setCell ⟨w.heap.size + 2, 0, none⟩ (.int .i64 z)).drew) := by
   refine Lib.hid fun z hz => ?_
   have hk : KeepsOthers W3 (W3.setCell ⟨w.heap.size + 2, 0, none⟩ (.int .i64 z)).drew := (KeepsOthers.setCell _ _ _).trans (KeepsOthers.drew _)
   refine ⟨hk.from _, ((Below.refl _ _).setCell (p := ⟨w.heap.size + 2, 0, none⟩) (show w.heap.size ≤ w.heap.size + 2 by omega) _).drew, ?_⟩
   rw [HFS.out, ← hz]
   exact (HI3.out.setA z).below (Below.refl _ _).drew
  go_wp2
  all_goals first | exact HF.out _ (by omega) | (trace_state; sorry)
 case done1 =>
  rintro D ys W1 hD hys hI1 hK1
  rw [hys, HBB.out] at hI1
  have hM1 : Marks [D] W1 := (Marks.nil W1).cons hK1 (fun E h => by cases h)
  have hD2 : w.heap.size ≤ D := by have := HZ0.out; simp at hD; omega
  clear hE0 hEa hBox hys hK1
  go_wp2
  refine wp_loop (ELoop w C w.heap.size (.slice (some ad3) g.length c3) (.slice A1 rm.length c1) wk p i b r) (fun a W => r - atBox (a.tmps.getD 13 undef) W) ⟨_, [D], b, rfl, ⟨rfl, rfl, rfl, rfl, rfl, rfl, rfl, rfl⟩, Nat.le_refl _, hbr, hM1, fun E hE => (by rcases List.mem_cons.1 hE with rfl | hE; exact hD2; cases hE), hI1⟩ ?_
  clear hI1 hM1 hD hD2
  rintro a W ⟨t, Ds, m, rfl, ⟨ht, t2, t3, t4, t5, t6, t7, t13⟩, hbm, hmr, hM, hDs, hE⟩
  obtain ⟨u, rfl⟩ : ∃ u : Nat → Value, t = #[u 0, u 1, u 2, u 3, u 4, u 5, u 6, u 7, u 8, u 9, u 10, u 11, u 12, u 13, u 14, u 15, u 16, u 17, u 18, u 19, u 20, u 21, u 22, u 23, u 24, u 25, u 26, u 27, u 28, u 29, u 30, u 31, u 32, u 33, u 34, u 35, u 36, u 37, u 38, u 39, u 40, u 41, u 42, u 43, u 44, u 45, u 46, u 47, u 48, u 49, u 50, u 51, u 52, u 53, u 54, u 55, u 56, u 57, u 58, u 59, u 60, u 61, u 62, u 63, u 64, u 65, u 66, u 67, u 68, u 69, u 70, u 71, u 72, u 73, u 74, u 75, u 76, u 77, u 78, u 79, u 80, u 81, u 82, u 83, u 84, u 85, u 86, u 87, u 88, u 89, u 90, u 91, u 92, u 93, u 94, u 95, u 96, u 97, u 98, u 99, u 100, u 101, u 102, u 103, u 104, u 105, u 106, u 107, u 108, u 109] := ⟨fun i => t.getD i undef, (arr_of_size t 110 ht).trans rfl⟩
  replace t2 : u 2 = _ := t2
  replace t3 : u 3 = _ := t3
  replace t4 : u 4 = _ := t4
  replace t5 : u 5 = _ := t5
  replace t6 : u 6 = _ := t6
  replace t7 : u 7 = _ := t7
  replace t13 : u 13 = _ := t13
  clear ht
  have cA := hE.a.cell
  have HE := Lib.hid hE
  have HM := Lib.hid hM
  clear hE hM
  go_wp2
  have hEn := HE.out.below ((Below.refl W.heap.size W).alloc (Nat.le_refl _) (.cells #[.int .i64 (m : Nat)] 3))
  have hMn := HM.out.alloc (.cells #[.int .i64 (m : Nat)] 3)
  have hNn := Boxed.new W 3 (.int .i64 (m : Nat))
  have hNlt : w.heap.size + 2 < W.heap.size := HE.out.a.lt
  refine wp_loop (EIn w C w.heap.size (.slice (some ad3) g.length c3) (.slice A1 rm.length c1) wk p i (canT g rm wk p st i) T m) (fun a W => T + m - atBox (a.tmps.getD 16 undef) W) ⟨_, Ds, W.heap.size, 0, true, rfl, ⟨rfl, rfl, rfl, rfl, rfl, rfl, rfl, rfl⟩, rfl, rfl, hNlt, Nat.zero_le _, Lib.hid (fun _ e he => absurd he (Nat.not_lt_zero _)), Lib.hid (fun h => by cases h), hMn, hDs, hEn, hNn⟩ ?_
  clear hEn hMn hNn hNlt cA
  rintro a Wi ⟨ti, Di, N, d, f, rfl, ⟨ht, i2, i3, i4, i5, i6, i7, i13⟩, i15, i16, hN, hdT, HDY, HDN, hMi, hDi, hEi, hNi⟩
  obtain ⟨v, rfl⟩ : ∃ u : Nat → Value, ti = #[u 0, u 1, u 2, u 3, u 4, u 5, u 6, u 7, u 8, u 9, u 10, u 11, u 12, u 13, u 14, u 15, u 16, u 17, u 18, u 19, u 20, u 21, u 22, u 23, u 24, u 25, u 26, u 27, u 28, u 29, u 30, u 31, u 32, u 33, u 34, u 35, u 36, u 37, u 38, u 39, u 40, u 41, u 42, u 43, u 44, u 45, u 46, u 47, u 48, u 49, u 50, u 51, u 52, u 53, u 54, u 55, u 56, u 57, u 58, u 59, u 60, u 61, u 62, u 63, u 64, u 65, u 66, u 67, u 68, u 69, u 70, u 71, u 72, u 73, u 74, u 75, u 76, u 77, u 78, u 79, u 80, u 81, u 82, u 83, u 84, u 85, u 86, u 87, u 88, u 89, u 90, u 91, u 92, u 93, u 94, u 95, u 96, u 97, u 98, u 99, u 100, u 101, u 102, u 103, u 104, u 105, u 106, u 107, u 108, u 109] := ⟨fun i => ti.getD i undef, (arr_of_size ti 110 ht).trans rfl⟩
  replace i2 : v 2 = _ := i2
  replace i3 : v 3 = _ := i3
  replace i4 : v 4 = _ := i4
  replace i5 : v 5 = _ := i5
  replace i6 : v 6 = _ := i6
  replace i7 : v 7 = _ := i7
  replace i13 : v 13 = _ := i13
  replace i15 : v 15 = _ := i15
  replace i16 : v 16 = _ := i16
  clear ht
  have cX := hEi.g.cell
  have cS := hEi.s.cell
  have cA := hEi.a.cell
  have cN := hNi.cell
  have fA := hEi.a.frozen
  obtain ⟨Ag, cg, An, cn, Ao, co, vb, va, k1, k2, _, _⟩ := HG.out.below hEi.hB
  have cC0 := blk_cell k1 0
  simp at cC0
  obtain ⟨adg, A5, c5, eAg, hx0, hx1, hx2, hx3, _⟩ := at_Tk k2 i hi
  subst eAg
  rw [HTM.out] at hx0
  rw [HPP.out] at hx2
  have hwT : IntKind.i64.wrap ((m : Int) + (T : Int)) = (m : Int) + (T : Int) := IntWalk.i64_in _ (by omega)
  have HEi := Lib.hid hEi
  have HMi := Lib.hid hMi
  have HNi := Lib.hid hNi
  clear k1 k2 hEi hMi hNi
  cases f with
  | false =>
   obtain ⟨e, he, hcf⟩ := HDN.out rfl
   have hnf := HNO.out m e he hcf
   have hmlt : m < r := by
    apply Classical.byContradiction
    intro hh
    have : m = r := by omega
    rw [this, HFIT.out] at hnf
    cases hnf
   have hw1 : IntKind.i64.wrap ((m : Int) + 1) = (m : Int) + 1 := IntWalk.i64_in _ (by omega)
   clear hcf he hnf hx0 hx1 hx2 hx3
   go_wp2
   go_quiet (fail)
   clear hwT
   go_wp2
   have hEq := (HEi.out.below (pw_below_drewN (Below.refl _ _) nq)).setA ((m : Int) + 1)
   have hMq := (HMi.out.below (pw_below_drewN (Below.refl _ _) nq)).set ⟨w.heap.size + 2, 0, none⟩ (.int .i64 ((m : Int) + 1)) ⟨_, _, _, (HEi.out.below (pw_below_drewN (Below.refl _ _) nq)).a⟩
   rw [show (m : Int) + 1 = ((m + 1 : Nat) : Int) from by omega] at hEq hMq ⊢
   refine ⟨⟨_, Di, m + 1, rfl, ⟨rfl, rfl, rfl, rfl, rfl, rfl, rfl, rfl⟩, by omega, by omega, hMq, hDi, hEq⟩, ?_⟩
   show r - atBox (.pointer (some ⟨w.heap.size + 2, 0, none⟩)) _ < r - atBox (u 13) W
   rw [atBox_eq hEq.a, t13, atBox_eq HE.out.a]
   omega
  | true =>
   have HDY2 : Hid (∀ e, e < d → canT g rm wk p st i ((m + e : Nat) : Int) = true) := Lib.hid (HDY.out rfl)
   obtain ⟨tq, htq⟩ : ∃ tq : Int, tq = ((m + d : Nat) : Int) := ⟨_, rfl⟩
   rw [← htq] at cN HNi
   have HTQ := Lib.hid htq
   clear HDY HDN
   by_cases hdl : d < T
   ·
    have dd : decide (tq < (m : Int) + (T : Int)) = true := decide_eq_true (by omega)
    have hw1 : IntKind.i64.wrap (tq + 1) = tq + 1 := IntWalk.i64_in _ (by clear hwT; omega)
    have hdT2 := Lib.hid hdl
    have HX0 := Lib.hid (And.intro hx0 (And.intro hx1 (And.intro hx2 hx3)))
    have htqb : 0 ≤ tq ∧ tq ≤ 400 := by clear hwT; omega
    clear htq hdl hx1 hx2 hx3
    go_wp2
    go_quiet (fail)
    clear hwT hw1 dd hx0 cX cS cA cN cC0
    have hBq : Below Wi.heap.size Wi (Wi.drewN nq) := pw_below_drewN (Below.refl _ _) nq
    obtain ⟨W2, hW2⟩ : ∃ W2, W2 = Wi.drewN nq := ⟨_, rfl⟩
    rw [← hW2] at hBq ⊢
    clear hW2
    have HE2 := Lib.hid (HEi.out.below hBq)
    have HM2 := Lib.hid (HMi.out.below hBq)
    have HN2 := Lib.hid (boxed_low HNi.out hBq)
    clear hBq
    go_wp2_with (go_at_call 47; refine (all_calls p _).mono ?_; rintro e w' ⟨rfl, rfl⟩)
    have hCA : CAt (W2.alloc (.cells #[.int .i64 0, .int .i64 0, .int .i64 0, .int .i64 0] 70)) W2.heap.size (cnt g []) := World.alloc_heap_new W2 _
    have hBa : Below W2.heap.size W2 (W2.alloc (.cells #[.int .i64 0, .int .i64 0, .int .i64 0, .int .i64 0] 70)) := (Below.refl _ _).alloc (Nat.le_refl _) _
    have hz3 : (W2.alloc (.cells #[.int .i64 0, .int .i64 0, .int .i64 0, .int .i64 0] 70)).heap.size = W2.heap.size + 1 := by simp
    obtain ⟨W3, hW3⟩ : ∃ W3, W3 = W2.alloc (.cells #[.int .i64 0, .int .i64 0, .int .i64 0, .int .i64 0] 70) := ⟨_, rfl⟩
    rw [← hW3] at hCA hBa hz3 ⊢
    clear hW3
    rw [← hz3]
    have HZ3 := Lib.hid hz3
    have hE3 := HE2.out.below hBa
    have hM3 := HM2.out.below hBa
    have hN3 := boxed_low HN2.out hBa
    have hNlt := HN2.out.lt
    have hhlt := HE2.out.a.lt
    have hBb : Below W3.heap.size W3 (W3.alloc (.cells #[.int .u16 p] 46)) := (Below.refl _ _).alloc (Nat.le_refl _) _
    have hbox := Boxed.new W3 46 (.int .u16 p)
    have hEb := hE3.below hBb
    clear hz3 hBa
    refine wp_rangeSet p W3.heap.size w.heap.size hp16 rfl (by simp) hbox.cell (HT.out.keep htl hEb.hB) (by have := hEb.hB.size; exact this) htl
     (fun pre W => CAt W W2.heap.size (cnt g ((pre.map (·.1)).filter (runB g st tq))) ∧ EH w C w.heap.size (.slice (some ad3) g.length c3) m W ∧ Boxed W N 3 (.int .i64 tq) ∧ Marks Di W) (fun _ _ _ => False)
     ((CAt.own (fun pre : List (El p) => cnt g ((pre.map (·.1)).filter (runB g st tq))) (by rw [World.size_alloc, HZ3.out]; omega)).and ((EH.own (fun _ : List (El p) => (m : Int)) (by rw [World.size_alloc, HZ3.out]; omega) (Nat.le_refl _)).and ((Own.from (boxed_own N 3 (fun _ : List (El p) => Value.int .i64 tq)) _).and (ownFrom_marks _ Di (fun D hD => by have := HM2.out.lt D hD; rw [World.size_alloc, HZ3.out]; omega)))))
     (fun _ _ _ _ _ h _ _ => h) ⟨hCA.below hBb, hEb, boxed_low hN3 hBb, hM3.below hBb⟩
     (fun x a' _ => ∃ t : Array Value, a' = { tmps := t, defers := [] } ∧ EFr w.heap.size (.slice A1 rm.length c1) wk p i t ∧ t.getD 16 undef = .pointer (some ⟨N, 0, none⟩) ∧ t.getD 17 undef = .pointer (some ⟨W2.heap.size, 0, none⟩) ∧ t.getD 18 undef = .int .i64 (x.1 : Nat)) (fun _ _ => ownFrom_pure _ _) ?assign2 ?body2 ?done2 ?stop2
    case stop2 => exact fun _ _ _ _ _ _ h _ => h.elim
    case assign2 =>
     intro l pre x W' K hi' hK
     gi_wp2
     exact hK _ _ (KeepsFrom.refl _ _) (Below.refl _ _) hi' ⟨_, rfl, ⟨rfl, rfl, rfl, rfl, rfl, rfl, rfl, rfl⟩, rfl, rfl, rfl⟩
    case body2 =>
     clear hCA hE3 hM3 hN3 hBb hbox hEb
     rintro l pre x a' W4 _ _ ⟨hc4, hE4, hN4, hM4⟩ ⟨t, rfl, ⟨ht, q2, q3, q4, q5, q6, q7, q13⟩, q16, q17, q18⟩ hlen'
     obtain ⟨u', rfl⟩ : ∃ u : Nat → Value, t = #[u 0, u 1, u 2, u 3, u 4, u 5, u 6, u 7, u 8, u 9, u 10, u 11, u 12, u 13, u 14, u 15, u 16, u 17, u 18, u 19, u 20, u 21, u 22, u 23, u 24, u 25, u 26, u 27, u 28, u 29, u 30, u 31, u 32, u 33, u 34, u 35, u 36, u 37, u 38, u 39, u 40, u 41, u 42, u 43, u 44, u 45, u 46, u 47, u 48, u 49, u 50, u 51, u 52, u 53, u 54, u 55, u 56, u 57, u 58, u 59, u 60, u 61, u 62, u 63, u 64, u 65, u 66, u 67, u 68, u 69, u 70, u 71, u 72, u 73, u 74, u 75, u 76, u 77, u 78, u 79, u 80, u 81, u 82, u 83, u 84, u 85, u 86, u 87, u 88, u 89, u 90, u 91, u 92, u 93, u 94, u 95, u 96, u 97, u 98, u 99, u 100, u 101, u 102, u 103, u 104, u 105, u 106, u 107, u 108, u 109] := ⟨fun i => t.getD i undef, (arr_of_size t 110 ht).trans rfl⟩
     replace q6 : u' 6 = _ := q6
     replace q7 : u' 7 = _ := q7
     replace q16 : u' 16 = _ := q16
     replace q17 : u' 17 = _ := q17
     replace q18 : u' 18 = _ := q18
     clear ht q2 q3 q4 q5 q13
     have hxn : x.1 < g.length := elems_below HP.out x.2
     have hel := elems_length p
     have cX := hE4.g.cell
     have cS := hE4.s.cell
     have cN := hN4.cell
     obtain ⟨ad3', e3, cR⟩ := at_num (Kd.C_below HR3.out hE4.hB) x.1 (by rw [HST.out]; exact hxn)
     cases e3
     have h2 := HSO.out x.1
     have htx := HOK.out.2.1 x.1
     have hux := HOK.out.2.2.2.1 x.1
     obtain ⟨px, hpx⟩ : ∃ px : Nat, (rdTk g x.1).f2 = (px : Int) := ⟨(rdTk g x.1).f2.toNat, by have := HOK.out.2.2.1 x.1; omega⟩
     have hpx3 : px < 3 := by have := HOK.out.2.2.1 x.1; omega
     obtain ⟨Ag, cg, An, cn, Ao, co, vb, va, k1, k2, _, _⟩ := HG.out.below hE4.hB
     have cC0 := blk_cell k1 0
     simp at cC0
     obtain ⟨adg, A5, c5, eAg, hx0, hx1, hx2, hx3, _⟩ := at_Tk k2 x.1 hxn
     subst eAg
     rw [hpx] at hx2
     have hxi : ((x.1 : Nat) : Int) < (g.length : Int) := by omega
     have hwr : IntKind.i64.wrap (st.getD x.1 0 + (rdTk g x.1).f0) = st.getD x.1 0 + (rdTk g x.1).f0 := IntWalk.i64_in _ (by omega)
     have hsm : (cnt g ((pre.map (·.1)).filter (runB g st tq))).small 1000 := cnt_small HOK.out (by
      have h1 := List.length_filter_le (runB g st tq) (pre.map (·.1))
      rw [List.length_map] at h1
      omega)
     have HADD := Lib.hid (fun W hC => add_calls W2.heap.size (cnt g ((pre.map (·.1)).filter (runB g st tq))) (rdTk g x.1).f0 (.slice A5 (rdTk g x.1).f1.length c5) px (rdTk g x.1).f3 1 hpx3 (by omega) (.inl rfl) hsm W hC)
     have HON : Hid (runB g st tq x.1 = true → cnt g (((pre ++ [x]).map (·.1)).filter (runB g st tq)) = (cnt g ((pre.map (·.1)).filter (runB g st tq))).add px (rdTk g x.1).f3 1) := Lib.hid (fun hb => by
      rw [List.map_append, List.filter_append, List.map_cons, List.map_nil, List.filter_cons, if_pos hb, List.filter_nil]
      exact cnt_snoc _ hpx)
     have HOFF : Hid (runB g st tq x.1 = false → cnt g (((pre ++ [x]).map (·.1)).filter (runB g st tq)) = cnt g ((pre.map (·.1)).filter (runB g st tq))) := Lib.hid (fun hb => by
      rw [List.map_append, List.filter_append, List.map_cons, List.map_nil, List.filter_cons, if_neg (by rw [hb]; simp), List.filter_nil, List.append_nil])
     have HRB : Hid (runB g st tq x.1 = (decide (st.getD x.1 0 ≤ tq) && decide (tq < st.getD x.1 0 + (rdTk g x.1).f0))) := Lib.hid rfl
     generalize cnt g ((pre.map (·.1)).filter (runB g st tq)) = ct at hc4 HADD HON HOFF
     have hc4d : CAt W4.drew W2.heap.size ct := hc4.below (Below.refl _ _).drew
     have hE4d := hE4.below (Below.refl W4.heap.size W4).drew
     have hN4d := boxed_low hN4 (Below.refl W4.heap.size W4).drew
     have hM4d := hM4.below (Below.refl W4.heap.size W4).drew
     have HI := Lib.hid (And.intro hc4d (And.intro hE4d (And.intro hN4d hM4d)))
     generalize st.getD x.1 0 = s2 at cR h2 HRB hwr
     generalize (rdTk g x.1).f0 = tm at hx0 htx HRB hwr HADD
     have HNL2 : Hid (N < W2.heap.size ∧ w.heap.size + 2 < W2.heap.size) := Lib.hid ⟨hNlt, hhlt⟩
     clear hsm hpx k1 k2 hc4 hE4 hN4 hM4 hc4d hE4d hN4d hM4d
     by_cases hle : s2 ≤ tq
     ·
      have dle : decide (s2 ≤ tq) = true := decide_eq_true hle
      by_cases hlt : tq < s2 + tm
      ·
       have dlt : decide (tq < s2 + tm) = true := decide_eq_true hlt
       have HE1 := Lib.hid (HON.out (by rw [HRB.out, dle, dlt]; rfl))
       clear hle hlt HRB HON HOFF
       gi_wp2
       refine wpIn_region_still_tail 22 mixed (by kernel_rfl) (by kernel_rfl) (fun ⟨_, _, h⟩ => h) ?_
       simp only [List.take_succ_cons, List.take_zero, List.drop_succ_cons, List.drop_zero]
       repeat (with_reducible refine wpStill_step (fun K hK => ?_); go_simp; with_reducible refine hK _ ?_; clear hK K)
       with_reducible refine wpStill_nil ?_
       clear hwr
       go_wp2
       gi_wp2_with (refine ⟨trivial, ?_⟩; gi_at_call 41; refine CallsIn.mono (CallsIn.inRound l (callsIn_wide.2 (HADD.out _ HI.out.1))) ?_; rintro e w' ⟨rfl, hC', hk', hb'⟩)
       obtain ⟨hc4, hE4, hN4, hM4⟩ := HI.out
       refine ⟨((KeepsOthers.drew _).trans (keep_others1 hk' hc4)).from _, (Below.refl _ _).drew.trans (hb'.mono (by have := HNL2.out; omega)), ?_, hE4.keep hk' hb' HNL2.out.2, hk'.blk hN4 (by have := HNL2.out; omega) (by simp), hM4.keepB hk' hc4 rfl⟩
       have := HE1.out
       rw [this]
       exact hC'
      ·
       have dlt : decide (tq < s2 + tm) = false := decide_eq_false hlt
       have HE1 := Lib.hid (HOFF.out (by rw [HRB.out, dle, dlt]; rfl))
       clear hle hlt HRB HON HOFF
       gi_wp2
       refine wpIn_region_still_tail 22 mixed (by kernel_rfl) (by kernel_rfl) (fun ⟨_, _, h⟩ => h) ?_
       simp only [List.take_succ_cons, List.take_zero, List.drop_succ_cons, List.drop_zero]
       repeat (with_reducible refine wpStill_step (fun K hK => ?_); go_simp; with_reducible refine hK _ ?_; clear hK K)
       with_reducible refine wpStill_nil ?_
       clear hwr
       go_wp2
       gi_wp2
       obtain ⟨hc4, hE4, hN4, hM4⟩ := HI.out
       refine ⟨(KeepsOthers.drew _).from _, (Below.refl _ _).drew, ?_, hE4, hN4, hM4⟩
       have := HE1.out
       rw [this]
       exact hc4
     ·
      have dle : decide (s2 ≤ tq) = false := decide_eq_false hle
      have HE1 := Lib.hid (HOFF.out (by rw [HRB.out, dle]; rfl))
      clear hle HRB HON HOFF
      gi_wp2
      refine wpIn_region_still_tail 22 mixed (by kernel_rfl) (by kernel_rfl) (fun ⟨_, _, h⟩ => h) ?_
      simp only [List.take_succ_cons, List.take_zero, List.drop_succ_cons, List.drop_zero]
      repeat (with_reducible refine wpStill_step (fun K hK => ?_); go_simp; with_reducible refine hK _ ?_; clear hK K)
      with_reducible refine wpStill_nil ?_
      clear hwr
      go_wp2
      gi_wp2
      obtain ⟨hc4, hE4, hN4, hM4⟩ := HI.out
      refine ⟨(KeepsOthers.drew _).from _, (Below.refl _ _).drew, ?_, hE4, hN4, hM4⟩
      have := HE1.out
      rw [this]
      exact hc4
    case done2 =>
     clear hCA hE3 hM3 hN3 hBb hbox hEb
     rintro D ys W5 hD hys ⟨hc5, hE5, hN5, hM5⟩ hK5
     rw [hys] at hc5
     rw [World.size_alloc, HZ3.out] at hD
     have hM6 := hM5.cons hK5 (fun E hE => by have := HM2.out.lt E hE; omega)
     have hD2 : w.heap.size ≤ D := by omega
     have hel := elems_length p
     have hsm : (cnt g ((elems p).filter (runB g st tq))).small 1000 := cnt_small HOK.out (by
      have h1 := List.length_filter_le (runB g st tq) (elems p)
      omega)
     have HCN := Lib.hid (HCAN.out tq)
     generalize cnt g ((elems p).filter (runB g st tq)) = ct at hc5 hsm HCN
     have cX := hE5.g.cell
     have cN := hN5.cell
     obtain ⟨Ag, cg, An, cn, Ao, co, vb, va, k1, k2, _, _⟩ := HG.out.below hE5.hB
     have cC0 := blk_cell k1 0
     simp at cC0
     obtain ⟨adg, A5, c5, eAg, hx0, hx1, hx2, hx3, _⟩ := at_Tk k2 i hi
     subst eAg
     rw [HTM.out] at hx0
     rw [HPP.out] at hx2
     have HTK := Lib.hid (takes_calls W2.heap.size ct (T : Int) (.slice A5 (rdTk g i).f1.length c5) pp (rdTk g i).f3 A1 c1 rm wk hp3 (by omega) hsm HRM.out W5 hc5 (Kd.C_below HR1.out hE5.hB))
     have HI := Lib.hid (And.intro hc5 (And.intro hE5 (And.intro hN5 hM6)))
     have hw1 : IntKind.i64.wrap (tq + 1) = tq + 1 := IntWalk.i64_in _ (by omega)
     have HNL2 : Hid (N < W2.heap.size ∧ w.heap.size + 2 < W2.heap.size) := Lib.hid ⟨hNlt, hhlt⟩
     clear hys hK5 hM5 hM6 hc5 hE5 hN5 hsm k1 k2
     generalize hcb : ct.can pp (rdTk g i).f3 rm wk = cb at HTK HCN
     clear hcb
     go_wp2_with (go_at_call 43; refine HTK.out.mono ?_; rintro e w6 ⟨rfl, hC6, hk6, hb6⟩; have cN6 := kept_cell2 hk6 cN (by have := HNL2.out; show N ≠ W2.heap.size; omega); have HK6 := Lib.hid (And.intro hk6 hb6); clear hC6 hk6 hb6)
     obtain ⟨hc5, hE5, hN5, hM6⟩ := HI.out
     have hE6 := hE5.keep HK6.out.1 HK6.out.2 HNL2.out.2
     have hN6 := HK6.out.1.blk hN5 (by have := HNL2.out; omega) (by simp)
     have hM7 := hM6.keepB HK6.out.1 hc5 rfl
     have hBz : Below w6.heap.size w6 (w6.alloc (.cells #[.int .i64 (tq + 1)] 3)) := (Below.refl _ _).alloc (Nat.le_refl _) _
     have hNz := Boxed.new w6 3 (.int .i64 (tq + 1))
     have hszz := hE6.a.lt
     have hdl := hdT2.out
     have htq2 := HTQ.out
     have e1 : tq + 1 = ((m + (d + 1) : Nat) : Int) := by omega
     rw [e1] at hBz hNz ⊢
     refine ⟨⟨_, D :: Di, w6.heap.size, d + 1, cb, rfl, ⟨rfl, rfl, rfl, rfl, rfl, rfl, rfl, rfl⟩, rfl, rfl, hszz, by omega, Lib.hid (fun hcb e he => ?_), Lib.hid (fun hcb => ⟨d, hdl, ?_⟩), hM7.below hBz, ?_, hE6.below hBz, hNz⟩, ?_⟩
     ·
      by_cases h : e = d
      ·
       rw [h, ← htq2, HCN.out, hcb]
      ·
       exact HDY2.out e (by omega)
     ·
      rw [← htq2, HCN.out, hcb]
     ·
      intro E hE
      rcases List.mem_cons.1 hE with rfl | hE
      ·
       exact hD2
      ·
       exact hDi E hE
     ·
      show T + m - atBox (.pointer (some ⟨w6.heap.size, 0, none⟩)) _ < T + m - atBox (v 16) Wi
      rw [atBox_eq hNz, i16, atBox_eq (k := m + d) (by have := HNi.out; rwa [htq2] at this)]
      omega
   ·
    obtain rfl : d = T := by omega
    have dd : decide (tq < (m : Int) + (d : Int)) = false := decide_eq_false (by omega)
    have hyes := HYES.out m HDY2.out
    have hme : m = r := by
     apply Classical.byContradiction
     intro hh
     have := HNOT.out m hbm (by omega)
     rw [hyes] at this
     cases this
    have HME := Lib.hid hme
    clear htq hyes hdl hme hx1 hx2 hx3
    go_wp2
    go_quiet (fail)
    clear hwT
    go_wp2
    refine leave_marks (B := w.heap.size) (v := .int .i64 (m : Nat)) Di _ (HMi.out.below (pw_below_drewN (Below.refl _ _) nq)) hDi (fun w' hs => ?_)
    exact ⟨results_tmp (t := 12) rfl _ _ _, by rw [← HME.out], (pw_below_drewN HEi.out.hB nq).trans hs.below⟩
end Go.Proofs.YtkljcdghbefceaaGreatDoor
