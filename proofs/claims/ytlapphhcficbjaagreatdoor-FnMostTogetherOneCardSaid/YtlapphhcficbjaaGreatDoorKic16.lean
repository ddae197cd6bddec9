/- Parts of the proof, laid as one text by a program of mine. -/
import Derived.Test.YtlapphhcficbjaaGreatDoorKic15
import Derived.Deep.RegionHeld3
import Derived.Deep.RegionWith
import Derived.Test.YtlapphhcficbjaaGreatDoorKic7
namespace Go.Proofs.YtlapphhcficbjaaGreatDoor
set_option linter.unusedVariables false
set_option linter.unusedSimpArgs false
open Go.RowKit Go.Shelf Bits
theorem planL_step_keeps {g : List Tk} {rm : List Int} {wk : Int} {k j : Nat} (hk : k ≤ 200) (h : (planL g rm wk k).getD j 0 ≠ 200) : (planL g rm wk (k + 1)).getD j 0 = (planL g rm wk k).getD j 0 := by
 rw [show planL g rm wk (k + 1) = stepS g rm wk (planL g rm wk k) k from rfl, stepS_get (planL_ok g rm wk k hk).1, if_neg (fun hm => h (nextS_in hm).2.2)]
theorem planL_keeps {g : List Tk} {rm : List Int} {wk : Int} {k j : Nat} (h : (planL g rm wk k).getD j 0 ≠ 200) : ∀ d, k + d ≤ 200 → (planL g rm wk (k + d)).getD j 0 = (planL g rm wk k).getD j 0
 | 0, _ => rfl
 | d + 1, hd => by
  have ih := planL_keeps h d (by omega)
  rw [show k + (d + 1) = (k + d) + 1 from rfl, planL_step_keeps (by omega) (by rw [ih]; exact h), ih]
theorem planL_final {g : List Tk} {rm : List Int} {wk : Int} {k j : Nat} (hk : k ≤ 200) (h : (planL g rm wk k).getD j 0 ≠ 200) : (planS g rm wk).getD j 0 = (planL g rm wk k).getD j 0 := by
 have := planL_keeps h (200 - k) (by omega)
 rw [show k + (200 - k) = 200 by omega] at this
 exact this
theorem planL_needs {g : List Tk} (hok : TOk g) (hin : ∀ k, k < g.length → ∀ x ∈ (rdTk g k).f1, 0 ≤ x ∧ x < g.length) (rm : List Int) (wk : Int) : ∀ m, m ≤ 200 → ∀ k, k < g.length → (planL g rm wk m).getD k 0 ≠ 200 → ∀ i : Nat, (i : Int) ∈ (rdTk g k).f1 → (planL g rm wk m).getD i 0 ≠ 200 ∧ (planL g rm wk m).getD i 0 + (rdTk g i).f0 ≤ (planL g rm wk m).getD k 0
 | 0, _, k, hk, h, _, _ => by
  refine absurd ?_ h
  unfold planL
  rw [List.getD_eq_getElem?_getD, List.getElem?_replicate, if_pos hk]
  rfl
 | m + 1, hm, k, hk, h, i, hi => by
  have hL := (planL_ok g rm wk m (by omega)).1
  by_cases hc : (planL g rm wk m).getD k 0 = 200
  ·
   have hmem : k ∈ nextS g rm wk (planL g rm wk m) m := by
    by_cases hm' : k ∈ nextS g rm wk (planL g rm wk m) m
    ·
     exact hm'
    ·
     refine absurd ?_ h
     rw [show planL g rm wk (m + 1) = stepS g rm wk (planL g rm wk m) m from rfl, stepS_get hL, if_neg hm']
     exact hc
   have h1 := (nextS_in hmem).2.1
   unfold rdB allDoneB at h1
   rw [Bool.and_eq_true, List.all_eq_true] at h1
   have h2 := of_decide_eq_true (h1.2 _ hi)
   rw [mem_intsN, mem_overS] at h2
   have ht := hok.2.2.2.2 i h2.1
   have hne : (planL g rm wk m).getD i 0 ≠ 200 := fun e => by
    have := h2.2
    rw [e] at this
    omega
   rw [planL_step_keeps (by omega) hne]
   refine ⟨hne, ?_⟩
   rw [show planL g rm wk (m + 1) = stepS g rm wk (planL g rm wk m) m from rfl, stepS_get hL, if_pos hmem]
   exact h2.2
  ·
   obtain ⟨h1, h2⟩ := planL_needs hok hin rm wk m (by omega) k hk hc i hi
   rw [planL_step_keeps (by omega) h1, planL_step_keeps (by omega) hc]
   exact ⟨h1, h2⟩
theorem spec_needs_in {g : List Tk} (hv : specValid g = true) : ∀ k, k < g.length → ∀ x ∈ (rdTk g k).f1, 0 ≤ x ∧ x < g.length := fun k hk x hx => by
 obtain ⟨ns, hg⟩ := graphN_yes hv
 have := setOfL_mem _ _ _ _ _ (by omega) ((graphN_all hg).2.2 k hk).2 x hx
 omega
theorem planS_lt {g : List Tk} (hv : specValid g = true) {rm : List Int} (hrm : roomB rm = true) {wk : Int} (hwk : 1 ≤ wk) {i : Nat} (hi : i < g.length) : (planS g rm wk).getD i 0 < 200 := by
 have hok := specValid_TOk hv
 have := planS_ends hv hrm hwk i hi
 have := timeS_bound hok
 have := hok.2.1 i
 omega
theorem planS_needs {g : List Tk} (hv : specValid g = true) {rm : List Int} (hrm : roomB rm = true) {wk : Int} (hwk : 1 ≤ wk) {k : Nat} (hk : k < g.length) (i : Nat) (hi : (i : Int) ∈ (rdTk g k).f1) : (planS g rm wk).getD i 0 + (rdTk g i).f0 ≤ (planS g rm wk).getD k 0 :=
 (planL_needs (specValid_TOk hv) (spec_needs_in hv) rm wk 200 (Nat.le_refl _) k hk (by have := planS_lt hv hrm hwk hk; show (planS g rm wk).getD k 0 ≠ 200; omega) i hi).2
theorem endS_mono (g : List Tk) (st : List Int) (i : Nat) : ∀ n, i < n → st.getD i 0 + (rdTk g i).f0 ≤ endS g st n
 | 0, h => absurd h (Nat.not_lt_zero _)
 | n + 1, h => by
  unfold endS
  by_cases hi : i < n
  ·
   have := endS_mono g st i n hi
   omega
  ·
   obtain rfl : i = n := by omega
   omega
theorem endS_le {g : List Tk} {st : List Int} {E : Int} (hE : 0 ≤ E) : ∀ n, (∀ i, i < n → st.getD i 0 + (rdTk g i).f0 ≤ E) → endS g st n ≤ E
 | 0, _ => hE
 | n + 1, h => by
  have h1 := endS_le hE n (fun i hi => h i (by omega))
  have h2 := h n (by omega)
  unfold endS
  omega
theorem mostS_le {g : List Tk} {o : List Int} {i : Nat} {b : Int} (hb : 0 ≤ b) : ∀ n, (∀ k, k < n → (i : Int) ∈ (rdTk g k).f1 → o.getD k 0 ≤ b) → mostS g o i n ≤ b
 | 0, _ => hb
 | n + 1, h => by
  have h1 := mostS_le hb n (fun k hk => h k (by omega))
  unfold mostS
  split
  ·
   have h2 := h n (by omega) (of_decide_eq_true (by assumption))
   omega
  ·
   exact h1
theorem getD_setL (o : List Int) (a j : Nat) (v : Int) : (o.set a v).getD j 0 = if j = a ∧ a < o.length then v else o.getD j 0 := by
 by_cases ha : a < o.length
 ·
  rw [getD_setI _ _ _ _ ha]
  by_cases h : j = a
  ·
   rw [if_pos h, if_pos ⟨h, ha⟩]
  ·
   rw [if_neg h, if_neg (fun e => h e.1)]
 ·
  rw [List.set_eq_of_length_le (by omega), if_neg (fun e => ha e.2)]
theorem tails_fit {g : List Tk} {st : List Int} {E : Int} (hE : ∀ i, i < g.length → st.getD i 0 + (rdTk g i).f0 ≤ E) (hN : ∀ k, k < g.length → ∀ i : Nat, (i : Int) ∈ (rdTk g k).f1 → st.getD i 0 + (rdTk g i).f0 ≤ st.getD k 0) :
  ∀ i, i < g.length → st.getD i 0 + (tailsS g).getD i 0 ≤ E ∨ (tailsS g).getD i 0 = 0 := by
 have key : ∀ (pre : List Nat) (o : List Int), o.length = g.length → (∀ i, i < g.length → st.getD i 0 + o.getD i 0 ≤ E ∨ o.getD i 0 = 0) →
   ∀ i, i < g.length → st.getD i 0 + (pre.foldl (fun o p => sStep g o ((topL g).getD p 0)) o).getD i 0 ≤ E ∨ (pre.foldl (fun o p => sStep g o ((topL g).getD p 0)) o).getD i 0 = 0 := by
  intro pre
  induction pre with
  | nil => exact fun o _ h => h
  | cons p pre ih =>
   intro o hl h
   refine ih _ (by unfold sStep; rw [List.length_set]; exact hl) (fun i hi => ?_)
   unfold sStep
   rw [getD_setL]
   split
   ·
    rename_i hc
    left
    rw [← hc.1]
    have := mostS_le (g := g) (o := o) (i := i) (b := E - st.getD i 0 - (rdTk g i).f0) (by have := hE i hi; omega) g.length (fun k hk hm => by
     have h1 := hN k hk i hm
     have h3 := hE k hk
     have h4 := hE i hi
     rcases h k hk with h2 | h2
     ·
      omega
     ·
      omega)
    omega
   ·
    exact h i hi
 exact key _ _ (by simp) (fun i hi => .inr (by
  rw [List.getD_eq_getElem?_getD, List.getElem?_replicate]
  split <;> rfl))
theorem longL_le {T : List Int} {b : Int} (hb : 0 ≤ b) : ∀ n, (∀ i, i < n → T.getD i 0 ≤ b) → longL T n ≤ b
 | 0, _ => hb
 | n + 1, h => by
  have h1 := longL_le hb n (fun i hi => h i (by omega))
  have h2 := h n (by omega)
  unfold longL
  omega
theorem longS_le {g : List Tk} {st : List Int} (h0 : ∀ i, i < g.length → 0 ≤ st.getD i 0) (hN : ∀ k, k < g.length → ∀ i : Nat, (i : Int) ∈ (rdTk g k).f1 → st.getD i 0 + (rdTk g i).f0 ≤ st.getD k 0) : longL (tailsS g) g.length ≤ endS g st g.length := by
 have hE : 0 ≤ endS g st g.length := by
  have : ∀ n, 0 ≤ endS g st n := by
   intro n
   induction n with
   | zero => exact Int.le_refl _
   | succ n ih => unfold endS; omega
  exact this _
 refine longL_le hE _ (fun i hi => ?_)
 have := h0 i hi
 rcases tails_fit (E := endS g st g.length) (fun i hi => endS_mono g st i _ hi) hN i hi with h | h
 ·
  omega
 ·
  omega
end Go.Proofs.YtlapphhcficbjaaGreatDoor

namespace Go.Proofs.YtlapphhcficbjaaGreatDoor
set_option linter.unusedVariables false
set_option linter.unusedSimpArgs false
open Go.RowKit Go.Shelf
open Go.Proofs.YtlapphhcficbjaaGreatDoorW.PrintWords Go.Proofs.YtlapphhcficbjaaGreatDoorW.PrintLast Go.Proofs.YtlapphhcficbjaaGreatDoorW.PrintMore
def StB (k : Int) (st : List Int) : Prop := ∀ i, -k ≤ st.getD i 0 ∧ st.getD i 0 ≤ 200 + 40 * k
theorem StB.set {k : Int} {st : List Int} (h : StB k st) (i : Nat) {x : Int} (hx : -(k + 1) ≤ x ∧ x ≤ 200 + 40 * (k + 1)) (hk : 0 ≤ k) : StB (k + 1) (st.set i x) := fun j => by
 have := h j
 rw [getD_setL]
 split <;> omega
theorem StB.wide {k k' : Int} {st : List Int} (h : StB k st) (hk : k ≤ k') : StB k' st := fun i => by have := h i; omega
theorem StB.sok {st : List Int} (h : StB 2 st) : SOk st := fun i => by have := h i; omega
theorem pS_B (g : List Tk) (rm : List Int) (wk : Int) : StB 0 (pS g rm wk) := by
 unfold pS
 split
 ·
  exact fun i => by have := (planS_ok g rm wk).2 i; omega
 ·
  exact fun i => by simp
theorem pS_len (g : List Tk) (rm : List Int) (wk : Int) : (pS g rm wk).length ≤ 8 := by
 unfold pS
 split
 ·
  rename_i h
  rw [Bool.and_eq_true] at h
  rw [(planS_ok g rm wk).1]
  exact (specValid_TOk h.1).1
 ·
  simp
theorem stI_of_Rb {W : World} {rb base : Nat} {ok : Nat → Prop} {v : Value} {l : List Int} (h : Kd.R (Kd.int .i64) 3 W base ok v l) (hrb : rb < base) : ∃ A c, v = .slice A l.length c ∧ l.length ≤ c ∧ StI W rb A l := stI_of_R (Kd.R_mono h (fun _ _ => trivial)) hrb
theorem RdSt.far {w0 W : World} {rb : Nat} {M : Int} (h : RdSt w0 W rb M) {p : Addr} (hp : p.block ≠ rb) (u : Value) : RdSt w0 (W.setCell p u) rb M := by
 obtain ⟨b, q, ⟨A0, c0, h1, h2, h3⟩, h4⟩ := h
 exact ⟨b, q, ⟨A0, c0, (Below.heap_setCell W p u rb (fun e => hp e.symm)).trans h1, h2, h3⟩, h4⟩
set_option maxRecDepth 1000000 in
set_option maxHeartbeats 8000000 in
theorem someStarts_any (rb : Nat) (M : Int) (hM : M ≤ 700000) (A : Option Addr) (c : Nat) (g : List Tk) (w0 w : World) (hS : RdSt w0 w rb M) (hB : Below w0.heap.size w0 w) (hG : StG w rb A g) :
  Calls Tryz.prog 53 #[.pointer (some ⟨rb, 0, none⟩), .slice A g.length c] w fun e w' => ∃ A1 c1 rm wk A2 c2 st, e = .returned (.tuple #[.slice A1 rm.length c1, .int .i64 wk, .slice A2 st.length c2]) ∧ rm.length ≤ c1 ∧ st.length ≤ c2 ∧ StI w' rb A1 rm ∧ StI w' rb A2 st ∧ rm.length ≤ 4 ∧ st.length ≤ 8 ∧ (0 ≤ wk ∧ wk ≤ 5) ∧ StB 2 st ∧ RdSt w0 w' rb (M + 20) ∧ Below w0.heap.size w0 w' ∧ KeepBut w w' rb none := by
 have HS := Lib.hid hS
 have HB := Lib.hid hB
 have HG := Lib.hid hG
 clear hS hB hG
 go_enter Tryz.func53, Tryz.ntmps53
 go_wp2_with (first
  | (go_at_call 71; refine (someRoom_any rb M (by omega) w0 _ HS.out HB.out).mono ?_; rintro e w1 ⟨A1, c1, rm, rfl, hc1, hI1, hl1, hS1, hB1, hK1⟩; have H1 := Lib.hid (And.intro hI1 (And.intro hS1 (And.intro hB1 hK1))); clear hI1 hS1 hB1 hK1)
  | (go_at_call 72; refine (someWorkers_any rb (M + 6) (by omega) w0 _ H1.out.2.1 H1.out.2.2.1).mono ?_; rintro e w2 ⟨wk, rfl, hwk, hS2, hB2, hK2⟩; have H2 := Lib.hid (And.intro (H1.out.1.keep hK2) (And.intro hS2 (And.intro hB2 (And.intro (keep_trans H1.out.2.2.2 hK2) ((HG.out.keep H1.out.2.2.2).keep hK2))))); clear hS2 hB2 hK2)
  | (go_at_call 98; refine (sPlanStarts_calls A c g A1 c1 rm wk w2 H2.out.2.2.2.2.now H2.out.1.now).mono ?_; rintro e w3 ⟨v3, rfl, hR3, hB3⟩; have H3 := Lib.hid (And.intro hR3 hB3); clear hR3 hB3)
  | (go_at_call 95; refine (pick_any rb (M + 7) _ (by omega) w0 _ ((H2.out.2.1.below H3.out.2).wide (by omega)) (H2.out.2.2.1.trans (H3.out.2.mono H2.out.2.2.1.size))).mono ?_; rintro e w4 ⟨v4, rfl, hv4, hS4, hB4, hK4⟩; have H4 := Lib.hid (And.intro hS4 (And.intro hB4 hK4)); clear hS4 hB4 hK4))
 have hrb2 := H2.out.2.1.lt
 have hpl := pS_len g rm wk
 have hpb := pS_B g rm wk
 have hR4 : Kd.R (Kd.int .i64) 3 w4 w2.heap.size (fun q => q ≠ rb) v3 (pS g rm wk) := Kd.R_keep (Kd.R_mono (Kd.R_bound H3.out.1) (fun q hq => by have := hq.2.1; omega)) H4.out.2.2 (fun q hq => hq)
 obtain ⟨A3, c3, rfl, hc3, _⟩ := Kd.R_reads hR4
 have hK24 : KeepBut w2 w4 rb none := keep_trans (keep_below rb H3.out.2) H4.out.2.2
 have HK24 := Lib.hid hK24
 have hv2 : 0 ≤ v4 ∧ v4 ≤ 2 := by have := hv4.2 (by omega); omega
 clear hK24 hv4
 generalize pS g rm wk = s0 at hR4 hpl hpb hc3
 go_loopw [10] (fun n wr => ∃ (k : Nat) (st : List Int), n = .int .i64 (k : Int) ∧ k ≤ 2 ∧ st.length = s0.length ∧ StB (2 - k) st ∧ Hid (Kd.R (Kd.int .i64) 3 wr w2.heap.size (fun q => q ≠ rb) (.slice A3 s0.length c3) st ∧ RdSt w0 wr rb (M + 12 - 2 * k) ∧ Below w0.heap.size w0 wr ∧ KeepBut w2 wr rb none)) (fun n _ => (intOf n).toNat)
 case atStart => exact ⟨v4.toNat, s0, by congr 1; omega, by omega, rfl, hpb.wide (by omega), Lib.hid ⟨hR4, H4.out.1.wide (by omega), H4.out.2.1, HK24.out⟩⟩
 case round =>
  clear hR4 hpb
  obtain ⟨k, st, rfl, hk, hsl, hsb, HH⟩ := hrel
  by_cases hk0 : k = 0
  ·
   subst hk0
   have HSB := Lib.hid hsb
   go_wp2
   go_ret3
   obtain ⟨hR, hS, hB, hK⟩ := HH.out
   obtain ⟨A9, c9, e9, hc9, hI9⟩ := stI_of_Rb hR hrb2
   rw [← hsl] at e9 hR ⊢
   cases e9
   exact ⟨A1, c1, rm, wk, A3, c3, st, rfl, hc1, hc9, H2.out.1.keep hK, hI9, hl1, by omega, hwk, HSB.out.wide (by omega), hS.wide (by omega), hB, keep_trans H2.out.2.2.2.1 hK⟩
  ·
   have dk : decide ((0 : Int) < (k : Int)) = true := decide_eq_true (by omega)
   have dk' : decide (0 < k) = true := decide_eq_true (by omega)
   by_cases hs0 : s0.length = 0
   ·
    have ds : decide ((0 : Int) < (s0.length : Int)) = false := decide_eq_false (by omega)
    have ds' : decide (0 < s0.length) = false := decide_eq_false (by omega)
    have HSB := Lib.hid hsb
    clear hk0 hsb
    go_wp2
    go_ret3
    obtain ⟨hR, hS, hB, hK⟩ := HH.out
    obtain ⟨A9, c9, e9, hc9, hI9⟩ := stI_of_Rb hR hrb2
    rw [← hsl] at e9 hR ⊢
    cases e9
    exact ⟨A1, c1, rm, wk, A3, c3, st, rfl, hc1, hc9, H2.out.1.keep hK, hI9, hl1, by omega, hwk, HSB.out.wide (by omega), hS.wide (by omega), hB, keep_trans H2.out.2.2.2.1 hK⟩
   ·
    have ds : decide ((0 : Int) < (s0.length : Int)) = true := decide_eq_true (by omega)
    have ds' : decide (0 < s0.length) = true := decide_eq_true (by omega)
    have HSB := Lib.hid hsb
    have HSB2 := Lib.hid hsb
    obtain ⟨b, cap, e5, hbb, hbl, hbc⟩ := Kd.R_form HH.out.1 (by omega)
    rw [hsl] at e5
    cases e5
    have hbr : b ≠ rb := by omega
    go_upto_region 8 with (go_at_call 95; refine (pick_any rb _ _ (by omega) w0 _ HH.out.2.1 HH.out.2.2.1).mono ?_; rintro e w5 ⟨v5, rfl, hv5, hS5, hB5, hK5⟩; obtain ⟨m, rfl⟩ := Int.eq_ofNat_of_zero_le hv5.1; have hml : m < s0.length := (by have := hv5.2 (by omega); omega); have H5 := Lib.hid (And.intro hS5 (And.intro hB5 hK5)); clear hv5 hS5 hB5 hK5)
    have hR5 := Kd.R_keep HH.out.1 H5.out.2.2 (fun q hq => hq)
    obtain ⟨cx, fx⟩ := Kd.R_celln (0 : Int) hR5 (m : Int) (by omega) (by omega)
    rw [Int.toNat_natCast] at cx fx
    have hsx := HSB.out m
    replace cx : w5.cell? ⟨b, m, none⟩ = some (.int .i64 (st.getD m 0)) := cx
    have HST : Hid (∃ s, s = st.getD m 0) := Lib.hid ⟨_, rfl⟩
    obtain ⟨s, hs⟩ := HST.out
    rw [← hs] at cx hsx
    have HR5 := Lib.hid hR5
    have HSE := Lib.hid hs
    have hb5 : b < w5.heap.size := Nat.lt_of_lt_of_le hbl H5.out.2.2.1
    have hmi : (m : Int) < (s0.length : Int) := by omega
    have hrb5 := H5.out.1.lt
    clear hR5 hs HST
    have HCALL : Hid (∀ W (l : List Int), Below w5.heap.size w5 W → 0 < l.length → l.length ≤ 1000 → Calls Tryz.prog 96 #[.pointer (some ⟨rb, 0, none⟩), .slice (some ⟨W.heap.size, 0, none⟩) l.length l.length] (W.alloc (.cells (encs (Value.int .i64) l).toArray 3)) fun e w' =>
      ∃ v, e = .returned (.int .i64 v) ∧ v ∈ l ∧ RdSt w0 w' rb (M + 14 - 2 * k) ∧ Below w0.heap.size w0 w' ∧ w'.cell? ⟨b, m, none⟩ = some (.int .i64 s) ∧ w'.frozen? ⟨b, m, none⟩ = false ∧ KeepBut w5 w' rb none) := Lib.hid (by
     intro W l hW hl0 hl
     refine (oneLit_any rb _ l hl0 hl (by omega) w0 W (H5.out.1.below hW) (H5.out.2.1.trans (hW.mono H5.out.2.1.size))).mono ?_
     rintro e w' ⟨v, he, hv, h1, h2, h3⟩
     have hkk : KeepBut w5 w' rb none := keep_trans (keep_below rb hW) h3
     have hblk : w'.heap[b]? = w5.heap[b]? := hkk.2 b hb5 hbr (by simp)
     refine ⟨v, he, hv, h1.wide (by omega), h2, ?_, ?_, hkk⟩
     ·
      rw [← cx]
      unfold World.cell?
      simp only [hblk]
     ·
      rw [← fx]
      unfold World.frozen?
      simp only [hblk])
    have HSB : Hid (∀ W, Below w5.heap.size w5 W → W.cell? ⟨b, m, none⟩ = some (.int .i64 s) ∧ W.frozen? ⟨b, m, none⟩ = false ∧ KeepBut w5 W rb none) := Lib.hid (fun W hW => by
     have hblk : W.heap[b]? = w5.heap[b]? := hW.block b hb5
     refine ⟨?_, ?_, keep_below rb hW⟩
     ·
      rw [← cx]
      unfold World.cell?
      simp only [hblk]
     ·
      rw [← fx]
      unfold World.frozen?
      simp only [hblk])
    go_wp2
    have hcA : ∀ o, (w5.alloc o).cell? ⟨b, m, none⟩ = some (.int .i64 s) := fun o => (HSB.out _ ((Below.refl _ _).alloc (Nat.le_refl _) _)).1
    go_region_with (first | (go_at_call 96; refine (HCALL.out w5.drew [0, 1, 5, -1, 40] (Below.refl _ _).drew (by decide) (by decide)).mono ?_; rintro e w6 ⟨v6, rfl, hv6, hS6, hB6, hX1, hX2, hX3⟩))
    all_goals
     have hv7 : -1 ≤ v6 ∧ v6 ≤ 40 := by simp at hv6; omega
     have hR6 := Kd.R_putn (Kd.R_keep HR5.out hX3 (fun q hq => hq)) (m : Int) (s + v6)
     rw [Int.toNat_natCast] at hR6
     have hsb' := StB.set HSB2.out m (x := s + v6) (by omega) (by omega)
     have hbel : Below w0.heap.size w0 (w6.setCell ⟨b, m, none⟩ (.int .i64 (s + v6))) := hB6.setCell (p := ⟨b, m, none⟩) (by have h02 := H2.out.2.2.1.size; show w0.heap.size ≤ b; omega) _
     have hkp : KeepBut w2 (w6.setCell ⟨b, m, none⟩ (.int .i64 (s + v6))) rb none := by
      have h26 : KeepBut w2 w6 rb none := keep_trans HH.out.2.2.2 (keep_trans H5.out.2.2 hX3)
      refine ⟨by rw [World.size_setCell]; exact h26.1, fun i hi h1 h2 => ?_⟩
      rw [Below.heap_setCell w6 ⟨b, m, none⟩ _ i (by show i ≠ b; omega)]
      exact h26.2 i hi h1 h2
     have hrd : RdSt w0 (w6.setCell ⟨b, m, none⟩ (.int .i64 (s + v6))) rb (M + 12 - 2 * (k - 1 : Nat)) := (RdSt.far hS6 hbr _).wide (by omega)
     have HEND := Lib.hid (And.intro hR6 (And.intro hrd (And.intro hbel hkp)))
     have HSB3 := Lib.hid (hsb'.wide (k' := 2 - (k - 1 : Nat)) (by omega))
     have hk1 : IntKind.i64.wrap ((k : Int) - 1) = ((k - 1 : Nat) : Int) := by rw [show (k : Int) - 1 = ((k - 1 : Nat) : Int) by omega]; exact IntWalk.i64_in _ (by omega)
     have hwr : IntKind.i64.wrap (s + v6) = s + v6 := IntWalk.i64_in _ (by omega)
     clear hR6 hrd hbel hkp hsb' hv6 hv7 hX1 hX2 hX3 hS6 hB6 hsx
     go_wp2
     clear hwr hk1
     exact ⟨⟨k - 1, st.set m (s + v6), rfl, by omega, by rw [List.length_set]; exact hsl, HSB3.out, HEND⟩, by simp [intOf]; omega⟩
theorem RdSt_new {w0 W : World} {rb : Nat} {M : Int} (h : RdSt w0 W rb M) : w0.heap.size ≤ rb := by
 obtain ⟨b, p, ⟨A0, c0, h1, h2, h3⟩, _⟩ := h
 exact h2
theorem newReader_new (A : Option Addr) (c : Nat) (l : List Int) (hb : ∀ x ∈ l, 0 ≤ x ∧ x < 256) (w : World) (hr : (Kd.int .u8).C w A l.length l) (hc : l.length ≤ c) :
  Calls Tryz.prog 51 #[.slice A l.length c] w fun e w' => ∃ rb, e = .returned (.pointer (some ⟨rb, 0, none⟩)) ∧ w.heap.size ≤ rb ∧ RdSt w w' rb 0 ∧ Below w.heap.size w w' := by
 refine (newReader_any A c l hb w hr hc).mono ?_
 rintro e w' ⟨rb, he, hS, hB⟩
 exact ⟨rb, he, RdSt_new hS, hS, hB⟩
theorem results_tmp4 {fn : Func} {t u v x : Tmp} (h : fn.results = #[.tmp t, .tmp u, .tmp v, .tmp x]) (tmps : Array Value) (P : Program) (w : World) :
  (results fn tmps).run P w = .ok (.tuple #[tmps.getD t undef, tmps.getD u undef, tmps.getD v undef, tmps.getD x undef]) w := by
 simp [results, h]
theorem results_tmp5 {fn : Func} {t u v x y : Tmp} (h : fn.results = #[.tmp t, .tmp u, .tmp v, .tmp x, .tmp y]) (tmps : Array Value) (P : Program) (w : World) :
  (results fn tmps).run P w = .ok (.tuple #[tmps.getD t undef, tmps.getD u undef, tmps.getD v undef, tmps.getD x undef, tmps.getD y undef]) w := by
 simp [results, h]
def DrSt (w : World) (e : Ending) (w' : World) : Prop := ∃ rb A1 c1 g A2 c2 rm wk A3 c3 st, e = .returned (.tuple #[.slice A1 g.length c1, .slice A2 rm.length c2, .int .i64 wk, .slice A3 st.length c3]) ∧ StG w' rb A1 g ∧ StI w' rb A2 rm ∧ StI w' rb A3 st ∧ w.heap.size ≤ rb ∧ g.length ≤ 16 ∧ st.length ≤ 8 ∧ (0 ≤ wk ∧ wk ≤ 5) ∧ SOk st ∧ Below w.heap.size w w'
set_option maxRecDepth 100000 in
theorem DrawValidStarts_any (A : Option Addr) (c : Nat) (l : List Int) (hb : ∀ x ∈ l, 0 ≤ x ∧ x < 256) (w : World) (hr : (Kd.int .u8).C w A l.length l) (hc : l.length ≤ c) :
  Calls Tryz.prog 23 #[.slice A l.length c] w (DrSt w) := by
 have HN := Lib.hid (newReader_new A c l hb w hr hc)
 clear hb hr hc
 go_enter Tryz.func23, Tryz.ntmps23
 go_wp2_with (first | (go_at_call 51; refine HN.out.mono ?_; rintro e w1 ⟨rb, rfl, hrb, hS1, hB1⟩; have H1 := Lib.hid (And.intro hS1 hB1); clear hS1 hB1) | (go_at_call 52; refine (anyGraph_any rb 0 (by omega) w _ H1.out.1 H1.out.2).mono ?_; rintro e w2 ⟨A2, c2, g, rfl, hg2, hG2, hok, hS2, hB2, hK2⟩; have H2 := Lib.hid (And.intro hG2 (And.intro hok (And.intro hS2 hB2))); clear hG2 hok hS2 hB2 hK2) | (go_at_call 53; refine (someStarts_any rb _ (by omega) A2 c2 g w _ H2.out.2.2.1 H2.out.2.2.2 H2.out.1).mono ?_; rintro e w3 ⟨A3, c3, rm, wk, A4, c4, st, rfl, h1, h2, hI3, hI4, hl3, hl4, hwk, hsb, hS3, hB3, hK3⟩; have H3 := Lib.hid (And.intro (H2.out.1.keep hK3) (And.intro hI3 (And.intro hI4 (And.intro hsb hB3)))); clear hI3 hI4 hsb hS3 hB3 hK3))
 (try simp only [Exit.inBlock, Exit.then])
 refine bodyPost_ret (results_tmp4 rfl _ _ _) rfl ?_
 exact ⟨rb, _, _, g, _, _, rm, wk, _, _, st, rfl, H3.out.1, H3.out.2.1, H3.out.2.2.1, hrb, H2.out.2.1.1, hl4, hwk, H3.out.2.2.2.1.sok, H3.out.2.2.2.2⟩
theorem DrawChartLines_any (A : Option Addr) (c : Nat) (l : List Int) (hb : ∀ x ∈ l, 0 ≤ x ∧ x < 256) (w : World) (hr : (Kd.int .u8).C w A l.length l) (hc : l.length ≤ c) :
  Calls Tryz.prog 6 #[.slice A l.length c] w (DrSt w) := by
 have HN := Lib.hid (DrawValidStarts_any A c l hb w hr hc)
 clear hb hr hc
 go_enter Tryz.func6, Tryz.ntmps6
 go_wp2_with (go_at_call 23; refine HN.out.mono ?_; rintro e w1 ⟨rb, A1, c1, g, A2, c2, rm, wk, A3, c3, st, rfl, h1⟩; have H1 := Lib.hid h1; clear h1)
 (try simp only [Exit.inBlock, Exit.then])
 refine bodyPost_ret (results_tmp4 rfl _ _ _) rfl ?_
 exact ⟨rb, _, _, g, _, _, rm, wk, _, _, st, rfl, H1.out⟩
def DrSt5 (lo hi : Int) (w : World) (e : Ending) (w' : World) : Prop := ∃ A1 c1 g A2 c2 rm wk A3 c3 st now, e = .returned (.tuple #[.slice A1 g.length c1, .slice A2 rm.length c2, .int .i64 wk, .slice A3 st.length c3, .int .i64 now]) ∧ kTk.C w' A1 g.length g ∧ (Kd.int .i64).C w' A2 rm.length rm ∧ (Kd.int .i64).C w' A3 st.length st ∧ g.length ≤ 16 ∧ st.length ≤ 8 ∧ (0 ≤ wk ∧ wk ≤ 5) ∧ SOk st ∧ (lo ≤ now ∧ now ≤ hi) ∧ Below w.heap.size w w'
end Go.Proofs.YtlapphhcficbjaaGreatDoor

namespace Go.Proofs.YtlapphhcficbjaaGreatDoor
set_option linter.unusedVariables false
set_option linter.unusedSimpArgs false
open Go.RowKit Go.Shelf Bits
def chB (st : List Int) (i : Nat) : Ev := ⟨st.getD i 0, (i : Int), false⟩
def chO (g : List Tk) (st : List Int) (i : Nat) : Ev := ⟨st.getD i 0 + (rdTk g i).f0, (i : Int), true⟩
def chgN (g : List Tk) (st : List Int) : Nat → List Ev
 | 0 => []
 | k + 1 => chgN g st k ++ [chB st k, chO g st k]
def ltE (a b : Ev) : Prop := a.f0 < b.f0 ∨ (a.f0 = b.f0 ∧ ((a.f2 = true ∧ b.f2 = false) ∨ (a.f2 = b.f2 ∧ a.f1 < b.f1)))
instance (a b : Ev) : Decidable (ltE a b) := by unfold ltE; infer_instance
def ltEB (a b : Ev) : Bool := decide (ltE a b)
theorem ltE_irrefl (a : Ev) : ¬ ltE a a := by
 unfold ltE
 rintro (h | ⟨_, ⟨h1, h2⟩ | ⟨_, h⟩⟩)
 ·
  omega
 ·
  rw [h1] at h2; cases h2
 ·
  omega
theorem ltE_trans {a b c : Ev} (h : ltE a b) (k : ltE b c) : ltE a c := by
 unfold ltE at *
 rcases h with h | ⟨h1, h2⟩
 ·
  rcases k with k | ⟨k1, _⟩
  ·
   exact .inl (by omega)
  ·
   exact .inl (by omega)
 ·
  rcases k with k | ⟨k1, k2⟩
  ·
   exact .inl (by omega)
  ·
   refine .inr ⟨by omega, ?_⟩
   rcases h2 with ⟨p, q⟩ | ⟨p, q⟩ <;> rcases k2 with ⟨r, s⟩ | ⟨r, s⟩
   ·
    rw [q] at r; cases r
   ·
    exact .inl ⟨p, by rw [← r]; exact q⟩
   ·
    exact .inl ⟨by rw [p]; exact r, s⟩
   ·
    exact .inr ⟨p.trans r, by omega⟩
theorem ltE_total {a b : Ev} (h : ¬ ltE a b) (k : ¬ ltE b a) : a = b := by
 obtain ⟨a0, a1, a2⟩ := a
 obtain ⟨b0, b1, b2⟩ := b
 unfold ltE at h k
 simp only [not_or, not_and] at h k
 have e0 : a0 = b0 := by omega
 subst e0
 have h2 := h.2 rfl
 have k2 := k.2 rfl
 have e2 : a2 = b2 := by
  cases a2 <;> cases b2 <;> simp_all
 subst e2
 have h3 := h2.2 rfl
 have k3 := k2.2 rfl
 have e1 : a1 = b1 := by omega
 subst e1
 rfl
def chgS (g : List Tk) (st : List Int) : List Ev := (chgN g st g.length).mergeSort fun x y => !ltEB y x
theorem mem_chgN {g : List Tk} {st : List Int} {x : Ev} : ∀ n, x ∈ chgN g st n ↔ ∃ i, i < n ∧ (x = chB st i ∨ x = chO g st i)
 | 0 => by simp [chgN]
 | n + 1 => by
  unfold chgN
  rw [List.mem_append, mem_chgN n]
  simp only [List.mem_cons, List.not_mem_nil, or_false]
  constructor
  ·
   rintro (⟨i, hi, h⟩ | h)
   ·
    exact ⟨i, by omega, h⟩
   ·
    exact ⟨n, by omega, h⟩
  ·
   rintro ⟨i, hi, h⟩
   by_cases hin : i < n
   ·
    exact .inl ⟨i, hin, h⟩
   ·
    obtain rfl : i = n := by omega
    exact .inr h
theorem nodup_chgN (g : List Tk) (st : List Int) : ∀ n, (chgN g st n).Nodup
 | 0 => List.nodup_nil
 | n + 1 => by
  unfold chgN
  rw [List.nodup_append]
  refine ⟨nodup_chgN g st n, by simp [chB, chO], ?_⟩
  intro a ha b hb
  obtain ⟨i, hi, h⟩ := (mem_chgN n).1 ha
  simp only [List.mem_cons, List.not_mem_nil, or_false] at hb
  rintro rfl
  have h1 : a.f1 = i := by rcases h with rfl | rfl <;> rfl
  have h2 : a.f1 = n := by rcases hb with rfl | rfl <;> rfl
  omega
theorem chgS_perm (g : List Tk) (st : List Int) : (chgS g st).Perm (chgN g st g.length) := List.mergeSort_perm _ _
theorem chgS_nodup (g : List Tk) (st : List Int) : (chgS g st).Nodup := (chgS_perm g st).nodup_iff.2 (nodup_chgN g st _)
theorem chgN_len (g : List Tk) (st : List Int) : ∀ n, (chgN g st n).length = 2 * n
 | 0 => rfl
 | n + 1 => by
  unfold chgN
  rw [List.length_append, chgN_len g st n]
  simp
  omega
theorem chgS_len (g : List Tk) (st : List Int) : (chgS g st).length = 2 * g.length := by rw [(chgS_perm g st).length_eq, chgN_len]
theorem chgS_sorted (g : List Tk) (st : List Int) : (chgS g st).Pairwise fun a b => ¬ ltE b a := by
 have h := List.pairwise_mergeSort (le := fun x y => !ltEB y x) (fun a b c h1 h2 => by
  simp only [ltEB, Bool.not_eq_true', decide_eq_false_iff_not] at *
  intro h
  by_cases hab : ltE a b
  ·
   exact h2 (ltE_trans h hab)
  ·
   obtain rfl := ltE_total hab h1
   exact h2 h) (fun a b => by
  simp only [ltEB, Bool.or_eq_true, Bool.not_eq_true', decide_eq_false_iff_not]
  by_cases hab : ltE a b
  ·
   exact .inl (fun h => ltE_irrefl _ (ltE_trans hab h))
  ·
   exact .inr hab) (chgN g st g.length)
 refine List.Pairwise.imp (fun h => ?_) h
 simpa [ltEB] using h
theorem mem_chgS {g : List Tk} {st : List Int} {x : Ev} : x ∈ chgS g st ↔ ∃ i, i < g.length ∧ (x = chB st i ∨ x = chO g st i) := by
 rw [(chgS_perm g st).mem_iff, mem_chgN]
theorem ahead_of {C l1 l2 : List Ev} {e : Ev} (hC : C = l1 ++ e :: l2) (hs : C.Pairwise fun a b => ¬ ltE b a) (hn : C.Nodup) : C.filter (fun x => ltEB x e) = l1 := by
 subst hC
 rw [List.filter_append, List.filter_cons]
 obtain ⟨p1, p2, p3⟩ := List.pairwise_append.1 hs
 obtain ⟨p4, p5⟩ := List.pairwise_cons.1 p2
 rw [List.nodup_append] at hn
 have h1 : l1.filter (fun x => ltEB x e) = l1 := by
  rw [List.filter_eq_self]
  intro a ha
  unfold ltEB
  apply decide_eq_true
  have h2 := p3 a ha e List.mem_cons_self
  by_cases hae : ltE a e
  ·
   exact hae
  ·
   exact absurd (ltE_total hae h2) (hn.2.2 a ha e List.mem_cons_self)
 have h2 : l2.filter (fun x => ltEB x e) = [] := by
  rw [List.filter_eq_nil_iff]
  intro a ha
  have := p4 a ha
  simpa [ltEB] using this
 rw [h1, h2, if_neg (by simp [ltEB, ltE_irrefl])]
 simp
theorem perm_sum {l1 l2 : List Int} (h : l1.Perm l2) : l1.sum = l2.sum := by
 induction h with
 | nil => rfl
 | cons x _ ih => simp [ih]
 | swap x y l => simp; omega
 | trans _ _ a b => rw [a, b]
def sgn (e : Ev) : Int := if e.f2 then -1 else 1
def unU (g : List Tk) (p : Int) (e : Ev) : Int := if (rdTk g e.f1.toNat).f2 = p then sgn e * (rdTk g e.f1.toNat).f3 else 0
def cOf (g : List Tk) (l : List Ev) : Ct := ⟨(l.map sgn).sum, fun p => (l.map (unU g p)).sum⟩
def dStep (d : Nat) (e : Ev) : Nat := if e.f2 then d ||| 2 ^ e.f1.toNat else d
def dOf (l : List Ev) : Nat := l.foldl dStep 0
theorem dOf_snoc (l : List Ev) (e : Ev) : dOf (l ++ [e]) = dStep (dOf l) e := by
 unfold dOf
 rw [List.foldl_append]
 rfl
theorem dOf_bit (j : Nat) : ∀ (l : List Ev) (d : Nat), (l.foldl dStep d).testBit j = (d.testBit j || l.any fun e => e.f2 && decide (e.f1.toNat = j))
 | [], d => by simp
 | e :: l, d => by
  rw [List.foldl_cons, dOf_bit j l, List.any_cons]
  unfold dStep
  cases e.f2
  ·
   simp
  ·
   rw [if_pos rfl, or_bit]
   cases d.testBit j <;> simp
theorem cOf_snoc {g : List Tk} {p : Nat} {l : List Ev} {e : Ev} (hp : (rdTk g e.f1.toNat).f2 = (p : Int)) : cOf g (l ++ [e]) = (cOf g l).add p (rdTk g e.f1.toNat).f3 (sgn e) := by
 unfold cOf Ct.add
 simp only [List.map_append, List.map_cons, List.map_nil, List.sum_append, List.sum_cons, List.sum_nil, Int.add_zero]
 congr 1
 funext j
 unfold unU
 rw [hp]
 by_cases h : j = p
 ·
  subst h
  rw [if_pos rfl, if_pos rfl]
 ·
  rw [if_neg h, if_neg (fun e => h (by omega)), Int.add_zero]
def okE (g : List Tk) (ns : List Nat) (rm : List Int) (wk : Int) (l : List Ev) (e : Ev) : Bool :=
 e.f2 || (decide (diff (ns.getD e.f1.toNat 0) (dOf l) = 0) && (cOf g l).can (rdTk g e.f1.toNat).f2.toNat (rdTk g e.f1.toNat).f3 rm wk)
def zEvD : Ev := ⟨0, 0, false⟩
def okAllB (g : List Tk) (ns : List Nat) (rm : List Int) (wk : Int) (C : List Ev) : Bool := (List.range C.length).all fun q => okE g ns rm wk (C.take q) (rdEv C q)
def startsB (g : List Tk) (ns : List Nat) (rm : List Int) (wk : Int) (st : List Int) : Bool := okAllB g ns rm wk (chgS g st)
def sumF (F : Ev → Int) (P : Ev → Bool) (x : Ev) : Int := if P x then F x else 0
theorem filt_sum (F : Ev → Int) (P : Ev → Bool) (g : List Tk) (st : List Int) : ∀ n, (((chgN g st n).filter P).map F).sum = sumTo (fun i => sumF F P (chB st i) + sumF F P (chO g st i)) n
 | 0 => rfl
 | n + 1 => by
  unfold chgN sumTo
  rw [List.filter_append, List.map_append, List.sum_append, filt_sum F P g st n]
  congr 1
  simp only [List.filter_cons, List.filter_nil]
  unfold sumF
  by_cases h1 : P (chB st n) = true <;> by_cases h2 : P (chO g st n) = true <;> simp [h1, h2]
def actB (g : List Tk) (st : List Int) (i k : Nat) : Bool := (decide (st.getD k 0 < st.getD i 0) || (decide (st.getD k 0 = st.getD i 0) && decide (k < i))) && decide (st.getD i 0 < st.getD k 0 + (rdTk g k).f0)
theorem lt_BB {st : List Int} {i k : Nat} : ltE (chB st k) (chB st i) ↔ st.getD k 0 < st.getD i 0 ∨ (st.getD k 0 = st.getD i 0 ∧ k < i) := by
 unfold ltE chB
 simp
theorem lt_OB {g : List Tk} {st : List Int} {i k : Nat} : ltE (chO g st k) (chB st i) ↔ st.getD k 0 + (rdTk g k).f0 ≤ st.getD i 0 := by
 unfold ltE chO chB
 simp only [true_and]
 constructor
 ·
  rintro (h | ⟨h, _⟩) <;> omega
 ·
  intro h
  by_cases hc : st.getD k 0 + (rdTk g k).f0 < st.getD i 0
  ·
   exact .inl hc
  ·
   exact .inr ⟨by omega, .inl trivial⟩
theorem sgn_ahead {g : List Tk} (hok : TOk g) {st : List Int} {i k : Nat} (hk : k < g.length) : sumF sgn (fun x => ltEB x (chB st i)) (chB st k) + sumF sgn (fun x => ltEB x (chB st i)) (chO g st k) = if actB g st i k then 1 else 0 := by
 have ht := hok.2.2.2.2 k hk
 have e1 : ltEB (chB st k) (chB st i) = (decide (st.getD k 0 < st.getD i 0) || (decide (st.getD k 0 = st.getD i 0) && decide (k < i))) := by
  unfold ltEB
  rw [Bool.eq_iff_iff, decide_eq_true_iff, lt_BB]
  simp
 have e2 : ltEB (chO g st k) (chB st i) = decide (st.getD k 0 + (rdTk g k).f0 ≤ st.getD i 0) := by
  unfold ltEB
  rw [decide_eq_decide, lt_OB]
 unfold sumF actB
 simp only [e1, e2]
 have s1 : sgn (chB st k) = 1 := rfl
 have s2 : sgn (chO g st k) = -1 := rfl
 rw [s1, s2]
 by_cases h1 : st.getD k 0 + (rdTk g k).f0 ≤ st.getD i 0
 ·
  have h2 : st.getD k 0 < st.getD i 0 := by omega
  rw [decide_eq_true h1, decide_eq_true h2, decide_eq_false (show ¬ st.getD i 0 < st.getD k 0 + (rdTk g k).f0 by omega)]
  simp
 ·
  rw [decide_eq_false h1, decide_eq_true (show st.getD i 0 < st.getD k 0 + (rdTk g k).f0 by omega)]
  simp
theorem un_ahead {g : List Tk} (hok : TOk g) {st : List Int} {i k : Nat} (p : Int) (hk : k < g.length) : sumF (unU g p) (fun x => ltEB x (chB st i)) (chB st k) + sumF (unU g p) (fun x => ltEB x (chB st i)) (chO g st k) = if actB g st i k && decide ((rdTk g k).f2 = p) then (rdTk g k).f3 else 0 := by
 have h := sgn_ahead hok (st := st) (i := i) hk
 unfold sumF at h ⊢
 simp only [] at h ⊢
 have u1 : unU g p (chB st k) = if (rdTk g k).f2 = p then (rdTk g k).f3 else 0 := by
  unfold unU
  show (if (rdTk g ((k : Nat) : Int).toNat).f2 = p then 1 * (rdTk g ((k : Nat) : Int).toNat).f3 else 0) = _
  rw [Int.toNat_natCast, Int.one_mul]
 have u2 : unU g p (chO g st k) = if (rdTk g k).f2 = p then -(rdTk g k).f3 else 0 := by
  unfold unU
  show (if (rdTk g ((k : Nat) : Int).toNat).f2 = p then (-1) * (rdTk g ((k : Nat) : Int).toNat).f3 else 0) = _
  rw [Int.toNat_natCast]
  split <;> omega
 have s1 : sgn (chB st k) = 1 := rfl
 have s2 : sgn (chO g st k) = -1 := rfl
 rw [s1, s2] at h
 rw [u1, u2]
 by_cases h4 : (rdTk g k).f2 = p
 ·
  rw [if_pos h4, if_pos h4, decide_eq_true h4, Bool.and_true]
  by_cases h1 : ltEB (chB st k) (chB st i) = true <;> by_cases h2 : ltEB (chO g st k) (chB st i) = true <;> by_cases h3 : actB g st i k = true <;> simp [h1, h2, h3] at h ⊢ <;> omega
 ·
  simp [h4]
def actS (g : List Tk) (st : List Int) (i : Nat) : List Nat := (List.range g.length).filter (actB g st i)
theorem sumTo_count {P : Nat → Bool} : ∀ n, sumTo (fun k => if P k then 1 else 0) n = (((List.range n).filter P).length : Nat)
 | 0 => rfl
 | n + 1 => by
  unfold sumTo
  rw [sumTo_count n, List.range_succ, List.filter_append]
  cases h : P n <;> simp [h]
theorem sumTo_used {g : List Tk} {P : Nat → Bool} {p : Int} : ∀ n, sumTo (fun k => if P k && decide ((rdTk g k).f2 = p) then (rdTk g k).f3 else 0) n = usedS g ((List.range n).filter P) p
 | 0 => rfl
 | n + 1 => by
  unfold sumTo
  rw [sumTo_used n, List.range_succ, List.filter_append]
  cases h : P n
  ·
   simp [h]
  ·
   rw [show List.filter P [n] = [n] by simp [h], usedS_snoc]
   simp [h]
theorem sumTo_congr {f h : Nat → Int} : ∀ n, (∀ i, i < n → f i = h i) → sumTo f n = sumTo h n
 | 0, _ => rfl
 | n + 1, hh => by
  unfold sumTo
  rw [sumTo_congr n (fun i hi => hh i (by omega)), hh n (by omega)]
theorem ahead_sum {g : List Tk} {st : List Int} {l1 l2 : List Ev} {e : Ev} (hC : chgS g st = l1 ++ e :: l2) (F : Ev → Int) : (l1.map F).sum = sumTo (fun k => sumF F (fun x => ltEB x e) (chB st k) + sumF F (fun x => ltEB x e) (chO g st k)) g.length := by
 have h := ahead_of hC (chgS_sorted g st) (chgS_nodup g st)
 rw [← filt_sum, ← h]
 exact perm_sum (((chgS_perm g st).filter _).map F)
theorem cOf_ahead {g : List Tk} (hok : TOk g) {st : List Int} {l1 l2 : List Ev} {i : Nat} (hC : chgS g st = l1 ++ chB st i :: l2) : (cOf g l1).t = ((actS g st i).length : Nat) ∧ ∀ p : Nat, (cOf g l1).u p = usedS g (actS g st i) p := by
 constructor
 ·
  show (l1.map sgn).sum = _
  rw [ahead_sum hC sgn, sumTo_congr _ (fun k hk => sgn_ahead hok hk), sumTo_count]
  rfl
 ·
  intro p
  show (l1.map (unU g p)).sum = _
  rw [ahead_sum hC (unU g p), sumTo_congr _ (fun k hk => un_ahead hok (p : Int) hk), sumTo_used]
  rfl
theorem dOf_ahead {g : List Tk} {st : List Int} {l1 l2 : List Ev} {i : Nat} (hC : chgS g st = l1 ++ chB st i :: l2) (j : Nat) : (dOf l1).testBit j = decide (j < g.length ∧ st.getD j 0 + (rdTk g j).f0 ≤ st.getD i 0) := by
 unfold dOf
 rw [dOf_bit, Nat.zero_testBit, Bool.false_or, Bool.eq_iff_iff, List.any_eq_true, decide_eq_true_iff, ← ahead_of hC (chgS_sorted g st) (chgS_nodup g st)]
 constructor
 ·
  rintro ⟨x, hx, h⟩
  rw [List.mem_filter] at hx
  rw [Bool.and_eq_true, decide_eq_true_iff] at h
  obtain ⟨k, hk, hh⟩ := mem_chgS.1 hx.1
  rcases hh with rfl | rfl
  ·
   exact absurd h.1 (by simp [chB])
  ·
   have e : k = j := by have := h.2; simpa [chO] using this
   subst e
   exact ⟨hk, lt_OB.1 (of_decide_eq_true hx.2)⟩
 ·
  rintro ⟨hj, h⟩
  refine ⟨chO g st j, List.mem_filter.2 ⟨mem_chgS.2 ⟨j, hj, .inr rfl⟩, decide_eq_true (lt_OB.2 h)⟩, ?_⟩
  simp [chO]
def canAt (g : List Tk) (rm : List Int) (wk : Int) (st : List Int) (i : Nat) : Prop :=
 (∀ k : Nat, (k : Int) ∈ (rdTk g i).f1 → st.getD k 0 + (rdTk g k).f0 ≤ st.getD i 0) ∧ ((actS g st i).length : Int) < wk ∧ usedS g (actS g st i) (rdTk g i).f2 + (rdTk g i).f3 ≤ rm.getD (rdTk g i).f2.toNat 0
theorem rdEv_of {C : List Ev} {q : Nat} (hq : q < C.length) : C = C.take q ++ rdEv C q :: C.drop (q + 1) := by
 have : rdEv C q = C[q] := by
  unfold rdEv
  rw [List.getD_eq_getElem?_getD, List.getElem?_eq_getElem hq]
  rfl
 rw [this, ← List.drop_eq_getElem_cons hq, List.take_append_drop]
theorem okE_begin {g : List Tk} {ns : List Nat} (hg : graphN g = some ns) {rm : List Int} {wk : Int} {st : List Int} {l1 l2 : List Ev} {i : Nat} (hi : i < g.length) (hC : chgS g st = l1 ++ chB st i :: l2) : okE g ns rm wk l1 (chB st i) = true ↔ canAt g rm wk st i := by
 have hok := specValid_TOk (graphN_spec hg)
 obtain ⟨h1, h2⟩ := cOf_ahead hok hC
 have h3 := dOf_ahead hC
 have hp := hok.2.2.1 i
 unfold okE canAt
 show (false || (decide (diff (ns.getD ((i : Nat) : Int).toNat 0) (dOf l1) = 0) && (cOf g l1).can (rdTk g ((i : Nat) : Int).toNat).f2.toNat (rdTk g ((i : Nat) : Int).toNat).f3 rm wk)) = true ↔ _
 rw [Int.toNat_natCast, Bool.false_or, Bool.and_eq_true, decide_eq_true_iff, diff_zero]
 unfold Ct.can
 rw [Bool.and_eq_true, decide_eq_true_iff, decide_eq_true_iff, h1, h2, show (((rdTk g i).f2.toNat : Nat) : Int) = (rdTk g i).f2 by omega]
 have hn : (∀ k, (ns.getD i 0).testBit k = true → (dOf l1).testBit k = true) ↔ ∀ k : Nat, (k : Int) ∈ (rdTk g i).f1 → st.getD k 0 + (rdTk g k).f0 ≤ st.getD i 0 := by
  constructor
  ·
   intro h k hk
   have := h k (by rw [need_bit hg hi]; exact decide_eq_true hk)
   rw [h3] at this
   exact (of_decide_eq_true this).2
  ·
   intro h k hk
   rw [need_bit hg hi] at hk
   have hk := of_decide_eq_true hk
   have hl := spec_needs_in (graphN_spec hg) i hi _ hk
   rw [h3]
   exact decide_eq_true ⟨by omega, h k hk⟩
 rw [hn]
theorem startsB_iff {g : List Tk} {ns : List Nat} (hg : graphN g = some ns) {rm : List Int} {wk : Int} {st : List Int} : startsB g ns rm wk st = true ↔ ∀ i, i < g.length → canAt g rm wk st i := by
 unfold startsB okAllB
 rw [List.all_eq_true]
 constructor
 ·
  intro h i hi
  have hm : chB st i ∈ chgS g st := mem_chgS.2 ⟨i, hi, .inl rfl⟩
  obtain ⟨q, hq, e⟩ := List.getElem_of_mem hm
  have h1 := h q (List.mem_range.2 hq)
  have e2 : rdEv (chgS g st) q = chB st i := by
   unfold rdEv
   rw [List.getD_eq_getElem?_getD, List.getElem?_eq_getElem hq]
   exact e
  have hC := rdEv_of hq
  rw [e2] at h1 hC
  exact (okE_begin hg hi hC).1 h1
 ·
  intro h q hq
  have hq := List.mem_range.1 hq
  have hC := rdEv_of hq
  have hm : rdEv (chgS g st) q ∈ chgS g st := by
   unfold rdEv
   rw [List.getD_eq_getElem?_getD, List.getElem?_eq_getElem hq]
   exact List.getElem_mem _
  obtain ⟨i, hi, hh⟩ := mem_chgS.1 hm
  rcases hh with e | e
  ·
   rw [e] at hC ⊢
   exact (okE_begin hg hi hC).2 (h i hi)
  ·
   rw [e]
   rfl
def runOk (g : List Tk) (rm : List Int) (wk : Int) (st : List Int) (i : Nat) : Prop :=
 (∀ k : Nat, (k : Int) ∈ (rdTk g i).f1 → st.getD k 0 + (rdTk g k).f0 ≤ st.getD i 0) ∧ ((runS g st (st.getD i 0)).length : Int) ≤ wk ∧ ∀ p : Nat, p < 3 → usedS g (runS g st (st.getD i 0)) p ≤ rm.getD p 0
theorem usedS_filter (g : List Tk) (p : Int) {P Q : Nat → Bool} (hok : TOk g) : ∀ n, (∀ k, k < n → P k = true → (rdTk g k).f2 = p → Q k = true) → usedS g ((List.range n).filter P) p ≤ usedS g ((List.range n).filter Q) p := by
 intro n h
 rw [← sumTo_used, ← sumTo_used]
 refine sumTo_le n (fun k hk => ?_)
 have hb := hok.2.2.2.1 k
 by_cases h1 : P k = true
 ·
  by_cases h2 : (rdTk g k).f2 = p
  ·
   rw [h1, h k hk h1 h2]
   exact Int.le_refl _
  ·
   simp [h2]
 ·
  have : P k = false := by simpa using h1
  rw [this]
  simp only [Bool.false_and, Bool.false_eq_true, if_false]
  split <;> omega
theorem actB_iff {g : List Tk} {st : List Int} {i k : Nat} : actB g st i k = true ↔ (st.getD k 0 < st.getD i 0 ∨ (st.getD k 0 = st.getD i 0 ∧ k < i)) ∧ st.getD i 0 < st.getD k 0 + (rdTk g k).f0 := by
 unfold actB
 rw [Bool.and_eq_true, Bool.or_eq_true, Bool.and_eq_true, decide_eq_true_iff, decide_eq_true_iff, decide_eq_true_iff, decide_eq_true_iff]
theorem runB_iff {g : List Tk} {st : List Int} {now : Int} {k : Nat} : runB g st now k = true ↔ st.getD k 0 ≤ now ∧ now < st.getD k 0 + (rdTk g k).f0 := by
 unfold runB
 rw [Bool.and_eq_true, decide_eq_true_iff, decide_eq_true_iff]
theorem act_self {g : List Tk} {st : List Int} {i : Nat} (hi : i < g.length) : ((actS g st i).length : Int) + 1 = (((List.range g.length).filter fun k => actB g st i k || decide (k = i)).length : Nat) ∧ ∀ p, usedS g (actS g st i) p + (if (rdTk g i).f2 = p then (rdTk g i).f3 else 0) = usedS g ((List.range g.length).filter fun k => actB g st i k || decide (k = i)) p := by
 have hs : actB g st i i = false := by
  cases h : actB g st i i with
  | false => rfl
  | true => have := actB_iff.1 h; omega
 have key : ∀ (f : Nat → Int) n, i < n → sumTo (fun k => if actB g st i k then f k else 0) n + f i = sumTo (fun k => if actB g st i k || decide (k = i) then f k else 0) n := by
  intro f n
  induction n with
  | zero => intro h; omega
  | succ n ih =>
   intro h
   unfold sumTo
   by_cases hin : i < n
   ·
    have := ih hin
    rw [show decide (n = i) = false from decide_eq_false (by omega), Bool.or_false]
    omega
   ·
    obtain rfl : i = n := by omega
    rw [hs, decide_eq_true rfl, Bool.false_or]
    have : sumTo (fun k => if actB g st i k then f k else 0) i = sumTo (fun k => if actB g st i k || decide (k = i) then f k else 0) i := sumTo_congr i (fun k hk => by rw [decide_eq_false (show ¬ k = i by omega), Bool.or_false])
    rw [this]
    simp
 constructor
 ·
  unfold actS
  rw [← sumTo_count, ← sumTo_count]
  exact key (fun _ => 1) _ hi
 ·
  intro p
  unfold actS
  rw [← sumTo_used, ← sumTo_used]
  have h := key (fun k => if (rdTk g k).f2 = p then (rdTk g k).f3 else 0) _ hi
  have e : ∀ (P : Nat → Bool) n, sumTo (fun k => if P k && decide ((rdTk g k).f2 = p) then (rdTk g k).f3 else 0) n = sumTo (fun k => if P k then (if (rdTk g k).f2 = p then (rdTk g k).f3 else 0) else 0) n := fun P n => sumTo_congr n (fun k _ => by
   cases P k <;> simp)
  rw [e, e]
  exact h
theorem last_of {st : List Int} {P : Nat → Bool} : ∀ n, (∃ k, k < n ∧ P k = true) → ∃ j, j < n ∧ P j = true ∧ ∀ k, k < n → P k = true → st.getD k 0 < st.getD j 0 ∨ (st.getD k 0 = st.getD j 0 ∧ k ≤ j)
 | 0, ⟨_, h, _⟩ => absurd h (Nat.not_lt_zero _)
 | n + 1, h => by
  by_cases hc : ∃ k, k < n ∧ P k = true
  ·
   obtain ⟨j, h1, h2, h3⟩ := last_of n hc
   by_cases hn : P n = true
   ·
    by_cases hl : st.getD n 0 < st.getD j 0
    ·
     refine ⟨j, by omega, h2, fun k hk hp => ?_⟩
     by_cases hkn : k < n
     ·
      exact h3 k hkn hp
     ·
      obtain rfl : k = n := by omega
      exact .inl hl
    ·
     refine ⟨n, by omega, hn, fun k hk hp => ?_⟩
     by_cases hkn : k < n
     ·
      rcases h3 k hkn hp with h | ⟨h, _⟩
      ·
       by_cases he : st.getD k 0 = st.getD n 0
       ·
        exact .inr ⟨he, by omega⟩
       ·
        exact .inl (by omega)
      ·
       by_cases he : st.getD k 0 = st.getD n 0
       ·
        exact .inr ⟨he, by omega⟩
       ·
        exact .inl (by omega)
     ·
      obtain rfl : k = n := by omega
      exact .inr ⟨rfl, Nat.le_refl _⟩
   ·
    refine ⟨j, by omega, h2, fun k hk hp => ?_⟩
    by_cases hkn : k < n
    ·
     exact h3 k hkn hp
    ·
     obtain rfl : k = n := by omega
     exact absurd hp hn
  ·
   obtain ⟨k, hk, hp⟩ := h
   have hkn : k = n := by
    by_cases hk' : k < n
    ·
     exact absurd ⟨k, hk', hp⟩ hc
    ·
     omega
   subst hkn
   refine ⟨k, by omega, hp, fun q hq hpq => ?_⟩
   by_cases hqn : q < k
   ·
    exact absurd ⟨q, hqn, hpq⟩ hc
   ·
    obtain rfl : q = k := by omega
    exact .inr ⟨rfl, Nat.le_refl _⟩
theorem filter_len_le {P Q : Nat → Bool} (n : Nat) (h : ∀ k, k < n → P k = true → Q k = true) : ((List.range n).filter P).length ≤ ((List.range n).filter Q).length := by
 have h1 := sumTo_count (P := P) n
 have h2 := sumTo_count (P := Q) n
 have h3 := sumTo_le (f := fun k => if P k then 1 else 0) (h := fun k => if Q k then 1 else 0) n (fun k hk => by
  by_cases hp : P k = true
  ·
   rw [hp, h k hk hp]
   exact Int.le_refl _
  ·
   have : P k = false := by simpa using hp
   rw [this]
   simp only [Bool.false_eq_true, if_false]
   split <;> omega)
 omega
theorem can_run {g : List Tk} (hok : TOk g) {rm : List Int} (hrm : ∀ p, p < 3 → 4 ≤ rm.getD p 0) {wk : Int} {st : List Int} : (∀ i, i < g.length → canAt g rm wk st i) ↔ ∀ i, i < g.length → runOk g rm wk st i := by
 constructor
 ·
  intro h i hi
  have hti := hok.2.2.2.2 i hi
  obtain ⟨j, hj, hp, hl⟩ := last_of (st := st) (P := runB g st (st.getD i 0)) g.length ⟨i, hi, runB_iff.2 (by omega)⟩
  have hjr := runB_iff.1 hp
  refine ⟨(h i hi).1, ?_, fun p hp3 => ?_⟩
  ·
   have h1 := (act_self (st := st) hj).1
   have h2 := (h j hj).2.1
   have h3 := filter_len_le (P := runB g st (st.getD i 0)) (Q := fun k => actB g st j k || decide (k = j)) g.length (fun k hk hpk => by
    have hr := runB_iff.1 hpk
    by_cases hkj : k = j
    ·
     rw [decide_eq_true hkj, Bool.or_true]
    ·
     rw [actB_iff.2 ?_]
     ·
      rfl
     ·
      rcases hl k hk hpk with hh | hh
      ·
       exact ⟨.inl hh, by omega⟩
      ·
       exact ⟨.inr ⟨hh.1, by omega⟩, by omega⟩)
   unfold runS
   omega
  ·
   by_cases hex : ∃ k, k < g.length ∧ (runB g st (st.getD i 0) k && decide ((rdTk g k).f2 = p)) = true
   ·
    obtain ⟨q, hq, hqp, hql⟩ := last_of (st := st) (P := fun k => runB g st (st.getD i 0) k && decide ((rdTk g k).f2 = p)) g.length hex
    rw [Bool.and_eq_true, decide_eq_true_iff] at hqp
    have hqr := runB_iff.1 hqp.1
    have h1 := (act_self (st := st) hq).2 p
    rw [if_pos hqp.2] at h1
    have h2 := (h q hq).2.2
    rw [hqp.2, Int.toNat_natCast] at h2
    have h3 := usedS_filter g p (P := runB g st (st.getD i 0)) (Q := fun k => actB g st q k || decide (k = q)) hok g.length (fun k hk hpk hpp => by
     have hr := runB_iff.1 hpk
     by_cases hkq : k = q
     ·
      rw [decide_eq_true hkq, Bool.or_true]
     ·
      rw [actB_iff.2 ?_]
      ·
       rfl
      ·
       rcases hql k hk (by rw [hpk, decide_eq_true hpp]; rfl) with hh | hh
       ·
        exact ⟨.inl hh, by omega⟩
       ·
        exact ⟨.inr ⟨hh.1, by omega⟩, by omega⟩)
    unfold runS
    omega
   ·
    have h3 := usedS_filter g p (P := runB g st (st.getD i 0)) (Q := fun _ => false) hok g.length (fun k hk hpk hpp => absurd ⟨k, hk, by rw [hpk, decide_eq_true hpp]; rfl⟩ hex)
    have h4 := hrm p hp3
    have h5 : usedS g ((List.range g.length).filter fun _ => false) p = 0 := by
     rw [show (List.range g.length).filter (fun _ => false) = [] by simp]
     rfl
    unfold runS
    omega
 ·
  intro h i hi
  obtain ⟨h1, h2, h3⟩ := h i hi
  have hti := hok.2.2.2.2 i hi
  have hpi := hok.2.2.1 i
  have hsub : ∀ k, k < g.length → (actB g st i k || decide (k = i)) = true → runB g st (st.getD i 0) k = true := fun k hk hh => by
   rw [Bool.or_eq_true, decide_eq_true_iff] at hh
   rcases hh with hh | hh
   ·
    have := actB_iff.1 hh
    exact runB_iff.2 (by omega)
   ·
    subst hh
    exact runB_iff.2 (by omega)
  have ha := act_self (st := st) hi
  refine ⟨h1, ?_, ?_⟩
  ·
   have := filter_len_le g.length hsub
   have e := ha.1
   unfold runS at h2
   omega
  ·
   have e := ha.2 (rdTk g i).f2
   rw [if_pos rfl] at e
   have := usedS_filter g (rdTk g i).f2 (P := fun k => actB g st i k || decide (k = i)) (Q := runB g st (st.getD i 0)) hok g.length (fun k hk hp _ => hsub k hk hp)
   have h4 := h3 (rdTk g i).f2.toNat (by omega)
   rw [show (((rdTk g i).f2.toNat : Nat) : Int) = (rdTk g i).f2 by omega] at h4
   unfold runS at h4
   omega
end Go.Proofs.YtlapphhcficbjaaGreatDoor

namespace Go.Proofs.YtlapphhcficbjaaGreatDoor
set_option linter.unusedVariables false
set_option linter.unusedSimpArgs false
open Go.RowKit Go.Shelf Bits
def vRunB (g : List Tk) (rm : List Int) (run : List Nat) : Bool := specValid g && (roomB rm && (ascB (ints run) && (allInB (ints run) 0 (g.length - 1) && (List.range 3).all fun p => decide (usedS g run (p : Nat) ≤ rm.getD p 0))))
def needsOkB (g : List Tk) (st : List Int) (i : Nat) : Bool := (rdTk g i).f1.all fun x => decide (st.getD x.toNat 0 + (rdTk g x.toNat).f0 ≤ st.getD i 0)
def startOkB (g : List Tk) (rm : List Int) (wk : Int) (st : List Int) (i : Nat) : Bool :=
 needsOkB g st i && (decide (((runS g st (st.getD i 0)).length : Int) ≤ wk) && vRunB g rm (runS g st (st.getD i 0)))
def vStB (g : List Tk) (rm : List Int) (wk : Int) (st : List Int) : Bool := specValid g && (roomB rm && (inB wk 1 4 && (decide (st.length = g.length) && (allInB st 0 200 && (List.range g.length).all (startOkB g rm wk st)))))
def stN (g : List Tk) (rm : List Int) (wk : Int) (st : List Int) : Bool := match graphN g with
 | some ns => placeB rm wk && (decide (st.length = g.length) && (allInB st 0 200 && startsB g ns rm wk st))
 | none => false
theorem ascB_filter (P : Nat → Bool) (n : Nat) : ascB (ints ((List.range n).filter P)) = true := by
 have h : ((List.range n).filter P).Pairwise (· < ·) := List.Pairwise.filter P List.pairwise_lt_range
 generalize (List.range n).filter P = L at h
 unfold ascB
 rw [List.all_eq_true]
 intro j hj
 have hj := List.mem_range.1 hj
 rw [ints_length] at hj
 rw [ints_getD, ints_getD]
 have := (List.pairwise_iff_getElem.1 h) j (j + 1) (by omega) (by omega) (by omega)
 rw [List.getD_eq_getElem?_getD, List.getD_eq_getElem?_getD, List.getElem?_eq_getElem (show j < L.length by omega), List.getElem?_eq_getElem (show j + 1 < L.length by omega)]
 exact decide_eq_true (by simpa using this)
theorem runS_in (g : List Tk) (st : List Int) (now : Int) : allInB (ints (runS g st now)) 0 (g.length - 1) = true := by
 unfold allInB
 rw [List.all_eq_true]
 intro x hx
 unfold ints at hx
 obtain ⟨k, hk, rfl⟩ := List.mem_map.1 hx
 have := (mem_runS.1 hk).1
 refine inB_true.2 ?_
 simp only [Int.ofNat_eq_natCast]
 omega
theorem startOk_iff {g : List Tk} (hv : specValid g = true) {rm : List Int} (hrm : roomB rm = true) {wk : Int} {st : List Int} {i : Nat} (hi : i < g.length) : startOkB g rm wk st i = true ↔ runOk g rm wk st i := by
 unfold startOkB runOk vRunB needsOkB
 rw [hv, hrm, runS_in, show ascB (ints (runS g st (st.getD i 0))) = true from ascB_filter _ _, Bool.true_and, Bool.true_and, Bool.true_and, Bool.true_and, Bool.and_eq_true, Bool.and_eq_true, List.all_eq_true, List.all_eq_true, decide_eq_true_iff]
 have e1 : (∀ x ∈ (rdTk g i).f1, decide (st.getD x.toNat 0 + (rdTk g x.toNat).f0 ≤ st.getD i 0) = true) ↔ ∀ k : Nat, (k : Int) ∈ (rdTk g i).f1 → st.getD k 0 + (rdTk g k).f0 ≤ st.getD i 0 := by
  constructor
  ·
   intro h k hk
   have := of_decide_eq_true (h _ hk)
   rwa [Int.toNat_natCast] at this
  ·
   intro h x hx
   have hin := spec_needs_in hv i hi x hx
   have := h x.toNat (by rw [show ((x.toNat : Nat) : Int) = x by omega]; exact hx)
   exact decide_eq_true this
 have e2 : (∀ p ∈ List.range 3, decide (usedS g (runS g st (st.getD i 0)) (p : Nat) ≤ rm.getD p 0) = true) ↔ ∀ p : Nat, p < 3 → usedS g (runS g st (st.getD i 0)) p ≤ rm.getD p 0 := by
  constructor
  ·
   exact fun h p hp => of_decide_eq_true (h p (List.mem_range.2 hp))
  ·
   exact fun h p hp => decide_eq_true (h p (List.mem_range.1 hp))
 rw [e1, e2]
theorem vSt_iff {g : List Tk} {rm : List Int} {wk : Int} {st : List Int} : vStB g rm wk st = true ↔ specValid g = true ∧ placeB rm wk = true ∧ st.length = g.length ∧ allInB st 0 200 = true ∧ ∀ i, i < g.length → runOk g rm wk st i := by
 unfold vStB placeB
 simp only [Bool.and_eq_true, decide_eq_true_iff, List.all_eq_true, List.mem_range]
 constructor
 ·
  rintro ⟨h1, h2, h3, h4, h5, h6⟩
  exact ⟨h1, ⟨h2, h3⟩, h4, h5, fun i hi => (startOk_iff h1 h2 hi).1 (h6 i hi)⟩
 ·
  rintro ⟨h1, ⟨h2, h3⟩, h4, h5, h6⟩
  exact ⟨h1, h2, h3, h4, h5, fun i hi => (startOk_iff h1 h2 hi).2 (h6 i hi)⟩
theorem st_eq (g : List Tk) (rm : List Int) (wk : Int) (st : List Int) : stN g rm wk st = vStB g rm wk st := by
 rw [Bool.eq_iff_iff, vSt_iff]
 unfold stN
 cases hg : graphN g with
 | none =>
  rw [specValid_eq, hg]
  simp
 | some ns =>
  simp only [Bool.and_eq_true, decide_eq_true_iff]
  rw [startsB_iff hg]
  have hv := graphN_spec hg
  constructor
  ·
   rintro ⟨h1, h2, h3, h4⟩
   have hr := (roomB_facts (placeB_facts h1).1).2
   exact ⟨hv, h1, h2, h3, (can_run (specValid_TOk hv) (fun p hp => (hr p hp).1)).1 h4⟩
  ·
   rintro ⟨_, h1, h2, h3, h4⟩
   have hr := (roomB_facts (placeB_facts h1).1).2
   exact ⟨h1, h2, h3, (can_run (specValid_TOk hv) (fun p hp => (hr p hp).1)).2 h4⟩
structure Valid (g : List Tk) (rm : List Int) (wk : Int) (st : List Int) : Prop where
 v : specValid g = true
 p : placeB rm wk = true
 len : st.length = g.length
 b : ∀ i, i < g.length → 0 ≤ st.getD i 0 ∧ st.getD i 0 ≤ 200
 run : ∀ i, i < g.length → runOk g rm wk st i
theorem vSt_valid {g : List Tk} {rm : List Int} {wk : Int} {st : List Int} (h : vStB g rm wk st = true) : Valid g rm wk st := by
 obtain ⟨h1, h2, h3, h4, h5⟩ := vSt_iff.1 h
 refine ⟨h1, h2, h3, fun i hi => ?_, h5⟩
 unfold allInB at h4
 rw [List.all_eq_true] at h4
 exact inB_true.1 (h4 _ (mem_getD (by omega)))
theorem Valid.ok {g : List Tk} {rm : List Int} {wk : Int} {st : List Int} (h : Valid g rm wk st) : TOk g := specValid_TOk h.v
theorem valid_vSt {g : List Tk} {rm : List Int} {wk : Int} {st : List Int} (h : Valid g rm wk st) : vStB g rm wk st = true := by
 refine vSt_iff.2 ⟨h.v, h.p, h.len, ?_, h.run⟩
 unfold allInB
 exact all_take 0 (fun j hj => inB_true.2 (h.b j (by have := h.len; omega)))
theorem Valid.needs {g : List Tk} {rm : List Int} {wk : Int} {st : List Int} (h : Valid g rm wk st) : ∀ k, k < g.length → ∀ i : Nat, (i : Int) ∈ (rdTk g k).f1 → st.getD i 0 + (rdTk g i).f0 ≤ st.getD k 0 := fun k hk i hi => (h.run k hk).1 i hi
theorem getD_out {l : List Int} {i : Nat} (h : ¬ i < l.length) : l.getD i 0 = 0 := by
 rw [List.getD_eq_getElem?_getD, List.getElem?_eq_none (by omega)]
 rfl
theorem Valid.sok {g : List Tk} {rm : List Int} {wk : Int} {st : List Int} (h : Valid g rm wk st) : SOk st := fun i => by
 by_cases hi : i < g.length
 ·
  have := h.b i hi
  omega
 ·
  rw [getD_out (by have := h.len; omega)]
  omega
theorem allIn_sok {st : List Int} (h : allInB st 0 200 = true) : SOk st := fun i => by
 by_cases hi : i < st.length
 ·
  unfold allInB at h
  rw [List.all_eq_true] at h
  have := inB_true.1 (h _ (mem_getD hi))
  omega
 ·
  rw [getD_out hi]
  omega
end Go.Proofs.YtlapphhcficbjaaGreatDoor
