/- Parts of the proof, laid as one text by a program of mine. -/
import Derived.Test.YtifbjnhicnfdoaaDoorKac17
import Derived.Deep.RegionHeld3
import Derived.Deep.RegionWith
import Derived.Test.YtifbjnhicnfdoaaDoorKac19
import Derived.Test.YtifbjnhicnfdoaaDoorKac13
import Derived.Test.YtifbjnhicnfdoaaDoorKac20
import Derived.Test.YtifbjnhicnfdoaaDoorKac21
namespace Go.Proofs.YtifbjnhicnfdoaaDoor
set_option linter.unusedVariables false
set_option linter.unusedSimpArgs false
open Go.RowKit Go.Shelf Bits
theorem late_law {g : List Tk} {rm : List Int} {wk : Int} {st : List Int} (h : Valid g rm wk st) (dl : Int) : (ints (ltS g rm wk st dl)).length = 0 ∨ mdS g rm wk st dl = false := by
 unfold ltS mdS
 rw [valid_vSt h, Bool.true_and, Bool.true_and]
 cases hd : inB dl 0 200 with
 | false => exact .inl rfl
 | true =>
  rw [Bool.true_and, if_pos rfl, ints_length]
  by_cases he : dl < endS g st g.length
  ·
   exact .inr (decide_eq_false (by omega))
  ·
   refine .inl ?_
   have := mt (late_iff h dl (inB_true.1 hd).1).1 he
   rw [Classical.not_not.1 this]
   rfl
theorem late_last_law {g : List Tk} {rm : List Int} {wk : Int} {st : List Int} (h : Valid g rm wk st) {dl : Int} (hd : 0 ≤ dl ∧ dl ≤ 200) : (0 < (ints (ltS g rm wk st dl)).length ↔ dl < etS g rm wk st) ∧ ∀ i : Nat, i < g.length → dl < etS g rm wk st → st.getD i 0 + (rdTk g i).f0 = etS g rm wk st → (i : Int) ∈ ints (ltS g rm wk st dl) := by
 have e : ltS g rm wk st dl = (List.range g.length).filter (lateB g st dl) := by
  unfold ltS
  rw [valid_vSt h, inB_true.2 hd, Bool.true_and, if_pos rfl]
 rw [e, etS_valid h, ints_length]
 refine ⟨?_, fun i hi h1 h2 => ?_⟩
 ·
  rw [← late_iff h dl hd.1]
  exact List.length_pos_iff
 ·
  rw [mem_intsN]
  exact List.mem_filter.2 ⟨List.mem_range.2 hi, last_late h h1 hi h2⟩
theorem late_users_law {g : List Tk} {rm : List Int} {wk : Int} {st : List Int} {dl : Int} : ltS g rm wk st dl = [] ∨ (Valid g rm wk st ∧ (0 ≤ dl ∧ dl ≤ 200) ∧ ∀ i ∈ ltS g rm wk st dl, i < g.length ∧ dl - (tailsS g).getD i 0 < st.getD i 0) := by
 by_cases hc : (vStB g rm wk st && inB dl 0 200) = true
 ·
  refine .inr ?_
  have e : ltS g rm wk st dl = (List.range g.length).filter (lateB g st dl) := by
   unfold ltS
   rw [if_pos hc]
  rw [Bool.and_eq_true] at hc
  refine ⟨vSt_valid hc.1, inB_true.1 hc.2, fun i hi => ?_⟩
  rw [e] at hi
  obtain ⟨h1, h2⟩ := List.mem_filter.1 hi
  exact ⟨List.mem_range.1 h1, lateB_iff.1 h2⟩
 ·
  refine .inl ?_
  unfold ltS
  rw [if_neg hc]
theorem lt_len (g : List Tk) (rm : List Int) (wk : Int) (st : List Int) (dl : Int) : (ints (ltS g rm wk st dl)).length ≤ g.length := by
 rw [ints_length]
 unfold ltS
 split
 ·
  exact filter_range_le _ _
 ·
  exact Nat.zero_le _
end Go.Proofs.YtifbjnhicnfdoaaDoor

namespace Go.Proofs.YtifbjnhicnfdoaaDoor
set_option linter.unusedVariables false
set_option linter.unusedSimpArgs false
open Go.RowKit Go.Shelf
open Go.Proofs.YtifbjnhicnfdoaaDoorW.PrintWords Go.Proofs.YtifbjnhicnfdoaaDoorW.PrintLast Go.Proofs.YtifbjnhicnfdoaaDoorW.PrintMore
def StB (k : Int) (st : List Int) : Prop := ∀ i, -k ≤ st.getD i 0 ∧ st.getD i 0 ≤ 200 + 40 * k
theorem StB.set {k : Int} {st : List Int} (h : StB k st) (i : Nat) {x : Int} (hx : -(k + 1) ≤ x ∧ x ≤ 200 + 40 * (k + 1)) (hk : 0 ≤ k) : StB (k + 1) (st.set i x) := fun j => by
 have := h j
 rw [getD_setL]
 split <;> omega
theorem StB.wide {k k' : Int} {st : List Int} (h : StB k st) (hk : k ≤ k') : StB k' st := fun i => by have := h i; omega
theorem StB.sok {st : List Int} (h : StB 2 st) : SOk st := fun i => by have := h i; omega
theorem pS_B (g : List Tk) (rm : List Int) (wk : Int) : StB 0 (pS g rm wk) := by
 unfold pS
 split
 ·
  exact fun i => by have := (planS_ok g rm wk).2 i; omega
 ·
  exact fun i => by simp
theorem pS_len (g : List Tk) (rm : List Int) (wk : Int) : (pS g rm wk).length ≤ 8 := by
 unfold pS
 split
 ·
  rename_i h
  rw [Bool.and_eq_true] at h
  rw [(planS_ok g rm wk).1]
  exact (specValid_TOk h.1).1
 ·
  simp
theorem stI_of_Rb {W : World} {rb base : Nat} {ok : Nat → Prop} {v : Value} {l : List Int} (h : Kd.R (Kd.int .i64) 3 W base ok v l) (hrb : rb < base) : ∃ A c, v = .slice A l.length c ∧ l.length ≤ c ∧ StI W rb A l := stI_of_R (Kd.R_mono h (fun _ _ => trivial)) hrb
theorem RdSt.far {w0 W : World} {rb : Nat} {M : Int} (h : RdSt w0 W rb M) {p : Addr} (hp : p.block ≠ rb) (u : Value) : RdSt w0 (W.setCell p u) rb M := by
 obtain ⟨b, q, ⟨A0, c0, h1, h2, h3⟩, h4⟩ := h
 exact ⟨b, q, ⟨A0, c0, (Below.heap_setCell W p u rb (fun e => hp e.symm)).trans h1, h2, h3⟩, h4⟩
set_option maxRecDepth 1000000 in
set_option maxHeartbeats 8000000 in
theorem someStarts_any (rb : Nat) (M : Int) (hM : M ≤ 700000) (A : Option Addr) (c : Nat) (g : List Tk) (w0 w : World) (hS : RdSt w0 w rb M) (hB : Below w0.heap.size w0 w) (hG : StG w rb A g) :
  Calls Tryd.prog 74 #[.pointer (some ⟨rb, 0, none⟩), .slice A g.length c] w fun e w' => ∃ A1 c1 rm wk A2 c2 st, e = .returned (.tuple #[.slice A1 rm.length c1, .int .i64 wk, .slice A2 st.length c2]) ∧ rm.length ≤ c1 ∧ st.length ≤ c2 ∧ StI w' rb A1 rm ∧ StI w' rb A2 st ∧ rm.length ≤ 4 ∧ st.length ≤ 8 ∧ (0 ≤ wk ∧ wk ≤ 5) ∧ StB 2 st ∧ RdSt w0 w' rb (M + 20) ∧ Below w0.heap.size w0 w' ∧ KeepBut w w' rb none := by
 have HS := Lib.hid hS
 have HB := Lib.hid hB
 have HG := Lib.hid hG
 clear hS hB hG
 go_enter Tryd.func74, Tryd.ntmps74
 go_wp2_with (first
  | (go_at_call 64; refine (someRoom_any rb M (by omega) w0 _ HS.out HB.out).mono ?_; rintro e w1 ⟨A1, c1, rm, rfl, hc1, hI1, hl1, hS1, hB1, hK1⟩; have H1 := Lib.hid (And.intro hI1 (And.intro hS1 (And.intro hB1 hK1))); clear hI1 hS1 hB1 hK1)
  | (go_at_call 65; refine (someWorkers_any rb (M + 6) (by omega) w0 _ H1.out.2.1 H1.out.2.2.1).mono ?_; rintro e w2 ⟨wk, rfl, hwk, hS2, hB2, hK2⟩; have H2 := Lib.hid (And.intro (H1.out.1.keep hK2) (And.intro hS2 (And.intro hB2 (And.intro (keep_trans H1.out.2.2.2 hK2) ((HG.out.keep H1.out.2.2.2).keep hK2))))); clear hS2 hB2 hK2)
  | (go_at_call 37; refine (sPlanStarts_calls A c g A1 c1 rm wk w2 H2.out.2.2.2.2.now H2.out.1.now).mono ?_; rintro e w3 ⟨v3, rfl, hR3, hB3⟩; have H3 := Lib.hid (And.intro hR3 hB3); clear hR3 hB3)
  | (go_at_call 90; refine (pick_any rb (M + 7) _ (by omega) w0 _ ((H2.out.2.1.below H3.out.2).wide (by omega)) (H2.out.2.2.1.trans (H3.out.2.mono H2.out.2.2.1.size))).mono ?_; rintro e w4 ⟨v4, rfl, hv4, hS4, hB4, hK4⟩; have H4 := Lib.hid (And.intro hS4 (And.intro hB4 hK4)); clear hS4 hB4 hK4))
 have hrb2 := H2.out.2.1.lt
 have hpl := pS_len g rm wk
 have hpb := pS_B g rm wk
 have hR4 : Kd.R (Kd.int .i64) 3 w4 w2.heap.size (fun q => q ≠ rb) v3 (pS g rm wk) := Kd.R_keep (Kd.R_mono (Kd.R_bound H3.out.1) (fun q hq => by have := hq.2.1; omega)) H4.out.2.2 (fun q hq => hq)
 obtain ⟨A3, c3, rfl, hc3, _⟩ := Kd.R_reads hR4
 have hK24 : KeepBut w2 w4 rb none := keep_trans (keep_below rb H3.out.2) H4.out.2.2
 have HK24 := Lib.hid hK24
 have hv2 : 0 ≤ v4 ∧ v4 ≤ 2 := by have := hv4.2 (by omega); omega
 clear hK24 hv4
 generalize pS g rm wk = s0 at hR4 hpl hpb hc3
 go_loopw [10] (fun n wr => ∃ (k : Nat) (st : List Int), n = .int .i64 (k : Int) ∧ k ≤ 2 ∧ st.length = s0.length ∧ StB (2 - k) st ∧ Hid (Kd.R (Kd.int .i64) 3 wr w2.heap.size (fun q => q ≠ rb) (.slice A3 s0.length c3) st ∧ RdSt w0 wr rb (M + 12 - 2 * k) ∧ Below w0.heap.size w0 wr ∧ KeepBut w2 wr rb none)) (fun n _ => (intOf n).toNat)
 case atStart => exact ⟨v4.toNat, s0, by congr 1; omega, by omega, rfl, hpb.wide (by omega), Lib.hid ⟨hR4, H4.out.1.wide (by omega), H4.out.2.1, HK24.out⟩⟩
 case round =>
  clear hR4 hpb
  obtain ⟨k, st, rfl, hk, hsl, hsb, HH⟩ := hrel
  by_cases hk0 : k = 0
  ·
   subst hk0
   have HSB := Lib.hid hsb
   go_wp2
   go_ret3
   obtain ⟨hR, hS, hB, hK⟩ := HH.out
   obtain ⟨A9, c9, e9, hc9, hI9⟩ := stI_of_Rb hR hrb2
   rw [← hsl] at e9 hR ⊢
   cases e9
   exact ⟨A1, c1, rm, wk, A3, c3, st, rfl, hc1, hc9, H2.out.1.keep hK, hI9, hl1, by omega, hwk, HSB.out.wide (by omega), hS.wide (by omega), hB, keep_trans H2.out.2.2.2.1 hK⟩
  ·
   have dk : decide ((0 : Int) < (k : Int)) = true := decide_eq_true (by omega)
   have dk' : decide (0 < k) = true := decide_eq_true (by omega)
   by_cases hs0 : s0.length = 0
   ·
    have ds : decide ((0 : Int) < (s0.length : Int)) = false := decide_eq_false (by omega)
    have ds' : decide (0 < s0.length) = false := decide_eq_false (by omega)
    have HSB := Lib.hid hsb
    clear hk0 hsb
    go_wp2
    go_ret3
    obtain ⟨hR, hS, hB, hK⟩ := HH.out
    obtain ⟨A9, c9, e9, hc9, hI9⟩ := stI_of_Rb hR hrb2
    rw [← hsl] at e9 hR ⊢
    cases e9
    exact ⟨A1, c1, rm, wk, A3, c3, st, rfl, hc1, hc9, H2.out.1.keep hK, hI9, hl1, by omega, hwk, HSB.out.wide (by omega), hS.wide (by omega), hB, keep_trans H2.out.2.2.2.1 hK⟩
   ·
    have ds : decide ((0 : Int) < (s0.length : Int)) = true := decide_eq_true (by omega)
    have ds' : decide (0 < s0.length) = true := decide_eq_true (by omega)
    have HSB := Lib.hid hsb
    have HSB2 := Lib.hid hsb
    obtain ⟨b, cap, e5, hbb, hbl, hbc⟩ := Kd.R_form HH.out.1 (by omega)
    rw [hsl] at e5
    cases e5
    have hbr : b ≠ rb := by omega
    go_upto_region 8 with (go_at_call 90; refine (pick_any rb _ _ (by omega) w0 _ HH.out.2.1 HH.out.2.2.1).mono ?_; rintro e w5 ⟨v5, rfl, hv5, hS5, hB5, hK5⟩; obtain ⟨m, rfl⟩ := Int.eq_ofNat_of_zero_le hv5.1; have hml : m < s0.length := (by have := hv5.2 (by omega); omega); have H5 := Lib.hid (And.intro hS5 (And.intro hB5 hK5)); clear hv5 hS5 hB5 hK5)
    have hR5 := Kd.R_keep HH.out.1 H5.out.2.2 (fun q hq => hq)
    obtain ⟨cx, fx⟩ := Kd.R_celln (0 : Int) hR5 (m : Int) (by omega) (by omega)
    rw [Int.toNat_natCast] at cx fx
    have hsx := HSB.out m
    replace cx : w5.cell? ⟨b, m, none⟩ = some (.int .i64 (st.getD m 0)) := cx
    have HST : Hid (∃ s, s = st.getD m 0) := Lib.hid ⟨_, rfl⟩
    obtain ⟨s, hs⟩ := HST.out
    rw [← hs] at cx hsx
    have HR5 := Lib.hid hR5
    have HSE := Lib.hid hs
    have hb5 : b < w5.heap.size := Nat.lt_of_lt_of_le hbl H5.out.2.2.1
    have hmi : (m : Int) < (s0.length : Int) := by omega
    have hrb5 := H5.out.1.lt
    clear hR5 hs HST
    have HCALL : Hid (∀ W (l : List Int), Below w5.heap.size w5 W → 0 < l.length → l.length ≤ 1000 → Calls Tryd.prog 60 #[.pointer (some ⟨rb, 0, none⟩), .slice (some ⟨W.heap.size, 0, none⟩) l.length l.length] (W.alloc (.cells (encs (Value.int .i64) l).toArray 3)) fun e w' =>
      ∃ v, e = .returned (.int .i64 v) ∧ v ∈ l ∧ RdSt w0 w' rb (M + 14 - 2 * k) ∧ Below w0.heap.size w0 w' ∧ w'.cell? ⟨b, m, none⟩ = some (.int .i64 s) ∧ w'.frozen? ⟨b, m, none⟩ = false ∧ KeepBut w5 w' rb none) := Lib.hid (by
     intro W l hW hl0 hl
     refine (oneLit_any rb _ l hl0 hl (by omega) w0 W (H5.out.1.below hW) (H5.out.2.1.trans (hW.mono H5.out.2.1.size))).mono ?_
     rintro e w' ⟨v, he, hv, h1, h2, h3⟩
     have hkk : KeepBut w5 w' rb none := keep_trans (keep_below rb hW) h3
     have hblk : w'.heap[b]? = w5.heap[b]? := hkk.2 b hb5 hbr (by simp)
     refine ⟨v, he, hv, h1.wide (by omega), h2, ?_, ?_, hkk⟩
     ·
      rw [← cx]
      unfold World.cell?
      simp only [hblk]
     ·
      rw [← fx]
      unfold World.frozen?
      simp only [hblk])
    have HSB : Hid (∀ W, Below w5.heap.size w5 W → W.cell? ⟨b, m, none⟩ = some (.int .i64 s) ∧ W.frozen? ⟨b, m, none⟩ = false ∧ KeepBut w5 W rb none) := Lib.hid (fun W hW => by
     have hblk : W.heap[b]? = w5.heap[b]? := hW.block b hb5
     refine ⟨?_, ?_, keep_below rb hW⟩
     ·
      rw [← cx]
      unfold World.cell?
      simp only [hblk]
     ·
      rw [← fx]
      unfold World.frozen?
      simp only [hblk])
    go_wp2
    have hcA : ∀ o, (w5.alloc o).cell? ⟨b, m, none⟩ = some (.int .i64 s) := fun o => (HSB.out _ ((Below.refl _ _).alloc (Nat.le_refl _) _)).1
    go_region_with (first | (go_at_call 60; refine (HCALL.out w5.drew [0, 1, 5, -1, 40] (Below.refl _ _).drew (by decide) (by decide)).mono ?_; rintro e w6 ⟨v6, rfl, hv6, hS6, hB6, hX1, hX2, hX3⟩))
    all_goals
     have hv7 : -1 ≤ v6 ∧ v6 ≤ 40 := by simp at hv6; omega
     have hR6 := Kd.R_putn (Kd.R_keep HR5.out hX3 (fun q hq => hq)) (m : Int) (s + v6)
     rw [Int.toNat_natCast] at hR6
     have hsb' := StB.set HSB2.out m (x := s + v6) (by omega) (by omega)
     have hbel : Below w0.heap.size w0 (w6.setCell ⟨b, m, none⟩ (.int .i64 (s + v6))) := hB6.setCell (p := ⟨b, m, none⟩) (by have h02 := H2.out.2.2.1.size; show w0.heap.size ≤ b; omega) _
     have hkp : KeepBut w2 (w6.setCell ⟨b, m, none⟩ (.int .i64 (s + v6))) rb none := by
      have h26 : KeepBut w2 w6 rb none := keep_trans HH.out.2.2.2 (keep_trans H5.out.2.2 hX3)
      refine ⟨by rw [World.size_setCell]; exact h26.1, fun i hi h1 h2 => ?_⟩
      rw [Below.heap_setCell w6 ⟨b, m, none⟩ _ i (by show i ≠ b; omega)]
      exact h26.2 i hi h1 h2
     have hrd : RdSt w0 (w6.setCell ⟨b, m, none⟩ (.int .i64 (s + v6))) rb (M + 12 - 2 * (k - 1 : Nat)) := (RdSt.far hS6 hbr _).wide (by omega)
     have HEND := Lib.hid (And.intro hR6 (And.intro hrd (And.intro hbel hkp)))
     have HSB3 := Lib.hid (hsb'.wide (k' := 2 - (k - 1 : Nat)) (by omega))
     have hk1 : IntKind.i64.wrap ((k : Int) - 1) = ((k - 1 : Nat) : Int) := by rw [show (k : Int) - 1 = ((k - 1 : Nat) : Int) by omega]; exact IntWalk.i64_in _ (by omega)
     have hwr : IntKind.i64.wrap (s + v6) = s + v6 := IntWalk.i64_in _ (by omega)
     clear hR6 hrd hbel hkp hsb' hv6 hv7 hX1 hX2 hX3 hS6 hB6 hsx
     go_wp2
     clear hwr hk1
     exact ⟨⟨k - 1, st.set m (s + v6), rfl, by omega, by rw [List.length_set]; exact hsl, HSB3.out, HEND⟩, by simp [intOf]; omega⟩
theorem RdSt_new {w0 W : World} {rb : Nat} {M : Int} (h : RdSt w0 W rb M) : w0.heap.size ≤ rb := by
 obtain ⟨b, p, ⟨A0, c0, h1, h2, h3⟩, _⟩ := h
 exact h2
theorem newReader_new (A : Option Addr) (c : Nat) (l : List Int) (hb : ∀ x ∈ l, 0 ≤ x ∧ x < 256) (w : World) (hr : (Kd.int .u8).C w A l.length l) (hc : l.length ≤ c) :
  Calls Tryd.prog 50 #[.slice A l.length c] w fun e w' => ∃ rb, e = .returned (.pointer (some ⟨rb, 0, none⟩)) ∧ w.heap.size ≤ rb ∧ RdSt w w' rb 0 ∧ Below w.heap.size w w' := by
 refine (newReader_any A c l hb w hr hc).mono ?_
 rintro e w' ⟨rb, he, hS, hB⟩
 exact ⟨rb, he, RdSt_new hS, hS, hB⟩
theorem results_tmp4 {fn : Func} {t u v x : Tmp} (h : fn.results = #[.tmp t, .tmp u, .tmp v, .tmp x]) (tmps : Array Value) (P : Program) (w : World) :
  (results fn tmps).run P w = .ok (.tuple #[tmps.getD t undef, tmps.getD u undef, tmps.getD v undef, tmps.getD x undef]) w := by
 simp [results, h]
theorem results_tmp5 {fn : Func} {t u v x y : Tmp} (h : fn.results = #[.tmp t, .tmp u, .tmp v, .tmp x, .tmp y]) (tmps : Array Value) (P : Program) (w : World) :
  (results fn tmps).run P w = .ok (.tuple #[tmps.getD t undef, tmps.getD u undef, tmps.getD v undef, tmps.getD x undef, tmps.getD y undef]) w := by
 simp [results, h]
def DrSt (w : World) (e : Ending) (w' : World) : Prop := ∃ rb A1 c1 g A2 c2 rm wk A3 c3 st, e = .returned (.tuple #[.slice A1 g.length c1, .slice A2 rm.length c2, .int .i64 wk, .slice A3 st.length c3]) ∧ StG w' rb A1 g ∧ StI w' rb A2 rm ∧ StI w' rb A3 st ∧ w.heap.size ≤ rb ∧ g.length ≤ 16 ∧ st.length ≤ 8 ∧ (0 ≤ wk ∧ wk ≤ 5) ∧ SOk st ∧ Below w.heap.size w w'
set_option maxRecDepth 100000 in
theorem DrawValidStarts_any (A : Option Addr) (c : Nat) (l : List Int) (hb : ∀ x ∈ l, 0 ≤ x ∧ x < 256) (w : World) (hr : (Kd.int .u8).C w A l.length l) (hc : l.length ≤ c) :
  Calls Tryd.prog 44 #[.slice A l.length c] w (DrSt w) := by
 have HN := Lib.hid (newReader_new A c l hb w hr hc)
 clear hb hr hc
 go_enter Tryd.func44, Tryd.ntmps44
 go_wp2_with (first | (go_at_call 50; refine HN.out.mono ?_; rintro e w1 ⟨rb, rfl, hrb, hS1, hB1⟩; have H1 := Lib.hid (And.intro hS1 hB1); clear hS1 hB1) | (go_at_call 63; refine (anyGraph_any rb 0 (by omega) w _ H1.out.1 H1.out.2).mono ?_; rintro e w2 ⟨A2, c2, g, rfl, hg2, hG2, hok, hS2, hB2, hK2⟩; have H2 := Lib.hid (And.intro hG2 (And.intro hok (And.intro hS2 hB2))); clear hG2 hok hS2 hB2 hK2) | (go_at_call 74; refine (someStarts_any rb _ (by omega) A2 c2 g w _ H2.out.2.2.1 H2.out.2.2.2 H2.out.1).mono ?_; rintro e w3 ⟨A3, c3, rm, wk, A4, c4, st, rfl, h1, h2, hI3, hI4, hl3, hl4, hwk, hsb, hS3, hB3, hK3⟩; have H3 := Lib.hid (And.intro (H2.out.1.keep hK3) (And.intro hI3 (And.intro hI4 (And.intro hsb hB3)))); clear hI3 hI4 hsb hS3 hB3 hK3))
 (try simp only [Exit.inBlock, Exit.then])
 refine bodyPost_ret (results_tmp4 rfl _ _ _) rfl ?_
 exact ⟨rb, _, _, g, _, _, rm, wk, _, _, st, rfl, H3.out.1, H3.out.2.1, H3.out.2.2.1, hrb, H2.out.2.1.1, hl4, hwk, H3.out.2.2.2.1.sok, H3.out.2.2.2.2⟩
theorem DrawLogOf_any (A : Option Addr) (c : Nat) (l : List Int) (hb : ∀ x ∈ l, 0 ≤ x ∧ x < 256) (w : World) (hr : (Kd.int .u8).C w A l.length l) (hc : l.length ≤ c) :
  Calls Tryd.prog 16 #[.slice A l.length c] w (DrSt w) := by
 have HN := Lib.hid (DrawValidStarts_any A c l hb w hr hc)
 clear hb hr hc
 go_enter Tryd.func16, Tryd.ntmps16
 go_wp2_with (go_at_call 44; refine HN.out.mono ?_; rintro e w1 ⟨rb, A1, c1, g, A2, c2, rm, wk, A3, c3, st, rfl, h1⟩; have H1 := Lib.hid h1; clear h1)
 (try simp only [Exit.inBlock, Exit.then])
 refine bodyPost_ret (results_tmp4 rfl _ _ _) rfl ?_
 exact ⟨rb, _, _, g, _, _, rm, wk, _, _, st, rfl, H1.out⟩
def DrSt5 (lo hi : Int) (w : World) (e : Ending) (w' : World) : Prop := ∃ A1 c1 g A2 c2 rm wk A3 c3 st now, e = .returned (.tuple #[.slice A1 g.length c1, .slice A2 rm.length c2, .int .i64 wk, .slice A3 st.length c3, .int .i64 now]) ∧ kTk.C w' A1 g.length g ∧ (Kd.int .i64).C w' A2 rm.length rm ∧ (Kd.int .i64).C w' A3 st.length st ∧ g.length ≤ 16 ∧ st.length ≤ 8 ∧ (0 ≤ wk ∧ wk ≤ 5) ∧ SOk st ∧ (lo ≤ now ∧ now ≤ hi) ∧ Below w.heap.size w w'
set_option maxRecDepth 100000 in
theorem DrawRunningAt_any (A : Option Addr) (c : Nat) (l : List Int) (hb : ∀ x ∈ l, 0 ≤ x ∧ x < 256) (w : World) (hr : (Kd.int .u8).C w A l.length l) (hc : l.length ≤ c) :
  Calls Tryd.prog 32 #[.slice A l.length c] w (DrSt5 (-1) 300 w) := by
 have HN := Lib.hid (newReader_any A c l hb w hr hc)
 have HD := Lib.hid (fun (W : World) (hW : Below w.heap.size w W) => DrawValidStarts_any A c l hb W (Kd.C_below hr hW) hc)
 clear hb hr hc
 go_enter Tryd.func32, Tryd.ntmps32
 go_wp2_with (first | (go_at_call 50; refine HN.out.mono ?_; rintro e w1 ⟨rb, rfl, hS1, hB1⟩; have H1 := Lib.hid (And.intro hS1 hB1); clear hS1 hB1) | (go_at_call 44; refine (HD.out _ H1.out.2).mono ?_; rintro e w2 ⟨r2, A1, c1, g, A2, c2, rm, wk, A3, c3, st, rfl, h1, h2, h3, hr2, h4, h5, h6, h7, h8⟩; have H2 := Lib.hid (And.intro h1 (And.intro h2 (And.intro h3 (And.intro h7 h8)))); clear h1 h2 h3 h7 h8) | (go_at_call 60; refine (oneLit_any rb 0 [0, 1, 5, 10, 20, -1, 300] (by decide) (by decide) (by omega) w _ (H1.out.1.below H2.out.2.2.2.2) (H1.out.2.trans (H2.out.2.2.2.2.mono H1.out.2.size))).mono ?_; rintro e w3 ⟨v3, rfl, hv, hS3, hB3, hK3⟩; have hv3 : -1 ≤ v3 ∧ v3 ≤ 300 := (by simp at hv; omega); have H3 := Lib.hid (And.intro hS3 (And.intro hB3 hK3)); clear hv hS3 hB3 hK3))
 have hrb := H1.out.1.lt
 (try simp only [Exit.inBlock, Exit.then])
 refine bodyPost_ret (results_tmp5 rfl _ _ _) rfl ?_
 have hku := KeepUp.of (rb := r2) H3.out.2.2 (by omega)
 exact ⟨_, _, g, _, _, rm, wk, _, _, st, v3, rfl, H2.out.1 _ hku, H2.out.2.1.st _ hku, H2.out.2.2.1.st _ hku, h4, h5, h6, H2.out.2.2.2.1, hv3, H3.out.2.1⟩
set_option maxRecDepth 100000 in
theorem DrawLateTasks_any (A : Option Addr) (c : Nat) (l : List Int) (hb : ∀ x ∈ l, 0 ≤ x ∧ x < 256) (w : World) (hr : (Kd.int .u8).C w A l.length l) (hc : l.length ≤ c) :
  Calls Tryd.prog 21 #[.slice A l.length c] w (DrSt5 (-1) 201 w) := by
 have HN := Lib.hid (newReader_any A c l hb w hr hc)
 have HD := Lib.hid (fun (W : World) (hW : Below w.heap.size w W) => DrawValidStarts_any A c l hb W (Kd.C_below hr hW) hc)
 clear hb hr hc
 go_enter Tryd.func21, Tryd.ntmps21
 go_wp2_with (first | (go_at_call 50; refine HN.out.mono ?_; rintro e w1 ⟨rb, rfl, hS1, hB1⟩; have H1 := Lib.hid (And.intro hS1 hB1); clear hS1 hB1) | (go_at_call 44; refine (HD.out _ H1.out.2).mono ?_; rintro e w2 ⟨r2, A1, c1, g, A2, c2, rm, wk, A3, c3, st, rfl, h1, h2, h3, hr2, h4, h5, h6, h7, h8⟩; have H2 := Lib.hid (And.intro h1 (And.intro h2 (And.intro h3 (And.intro h7 h8)))); clear h1 h2 h3 h7 h8) | (go_at_call 51; refine (someDeadline_any rb 0 (by omega) w _ (H1.out.1.below H2.out.2.2.2.2) (H1.out.2.trans (H2.out.2.2.2.2.mono H1.out.2.size))).mono ?_; rintro e w3 ⟨v3, rfl, hv3, hS3, hB3, hK3⟩; have H3 := Lib.hid (And.intro hS3 (And.intro hB3 hK3)); clear hS3 hB3 hK3))
 have hrb := H1.out.1.lt
 (try simp only [Exit.inBlock, Exit.then])
 refine bodyPost_ret (results_tmp5 rfl _ _ _) rfl ?_
 have hku := KeepUp.of (rb := r2) H3.out.2.2 (by omega)
 exact ⟨_, _, g, _, _, rm, wk, _, _, st, v3, rfl, H2.out.1 _ hku, H2.out.2.1.st _ hku, H2.out.2.2.1.st _ hku, h4, h5, h6, H2.out.2.2.2.1, hv3, H3.out.2.1⟩
end Go.Proofs.YtifbjnhicnfdoaaDoor

namespace Go.Proofs.YtifbjnhicnfdoaaDoor
set_option linter.unusedVariables false
set_option linter.unusedSimpArgs false
open Go.RowKit Go.Shelf Bits
open Go.Proofs.YtifbjnhicnfdoaaDoorW.PrintWords Go.Proofs.YtifbjnhicnfdoaaDoorW.PrintLast Go.Proofs.YtifbjnhicnfdoaaDoorW.PrintMore
attribute [local go_sem] Oper.semAt_some
theorem tailsS_span {g : List Tk} (hv : specValid g = true) : Span (tailsS g) g.length 160 := by
 obtain ⟨ns, hg⟩ := graphN_yes hv
 rw [← tailN_eq hg]
 exact tailN_span hg
def latS (g : List Tk) (dl : Int) (j : Nat) : List Int := (List.range j).map fun i => dl - (tailsS g).getD i 0
theorem latS_snoc (g : List Tk) (dl : Int) (j : Nat) : latS g dl (j + 1) = latS g dl j ++ [dl - (tailsS g).getD j 0] := map_snoc_range _ j
theorem latS_len (g : List Tk) (dl : Int) (j : Nat) : (latS g dl j).length = j := by simp [latS]
theorem latS_get {g : List Tk} {dl : Int} {i j : Nat} (hi : i < j) : (latS g dl j).getD i 0 = dl - (tailsS g).getD i 0 := by
 unfold latS
 rw [List.getD_eq_getElem?_getD, List.getElem?_map, List.getElem?_range hi]
 rfl
set_option maxRecDepth 100000 in
set_option maxHeartbeats 4000000 in
theorem LateTasks_impl (A : Option Addr) (c : Nat) (g : List Tk) (A1 : Option Addr) (c1 : Nat) (rm : List Int) (wk : Int) (A2 : Option Addr) (c2 : Nat) (st : List Int) (dl : Int) (w : World) (hr : kTk.C w A g.length g) (hr1 : (Kd.int .i64).C w A1 rm.length rm) (hr2 : (Kd.int .i64).C w A2 st.length st) (hT : Tab w) :
  Calls Tryd.prog 22 #[.slice A g.length c, .slice A1 rm.length c1, .int .i64 wk, .slice A2 st.length c2, .int .i64 dl] w fun e w' => ∃ v, e = .returned v ∧ Kd.R (Kd.int .i64) 3 w' w.heap.size (fun _ => True) v (ints (ltS g rm wk st dl)) ∧ Below w.heap.size w w' := by
 cases h : vStB g rm wk st with
 | true =>
  have HP := Lib.hid (startsIn_yes A c g A1 c1 rm wk A2 c2 st h w hr hr1 hr2 hT)
  have HV := Lib.hid (vSt_valid h)
  have HR2 := Lib.hid hr2
  have HT := Lib.hid hT
  have h8 := HV.out.ok.1
  cases h3 : inB dl 0 200 with
  | true =>
   have HF : Hid (ltS g rm wk st dl = (List.range g.length).filter (lateB g st dl)) := Lib.hid (by unfold ltS; rw [h, h3]; rfl)
   have H3 := Lib.hid h3
   have hdl := inB_true.1 h3
   have HSP := Lib.hid (tailsS_span HV.out.v)
   have HTE := Lib.hid (fun ns (hg : graphN g = some ns) => tailN_eq hg)
   have HTL := Lib.hid (fun (W : World) C ns (hg : graphN g = some ns) (hG : IsGraph W C g ns) (hT : Tab W) => tails_calls C g ns hg W hG hT)
   clear hr hr1 hr2 hT h h3
   generalize hTN : tailsS g = TN at HSP HTE
   have HBD0 : Hid (∀ j, lateB g st dl j = decide (dl - TN.getD j 0 < st.getD j 0)) := Lib.hid (fun j => by unfold lateB; rw [hTN])
   clear hTN
   go_enter Tryd.func22, Tryd.ntmps22
   go_wp2_with (first | (go_at_call 45; refine HP.out.mono ?_; rintro e w1 ⟨C, ns, rfl, hg, hG, hB1⟩; have HB1 := Lib.hid hB1; have HG := Lib.hid hG; have HGR := Lib.hid hg; clear hB1 hG hg) | (go_at_call 52; refine (deadlineValid_is _ _ H3 _).mono ?_; rintro e wd ⟨rfl, rfl⟩) | (go_at_call 53; refine (HTL.out _ C ns HGR.out HG.out (HT.out.keep HT.out.lt HB1.out)).mono ?_; rintro e w3 ⟨v3, rfl, hR3, hB3⟩; rw [HTE.out _ HGR.out] at hR3; obtain ⟨A3, c3, rfl, hl3, hC3⟩ := Kd.R_reads hR3; have HC3 := Lib.hid hC3; have HB3 := Lib.hid (HB1.out.trans (hB3.mono HB1.out.size)); clear hR3 hC3 hB3))
   have htl16 : TN.length ≤ 8 := by rw [HSP.out.1]; exact h8
   go_loop [13, 34] (fun s i => ∃ (j : Nat), j ≤ TN.length ∧ i = .int .i64 j ∧ s = .int .u16 (maskN (lateB g st dl) j : Nat)) (fun _ i => TN.length - (intOf i).toNat)
   case atStart => exact ⟨0, Nat.zero_le _, rfl, rfl⟩
   case round =>
    obtain ⟨j, hj, rfl, rfl⟩ := hrel
    by_cases hjl : j < TN.length
    ·
     have hjs : j < st.length := by rw [HV.out.len, ← HSP.out.1]; exact hjl
     obtain ⟨ad, rfl, hc0⟩ := at_num HC3.out j hjl
     obtain ⟨ads, rfl, cs⟩ := at_num (Kd.C_below HR2.out HB3.out) j hjs
     have hjj : decide ((j : Int) < (TN.length : Int)) = true := decide_eq_true (by omega)
     have hji : (j : Int) < (TN.length : Int) := by omega
     have hjsi : (j : Int) < (st.length : Int) := by omega
     have HE : Hid (maskN (lateB g st dl) (j + 1) = if lateB g st dl j then maskN (lateB g st dl) j ||| 2 ^ j else maskN (lateB g st dl) j) := Lib.hid rfl
     have HBD := Lib.hid (HBD0.out j)
     have hmk := maskN_u16 (lateB g st dl) (n := j) (by omega)
     have hj16 : j < 16 := by omega
     have hsj := HV.out.sok j
     have htj := HSP.out.2 j
     generalize st.getD j 0 = s at cs hsj HBD
     generalize TN.getD j 0 = tm at hc0 htj HBD
     generalize lateB g st dl j = rb at HE HBD
     generalize maskN (lateB g st dl) j = mk at HE hmk
     have hwr : IntKind.i64.wrap (dl - tm) = dl - tm := IntWalk.i64_in _ (by omega)
     by_cases g1 : dl - tm < s
     ·
      have d1 : decide (dl - tm < s) = true := decide_eq_true g1
      rw [d1] at HBD
      clear g1
      go_wp2_with (go_at_call 54; refine (with_calls mk j hmk hj16 _).mono ?_; rintro e w6 ⟨rfl, rfl⟩)
      clear hwr
      go_round
      case rel => exact ⟨j + 1, by omega, by go_num, by rw [HE.out, HBD.out]; rfl⟩
      case measure => simp [intOf]; omega
     ·
      have d1 : decide (dl - tm < s) = false := decide_eq_false g1
      rw [d1] at HBD
      clear g1
      go_wp2
      clear hwr
      go_round
      case rel => exact ⟨j + 1, by omega, by go_num, by rw [HE.out, HBD.out]; rfl⟩
      case measure => simp [intOf]; omega
    ·
     obtain rfl : j = TN.length := by omega
     have hjj : decide ((TN.length : Int) < (TN.length : Int)) = false := decide_eq_false (by omega)
     have hmk := maskN_u16 (lateB g st dl) (n := TN.length) (by omega)
     have HEL := Lib.hid (els_mask (lateB g st dl) (n := TN.length) (by omega))
     have HLC := Lib.hid (list_calls (maskN (lateB g st dl) TN.length) hmk _ (HT.out.keep HT.out.lt HB3.out))
     rw [HEL.out, show (List.range TN.length).filter (lateB g st dl) = ltS g rm wk st dl by rw [HF.out, HSP.out.1]] at HLC
     go_wp2_with (go_at_call 55; refine HLC.out.mono ?_; rintro e w9 ⟨v, rfl, hR, hB9⟩)
     go_ret
     have hz := HB3.out.size
     exact ⟨_, rfl, Kd.R_lower hR hz, HB3.out.trans (hB9.mono hz)⟩
  | false =>
   have HF : Hid (ltS g rm wk st dl = []) := Lib.hid (by unfold ltS; rw [h3, Bool.and_false]; rfl)
   have H3 := Lib.hid h3
   clear hr hr1 hr2 hT h h3
   go_enter Tryd.func22, Tryd.ntmps22
   go_wp2_with (first | (go_at_call 45; refine HP.out.mono ?_; rintro e w1 ⟨C, ns, rfl, hg, hG, hB1⟩; have HB1 := Lib.hid hB1; clear hB1 hG hg) | (go_at_call 52; refine (deadlineValid_is _ _ H3 _).mono ?_; rintro e wd ⟨rfl, rfl⟩))
   go_ret
   exact ⟨_, rfl, by rw [HF.out]; exact R_nilJ _ _, HB1.out⟩
 | false =>
  have HF : Hid (ltS g rm wk st dl = []) := Lib.hid (by unfold ltS; rw [h]; rfl)
  have HP := Lib.hid (startsIn_no A c g A1 c1 rm wk A2 c2 st h w hr hr1 hr2 hT)
  clear hr hr1 hr2 hT h
  go_enter Tryd.func22, Tryd.ntmps22
  go_wp2_with (go_at_call 45; refine HP.out.mono ?_; rintro e w1 ⟨rfl, hB1⟩)
  go_ret
  exact ⟨_, rfl, by rw [HF.out]; exact R_nilJ _ _, hB1⟩
set_option maxRecDepth 100000 in
set_option maxHeartbeats 4000000 in
theorem latest_calls (A : Option Addr) (c : Nat) (g : List Tk) (dl : Int) (hd : 0 ≤ dl ∧ dl ≤ 200) (hv : specValid g = true) (w : World) (hr : kTk.C w A g.length g) :
  Calls Tryd.prog 57 #[.slice A g.length c, .int .i64 dl] w fun e w' => ∃ v, e = .returned v ∧ Kd.R (Kd.int .i64) 3 w' w.heap.size (fun _ => True) v (latS g dl g.length) ∧ Below w.heap.size w w' := by
 have HBa : Hid (Below w.heap.size w (w.alloc (.cells #[] 3))) := Lib.hid ((Below.refl _ _).alloc (Nat.le_refl _) _)
 have HO : Hid (Kd.R (Kd.int .i64) 3 (w.alloc (.cells #[] 3)) w.heap.size (fun _ => True) (.slice (some ⟨w.heap.size, 0, none⟩) 0 0) (latS g dl 0)) := Lib.hid (Kd.R_of_own (World.ownsRow_lit (base := w.heap.size) (size := 1) w #[] 0 (Nat.le_refl _) (by simp [maxLen]) rfl) (fun _ _ => trivial))
 have HTC := Lib.hid (stails_calls A c g hv _ (Kd.C_below hr HBa.out))
 have HSP := Lib.hid (tailsS_span hv)
 have h8 := (specValid_TOk hv).1
 have HLS := Lib.hid (latS_snoc g dl)
 clear hr hv
 generalize tailsS g = TN at HTC HSP HLS
 go_enter Tryd.func57, Tryd.ntmps57
 go_wp2_with (go_at_call 86; refine HTC.out.mono ?_; rintro e w3 ⟨v3, rfl, hR3, hB3⟩)
 have HTLN := Lib.hid HSP.out.1
 have hTw : Two w3 w.heap.size (.slice (some ⟨w.heap.size, 0, none⟩) 0 0) v3 (latS g dl 0) TN := ⟨Kd.R_below HO.out hB3, Kd.R_lower hR3 HBa.out.size, fun q h1 h2 => by
  have h3 := (Kd.R_bound hR3).1 q h2
  simp [Value.ownBlock] at h1
  have := h3.2.1
  simp at this
  omega⟩
 have hBw := HBa.out.trans (hB3.mono HBa.out.size)
 obtain ⟨A3, c3, rfl, hl3, _⟩ := Kd.R_reads hR3
 clear hR3 hB3
 go_loopw [5, 7] (fun out i wr => ∃ j, j ≤ g.length ∧ i = .int .i64 (j : Nat) ∧ Two wr w.heap.size out (.slice A3 TN.length c3) (latS g dl j) TN ∧ Below w.heap.size w wr) (fun _ i _ => g.length - (intOf i).toNat)
 case atStart => exact ⟨0, Nat.zero_le _, rfl, hTw, hBw⟩
 case round =>
  clear hTw hBw
  obtain ⟨j, hj, rfl, hT, hB⟩ := hrel
  by_cases hjl : j < g.length
  ·
   obtain ⟨A4, c4, e5, _, hCn⟩ := Kd.R_reads hT.b
   cases e5
   have hjt : j < TN.length := by rw [HTLN.out]; exact hjl
   obtain ⟨ad, rfl, cx⟩ := at_num hCn j hjt
   have hjj : decide ((j : Int) < (g.length : Int)) = true := decide_eq_true (by omega)
   have hji : (j : Int) < (TN.length : Int) := by omega
   have HL := Lib.hid (HLS.out j)
   have htj := HSP.out.2 j
   have hll := latS_len g dl j
   generalize TN.getD j 0 = tm at cx htj HL
   generalize latS g dl j = fl at hT HL hll
   have hwr : IntKind.i64.wrap (dl - tm) = dl - tm := IntWalk.i64_in _ (by omega)
   have HTB := Lib.hid hT
   have hta := hT.a
   have hbs := hB.size
   clear hT hCn
   go_wp2_with (at_builtin; refine ap_int (w0 := w) w.heap.size rfl _ _ rfl u5 fl (dl - tm) rfl rfl rfl hta hB hbs (by omega) ?_; intro v1 w4 hO4 hB4 hg4 hat4; have hT4 := HTB.out.grow hO4 hg4 hat4; clear hg4 hat4 hO4)
   clear hwr
   go_roundw
   case rel => exact ⟨j + 1, by omega, by go_num, by rw [HL.out]; exact hT4, hB4⟩
   case measure => simp [intOf]; omega
  ·
   obtain rfl : j = g.length := by omega
   have hjj : decide ((g.length : Int) < (g.length : Int)) = false := decide_eq_false (by omega)
   go_wp2
   go_ret
   exact ⟨_, rfl, hT.a, hB⟩
theorem lateB_lat {g : List Tk} {st : List Int} {dl : Int} {j n : Nat} (h : j < n) : lateB g st dl j = decide ((latS g dl n).getD j 0 < st.getD j 0) := by
 unfold lateB
 rw [latS_get h]
set_option maxRecDepth 100000 in
set_option maxHeartbeats 4000000 in
theorem sLateTasks_calls (A : Option Addr) (c : Nat) (g : List Tk) (A1 : Option Addr) (c1 : Nat) (rm : List Int) (wk : Int) (A2 : Option Addr) (c2 : Nat) (st : List Int) (dl : Int) (w : World) (hr : kTk.C w A g.length g) (hr1 : (Kd.int .i64).C w A1 rm.length rm) (hr2 : (Kd.int .i64).C w A2 st.length st) :
  Calls Tryd.prog 24 #[.slice A g.length c, .slice A1 rm.length c1, .int .i64 wk, .slice A2 st.length c2, .int .i64 dl] w fun e w' => ∃ v, e = .returned v ∧ Kd.R (Kd.int .i64) 3 w' w.heap.size (fun _ => True) v (ints (ltS g rm wk st dl)) ∧ Below w.heap.size w w' := by
 have HBa : Hid (Below w.heap.size w (w.alloc (.cells #[] 3))) := Lib.hid ((Below.refl _ _).alloc (Nat.le_refl _) _)
 have HO : Hid (Kd.R (Kd.int .i64) 3 (w.alloc (.cells #[] 3)) w.heap.size (fun _ => True) (.slice (some ⟨w.heap.size, 0, none⟩) 0 0) (ints [])) := Lib.hid (Kd.R_of_own (World.ownsRow_lit (base := w.heap.size) (size := 1) w #[] 0 (Nat.le_refl _) (by simp [maxLen]) rfl) (fun _ _ => trivial))
 have hra := Kd.C_below hr HBa.out
 have hrb := Kd.C_below hr1 HBa.out
 have hrc := Kd.C_below hr2 HBa.out
 cases h : vStB g rm wk st with
 | true =>
  have HP := Lib.hid (validStarts_is true A c g A1 c1 rm wk A2 c2 st (Lib.hid h) _ hra hrb hrc)
  have HV := Lib.hid (vSt_valid h)
  have h8 := HV.out.ok.1
  have HR := Lib.hid hr
  have HR2 := Lib.hid hr2
  cases h3 : inB dl 0 200 with
  | true =>
   have HF : Hid (ltS g rm wk st dl = (List.range g.length).filter (lateB g st dl)) := Lib.hid (by unfold ltS; rw [h, h3]; rfl)
   have H3 := Lib.hid h3
   have hdl := inB_true.1 h3
   have HLB := Lib.hid (fun (j : Nat) (hj : j < g.length) => lateB_lat (g := g) (st := st) (dl := dl) hj)
   have HLC := Lib.hid (fun (W : World) (hW : Below w.heap.size w W) => latest_calls A c g dl hdl HV.out.v W (Kd.C_below HR.out hW))
   have HLL := Lib.hid (latS_len g dl g.length)
   generalize latS g dl g.length = LT at HLB HLC HLL
   clear hr hr1 hr2 hra hrb hrc h h3
   go_enter Tryd.func24, Tryd.ntmps24
   go_wp2_with (first | (go_at_call 48; refine HP.out.mono ?_; rintro e w1 ⟨rfl, hB1⟩; have HO1 := Lib.hid (Kd.R_below HO.out hB1); have HB1 := Lib.hid (HBa.out.trans (hB1.mono HBa.out.size)); clear hB1) | (go_at_call 56; refine (inRange_is _ _ _ _ H3 _).mono ?_; rintro e wd ⟨rfl, rfl⟩) | (go_at_call 57; refine (HLC.out _ HB1.out).mono ?_; rintro e w3 ⟨v3, rfl, hR3, hB3⟩))
   have hTw : Two w3 w.heap.size (.slice (some ⟨w.heap.size, 0, none⟩) 0 0) v3 (ints ((List.range 0).filter (lateB g st dl))) LT := ⟨Kd.R_below HO1.out hB3, Kd.R_lower hR3 HB1.out.size, fun q h1 h2 => by
    have h3 := (Kd.R_bound hR3).1 q h2
    have h4 := R_lt HO1.out h1
    have := h3.2.1
    omega⟩
   have hBw := HB1.out.trans (hB3.mono HB1.out.size)
   obtain ⟨A3, c3, rfl, hl3, _⟩ := Kd.R_reads hR3
   clear hR3 hB3 HO1
   go_loopw [11, 13] (fun out i wr => ∃ j, j ≤ g.length ∧ i = .int .i64 (j : Nat) ∧ Two wr w.heap.size out (.slice A3 LT.length c3) (ints ((List.range j).filter (lateB g st dl))) LT ∧ Below w.heap.size w wr) (fun _ i _ => g.length - (intOf i).toNat)
   case atStart => exact ⟨0, Nat.zero_le _, rfl, hTw, hBw⟩
   case round =>
    clear hTw hBw HB1
    obtain ⟨j, hj, rfl, hT, hB⟩ := hrel
    by_cases hjl : j < g.length
    ·
     have hjs : j < st.length := by rw [HV.out.len]; exact hjl
     obtain ⟨A4, c4, e5, _, hCn⟩ := Kd.R_reads hT.b
     cases e5
     have hjt : j < LT.length := by rw [HLL.out]; exact hjl
     obtain ⟨ad, rfl, cx⟩ := at_num hCn j hjt
     obtain ⟨ads, rfl, cs⟩ := at_num (Kd.C_below HR2.out hB) j hjs
     have hjj : decide ((j : Int) < (g.length : Int)) = true := decide_eq_true (by omega)
     have hji : (j : Int) < (LT.length : Int) := by omega
     have hjsi : (j : Int) < (st.length : Int) := by omega
     have HFS : Hid ((List.range (j + 1)).filter (lateB g st dl) = if lateB g st dl j then (List.range j).filter (lateB g st dl) ++ [j] else (List.range j).filter (lateB g st dl)) := Lib.hid (filter_snoc j)
     have hfl := filter_range_le (lateB g st dl) j
     have HBD := Lib.hid (HLB.out j hjl)
     generalize (List.range j).filter (lateB g st dl) = fl at hT HFS hfl
     generalize st.getD j 0 = s at cs HBD
     generalize LT.getD j 0 = lt at cx HBD
     have HTB := Lib.hid (And.intro hT hB)
     have hol : (ints fl).length < 1000000 := by rw [ints_length]; omega
     clear hT hB hCn
     by_cases h1 : lt < s
     ·
      have d1 : decide (lt < s) = true := decide_eq_true h1
      rw [d1] at HBD
      clear h1
      go_wp2
      go_quiet (fail)
      have hta := Kd.R_drewN HTB.out.1.a nq
      have hB2 := pw_below_drewN HTB.out.2 nq
      have hT2 : Two (wr.drewN nq) w.heap.size u11 (.slice (some ad) LT.length c3) (ints fl) LT := ⟨hta, Kd.R_drewN HTB.out.1.b nq, HTB.out.1.ne⟩
      have HT2 := Lib.hid hT2
      clear hT2
      go_wp2_with (at_builtin; refine ap_int (w0 := w) w.heap.size rfl _ _ rfl u11 (ints fl) (j : Int) rfl rfl rfl hta hB2 hB2.size hol ?_; intro v1 w4 hO4 hB4 hg4 hat4; have hT4 := HT2.out.grow hO4 hg4 hat4; clear hg4 hat4 hO4)
      go_roundw
      case rel => exact ⟨j + 1, by omega, by go_num, by rw [HFS.out, HBD.out, if_pos rfl]; simpa [ints] using hT4, hB4⟩
      case measure => simp [intOf]; omega
     ·
      have d1 : decide (lt < s) = false := decide_eq_false h1
      rw [d1] at HBD
      clear h1
      go_wp2
      go_quiet (fail)
      go_wp2
      go_roundw
      case rel => exact ⟨j + 1, by omega, by go_num, by rw [HFS.out, HBD.out, if_neg (by simp)]; exact ⟨Kd.R_drewN HTB.out.1.a _, Kd.R_drewN HTB.out.1.b _, HTB.out.1.ne⟩, pw_below_drewN HTB.out.2 _⟩
      case measure => simp [intOf]; omega
    ·
     obtain rfl : j = g.length := by omega
     have hjj : decide ((g.length : Int) < (g.length : Int)) = false := decide_eq_false (by omega)
     go_wp2
     go_ret
     exact ⟨_, rfl, by rw [HF.out]; exact hT.a, hB⟩
  | false =>
   have HF : Hid (ltS g rm wk st dl = []) := Lib.hid (by unfold ltS; rw [h3, Bool.and_false]; rfl)
   have H3 := Lib.hid h3
   clear hr hr1 hr2 hra hrb hrc h h3
   go_enter Tryd.func24, Tryd.ntmps24
   go_wp2_with (first | (go_at_call 48; refine HP.out.mono ?_; rintro e w1 ⟨rfl, hB1⟩; have HB1 := Lib.hid (HBa.out.trans (hB1.mono HBa.out.size)); clear hB1) | (go_at_call 56; refine (inRange_is _ _ _ _ H3 _).mono ?_; rintro e wd ⟨rfl, rfl⟩))
   go_ret
   exact ⟨_, rfl, by rw [HF.out]; exact R_nilJ _ _, HB1.out⟩
 | false =>
  have HF : Hid (ltS g rm wk st dl = []) := Lib.hid (by unfold ltS; rw [h]; rfl)
  have HP := Lib.hid (validStarts_is false A c g A1 c1 rm wk A2 c2 st (Lib.hid h) _ hra hrb hrc)
  clear hr hr1 hr2 hra hrb hrc h
  go_enter Tryd.func24, Tryd.ntmps24
  go_wp2_with (go_at_call 48; refine HP.out.mono ?_; rintro e w1 ⟨rfl, hB1⟩)
  go_ret
  exact ⟨_, rfl, by rw [HF.out]; exact R_nilJ _ _, HBa.out.trans (hB1.mono HBa.out.size)⟩
end Go.Proofs.YtifbjnhicnfdoaaDoor

namespace Go.Proofs.YtifbjnhicnfdoaaDoor
set_option linter.unusedVariables false
set_option linter.unusedSimpArgs false
open Go.RowKit Go.Shelf Bits
def ovE (g : List Tk) (st : List Int) (t : Int) : Nat → List Ev
 | 0 => []
 | n + 1 => if st.getD n 0 + (rdTk g n).f0 = t then ovE g st t n ++ [⟨t, (n : Int), true⟩] else ovE g st t n
def bgE (st : List Int) (t : Int) : Nat → List Ev
 | 0 => []
 | n + 1 => if st.getD n 0 = t then bgE st t n ++ [⟨t, (n : Int), false⟩] else bgE st t n
def logL (g : List Tk) (st : List Int) : Nat → List Ev
 | 0 => []
 | t + 1 => logL g st t ++ (ovE g st (t : Nat) g.length ++ bgE st (t : Nat) g.length)
theorem mem_ovE {g : List Tk} {st : List Int} {t : Int} {x : Ev} : ∀ n, x ∈ ovE g st t n ↔ ∃ i, i < n ∧ st.getD i 0 + (rdTk g i).f0 = t ∧ x = chO g st i
 | 0 => by simp [ovE]
 | n + 1 => by
  have ih := mem_ovE (g := g) (st := st) (t := t) (x := x) n
  unfold ovE
  split
  ·
   rename_i h
   rw [List.mem_append, ih, List.mem_singleton]
   constructor
   ·
    rintro (⟨i, h1, h2⟩ | h1)
    ·
     exact ⟨i, by omega, h2⟩
    ·
     refine ⟨n, by omega, h, ?_⟩
     rw [h1]
     unfold chO
     rw [h]
   ·
    rintro ⟨i, h1, h2, h3⟩
    by_cases e : i = n
    ·
     subst e
     refine .inr ?_
     rw [h3]
     unfold chO
     rw [h]
    ·
     exact .inl ⟨i, by omega, h2, h3⟩
  ·
   rename_i h
   rw [ih]
   constructor
   ·
    rintro ⟨i, h1, h2⟩
    exact ⟨i, by omega, h2⟩
   ·
    rintro ⟨i, h1, h2, h3⟩
    by_cases e : i = n
    ·
     subst e
     exact absurd h2 h
    ·
     exact ⟨i, by omega, h2, h3⟩
theorem mem_bgE {st : List Int} {t : Int} {x : Ev} : ∀ n, x ∈ bgE st t n ↔ ∃ i, i < n ∧ st.getD i 0 = t ∧ x = chB st i
 | 0 => by simp [bgE]
 | n + 1 => by
  have ih := mem_bgE (st := st) (t := t) (x := x) n
  unfold bgE
  split
  ·
   rename_i h
   rw [List.mem_append, ih, List.mem_singleton]
   constructor
   ·
    rintro (⟨i, h1, h2⟩ | h1)
    ·
     exact ⟨i, by omega, h2⟩
    ·
     refine ⟨n, by omega, h, ?_⟩
     rw [h1]
     unfold chB
     rw [h]
   ·
    rintro ⟨i, h1, h2, h3⟩
    by_cases e : i = n
    ·
     subst e
     refine .inr ?_
     rw [h3]
     unfold chB
     rw [h]
    ·
     exact .inl ⟨i, by omega, h2, h3⟩
  ·
   rename_i h
   rw [ih]
   constructor
   ·
    rintro ⟨i, h1, h2⟩
    exact ⟨i, by omega, h2⟩
   ·
    rintro ⟨i, h1, h2, h3⟩
    by_cases e : i = n
    ·
     subst e
     exact absurd h2 h
    ·
     exact ⟨i, by omega, h2, h3⟩
theorem sort_ovE {g : List Tk} {st : List Int} {t : Int} : ∀ n, (ovE g st t n).Pairwise ltE
 | 0 => List.Pairwise.nil
 | n + 1 => by
  have ih := sort_ovE (g := g) (st := st) (t := t) n
  unfold ovE
  split
  ·
   refine List.pairwise_append.2 ⟨ih, List.pairwise_singleton _ _, fun a ha b hb => ?_⟩
   obtain ⟨i, h1, h2, rfl⟩ := (mem_ovE n).1 ha
   rw [List.mem_singleton] at hb
   subst hb
   exact .inr ⟨h2, .inr ⟨rfl, by show (i : Int) < (n : Int); omega⟩⟩
  ·
   exact ih
theorem sort_bgE {st : List Int} {t : Int} : ∀ n, (bgE st t n).Pairwise ltE
 | 0 => List.Pairwise.nil
 | n + 1 => by
  have ih := sort_bgE (st := st) (t := t) n
  unfold bgE
  split
  ·
   refine List.pairwise_append.2 ⟨ih, List.pairwise_singleton _ _, fun a ha b hb => ?_⟩
   obtain ⟨i, h1, h2, rfl⟩ := (mem_bgE n).1 ha
   rw [List.mem_singleton] at hb
   subst hb
   exact .inr ⟨h2, .inr ⟨rfl, by show (i : Int) < (n : Int); omega⟩⟩
  ·
   exact ih
theorem mem_logL {g : List Tk} {st : List Int} {x : Ev} : ∀ m : Nat, x ∈ logL g st m ↔ ∃ i, i < g.length ∧ 0 ≤ x.f0 ∧ x.f0 < m ∧ (x = chB st i ∨ x = chO g st i)
 | 0 => by
  simp only [logL, List.not_mem_nil, false_iff]
  rintro ⟨i, _, h1, h2, _⟩
  omega
 | m + 1 => by
  unfold logL
  rw [List.mem_append, List.mem_append, mem_logL m, mem_ovE, mem_bgE]
  constructor
  ·
   rintro (⟨i, h1, h2, h3, h4⟩ | ⟨i, h1, h2, rfl⟩ | ⟨i, h1, h2, rfl⟩)
   ·
    exact ⟨i, h1, h2, by omega, h4⟩
   ·
    have e : (chO g st i).f0 = (m : Int) := h2
    exact ⟨i, h1, by omega, by omega, .inr rfl⟩
   ·
    have e : (chB st i).f0 = (m : Int) := h2
    exact ⟨i, h1, by omega, by omega, .inl rfl⟩
  ·
   rintro ⟨i, h1, h2, h3, h4⟩
   by_cases e : x.f0 = (m : Int)
   ·
    rcases h4 with rfl | rfl
    ·
     exact .inr (.inr ⟨i, h1, e, rfl⟩)
    ·
     exact .inr (.inl ⟨i, h1, e, rfl⟩)
   ·
    exact .inl ⟨i, h1, h2, by omega, h4⟩
theorem sort_logL (g : List Tk) (st : List Int) : ∀ m : Nat, (logL g st m).Pairwise ltE
 | 0 => List.Pairwise.nil
 | m + 1 => by
  unfold logL
  refine List.pairwise_append.2 ⟨sort_logL g st m, List.pairwise_append.2 ⟨sort_ovE _, sort_bgE _, fun a ha b hb => ?_⟩, fun a ha b hb => ?_⟩
  ·
   obtain ⟨i, h1, h2, rfl⟩ := (mem_ovE _).1 ha
   obtain ⟨k, h3, h4, rfl⟩ := (mem_bgE _).1 hb
   exact .inr ⟨h2.trans h4.symm, .inl ⟨rfl, rfl⟩⟩
  ·
   obtain ⟨_, _, _, h3, _⟩ := (mem_logL m).1 ha
   have hb0 : b.f0 = (m : Int) := by
    rcases List.mem_append.1 hb with hb | hb
    ·
     obtain ⟨i, h1, h2, rfl⟩ := (mem_ovE _).1 hb
     exact h2
    ·
     obtain ⟨i, h1, h2, rfl⟩ := (mem_bgE _).1 hb
     exact h2
   exact .inl (by omega)
theorem chgS_strict (g : List Tk) (st : List Int) : (chgS g st).Pairwise ltE :=
 (List.Pairwise.and (chgS_sorted g st) (chgS_nodup g st)).imp (fun {a b} h => by
  by_cases hl : ltE a b
  ·
   exact hl
  ·
   exact absurd (ltE_total hl h.1) h.2)
theorem sorted_ext : ∀ {l1 l2 : List Ev}, l1.Pairwise ltE → l2.Pairwise ltE → (∀ x, x ∈ l1 ↔ x ∈ l2) → l1 = l2
 | [], [], _, _, _ => rfl
 | [], b :: t, _, _, h => absurd ((h b).2 List.mem_cons_self) (by simp)
 | a :: t, [], _, _, h => absurd ((h a).1 List.mem_cons_self) (by simp)
 | a :: t, b :: u, h1, h2, h => by
  obtain ⟨p1, p2⟩ := List.pairwise_cons.1 h1
  obtain ⟨q1, q2⟩ := List.pairwise_cons.1 h2
  have e : a = b := by
   rcases List.mem_cons.1 ((h a).1 List.mem_cons_self) with e | ha
   ·
    exact e
   ·
    rcases List.mem_cons.1 ((h b).2 List.mem_cons_self) with e | hb
    ·
     exact e.symm
    ·
     exact absurd (ltE_trans (p1 b hb) (q1 a ha)) (ltE_irrefl a)
  subst e
  rw [sorted_ext p2 q2 (fun x => ⟨fun hx => by
   rcases List.mem_cons.1 ((h x).1 (List.mem_cons_of_mem _ hx)) with e | hx2
   ·
    exact absurd (p1 x hx) (by rw [e]; exact ltE_irrefl _)
   ·
    exact hx2, fun hx => by
   rcases List.mem_cons.1 ((h x).2 (List.mem_cons_of_mem _ hx)) with e | hx2
   ·
    exact absurd (q1 x hx) (by rw [e]; exact ltE_irrefl _)
   ·
    exact hx2⟩)]
theorem log_eq {g : List Tk} {rm : List Int} {wk : Int} {st : List Int} (h : Valid g rm wk st) : logL g st 221 = chgS g st := by
 refine sorted_ext (sort_logL g st 221) (chgS_strict g st) (fun x => ?_)
 rw [mem_logL, mem_chgS]
 constructor
 ·
  rintro ⟨i, h1, _, _, h4⟩
  exact ⟨i, h1, h4⟩
 ·
  rintro ⟨i, h1, h2⟩
  have hb := h.b i h1
  have ht := h.ok.2.1 i
  have ht2 := h.ok
  refine ⟨i, h1, ?_, ?_, h2⟩
  ·
   rcases h2 with rfl | rfl
   ·
    exact hb.1
   ·
    show 0 ≤ st.getD i 0 + (rdTk g i).f0
    omega
  ·
   rcases h2 with rfl | rfl
   ·
    show st.getD i 0 < _
    omega
   ·
    show st.getD i 0 + (rdTk g i).f0 < _
    omega
theorem lgS_log {g : List Tk} {rm : List Int} {wk : Int} {st : List Int} (h : Valid g rm wk st) : lgS g rm wk st = logL g st 221 := by
 unfold lgS
 rw [valid_vSt h, if_pos rfl, log_eq h]
theorem log_times {g : List Tk} {rm : List Int} {wk : Int} {st : List Int} (h : Valid g rm wk st) : (lgS g rm wk st).length = 2 * g.length ∧ (∀ q, q < 2 * g.length → ∃ i : Nat, i < g.length ∧ (rdEv (lgS g rm wk st) q).f1 = (i : Int) ∧ ((rdEv (lgS g rm wk st) q).f2 = false → (rdEv (lgS g rm wk st) q).f0 = st.getD i 0) ∧ ((rdEv (lgS g rm wk st) q).f2 = true → (rdEv (lgS g rm wk st) q).f0 = st.getD i 0 + (rdTk g i).f0)) ∧ (∀ q, q + 1 < 2 * g.length → (rdEv (lgS g rm wk st) q).f0 ≤ (rdEv (lgS g rm wk st) (q + 1)).f0) := by
 have e : lgS g rm wk st = chgS g st := by unfold lgS; rw [valid_vSt h, if_pos rfl]
 rw [e]
 have hl := chgS_len g st
 have hg : ∀ q (hq : q < (chgS g st).length), rdEv (chgS g st) q = (chgS g st)[q] := fun q hq => by
  unfold rdEv
  rw [List.getD_eq_getElem?_getD, List.getElem?_eq_getElem hq]
  rfl
 refine ⟨hl, fun q hq => ?_, fun q hq => ?_⟩
 ·
  rw [hg q (by omega)]
  obtain ⟨i, hi, h2⟩ := mem_chgS.1 (List.getElem_mem (show q < (chgS g st).length by omega))
  rcases h2 with h2 | h2 <;> rw [h2]
  ·
   exact ⟨i, hi, rfl, fun _ => rfl, fun hh => by cases hh⟩
  ·
   exact ⟨i, hi, rfl, (fun hh => by cases hh), fun _ => rfl⟩
 ·
  rw [hg q (by omega), hg (q + 1) (by omega)]
  have := List.pairwise_iff_getElem.1 (chgS_strict g st) q (q + 1) (by omega) (by omega) (by omega)
  rcases this with h3 | ⟨h3, _⟩ <;> omega
theorem ovE_len (g : List Tk) (st : List Int) (t : Int) : ∀ n, (ovE g st t n).length ≤ n
 | 0 => Nat.le_refl _
 | n + 1 => by
  have ih := ovE_len g st t n
  unfold ovE
  split
  ·
   rw [List.length_append, List.length_singleton]
   omega
  ·
   omega
theorem bgE_len (st : List Int) (t : Int) : ∀ n, (bgE st t n).length ≤ n
 | 0 => Nat.le_refl _
 | n + 1 => by
  have ih := bgE_len st t n
  unfold bgE
  split
  ·
   rw [List.length_append, List.length_singleton]
   omega
  ·
   omega
theorem logL_len (g : List Tk) (st : List Int) (h8 : g.length ≤ 8) : ∀ m, (logL g st m).length ≤ 16 * m
 | 0 => Nat.le_refl _
 | m + 1 => by
  have ih := logL_len g st h8 m
  have h1 := ovE_len g st (m : Nat) g.length
  have h2 := bgE_len st (m : Nat) g.length
  unfold logL
  rw [List.length_append, List.length_append]
  omega
end Go.Proofs.YtifbjnhicnfdoaaDoor
