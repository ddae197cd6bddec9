/- The reference's topOrder and validGraph. -/
import Derived.Test.YtpmfghbjkampkaaDoorSpec2
namespace Go.Proofs.YtpmfghbjkampkaaDoor
set_option linter.unusedVariables false
set_option linter.unusedSimpArgs false
open Go.RowKit Go.Shelf Bits
open Go.Proofs.YtpmfghbjkampkaaDoorW.PrintWords Go.Proofs.YtpmfghbjkampkaaDoorW.PrintLast Go.Proofs.YtpmfghbjkampkaaDoorW.PrintMore
def specReady (g : List Tk) (out : List Nat) (i : Nat) : Bool := !decide ((i : Int) ∈ ints out) && allDoneB (rdTk g i).f1 (ints out)
def topFirst (g : List Tk) (out : List Nat) : Option Nat := (List.range g.length).find? (specReady g out)
def topStep (g : List Tk) (out : List Nat) : List Nat := match topFirst g out with
 | some i => out ++ [i]
 | none => out
def topN (g : List Tk) : Nat → List Nat
 | 0 => []
 | k + 1 => topStep g (topN g k)
theorem topFirst_some {g : List Tk} {out : List Nat} {k : Nat} (h : k < g.length) (hp : specReady g out k = true) (hlow : ∀ j, j < k → specReady g out j = false) : topFirst g out = some k := find_range h hp hlow
theorem topFirst_none {g : List Tk} {out : List Nat} (hlow : ∀ j, j < g.length → specReady g out j = false) : topFirst g out = none := by
 unfold topFirst
 rw [List.find?_eq_none]
 intro j hj
 rw [hlow j (List.mem_range.1 hj)]; simp
theorem mem_ints {i : Nat} {l : List Nat} : ((i : Int) ∈ ints l) ↔ i ∈ l := by
 simp only [ints, List.mem_map]
 constructor
 ·
  rintro ⟨j, hj, e⟩
  have : j = i := Int.ofNat.inj e
  exact this ▸ hj
 ·
  exact fun h => ⟨i, h, rfl⟩
theorem topFirst_spec {g : List Tk} {out : List Nat} {k : Nat} (h : topFirst g out = some k) : k < g.length ∧ ¬ k ∈ out ∧ specReady g out k = true := by
 unfold topFirst at h
 have h2 := List.find?_some h
 refine ⟨List.mem_range.1 (List.mem_of_find?_eq_some h), fun hm => ?_, h2⟩
 unfold specReady at h2
 rw [decide_eq_true (mem_ints.2 hm)] at h2
 simp at h2
theorem topN_facts (g : List Tk) : ∀ k, (topN g k).Nodup ∧ (∀ i ∈ topN g k, i < g.length) ∧ (topN g k).length ≤ k
 | 0 => ⟨List.nodup_nil, by intro i h; simp [topN] at h, Nat.le_refl _⟩
 | k + 1 => by
  obtain ⟨h1, h2, h3⟩ := topN_facts g k
  show (topStep g (topN g k)).Nodup ∧ (∀ i ∈ topStep g (topN g k), _) ∧ (topStep g (topN g k)).length ≤ _
  unfold topStep
  cases hf : topFirst g (topN g k) with
  | none => exact ⟨h1, h2, Nat.le_succ_of_le h3⟩
  | some i =>
   obtain ⟨hi, hn, _⟩ := topFirst_spec hf
   refine ⟨?_, fun j hj => ?_, by simp; omega⟩
   ·
    rw [List.nodup_append]
    exact ⟨h1, List.nodup_cons.2 ⟨by simp, List.nodup_nil⟩, fun a ha b hb => by rw [List.mem_singleton.1 hb]; exact fun e => hn (e ▸ ha)⟩
   ·
    rcases List.mem_append.1 hj with hj | hj
    ·
     exact h2 j hj
    ·
     rw [List.mem_singleton.1 hj]; exact hi
def lenOf : Value → Nat
 | .slice _ n _ => n
 | _ => 0
theorem nodup_below : ∀ {n : Nat} {l : List Nat}, l.Nodup → (∀ i ∈ l, i < n) → l.length ≤ n
 | 0, l, _, hb => by
  cases l with
  | nil => exact Nat.le_refl _
  | cons x r => exact absurd (hb x (List.mem_cons_self ..)) (Nat.not_lt_zero _)
 | n + 1, l, h, hb => by
  by_cases hm : n ∈ l
  ·
   have h1 := List.length_erase_of_mem hm
   have h2 : (l.erase n).length ≤ n := nodup_below (h.erase n) fun i hi => by
    have := (h.mem_erase_iff).1 hi
    have := hb i this.2
    omega
   omega
  ·
   have : l.length ≤ n := nodup_below h fun i hi => by
    have := hb i hi
    have : i ≠ n := fun e => hm (e ▸ hi)
    omega
   omega
theorem topN_le (g : List Tk) (k : Nat) : (topN g k).length ≤ g.length := nodup_below (topN_facts g k).1 (topN_facts g k).2.1
theorem topN_stop {g : List Tk} {k : Nat} (h : topFirst g (topN g k) = none) : ∀ j, topN g (k + j) = topN g k
 | 0 => rfl
 | j + 1 => by
  show topStep g (topN g (k + j)) = _
  rw [topN_stop h j]
  unfold topStep
  rw [h]
def topL (g : List Tk) : List Nat := topN g g.length
set_option maxRecDepth 100000 in
set_option maxHeartbeats 4000000 in
theorem topOrder_calls (A : Option Addr) (c : Nat) (g : List Tk) (hlen : g.length ≤ 8) (w : World) (hr : kTk.C w A g.length g) :
  Calls Tryd.prog 84 #[.slice A g.length c] w fun e w' => ∃ v, e = .returned v ∧ Kd.R (Kd.int .i64) 3 w' w.heap.size (fun _ => True) v (ints (topL g)) ∧ Below w.heap.size w w' := by
 have HR := Lib.hid hr
 clear hr
 go_enter Tryd.func84, Tryd.ntmps84
 go_wp2
 have HB1 : Below w.heap.size w (w.alloc (.cells #[] 3)) := (Below.refl _ _).alloc (Nat.le_refl _) _
 have HO : Kd.R (Kd.int .i64) 3 (w.alloc (.cells #[] 3)) w.heap.size (fun _ => True) (.slice (some ⟨w.heap.size, 0, none⟩) 0 0) (ints []) := Kd.R_of_own (World.ownsRow_lit (base := w.heap.size) (size := 1) w #[] 0 (Nat.le_refl _) (by simp [maxLen]) rfl) (fun _ _ => trivial)
 go_loopw [3] (fun out wr => ∃ (l : List Nat), Hid (topN g l.length = l) ∧ Kd.R (Kd.int .i64) 3 wr w.heap.size (fun _ => True) out (ints l) ∧ Below w.heap.size w wr) (fun out _ => g.length + 1 - lenOf out)
 case atStart => exact ⟨[], Lib.hid rfl, HO, HB1⟩
 case round =>
  clear HO HB1
  obtain ⟨l, HS, HO, HB⟩ := hrel
  have hll : l.length ≤ g.length := by have := topN_le g l.length; rw [HS.out] at this; exact this
  obtain ⟨Al, cl, rfl, hcl, hCl⟩ := Kd.R_reads HO
  have HC := Lib.hid hCl
  clear hCl
  go_wp2
  obtain ⟨wo, rfl⟩ : ∃ wo : World, wo = wr := ⟨_, rfl⟩
  go_loopw [4, 5] (fun nx i wi => ∃ (j : Nat), j ≤ g.length ∧ i = .int .i64 j ∧ ((nx = .int .i64 (-1) ∧ Hid (∀ q, q < j → specReady g l q = false)) ∨ ∃ q : Nat, q < j ∧ nx = .int .i64 q ∧ Hid (topFirst g l = some q)) ∧ wi = wo) (fun nx i _ => g.length - (intOf i).toNat)
  case atStart => exact ⟨0, Nat.zero_le _, rfl, .inl ⟨rfl, Lib.hid fun q h => absurd h (Nat.not_lt_zero _)⟩, rfl⟩
  case round =>
   obtain ⟨j, hj, rfl, hnx, rfl⟩ := hrel
   rcases hnx with ⟨rfl, HL⟩ | ⟨q, hq, rfl, HF⟩
   ·
    by_cases hjl : j < g.length
    ·
     obtain ⟨ad, A1, c1, rfl, hc0, hc1, hc2, hc3, hl1, hC1⟩ := at_Tk (Kd.C_below HR.out HB) j hjl
     have hjj : decide ((j : Int) < (g.length : Int)) = true := decide_eq_true (by omega)
     cases hm : decide ((j : Int) ∈ ints l)
     ·
      have HM := Lib.hid hm
      cases hd : allDoneB (rdTk g j).f1 (ints l)
      ·
       have HD := Lib.hid hd
       have HN := step_lt HL (show specReady g l j = false by unfold specReady; rw [hm, hd]; rfl)
       clear hm hd
       generalize rdTk g j = t at *
       go_wp2_with (first | (go_at_call 68; with_reducible refine (isIn_is _ _ _ _ _ HM _ HC.out).mono ?_; rintro e w' ⟨rfl, rfl⟩) | (go_at_call 69; refine (allDone_is _ _ _ _ _ _ _ HD _ hC1 HC.out).mono ?_; rintro e w' ⟨rfl, rfl⟩))
       go_roundw
       case rel => exact ⟨j + 1, by omega, by go_num, .inl ⟨rfl, HN⟩, trivial⟩
       case measure => simp [intOf]; omega
      ·
       have HD := Lib.hid hd
       have HF := Lib.hid (topFirst_some hjl (show specReady g l j = true by unfold specReady; rw [hm, hd]; rfl) HL.out)
       clear hm hd
       generalize rdTk g j = t at *
       go_wp2_with (first | (go_at_call 68; with_reducible refine (isIn_is _ _ _ _ _ HM _ HC.out).mono ?_; rintro e w' ⟨rfl, rfl⟩) | (go_at_call 69; refine (allDone_is _ _ _ _ _ _ _ HD _ hC1 HC.out).mono ?_; rintro e w' ⟨rfl, rfl⟩))
       go_roundw
       case rel => exact ⟨j + 1, by omega, by go_num, .inr ⟨j, by omega, rfl, HF⟩, trivial⟩
       case measure => simp [intOf]; omega
     ·
      have HM := Lib.hid hm
      have HN := step_lt HL (show specReady g l j = false by unfold specReady; rw [hm]; rfl)
      clear hm
      generalize rdTk g j = t at *
      go_wp2_with (go_at_call 68; with_reducible refine (isIn_is _ _ _ _ _ HM _ HC.out).mono ?_; rintro e w' ⟨rfl, rfl⟩)
      go_roundw
      case rel => exact ⟨j + 1, by omega, by go_num, .inl ⟨rfl, HN⟩, trivial⟩
      case measure => simp [intOf]; omega
    ·
     have hjj : decide ((j : Int) < (g.length : Int)) = false := decide_eq_false (by omega)
     have hn : topFirst g l = none := topFirst_none fun q hq => HL.out q (by omega)
     have HT : Hid (topL g = l) := Lib.hid (by
      have h1 : topFirst g (topN g l.length) = none := by rw [HS.out]; exact hn
      have h2 := topN_stop h1 (g.length - l.length)
      rw [show l.length + (g.length - l.length) = g.length from by omega, HS.out] at h2
      exact h2)
     clear hn
     go_wp2
     go_ret
     exact ⟨_, rfl, by rw [HT.out]; exact HO, HB⟩
   ·
    have hqg : q < g.length := by omega
    have hgt : decide ((q : Int) < 0) = false := decide_eq_false (by omega)
    have HS2 : Hid (topN g (l ++ [q]).length = l ++ [q]) := Lib.hid (by
     rw [List.length_append]
     show topStep g (topN g l.length) = _
     rw [HS.out]
     unfold topStep
     rw [HF.out])
    have hl2 : (l ++ [q]).length ≤ g.length := by have := topN_le g (l ++ [q]).length; rw [HS2.out] at this; exact this
    simp at hl2
    by_cases hjl : j < g.length
    ·
     have hjj : decide ((j : Int) < (g.length : Int)) = true := decide_eq_true (by omega)
     go_wp2_with (at_builtin; refine ap_int (w0 := w) w.heap.size rfl _ _ rfl (.slice Al (ints l).length cl) (ints l) (q : Int) rfl rfl rfl HO HB HB.size (by rw [ints_length]; omega) ?_; intro v1 w2 hO2 hB2 _ _)
     obtain ⟨A', c', rfl, _, _⟩ := Kd.R_reads hO2
     refine ⟨⟨l ++ [q], HS2, by simpa [ints] using hO2, hB2⟩, ?_⟩
     simp only [lenOf, List.length_append, ints_length, List.length_singleton]
     omega
    ·
     have hjj : decide ((j : Int) < (g.length : Int)) = false := decide_eq_false (by omega)
     go_wp2_with (at_builtin; refine ap_int (w0 := w) w.heap.size rfl _ _ rfl (.slice Al (ints l).length cl) (ints l) (q : Int) rfl rfl rfl HO HB HB.size (by rw [ints_length]; omega) ?_; intro v1 w2 hO2 hB2 _ _)
     obtain ⟨A', c', rfl, _, _⟩ := Kd.R_reads hO2
     refine ⟨⟨l ++ [q], HS2, by simpa [ints] using hO2, hB2⟩, ?_⟩
     simp only [lenOf, List.length_append, ints_length, List.length_singleton]
     omega
def specValid (g : List Tk) : Bool := tasksFineB g && decide ((topL g).length = g.length)
set_option maxHeartbeats 2000000 in
theorem validGraph_calls (A : Option Addr) (c : Nat) (g : List Tk) (w : World) (hr : kTk.C w A g.length g) :
  Calls Tryd.prog 40 #[.slice A g.length c] w fun e w' => e = .returned (.bool (specValid g)) ∧ Below w.heap.size w w' := by
 have hl := (C_len hr).2
 have HR := Lib.hid hr
 clear hr
 cases hf : tasksFineB g
 ·
  have HF := Lib.hid hf
  clear hf
  go_enter Tryd.func40, Tryd.ntmps40
  go_wp2_with (go_at_call 83; refine (tasksFine_is _ _ _ _ HF _ HR.out).mono ?_; rintro e w1 ⟨rfl, hB1⟩)
  go_ret
  exact ⟨ret_bool (by rw [specValid, HF.out]; rfl), hB1⟩
 ·
  have HF := Lib.hid hf
  have hlen : g.length ≤ 8 := by
   unfold tasksFineB at hf
   simp at hf
   exact hf.2
  clear hf
  go_enter Tryd.func40, Tryd.ntmps40
  go_wp2_with (first | (go_at_call 83; refine (tasksFine_is _ _ _ _ HF _ HR.out).mono ?_; rintro e w1 ⟨rfl, hB1⟩) | (go_at_call 84; refine (topOrder_calls _ _ _ hlen _ (Kd.C_below HR.out hB1)).mono ?_; rintro e w2 ⟨v2, rfl, hR2, hB2⟩; obtain ⟨A2, c2, rfl, hl2, hC2⟩ := Kd.R_reads hR2; rw [ints_length]))
  go_ret
  refine ⟨ret_bool ?_, below_step hB1 hB2⟩
  rw [specValid, HF.out, Bool.true_and]
  rw [Bool.eq_iff_iff, beq_iff_eq, decide_eq_true_iff]
  omega
theorem validGraph_is (b : Bool) (A : Option Addr) (c : Nat) (g : List Tk) (h : Hid (specValid g = b)) (w : World) (hr : kTk.C w A g.length g) :
  Calls Tryd.prog 40 #[.slice A g.length c] w fun e w' => e = .returned (.bool b) ∧ Below w.heap.size w w' :=
 (validGraph_calls A c g w hr).mono fun e w' ⟨he, hw⟩ => ⟨by rw [he, h.out], hw⟩
end Go.Proofs.YtpmfghbjkampkaaDoor
