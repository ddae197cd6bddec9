/- Parts of the proof, laid as one text by a program of mine. -/
import Derived.Test.YtkljcdghbefceaaGreatDoorKbtc3
import Derived.StillTailTactics
namespace Go.Proofs.YtkljcdghbefceaaGreatDoor
set_option linter.unusedVariables false
set_option linter.unusedSimpArgs false
open Go.RowKit Go.Shelf Bits
open Go.Proofs.YtkljcdghbefceaaGreatDoorW.PrintWords Go.Proofs.YtkljcdghbefceaaGreatDoorW.PrintLast Go.Proofs.YtkljcdghbefceaaGreatDoorW.PrintMore
theorem allIn_is (b : Bool) (A : Option Addr) (c : Nat) (l : List Int) (lo hi : Int) (h : Hid (allInB l lo hi = b)) (w : World) (hr : (Kd.int .i64).C w A l.length l) :
  Calls Tryz.prog 63 #[.slice A l.length c, .int .i64 lo, .int .i64 hi] w fun e w' => e = .returned (.bool b) ∧ w' = w :=
 (allIn_calls A c l lo hi w hr).mono fun e w' ⟨he, hw⟩ => ⟨by rw [he, h.out], hw⟩
theorem ascends_is (b : Bool) (A : Option Addr) (c : Nat) (l : List Int) (h : Hid (ascB l = b)) (w : World) (hr : (Kd.int .i64).C w A l.length l) :
  Calls Tryz.prog 89 #[.slice A l.length c] w fun e w' => e = .returned (.bool b) ∧ Below w.heap.size w w' :=
 (ascends_calls A c l w hr).mono fun e w' ⟨he, hw⟩ => ⟨by rw [he, h.out], hw⟩
def taskFineB (n : Int) (t : Tk) : Bool := inB t.f0 1 20 && inB t.f2 0 2 && inB t.f3 1 4 && allInB t.f1 0 (n - 1) && ascB t.f1
def tkVal (t : Tk) (v : Value) : Value := .agg #[.int .i64 t.f0, v, .int .i64 t.f2, .int .i64 t.f3]
set_option maxRecDepth 100000 in
set_option maxHeartbeats 2000000 in
theorem validTask_calls (t : Tk) (A : Option Addr) (c : Nat) (n : Int) (hn0 : 0 ≤ n) (hn : n ≤ 9223372036854775807) (w : World) (hC : (Kd.int .i64).C w A t.f1.length t.f1) :
  Calls Tryz.prog 82 #[.agg #[.int .i64 t.f0, .slice A t.f1.length c, .int .i64 t.f2, .int .i64 t.f3], .int .i64 n] w fun e w' => e = .returned (.bool (taskFineB n t)) ∧ Below w.heap.size w w' := by
 cases b0 : inB t.f0 1 20
 ·
  have H0 := Lib.hid b0
  clear b0
  go_enter Tryz.func82, Tryz.ntmps82
  go_wp2_with (first | (go_at_call 35; with_reducible refine (inRange_is _ _ _ _ H0 _).mono ?_; rintro e w' ⟨rfl, rfl⟩))
  go_ret
  exact ⟨ret_bool (by simp only [taskFineB, H0.out]; rfl), below_alloc (Below.refl _ _) _⟩
 ·
  have H0 := Lib.hid b0
  clear b0
  cases b1 : inB t.f2 0 2
  ·
   have H1 := Lib.hid b1
   clear b1
   go_enter Tryz.func82, Tryz.ntmps82
   go_wp2_with (first | (go_at_call 35; with_reducible refine (inRange_is _ _ _ _ H0 _).mono ?_; rintro e w' ⟨rfl, rfl⟩) | (go_at_call 35; with_reducible refine (inRange_is _ _ _ _ H1 _).mono ?_; rintro e w' ⟨rfl, rfl⟩))
   go_ret
   exact ⟨ret_bool (by simp only [taskFineB, H0.out, H1.out]; rfl), below_alloc (Below.refl _ _) _⟩
  ·
   have H1 := Lib.hid b1
   clear b1
   cases b2 : inB t.f3 1 4
   ·
    have H2 := Lib.hid b2
    clear b2
    go_enter Tryz.func82, Tryz.ntmps82
    go_wp2_with (first | (go_at_call 35; with_reducible refine (inRange_is _ _ _ _ H0 _).mono ?_; rintro e w' ⟨rfl, rfl⟩) | (go_at_call 35; with_reducible refine (inRange_is _ _ _ _ H1 _).mono ?_; rintro e w' ⟨rfl, rfl⟩) | (go_at_call 35; with_reducible refine (inRange_is _ _ _ _ H2 _).mono ?_; rintro e w' ⟨rfl, rfl⟩))
    go_ret
    exact ⟨ret_bool (by simp only [taskFineB, H0.out, H1.out, H2.out]; rfl), below_alloc (Below.refl _ _) _⟩
   ·
    have H2 := Lib.hid b2
    clear b2
    cases b3 : allInB t.f1 0 (n - 1)
    ·
     have H3 := Lib.hid b3
     clear b3
     go_enter Tryz.func82, Tryz.ntmps82
     go_wp2_with (first | (go_at_call 35; with_reducible refine (inRange_is _ _ _ _ H0 _).mono ?_; rintro e w' ⟨rfl, rfl⟩) | (go_at_call 35; with_reducible refine (inRange_is _ _ _ _ H1 _).mono ?_; rintro e w' ⟨rfl, rfl⟩) | (go_at_call 35; with_reducible refine (inRange_is _ _ _ _ H2 _).mono ?_; rintro e w' ⟨rfl, rfl⟩) | (go_at_call 63; refine (allIn_is _ _ _ _ _ _ H3 _ (Kd.C_below hC (below_alloc (Below.refl _ _) _))).mono ?_; rintro e w' ⟨rfl, rfl⟩))
     go_ret
     exact ⟨ret_bool (by simp only [taskFineB, H0.out, H1.out, H2.out, H3.out]; rfl), below_alloc (Below.refl _ _) _⟩
    ·
     have H3 := Lib.hid b3
     clear b3
     cases b4 : ascB t.f1
     ·
      have H4 := Lib.hid b4
      clear b4
      go_enter Tryz.func82, Tryz.ntmps82
      go_wp2_with (first | (go_at_call 35; with_reducible refine (inRange_is _ _ _ _ H0 _).mono ?_; rintro e w' ⟨rfl, rfl⟩) | (go_at_call 35; with_reducible refine (inRange_is _ _ _ _ H1 _).mono ?_; rintro e w' ⟨rfl, rfl⟩) | (go_at_call 35; with_reducible refine (inRange_is _ _ _ _ H2 _).mono ?_; rintro e w' ⟨rfl, rfl⟩) | (go_at_call 63; refine (allIn_is _ _ _ _ _ _ H3 _ (Kd.C_below hC (below_alloc (Below.refl _ _) _))).mono ?_; rintro e w' ⟨rfl, rfl⟩) | (go_at_call 89; refine (ascends_is _ _ _ _ H4 _ (Kd.C_below hC (below_alloc (Below.refl _ _) _))).mono ?_; rintro e w1 ⟨rfl, hB1⟩))
      go_ret
      exact ⟨ret_bool (by simp only [taskFineB, H0.out, H1.out, H2.out, H3.out, H4.out]; rfl), below_step (below_alloc (Below.refl _ _) _) hB1⟩
     ·
      have H4 := Lib.hid b4
      clear b4
      go_enter Tryz.func82, Tryz.ntmps82
      go_wp2_with (first | (go_at_call 35; with_reducible refine (inRange_is _ _ _ _ H0 _).mono ?_; rintro e w' ⟨rfl, rfl⟩) | (go_at_call 35; with_reducible refine (inRange_is _ _ _ _ H1 _).mono ?_; rintro e w' ⟨rfl, rfl⟩) | (go_at_call 35; with_reducible refine (inRange_is _ _ _ _ H2 _).mono ?_; rintro e w' ⟨rfl, rfl⟩) | (go_at_call 63; refine (allIn_is _ _ _ _ _ _ H3 _ (Kd.C_below hC (below_alloc (Below.refl _ _) _))).mono ?_; rintro e w' ⟨rfl, rfl⟩) | (go_at_call 89; refine (ascends_is _ _ _ _ H4 _ (Kd.C_below hC (below_alloc (Below.refl _ _) _))).mono ?_; rintro e w1 ⟨rfl, hB1⟩))
      go_ret
      exact ⟨ret_bool (by simp only [taskFineB, H0.out, H1.out, H2.out, H3.out, H4.out]; rfl), below_step (below_alloc (Below.refl _ _) _) hB1⟩
theorem validTask_is (b : Bool) (t : Tk) (A : Option Addr) (c : Nat) (n : Int) (h : Hid (taskFineB n t = b)) (hn0 : 0 ≤ n) (hn : n ≤ 9223372036854775807) (w : World) (hC : (Kd.int .i64).C w A t.f1.length t.f1) :
  Calls Tryz.prog 82 #[.agg #[.int .i64 t.f0, .slice A t.f1.length c, .int .i64 t.f2, .int .i64 t.f3], .int .i64 n] w fun e w' => e = .returned (.bool b) ∧ Below w.heap.size w w' :=
 (validTask_calls t A c n hn0 hn w hC).mono fun e w' ⟨he, hw⟩ => ⟨by rw [he, h.out], hw⟩
def tasksFineB (g : List Tk) : Bool := g.all (taskFineB g.length) && decide (g.length ≤ 8)
set_option maxRecDepth 100000 in
set_option maxHeartbeats 2000000 in
theorem tasksFine_calls (A : Option Addr) (c : Nat) (g : List Tk) (w : World) (hr : kTk.C w A g.length g) :
  Calls Tryz.prog 61 #[.slice A g.length c] w fun e w' => e = .returned (.bool (tasksFineB g)) ∧ Below w.heap.size w w' := by
 have hl := (C_len hr).2
 have HR := Lib.hid hr
 clear hr
 go_enter Tryz.func61, Tryz.ntmps61
 go_wp2
 go_loopw [3] (fun i wr => ∃ (k : Nat), k ≤ g.length ∧ i = .int .i64 k ∧ Hid (∀ j, j < k → taskFineB g.length (g.getD j zTk) = true) ∧ Below w.heap.size w wr) (fun i _ => g.length - (intOf i).toNat)
 case atStart => exact ⟨0, Nat.zero_le _, rfl, Lib.hid fun j h => absurd h (Nat.not_lt_zero _), Below.refl _ _⟩
 case round =>
  obtain ⟨k, hk, rfl, HS, HB⟩ := hrel
  by_cases hlt : k < g.length
  ·
   obtain ⟨ad, A1, c1, rfl, hc0, hc1, hc2, hc3, hl1, hC1⟩ := at_Tk (Kd.C_below HR.out HB) k hlt
   cases hb : taskFineB g.length (rdTk g k)
   ·
    have HX := Lib.hid hb
    have HF : Hid (tasksFineB g = false) := Lib.hid (by unfold tasksFineB; rw [all_not (p := taskFineB g.length) zTk hlt hb]; rfl)
    clear hb
    generalize rdTk g k = t at *
    go_wp2_with (go_at_call 82; refine (validTask_is _ t _ _ _ HX (by omega) (by omega) _ hC1).mono ?_; rintro e w1 ⟨rfl, hB1⟩)
    go_ret
    exact ⟨ret_bool HF.out.symm, below_step HB hB1⟩
   ·
    have HX := Lib.hid hb
    have HN := step_lt HS hb
    clear hb
    generalize rdTk g k = t at *
    go_wp2_with (go_at_call 82; refine (validTask_is _ t _ _ _ HX (by omega) (by omega) _ hC1).mono ?_; rintro e w1 ⟨rfl, hB1⟩)
    go_roundw
    case rel => exact ⟨k + 1, by omega, by go_num, HN, below_step HB hB1⟩
    case measure => simp [intOf]; omega
  ·
   have HF : Hid (tasksFineB g = decide (g.length ≤ 8)) := Lib.hid (by unfold tasksFineB; rw [all_take (p := taskFineB g.length) (l := g) zTk fun j hj => HS.out j (by omega)]; rfl)
   go_wp2
   go_ret
   exact ⟨ret_bool (by rw [HF.out, decide_eq_decide]; omega), HB⟩
theorem tasksFine_is (b : Bool) (A : Option Addr) (c : Nat) (g : List Tk) (h : Hid (tasksFineB g = b)) (w : World) (hr : kTk.C w A g.length g) :
  Calls Tryz.prog 61 #[.slice A g.length c] w fun e w' => e = .returned (.bool b) ∧ Below w.heap.size w w' :=
 (tasksFine_calls A c g w hr).mono fun e w' ⟨he, hw⟩ => ⟨by rw [he, h.out], hw⟩
end Go.Proofs.YtkljcdghbefceaaGreatDoor

namespace Go.Proofs.YtkljcdghbefceaaGreatDoor
set_option linter.unusedVariables false
set_option linter.unusedSimpArgs false
open Go.RowKit Go.Shelf Bits
open Go.Proofs.YtkljcdghbefceaaGreatDoorW.PrintWords Go.Proofs.YtkljcdghbefceaaGreatDoorW.PrintLast Go.Proofs.YtkljcdghbefceaaGreatDoorW.PrintMore
def specReady (g : List Tk) (out : List Nat) (i : Nat) : Bool := !decide ((i : Int) ∈ ints out) && allDoneB (rdTk g i).f1 (ints out)
def topFirst (g : List Tk) (out : List Nat) : Option Nat := (List.range g.length).find? (specReady g out)
def topStep (g : List Tk) (out : List Nat) : List Nat := match topFirst g out with
 | some i => out ++ [i]
 | none => out
def topN (g : List Tk) : Nat → List Nat
 | 0 => []
 | k + 1 => topStep g (topN g k)
theorem topFirst_some {g : List Tk} {out : List Nat} {k : Nat} (h : k < g.length) (hp : specReady g out k = true) (hlow : ∀ j, j < k → specReady g out j = false) : topFirst g out = some k := find_range h hp hlow
theorem topFirst_none {g : List Tk} {out : List Nat} (hlow : ∀ j, j < g.length → specReady g out j = false) : topFirst g out = none := by
 unfold topFirst
 rw [List.find?_eq_none]
 intro j hj
 rw [hlow j (List.mem_range.1 hj)]; simp
theorem mem_ints {i : Nat} {l : List Nat} : ((i : Int) ∈ ints l) ↔ i ∈ l := by
 simp only [ints, List.mem_map]
 constructor
 ·
  rintro ⟨j, hj, e⟩
  have : j = i := Int.ofNat.inj e
  exact this ▸ hj
 ·
  exact fun h => ⟨i, h, rfl⟩
theorem topFirst_spec {g : List Tk} {out : List Nat} {k : Nat} (h : topFirst g out = some k) : k < g.length ∧ ¬ k ∈ out ∧ specReady g out k = true := by
 unfold topFirst at h
 have h2 := List.find?_some h
 refine ⟨List.mem_range.1 (List.mem_of_find?_eq_some h), fun hm => ?_, h2⟩
 unfold specReady at h2
 rw [decide_eq_true (mem_ints.2 hm)] at h2
 simp at h2
theorem topN_facts (g : List Tk) : ∀ k, (topN g k).Nodup ∧ (∀ i ∈ topN g k, i < g.length) ∧ (topN g k).length ≤ k
 | 0 => ⟨List.nodup_nil, by intro i h; simp [topN] at h, Nat.le_refl _⟩
 | k + 1 => by
  obtain ⟨h1, h2, h3⟩ := topN_facts g k
  show (topStep g (topN g k)).Nodup ∧ (∀ i ∈ topStep g (topN g k), _) ∧ (topStep g (topN g k)).length ≤ _
  unfold topStep
  cases hf : topFirst g (topN g k) with
  | none => exact ⟨h1, h2, Nat.le_succ_of_le h3⟩
  | some i =>
   obtain ⟨hi, hn, _⟩ := topFirst_spec hf
   refine ⟨?_, fun j hj => ?_, by simp; omega⟩
   ·
    rw [List.nodup_append]
    exact ⟨h1, List.nodup_cons.2 ⟨by simp, List.nodup_nil⟩, fun a ha b hb => by rw [List.mem_singleton.1 hb]; exact fun e => hn (e ▸ ha)⟩
   ·
    rcases List.mem_append.1 hj with hj | hj
    ·
     exact h2 j hj
    ·
     rw [List.mem_singleton.1 hj]; exact hi
def lenOf : Value → Nat
 | .slice _ n _ => n
 | _ => 0
theorem nodup_below : ∀ {n : Nat} {l : List Nat}, l.Nodup → (∀ i ∈ l, i < n) → l.length ≤ n
 | 0, l, _, hb => by
  cases l with
  | nil => exact Nat.le_refl _
  | cons x r => exact absurd (hb x (List.mem_cons_self ..)) (Nat.not_lt_zero _)
 | n + 1, l, h, hb => by
  by_cases hm : n ∈ l
  ·
   have h1 := List.length_erase_of_mem hm
   have h2 : (l.erase n).length ≤ n := nodup_below (h.erase n) fun i hi => by
    have := (h.mem_erase_iff).1 hi
    have := hb i this.2
    omega
   omega
  ·
   have : l.length ≤ n := nodup_below h fun i hi => by
    have := hb i hi
    have : i ≠ n := fun e => hm (e ▸ hi)
    omega
   omega
theorem topN_le (g : List Tk) (k : Nat) : (topN g k).length ≤ g.length := nodup_below (topN_facts g k).1 (topN_facts g k).2.1
theorem topN_stop {g : List Tk} {k : Nat} (h : topFirst g (topN g k) = none) : ∀ j, topN g (k + j) = topN g k
 | 0 => rfl
 | j + 1 => by
  show topStep g (topN g (k + j)) = _
  rw [topN_stop h j]
  unfold topStep
  rw [h]
def topL (g : List Tk) : List Nat := topN g g.length
set_option maxRecDepth 100000 in
set_option maxHeartbeats 4000000 in
theorem topOrder_calls (A : Option Addr) (c : Nat) (g : List Tk) (hlen : g.length ≤ 8) (w : World) (hr : kTk.C w A g.length g) :
  Calls Tryz.prog 62 #[.slice A g.length c] w fun e w' => ∃ v, e = .returned v ∧ Kd.R (Kd.int .i64) 3 w' w.heap.size (fun _ => True) v (ints (topL g)) ∧ Below w.heap.size w w' := by
 have HR := Lib.hid hr
 clear hr
 go_enter Tryz.func62, Tryz.ntmps62
 go_wp2
 have HB1 : Below w.heap.size w (w.alloc (.cells #[] 3)) := (Below.refl _ _).alloc (Nat.le_refl _) _
 have HO : Kd.R (Kd.int .i64) 3 (w.alloc (.cells #[] 3)) w.heap.size (fun _ => True) (.slice (some ⟨w.heap.size, 0, none⟩) 0 0) (ints []) := Kd.R_of_own (World.ownsRow_lit (base := w.heap.size) (size := 1) w #[] 0 (Nat.le_refl _) (by simp [maxLen]) rfl) (fun _ _ => trivial)
 go_loopw [3] (fun out wr => ∃ (l : List Nat), Hid (topN g l.length = l) ∧ Kd.R (Kd.int .i64) 3 wr w.heap.size (fun _ => True) out (ints l) ∧ Below w.heap.size w wr) (fun out _ => g.length + 1 - lenOf out)
 case atStart => exact ⟨[], Lib.hid rfl, HO, HB1⟩
 case round =>
  clear HO HB1
  obtain ⟨l, HS, HO, HB⟩ := hrel
  have hll : l.length ≤ g.length := by have := topN_le g l.length; rw [HS.out] at this; exact this
  obtain ⟨Al, cl, rfl, hcl, hCl⟩ := Kd.R_reads HO
  have HC := Lib.hid hCl
  clear hCl
  go_wp2
  obtain ⟨wo, rfl⟩ : ∃ wo : World, wo = wr := ⟨_, rfl⟩
  go_loopw [4, 5] (fun nx i wi => ∃ (j : Nat), j ≤ g.length ∧ i = .int .i64 j ∧ ((nx = .int .i64 (-1) ∧ Hid (∀ q, q < j → specReady g l q = false)) ∨ ∃ q : Nat, q < j ∧ nx = .int .i64 q ∧ Hid (topFirst g l = some q)) ∧ wi = wo) (fun nx i _ => g.length - (intOf i).toNat)
  case atStart => exact ⟨0, Nat.zero_le _, rfl, .inl ⟨rfl, Lib.hid fun q h => absurd h (Nat.not_lt_zero _)⟩, rfl⟩
  case round =>
   obtain ⟨j, hj, rfl, hnx, rfl⟩ := hrel
   rcases hnx with ⟨rfl, HL⟩ | ⟨q, hq, rfl, HF⟩
   ·
    by_cases hjl : j < g.length
    ·
     obtain ⟨ad, A1, c1, rfl, hc0, hc1, hc2, hc3, hl1, hC1⟩ := at_Tk (Kd.C_below HR.out HB) j hjl
     have hjj : decide ((j : Int) < (g.length : Int)) = true := decide_eq_true (by omega)
     cases hm : decide ((j : Int) ∈ ints l)
     ·
      have HM := Lib.hid hm
      cases hd : allDoneB (rdTk g j).f1 (ints l)
      ·
       have HD := Lib.hid hd
       have HN := step_lt HL (show specReady g l j = false by unfold specReady; rw [hm, hd]; rfl)
       clear hm hd
       generalize rdTk g j = t at *
       go_wp2_with (first | (go_at_call 66; with_reducible refine (isIn_is _ _ _ _ _ HM _ HC.out).mono ?_; rintro e w' ⟨rfl, rfl⟩) | (go_at_call 67; refine (allDone_is _ _ _ _ _ _ _ HD _ hC1 HC.out).mono ?_; rintro e w' ⟨rfl, rfl⟩))
       go_roundw
       case rel => exact ⟨j + 1, by omega, by go_num, .inl ⟨rfl, HN⟩, trivial⟩
       case measure => simp [intOf]; omega
      ·
       have HD := Lib.hid hd
       have HF := Lib.hid (topFirst_some hjl (show specReady g l j = true by unfold specReady; rw [hm, hd]; rfl) HL.out)
       clear hm hd
       generalize rdTk g j = t at *
       go_wp2_with (first | (go_at_call 66; with_reducible refine (isIn_is _ _ _ _ _ HM _ HC.out).mono ?_; rintro e w' ⟨rfl, rfl⟩) | (go_at_call 67; refine (allDone_is _ _ _ _ _ _ _ HD _ hC1 HC.out).mono ?_; rintro e w' ⟨rfl, rfl⟩))
       go_roundw
       case rel => exact ⟨j + 1, by omega, by go_num, .inr ⟨j, by omega, rfl, HF⟩, trivial⟩
       case measure => simp [intOf]; omega
     ·
      have HM := Lib.hid hm
      have HN := step_lt HL (show specReady g l j = false by unfold specReady; rw [hm]; rfl)
      clear hm
      generalize rdTk g j = t at *
      go_wp2_with (go_at_call 66; with_reducible refine (isIn_is _ _ _ _ _ HM _ HC.out).mono ?_; rintro e w' ⟨rfl, rfl⟩)
      go_roundw
      case rel => exact ⟨j + 1, by omega, by go_num, .inl ⟨rfl, HN⟩, trivial⟩
      case measure => simp [intOf]; omega
    ·
     have hjj : decide ((j : Int) < (g.length : Int)) = false := decide_eq_false (by omega)
     have hn : topFirst g l = none := topFirst_none fun q hq => HL.out q (by omega)
     have HT : Hid (topL g = l) := Lib.hid (by
      have h1 : topFirst g (topN g l.length) = none := by rw [HS.out]; exact hn
      have h2 := topN_stop h1 (g.length - l.length)
      rw [show l.length + (g.length - l.length) = g.length from by omega, HS.out] at h2
      exact h2)
     clear hn
     go_wp2
     go_ret
     exact ⟨_, rfl, by rw [HT.out]; exact HO, HB⟩
   ·
    have hqg : q < g.length := by omega
    have hgt : decide ((q : Int) < 0) = false := decide_eq_false (by omega)
    have HS2 : Hid (topN g (l ++ [q]).length = l ++ [q]) := Lib.hid (by
     rw [List.length_append]
     show topStep g (topN g l.length) = _
     rw [HS.out]
     unfold topStep
     rw [HF.out])
    have hl2 : (l ++ [q]).length ≤ g.length := by have := topN_le g (l ++ [q]).length; rw [HS2.out] at this; exact this
    simp at hl2
    by_cases hjl : j < g.length
    ·
     have hjj : decide ((j : Int) < (g.length : Int)) = true := decide_eq_true (by omega)
     go_wp2_with (at_builtin; refine ap_int (w0 := w) w.heap.size rfl _ _ rfl (.slice Al (ints l).length cl) (ints l) (q : Int) rfl rfl rfl HO HB HB.size (by rw [ints_length]; omega) ?_; intro v1 w2 hO2 hB2 _ _)
     obtain ⟨A', c', rfl, _, _⟩ := Kd.R_reads hO2
     refine ⟨⟨l ++ [q], HS2, by simpa [ints] using hO2, hB2⟩, ?_⟩
     simp only [lenOf, List.length_append, ints_length, List.length_singleton]
     omega
    ·
     have hjj : decide ((j : Int) < (g.length : Int)) = false := decide_eq_false (by omega)
     go_wp2_with (at_builtin; refine ap_int (w0 := w) w.heap.size rfl _ _ rfl (.slice Al (ints l).length cl) (ints l) (q : Int) rfl rfl rfl HO HB HB.size (by rw [ints_length]; omega) ?_; intro v1 w2 hO2 hB2 _ _)
     obtain ⟨A', c', rfl, _, _⟩ := Kd.R_reads hO2
     refine ⟨⟨l ++ [q], HS2, by simpa [ints] using hO2, hB2⟩, ?_⟩
     simp only [lenOf, List.length_append, ints_length, List.length_singleton]
     omega
def specValid (g : List Tk) : Bool := tasksFineB g && decide ((topL g).length = g.length)
set_option maxHeartbeats 2000000 in
theorem validGraph_calls (A : Option Addr) (c : Nat) (g : List Tk) (w : World) (hr : kTk.C w A g.length g) :
  Calls Tryz.prog 33 #[.slice A g.length c] w fun e w' => e = .returned (.bool (specValid g)) ∧ Below w.heap.size w w' := by
 have hl := (C_len hr).2
 have HR := Lib.hid hr
 clear hr
 cases hf : tasksFineB g
 ·
  have HF := Lib.hid hf
  clear hf
  go_enter Tryz.func33, Tryz.ntmps33
  go_wp2_with (go_at_call 61; refine (tasksFine_is _ _ _ _ HF _ HR.out).mono ?_; rintro e w1 ⟨rfl, hB1⟩)
  go_ret
  exact ⟨ret_bool (by rw [specValid, HF.out]; rfl), hB1⟩
 ·
  have HF := Lib.hid hf
  have hlen : g.length ≤ 8 := by
   unfold tasksFineB at hf
   simp at hf
   exact hf.2
  clear hf
  go_enter Tryz.func33, Tryz.ntmps33
  go_wp2_with (first | (go_at_call 61; refine (tasksFine_is _ _ _ _ HF _ HR.out).mono ?_; rintro e w1 ⟨rfl, hB1⟩) | (go_at_call 62; refine (topOrder_calls _ _ _ hlen _ (Kd.C_below HR.out hB1)).mono ?_; rintro e w2 ⟨v2, rfl, hR2, hB2⟩; obtain ⟨A2, c2, rfl, hl2, hC2⟩ := Kd.R_reads hR2; rw [ints_length]))
  go_ret
  refine ⟨ret_bool ?_, below_step hB1 hB2⟩
  rw [specValid, HF.out, Bool.true_and]
  rw [Bool.eq_iff_iff, beq_iff_eq, decide_eq_true_iff]
  omega
theorem validGraph_is (b : Bool) (A : Option Addr) (c : Nat) (g : List Tk) (h : Hid (specValid g = b)) (w : World) (hr : kTk.C w A g.length g) :
  Calls Tryz.prog 33 #[.slice A g.length c] w fun e w' => e = .returned (.bool b) ∧ Below w.heap.size w w' :=
 (validGraph_calls A c g w hr).mono fun e w' ⟨he, hw⟩ => ⟨by rw [he, h.out], hw⟩
end Go.Proofs.YtkljcdghbefceaaGreatDoor

namespace Go.Proofs.YtkljcdghbefceaaGreatDoor
set_option linter.unusedVariables false
set_option linter.unusedSimpArgs false
open Go.RowKit Go.Shelf Bits
open Go.Proofs.YtkljcdghbefceaaGreatDoorW.PrintWords Go.Proofs.YtkljcdghbefceaaGreatDoorW.PrintLast Go.Proofs.YtkljcdghbefceaaGreatDoorW.PrintMore
attribute [local go_sem] Oper.semAt_some
def KeepB (Bs : Nat) (A : Option Addr) (w w' : World) : Prop := w.heap.size ≤ w'.heap.size ∧ (Bs < w.heap.size → w'.heap[Bs]? = w.heap[Bs]?) ∧ ∀ ad, A = some ad → ad.block < w.heap.size → w'.heap[ad.block]? = w.heap[ad.block]?
theorem KeepB.refl (Bs : Nat) (A : Option Addr) (w : World) : KeepB Bs A w w := ⟨Nat.le_refl _, fun _ => rfl, fun _ _ _ => rfl⟩
theorem KeepB.trans {Bs : Nat} {A : Option Addr} {a b c : World} (h : KeepB Bs A a b) (k : KeepB Bs A b c) : KeepB Bs A a c :=
 ⟨Nat.le_trans h.1 k.1, fun hl => (k.2.1 (Nat.lt_of_lt_of_le hl h.1)).trans (h.2.1 hl), fun ad e hl => (k.2.2 ad e (Nat.lt_of_lt_of_le hl h.1)).trans (h.2.2 ad e hl)⟩
def backL (n m : Nat) : List Nat := (List.range m).map fun q => n - 1 - q
theorem backL_succ (n m : Nat) : backL n (m + 1) = backL n m ++ [n - 1 - m] := by simp [backL, List.range_succ]
theorem backL_length (n m : Nat) : (backL n m).length = m := by simp [backL]
set_option maxRecDepth 100000 in
set_option maxHeartbeats 2000000 in
theorem back1_in (l Bs n : Nat) (hn : 1 ≤ n) (A A' : Option Addr) (cap : Nat) (xs : List Int) (hA' : ∀ ad, A = some ad → 0 < xs.length → A' = some ad) (hlen : xs.length ≤ 1000000) (J Jx : List (Fin xs.length) → World → Prop)
  (hY : ∀ (pre : List (Fin xs.length)) (i : Fin xs.length) W, J pre W → pre.length < xs.length → YieldAt Fence.wide (n - 1) Tryz.prog l #[.int .i64 (i.1 : Nat), .int .i64 (xs.getD i.1 0)] W fun e W' =>
   (e = .returned (.bool true) ∧ J (pre ++ [i]) W' ∧ KeepB Bs A' W W') ∨ (e = .returned (.bool false) ∧ Jx (pre ++ [i]) W'))
  (W : World) (hBs : W.cell? ⟨Bs, 0, none⟩ = some (.slice A xs.length cap)) (hC : (Kd.int .i64).C W A xs.length xs) (h0 : J [] W) :
  CallsIn Fence.wide n Tryz.prog 80 #[.func (.yield l) #[] #[], .pointer (some ⟨Bs, 0, none⟩)] W fun e W' => (∃ v, e = .returned v) ∧
   ((∃ ys : List (Fin xs.length), ys.map (·.1) = backL xs.length xs.length ∧ J ys W') ∨ (∃ pre : List (Fin xs.length), True ∧ Jx pre W')) := by
 refine callsIn_of_wp Tryz.func80 rfl trivial ?_ rfl
 simp only [Tryz.ntmps80, List.size_toArray, List.length_cons, List.length_nil, Nat.reduceAdd, Nat.reduceSub, Array.replicate_succ, Array.replicate_zero, List.push_toArray, List.append_toArray, List.nil_append, List.cons_append]
 have HC := Lib.hid hC
 have HBS := Lib.hid hBs
 have HL := Lib.hid hlen
 clear hC
 gi_wp2
 gi_loopw [3] (fun p wr => ∃ (m : Nat) (pre : List (Fin xs.length)), m ≤ xs.length ∧ p = .int .i64 ((xs.length : Int) - 1 - m) ∧ pre.map (·.1) = backL xs.length m ∧ J pre wr ∧ KeepB Bs A' W wr) (fun p _ => (intOf p + 1).toNat)
 case atStart => exact ⟨0, [], Nat.zero_le _, by simp, rfl, h0, KeepB.refl _ _ _⟩
 case round =>
  clear hBs
  obtain ⟨m, pre, hm, rfl, hpre, hJs, hK⟩ := hrel
  have HPRE := Lib.hid hpre
  have hpl : pre.length = m := by
   have := congrArg List.length hpre
   rwa [List.length_map, backL_length] at this
  clear hpre
  have hBlt : Bs < W.heap.size := World.block_lt_of_cell? W ⟨Bs, 0, none⟩ HBS.out
  have hcb : ∀ wr' : World, KeepB Bs A' W wr' → wr'.cell? ⟨Bs, 0, none⟩ = some (.slice A xs.length cap) := fun wr' hk => by
   have := HBS.out
   simp only [World.cell?, hk.2.1 hBlt] at this ⊢
   exact this
  have hcx := hcb wr hK
  by_cases hlt : m < xs.length
  ·
   obtain ⟨i, hi⟩ : ∃ i : Nat, i = xs.length - 1 - m := ⟨_, rfl⟩
   have ei : (xs.length : Int) - 1 - m = (i : Int) := by omega
   have hil : i < xs.length := by omega
   have hCr : (Kd.int .i64).C wr A xs.length xs := C_block HC.out fun ad e hn => hK.2.2 ad (hA' ad e hn) (by
    obtain ⟨ad', e', hc⟩ := at_num HC.out i hil
    have := World.block_lt_of_cell? W _ hc
    rw [e] at e'
    cases e'
    have e2 : (ad.add i).block = ad.block := by unfold Addr.add; split <;> rfl
    rwa [e2] at this)
   obtain ⟨ad, rfl, hci⟩ := at_num hCr i hil
   have hY2 := hY pre ⟨i, hil⟩ wr hJs (by rw [hpl]; exact hlt)
   dsimp only at hY2
   generalize xs.getD i 0 = z at hci hY2
   obtain ⟨fn, tmps, assign, body, hy, hR⟩ := hY2
   rw [ei]
   have hil' : (i : Int) < (xs.length : Int) := by omega
   have HI := Lib.hid hi
   clear hi ei hCr
   gi_wp2
   refine hR.mono ?_
   rintro e W3 (⟨rfl, hJ3, hk3⟩ | ⟨rfl, hJx3⟩)
   ·
    gi_wp2
    go_roundw
    case rel => exact ⟨m + 1, pre ++ [⟨i, hil⟩], by omega, by have := HI.out; exact congrArg _ (by omega), by rw [List.map_append, HPRE.out, backL_succ, ← HI.out]; rfl, hJ3, hK.trans hk3⟩
    case measure => first | (simp [intOf]; done) | (simp [intOf]; omega)
   ·
    gi_wp2
    refine bodyPost_ret (results_none rfl _ _ _) rfl ?_
    exact ⟨⟨_, rfl⟩, .inr ⟨_, trivial, hJx3⟩⟩
  ·
   obtain rfl : m = xs.length := by omega
   have e : (xs.length : Int) - 1 - (xs.length : Nat) = -1 := by omega
   rw [e]
   gi_wp2
   go_end0
   exact ⟨⟨_, rfl⟩, .inl ⟨_, HPRE.out, hJs⟩⟩
set_option maxHeartbeats 1000000 in
theorem backward_calls (A : Option Addr) (n c : Nat) (w : World) :
  Calls Tryz.prog 52 #[.slice A n c] w fun e w' => e = .returned (.func (.func 80) #[] #[.pointer (some ⟨w.heap.size, 0, none⟩)]) ∧ w' = w.alloc (.cells #[.slice A n c] 24) := by
 go_enter Tryz.func52, Tryz.ntmps52
 go_wp2
 go_ret
 exact ⟨rfl, rfl⟩
theorem back_stops (n : Nat) (hn : 1 ≤ n) (Bs : Nat) (A A' : Option Addr) (cap : Nat) (xs : List Int) (hA' : ∀ ad, A = some ad → 0 < xs.length → A' = some ad) (hlen : xs.length ≤ 1000000) (w : World) (hB : Bs < w.heap.size) (hc : w.cell? ⟨Bs, 0, none⟩ = some (.slice A xs.length cap)) (hC : (Kd.int .i64).C w A xs.length xs) :
  SeqStopsK Fence.wide n Tryz.prog 80 #[.pointer (some ⟨Bs, 0, none⟩)] (fun i : Fin xs.length => #[Value.int .i64 (i.1 : Nat), .int .i64 (xs.getD i.1 0)]) (KeepB Bs A')
   (fun ys => ys.map (·.1) = backL xs.length xs.length) (fun _ => True) xs.length w := fun l J Jx W hW _ _ hY h0 =>
 back1_in l Bs n hn A A' cap xs hA' hlen J Jx hY W ((hW.cell (p := ⟨Bs, 0, none⟩) hB).trans hc) (Kd.C_below hC hW) h0
theorem wp_rangeBack {g : Operand} {p1 p2 : Tmp} {assign body : Code} {Q : Exit → Act → World → Prop} {a : Act} {w : World} (Bs : Nat) (A A' : Option Addr) (cap : Nat) (xs : List Int) (hA' : ∀ ad, A = some ad → 0 < xs.length → A' = some ad) (hlen : xs.length ≤ 1000000)
  (hg : a.eval g = .func (.func 80) #[] #[.pointer (some ⟨Bs, 0, none⟩)]) (hB : Bs < w.heap.size)
  (hc : w.cell? ⟨Bs, 0, none⟩ = some (.slice A xs.length cap)) (hC : (Kd.int .i64).C w A xs.length xs) (hA : ∀ ad, A' = some ad → ad.block < w.heap.size)
  (I : List (Fin xs.length) → World → Prop) (Ix : Code → List (Fin xs.length) → World → Prop) (hI : OwnFrom w.heap.size I) (hIx : ∀ c, OwnFrom w.heap.size (Ix c)) (h0 : I [] w)
  (Ax : Fin xs.length → Act → World → Prop) (hAx : ∀ x a', OwnFrom w.heap.size (fun (_ : Unit) W => Ax x a' W))
  (hassign : ∀ (l : Nat) (pre : List (Fin xs.length)) (x : Fin xs.length) (W : World) (K : Act → World → Prop), I pre W → (∀ a' W', KeepsFrom w.heap.size W W' → KeepB Bs A' W W' → I pre W' → Ax x a' W' → K a' W') →
   assign.wpIn (Fence.wide.inRound l) 7 Tryz.prog (Exit.then K (fun _ _ _ => False)) { tmps := (a.tmps.setIfInBounds p1 (.int .i64 (x.1 : Nat))).setIfInBounds p2 (.int .i64 (xs.getD x.1 0)), defers := [] } W)
  (hbody : ∀ (l : Nat) (pre : List (Fin xs.length)) (x : Fin xs.length) (a' : Act) (W : World), w.heap.size ≤ l → (∃ r, W.heap[l]? = some (.loop r)) → I pre W → Ax x a' W → pre.length < xs.length → body.wpIn (Fence.wide.inRound l) 7 Tryz.prog (ownPostG w.heap.size (KeepB Bs A') I Ix (pre ++ [x]) W) a' W)
  (hdone : ∀ (D : Nat) (ys : List (Fin xs.length)) (W : World), w.heap.size ≤ D → ys.map (·.1) = backL xs.length xs.length → I ys W → W.heap[D]? = some (.deferred (some [])) → Q .normal { a with defers := { target := .collected D, args := #[] } :: a.defers } W)
  (hstop : ∀ (D : Nat) (c : Code) (pre : List (Fin xs.length)) (W : World), w.heap.size ≤ D → Ix c pre W → W.heap[D]? = some (.deferred (some [])) → c.wp Tryz.prog Q { a with defers := { target := .collected D, args := #[] } :: a.defers } W) :
  (Code.rangeFunc g #[p1, p2] assign body).wp Tryz.prog Q a w := by
 refine (wpIn_wide (n := 9)).1 (wpIn_rangeFunc_ownH (F := Fence.wide) rfl (by omega) hg trivial (enters_of Tryz.func80 (by kernel_rfl) rfl)
  (back_stops 8 (by omega) Bs A A' cap xs hA' hlen w hB hc hC) KeepB.trans ?hKb (Below.refl _ _) (fun _ => rfl) I Ix hI hIx h0 Ax hAx ?_ hbody ?_ ?_)
 case hKb =>
  intro W l o o' hl ho hoc _
  have hg1 := grownBy_putObj' W l o'
  exact ⟨hg1.size, fun h => hg1.block _ h (fun e => by cases e; omega), fun ad e h => hg1.block _ h (fun e2 => by
   cases e2
   have := hA ad e
   omega)⟩
 ·
  intro l pre x W K hi hK
  simpa using hassign l pre x W K hi hK
 ·
  rintro D ys W hD hy hi hd
  exact hdone D ys W hD hy hi hd
 ·
  intro D c pre W h1 _ h3 h4
  exact wpIn_wide.2 (hstop D c pre W h1 h3 h4)
end Go.Proofs.YtkljcdghbefceaaGreatDoor

namespace Go.Proofs.YtkljcdghbefceaaGreatDoor
set_option linter.unusedVariables false
set_option linter.unusedSimpArgs false
open Go.RowKit Go.Shelf Bits
open Go.Proofs.YtkljcdghbefceaaGreatDoorW.PrintWords Go.Proofs.YtkljcdghbefceaaGreatDoorW.PrintLast Go.Proofs.YtkljcdghbefceaaGreatDoorW.PrintMore
structure Mach where
 b : Nat
 o : Nat
 bg : Nat → Int
 cl : Nat → Int
def Mach.zero : Mach := ⟨0, 0, fun _ => 0, fun _ => 0⟩
def Ev.i (e : Ev) : Nat := e.f1.toNat
def evIn (g : List Tk) (e : Ev) : Bool := inB e.f0 0 200 && inB e.f1 0 (g.length - 1)
def mayBegin (ns : List Nat) (M : Mach) (e : Ev) : Bool := !M.b.testBit e.i && decide (diff (ns.getD e.i 0) M.o = 0)
def mayEnd (g : List Tk) (M : Mach) (e : Ev) : Bool := M.b.testBit e.i && !M.o.testBit e.i && decide (e.f0 = M.bg e.i + (rdTk g e.i).f0)
def Mach.begin (M : Mach) (e : Ev) : Mach := { M with b := M.b ||| 2 ^ e.i, bg := fun j => if j = e.i then e.f0 else M.bg j }
def Mach.finish (M : Mach) (e : Ev) : Mach := { M with o := M.o ||| 2 ^ e.i, cl := fun j => if j = e.i then e.f0 else M.cl j }
def stepM (g : List Tk) (ns : List Nat) (M : Mach) (e : Ev) : Option Mach :=
 if evIn g e = false then none
 else if e.f2 = false then (if mayBegin ns M e then some (M.begin e) else none)
 else (if mayEnd g M e then some (M.finish e) else none)
def MAt (h C : Nat) (M : Mach) (W : World) : Prop :=
 W.cell? ⟨h, 0, none⟩ = some (.pointer (some ⟨C, 0, none⟩)) ∧ W.cell? ⟨h, 1, none⟩ = some (.int .u16 M.b) ∧ W.cell? ⟨h, 2, none⟩ = some (.int .u16 M.o) ∧
 (∀ i, i < 8 → W.cell? ⟨h, 3 + i, none⟩ = some (.int .i64 (M.bg i))) ∧ (∀ i, i < 8 → W.cell? ⟨h, 11 + i, none⟩ = some (.int .i64 (M.cl i))) ∧
 (∀ j, j < 19 → W.frozen? ⟨h, j, none⟩ = false) ∧ M.b < 65536 ∧ M.o < 65536 ∧ h < W.heap.size
section
variable {h C : Nat} {M : Mach} {W : World}
theorem oth (W : World) (h j k : Nat) (v : Value) (hne : j ≠ k) : (W.setCell ⟨h, j, none⟩ v).cell? ⟨h, k, none⟩ = W.cell? ⟨h, k, none⟩ := World.cell?_setCell_other _ _ _ _ (by simp [hne])
theorem MAt.setB (hM : MAt h C M W) (b : Nat) (hb : b < 65536) : MAt h C { M with b := b } (W.setCell ⟨h, 1, none⟩ (.int .u16 b)) := by
 obtain ⟨h0, h1, h2, h3, h4, h5, h6, h7, h8⟩ := hM
 exact ⟨by rw [oth _ _ _ _ _ (by omega)]; exact h0, World.cell?_setCell_same _ _ _ h1, by rw [oth _ _ _ _ _ (by omega)]; exact h2, fun i hi => by rw [oth _ _ _ _ _ (by omega)]; exact h3 i hi,
  fun i hi => by rw [oth _ _ _ _ _ (by omega)]; exact h4 i hi, fun j hj => by rw [World.frozen?_setCell]; exact h5 j hj, hb, h7, by simpa [World.setCell] using h8⟩
theorem MAt.setO (hM : MAt h C M W) (b : Nat) (hb : b < 65536) : MAt h C { M with o := b } (W.setCell ⟨h, 2, none⟩ (.int .u16 b)) := by
 obtain ⟨h0, h1, h2, h3, h4, h5, h6, h7, h8⟩ := hM
 exact ⟨by rw [oth _ _ _ _ _ (by omega)]; exact h0, by rw [oth _ _ _ _ _ (by omega)]; exact h1, World.cell?_setCell_same _ _ _ h2, fun i hi => by rw [oth _ _ _ _ _ (by omega)]; exact h3 i hi,
  fun i hi => by rw [oth _ _ _ _ _ (by omega)]; exact h4 i hi, fun j hj => by rw [World.frozen?_setCell]; exact h5 j hj, h6, hb, by simpa [World.setCell] using h8⟩
theorem MAt.setBg (hM : MAt h C M W) (i : Nat) (hi : i < 8) (v : Int) : MAt h C { M with bg := fun j => if j = i then v else M.bg j } (W.setCell ⟨h, 3 + i, none⟩ (.int .i64 v)) := by
 obtain ⟨h0, h1, h2, h3, h4, h5, h6, h7, h8⟩ := hM
 refine ⟨by rw [oth _ _ _ _ _ (by omega)]; exact h0, by rw [oth _ _ _ _ _ (by omega)]; exact h1, by rw [oth _ _ _ _ _ (by omega)]; exact h2, fun j hj => ?_,
  fun j hj => by rw [oth _ _ _ _ _ (by omega)]; exact h4 j hj, fun j hj => by rw [World.frozen?_setCell]; exact h5 j hj, h6, h7, by simpa [World.setCell] using h8⟩
 by_cases hij : j = i
 ·
  subst hij
  simp only [if_pos]
  exact World.cell?_setCell_same _ _ _ (h3 j hj)
 ·
  simp only [if_neg hij]
  rw [oth _ _ _ _ _ (by omega)]
  exact h3 j hj
theorem MAt.setCl (hM : MAt h C M W) (i : Nat) (hi : i < 8) (v : Int) : MAt h C { M with cl := fun j => if j = i then v else M.cl j } (W.setCell ⟨h, 11 + i, none⟩ (.int .i64 v)) := by
 obtain ⟨h0, h1, h2, h3, h4, h5, h6, h7, h8⟩ := hM
 refine ⟨by rw [oth _ _ _ _ _ (by omega)]; exact h0, by rw [oth _ _ _ _ _ (by omega)]; exact h1, by rw [oth _ _ _ _ _ (by omega)]; exact h2, fun j hj => by rw [oth _ _ _ _ _ (by omega)]; exact h3 j hj,
  fun j hj => ?_, fun j hj => by rw [World.frozen?_setCell]; exact h5 j hj, h6, h7, by simpa [World.setCell] using h8⟩
 by_cases hij : j = i
 ·
  subst hij
  simp only [if_pos]
  exact World.cell?_setCell_same _ _ _ (h4 j hj)
 ·
  simp only [if_neg hij]
  rw [oth _ _ _ _ _ (by omega)]
  exact h4 j hj
theorem MAt.below {W' : World} (hM : MAt h C M W) (hb : Below W.heap.size W W') : MAt h C M W' := by
 obtain ⟨h0, h1, h2, h3, h4, h5, h6, h7, h8⟩ := hM
 have e : ∀ j, W'.cell? ⟨h, j, none⟩ = W.cell? ⟨h, j, none⟩ := fun j => by simp only [World.cell?, hb.block h h8]
 have f : ∀ j, W'.frozen? ⟨h, j, none⟩ = W.frozen? ⟨h, j, none⟩ := fun j => by simp only [World.frozen?, hb.block h h8]
 exact ⟨by rw [e]; exact h0, by rw [e]; exact h1, by rw [e]; exact h2, fun i hi => by rw [e]; exact h3 i hi, fun i hi => by rw [e]; exact h4 i hi, fun j hj => by rw [f]; exact h5 j hj, h6, h7, by have := hb.size; omega⟩
theorem MAt.drew (hM : MAt h C M W) : MAt h C M W.drew := hM.below ((Below.refl _ W).drew)
end
def Others (h : Nat) (w w' : World) : Prop := ∀ k, k < w.heap.size → k ≠ h → w'.heap[k]? = w.heap[k]?
theorem Others.of_below {h : Nat} {w w' : World} (hb : Below w.heap.size w w') : Others h w w' := fun k hk _ => hb.block k hk
theorem Others.setCell {h : Nat} {w w' : World} (hb : Others h w w') (j : Nat) (v : Value) : Others h w (w'.setCell ⟨h, j, none⟩ v) := fun k hk hne => by
 rw [← hb k hk hne]
 exact Below.heap_setCell _ _ _ _ hne
theorem Others.drew {h : Nat} {w w' : World} (hb : Others h w w') : Others h w w'.drew := hb
theorem Others.cell {h : Nat} {w w' : World} (hb : Others h w w') (a : Addr) (ha : a.block < w.heap.size) (hne : a.block ≠ h) : w'.cell? a = w.cell? a := by
 simp only [World.cell?, hb a.block ha hne]
theorem size_calls (W : World) (C : Nat) (g : List Tk) (ns : List Nat) (h : IsGraph W C g ns) :
  Calls Tryz.prog 25 #[.pointer (some ⟨C, 0, none⟩)] W fun e w' => e = .returned (.int .i64 g.length) ∧ w' = W := by
 obtain ⟨Ag, cg, An, cn, Ao, co, vb, va, h1, h2, h3, h4⟩ := h
 have hc0 : W.cell? ⟨C, 0, none⟩ = some (.slice Ag g.length cg) := by simp [World.cell?, h1]
 clear h1 h2 h3 h4
 go_enter Tryz.func25, Tryz.ntmps25
 go_wp2
 go_ret
 trivial
end Go.Proofs.YtkljcdghbefceaaGreatDoor

namespace Go.Proofs.YtkljcdghbefceaaGreatDoor
set_option linter.unusedVariables false
set_option linter.unusedSimpArgs false
open Go.RowKit Go.Shelf Bits
open Go.Proofs.YtkljcdghbefceaaGreatDoorW.PrintWords Go.Proofs.YtkljcdghbefceaaGreatDoorW.PrintLast Go.Proofs.YtkljcdghbefceaaGreatDoorW.PrintMore
attribute [local go_sem] Oper.semAt_some
theorem wpIn_rangeSetN {g : Operand} {p : Tmp} {assign body : Code} {Q : Exit → Act → World → Prop} {a : Act} {w : World} {l₀ : Nat} {r₀ : Loop} (s Bn n₀ : Nat) (hs : s < 65536) (hl₀ : w.heap[l₀]? = some (.loop r₀))
  (hg : a.eval g = .func (.func 74) #[] #[.pointer (some ⟨Bn, 0, none⟩)]) (hB : Bn < w.heap.size)
  (hc : w.cell? ⟨Bn, 0, none⟩ = some (.int .u16 s)) (hT : Tab w) (hn : n₀ ≤ w.heap.size) (htab : 0 < n₀)
  (I : List (El s) → World → Prop) (Ix : Code → List (El s) → World → Prop) (hI : OwnFrom w.heap.size I) (hIx : ∀ c, OwnFrom w.heap.size (Ix c)) (h0 : I [] w)
  (a₁ : El s → Act)
  (hassign : ∀ (l : Nat) (x : El s) (W : World) (K : Act → World → Prop), K (a₁ x) W →
   assign.wpIn (Fence.wide.inRound l) 5 Tryz.prog (Exit.then K (fun _ _ _ => False)) { tmps := a.tmps.setIfInBounds p (.int .i64 (x.1 : Nat)), defers := [] } W)
  (hbody : ∀ (l : Nat) (pre : List (El s)) (x : El s) (W : World), I pre W → pre.length < (elems s).length → body.wpIn (Fence.wide.inRound l) 5 Tryz.prog (ownPostG w.heap.size (Below n₀) I Ix (pre ++ [x]) W) (a₁ x) W)
  (hdone : ∀ (xs : List (El s)) (W : World), xs.map (·.1) = elems s → I xs W → Q .normal a W)
  (hstop : ∀ (c : Code) (pre : List (El s)) (W : World), Ix c pre W → c.wpIn (Fence.wide.inRound l₀) 7 Tryz.prog Q a W) :
  (Code.rangeFunc g #[p] assign body).wpIn (Fence.wide.inRound l₀) 7 Tryz.prog Q a w := by
 refine wpIn_rangeFunc_ownN (l₀ := l₀) (r₀ := r₀) rfl hl₀ (by omega) hg trivial (enters_of Tryz.func74 (by kernel_rfl) rfl)
  ((all_stops 6 (by omega) Bn n₀ s hs w hB hc hT htab).inRound l₀) belowK_t (belowK_b hn) (Below.refl _ _) (fun _ => rfl) I Ix hI hIx h0 (fun x a' _ => a' = a₁ x) (fun _ _ => ownFrom_pure _ _) ?_ ?_ hdone (fun c pre W _ h => hstop c pre W h)
 ·
  intro l pre x W K hi hK
  have := hassign l x W K (hK _ _ (KeepsFrom.refl _ _) (Below.refl _ _) hi rfl)
  rw [show (Fence.wide.inRound l₀).inRound l = Fence.wide.inRound l from rfl]
  simpa using this
 ·
  intro l pre x a' W _ _ hi ha hlt
  subst ha
  exact hbody l pre x W hi hlt
def IRow (W : World) (b : Nat) (xs : List Int) : Prop := W.heap[b]? = some (.cells (xs.map (Value.int .i64)).toArray 3 (0, 0))
theorem IRow.cell {W : World} {b : Nat} {xs : List Int} (h : IRow W b xs) (i : Nat) (hi : i < xs.length) : W.cell? ⟨b, i, none⟩ = some (.int .i64 (xs.getD i 0)) := by
 rw [blk_cell h i]
 simp [hi]
theorem IRow.frozen {W : World} {b : Nat} {xs : List Int} (h : IRow W b xs) (i : Nat) : W.frozen? ⟨b, i, none⟩ = false := blk_frozen h i
theorem IRow.set {W : World} {b : Nat} {xs : List Int} (h : IRow W b xs) (i : Nat) (x : Int) : IRow (W.setCell ⟨b, i, none⟩ (.int .i64 x)) b (xs.set i x) := by
 have := blk_set h i (.int .i64 x)
 unfold IRow
 rw [this]
 congr 2
 simp [List.map_set]
theorem IRow.far {W : World} {b : Nat} {xs : List Int} (h : IRow W b xs) {p : Addr} (hp : b ≠ p.block) (u : Value) : IRow (W.setCell p u) b xs := blk_far h hp u
theorem IRow.own {W : World} {b base : Nat} {xs : List Int} (h : IRow W b xs) (hb : base ≤ b) (hl : xs.length ≤ 1000000) : Kd.R (Kd.int .i64) 3 W base (fun _ => True) (.slice (some ⟨b, 0, none⟩) xs.length xs.length) xs :=
 Kd.R_of_own ⟨by simp [encs], .inr ⟨b, xs.length, _, rfl, hb, h, Nat.le_refl _, by simp only [maxLen]; omega, by simp, by simp [encs, List.take_of_length_le]⟩⟩ (fun _ _ => trivial)
theorem ownFrom_keepB {β : Type} {B Bs : Nat} {A : Option Addr} {W : World} (h : Bs < B) (hA : ∀ ad, A = some ad → ad.block < B) : OwnFrom B (fun (_ : β) W' => KeepB Bs A W W') :=
 fun s W1 W2 row hs hg hr => hs.trans ⟨hg.size, fun hl => hg.block _ hl (fun e => by have := (hr Bs e.symm).1; omega), fun ad e hl => hg.block _ hl (fun e2 => by have := (hr _ e2.symm).1; have := hA ad e; omega)⟩
def tailPush (i : Nat) (o : List Int) (k : Nat) : List Int := o.set k (max (o.getD k 0) (o.getD i 0))
def tailStep (g : List Tk) (ns : List Nat) (o : List Int) (i : Nat) : List Int := (elems (ns.getD i 0)).foldl (tailPush i) (o.set i (o.getD i 0 + (rdTk g i).f0))
def tailsL (g : List Tk) (ns ord : List Nat) (pre : List Nat) : List Int := pre.foldl (fun o p => tailStep g ns o (ord.getD p 0)) (List.replicate g.length 0)
def Span (o : List Int) (n : Nat) (b : Int) : Prop := o.length = n ∧ ∀ j, 0 ≤ o.getD j 0 ∧ o.getD j 0 ≤ b
theorem Span.set {o : List Int} {n : Nat} {b b' x : Int} (h : Span o n b) (hb : b ≤ b') (hx : 0 ≤ x ∧ x ≤ b') (i : Nat) : Span (o.set i x) n b' := by
 refine ⟨by rw [List.length_set]; exact h.1, fun j => ?_⟩
 have := h.2 j
 simp only [List.getD_eq_getElem?_getD, List.getElem?_set] at this ⊢
 split
 ·
  split
  ·
   exact hx
  ·
   simp; omega
 ·
  omega
theorem Span.push {o : List Int} {n : Nat} {b : Int} (h : Span o n b) (i k : Nat) : Span (tailPush i o k) n b := by
 have h1 := h.2 k
 have h2 := h.2 i
 exact h.set (Int.le_refl _) (by omega) k
theorem Span.pushes {n : Nat} {b : Int} (i : Nat) : ∀ (l : List Nat) (o : List Int), Span o n b → Span (l.foldl (tailPush i) o) n b
 | [], o, h => h
 | k :: l, o, h => Span.pushes i l _ (h.push i k)
theorem tails_span {g : List Tk} {ns ord : List Nat} (htm : ∀ i, 0 ≤ (rdTk g i).f0 ∧ (rdTk g i).f0 ≤ 20) : ∀ (pre : List Nat), Span (tailsL g ns ord pre) g.length (20 * pre.length)
 | pre => by
  have key : ∀ (pre : List Nat) (o : List Int) (b : Int), 0 ≤ b → Span o g.length b → Span (pre.foldl (fun o p => tailStep g ns o (ord.getD p 0)) o) g.length (b + 20 * pre.length) := by
   intro pre
   induction pre with
   | nil =>
    intro o b _ h
    simpa using h
   | cons p pre ih =>
    intro o b hb h
    have h1 := h.2 (ord.getD p 0)
    have h2 := htm (ord.getD p 0)
    have h3 := Span.pushes (ord.getD p 0) (elems (ns.getD (ord.getD p 0) 0)) _ (h.set (b' := b + 20) (by omega) (x := o.getD (ord.getD p 0) 0 + (rdTk g (ord.getD p 0)).f0) (by omega) (ord.getD p 0))
    have h4 := ih _ (b + 20) (by omega) h3
    rw [List.length_cons]
    have e : b + 20 + 20 * (pre.length : Int) = b + 20 * ((pre.length + 1 : Nat) : Int) := by omega
    rw [← e]
    exact h4
  have := key pre (List.replicate g.length 0) 0 (Int.le_refl _) ⟨by simp, fun j => by
   rw [List.getD_eq_getElem?_getD, List.getElem?_replicate]
   split <;> simp⟩
  simpa [tailsL] using this
theorem tailsL_snoc (g : List Tk) (ns ord pre : List Nat) (p : Nat) : tailsL g ns ord (pre ++ [p]) = tailStep g ns (tailsL g ns ord pre) (ord.getD p 0) := by
 unfold tailsL
 rw [List.foldl_append]
 rfl
structure THeap (w : World) (n0 n C X O R : Nat) (o : List Int) (W : World) : Prop where
 hX : Boxed W X 36 (.pointer (some ⟨C, 0, none⟩))
 hO : Boxed W O 24 (.slice (some ⟨R, 0, none⟩) n n)
 hR : IRow W R o
 hB : Below w.heap.size w W
 hn : n0 ≤ W.heap.size
theorem THeap.own {β : Type} {w : World} {n0 n C X O R B : Nat} (o : β → List Int) (hB : w.heap.size ≤ B) : OwnFrom B (fun s W => THeap w n0 n C X O R (o s) W) := by
 intro s W1 W2 row h hg hr
 exact ⟨(Own.from (boxed_own X 36 (fun _ : β => _)) B) s W1 W2 row h.hX hg hr, (Own.from (boxed_own O 24 (fun _ : β => _)) B) s W1 W2 row h.hO hg hr,
  ownFrom_cells B R (fun s => ((o s).map (Value.int .i64)).toArray) 3 s W1 W2 row h.hR hg hr,
  h.hB.trans ⟨hg.os, hg.tape, hg.output, hg.size, fun k hk => hg.block k (Nat.lt_of_lt_of_le hk h.hB.size) (fun e => by have := (hr k e.symm).1; omega)⟩, Nat.le_trans h.hn hg.size⟩
theorem THeap.alloc {w : World} {n0 n C X O R : Nat} {o : List Int} {W : World} (h : THeap w n0 n C X O R o W) (ob : Obj) : THeap w n0 n C X O R o (W.alloc ob) :=
 ⟨h.hX.alloc _, h.hO.alloc _, (Below.heap_alloc W ob R (blk_lt h.hR)).trans h.hR, h.hB.alloc h.hB.size _, by have := h.hn; simp; omega⟩
theorem THeap.drew {w : World} {n0 n C X O R : Nat} {o : List Int} {W : World} (h : THeap w n0 n C X O R o W) : THeap w n0 n C X O R o W.drew := ⟨h.hX, h.hO, h.hR, h.hB.drew, h.hn⟩
theorem THeap.set {w : World} {n0 n C X O R : Nat} {o : List Int} {W : World} (h : THeap w n0 n C X O R o W) (hXR : X ≠ R) (hOR : O ≠ R) (hw : w.heap.size ≤ R) (i : Nat) (x : Int) : THeap w n0 n C X O R (o.set i x) (W.setCell ⟨R, i, none⟩ (.int .i64 x)) :=
 ⟨blk_far h.hX hXR _, blk_far h.hO hOR _, h.hR.set i x, h.hB.setCell (p := ⟨R, i, none⟩) hw _, by have := h.hn; simpa [World.setCell] using this⟩
theorem heap_far (w : World) (a : Addr) (u : Value) (k : Nat) (h : k ≠ a.block) : (w.setCell a u).heap[k]? = w.heap[k]? := by
 simp only [World.setCell, Array.getElem?_modify]
 rw [if_neg (fun e => h e.symm)]
theorem KeepB.set {Bs : Nat} {A : Option Addr} (W : World) (p : Addr) (v : Value) (h1 : Bs ≠ p.block) (h2 : ∀ ad, A = some ad → ad.block ≠ p.block) : KeepB Bs A W (W.setCell p v) :=
 ⟨Nat.le_of_eq (by simp [World.setCell]), fun _ => heap_far _ _ _ _ h1, fun ad e _ => heap_far _ _ _ _ (h2 ad e)⟩
theorem KeepB.below {Bs : Nat} {A : Option Addr} {W W' : World} (h : Below W.heap.size W W') : KeepB Bs A W W' := ⟨h.size, fun hl => h.block _ hl, fun ad _ hl => h.block _ hl⟩
end Go.Proofs.YtkljcdghbefceaaGreatDoor

namespace Go.Proofs.YtkljcdghbefceaaGreatDoor
set_option linter.unusedVariables false
set_option linter.unusedSimpArgs false
open Go.RowKit Go.Shelf Bits
theorem needsL_all (n : Nat) : ∀ (l : List Tk) (ns : List Nat), needsL n l = some ns → l.length = ns.length ∧ ∀ i, i < l.length → taskOk (l.getD i zTk) = true ∧ setOfN (l.getD i zTk).f1 n = some (ns.getD i 0)
 | [], ns, h => by
  simp only [needsL, Option.some.injEq] at h
  subst h
  exact ⟨rfl, fun i hi => absurd hi (Nat.not_lt_zero _)⟩
 | t :: r, ns, h => by
  cases h1 : setOfN t.f1 n with
  | none => rw [needsL_bad (Or.inl h1)] at h; cases h
  | some s =>
   cases h2 : taskOk t with
   | false => rw [needsL_bad (Or.inr h2)] at h; cases h
   | true =>
    rw [needsL_good h1 h2] at h
    obtain ⟨ms, h3, rfl⟩ := Option.map_eq_some_iff.1 h
    obtain ⟨h4, h5⟩ := needsL_all n r ms h3
    refine ⟨by simp [h4], fun i hi => ?_⟩
    cases i with
    | zero => exact ⟨h2, h1⟩
    | succ i => exact h5 i (by simpa using hi)
theorem graphN_all {g : List Tk} {ns : List Nat} (h : graphN g = some ns) : g.length ≤ 8 ∧ ns.length = g.length ∧ ∀ i, i < g.length → taskOk (rdTk g i) = true ∧ setOfN (rdTk g i).f1 g.length = some (ns.getD i 0) := by
 obtain ⟨h1, _, h3, h4⟩ := graphN_some h
 have h5 : needsL g.length g = some ns := by
  unfold needsN at h1
  rwa [if_neg (by omega)] at h1
 exact ⟨h3, h4, (needsL_all _ _ _ h5).2⟩
theorem graphN_time {g : List Tk} {ns : List Nat} (h : graphN g = some ns) (i : Nat) : 0 ≤ (rdTk g i).f0 ∧ (rdTk g i).f0 ≤ 20 := by
 by_cases hi : i < g.length
 ·
  have h1 := ((graphN_all h).2.2 i hi).1
  unfold taskOk at h1
  simp only [Bool.and_eq_true] at h1
  have := inB_true.1 h1.1.1
  omega
 ·
  simp [rdTk, List.getD_eq_getElem?_getD, List.getElem?_eq_none (Nat.le_of_not_lt hi), zTk]
theorem graphN_need_lt {g : List Tk} {ns : List Nat} (h : graphN g = some ns) (i : Nat) : ns.getD i 0 < 2 ^ g.length := by
 by_cases hi : i < g.length
 ·
  exact setOfN_lt ((graphN_all h).2.2 i hi).2
 ·
  have := (graphN_all h).2.1
  rw [List.getD_eq_getElem?_getD, List.getElem?_eq_none (by omega)]
  exact Nat.two_pow_pos _
theorem graphN_need_u16 {g : List Tk} {ns : List Nat} (h : graphN g = some ns) (i : Nat) : ns.getD i 0 < 65536 :=
 Nat.lt_of_lt_of_le (graphN_need_lt h i) (pow_le_u16 (by have := (graphN_all h).1; omega))
end Go.Proofs.YtkljcdghbefceaaGreatDoor
