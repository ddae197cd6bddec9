/- Parts of the proof, laid as one text by a program of mine. -/
import Derived.Test.YtdjdfbfcjajlkaaDoorKcc4
import Derived.StillTailTactics
import Derived.Test.YtdjdfbfcjajlkaaDoorKcc3
import Derived.Deep.QuietTactic
import Derived.BigQuiet
namespace Go.Proofs.YtdjdfbfcjajlkaaDoor
set_option linter.unusedVariables false
set_option linter.unusedSimpArgs false
open Go.RowKit Go.Shelf Bits
open Go.Proofs.YtdjdfbfcjajlkaaDoorW.PrintWords Go.Proofs.YtdjdfbfcjajlkaaDoorW.PrintLast Go.Proofs.YtdjdfbfcjajlkaaDoorW.PrintMore
theorem allIn_is (b : Bool) (A : Option Addr) (c : Nat) (l : List Int) (lo hi : Int) (h : Hid (allInB l lo hi = b)) (w : World) (hr : (Kd.int .i64).C w A l.length l) :
  Calls Tryd.prog 82 #[.slice A l.length c, .int .i64 lo, .int .i64 hi] w fun e w' => e = .returned (.bool b) ∧ w' = w :=
 (allIn_calls A c l lo hi w hr).mono fun e w' ⟨he, hw⟩ => ⟨by rw [he, h.out], hw⟩
theorem ascends_is (b : Bool) (A : Option Addr) (c : Nat) (l : List Int) (h : Hid (ascB l = b)) (w : World) (hr : (Kd.int .i64).C w A l.length l) :
  Calls Tryd.prog 123 #[.slice A l.length c] w fun e w' => e = .returned (.bool b) ∧ Below w.heap.size w w' :=
 (ascends_calls A c l w hr).mono fun e w' ⟨he, hw⟩ => ⟨by rw [he, h.out], hw⟩
def taskFineB (n : Int) (t : Tk) : Bool := inB t.f0 1 20 && inB t.f2 0 2 && inB t.f3 1 4 && allInB t.f1 0 (n - 1) && ascB t.f1
def tkVal (t : Tk) (v : Value) : Value := .agg #[.int .i64 t.f0, v, .int .i64 t.f2, .int .i64 t.f3]
set_option maxRecDepth 100000 in
set_option maxHeartbeats 2000000 in
theorem validTask_calls (t : Tk) (A : Option Addr) (c : Nat) (n : Int) (hn0 : 0 ≤ n) (hn : n ≤ 9223372036854775807) (w : World) (hC : (Kd.int .i64).C w A t.f1.length t.f1) :
  Calls Tryd.prog 109 #[.agg #[.int .i64 t.f0, .slice A t.f1.length c, .int .i64 t.f2, .int .i64 t.f3], .int .i64 n] w fun e w' => e = .returned (.bool (taskFineB n t)) ∧ Below w.heap.size w w' := by
 cases b0 : inB t.f0 1 20
 ·
  have H0 := Lib.hid b0
  clear b0
  go_enter Tryd.func109, Tryd.ntmps109
  go_wp2_with (first | (go_at_call 50; with_reducible refine (inRange_is _ _ _ _ H0 _).mono ?_; rintro e w' ⟨rfl, rfl⟩))
  go_ret
  exact ⟨ret_bool (by simp only [taskFineB, H0.out]; rfl), below_alloc (Below.refl _ _) _⟩
 ·
  have H0 := Lib.hid b0
  clear b0
  cases b1 : inB t.f2 0 2
  ·
   have H1 := Lib.hid b1
   clear b1
   go_enter Tryd.func109, Tryd.ntmps109
   go_wp2_with (first | (go_at_call 50; with_reducible refine (inRange_is _ _ _ _ H0 _).mono ?_; rintro e w' ⟨rfl, rfl⟩) | (go_at_call 50; with_reducible refine (inRange_is _ _ _ _ H1 _).mono ?_; rintro e w' ⟨rfl, rfl⟩))
   go_ret
   exact ⟨ret_bool (by simp only [taskFineB, H0.out, H1.out]; rfl), below_alloc (Below.refl _ _) _⟩
  ·
   have H1 := Lib.hid b1
   clear b1
   cases b2 : inB t.f3 1 4
   ·
    have H2 := Lib.hid b2
    clear b2
    go_enter Tryd.func109, Tryd.ntmps109
    go_wp2_with (first | (go_at_call 50; with_reducible refine (inRange_is _ _ _ _ H0 _).mono ?_; rintro e w' ⟨rfl, rfl⟩) | (go_at_call 50; with_reducible refine (inRange_is _ _ _ _ H1 _).mono ?_; rintro e w' ⟨rfl, rfl⟩) | (go_at_call 50; with_reducible refine (inRange_is _ _ _ _ H2 _).mono ?_; rintro e w' ⟨rfl, rfl⟩))
    go_ret
    exact ⟨ret_bool (by simp only [taskFineB, H0.out, H1.out, H2.out]; rfl), below_alloc (Below.refl _ _) _⟩
   ·
    have H2 := Lib.hid b2
    clear b2
    cases b3 : allInB t.f1 0 (n - 1)
    ·
     have H3 := Lib.hid b3
     clear b3
     go_enter Tryd.func109, Tryd.ntmps109
     go_wp2_with (first | (go_at_call 50; with_reducible refine (inRange_is _ _ _ _ H0 _).mono ?_; rintro e w' ⟨rfl, rfl⟩) | (go_at_call 50; with_reducible refine (inRange_is _ _ _ _ H1 _).mono ?_; rintro e w' ⟨rfl, rfl⟩) | (go_at_call 50; with_reducible refine (inRange_is _ _ _ _ H2 _).mono ?_; rintro e w' ⟨rfl, rfl⟩) | (go_at_call 82; refine (allIn_is _ _ _ _ _ _ H3 _ (Kd.C_below hC (below_alloc (Below.refl _ _) _))).mono ?_; rintro e w' ⟨rfl, rfl⟩))
     go_ret
     exact ⟨ret_bool (by simp only [taskFineB, H0.out, H1.out, H2.out, H3.out]; rfl), below_alloc (Below.refl _ _) _⟩
    ·
     have H3 := Lib.hid b3
     clear b3
     cases b4 : ascB t.f1
     ·
      have H4 := Lib.hid b4
      clear b4
      go_enter Tryd.func109, Tryd.ntmps109
      go_wp2_with (first | (go_at_call 50; with_reducible refine (inRange_is _ _ _ _ H0 _).mono ?_; rintro e w' ⟨rfl, rfl⟩) | (go_at_call 50; with_reducible refine (inRange_is _ _ _ _ H1 _).mono ?_; rintro e w' ⟨rfl, rfl⟩) | (go_at_call 50; with_reducible refine (inRange_is _ _ _ _ H2 _).mono ?_; rintro e w' ⟨rfl, rfl⟩) | (go_at_call 82; refine (allIn_is _ _ _ _ _ _ H3 _ (Kd.C_below hC (below_alloc (Below.refl _ _) _))).mono ?_; rintro e w' ⟨rfl, rfl⟩) | (go_at_call 123; refine (ascends_is _ _ _ _ H4 _ (Kd.C_below hC (below_alloc (Below.refl _ _) _))).mono ?_; rintro e w1 ⟨rfl, hB1⟩))
      go_ret
      exact ⟨ret_bool (by simp only [taskFineB, H0.out, H1.out, H2.out, H3.out, H4.out]; rfl), below_step (below_alloc (Below.refl _ _) _) hB1⟩
     ·
      have H4 := Lib.hid b4
      clear b4
      go_enter Tryd.func109, Tryd.ntmps109
      go_wp2_with (first | (go_at_call 50; with_reducible refine (inRange_is _ _ _ _ H0 _).mono ?_; rintro e w' ⟨rfl, rfl⟩) | (go_at_call 50; with_reducible refine (inRange_is _ _ _ _ H1 _).mono ?_; rintro e w' ⟨rfl, rfl⟩) | (go_at_call 50; with_reducible refine (inRange_is _ _ _ _ H2 _).mono ?_; rintro e w' ⟨rfl, rfl⟩) | (go_at_call 82; refine (allIn_is _ _ _ _ _ _ H3 _ (Kd.C_below hC (below_alloc (Below.refl _ _) _))).mono ?_; rintro e w' ⟨rfl, rfl⟩) | (go_at_call 123; refine (ascends_is _ _ _ _ H4 _ (Kd.C_below hC (below_alloc (Below.refl _ _) _))).mono ?_; rintro e w1 ⟨rfl, hB1⟩))
      go_ret
      exact ⟨ret_bool (by simp only [taskFineB, H0.out, H1.out, H2.out, H3.out, H4.out]; rfl), below_step (below_alloc (Below.refl _ _) _) hB1⟩
theorem validTask_is (b : Bool) (t : Tk) (A : Option Addr) (c : Nat) (n : Int) (h : Hid (taskFineB n t = b)) (hn0 : 0 ≤ n) (hn : n ≤ 9223372036854775807) (w : World) (hC : (Kd.int .i64).C w A t.f1.length t.f1) :
  Calls Tryd.prog 109 #[.agg #[.int .i64 t.f0, .slice A t.f1.length c, .int .i64 t.f2, .int .i64 t.f3], .int .i64 n] w fun e w' => e = .returned (.bool b) ∧ Below w.heap.size w w' :=
 (validTask_calls t A c n hn0 hn w hC).mono fun e w' ⟨he, hw⟩ => ⟨by rw [he, h.out], hw⟩
def tasksFineB (g : List Tk) : Bool := g.all (taskFineB g.length) && decide (g.length ≤ 8)
set_option maxRecDepth 100000 in
set_option maxHeartbeats 2000000 in
theorem tasksFine_calls (A : Option Addr) (c : Nat) (g : List Tk) (w : World) (hr : kTk.C w A g.length g) :
  Calls Tryd.prog 80 #[.slice A g.length c] w fun e w' => e = .returned (.bool (tasksFineB g)) ∧ Below w.heap.size w w' := by
 have hl := (C_len hr).2
 have HR := Lib.hid hr
 clear hr
 go_enter Tryd.func80, Tryd.ntmps80
 go_wp2
 go_loopw [3] (fun i wr => ∃ (k : Nat), k ≤ g.length ∧ i = .int .i64 k ∧ Hid (∀ j, j < k → taskFineB g.length (g.getD j zTk) = true) ∧ Below w.heap.size w wr) (fun i _ => g.length - (intOf i).toNat)
 case atStart => exact ⟨0, Nat.zero_le _, rfl, Lib.hid fun j h => absurd h (Nat.not_lt_zero _), Below.refl _ _⟩
 case round =>
  obtain ⟨k, hk, rfl, HS, HB⟩ := hrel
  by_cases hlt : k < g.length
  ·
   obtain ⟨ad, A1, c1, rfl, hc0, hc1, hc2, hc3, hl1, hC1⟩ := at_Tk (Kd.C_below HR.out HB) k hlt
   cases hb : taskFineB g.length (rdTk g k)
   ·
    have HX := Lib.hid hb
    have HF : Hid (tasksFineB g = false) := Lib.hid (by unfold tasksFineB; rw [all_not (p := taskFineB g.length) zTk hlt hb]; rfl)
    clear hb
    generalize rdTk g k = t at *
    go_wp2_with (go_at_call 109; refine (validTask_is _ t _ _ _ HX (by omega) (by omega) _ hC1).mono ?_; rintro e w1 ⟨rfl, hB1⟩)
    go_ret
    exact ⟨ret_bool HF.out.symm, below_step HB hB1⟩
   ·
    have HX := Lib.hid hb
    have HN := step_lt HS hb
    clear hb
    generalize rdTk g k = t at *
    go_wp2_with (go_at_call 109; refine (validTask_is _ t _ _ _ HX (by omega) (by omega) _ hC1).mono ?_; rintro e w1 ⟨rfl, hB1⟩)
    go_roundw
    case rel => exact ⟨k + 1, by omega, by go_num, HN, below_step HB hB1⟩
    case measure => simp [intOf]; omega
  ·
   have HF : Hid (tasksFineB g = decide (g.length ≤ 8)) := Lib.hid (by unfold tasksFineB; rw [all_take (p := taskFineB g.length) (l := g) zTk fun j hj => HS.out j (by omega)]; rfl)
   go_wp2
   go_ret
   exact ⟨ret_bool (by rw [HF.out, decide_eq_decide]; omega), HB⟩
theorem tasksFine_is (b : Bool) (A : Option Addr) (c : Nat) (g : List Tk) (h : Hid (tasksFineB g = b)) (w : World) (hr : kTk.C w A g.length g) :
  Calls Tryd.prog 80 #[.slice A g.length c] w fun e w' => e = .returned (.bool b) ∧ Below w.heap.size w w' :=
 (tasksFine_calls A c g w hr).mono fun e w' ⟨he, hw⟩ => ⟨by rw [he, h.out], hw⟩
end Go.Proofs.YtdjdfbfcjajlkaaDoor

namespace Go.Proofs.YtdjdfbfcjajlkaaDoor
set_option linter.unusedVariables false
set_option linter.unusedSimpArgs false
open Go.RowKit Go.Shelf Bits
open Go.Proofs.YtdjdfbfcjajlkaaDoorW.PrintWords Go.Proofs.YtdjdfbfcjajlkaaDoorW.PrintLast Go.Proofs.YtdjdfbfcjajlkaaDoorW.PrintMore
def specReady (g : List Tk) (out : List Nat) (i : Nat) : Bool := !decide ((i : Int) ∈ ints out) && allDoneB (rdTk g i).f1 (ints out)
def topFirst (g : List Tk) (out : List Nat) : Option Nat := (List.range g.length).find? (specReady g out)
def topStep (g : List Tk) (out : List Nat) : List Nat := match topFirst g out with
 | some i => out ++ [i]
 | none => out
def topN (g : List Tk) : Nat → List Nat
 | 0 => []
 | k + 1 => topStep g (topN g k)
theorem topFirst_some {g : List Tk} {out : List Nat} {k : Nat} (h : k < g.length) (hp : specReady g out k = true) (hlow : ∀ j, j < k → specReady g out j = false) : topFirst g out = some k := find_range h hp hlow
theorem topFirst_none {g : List Tk} {out : List Nat} (hlow : ∀ j, j < g.length → specReady g out j = false) : topFirst g out = none := by
 unfold topFirst
 rw [List.find?_eq_none]
 intro j hj
 rw [hlow j (List.mem_range.1 hj)]; simp
theorem mem_ints {i : Nat} {l : List Nat} : ((i : Int) ∈ ints l) ↔ i ∈ l := by
 simp only [ints, List.mem_map]
 constructor
 ·
  rintro ⟨j, hj, e⟩
  have : j = i := Int.ofNat.inj e
  exact this ▸ hj
 ·
  exact fun h => ⟨i, h, rfl⟩
theorem topFirst_spec {g : List Tk} {out : List Nat} {k : Nat} (h : topFirst g out = some k) : k < g.length ∧ ¬ k ∈ out ∧ specReady g out k = true := by
 unfold topFirst at h
 have h2 := List.find?_some h
 refine ⟨List.mem_range.1 (List.mem_of_find?_eq_some h), fun hm => ?_, h2⟩
 unfold specReady at h2
 rw [decide_eq_true (mem_ints.2 hm)] at h2
 simp at h2
theorem topN_facts (g : List Tk) : ∀ k, (topN g k).Nodup ∧ (∀ i ∈ topN g k, i < g.length) ∧ (topN g k).length ≤ k
 | 0 => ⟨List.nodup_nil, by intro i h; simp [topN] at h, Nat.le_refl _⟩
 | k + 1 => by
  obtain ⟨h1, h2, h3⟩ := topN_facts g k
  show (topStep g (topN g k)).Nodup ∧ (∀ i ∈ topStep g (topN g k), _) ∧ (topStep g (topN g k)).length ≤ _
  unfold topStep
  cases hf : topFirst g (topN g k) with
  | none => exact ⟨h1, h2, Nat.le_succ_of_le h3⟩
  | some i =>
   obtain ⟨hi, hn, _⟩ := topFirst_spec hf
   refine ⟨?_, fun j hj => ?_, by simp; omega⟩
   ·
    rw [List.nodup_append]
    exact ⟨h1, List.nodup_cons.2 ⟨by simp, List.nodup_nil⟩, fun a ha b hb => by rw [List.mem_singleton.1 hb]; exact fun e => hn (e ▸ ha)⟩
   ·
    rcases List.mem_append.1 hj with hj | hj
    ·
     exact h2 j hj
    ·
     rw [List.mem_singleton.1 hj]; exact hi
def lenOf : Value → Nat
 | .slice _ n _ => n
 | _ => 0
theorem nodup_below : ∀ {n : Nat} {l : List Nat}, l.Nodup → (∀ i ∈ l, i < n) → l.length ≤ n
 | 0, l, _, hb => by
  cases l with
  | nil => exact Nat.le_refl _
  | cons x r => exact absurd (hb x (List.mem_cons_self ..)) (Nat.not_lt_zero _)
 | n + 1, l, h, hb => by
  by_cases hm : n ∈ l
  ·
   have h1 := List.length_erase_of_mem hm
   have h2 : (l.erase n).length ≤ n := nodup_below (h.erase n) fun i hi => by
    have := (h.mem_erase_iff).1 hi
    have := hb i this.2
    omega
   omega
  ·
   have : l.length ≤ n := nodup_below h fun i hi => by
    have := hb i hi
    have : i ≠ n := fun e => hm (e ▸ hi)
    omega
   omega
theorem topN_le (g : List Tk) (k : Nat) : (topN g k).length ≤ g.length := nodup_below (topN_facts g k).1 (topN_facts g k).2.1
theorem topN_stop {g : List Tk} {k : Nat} (h : topFirst g (topN g k) = none) : ∀ j, topN g (k + j) = topN g k
 | 0 => rfl
 | j + 1 => by
  show topStep g (topN g (k + j)) = _
  rw [topN_stop h j]
  unfold topStep
  rw [h]
def topL (g : List Tk) : List Nat := topN g g.length
set_option maxRecDepth 100000 in
set_option maxHeartbeats 4000000 in
theorem topOrder_calls (A : Option Addr) (c : Nat) (g : List Tk) (hlen : g.length ≤ 8) (w : World) (hr : kTk.C w A g.length g) :
  Calls Tryd.prog 81 #[.slice A g.length c] w fun e w' => ∃ v, e = .returned v ∧ Kd.R (Kd.int .i64) 3 w' w.heap.size (fun _ => True) v (ints (topL g)) ∧ Below w.heap.size w w' := by
 have HR := Lib.hid hr
 clear hr
 go_enter Tryd.func81, Tryd.ntmps81
 go_wp2
 have HB1 : Below w.heap.size w (w.alloc (.cells #[] 3)) := (Below.refl _ _).alloc (Nat.le_refl _) _
 have HO : Kd.R (Kd.int .i64) 3 (w.alloc (.cells #[] 3)) w.heap.size (fun _ => True) (.slice (some ⟨w.heap.size, 0, none⟩) 0 0) (ints []) := Kd.R_of_own (World.ownsRow_lit (base := w.heap.size) (size := 1) w #[] 0 (Nat.le_refl _) (by simp [maxLen]) rfl) (fun _ _ => trivial)
 go_loopw [3] (fun out wr => ∃ (l : List Nat), Hid (topN g l.length = l) ∧ Kd.R (Kd.int .i64) 3 wr w.heap.size (fun _ => True) out (ints l) ∧ Below w.heap.size w wr) (fun out _ => g.length + 1 - lenOf out)
 case atStart => exact ⟨[], Lib.hid rfl, HO, HB1⟩
 case round =>
  clear HO HB1
  obtain ⟨l, HS, HO, HB⟩ := hrel
  have hll : l.length ≤ g.length := by have := topN_le g l.length; rw [HS.out] at this; exact this
  obtain ⟨Al, cl, rfl, hcl, hCl⟩ := Kd.R_reads HO
  have HC := Lib.hid hCl
  clear hCl
  go_wp2
  obtain ⟨wo, rfl⟩ : ∃ wo : World, wo = wr := ⟨_, rfl⟩
  go_loopw [4, 5] (fun nx i wi => ∃ (j : Nat), j ≤ g.length ∧ i = .int .i64 j ∧ ((nx = .int .i64 (-1) ∧ Hid (∀ q, q < j → specReady g l q = false)) ∨ ∃ q : Nat, q < j ∧ nx = .int .i64 q ∧ Hid (topFirst g l = some q)) ∧ wi = wo) (fun nx i _ => g.length - (intOf i).toNat)
  case atStart => exact ⟨0, Nat.zero_le _, rfl, .inl ⟨rfl, Lib.hid fun q h => absurd h (Nat.not_lt_zero _)⟩, rfl⟩
  case round =>
   obtain ⟨j, hj, rfl, hnx, rfl⟩ := hrel
   rcases hnx with ⟨rfl, HL⟩ | ⟨q, hq, rfl, HF⟩
   ·
    by_cases hjl : j < g.length
    ·
     obtain ⟨ad, A1, c1, rfl, hc0, hc1, hc2, hc3, hl1, hC1⟩ := at_Tk (Kd.C_below HR.out HB) j hjl
     have hjj : decide ((j : Int) < (g.length : Int)) = true := decide_eq_true (by omega)
     cases hm : decide ((j : Int) ∈ ints l)
     ·
      have HM := Lib.hid hm
      cases hd : allDoneB (rdTk g j).f1 (ints l)
      ·
       have HD := Lib.hid hd
       have HN := step_lt HL (show specReady g l j = false by unfold specReady; rw [hm, hd]; rfl)
       clear hm hd
       generalize rdTk g j = t at *
       go_wp2_with (first | (go_at_call 110; with_reducible refine (isIn_is _ _ _ _ _ HM _ HC.out).mono ?_; rintro e w' ⟨rfl, rfl⟩) | (go_at_call 111; refine (allDone_is _ _ _ _ _ _ _ HD _ hC1 HC.out).mono ?_; rintro e w' ⟨rfl, rfl⟩))
       go_roundw
       case rel => exact ⟨j + 1, by omega, by go_num, .inl ⟨rfl, HN⟩, trivial⟩
       case measure => simp [intOf]; omega
      ·
       have HD := Lib.hid hd
       have HF := Lib.hid (topFirst_some hjl (show specReady g l j = true by unfold specReady; rw [hm, hd]; rfl) HL.out)
       clear hm hd
       generalize rdTk g j = t at *
       go_wp2_with (first | (go_at_call 110; with_reducible refine (isIn_is _ _ _ _ _ HM _ HC.out).mono ?_; rintro e w' ⟨rfl, rfl⟩) | (go_at_call 111; refine (allDone_is _ _ _ _ _ _ _ HD _ hC1 HC.out).mono ?_; rintro e w' ⟨rfl, rfl⟩))
       go_roundw
       case rel => exact ⟨j + 1, by omega, by go_num, .inr ⟨j, by omega, rfl, HF⟩, trivial⟩
       case measure => simp [intOf]; omega
     ·
      have HM := Lib.hid hm
      have HN := step_lt HL (show specReady g l j = false by unfold specReady; rw [hm]; rfl)
      clear hm
      generalize rdTk g j = t at *
      go_wp2_with (go_at_call 110; with_reducible refine (isIn_is _ _ _ _ _ HM _ HC.out).mono ?_; rintro e w' ⟨rfl, rfl⟩)
      go_roundw
      case rel => exact ⟨j + 1, by omega, by go_num, .inl ⟨rfl, HN⟩, trivial⟩
      case measure => simp [intOf]; omega
    ·
     have hjj : decide ((j : Int) < (g.length : Int)) = false := decide_eq_false (by omega)
     have hn : topFirst g l = none := topFirst_none fun q hq => HL.out q (by omega)
     have HT : Hid (topL g = l) := Lib.hid (by
      have h1 : topFirst g (topN g l.length) = none := by rw [HS.out]; exact hn
      have h2 := topN_stop h1 (g.length - l.length)
      rw [show l.length + (g.length - l.length) = g.length from by omega, HS.out] at h2
      exact h2)
     clear hn
     go_wp2
     go_ret
     exact ⟨_, rfl, by rw [HT.out]; exact HO, HB⟩
   ·
    have hqg : q < g.length := by omega
    have hgt : decide ((q : Int) < 0) = false := decide_eq_false (by omega)
    have HS2 : Hid (topN g (l ++ [q]).length = l ++ [q]) := Lib.hid (by
     rw [List.length_append]
     show topStep g (topN g l.length) = _
     rw [HS.out]
     unfold topStep
     rw [HF.out])
    have hl2 : (l ++ [q]).length ≤ g.length := by have := topN_le g (l ++ [q]).length; rw [HS2.out] at this; exact this
    simp at hl2
    by_cases hjl : j < g.length
    ·
     have hjj : decide ((j : Int) < (g.length : Int)) = true := decide_eq_true (by omega)
     go_wp2_with (at_builtin; refine ap_int (w0 := w) w.heap.size rfl _ _ rfl (.slice Al (ints l).length cl) (ints l) (q : Int) rfl rfl rfl HO HB HB.size (by rw [ints_length]; omega) ?_; intro v1 w2 hO2 hB2 _ _)
     obtain ⟨A', c', rfl, _, _⟩ := Kd.R_reads hO2
     refine ⟨⟨l ++ [q], HS2, by simpa [ints] using hO2, hB2⟩, ?_⟩
     simp only [lenOf, List.length_append, ints_length, List.length_singleton]
     omega
    ·
     have hjj : decide ((j : Int) < (g.length : Int)) = false := decide_eq_false (by omega)
     go_wp2_with (at_builtin; refine ap_int (w0 := w) w.heap.size rfl _ _ rfl (.slice Al (ints l).length cl) (ints l) (q : Int) rfl rfl rfl HO HB HB.size (by rw [ints_length]; omega) ?_; intro v1 w2 hO2 hB2 _ _)
     obtain ⟨A', c', rfl, _, _⟩ := Kd.R_reads hO2
     refine ⟨⟨l ++ [q], HS2, by simpa [ints] using hO2, hB2⟩, ?_⟩
     simp only [lenOf, List.length_append, ints_length, List.length_singleton]
     omega
def specValid (g : List Tk) : Bool := tasksFineB g && decide ((topL g).length = g.length)
set_option maxHeartbeats 2000000 in
theorem validGraph_calls (A : Option Addr) (c : Nat) (g : List Tk) (w : World) (hr : kTk.C w A g.length g) :
  Calls Tryd.prog 48 #[.slice A g.length c] w fun e w' => e = .returned (.bool (specValid g)) ∧ Below w.heap.size w w' := by
 have hl := (C_len hr).2
 have HR := Lib.hid hr
 clear hr
 cases hf : tasksFineB g
 ·
  have HF := Lib.hid hf
  clear hf
  go_enter Tryd.func48, Tryd.ntmps48
  go_wp2_with (go_at_call 80; refine (tasksFine_is _ _ _ _ HF _ HR.out).mono ?_; rintro e w1 ⟨rfl, hB1⟩)
  go_ret
  exact ⟨ret_bool (by rw [specValid, HF.out]; rfl), hB1⟩
 ·
  have HF := Lib.hid hf
  have hlen : g.length ≤ 8 := by
   unfold tasksFineB at hf
   simp at hf
   exact hf.2
  clear hf
  go_enter Tryd.func48, Tryd.ntmps48
  go_wp2_with (first | (go_at_call 80; refine (tasksFine_is _ _ _ _ HF _ HR.out).mono ?_; rintro e w1 ⟨rfl, hB1⟩) | (go_at_call 81; refine (topOrder_calls _ _ _ hlen _ (Kd.C_below HR.out hB1)).mono ?_; rintro e w2 ⟨v2, rfl, hR2, hB2⟩; obtain ⟨A2, c2, rfl, hl2, hC2⟩ := Kd.R_reads hR2; rw [ints_length]))
  go_ret
  refine ⟨ret_bool ?_, below_step hB1 hB2⟩
  rw [specValid, HF.out, Bool.true_and]
  rw [Bool.eq_iff_iff, beq_iff_eq, decide_eq_true_iff]
  omega
theorem validGraph_is (b : Bool) (A : Option Addr) (c : Nat) (g : List Tk) (h : Hid (specValid g = b)) (w : World) (hr : kTk.C w A g.length g) :
  Calls Tryd.prog 48 #[.slice A g.length c] w fun e w' => e = .returned (.bool b) ∧ Below w.heap.size w w' :=
 (validGraph_calls A c g w hr).mono fun e w' ⟨he, hw⟩ => ⟨by rw [he, h.out], hw⟩
end Go.Proofs.YtdjdfbfcjajlkaaDoor

namespace Go.Proofs.YtdjdfbfcjajlkaaDoor
set_option linter.unusedVariables false
set_option linter.unusedSimpArgs false
open Go.RowKit Go.Shelf Bits
open Go.Proofs.YtdjdfbfcjajlkaaDoorW.PrintWords Go.Proofs.YtdjdfbfcjajlkaaDoorW.PrintLast Go.Proofs.YtdjdfbfcjajlkaaDoorW.PrintMore
def rdB (g : List Tk) (d : List Int) (i : Nat) : Bool := !decide ((i : Int) ∈ d) && allDoneB (rdTk g i).f1 d
def readyS (g : List Tk) (d : List Int) : List Nat := (List.range g.length).filter (rdB g d)
theorem filter_snoc {p : Nat → Bool} (k : Nat) : (List.range (k + 1)).filter p = if p k then (List.range k).filter p ++ [k] else (List.range k).filter p := by
 rw [List.range_succ, List.filter_append]
 split
 ·
  rename_i h
  simp [h]
 ·
  rename_i h
  simp [h]
theorem filter_range_le (p : Nat → Bool) (k : Nat) : ((List.range k).filter p).length ≤ k := by
 have := List.length_filter_le p (List.range k)
 rwa [List.length_range] at this
set_option maxRecDepth 100000 in
set_option maxHeartbeats 4000000 in
theorem sready_calls (A : Option Addr) (c : Nat) (g : List Tk) (A' : Option Addr) (c' : Nat) (d : List Int) (hlen : g.length ≤ 8) (w : World) (hr : kTk.C w A g.length g) (hr' : (Kd.int .i64).C w A' d.length d) :
  Calls Tryd.prog 83 #[.slice A g.length c, .slice A' d.length c'] w fun e w' => ∃ v, e = .returned v ∧ Kd.R (Kd.int .i64) 3 w' w.heap.size (fun _ => True) v (ints (readyS g d)) ∧ Below w.heap.size w w' := by
 have HR := Lib.hid hr
 have HR' := Lib.hid hr'
 clear hr hr'
 go_enter Tryd.func83, Tryd.ntmps83
 go_wp2
 have HB1 : Below w.heap.size w (w.alloc (.cells #[] 3)) := (Below.refl _ _).alloc (Nat.le_refl _) _
 have HO : Kd.R (Kd.int .i64) 3 (w.alloc (.cells #[] 3)) w.heap.size (fun _ => True) (.slice (some ⟨w.heap.size, 0, none⟩) 0 0) (ints []) := Kd.R_of_own (World.ownsRow_lit (base := w.heap.size) (size := 1) w #[] 0 (Nat.le_refl _) (by simp [maxLen]) rfl) (fun _ _ => trivial)
 go_loopw [5, 6] (fun out i wr => ∃ j, j ≤ g.length ∧ i = .int .i64 (j : Nat) ∧ Kd.R (Kd.int .i64) 3 wr w.heap.size (fun _ => True) out (ints ((List.range j).filter (rdB g d))) ∧ Below w.heap.size w wr) (fun _ i _ => g.length - (intOf i).toNat)
 case atStart => exact ⟨0, Nat.zero_le _, rfl, HO, HB1⟩
 case round =>
  clear HO HB1
  obtain ⟨j, hj, rfl, hO, hB⟩ := hrel
  by_cases hjl : j < g.length
  ·
   obtain ⟨ad, A1, c1, rfl, hc0, hc1, hc2, hc3, hl1, hC1⟩ := at_Tk (Kd.C_below HR.out hB) j hjl
   have HD' := Lib.hid (Kd.C_below HR'.out hB)
   have HFS : Hid ((List.range (j + 1)).filter (rdB g d) = if rdB g d j then (List.range j).filter (rdB g d) ++ [j] else (List.range j).filter (rdB g d)) := Lib.hid (filter_snoc j)
   have hfl := filter_range_le (rdB g d) j
   have hjj : decide ((j : Int) < (g.length : Int)) = true := decide_eq_true (by omega)
   have HBD : Hid (rdB g d j = (!decide ((j : Int) ∈ d) && allDoneB (rdTk g j).f1 d)) := Lib.hid rfl
   generalize (List.range j).filter (rdB g d) = fl at hO HFS hfl
   cases hm : decide ((j : Int) ∈ d)
   ·
    have HM := Lib.hid hm
    cases hd : allDoneB (rdTk g j).f1 d
    ·
     have HD := Lib.hid hd
     rw [hm, hd] at HBD
     clear hm hd
     generalize rdTk g j = t at *
     go_wp2_with (first | (go_at_call 110; with_reducible refine (isIn_is _ _ _ _ _ HM _ HD'.out).mono ?_; rintro e w' ⟨rfl, rfl⟩) | (go_at_call 111; refine (allDone_is _ _ _ _ _ _ _ HD _ hC1 HD'.out).mono ?_; rintro e w' ⟨rfl, rfl⟩))
     go_roundw
     case rel => exact ⟨j + 1, by omega, by go_num, by rw [HFS.out, HBD.out]; exact hO, hB⟩
     case measure => simp [intOf]; omega
    ·
     have HD := Lib.hid hd
     rw [hm, hd] at HBD
     clear hm hd
     generalize rdTk g j = t at *
     go_wp2_with (first | (go_at_call 110; with_reducible refine (isIn_is _ _ _ _ _ HM _ HD'.out).mono ?_; rintro e w' ⟨rfl, rfl⟩) | (go_at_call 111; refine (allDone_is _ _ _ _ _ _ _ HD _ hC1 HD'.out).mono ?_; rintro e w' ⟨rfl, rfl⟩) | (at_builtin; refine ap_int (w0 := w) w.heap.size rfl _ _ rfl u5 (ints fl) (j : Int) rfl rfl rfl hO hB hB.size (by rw [ints_length]; omega) ?_; intro v1 w2 hO2 hB2 hg2 hat2; clear hg2 hat2))
     go_roundw
     case rel => exact ⟨j + 1, by omega, by go_num, by rw [HFS.out, HBD.out]; simpa [ints] using hO2, hB2⟩
     case measure => simp [intOf]; omega
   ·
    have HM := Lib.hid hm
    rw [hm] at HBD
    clear hm
    go_wp2_with (first | (go_at_call 110; with_reducible refine (isIn_is _ _ _ _ _ HM _ HD'.out).mono ?_; rintro e w' ⟨rfl, rfl⟩))
    go_roundw
    case rel => exact ⟨j + 1, by omega, by go_num, by rw [HFS.out, HBD.out]; exact hO, hB⟩
    case measure => simp [intOf]; omega
  ·
   obtain rfl : j = g.length := by omega
   have hjj : decide ((g.length : Int) < (g.length : Int)) = false := decide_eq_false (by omega)
   go_wp2
   go_ret
   exact ⟨_, rfl, hO, hB⟩
end Go.Proofs.YtdjdfbfcjajlkaaDoor

namespace Go.Proofs.YtdjdfbfcjajlkaaDoor
set_option linter.unusedVariables false
set_option linter.unusedSimpArgs false
open Go.RowKit Go.Shelf Bits
open Go.Proofs.YtdjdfbfcjajlkaaDoorW.PrintWords Go.Proofs.YtdjdfbfcjajlkaaDoorW.PrintLast Go.Proofs.YtdjdfbfcjajlkaaDoorW.PrintMore
def overL (l : List Ev) : List Int := (l.filter (·.f2)).map (·.f1)
def begunL (t : Int) : List Ev → Int → Int
 | [], b => b
 | e :: r, b => begunL t r (if e.f2 then b else if e.f1 = t then e.f0 else b)
theorem begunL_snoc (t : Int) (e : Ev) : ∀ (l : List Ev) (b : Int), begunL t (l ++ [e]) b = if e.f2 then begunL t l b else if e.f1 = t then e.f0 else begunL t l b
 | [], b => rfl
 | x :: l, b => by
  show begunL t (l ++ [e]) _ = _
  rw [begunL_snoc t e l]
  rfl
theorem begunL_range (t : Int) (lo hi : Int) : ∀ (l : List Ev) (b : Int), lo ≤ b → b ≤ hi → (∀ e ∈ l, lo ≤ e.f0 ∧ e.f0 ≤ hi) → lo ≤ begunL t l b ∧ begunL t l b ≤ hi
 | [], b, h1, h2, _ => ⟨h1, h2⟩
 | e :: l, b, h1, h2, h => by
  have he := h e (List.mem_cons_self ..)
  refine begunL_range t lo hi l _ ?_ ?_ (fun x hx => h x (List.mem_cons_of_mem _ hx))
  ·
   split
   ·
    exact h1
   ·
    split
    ·
     exact he.1
    ·
     exact h1
  ·
   split
   ·
    exact h2
   ·
    split
    ·
     exact he.2
    ·
     exact h2
theorem overL_snoc (l : List Ev) (e : Ev) : overL (l ++ [e]) = if e.f2 then overL l ++ [e.f1] else overL l := by
 unfold overL
 rw [List.filter_append, List.map_append]
 cases h : e.f2 <;> simp [h]
theorem overL_length (l : List Ev) : (overL l).length ≤ l.length := by unfold overL; rw [List.length_map]; exact List.length_filter_le _ _
theorem take_snocE {l : List Ev} {k : Nat} (h : k < l.length) : l.take (k + 1) = l.take k ++ [rdEv l k] := by
 rw [List.take_succ_eq_append_getElem h]; simp [rdEv, List.getD_eq_getElem?_getD, h]
def evFit (g : List Tk) (pre : List Ev) (x : Ev) : Bool :=
 if x.f2 then decide (0 ≤ begunL x.f1 pre (-1)) && (!decide (x.f1 ∈ overL pre) && decide (x.f0 = begunL x.f1 pre (-1) + (rdTk g x.f1.toNat).f0)) else decide (begunL x.f1 pre (-1) < 0) && allDoneB (rdTk g x.f1.toNat).f1 (overL pre)
theorem evFit_begin {g : List Tk} {pre : List Ev} {x0 b : Int} {m : Nat} {ol : List Int} {t : Tk} (hb : begunL (m : Int) pre (-1) = b) (ho : overL pre = ol) (ht : rdTk g m = t) : evFit g pre ⟨x0, m, false⟩ = (decide (b < 0) && allDoneB t.f1 ol) := by
 unfold evFit
 simp only [Int.toNat_natCast, hb, ho, ht, Bool.false_eq_true, if_false]
theorem evFit_over {g : List Tk} {pre : List Ev} {x0 b : Int} {m : Nat} {ol : List Int} {t : Tk} (hb : begunL (m : Int) pre (-1) = b) (ho : overL pre = ol) (ht : rdTk g m = t) : evFit g pre ⟨x0, m, true⟩ = (decide (0 ≤ b) && (!decide ((m : Int) ∈ ol) && decide (x0 = b + t.f0))) := by
 unfold evFit
 simp only [Int.toNat_natCast, hb, ho, ht, if_true]
def eventFitsB (g : List Tk) (log : List Ev) (k : Nat) : Bool := evFit g (log.take k) (rdEv log k)
end Go.Proofs.YtdjdfbfcjajlkaaDoor

namespace Go.Proofs.YtdjdfbfcjajlkaaDoor
set_option linter.unusedVariables false
set_option linter.unusedSimpArgs false
open Go.RowKit Go.Shelf Bits
open Go.Proofs.YtdjdfbfcjajlkaaDoorW.PrintWords Go.Proofs.YtdjdfbfcjajlkaaDoorW.PrintLast Go.Proofs.YtdjdfbfcjajlkaaDoorW.PrintMore
def eventOkB (g : List Tk) (log : List Ev) (k : Nat) : Bool :=
 inB (rdEv log k).f0 0 200 && !(decide (0 < k) && decide ((rdEv log k).f0 < (rdEv log (k - 1)).f0)) && inB (rdEv log k).f1 0 (g.length - 1) && eventFitsB g log k
def validLogB (g : List Tk) (log : List Ev) : Bool := specValid g && decide (log.length ≤ 16) && (List.range log.length).all (eventOkB g log)
theorem specValid_time {g : List Tk} (h : specValid g = true) (i : Nat) : 0 ≤ (rdTk g i).f0 ∧ (rdTk g i).f0 ≤ 20 := by
 unfold specValid tasksFineB at h
 simp only [Bool.and_eq_true, List.all_eq_true] at h
 by_cases hi : i < g.length
 ·
  have := h.1.1 (rdTk g i) (by simp only [rdTk, List.getD_eq_getElem?_getD, List.getElem?_eq_getElem hi]; exact List.getElem_mem _)
  simp only [taskFineB, Bool.and_eq_true] at this
  have := inB_true.1 this.1.1.1.1
  omega
 ·
  simp [rdTk, List.getD_eq_getElem?_getD, List.getElem?_eq_none (Nat.le_of_not_lt hi), zTk]
end Go.Proofs.YtdjdfbfcjajlkaaDoor

namespace Go.Proofs.YtdjdfbfcjajlkaaDoor
set_option linter.unusedVariables false
set_option linter.unusedSimpArgs false
open Go.RowKit Go.Shelf Bits
open Go.Proofs.YtdjdfbfcjajlkaaDoorW.PrintWords Go.Proofs.YtdjdfbfcjajlkaaDoorW.PrintLast Go.Proofs.YtdjdfbfcjajlkaaDoorW.PrintMore
def TOk (g : List Tk) : Prop := g.length ≤ 8 ∧ (∀ i, 0 ≤ (rdTk g i).f0 ∧ (rdTk g i).f0 ≤ 20) ∧ (∀ i, 0 ≤ (rdTk g i).f2 ∧ (rdTk g i).f2 ≤ 2) ∧ (∀ i, 0 ≤ (rdTk g i).f3 ∧ (rdTk g i).f3 ≤ 4) ∧ (∀ i, i < g.length → 1 ≤ (rdTk g i).f0 ∧ 1 ≤ (rdTk g i).f3)
theorem specValid_fine {g : List Tk} (h : specValid g = true) {i : Nat} (hi : i < g.length) : taskFineB g.length (rdTk g i) = true := by
 unfold specValid tasksFineB at h
 rw [Bool.and_eq_true, Bool.and_eq_true] at h
 exact List.all_eq_true.1 h.1.1 _ (by
  unfold rdTk
  rw [List.getD_eq_getElem?_getD, List.getElem?_eq_getElem hi]
  exact List.getElem_mem _)
theorem specValid_TOk {g : List Tk} (h : specValid g = true) : TOk g := by
 have h8 : g.length ≤ 8 := by
  unfold specValid tasksFineB at h
  simp at h
  exact h.1.2
 have key : ∀ i, i < g.length → (1 ≤ (rdTk g i).f0 ∧ (rdTk g i).f0 ≤ 20) ∧ (0 ≤ (rdTk g i).f2 ∧ (rdTk g i).f2 ≤ 2) ∧ (1 ≤ (rdTk g i).f3 ∧ (rdTk g i).f3 ≤ 4) := fun i hi => by
  have hf := specValid_fine h hi
  unfold taskFineB at hf
  simp only [Bool.and_eq_true] at hf
  exact ⟨inB_true.1 hf.1.1.1.1, inB_true.1 hf.1.1.1.2, inB_true.1 hf.1.1.2⟩
 have out : ∀ i, ¬ i < g.length → rdTk g i = zTk := fun i hi => by
  unfold rdTk
  rw [List.getD_eq_getElem?_getD, List.getElem?_eq_none (by omega)]
  rfl
 refine ⟨h8, fun i => ?_, fun i => ?_, fun i => ?_, fun i hi => ?_⟩
 ·
  by_cases hi : i < g.length
  ·
   have := key i hi
   omega
  ·
   rw [out i hi]
   simp [zTk]
 ·
  by_cases hi : i < g.length
  ·
   exact (key i hi).2.1
  ·
   rw [out i hi]
   simp [zTk]
 ·
  by_cases hi : i < g.length
  ·
   have := key i hi
   omega
  ·
   rw [out i hi]
   simp [zTk]
 ·
  have := key i hi
  omega
def usedS (g : List Tk) (r : List Nat) (p : Int) : Int := (r.map fun i => if (rdTk g i).f2 = p then (rdTk g i).f3 else 0).sum
theorem usedS_snoc (g : List Tk) (r : List Nat) (i : Nat) (p : Int) : usedS g (r ++ [i]) p = usedS g r p + if (rdTk g i).f2 = p then (rdTk g i).f3 else 0 := by
 unfold usedS
 rw [List.map_append, List.sum_append]
 simp
theorem usedS_bound {g : List Tk} (h : TOk g) (p : Int) : ∀ r : List Nat, 0 ≤ usedS g r p ∧ usedS g r p ≤ 4 * r.length
 | [] => ⟨Int.le_refl _, by show (0 : Int) ≤ _; simp⟩
 | i :: r => by
  have ih := usedS_bound h p r
  have h3 := h.2.2.2.1 i
  have e : usedS g (i :: r) p = (if (rdTk g i).f2 = p then (rdTk g i).f3 else 0) + usedS g r p := by unfold usedS; simp
  rw [e, List.length_cons]
  split <;> omega
set_option maxRecDepth 100000 in
set_option maxHeartbeats 2000000 in
theorem used_calls (A : Option Addr) (c : Nat) (g : List Tk) (A' : Option Addr) (c' : Nat) (r : List Nat) (p : Int) (hg : TOk g) (hrl : r.length ≤ 100) (hrg : ∀ i ∈ r, i < g.length) (w : World) (hr : kTk.C w A g.length g) (hr' : (Kd.int .i64).C w A' r.length (ints r)) :
  Calls Tryd.prog 113 #[.slice A g.length c, .slice A' r.length c', .int .i64 p] w fun e w' => e = .returned (.int .i64 (usedS g r p)) ∧ w' = w := by
 have HR := Lib.hid hr
 have HR' := Lib.hid hr'
 have HG := Lib.hid hg
 have HRG := Lib.hid hrg
 clear hr hr' hg hrg
 go_enter Tryd.func113, Tryd.ntmps113
 go_wp2
 go_loop [7, 8] (fun n i => ∃ j, j ≤ r.length ∧ i = .int .i64 (j : Nat) ∧ n = .int .i64 (usedS g (r.take j) p)) (fun _ i => r.length - (intOf i).toNat)
 case atStart => exact ⟨0, Nat.zero_le _, rfl, rfl⟩
 case round =>
  obtain ⟨j, hj, rfl, rfl⟩ := hrel
  by_cases hjl : j < r.length
  ·
   have hjj : decide ((j : Int) < (r.length : Int)) = true := decide_eq_true (by omega)
   have hji : (j : Int) < (r.length : Int) := by omega
   obtain ⟨ad, rfl, cx⟩ := at_set HR'.out j hjl
   have hxg : r.getD j 0 < g.length := by
    apply HRG.out
    rw [List.getD_eq_getElem?_getD, List.getElem?_eq_getElem hjl]
    exact List.getElem_mem _
   have hub := usedS_bound HG.out p (r.take j)
   rw [List.length_take] at hub
   have HSN : Hid (usedS g (r.take (j + 1)) p = usedS g (r.take j) p + if (rdTk g (r.getD j 0)).f2 = p then (rdTk g (r.getD j 0)).f3 else 0) := Lib.hid (by
    rw [List.take_succ_eq_append_getElem hjl, usedS_snoc, List.getD_eq_getElem?_getD, List.getElem?_eq_getElem hjl]
    rfl)
   have h3 := HG.out.2.2.2.1 (r.getD j 0)
   obtain ⟨adg, A1, c1, rfl, hx0, hx1, hx2, hx3, _⟩ := at_Tk HR.out (r.getD j 0) hxg
   generalize r.getD j 0 = x at cx hxg HSN h3 hx0 hx1 hx2 hx3
   generalize usedS g (r.take j) p = U at hub HSN
   have hxi : (x : Int) < (g.length : Int) := by omega
   by_cases hp : (rdTk g x).f2 = p
   ·
    have dp : ((rdTk g x).f2 == p) = true := beq_iff_eq.2 hp
    rw [if_pos hp] at HSN
    clear hp
    generalize (rdTk g x).f2 = f2 at hx2 dp
    generalize (rdTk g x).f3 = f3 at hx3 h3 HSN
    go_wp2
    go_round
    case rel => exact ⟨j + 1, by omega, by go_num, by rw [HSN.out]⟩
    case measure => simp [intOf]; omega
   ·
    have dp : ((rdTk g x).f2 == p) = false := by rw [beq_eq_false_iff_ne]; exact hp
    rw [if_neg hp, Int.add_zero] at HSN
    clear hp
    generalize (rdTk g x).f2 = f2 at hx2 dp
    go_wp2
    go_round
    case rel => exact ⟨j + 1, by omega, by go_num, by rw [HSN.out]⟩
    case measure => simp [intOf]; omega
  ·
   obtain rfl : j = r.length := by omega
   have hjj : decide ((r.length : Int) < (r.length : Int)) = false := decide_eq_false (by omega)
   go_wp2
   go_ret
   exact ⟨ret_int (by first | rfl | rw [List.take_length]), rfl⟩
theorem used_is (u : Int) (A : Option Addr) (c : Nat) (g : List Tk) (A' : Option Addr) (c' : Nat) (r : List Nat) (p : Int) (h : Hid (usedS g r p = u)) (hg : TOk g) (hrl : r.length ≤ 100) (hrg : ∀ i ∈ r, i < g.length) (w : World) (hr : kTk.C w A g.length g) (hr' : (Kd.int .i64).C w A' r.length (ints r)) :
  Calls Tryd.prog 113 #[.slice A g.length c, .slice A' r.length c', .int .i64 p] w fun e w' => e = .returned (.int .i64 u) ∧ w' = w :=
 (used_calls A c g A' c' r p hg hrl hrg w hr hr').mono fun e w' ⟨he, hw⟩ => ⟨by rw [he, h.out], hw⟩
def SOk (st : List Int) : Prop := ∀ i, -1000 ≤ st.getD i 0 ∧ st.getD i 0 ≤ 1000
def runB (g : List Tk) (st : List Int) (now : Int) (i : Nat) : Bool := decide (st.getD i 0 ≤ now) && decide (now < st.getD i 0 + (rdTk g i).f0)
def runS (g : List Tk) (st : List Int) (now : Int) : List Nat := (List.range g.length).filter (runB g st now)
set_option maxRecDepth 1000000 in
set_option maxHeartbeats 4000000 in
theorem runningAt_calls (A : Option Addr) (c : Nat) (g : List Tk) (A' : Option Addr) (c' : Nat) (st : List Int) (now : Int) (hg : TOk g) (hs : SOk st) (hl : st.length = g.length) (w : World) (hr : kTk.C w A g.length g) (hr' : (Kd.int .i64).C w A' st.length st) :
  Calls Tryd.prog 61 #[.slice A g.length c, .slice A' st.length c', .int .i64 now] w fun e w' => ∃ v, e = .returned v ∧ Kd.R (Kd.int .i64) 3 w' w.heap.size (fun _ => True) v (ints (runS g st now)) ∧ Below w.heap.size w w' := by
 have HR := Lib.hid hr
 have HR' := Lib.hid hr'
 have HG := Lib.hid hg
 have HS := Lib.hid hs
 have HL := Lib.hid hl
 have h8 := hg.1
 clear hr hr' hg hs hl
 go_enter Tryd.func61, Tryd.ntmps61
 go_wp2
 have HB1 : Below w.heap.size w (w.alloc (.cells #[] 3)) := (Below.refl _ _).alloc (Nat.le_refl _) _
 have HO : Kd.R (Kd.int .i64) 3 (w.alloc (.cells #[] 3)) w.heap.size (fun _ => True) (.slice (some ⟨w.heap.size, 0, none⟩) 0 0) (ints []) := Kd.R_of_own (World.ownsRow_lit (base := w.heap.size) (size := 1) w #[] 0 (Nat.le_refl _) (by simp [maxLen]) rfl) (fun _ _ => trivial)
 go_loopw [7, 8] (fun out i wr => ∃ j, j ≤ g.length ∧ i = .int .i64 (j : Nat) ∧ Kd.R (Kd.int .i64) 3 wr w.heap.size (fun _ => True) out (ints ((List.range j).filter (runB g st now))) ∧ Below w.heap.size w wr) (fun _ i _ => g.length - (intOf i).toNat)
 case atStart => exact ⟨0, Nat.zero_le _, rfl, HO, HB1⟩
 case round =>
  clear HO HB1
  obtain ⟨j, hj, rfl, hO, hB⟩ := hrel
  by_cases hjl : j < g.length
  ·
   obtain ⟨ad, A1, c1, rfl, hc0, _⟩ := at_Tk (Kd.C_below HR.out hB) j hjl
   have hjs : j < st.length := by rw [HL.out]; exact hjl
   obtain ⟨ads, rfl, cs⟩ := at_num (Kd.C_below HR'.out hB) j hjs
   have hjj : decide ((j : Int) < (g.length : Int)) = true := decide_eq_true (by omega)
   have hji : (j : Int) < (g.length : Int) := by omega
   have hjsi : (j : Int) < (st.length : Int) := by omega
   have HFS : Hid ((List.range (j + 1)).filter (runB g st now) = if runB g st now j then (List.range j).filter (runB g st now) ++ [j] else (List.range j).filter (runB g st now)) := Lib.hid (filter_snoc j)
   have hfl := filter_range_le (runB g st now) j
   have HBD : Hid (runB g st now j = (decide (st.getD j 0 ≤ now) && decide (now < st.getD j 0 + (rdTk g j).f0))) := Lib.hid rfl
   generalize (List.range j).filter (runB g st now) = fl at hO HFS hfl
   have hsj := HS.out j
   have htj := HG.out.2.1 j
   generalize st.getD j 0 = s at cs hsj HBD
   generalize (rdTk g j).f0 = tm at hc0 htj HBD
   have hwr : IntKind.i64.wrap (s + tm) = s + tm := IntWalk.i64_in _ (by omega)
   have HOB := Lib.hid (And.intro hO hB)
   clear hO hB
   by_cases h1 : s ≤ now
   ·
    have d1 : decide (s ≤ now) = true := decide_eq_true h1
    by_cases h2 : now < s + tm
    ·
     have d2 : decide (now < s + tm) = true := decide_eq_true h2
     rw [d1, d2] at HBD
     clear h1 h2
     go_wp2
     go_quiet (fail)
     clear hwr
     have hO2 := Kd.R_drewN HOB.out.1 nq
     have hB2 := pw_below_drewN HOB.out.2 nq
     go_wp2_with (at_builtin; refine ap_int (w0 := w) w.heap.size rfl _ _ rfl u7 (ints fl) (j : Int) rfl rfl rfl hO2 hB2 hB2.size (by rw [ints_length]; omega) ?_; intro v1 w2 hO3 hB3 hg3 hat3; clear hg3 hat3)
     go_roundw
     case rel => exact ⟨j + 1, by omega, by go_num, by rw [HFS.out, HBD.out]; simpa [ints] using hO3, hB3⟩
     case measure => simp [intOf]; omega
    ·
     have d2 : decide (now < s + tm) = false := decide_eq_false h2
     rw [d1, d2] at HBD
     clear h1 h2
     go_wp2
     go_quiet (fail)
     clear hwr
     go_wp2
     go_roundw
     case rel => exact ⟨j + 1, by omega, by go_num, by rw [HFS.out, HBD.out]; exact Kd.R_drewN HOB.out.1 _, pw_below_drewN HOB.out.2 _⟩
     case measure => simp [intOf]; omega
   ·
    have d1 : decide (s ≤ now) = false := decide_eq_false h1
    rw [d1] at HBD
    clear h1
    go_wp2
    go_quiet (fail)
    clear hwr
    go_wp2
    go_roundw
    case rel => exact ⟨j + 1, by omega, by go_num, by rw [HFS.out, HBD.out]; exact Kd.R_drewN HOB.out.1 _, pw_below_drewN HOB.out.2 _⟩
    case measure => simp [intOf]; omega
  ·
   obtain rfl : j = g.length := by omega
   have hjj : decide ((g.length : Int) < (g.length : Int)) = false := decide_eq_false (by omega)
   go_wp2
   go_ret
   exact ⟨_, rfl, hO, hB⟩
def endS (g : List Tk) (st : List Int) : Nat → Int
 | 0 => 0
 | k + 1 => max (endS g st k) (st.getD k 0 + (rdTk g k).f0)
theorem endS_bound {g : List Tk} {st : List Int} (hg : TOk g) (hs : SOk st) : ∀ k, 0 ≤ endS g st k ∧ endS g st k ≤ 1020
 | 0 => by simp [endS]
 | k + 1 => by
  have ih := endS_bound hg hs k
  have h1 := hg.2.1 k
  have h2 := hs k
  unfold endS
  omega
set_option maxRecDepth 1000000 in
set_option maxHeartbeats 4000000 in
theorem endOf_calls (A : Option Addr) (c : Nat) (g : List Tk) (A' : Option Addr) (c' : Nat) (st : List Int) (hg : TOk g) (hs : SOk st) (hl : st.length = g.length) (w : World) (hr : kTk.C w A g.length g) (hr' : (Kd.int .i64).C w A' st.length st) :
  Calls Tryd.prog 51 #[.slice A g.length c, .slice A' st.length c'] w fun e w' => e = .returned (.int .i64 (endS g st g.length)) ∧ Below w.heap.size w w' := by
 have HR := Lib.hid hr
 have HR' := Lib.hid hr'
 have HG := Lib.hid hg
 have HS := Lib.hid hs
 have HL := Lib.hid hl
 have h8 := hg.1
 clear hr hr' hg hs hl
 go_enter Tryd.func51, Tryd.ntmps51
 go_wp2
 go_loopw [5, 6] (fun n i wr => ∃ j, j ≤ g.length ∧ i = .int .i64 (j : Nat) ∧ n = .int .i64 (endS g st j) ∧ Below w.heap.size w wr) (fun _ i _ => g.length - (intOf i).toNat)
 case atStart => exact ⟨0, Nat.zero_le _, rfl, rfl, Below.refl _ _⟩
 case round =>
  obtain ⟨j, hj, rfl, rfl, hB⟩ := hrel
  by_cases hjl : j < g.length
  ·
   obtain ⟨ad, A1, c1, rfl, hc0, _⟩ := at_Tk (Kd.C_below HR.out hB) j hjl
   have hjs : j < st.length := by rw [HL.out]; exact hjl
   obtain ⟨ads, rfl, cs⟩ := at_num (Kd.C_below HR'.out hB) j hjs
   have hjj : decide ((j : Int) < (g.length : Int)) = true := decide_eq_true (by omega)
   have hji : (j : Int) < (g.length : Int) := by omega
   have hjsi : (j : Int) < (st.length : Int) := by omega
   have HE : Hid (endS g st (j + 1) = max (endS g st j) (st.getD j 0 + (rdTk g j).f0)) := Lib.hid rfl
   have hsj := HS.out j
   have htj := HG.out.2.1 j
   have heb := endS_bound HG.out HS.out j
   generalize st.getD j 0 = s at cs hsj HE
   generalize (rdTk g j).f0 = tm at hc0 htj HE
   generalize endS g st j = en at heb HE
   have hwr : IntKind.i64.wrap (s + tm) = s + tm := IntWalk.i64_in _ (by omega)
   have HB := Lib.hid hB
   clear hB
   go_wp2
   go_quiet (fail)
   clear hwr
   go_wp2
   all_goals
    go_roundw
    case rel => exact ⟨j + 1, by omega, by go_num, by rw [HE.out]; congr 1; first | omega | (split <;> omega), pw_below_drewN HB.out _⟩
    case measure => simp [intOf]; omega
  ·
   obtain rfl : j = g.length := by omega
   have hjj : decide ((g.length : Int) < (g.length : Int)) = false := decide_eq_false (by omega)
   go_wp2
   go_ret
   exact ⟨rfl, hB⟩
def roomB (room : List Int) : Bool := decide (room.length = 3) && allInB room 4 8
theorem validRoom_calls (A : Option Addr) (c : Nat) (room : List Int) (w : World) (hr : (Kd.int .i64).C w A room.length room) :
  Calls Tryd.prog 49 #[.slice A room.length c] w fun e w' => e = .returned (.bool (roomB room)) ∧ w' = w := by
 have HR := Lib.hid hr
 have hl := (C_len hr).2
 clear hr
 by_cases h3 : room.length = 3
 ·
  have d3 : ((room.length : Int) == 3) = true := by rw [beq_iff_eq]; omega
  cases hi : allInB room 4 8
  ·
   have HI := Lib.hid hi
   have HF : Hid (roomB room = false) := Lib.hid (by unfold roomB; rw [hi, Bool.and_false])
   clear hi h3
   go_enter Tryd.func49, Tryd.ntmps49
   go_wp2_with (go_at_call 82; refine (allIn_is _ _ _ _ _ _ HI _ HR.out).mono ?_; rintro e w2 ⟨rfl, rfl⟩)
   go_ret
   exact ⟨ret_bool HF.out.symm, rfl⟩
  ·
   have HI := Lib.hid hi
   have HF : Hid (roomB room = true) := Lib.hid (by unfold roomB; rw [hi, decide_eq_true h3]; rfl)
   clear hi h3
   go_enter Tryd.func49, Tryd.ntmps49
   go_wp2_with (go_at_call 82; refine (allIn_is _ _ _ _ _ _ HI _ HR.out).mono ?_; rintro e w2 ⟨rfl, rfl⟩)
   go_ret
   exact ⟨ret_bool HF.out.symm, rfl⟩
 ·
  have d3 : ((room.length : Int) == 3) = false := by rw [beq_eq_false_iff_ne]; omega
  have HF : Hid (roomB room = false) := Lib.hid (by unfold roomB; rw [decide_eq_false h3]; rfl)
  clear h3
  go_enter Tryd.func49, Tryd.ntmps49
  go_wp2
  go_ret
  exact ⟨ret_bool HF.out.symm, rfl⟩
theorem validRoom_is (b : Bool) (A : Option Addr) (c : Nat) (room : List Int) (h : Hid (roomB room = b)) (w : World) (hr : (Kd.int .i64).C w A room.length room) :
  Calls Tryd.prog 49 #[.slice A room.length c] w fun e w' => e = .returned (.bool b) ∧ w' = w :=
 (validRoom_calls A c room w hr).mono fun e w' ⟨he, hw⟩ => ⟨by rw [he, h.out], hw⟩
end Go.Proofs.YtdjdfbfcjajlkaaDoor
