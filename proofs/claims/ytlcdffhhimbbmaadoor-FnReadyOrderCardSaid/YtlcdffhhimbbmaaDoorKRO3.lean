/- Parts of the proof, laid as one text by a program of mine. -/
import Derived.Test.YtlcdffhhimbbmaaDoorKRO2
import Derived.StillTailTactics
import Derived.OrdersIn
namespace Go.Proofs.YtlcdffhhimbbmaaDoor
set_option linter.unusedVariables false
set_option linter.unusedSimpArgs false
open Go.RowKit Go.Shelf Bits
open Go.Proofs.YtlcdffhhimbbmaaDoorW.PrintWords Go.Proofs.YtlcdffhhimbbmaaDoorW.PrintLast Go.Proofs.YtlcdffhhimbbmaaDoorW.PrintMore
def specReady (g : List Tk) (out : List Nat) (i : Nat) : Bool := !decide ((i : Int) ∈ ints out) && allDoneB (rdTk g i).f1 (ints out)
def topFirst (g : List Tk) (out : List Nat) : Option Nat := (List.range g.length).find? (specReady g out)
def topStep (g : List Tk) (out : List Nat) : List Nat := match topFirst g out with
 | some i => out ++ [i]
 | none => out
def topN (g : List Tk) : Nat → List Nat
 | 0 => []
 | k + 1 => topStep g (topN g k)
theorem topFirst_some {g : List Tk} {out : List Nat} {k : Nat} (h : k < g.length) (hp : specReady g out k = true) (hlow : ∀ j, j < k → specReady g out j = false) : topFirst g out = some k := find_range h hp hlow
theorem topFirst_none {g : List Tk} {out : List Nat} (hlow : ∀ j, j < g.length → specReady g out j = false) : topFirst g out = none := by
 unfold topFirst
 rw [List.find?_eq_none]
 intro j hj
 rw [hlow j (List.mem_range.1 hj)]; simp
theorem mem_ints {i : Nat} {l : List Nat} : ((i : Int) ∈ ints l) ↔ i ∈ l := by
 simp only [ints, List.mem_map]
 constructor
 ·
  rintro ⟨j, hj, e⟩
  have : j = i := Int.ofNat.inj e
  exact this ▸ hj
 ·
  exact fun h => ⟨i, h, rfl⟩
theorem topFirst_spec {g : List Tk} {out : List Nat} {k : Nat} (h : topFirst g out = some k) : k < g.length ∧ ¬ k ∈ out ∧ specReady g out k = true := by
 unfold topFirst at h
 have h2 := List.find?_some h
 refine ⟨List.mem_range.1 (List.mem_of_find?_eq_some h), fun hm => ?_, h2⟩
 unfold specReady at h2
 rw [decide_eq_true (mem_ints.2 hm)] at h2
 simp at h2
theorem topN_facts (g : List Tk) : ∀ k, (topN g k).Nodup ∧ (∀ i ∈ topN g k, i < g.length) ∧ (topN g k).length ≤ k
 | 0 => ⟨List.nodup_nil, by intro i h; simp [topN] at h, Nat.le_refl _⟩
 | k + 1 => by
  obtain ⟨h1, h2, h3⟩ := topN_facts g k
  show (topStep g (topN g k)).Nodup ∧ (∀ i ∈ topStep g (topN g k), _) ∧ (topStep g (topN g k)).length ≤ _
  unfold topStep
  cases hf : topFirst g (topN g k) with
  | none => exact ⟨h1, h2, Nat.le_succ_of_le h3⟩
  | some i =>
   obtain ⟨hi, hn, _⟩ := topFirst_spec hf
   refine ⟨?_, fun j hj => ?_, by simp; omega⟩
   ·
    rw [List.nodup_append]
    exact ⟨h1, List.nodup_cons.2 ⟨by simp, List.nodup_nil⟩, fun a ha b hb => by rw [List.mem_singleton.1 hb]; exact fun e => hn (e ▸ ha)⟩
   ·
    rcases List.mem_append.1 hj with hj | hj
    ·
     exact h2 j hj
    ·
     rw [List.mem_singleton.1 hj]; exact hi
def lenOf : Value → Nat
 | .slice _ n _ => n
 | _ => 0
theorem nodup_below : ∀ {n : Nat} {l : List Nat}, l.Nodup → (∀ i ∈ l, i < n) → l.length ≤ n
 | 0, l, _, hb => by
  cases l with
  | nil => exact Nat.le_refl _
  | cons x r => exact absurd (hb x (List.mem_cons_self ..)) (Nat.not_lt_zero _)
 | n + 1, l, h, hb => by
  by_cases hm : n ∈ l
  ·
   have h1 := List.length_erase_of_mem hm
   have h2 : (l.erase n).length ≤ n := nodup_below (h.erase n) fun i hi => by
    have := (h.mem_erase_iff).1 hi
    have := hb i this.2
    omega
   omega
  ·
   have : l.length ≤ n := nodup_below h fun i hi => by
    have := hb i hi
    have : i ≠ n := fun e => hm (e ▸ hi)
    omega
   omega
theorem topN_le (g : List Tk) (k : Nat) : (topN g k).length ≤ g.length := nodup_below (topN_facts g k).1 (topN_facts g k).2.1
theorem topN_stop {g : List Tk} {k : Nat} (h : topFirst g (topN g k) = none) : ∀ j, topN g (k + j) = topN g k
 | 0 => rfl
 | j + 1 => by
  show topStep g (topN g (k + j)) = _
  rw [topN_stop h j]
  unfold topStep
  rw [h]
def topL (g : List Tk) : List Nat := topN g g.length
set_option maxRecDepth 100000 in
set_option maxHeartbeats 4000000 in
theorem topOrder_calls (A : Option Addr) (c : Nat) (g : List Tk) (hlen : g.length ≤ 8) (w : World) (hr : kTk.C w A g.length g) :
  Calls Tryd.prog 83 #[.slice A g.length c] w fun e w' => ∃ v, e = .returned v ∧ Kd.R (Kd.int .i64) 3 w' w.heap.size (fun _ => True) v (ints (topL g)) ∧ Below w.heap.size w w' := by
 have HR := Lib.hid hr
 clear hr
 go_enter Tryd.func83, Tryd.ntmps83
 go_wp2
 have HB1 : Below w.heap.size w (w.alloc (.cells #[] 3)) := (Below.refl _ _).alloc (Nat.le_refl _) _
 have HO : Kd.R (Kd.int .i64) 3 (w.alloc (.cells #[] 3)) w.heap.size (fun _ => True) (.slice (some ⟨w.heap.size, 0, none⟩) 0 0) (ints []) := Kd.R_of_own (World.ownsRow_lit (base := w.heap.size) (size := 1) w #[] 0 (Nat.le_refl _) (by simp [maxLen]) rfl) (fun _ _ => trivial)
 go_loopw [3] (fun out wr => ∃ (l : List Nat), Hid (topN g l.length = l) ∧ Kd.R (Kd.int .i64) 3 wr w.heap.size (fun _ => True) out (ints l) ∧ Below w.heap.size w wr) (fun out _ => g.length + 1 - lenOf out)
 case atStart => exact ⟨[], Lib.hid rfl, HO, HB1⟩
 case round =>
  clear HO HB1
  obtain ⟨l, HS, HO, HB⟩ := hrel
  have hll : l.length ≤ g.length := by have := topN_le g l.length; rw [HS.out] at this; exact this
  obtain ⟨Al, cl, rfl, hcl, hCl⟩ := Kd.R_reads HO
  have HC := Lib.hid hCl
  clear hCl
  go_wp2
  obtain ⟨wo, rfl⟩ : ∃ wo : World, wo = wr := ⟨_, rfl⟩
  go_loopw [4, 5] (fun nx i wi => ∃ (j : Nat), j ≤ g.length ∧ i = .int .i64 j ∧ ((nx = .int .i64 (-1) ∧ Hid (∀ q, q < j → specReady g l q = false)) ∨ ∃ q : Nat, q < j ∧ nx = .int .i64 q ∧ Hid (topFirst g l = some q)) ∧ wi = wo) (fun nx i _ => g.length - (intOf i).toNat)
  case atStart => exact ⟨0, Nat.zero_le _, rfl, .inl ⟨rfl, Lib.hid fun q h => absurd h (Nat.not_lt_zero _)⟩, rfl⟩
  case round =>
   obtain ⟨j, hj, rfl, hnx, rfl⟩ := hrel
   rcases hnx with ⟨rfl, HL⟩ | ⟨q, hq, rfl, HF⟩
   ·
    by_cases hjl : j < g.length
    ·
     obtain ⟨ad, A1, c1, rfl, hc0, hc1, hc2, hc3, hl1, hC1⟩ := at_Tk (Kd.C_below HR.out HB) j hjl
     have hjj : decide ((j : Int) < (g.length : Int)) = true := decide_eq_true (by omega)
     cases hm : decide ((j : Int) ∈ ints l)
     ·
      have HM := Lib.hid hm
      cases hd : allDoneB (rdTk g j).f1 (ints l)
      ·
       have HD := Lib.hid hd
       have HN := step_lt HL (show specReady g l j = false by unfold specReady; rw [hm, hd]; rfl)
       clear hm hd
       generalize rdTk g j = t at *
       go_wp2_with (first | (go_at_call 68; with_reducible refine (isIn_is _ _ _ _ _ HM _ HC.out).mono ?_; rintro e w' ⟨rfl, rfl⟩) | (go_at_call 65; refine (allDone_is _ _ _ _ _ _ _ HD _ hC1 HC.out).mono ?_; rintro e w' ⟨rfl, rfl⟩))
       go_roundw
       case rel => exact ⟨j + 1, by omega, by go_num, .inl ⟨rfl, HN⟩, trivial⟩
       case measure => simp [intOf]; omega
      ·
       have HD := Lib.hid hd
       have HF := Lib.hid (topFirst_some hjl (show specReady g l j = true by unfold specReady; rw [hm, hd]; rfl) HL.out)
       clear hm hd
       generalize rdTk g j = t at *
       go_wp2_with (first | (go_at_call 68; with_reducible refine (isIn_is _ _ _ _ _ HM _ HC.out).mono ?_; rintro e w' ⟨rfl, rfl⟩) | (go_at_call 65; refine (allDone_is _ _ _ _ _ _ _ HD _ hC1 HC.out).mono ?_; rintro e w' ⟨rfl, rfl⟩))
       go_roundw
       case rel => exact ⟨j + 1, by omega, by go_num, .inr ⟨j, by omega, rfl, HF⟩, trivial⟩
       case measure => simp [intOf]; omega
     ·
      have HM := Lib.hid hm
      have HN := step_lt HL (show specReady g l j = false by unfold specReady; rw [hm]; rfl)
      clear hm
      generalize rdTk g j = t at *
      go_wp2_with (go_at_call 68; with_reducible refine (isIn_is _ _ _ _ _ HM _ HC.out).mono ?_; rintro e w' ⟨rfl, rfl⟩)
      go_roundw
      case rel => exact ⟨j + 1, by omega, by go_num, .inl ⟨rfl, HN⟩, trivial⟩
      case measure => simp [intOf]; omega
    ·
     have hjj : decide ((j : Int) < (g.length : Int)) = false := decide_eq_false (by omega)
     have hn : topFirst g l = none := topFirst_none fun q hq => HL.out q (by omega)
     have HT : Hid (topL g = l) := Lib.hid (by
      have h1 : topFirst g (topN g l.length) = none := by rw [HS.out]; exact hn
      have h2 := topN_stop h1 (g.length - l.length)
      rw [show l.length + (g.length - l.length) = g.length from by omega, HS.out] at h2
      exact h2)
     clear hn
     go_wp2
     go_ret
     exact ⟨_, rfl, by rw [HT.out]; exact HO, HB⟩
   ·
    have hqg : q < g.length := by omega
    have hgt : decide ((q : Int) < 0) = false := decide_eq_false (by omega)
    have HS2 : Hid (topN g (l ++ [q]).length = l ++ [q]) := Lib.hid (by
     rw [List.length_append]
     show topStep g (topN g l.length) = _
     rw [HS.out]
     unfold topStep
     rw [HF.out])
    have hl2 : (l ++ [q]).length ≤ g.length := by have := topN_le g (l ++ [q]).length; rw [HS2.out] at this; exact this
    simp at hl2
    by_cases hjl : j < g.length
    ·
     have hjj : decide ((j : Int) < (g.length : Int)) = true := decide_eq_true (by omega)
     go_wp2_with (at_builtin; refine ap_int (w0 := w) w.heap.size rfl _ _ rfl (.slice Al (ints l).length cl) (ints l) (q : Int) rfl rfl rfl HO HB HB.size (by rw [ints_length]; omega) ?_; intro v1 w2 hO2 hB2 _ _)
     obtain ⟨A', c', rfl, _, _⟩ := Kd.R_reads hO2
     refine ⟨⟨l ++ [q], HS2, by simpa [ints] using hO2, hB2⟩, ?_⟩
     simp only [lenOf, List.length_append, ints_length, List.length_singleton]
     omega
    ·
     have hjj : decide ((j : Int) < (g.length : Int)) = false := decide_eq_false (by omega)
     go_wp2_with (at_builtin; refine ap_int (w0 := w) w.heap.size rfl _ _ rfl (.slice Al (ints l).length cl) (ints l) (q : Int) rfl rfl rfl HO HB HB.size (by rw [ints_length]; omega) ?_; intro v1 w2 hO2 hB2 _ _)
     obtain ⟨A', c', rfl, _, _⟩ := Kd.R_reads hO2
     refine ⟨⟨l ++ [q], HS2, by simpa [ints] using hO2, hB2⟩, ?_⟩
     simp only [lenOf, List.length_append, ints_length, List.length_singleton]
     omega
def specValid (g : List Tk) : Bool := tasksFineB g && decide ((topL g).length = g.length)
set_option maxHeartbeats 2000000 in
theorem validGraph_calls (A : Option Addr) (c : Nat) (g : List Tk) (w : World) (hr : kTk.C w A g.length g) :
  Calls Tryd.prog 53 #[.slice A g.length c] w fun e w' => e = .returned (.bool (specValid g)) ∧ Below w.heap.size w w' := by
 have hl := (C_len hr).2
 have HR := Lib.hid hr
 clear hr
 cases hf : tasksFineB g
 ·
  have HF := Lib.hid hf
  clear hf
  go_enter Tryd.func53, Tryd.ntmps53
  go_wp2_with (go_at_call 82; refine (tasksFine_is _ _ _ _ HF _ HR.out).mono ?_; rintro e w1 ⟨rfl, hB1⟩)
  go_ret
  exact ⟨ret_bool (by rw [specValid, HF.out]; rfl), hB1⟩
 ·
  have HF := Lib.hid hf
  have hlen : g.length ≤ 8 := by
   unfold tasksFineB at hf
   simp at hf
   exact hf.2
  clear hf
  go_enter Tryd.func53, Tryd.ntmps53
  go_wp2_with (first | (go_at_call 82; refine (tasksFine_is _ _ _ _ HF _ HR.out).mono ?_; rintro e w1 ⟨rfl, hB1⟩) | (go_at_call 83; refine (topOrder_calls _ _ _ hlen _ (Kd.C_below HR.out hB1)).mono ?_; rintro e w2 ⟨v2, rfl, hR2, hB2⟩; obtain ⟨A2, c2, rfl, hl2, hC2⟩ := Kd.R_reads hR2; rw [ints_length]))
  go_ret
  refine ⟨ret_bool ?_, below_step hB1 hB2⟩
  rw [specValid, HF.out, Bool.true_and]
  rw [Bool.eq_iff_iff, beq_iff_eq, decide_eq_true_iff]
  omega
theorem validGraph_is (b : Bool) (A : Option Addr) (c : Nat) (g : List Tk) (h : Hid (specValid g = b)) (w : World) (hr : kTk.C w A g.length g) :
  Calls Tryd.prog 53 #[.slice A g.length c] w fun e w' => e = .returned (.bool b) ∧ Below w.heap.size w w' :=
 (validGraph_calls A c g w hr).mono fun e w' ⟨he, hw⟩ => ⟨by rw [he, h.out], hw⟩
end Go.Proofs.YtlcdffhhimbbmaaDoor

namespace Go.Proofs.YtlcdffhhimbbmaaDoor
set_option linter.unusedVariables false
set_option linter.unusedSimpArgs false
open Go.RowKit Go.Shelf Bits
open Go.Proofs.YtlcdffhhimbbmaaDoorW.PrintWords Go.Proofs.YtlcdffhhimbbmaaDoorW.PrintLast Go.Proofs.YtlcdffhhimbbmaaDoorW.PrintMore
def setRet (o : Option Nat) : Ending := .returned (.tuple #[.int .u16 ((o.getD 0 : Nat) : Int), .bool o.isSome])
set_option maxHeartbeats 1000000 in
theorem setOf_calls (A : Option Addr) (c : Nat) (l : List Int) (n : Nat) (hn : n ≤ 15) (w : World) (hr : (Kd.int .i64).C w A l.length l) :
  Calls Tryd.prog 57 #[.slice A l.length c, .int .i64 n] w fun e w' => e = setRet (setOfN l n) ∧ w' = w := by
 have hl := (C_len hr).2
 have HR := Lib.hid hr
 clear hr
 go_enter Tryd.func57, Tryd.ntmps57
 go_wp2
 go_loop [6, 7, 12] (fun s last i => ∃ (k : Nat) (a : Nat) (b : Int), k ≤ l.length ∧ i = .int .i64 k ∧ last = .int .i64 b ∧ s = .int .u16 a ∧ a < 65536 ∧ -1 ≤ b ∧ b ≤ 15 ∧ Hid (setOfN l n = setOfL n (l.drop k) b a)) (fun _ _ i => l.length - (intOf i).toNat)
 case atStart => exact ⟨0, 0, -1, Nat.zero_le _, rfl, rfl, rfl, by omega, by omega, by omega, rfl⟩
 case round =>
  obtain ⟨k, a, b, hk, rfl, rfl, rfl, ha, hb0, hb1, HS⟩ := hrel
  by_cases hlt : k < l.length
  ·
   obtain ⟨ad, rfl, hc⟩ := at_num HR.out k hlt
   have hd : l.drop k = l.getD k 0 :: l.drop (k + 1) := by
    rw [List.drop_eq_getElem_cons hlt]; simp [List.getD_eq_getElem?_getD, hlt]
   rw [hd, setOfL_cons] at HS
   clear hd
   generalize l.getD k 0 = x at *
   by_cases hin : b + 1 ≤ x ∧ x ≤ n - 1
   ·
    rw [if_pos hin] at HS
    obtain ⟨m, rfl⟩ := Int.eq_ofNat_of_zero_le (by omega : 0 ≤ x)
    rw [Int.toNat_natCast] at HS
    have hm : m < 16 := by omega
    have hor := or_lt a (2 ^ m) ha (pow_u16 m hm).2
    have HI := Lib.hid (inB_true.2 hin)
    obtain ⟨hin1, hin2⟩ := hin
    go_wp2_with (first | (go_at_call 81; refine (within_calls _ _ _ _).mono ?_; rintro e w' ⟨rfl, rfl⟩; rw [HI.out]) | (go_at_call 45; refine (with_calls a m ha hm _).mono ?_; rintro e w' ⟨rfl, rfl⟩))
    go_round
    case rel => exact ⟨k + 1, _, m, by omega, by go_num, rfl, rfl, hor, by omega, by omega, HS⟩
    case measure => simp [intOf]; omega
   ·
    rw [if_neg hin] at HS
    have HI := Lib.hid (inB_false.2 (show x < b + 1 ∨ (n : Int) - 1 < x by omega))
    clear hin
    go_wp2_with (go_at_call 81; refine (within_calls _ _ _ _).mono ?_; rintro e w' ⟨rfl, rfl⟩; rw [HI.out])
    go_ret2
    exact ⟨by rw [HS.out]; rfl, rfl⟩
  ·
   have hke : l.drop k = [] := List.drop_eq_nil_of_le (by omega)
   rw [hke] at HS
   clear hke
   go_wp2
   go_ret2
   exact ⟨by rw [HS.out]; rfl, rfl⟩
theorem setOf_some (A : Option Addr) (c : Nat) (l : List Int) (n s : Nat) (h : Hid (setOfN l n = some s)) (hn : n ≤ 15) (w : World) (hr : (Kd.int .i64).C w A l.length l) :
  Calls Tryd.prog 57 #[.slice A l.length c, .int .i64 n] w fun e w' => e = .returned (.tuple #[.int .u16 s, .bool true]) ∧ w' = w :=
 (setOf_calls A c l n hn w hr).mono fun e w' ⟨he, hw⟩ => ⟨by rw [he, h.out]; rfl, hw⟩
theorem setOf_none (A : Option Addr) (c : Nat) (l : List Int) (n : Nat) (h : Hid (setOfN l n = none)) (hn : n ≤ 15) (w : World) (hr : (Kd.int .i64).C w A l.length l) :
  Calls Tryd.prog 57 #[.slice A l.length c, .int .i64 n] w fun e w' => e = .returned (.tuple #[.int .u16 0, .bool false]) ∧ w' = w :=
 (setOf_calls A c l n hn w hr).mono fun e w' ⟨he, hw⟩ => ⟨by rw [he, h.out]; rfl, hw⟩
end Go.Proofs.YtlcdffhhimbbmaaDoor

namespace Go.Proofs.YtlcdffhhimbbmaaDoor
set_option linter.unusedVariables false
set_option linter.unusedSimpArgs false
open Go.RowKit Go.Shelf Bits
open Go.Proofs.YtlcdffhhimbbmaaDoorW.PrintWords Go.Proofs.YtlcdffhhimbbmaaDoorW.PrintLast Go.Proofs.YtlcdffhhimbbmaaDoorW.PrintMore
def NeedsPost (g : List Tk) (w : World) (e : Ending) (w' : World) : Prop :=
 ∃ v, e = .returned (.tuple #[v, .bool (needsN g).isSome]) ∧ (∀ ns, needsN g = some ns → Kd.R (Kd.int .u16) 52 w' w.heap.size (fun _ => True) v (ints ns)) ∧ Below w.heap.size w w'
set_option maxRecDepth 100000 in
set_option maxHeartbeats 2000000 in
theorem needsOf_calls (A : Option Addr) (c : Nat) (g : List Tk) (w : World) (hr : kTk.C w A g.length g) :
  Calls Tryd.prog 69 #[.slice A g.length c] w (NeedsPost g w) := by
 have HR := Lib.hid hr
 obtain ⟨i0, hi, hz0, hz1, hz2⟩ := info_parts infoSet
 clear hr
 by_cases hlen : g.length ≤ 8
 ·
  have HN : Hid (needsN g = needsL g.length g) := Lib.hid (by rw [needsN, if_neg (by omega)])
  go_enter Tryd.func69, Tryd.ntmps69
  go_wp2_with (at_make; refine wpList_make_own _ rfl _ _ 87 rfl w.heap.size 52 i0 (.int .u16 0) 1 Tryd.underlying87 hi hz0 hz1 .i64 .i64 _ g.length rfl rfl rfl (by rw [hz2]; omega) (by simp only [maxLen]; omega) (Nat.le_refl _) ?_; intro w1 hown hg1)
  have HB1 : Below w.heap.size w w1 := (Below.refl _ _).grown hg1 (Nat.le_refl _) (fun k e => by cases e)
  have HO : Kd.R (Kd.int .u16) 52 w1 w.heap.size (fun _ => True) (.slice (some ⟨w.heap.size, 0, none⟩) 0 g.length) (ints []) := Kd.R_of_own hown (fun _ _ => trivial)
  clear hown hg1
  go_loopw [4, 17] (fun out i wr => ∃ (k : Nat) (acc : List Nat), k ≤ g.length ∧ i = .int .i64 k ∧ acc.length = k ∧ Hid (needsN g = (needsL g.length (g.drop k)).map (acc ++ ·)) ∧ Kd.R (Kd.int .u16) 52 wr w.heap.size (fun _ => True) out (ints acc) ∧ Below w.heap.size w wr) (fun _ i _ => g.length - (intOf i).toNat)
  case atStart => exact ⟨0, [], Nat.zero_le _, rfl, rfl, Lib.hid (by rw [HN.out]; simp), HO, HB1⟩
  case round =>
   clear HO HB1 HN
   obtain ⟨k, acc, hk, rfl, hacc, HS, HO, HB⟩ := hrel
   have HA := Lib.hid hacc
   clear hacc
   by_cases hlt : k < g.length
   ·
    obtain ⟨ad, A1, c1, rfl, hc0, hc1, hc2, hc3, hl1, hC1⟩ := at_Tk (Kd.C_below HR.out HB) k hlt
    rw [drop_cons hlt] at HS
    generalize rdTk g k = t at *
    have hlt2 : k < 9 := by omega
    rcases hso : setOfN t.f1 g.length with _ | s
    ·
     have HF := Lib.hid hso
     clear hso
     go_wp2_with (go_at_call 57; refine (setOf_none _ _ _ _ HF (by omega) _ (Kd.C_below hC1 ((Below.refl _ _).alloc (Nat.le_refl _) _))).mono ?_; rintro e w' ⟨rfl, rfl⟩)
     go_ret2
     have hnone : needsN g = none := by rw [HS.out, needsL_bad (.inl HF.out)]; rfl
     refine ⟨_, by rw [hnone]; rfl, fun ns h => ?_, HB.alloc HB.size _⟩
     rw [hnone] at h; cases h
    ·
     have HF := Lib.hid hso
     clear hso
     cases b0 : inB t.f0 1 20
     ·
      have H0 := Lib.hid b0
      clear b0
      go_wp2_with (first | (go_at_call 57; refine (setOf_some _ _ _ _ _ HF (by omega) _ (Kd.C_below hC1 ((Below.refl _ _).alloc (Nat.le_refl _) _))).mono ?_; rintro e w' ⟨rfl, rfl⟩) | (go_at_call 81; with_reducible refine (within_is _ _ _ _ H0 _).mono ?_; rintro e w' ⟨rfl, rfl⟩))
      go_ret2
      have hnone : needsN g = none := by rw [HS.out, needsL_bad (.inr (taskOk_false (.inl H0.out)))]; rfl
      refine ⟨_, by rw [hnone]; rfl, fun ns h => ?_, HB.alloc HB.size _⟩
      rw [hnone] at h; cases h
     ·
      have H0 := Lib.hid b0
      clear b0
      cases b1 : inB t.f2 0 2
      ·
       have H1 := Lib.hid b1
       clear b1
       go_wp2_with (first | (go_at_call 57; refine (setOf_some _ _ _ _ _ HF (by omega) _ (Kd.C_below hC1 ((Below.refl _ _).alloc (Nat.le_refl _) _))).mono ?_; rintro e w' ⟨rfl, rfl⟩) | (go_at_call 81; with_reducible refine (within_is _ _ _ _ H0 _).mono ?_; rintro e w' ⟨rfl, rfl⟩) | (go_at_call 81; with_reducible refine (within_is _ _ _ _ H1 _).mono ?_; rintro e w' ⟨rfl, rfl⟩))
       go_ret2
       have hnone : needsN g = none := by rw [HS.out, needsL_bad (.inr (taskOk_false (.inr (.inl H1.out))))]; rfl
       refine ⟨_, by rw [hnone]; rfl, fun ns h => ?_, HB.alloc HB.size _⟩
       rw [hnone] at h; cases h
      ·
       have H1 := Lib.hid b1
       clear b1
       cases b2 : inB t.f3 1 4
       ·
        have H2 := Lib.hid b2
        clear b2
        go_wp2_with (first | (go_at_call 57; refine (setOf_some _ _ _ _ _ HF (by omega) _ (Kd.C_below hC1 ((Below.refl _ _).alloc (Nat.le_refl _) _))).mono ?_; rintro e w' ⟨rfl, rfl⟩) | (go_at_call 81; with_reducible refine (within_is _ _ _ _ H0 _).mono ?_; rintro e w' ⟨rfl, rfl⟩) | (go_at_call 81; with_reducible refine (within_is _ _ _ _ H1 _).mono ?_; rintro e w' ⟨rfl, rfl⟩) | (go_at_call 81; with_reducible refine (within_is _ _ _ _ H2 _).mono ?_; rintro e w' ⟨rfl, rfl⟩))
        go_ret2
        have hnone : needsN g = none := by rw [HS.out, needsL_bad (.inr (taskOk_false (.inr (.inr H2.out))))]; rfl
        refine ⟨_, by rw [hnone]; rfl, fun ns h => ?_, HB.alloc HB.size _⟩
        rw [hnone] at h; cases h
       ·
        have H2 := Lib.hid b2
        clear b2
        have hal : acc.length < 1000000 := by rw [HA.out]; omega
        go_wp2_with (first | (go_at_call 57; refine (setOf_some _ _ _ _ _ HF (by omega) _ (Kd.C_below hC1 ((Below.refl _ _).alloc (Nat.le_refl _) _))).mono ?_; rintro e w' ⟨rfl, rfl⟩) | (go_at_call 81; with_reducible refine (within_is _ _ _ _ H0 _).mono ?_; rintro e w' ⟨rfl, rfl⟩) | (go_at_call 81; with_reducible refine (within_is _ _ _ _ H1 _).mono ?_; rintro e w' ⟨rfl, rfl⟩) | (go_at_call 81; with_reducible refine (within_is _ _ _ _ H2 _).mono ?_; rintro e w' ⟨rfl, rfl⟩) | (at_builtin; refine ap_set (w0 := w) w.heap.size rfl _ _ rfl _ acc s rfl rfl (by simp) (Kd.R_alloc HO _) (HB.alloc HB.size _) (by have := HB.size; simp; omega) hal ?_; intro v1 w2 hO2 hB2 _ _))
        go_roundw
        case rel => exact ⟨k + 1, acc ++ [s], by omega, by go_num, by rw [List.length_append, HA.out]; rfl, Lib.hid (needsL_step HS.out HF.out (taskOk_true H0.out H1.out H2.out)), hO2, hB2⟩
        case measure => simp [intOf]; omega
   ·
    have hke : g.drop k = [] := List.drop_eq_nil_of_le (by omega)
    rw [hke] at HS
    clear hke
    have hS : needsN g = some acc := by rw [HS.out]; simp [needsL]
    have HS2 := Lib.hid hS
    clear hS HS
    go_wp2
    go_ret2
    refine ⟨_, by rw [HS2.out]; rfl, fun ns h => ?_, HB⟩
    rw [HS2.out] at h; cases h; exact HO
 ·
  have hn : needsN g = none := by rw [needsN, if_pos (by omega)]
  have HN := Lib.hid hn
  clear hn
  go_enter Tryd.func69, Tryd.ntmps69
  go_wp2
  go_ret2
  refine ⟨_, by rw [HN.out]; rfl, fun ns h => ?_, Below.refl _ _⟩
  rw [HN.out] at h; cases h
end Go.Proofs.YtlcdffhhimbbmaaDoor

namespace Go.Proofs.YtlcdffhhimbbmaaDoor
set_option linter.unusedVariables false
set_option linter.unusedSimpArgs false
open Go.RowKit Go.Shelf Bits
open Go.Proofs.YtlcdffhhimbbmaaDoorW.PrintWords Go.Proofs.YtlcdffhhimbbmaaDoorW.PrintLast Go.Proofs.YtlcdffhhimbbmaaDoorW.PrintMore
theorem bits_andNot_u16 (a b : Nat) (ha : a < 65536) : bits .andNot .u16 (a : Int) (b : Int) = ((diff a b : Nat) : Int) := by
 have h1 : (BitVec.ofInt 16 (a : Int)) = BitVec.ofNat 16 a := by simp
 have h2 : (BitVec.ofInt 16 (b : Int)) = BitVec.ofNat 16 b := by simp
 show IntKind.u16.wrap ((BitVec.ofInt 16 (a : Int) &&& ~~~ BitVec.ofInt 16 (b : Int)).toNat : Int) = _
 rw [h1, h2]
 have e : (BitVec.ofNat 16 a &&& ~~~ BitVec.ofNat 16 b).toNat = diff a b := by
  apply Nat.eq_of_testBit_eq
  intro i
  rw [diff_bit, ← BitVec.getLsbD, BitVec.getLsbD_and, BitVec.getLsbD_not, BitVec.getLsbD_ofNat, BitVec.getLsbD_ofNat]
  by_cases hi : i < 16
  ·
   simp [hi]
  ·
   have : a.testBit i = false := Nat.testBit_lt_two_pow (Nat.lt_of_lt_of_le (show a < 2 ^ 16 from ha) (Nat.pow_le_pow_right (by omega) (by omega)))
   simp [hi, this]
 rw [e, wrap_u16']
 have := diff_lt (b := b) (n := 16) ha
 omega
def OrderPost (ns : List Nat) (w : World) (e : Ending) (w' : World) : Prop :=
 ∃ v, e = .returned (.tuple #[v, .int .u16 ((ordN ns ns.length).2 : Nat)]) ∧ Kd.R (Kd.int .i64) 3 w' w.heap.size (fun _ => True) v (ints (ordN ns ns.length).1) ∧ Below w.heap.size w w'
theorem not_ready_of_has {ns : List Nat} {done i : Nat} (h : done.testBit i = true) : isReady ns done i = false := by unfold isReady; rw [h]; rfl
theorem ready_of_not {ns : List Nat} {done i : Nat} (h : done.testBit i = false) : isReady ns done i = decide (diff (ns.getD i 0) done = 0) := by unfold isReady; rw [h]; rfl
set_option maxRecDepth 100000 in
set_option maxHeartbeats 2000000 in
theorem order_calls (A : Option Addr) (c : Nat) (ns : List Nat) (hlen : ns.length ≤ 15) (hns : ∀ i, ns.getD i 0 < 65536) (w : World) (hr : (Kd.int .u16).C w A ns.length (ints ns)) :
  Calls Tryd.prog 70 #[.slice A ns.length c] w (OrderPost ns w) := by
 have HR := Lib.hid hr
 clear hr
 have HNS := Lib.hid hns
 clear hns
 go_enter Tryd.func70, Tryd.ntmps70
 go_wp2
 have HB1 : Below w.heap.size w (w.alloc (.cells #[] 3)) := (Below.refl _ _).alloc (Nat.le_refl _) _
 have HO : Kd.R (Kd.int .i64) 3 (w.alloc (.cells #[] 3)) w.heap.size (fun _ => True) (.slice (some ⟨w.heap.size, 0, none⟩) 0 0) (ints []) := Kd.R_of_own (World.ownsRow_lit (base := w.heap.size) (size := 1) w #[] 0 (Nat.le_refl _) (by simp [maxLen]) rfl) (fun _ _ => trivial)
 go_loopw [4, 5, 11] (fun out s i wr => ∃ (k : Nat) (l : List Nat) (d : Nat), k ≤ ns.length ∧ i = .int .i64 k ∧ s = .int .u16 d ∧ Hid (ordN ns k = (l, d)) ∧ Kd.R (Kd.int .i64) 3 wr w.heap.size (fun _ => True) out (ints l) ∧ Below w.heap.size w wr) (fun _ _ i _ => ns.length - (intOf i).toNat)
 case atStart => exact ⟨0, [], 0, Nat.zero_le _, rfl, rfl, Lib.hid rfl, HO, HB1⟩
 case round =>
  clear HO HB1
  obtain ⟨k, l, d, hk, rfl, rfl, HS, HO, HB⟩ := hrel
  by_cases hlt : k < ns.length
  ·
   have hd : d < 65536 := by
    have := (ordN_lt ns k).1
    rw [HS.out] at this
    exact Nat.lt_of_lt_of_le this (pow_le_u16 (by omega))
   have hll : l.length < 1000000 := by
    have := (ordN_lt ns k).2.2
    rw [HS.out] at this
    simp at this
    omega
   go_wp2
   obtain ⟨wo, rfl⟩ : ∃ wo : World, wo = wr := ⟨_, rfl⟩
   go_loopw [4, 5, 15] (fun out s i wi => ∃ (j : Nat), j ≤ ns.length ∧ i = .int .i64 j ∧ s = .int .u16 d ∧ Hid (∀ q, q < j → isReady ns d q = false) ∧ Kd.R (Kd.int .i64) 3 wi w.heap.size (fun _ => True) out (ints l) ∧ Below w.heap.size w wi) (fun _ _ i _ => ns.length - (intOf i).toNat)
   case atStart => exact ⟨0, Nat.zero_le _, rfl, rfl, Lib.hid fun q h => absurd h (Nat.not_lt_zero _), HO, HB⟩
   case round =>
    clear HO HB
    obtain ⟨j, hj, rfl, rfl, hlow, HO, HB⟩ := hrel
    by_cases hjl : j < ns.length
    ·
     obtain ⟨ad, rfl, hc⟩ := at_set (Kd.C_below HR.out HB) j hjl
     have hx : ns.getD j 0 < 65536 := HNS.out j
     cases ht : d.testBit j
     ·
      have HT := Lib.hid ht
      clear ht
      cases hrd : isReady ns d j
      ·
       have HD := Lib.hid hrd
       have hb : (bits BinOp.andNot IntKind.u16 ((ns.getD j 0 : Nat) : Int) (d : Int) == 0) = false := by
        rw [bits_andNot_u16 _ d hx]
        have := hrd
        rw [ready_of_not HT.out, decide_eq_false_iff_not] at this
        simp only [beq_eq_false_iff_ne, ne_eq]
        omega
       clear hrd
       generalize ns.getD j 0 = x at hc hb hx
       go_wp2_with (go_at_call 62; refine (has_is _ d j HT hd (by omega) _).mono ?_; rintro e w' ⟨rfl, rfl⟩)
       go_roundw
       case rel => exact ⟨j + 1, by omega, by go_num, rfl, Lib.hid (fun q hq => by rcases Nat.lt_succ_iff_lt_or_eq.1 hq with h | h; exact hlow.out q h; rw [h]; exact HD.out), HO, HB⟩
       case measure => simp [intOf]; omega
      ·
       have HD := Lib.hid hrd
       have hb : (bits BinOp.andNot IntKind.u16 ((ns.getD j 0 : Nat) : Int) (d : Int) == 0) = true := by
        rw [bits_andNot_u16 _ d hx]
        have := hrd
        rw [ready_of_not HT.out, decide_eq_true_iff] at this
        rw [this]; rfl
       clear hrd
       have hstep : ordN ns (k + 1) = (l ++ [j], d ||| 2 ^ j) := by
        show ordStep ns (ordN ns k) = _
        rw [HS.out]
        unfold ordStep
        rw [firstReady_some hjl HD.out hlow.out]
       have HS2 := Lib.hid hstep
       clear hstep
       generalize ns.getD j 0 = x at hc hb hx
       go_wp2_with (first | (go_at_call 62; refine (has_is _ d j HT hd (by omega) _).mono ?_; rintro e w' ⟨rfl, rfl⟩) | (go_at_call 45; refine (with_calls d j hd (by omega) _).mono ?_; rintro e w' ⟨rfl, rfl⟩) | (at_builtin; refine ap_int (w0 := w) w.heap.size rfl _ _ rfl u4 (ints l) (j : Int) rfl rfl rfl HO HB HB.size (by rw [ints_length]; exact hll) ?_; intro v1 w2 hO2 hB2 _ _))
       go_roundw
       case rel => exact ⟨k + 1, l ++ [j], d ||| 2 ^ j, by omega, by go_num, rfl, HS2, by simpa [ints] using hO2, hB2⟩
       case measure => simp [intOf]; omega
     ·
      have HT := Lib.hid ht
      clear ht
      generalize ns.getD j 0 = x at hc hx
      go_wp2_with (go_at_call 62; refine (has_is _ d j HT hd (by omega) _).mono ?_; rintro e w' ⟨rfl, rfl⟩)
      go_roundw
      case rel => exact ⟨j + 1, by omega, by go_num, rfl, Lib.hid (fun q hq => by rcases Nat.lt_succ_iff_lt_or_eq.1 hq with h | h; exact hlow.out q h; rw [h]; exact not_ready_of_has HT.out), HO, HB⟩
      case measure => simp [intOf]; omega
    ·
     have hstep : ordN ns (k + 1) = (l, d) := by
      show ordStep ns (ordN ns k) = _
      rw [HS.out]
      unfold ordStep
      rw [firstReady_none (fun q hq => hlow.out q (by omega))]
     have HS2 := Lib.hid hstep
     clear hstep
     go_wp2
     go_roundw
     case rel => exact ⟨k + 1, l, d, by omega, by go_num, rfl, HS2, HO, HB⟩
     case measure => simp [intOf]; omega
  ·
   have hke : k = ns.length := by omega
   have HK := Lib.hid hke
   clear hke
   go_wp2
   go_ret2
   have e : ordN ns ns.length = (l, d) := by rw [← HK.out]; exact HS.out
   refine ⟨_, by rw [e]; rfl, by rw [e]; exact HO, HB⟩
end Go.Proofs.YtlcdffhhimbbmaaDoor

namespace Go.Proofs.YtlcdffhhimbbmaaDoor
set_option linter.unusedVariables false
set_option linter.unusedSimpArgs false
open Go.RowKit
variable {P : Program} {ops : Array Oper} {Q : Exit → Act → World → Prop}
theorem rowsIn_of_rows {n l : Nat} {row : String} {args : Array Value} {w : World} {R : Value → World → Prop} (h : Rows P row args w R) : RowsIn (Fence.wide.inRound l) n P row args w R :=
 fun c cs _ => by
  obtain ⟨v, w', hr, hs⟩ := h c cs
  exact ⟨v, w', hr, stepsIn_wide.2 hs⟩
theorem wpIn_of_wp_oper {l n : Nat} {o : Oper} {a : Act} {w : World} {K : Act → World → Prop} (hnd : ∀ c, o.op ≠ .defer c) (h : o.wp P a w K Q) : o.wpIn (Fence.wide.inRound l) n P a w K Q := by
 refine ⟨fun _ _ => trivial, ?_⟩
 rw [Fence.inRound_round, Oper.semAt_some l a.eval o hnd]
 unfold Oper.wp at h
 revert h
 cases (execOp a.eval o).run P w with
 | ok x w' =>
  cases x
  case enter f args => exact fun h => ⟨fun hd => by simp [Fence.wide] at hd, CallsIn.inRound l (callsIn_wide.2 h)⟩
  case row r args => exact fun h => ⟨fun hd => by simp [Fence.wide] at hd, rowsIn_of_rows h⟩
  all_goals first | exact fun h => h | exact fun h => h.elim
 | halt x w' =>
  cases x <;> first | exact fun h => h | exact fun h => h.elim
theorem wpOpIn_of_wpOp {l n i : Nat} {a : Act} {w : World} {K : Act → World → Prop} (hQ : ¬ LetsOut Q) (hnd : ∀ (i : Nat) (o : Oper) c, ops[i]? = some o → o.op ≠ .defer c) (h : wpOp P ops Q i K a w) : wpOpIn (Fence.wide.inRound l) n P ops Q i K a w := by
 unfold wpOp at h
 unfold wpOpIn
 cases ho : ops[i]? with
 | none => rw [ho] at h; exact h
 | some o =>
  rw [ho] at h
  simp only at h ⊢
  split
  ·
   rename_i hw
   rw [if_pos hw] at h
   rcases h with h | h
   ·
    exact wpIn_of_wp_oper (fun c => hnd i o c ho) h
   ·
    exact absurd h.2 hQ
  ·
   rename_i hw
   rw [if_neg hw] at h
   exact ⟨fun _ _ => trivial, h⟩
theorem wpAnyIn_of_wpAny {l n : Nat} (hQ : ¬ LetsOut Q) (hnd : ∀ (i : Nat) (o : Oper) c, ops[i]? = some o → o.op ≠ .defer c) : ∀ (fuel : Nat) (listed : Array Bool) (a : Act) (w : World),
  wpAny P .any ops Q fuel listed a w → wpAnyIn (Fence.wide.inRound l) n P .any ops Q fuel listed a w
 | 0, _, _, _, h => h
 | fuel + 1, listed, a, w, h => ⟨h.1, fun i hi => wpOpIn_of_wpOp hQ hnd (wpOp_mono (fun a' w' h' => wpAnyIn_of_wpAny hQ hnd fuel _ a' w' h') (h.2 i hi))⟩
def noDeferB (ops : Array Oper) : Bool := ops.toList.all fun o => match o.op with | .defer _ => false | _ => true
theorem noDefer_spec (h : noDeferB ops = true) (i : Nat) (o : Oper) (c : Call) (ho : ops[i]? = some o) : o.op ≠ .defer c := by
 intro e
 have := List.all_eq_true.1 h o (Array.mem_toList_iff.2 (Array.mem_of_getElem? ho))
 rw [e] at this
 cases this
theorem wpIn_region_still_tail {id l n : Nat} {a : Act} {w : World} {L : List Oper} (k : Nat) (hm : P.follows .mixedOrders = true) (hB : Region.lexTailB .any L.toArray k = true) (hd : noDeferB L.toArray = true) (hQ : ¬ LetsOut Q)
  (h : wpStill P L.toArray w.drew (fun a' => wpList P L.toArray Q (L.drop k) a' w.drew) (L.take k) a) : (Code.region id L.toArray true).wpIn (Fence.wide.inRound l) n P Q a w := by
 refine wpIn_region_any hm (wpAnyIn_of_wpAny hQ (noDefer_spec hd) _ _ _ _ ?_)
 simp only [Region.lexTailB, Bool.and_eq_true, decide_eq_true_eq] at hB
 obtain ⟨⟨⟨⟨hsel, hn⟩, hs⟩, hc⟩, hlex⟩ := hB
 have hk : k < L.length := by simpa using hn
 have e1 : (L.take k).length = k := by rw [List.length_take]; omega
 have e2 : (L.drop k).length = L.toArray.size - k := by rw [List.length_drop]; rfl
 have head := wpAnyL_lex (md := .any) (g := L.toArray.size - k) hsel hs hc hn (L.take k) 0 (Array.replicate L.toArray.size false) a
  (fun j hj => by rw [e1] at hj; rw [List.getElem?_take, if_pos hj, Nat.zero_add]; simp) (by rw [Nat.zero_add]; exact e1)
  ⟨by simp, fun j oj _ hl => (by rw [getD_replicate_false] at hl; cases hl), fun t _ ht => getD_in (by simpa using ht) (getD_replicate_false _ _)⟩ (by rw [e1]; exact hlex) h
 have all := wpAny_of_head (Q' := Q) (g := L.toArray.size - k) (fun listed a' hL => by
  have := wpAny_of_seq (md := .any) (Q' := Q) (L.drop k) k listed a' w.drew (fun j => by rw [List.getElem?_drop]; simp) (by rw [e2]; exact hL.1) hL.2
  rwa [e2] at this) _ _ _ head
 rwa [e1, show k + (L.toArray.size - k) = L.toArray.size from by omega] at all
end Go.Proofs.YtlcdffhhimbbmaaDoor
