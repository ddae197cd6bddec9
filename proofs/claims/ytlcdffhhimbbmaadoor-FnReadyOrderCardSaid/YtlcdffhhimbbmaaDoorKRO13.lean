/- Parts of the proof, laid as one text by a program of mine. -/
import Derived.Test.YtlcdffhhimbbmaaDoorKRO6
import Derived.Test.YtlcdffhhimbbmaaDoorKRO9
import Derived.Deep.QuietTactic
import Derived.BigQuiet
import Derived.Test.YtlcdffhhimbbmaaDoorKRO8
import Derived.Test.YtlcdffhhimbbmaaDoorKRO12
import Derived.Test.YtlcdffhhimbbmaaDoorKRO11
namespace Go.Proofs.YtlcdffhhimbbmaaDoor
set_option linter.unusedVariables false
set_option linter.unusedSimpArgs false
open Go.RowKit Go.Shelf Bits
open Go.Proofs.YtlcdffhhimbbmaaDoorW.PrintWords Go.Proofs.YtlcdffhhimbbmaaDoorW.PrintLast Go.Proofs.YtlcdffhhimbbmaaDoorW.PrintMore
set_option maxRecDepth 1000000 in
set_option maxHeartbeats 2000000 in
theorem sooner_calls (A : Option Addr) (c : Nat) (T : List Int) (a b : Nat) (ha : a < T.length) (hb : b < T.length) (w : World) (hr : (Kd.int .i64).C w A T.length T) :
  Calls Tryd.prog 67 #[.slice A T.length c, .int .i64 a, .int .i64 b] w fun e w' => e = .returned (.bool (lessB T a b)) ∧ ∃ q, w' = w.drewN q := by
 obtain ⟨ad, rfl, ca⟩ := at_num hr a ha
 obtain ⟨ad', e', cb⟩ := at_num hr b hb
 obtain rfl : ad = ad' := Option.some.inj e'
 have HE : Hid (lessB T a b = if T.getD a 0 ≠ T.getD b 0 then decide (T.getD a 0 > T.getD b 0) else decide (a < b)) := Lib.hid rfl
 generalize T.getD a 0 = x at ca HE
 generalize T.getD b 0 = y at cb HE
 generalize T.length = n at ha hb
 have ha' : (a : Int) < n := by omega
 have hb' : (b : Int) < n := by omega
 clear hr e'
 by_cases h1 : y < x
 ·
  have d1 : decide (y < x) = true := decide_eq_true h1
  have HL : Hid (lessB T a b = true) := Lib.hid (by rw [HE.out, if_pos (by omega)]; exact decide_eq_true h1)
  clear h1
  go_enter Tryd.func67, Tryd.ntmps67
  go_wp2
  go_quiet (fail)
  go_wp2
  go_ret
  exact ⟨ret_bool HL.out.symm, ⟨_, rfl⟩⟩
 ·
  have d1 : decide (y < x) = false := decide_eq_false h1
  by_cases h2 : x = y
  ·
   have d2 : (x == y) = true := beq_iff_eq.2 h2
   have HL : Hid (lessB T a b = decide (a < b)) := Lib.hid (by rw [HE.out, if_neg (by omega)])
   clear h1 h2 HE
   go_enter Tryd.func67, Tryd.ntmps67
   go_wp2
   go_quiet (fail)
   go_wp2
   go_ret
   exact ⟨ret_bool (by rw [HL.out]), ⟨_, rfl⟩⟩
  ·
   have d2 : (x == y) = false := by rw [beq_eq_false_iff_ne]; exact h2
   have HL : Hid (lessB T a b = false) := Lib.hid (by rw [HE.out, if_pos h2]; exact decide_eq_false h1)
   clear h1 h2 HE
   go_enter Tryd.func67, Tryd.ntmps67
   go_wp2
   go_quiet (fail)
   go_wp2
   go_ret
   exact ⟨ret_bool HL.out.symm, ⟨_, rfl⟩⟩
theorem sooner_is (r : Bool) (A : Option Addr) (c : Nat) (T : List Int) (a b : Nat) (h : Hid (lessB T a b = r)) (ha : a < T.length) (hb : b < T.length) (w : World) (hr : (Kd.int .i64).C w A T.length T) :
  Calls Tryd.prog 67 #[.slice A T.length c, .int .i64 a, .int .i64 b] w fun e w' => e = .returned (.bool r) ∧ ∃ q, w' = w.drewN q :=
 (sooner_calls A c T a b ha hb w hr).mono fun e w' ⟨he, hw⟩ => ⟨by rw [he, h.out], hw⟩
theorem R_get {W : World} {base g n cap : Nat} {L : List Nat} (h : Kd.R (Kd.int .i64) 3 W base (fun _ => True) (.slice (some ⟨g, 0, none⟩) n cap) (ints L)) (i : Nat) (hi : i < n) : W.cell? ⟨g, i, none⟩ = some (.int .i64 ((L.getD i 0 : Nat) : Int)) ∧ W.frozen? ⟨g, i, none⟩ = false := by
 have := Kd.R_celln (0 : Int) h (i : Int) (by omega) (by omega)
 rw [rd_ints, Int.toNat_natCast] at this
 exact this
theorem R_set {W : World} {base g n cap : Nat} {L : List Nat} (h : Kd.R (Kd.int .i64) 3 W base (fun _ => True) (.slice (some ⟨g, 0, none⟩) n cap) (ints L)) (i x : Nat) : Kd.R (Kd.int .i64) 3 (W.setCell ⟨g, i, none⟩ (.int .i64 (x : Int))) base (fun _ => True) (.slice (some ⟨g, 0, none⟩) n cap) (ints (L.set i x)) := by
 have := Kd.R_putn h (i : Int) (x : Int)
 rw [Int.toNat_natCast] at this
 rw [show ints (L.set i x) = (ints L).set i (x : Int) by simp [ints, List.map_set]]
 exact this
theorem length_ints_R {W : World} {base : Nat} {A : Option Addr} {n cap : Nat} {L : List Nat} (h : Kd.R (Kd.int .i64) 3 W base (fun _ => True) (.slice A n cap) (ints L)) : n = L.length := by
 have := (Kd.R_reads' h).1
 rwa [ints_length] at this
def bubL (T : List Int) : Nat → List Nat → List Nat
 | 0, L => L
 | k + 1, L => if lessB T (L.getD (k + 1) 0) (L.getD k 0) then bubL T k (swapL L k (k + 1)) else L
def insL (T : List Int) (xs : List Nat) : List Nat := xs.foldl (fun out x => bubL T out.length (out ++ [x])) []
theorem insL_snoc (T : List Int) (l : List Nat) (x : Nat) : insL T (l ++ [x]) = bubL T (insL T l).length (insL T l ++ [x]) := by
 unfold insL
 rw [List.foldl_append]
 rfl
theorem bubL_perm (T : List Int) : ∀ (k : Nat) (L : List Nat), k < L.length → (bubL T k L).Perm L
 | 0, L, _ => List.Perm.refl _
 | k + 1, L, h => by
  unfold bubL
  split
  ·
   exact (bubL_perm T k _ (by rw [length_swapL]; omega)).trans (swapL_perm (by omega) h)
  ·
   exact List.Perm.refl _
theorem insL_permA (T : List Int) : ∀ (xs acc : List Nat), (xs.foldl (fun out x => bubL T out.length (out ++ [x])) acc).Perm (acc ++ xs)
 | [], acc => by simp
 | x :: xs, acc => by
  refine (insL_permA T xs _).trans ?_
  rw [show acc ++ x :: xs = (acc ++ [x]) ++ xs by simp]
  exact (bubL_perm T _ _ (by simp)).append_right xs
theorem insL_perm (T : List Int) (xs : List Nat) : (insL T xs).Perm xs := by simpa [insL] using insL_permA T xs []
structure BHeap (w : World) (A2 : Option Addr) (T : List Int) (v : Value) (L : List Nat) (W : World) : Prop where
 hO : Kd.R (Kd.int .i64) 3 W w.heap.size (fun _ => True) v (ints L)
 hB : Below w.heap.size w W
 hC : (Kd.int .i64).C W A2 T.length T
 hA : ∀ ad, A2 = some ad → 0 < T.length → ad.block < W.heap.size ∧ some ad.block ≠ v.ownBlock
 hT : ∀ x ∈ L, x < T.length
theorem BHeap.drewN {w : World} {A2 : Option Addr} {T : List Int} {v : Value} {L : List Nat} {W : World} (h : BHeap w A2 T v L W) (q : Nat) : BHeap w A2 T v L (W.drewN q) := ⟨Kd.R_drewN h.hO q, pw_below_drewN h.hB q, Kd.C_drewN h.hC q, h.hA, h.hT⟩
theorem BHeap.put {w : World} {A2 : Option Addr} {T : List Int} {g n cap : Nat} {L : List Nat} {W : World} (h : BHeap w A2 T (.slice (some ⟨g, 0, none⟩) n cap) L W) (i x : Nat) (hx : x < T.length) (hp : 0 < L.length) : BHeap w A2 T (.slice (some ⟨g, 0, none⟩) n cap) (L.set i x) (W.setCell ⟨g, i, none⟩ (.int .i64 (x : Int))) := by
 have hg : w.heap.size ≤ g := Kd.R_base h.hO g (by simp [Value.ownBlock])
 refine ⟨R_set h.hO i x, h.hB.setCell (p := ⟨g, i, none⟩) hg _, C_block h.hC fun ad e hn => heap_far _ _ _ _ (fun e2 => (h.hA ad e hn).2 (by rw [e2]; simp [Value.ownBlock])), fun ad e hn => ⟨by have := (h.hA ad e hn).1; simpa [World.setCell] using this, (h.hA ad e hn).2⟩, fun y hy => ?_⟩
 rcases List.mem_or_eq_of_mem_set hy with hy | rfl
 ·
  exact h.hT y hy
 ·
  exact hx
theorem BHeap.push {w : World} {A2 : Option Addr} {T : List Int} {v v1 : Value} {L : List Nat} {W W' : World} (h : BHeap w A2 T v L W) (x : Nat) (hx : x < T.length) (hO : Kd.R (Kd.int .i64) 3 W' w.heap.size (fun _ => True) v1 (ints L ++ [(x : Int)])) (hB : Below w.heap.size w W') (hg : W.grownBy W' v.ownBlock) (hat : v1.ownBlock = v.ownBlock ∨ ∃ b, v1.ownBlock = some b ∧ W.heap.size ≤ b) : BHeap w A2 T v1 (L ++ [x]) W' := by
 refine ⟨by rw [show ints (L ++ [x]) = ints L ++ [(x : Int)] by simp [ints]]; exact hO, hB, C_block h.hC fun ad e hn => hg.block _ (h.hA ad e hn).1 (h.hA ad e hn).2, fun ad e hn => ⟨Nat.lt_of_lt_of_le (h.hA ad e hn).1 hg.size, fun e2 => ?_⟩, fun y hy => ?_⟩
 ·
  have h1 := h.hA ad e hn
  rcases hat with hat | ⟨b, hb, hb2⟩
  ·
   rw [hat] at e2
   exact h1.2 e2
  ·
   rw [hb] at e2
   cases e2
   omega
 ·
  rcases List.mem_append.1 hy with hy | hy
  ·
   exact h.hT y hy
  ·
   rw [List.mem_singleton.1 hy]
   exact hx
set_option maxRecDepth 1000000 in
set_option maxHeartbeats 8000000 in
theorem byTail_calls (A : Option Addr) (c : Nat) (g : List Tk) (hv : specValid g = true) (A' : Option Addr) (c' : Nat) (xs : List Nat) (hxs : ∀ x ∈ xs, x < g.length) (hxl : xs.length ≤ 100) (w : World) (hr : kTk.C w A g.length g) (hr' : (Kd.int .i64).C w A' xs.length (ints xs)) :
  Calls Tryd.prog 37 #[.slice A g.length c, .slice A' xs.length c'] w fun e w' => ∃ v, e = .returned v ∧ Kd.R (Kd.int .i64) 3 w' w.heap.size (fun _ => True) v (ints (insL (tailsS g) xs)) ∧ Below w.heap.size w w' := by
 have hTl : (tailsS g).length = g.length := (tailsSL_span (specValid_time hv) _).1
 have HST := Lib.hid (fun (W : World) (h : kTk.C W A g.length g) => stails_calls A c g hv W h)
 have HR := Lib.hid hr
 have HR' := Lib.hid hr'
 have HXS := Lib.hid hxs
 have HTL := Lib.hid hTl
 clear hr hr' hxs hTl hv
 go_enter Tryd.func37, Tryd.ntmps37
 go_wp2_with (go_at_call 66; refine (HST.out _ (Kd.C_below HR.out ((Below.refl _ w).alloc (Nat.le_refl _) _))).mono ?_; rintro e w2 ⟨v2, rfl, hR2, hB2⟩; have HR2 := Lib.hid hR2; obtain ⟨A2, c2, rfl, hl2, hC2⟩ := Kd.R_reads hR2; have HC2 := Lib.hid hC2; have HB2 := Lib.hid hB2; clear hR2 hC2 hB2)
 have HTL2 := Lib.hid HTL.out
 generalize hTE : tailsS g = T at HTL HR2 HC2 hl2 HST
 have HTE := Lib.hid hTE
 clear hTE
 have hBH : BHeap w A2 T (.slice (some ⟨w.heap.size, 0, none⟩) 0 0) [] w2 := by
  have hB1 : Below w.heap.size w (w.alloc (.cells #[] 3)) := (Below.refl _ _).alloc (Nat.le_refl _) _
  have hz1 : (w.alloc (.cells #[] 3)).heap.size = w.heap.size + 1 := by simp
  have hO0 : Kd.R (Kd.int .i64) 3 (w.alloc (.cells #[] 3)) w.heap.size (fun _ => True) (.slice (some ⟨w.heap.size, 0, none⟩) 0 0) (ints []) := Kd.R_of_own (World.ownsRow_lit (base := w.heap.size) (size := 1) w #[] 0 (Nat.le_refl _) (by simp [maxLen]) rfl) (fun _ _ => trivial)
  refine ⟨Kd.R_below hO0 HB2.out, hB1.trans (HB2.out.mono (by omega)), HC2.out, fun ad e hn => ?_, fun x hx => by cases hx⟩
  have := R_blk HR2.out hn ad e
  rw [hz1] at this
  exact ⟨this.2, fun e2 => by simp [Value.ownBlock] at e2; omega⟩
 have hxi := ints_length xs
 go_loopw [5, 7] (fun v i wr => ∃ j, j ≤ xs.length ∧ i = .int .i64 (j : Nat) ∧ BHeap w A2 T v (insL T (xs.take j)) wr) (fun _ i _ => xs.length - (intOf i).toNat)
 case atStart => exact ⟨0, Nat.zero_le _, rfl, hBH⟩
 case round =>
  clear hBH
  obtain ⟨j, hj, rfl, hH⟩ := hrel
  by_cases hjl : j < xs.length
  ·
   obtain ⟨ad', rfl, hx⟩ := at_set (Kd.C_below HR'.out hH.hB) j hjl
   have hjj : decide ((j : Int) < (xs.length : Int)) = true := decide_eq_true (by omega)
   have hxg : xs.getD j 0 < T.length := by
    rw [HTL.out]
    apply HXS.out
    rw [List.getD_eq_getElem?_getD, List.getElem?_eq_getElem hjl]
    exact List.getElem_mem _
   have HSN : Hid (insL T (xs.take (j + 1)) = bubL T (insL T (xs.take j)).length (insL T (xs.take j) ++ [xs.getD j 0])) := Lib.hid (by
    rw [List.take_succ_eq_append_getElem hjl, insL_snoc, List.getD_eq_getElem?_getD, List.getElem?_eq_getElem hjl]
    rfl)
   have hil : (insL T (xs.take j)).length ≤ 100 := by
    have := (insL_perm T (xs.take j)).length_eq
    rw [List.length_take] at this
    omega
   generalize xs.getD j 0 = x at hx hxg HSN
   generalize insL T (xs.take j) = L at hH HSN hil
   have HH := Lib.hid hH
   have hO := hH.hO
   have hB := hH.hB
   clear hH
   have HPU := Lib.hid (fun v1 w4 (hO4 : Kd.R (Kd.int .i64) 3 w4 w.heap.size (fun _ => True) v1 (ints L ++ [(x : Int)])) (hB4 : Below w.heap.size w w4) (hg4 : wr.grownBy w4 u5.ownBlock) hat4 => HH.out.push x hxg hO4 hB4 hg4 hat4)
   go_wp2_with (at_builtin; refine ap_int (w0 := w) w.heap.size rfl _ _ rfl u5 (ints L) (x : Int) rfl rfl rfl hO hB hB.size (by rw [ints_length]; omega) ?_; intro v1 w4 hO4 hB4 hg4 hat4; have HH4 := Lib.hid (HPU.out v1 w4 hO4 hB4 hg4 hat4); have HF4 := Lib.hid (Kd.R_form hO4 (by simp)); clear hO4 hB4 hg4 hat4; obtain ⟨g4, cap4, rfl, _⟩ := HF4.out; have hl4 : (ints L ++ [(x : Int)]).length = L.length + 1 := (by rw [List.length_append, ints_length]; rfl); clear HF4; rw [hl4] at HH4; rw [hl4]; clear hl4)
   have HG := Lib.hid (And.intro hO hB)
   clear hO hB hx
   go_loopw [8] (fun k wi => ∃ (q : Nat) (M : List Nat), k = .int .i64 (q : Nat) ∧ q < M.length ∧ Hid (M.length = L.length + 1 ∧ bubL T q M = bubL T L.length (L ++ [x]) ∧ BHeap w A2 T (.slice (some ⟨g4, 0, none⟩) (L.length + 1) cap4) M wi)) (fun k _ => (intOf k).toNat)
   case atStart => exact ⟨L.length, L ++ [x], by simp, by simp, Lib.hid ⟨by simp, rfl, HH4.out⟩⟩
   case round =>
    obtain ⟨q, M, rfl, hqM, HM⟩ := hrel
    obtain ⟨hMl, hbub, hMH⟩ := HM.out
    have HMH := Lib.hid (And.intro hMl (And.intro hbub hMH))
    clear HM
    by_cases hq0 : q = 0
    ·
     subst hq0
     have d0 : decide ((0 : Int) < ((0 : Nat) : Int)) = false := rfl
     clear hMl hbub hMH
     go_wp2
     go_quiet (fail)
     go_wp2
     refine ⟨⟨j + 1, by omega, by go_num, ?_⟩, by simp [intOf]; omega⟩
     rw [HSN.out, ← HMH.out.2.1]
     exact HMH.out.2.2.drewN _
    ·
     obtain ⟨p, hp⟩ : ∃ p, q = p + 1 := ⟨q - 1, by omega⟩
     have d0 : decide ((0 : Int) < (q : Int)) = true := decide_eq_true (by omega)
     have d0' : decide (0 < q) = true := decide_eq_true (by omega)
     have hO := hMH.hO
     obtain ⟨cq, fq⟩ := R_get hO q (by omega)
     obtain ⟨cp, fp⟩ := R_get hO p (by omega)
     have hmem : ∀ i, i < M.length → M.getD i 0 < T.length := fun i hi => by
      apply hMH.hT
      rw [List.getD_eq_getElem?_getD, List.getElem?_eq_getElem hi]
      exact List.getElem_mem _
     have h1 := hmem q hqM
     have h2 := hmem p (by omega)
     have hC := hMH.hC
     have HBU : Hid (bubL T q M = if lessB T (M.getD q 0) (M.getD p 0) then bubL T p (swapL M p q) else M) := Lib.hid (by subst hp; rfl)
     have HSW : Hid (swapL M p q = (M.set q (M.getD p 0)).set p (M.getD q 0)) := Lib.hid (by unfold swapL; rw [List.set_comm _ _ (by omega)])
     have HGQ : Hid (M.getD q 0 = M.getD q 0) := Lib.hid rfl
     generalize M.getD q 0 = y at cq h1 HBU HSW
     generalize M.getD p 0 = z at cp h2 HBU HSW
     have hwr : IntKind.i64.wrap ((q : Int) - 1) = (p : Int) := by rw [show (q : Int) - 1 = p by omega]; exact IntWalk.i64_in _ (by omega)
     have hp0 : (0 : Int) ≤ (p : Int) := by omega
     have hpl : (p : Int) < ((L.length + 1 : Nat) : Int) := by omega
     have hql : (q : Int) < ((L.length + 1 : Nat) : Int) := by omega
     have HP := Lib.hid hp
     have HO := Lib.hid (And.intro hO hC)
     clear hMl hbub hMH hmem hO hC HGQ hp hq0
     have e1 : (p : Int).toNat = p := rfl
     cases hls : lessB T y z
     ·
      have HL := Lib.hid hls
      rw [hls] at HBU
      clear hls
      go_wp2
      go_quiet ((go_at_call 67; exact Calls.quiet_of (sooner_is _ _ _ T y z HL h1 h2 _ (Kd.C_drewN HO.out.2 _))))
      clear hwr
      go_wp2
      refine ⟨⟨j + 1, by omega, by go_num, ?_⟩, by simp [intOf]; omega⟩
      have hb : bubL T q M = M := by rw [HBU.out]; rfl
      rw [HSN.out, ← HMH.out.2.1, hb]
      exact HMH.out.2.2.drewN _
     ·
      have HL := Lib.hid hls
      rw [hls] at HBU
      clear hls
      go_wp2
      go_quiet ((go_at_call 67; exact Calls.quiet_of (sooner_is _ _ _ T y z HL h1 h2 _ (Kd.C_drewN HO.out.2 _))))
      clear hwr
      have eq1 : q - 1 = p := by have := HP.out; omega
      have cp2 : wr.cell? ⟨g4, q - 1, none⟩ = some (.int .i64 (z : Int)) := by rw [eq1]; exact cp
      have fp2 : wr.frozen? ⟨g4, q - 1, none⟩ = false := by rw [eq1]; exact fp
      have hqi : (1 : Int) ≤ (q : Int) := by have := HP.out; omega
      have hqi2 : (q : Int) - 1 < (L.length : Int) + 1 := by omega
      have hne : q ≠ q - 1 := by omega
      clear cp fp hp0 hpl e1
      have EQ1 := Lib.hid eq1
      clear eq1
      go_wp2
      have hpq := HP.out
      refine ⟨⟨p, (M.set q z).set p y, by congr 1; omega, by simp; omega, Lib.hid ⟨by simpa using HMH.out.1, ?_, ?_⟩⟩, by simp [intOf]; omega⟩
      ·
       rw [← HMH.out.2.1, HBU.out, HSW.out]
       rfl
      ·
       rw [EQ1.out]
       have h3 := (HMH.out.2.2.drewN nq).put q z h2 (by omega)
       exact h3.put p y h1 (by simp; omega)
  ·
   obtain rfl : j = xs.length := by omega
   have hjj : decide ((xs.length : Int) < (xs.length : Int)) = false := decide_eq_false (by omega)
   have HO := Lib.hid hH.hO
   have hB := hH.hB
   clear hH
   go_wp2
   go_ret
   refine ⟨_, rfl, ?_, hB⟩
   have := HO.out
   rw [List.take_length] at this
   rw [HTE.out]
   exact this
end Go.Proofs.YtlcdffhhimbbmaaDoor

namespace Go.Proofs.YtlcdffhhimbbmaaDoor
set_option linter.unusedVariables false
set_option linter.unusedSimpArgs false
open Go.RowKit Go.Shelf Bits
open Go.Proofs.YtlcdffhhimbbmaaDoorW.PrintWords Go.Proofs.YtlcdffhhimbbmaaDoorW.PrintLast Go.Proofs.YtlcdffhhimbbmaaDoorW.PrintMore
def vDoneB (g : List Tk) (d : List Int) : Bool := specValid g && (ascB d && (allInB d 0 (g.length - 1) && d.all fun x => allDoneB (rdTk g x.toNat).f1 d))
theorem allIn_mem {l : List Int} {lo hi : Int} (h : allInB l lo hi = true) : ∀ j, j < l.length → lo ≤ l.getD j 0 ∧ l.getD j 0 ≤ hi := fun j hj => by
 unfold allInB at h
 rw [List.all_eq_true] at h
 exact inB_true.1 (h _ (mem_getD hj))
theorem specValid_len {g : List Tk} (h : specValid g = true) : g.length ≤ 8 := by
 unfold specValid tasksFineB at h
 simp at h
 exact h.1.2
set_option maxRecDepth 100000 in
set_option maxHeartbeats 4000000 in
theorem validDone_calls (A : Option Addr) (c : Nat) (g : List Tk) (A' : Option Addr) (c' : Nat) (d : List Int) (w : World) (hr : kTk.C w A g.length g) (hr' : (Kd.int .i64).C w A' d.length d) :
  Calls Tryd.prog 36 #[.slice A g.length c, .slice A' d.length c'] w fun e w' => e = .returned (.bool (vDoneB g d)) ∧ Below w.heap.size w w' := by
 have HR := Lib.hid hr
 have HR' := Lib.hid hr'
 have hl := (C_len hr').2
 have hlg := (C_len hr).2
 clear hr hr'
 cases hv : specValid g
 ·
  have HV := Lib.hid hv
  have HF : Hid (vDoneB g d = false) := Lib.hid (by unfold vDoneB; rw [hv]; rfl)
  clear hv
  go_enter Tryd.func36, Tryd.ntmps36
  go_wp2_with (go_at_call 53; refine (validGraph_is _ _ _ _ HV _ HR.out).mono ?_; rintro e w1 ⟨rfl, hB1⟩)
  go_ret
  exact ⟨ret_bool HF.out.symm, hB1⟩
 ·
  have HV := Lib.hid hv
  have h8 := specValid_len hv
  cases ha : ascB d
  ·
   have HA := Lib.hid ha
   have HF : Hid (vDoneB g d = false) := Lib.hid (by unfold vDoneB; rw [hv, ha]; rfl)
   clear hv ha
   go_enter Tryd.func36, Tryd.ntmps36
   go_wp2_with (first | (go_at_call 53; refine (validGraph_is _ _ _ _ HV _ HR.out).mono ?_; rintro e w1 ⟨rfl, hB1⟩) | (go_at_call 63; refine (ascends_is _ _ _ _ HA _ (Kd.C_below HR'.out hB1)).mono ?_; rintro e w2 ⟨rfl, hB2⟩; have hB3 := hB1.trans (hB2.mono hB1.size)))
   go_ret
   exact ⟨ret_bool HF.out.symm, hB3⟩
  ·
   have HA := Lib.hid ha
   cases hi : allInB d 0 (g.length - 1)
   ·
    have HI := Lib.hid hi
    have HF : Hid (vDoneB g d = false) := Lib.hid (by unfold vDoneB; rw [hv, ha, hi]; rfl)
    clear hv ha hi
    go_enter Tryd.func36, Tryd.ntmps36
    go_wp2_with (first | (go_at_call 53; refine (validGraph_is _ _ _ _ HV _ HR.out).mono ?_; rintro e w1 ⟨rfl, hB1⟩) | (go_at_call 63; refine (ascends_is _ _ _ _ HA _ (Kd.C_below HR'.out hB1)).mono ?_; rintro e w2 ⟨rfl, hB2⟩; have hB3 := hB1.trans (hB2.mono hB1.size)) | (go_at_call 64; refine (allIn_is _ _ _ _ _ _ HI _ (Kd.C_below HR'.out hB3)).mono ?_; rintro e w3 ⟨rfl, rfl⟩))
    go_ret
    exact ⟨ret_bool HF.out.symm, hB3⟩
   ·
    have HI := Lib.hid hi
    have HIN := Lib.hid (allIn_mem hi)
    have HE : Hid (vDoneB g d = d.all fun x => allDoneB (rdTk g x.toNat).f1 d) := Lib.hid (by unfold vDoneB; rw [hv, ha, hi]; rfl)
    clear hv ha hi
    go_enter Tryd.func36, Tryd.ntmps36
    go_wp2_with (first | (go_at_call 53; refine (validGraph_is _ _ _ _ HV _ HR.out).mono ?_; rintro e w1 ⟨rfl, hB1⟩) | (go_at_call 63; refine (ascends_is _ _ _ _ HA _ (Kd.C_below HR'.out hB1)).mono ?_; rintro e w2 ⟨rfl, hB2⟩; have hB3 := hB1.trans (hB2.mono hB1.size)) | (go_at_call 64; refine (allIn_is _ _ _ _ _ _ HI _ (Kd.C_below HR'.out hB3)).mono ?_; rintro e w3 ⟨rfl, rfl⟩))
    have HRW := Lib.hid (Kd.C_below HR.out hB3)
    have HRW' := Lib.hid (Kd.C_below HR'.out hB3)
    have HB := Lib.hid hB3
    clear hB1 hB2 hB3
    go_loop [5] (fun i => ∃ j, j ≤ d.length ∧ i = .int .i64 (j : Nat) ∧ Hid (∀ q, q < j → allDoneB (rdTk g (d.getD q 0).toNat).f1 d = true)) (fun i => d.length - (intOf i).toNat)
    case atStart => exact ⟨0, Nat.zero_le _, rfl, Lib.hid fun j h => absurd h (Nat.not_lt_zero _)⟩
    case round =>
     obtain ⟨j, hj, rfl, HS⟩ := hrel
     by_cases hjl : j < d.length
     ·
      obtain ⟨ad, rfl, cx⟩ := at_num HRW'.out j hjl
      have hin := HIN.out j hjl
      obtain ⟨m, hm⟩ : ∃ m : Nat, d.getD j 0 = m := ⟨(d.getD j 0).toNat, by omega⟩
      have HM := Lib.hid hm
      rw [hm] at cx
      have hmg : m < g.length := by omega
      clear hin hm
      obtain ⟨adg, A1, c1, rfl, hc0, hc1, hc2, hc3, hl1, hC1⟩ := at_Tk HRW.out m hmg
      cases hd : allDoneB (rdTk g m).f1 d
      ·
       have HD := Lib.hid hd
       have HF : Hid ((d.all fun x => allDoneB (rdTk g x.toNat).f1 d) = false) := Lib.hid (all_not (p := fun x => allDoneB (rdTk g x.toNat).f1 d) 0 hjl (by show allDoneB (rdTk g (d.getD j 0).toNat).f1 d = false; rw [HM.out]; exact hd))
       clear hd
       generalize rdTk g m = t at *
       go_wp2_with (go_at_call 65; refine (allDone_is _ _ _ _ _ _ _ HD _ hC1 HRW'.out).mono ?_; rintro e w' ⟨rfl, rfl⟩)
       go_ret
       exact ⟨ret_bool (by rw [HE.out, HF.out]), HB.out⟩
      ·
       have HD := Lib.hid hd
       have HN := step_lt HS (show allDoneB (rdTk g (d.getD j 0).toNat).f1 d = true by rw [HM.out]; exact hd)
       clear hd
       generalize rdTk g m = t at hc0 hc1 hc2 hc3 hl1 hC1 HD
       go_wp2_with (go_at_call 65; refine (allDone_is _ _ _ _ _ _ _ HD _ hC1 HRW'.out).mono ?_; rintro e w' ⟨rfl, rfl⟩)
       go_round
       case rel => exact ⟨j + 1, by omega, by go_num, HN⟩
       case measure => simp [intOf]; omega
     ·
      have HF : Hid ((d.all fun x => allDoneB (rdTk g x.toNat).f1 d) = true) := Lib.hid (all_take (p := fun x => allDoneB (rdTk g x.toNat).f1 d) (l := d) 0 fun j hj => HS.out j (by omega))
      go_wp2
      go_ret
      exact ⟨ret_bool (by rw [HE.out, HF.out]), HB.out⟩
theorem validDone_is (b : Bool) (A : Option Addr) (c : Nat) (g : List Tk) (A' : Option Addr) (c' : Nat) (d : List Int) (h : Hid (vDoneB g d = b)) (w : World) (hr : kTk.C w A g.length g) (hr' : (Kd.int .i64).C w A' d.length d) :
  Calls Tryd.prog 36 #[.slice A g.length c, .slice A' d.length c'] w fun e w' => e = .returned (.bool b) ∧ Below w.heap.size w w' :=
 (validDone_calls A c g A' c' d w hr hr').mono fun e w' ⟨he, hw⟩ => ⟨by rw [he, h.out], hw⟩
end Go.Proofs.YtlcdffhhimbbmaaDoor

namespace Go.Proofs.YtlcdffhhimbbmaaDoor
set_option linter.unusedVariables false
set_option linter.unusedSimpArgs false
open Go.RowKit Go.Shelf Bits
open Go.Proofs.YtlcdffhhimbbmaaDoorW.PrintWords Go.Proofs.YtlcdffhhimbbmaaDoorW.PrintLast Go.Proofs.YtlcdffhhimbbmaaDoorW.PrintMore
def sRdTasks (g : List Tk) (d : List Int) : List Nat := if vDoneB g d then readyS g d else []
def sRdOrd (g : List Tk) (d : List Int) : List Nat := if vDoneB g d then insL (tailsS g) (readyS g d) else []
theorem vDone_valid {g : List Tk} {d : List Int} (h : vDoneB g d = true) : specValid g = true := by
 unfold vDoneB at h
 rw [Bool.and_eq_true] at h
 exact h.1
theorem readyS_len (g : List Tk) (d : List Int) : (readyS g d).length ≤ g.length := filter_range_le _ _
theorem readyS_lt {g : List Tk} {d : List Int} : ∀ x ∈ readyS g d, x < g.length := fun x hx => List.mem_range.1 (List.mem_filter.1 hx).1
theorem sRdTasks_len (g : List Tk) (d : List Int) : (sRdTasks g d).length ≤ 8 := by
 unfold sRdTasks
 split
 ·
  rename_i h
  exact Nat.le_trans (readyS_len g d) (specValid_len (vDone_valid h))
 ·
  simp
set_option maxRecDepth 100000 in
theorem sReadyTasks_calls (A : Option Addr) (c : Nat) (g : List Tk) (A' : Option Addr) (c' : Nat) (d : List Int) (w : World) (hr : kTk.C w A g.length g) (hr' : (Kd.int .i64).C w A' d.length d) :
  Calls Tryd.prog 84 #[.slice A g.length c, .slice A' d.length c'] w fun e w' => ∃ v, e = .returned v ∧ Kd.R (Kd.int .i64) 3 w' w.heap.size (fun _ => True) v (ints (sRdTasks g d)) ∧ Below w.heap.size w w' := by
 have HR := Lib.hid hr
 have HR' := Lib.hid hr'
 clear hr hr'
 cases hv : vDoneB g d
 ·
  have HV := Lib.hid hv
  have HF : Hid (sRdTasks g d = []) := Lib.hid (by unfold sRdTasks; rw [hv]; rfl)
  clear hv
  go_enter Tryd.func84, Tryd.ntmps84
  go_wp2_with (go_at_call 36; refine (validDone_is _ _ _ _ _ _ _ HV _ HR.out HR'.out).mono ?_; rintro e w1 ⟨rfl, hB1⟩)
  go_ret
  exact ⟨_, rfl, by rw [HF.out]; exact Kd.R_nil _ _ _ _ _, hB1⟩
 ·
  have HV := Lib.hid hv
  have h8 := specValid_len (vDone_valid hv)
  have HF : Hid (sRdTasks g d = readyS g d) := Lib.hid (by unfold sRdTasks; rw [hv]; rfl)
  clear hv
  go_enter Tryd.func84, Tryd.ntmps84
  go_wp2_with (first | (go_at_call 36; refine (validDone_is _ _ _ _ _ _ _ HV _ HR.out HR'.out).mono ?_; rintro e w1 ⟨rfl, hB1⟩) | (go_at_call 38; refine (sready_calls _ _ _ _ _ _ h8 _ (Kd.C_below HR.out hB1) (Kd.C_below HR'.out hB1)).mono ?_; rintro e w2 ⟨v2, rfl, hR2, hB2⟩))
  go_ret
  exact ⟨_, rfl, by rw [HF.out]; exact Kd.R_lower hR2 hB1.size, hB1.trans (hB2.mono hB1.size)⟩
set_option maxRecDepth 100000 in
theorem sReadyOrder_calls (A : Option Addr) (c : Nat) (g : List Tk) (A' : Option Addr) (c' : Nat) (d : List Int) (w : World) (hr : kTk.C w A g.length g) (hr' : (Kd.int .i64).C w A' d.length d) :
  Calls Tryd.prog 15 #[.slice A g.length c, .slice A' d.length c'] w fun e w' => ∃ v, e = .returned v ∧ Kd.R (Kd.int .i64) 3 w' w.heap.size (fun _ => True) v (ints (sRdOrd g d)) ∧ Below w.heap.size w w' := by
 have HR := Lib.hid hr
 have HR' := Lib.hid hr'
 clear hr hr'
 cases hv : vDoneB g d
 ·
  have HV := Lib.hid hv
  have HF : Hid (sRdOrd g d = []) := Lib.hid (by unfold sRdOrd; rw [hv]; rfl)
  clear hv
  go_enter Tryd.func15, Tryd.ntmps15
  go_wp2_with (go_at_call 36; refine (validDone_is _ _ _ _ _ _ _ HV _ HR.out HR'.out).mono ?_; rintro e w1 ⟨rfl, hB1⟩)
  go_ret
  exact ⟨_, rfl, by rw [HF.out]; exact Kd.R_nil _ _ _ _ _, hB1⟩
 ·
  have HV := Lib.hid hv
  have hsv := vDone_valid hv
  have h8 := specValid_len hsv
  have HF : Hid (sRdOrd g d = insL (tailsS g) (readyS g d)) := Lib.hid (by unfold sRdOrd; rw [hv]; rfl)
  have HSV := Lib.hid hsv
  have hrl := readyS_len g d
  have HLT := Lib.hid (readyS_lt (g := g) (d := d))
  clear hv hsv
  generalize hq : readyS g d = rd at HF hrl HLT
  have HQ := Lib.hid hq
  clear hq
  go_enter Tryd.func15, Tryd.ntmps15
  go_wp2_with (first | (go_at_call 36; refine (validDone_is _ _ _ _ _ _ _ HV _ HR.out HR'.out).mono ?_; rintro e w1 ⟨rfl, hB1⟩) | (go_at_call 38; refine (sready_calls _ _ _ _ _ _ h8 _ (Kd.C_below HR.out hB1) (Kd.C_below HR'.out hB1)).mono ?_; rintro e w2 ⟨v2, rfl, hR2, hB2⟩; rw [HQ.out] at hR2; obtain ⟨A2, c2, rfl, hl2, hC2⟩ := Kd.R_reads hR2; rw [ints_length] at hC2; rw [ints_length]; have hB3 := hB1.trans (hB2.mono hB1.size); clear hR2 hl2) | (go_at_call 37; refine (byTail_calls _ _ _ HSV.out _ _ rd HLT.out (by omega) _ (Kd.C_below HR.out hB3) hC2).mono ?_; rintro e w4 ⟨v4, rfl, hR4, hB4⟩))
  go_ret
  exact ⟨_, rfl, by rw [HF.out]; exact Kd.R_lower hR4 hB3.size, hB3.trans (hB4.mono hB3.size)⟩
set_option maxRecDepth 100000 in
set_option maxHeartbeats 4000000 in
theorem sFinishTask_any (A : Option Addr) (c : Nat) (g : List Tk) (A' : Option Addr) (c' : Nat) (d : List Int) (n : Int) (w : World) (hr : kTk.C w A g.length g) (hr' : (Kd.int .i64).C w A' d.length d) :
  Calls Tryd.prog 85 #[.slice A g.length c, .slice A' d.length c', .int .i64 n] w fun e w' => ∃ v b l, e = .returned (.tuple #[v, .bool b]) ∧ Kd.R (Kd.int .i64) 3 w' w.heap.size (fun _ => True) v l ∧ l.length ≤ 8 ∧ Below w.heap.size w w' := by
 have HR := Lib.hid hr
 have HR' := Lib.hid hr'
 clear hr hr'
 have hB0 : Below w.heap.size w (w.alloc (.cells #[] 3)) := (Below.refl _ _).alloc (Nat.le_refl _) _
 have hO0 : Kd.R (Kd.int .i64) 3 (w.alloc (.cells #[] 3)) w.heap.size (fun _ => True) (.slice (some ⟨w.heap.size, 0, none⟩) 0 0) (ints []) := Kd.R_of_own (World.ownsRow_lit (base := w.heap.size) (size := 1) w #[] 0 (Nat.le_refl _) (by simp [maxLen]) rfl) (fun _ _ => trivial)
 have HO0 := Lib.hid hO0
 have hz0 : (w.alloc (.cells #[] 3)).heap.size = w.heap.size + 1 := by simp
 have HB0 := Lib.hid hB0
 have HZ0 := Lib.hid hz0
 clear hO0 hz0 hB0
 cases hv : vDoneB g d
 ·
  have HV := Lib.hid hv
  clear hv
  go_enter Tryd.func85, Tryd.ntmps85
  go_wp2_with (go_at_call 36; refine (validDone_is _ _ _ _ _ _ _ HV _ (Kd.C_below HR.out HB0.out) (Kd.C_below HR'.out HB0.out)).mono ?_; rintro e w1 ⟨rfl, hB1⟩)
  go_ret2
  exact ⟨_, _, [], rfl, Kd.R_nil _ _ _ _ _, by simp, HB0.out.trans (hB1.mono (by have := HZ0.out; omega))⟩
 ·
  have HV := Lib.hid hv
  have h8 := specValid_len (vDone_valid hv)
  clear hv
  cases hi : decide (n ∈ ints (readyS g d))
  ·
   have HI := Lib.hid hi
   clear hi
   go_enter Tryd.func85, Tryd.ntmps85
   go_wp2_with (first | (go_at_call 36; refine (validDone_is _ _ _ _ _ _ _ HV _ (Kd.C_below HR.out HB0.out) (Kd.C_below HR'.out HB0.out)).mono ?_; rintro e w1 ⟨rfl, hB1⟩; have hB2 := HB0.out.trans (hB1.mono (by have := HZ0.out; omega))) | (go_at_call 38; refine (sready_calls _ _ _ _ _ _ h8 _ (Kd.C_below HR.out hB2) (Kd.C_below HR'.out hB2)).mono ?_; rintro e w3 ⟨v3, rfl, hR3, hB3⟩; obtain ⟨A3, c3, rfl, hl3, hC3⟩ := Kd.R_reads hR3; have hB4 := hB2.trans (hB3.mono hB2.size); clear hR3) | (go_at_call 68; refine (isIn_is _ _ _ _ _ HI _ hC3).mono ?_; rintro e w' ⟨rfl, rfl⟩))
   go_ret2
   exact ⟨_, _, [], rfl, Kd.R_nil _ _ _ _ _, by simp, hB4⟩
  ·
   have HI := Lib.hid hi
   clear hi
   go_enter Tryd.func85, Tryd.ntmps85
   go_wp2_with (first | (go_at_call 36; refine (validDone_is _ _ _ _ _ _ _ HV _ (Kd.C_below HR.out HB0.out) (Kd.C_below HR'.out HB0.out)).mono ?_; rintro e w1 ⟨rfl, hB1⟩; have hO1 := Kd.R_below HO0.out hB1; have hB2 := HB0.out.trans (hB1.mono (by have := HZ0.out; omega))) | (go_at_call 38; refine (sready_calls _ _ _ _ _ _ h8 _ (Kd.C_below HR.out hB2) (Kd.C_below HR'.out hB2)).mono ?_; rintro e w3 ⟨v3, rfl, hR3, hB3⟩; obtain ⟨A3, c3, rfl, hl3, hC3⟩ := Kd.R_reads hR3; have hO3 := Kd.R_below hO1 hB3; have hB4 := hB2.trans (hB3.mono hB2.size); clear hR3) | (go_at_call 68; refine (isIn_is _ _ _ _ _ HI _ hC3).mono ?_; rintro e w' ⟨rfl, rfl⟩))
   go_loopw [8, 9] (fun out i wr => ∃ j l, j ≤ g.length ∧ i = .int .i64 (j : Nat) ∧ l.length ≤ j ∧ Kd.R (Kd.int .i64) 3 wr w.heap.size (fun _ => True) out l ∧ Below w.heap.size w wr) (fun _ i _ => g.length - (intOf i).toNat)
   case atStart => exact ⟨0, [], Nat.zero_le _, rfl, Nat.le_refl _, hO3, hB4⟩
   case round =>
    clear hO1 hO3 hB4 hB2 hB1 hC3 hB3
    obtain ⟨j, l, hj, rfl, hlj, hO, hB⟩ := hrel
    by_cases hjl : j < g.length
    ·
     have hjj : decide ((j : Int) < (g.length : Int)) = true := decide_eq_true (by omega)
     have HD' := Lib.hid (Kd.C_below HR'.out hB)
     cases hm : decide ((j : Int) ∈ d)
     ·
      have HM := Lib.hid hm
      clear hm
      by_cases hn : (j : Int) = n
      ·
       have dn : ((j : Int) == n) = true := beq_iff_eq.2 hn
       clear hn
       go_wp2_with (first | (go_at_call 68; refine (isIn_is _ _ _ _ _ HM _ HD'.out).mono ?_; rintro e w' ⟨rfl, rfl⟩) | (at_builtin; refine ap_int (w0 := w) w.heap.size rfl _ _ rfl u8 l (j : Int) rfl rfl rfl hO hB hB.size (by omega) ?_; intro v1 w4 hO4 hB4 hg4 hat4; clear hg4 hat4))
       go_roundw
       case rel => exact ⟨j + 1, l ++ [(j : Int)], by omega, by go_num, by simp; omega, hO4, hB4⟩
       case measure => simp [intOf]; omega
      ·
       have dn : ((j : Int) == n) = false := by rw [beq_eq_false_iff_ne]; exact hn
       clear hn
       go_wp2_with (first | (go_at_call 68; refine (isIn_is _ _ _ _ _ HM _ HD'.out).mono ?_; rintro e w' ⟨rfl, rfl⟩))
       go_roundw
       case rel => exact ⟨j + 1, l, by omega, by go_num, by omega, hO, hB⟩
       case measure => simp [intOf]; omega
     ·
      have HM := Lib.hid hm
      clear hm
      by_cases hn : (j : Int) = n
      ·
       have dn : ((j : Int) == n) = true := beq_iff_eq.2 hn
       clear hn
       go_wp2_with (first | (go_at_call 68; refine (isIn_is _ _ _ _ _ HM _ HD'.out).mono ?_; rintro e w' ⟨rfl, rfl⟩) | (at_builtin; refine ap_int (w0 := w) w.heap.size rfl _ _ rfl u8 l (j : Int) rfl rfl rfl hO hB hB.size (by omega) ?_; intro v1 w4 hO4 hB4 hg4 hat4; clear hg4 hat4))
       go_roundw
       case rel => exact ⟨j + 1, l ++ [(j : Int)], by omega, by go_num, by simp; omega, hO4, hB4⟩
       case measure => simp [intOf]; omega
      ·
       have dn : ((j : Int) == n) = false := by rw [beq_eq_false_iff_ne]; exact hn
       clear hn
       go_wp2_with (first | (go_at_call 68; refine (isIn_is _ _ _ _ _ HM _ HD'.out).mono ?_; rintro e w' ⟨rfl, rfl⟩) | (at_builtin; refine ap_int (w0 := w) w.heap.size rfl _ _ rfl u8 l (j : Int) rfl rfl rfl hO hB hB.size (by omega) ?_; intro v1 w4 hO4 hB4 hg4 hat4; clear hg4 hat4))
       go_roundw
       case rel => exact ⟨j + 1, l ++ [(j : Int)], by omega, by go_num, by simp; omega, hO4, hB4⟩
       case measure => simp [intOf]; omega
    ·
     obtain rfl : j = g.length := by omega
     have hjj : decide ((g.length : Int) < (g.length : Int)) = false := decide_eq_false (by omega)
     go_wp2
     go_ret2
     exact ⟨_, _, l, rfl, hO, by omega, hB⟩
end Go.Proofs.YtlcdffhhimbbmaaDoor

namespace Go.Proofs.YtlcdffhhimbbmaaDoor
set_option linter.unusedVariables false
set_option linter.unusedSimpArgs false
open Go.RowKit Go.Shelf Bits
theorem filter_rangeR {P : Nat → Bool} {n : Nat} (h : ∀ i, P i = true → i < n) : ∀ d, (List.range (n + d)).filter P = (List.range n).filter P
 | 0 => rfl
 | d + 1 => by
  rw [← Nat.add_assoc, List.range_succ, List.filter_append, filter_rangeR h d]
  have : P (n + d) = false := by
   cases hp : P (n + d) with
   | false => rfl
   | true => have := h _ hp; omega
  simp [this]
theorem needs_in {g : List Tk} {ns : List Nat} (hg : graphN g = some ns) {l : List Int} {s : Nat} (hs : ∀ j : Nat, s.testBit j = decide ((j : Int) ∈ l)) {i : Nat} (hi : i < g.length) : decide (diff (ns.getD i 0) s = 0) = allDoneB (rdTk g i).f1 l := by
 rw [Bool.eq_iff_iff, decide_eq_true_iff, diff_zero]
 unfold allDoneB
 rw [List.all_eq_true]
 obtain ⟨_, _, hn⟩ := graphN_all hg
 constructor
 ·
  intro h x hx
  obtain ⟨hx0, hx1⟩ := setOfL_mem _ _ _ _ _ (by omega) (hn i hi).2 x hx
  have hxe : x = ((x.toNat : Nat) : Int) := by omega
  have := h x.toNat (by rw [need_bit hg hi]; exact decide_eq_true (by rw [← hxe]; exact hx))
  rw [hs] at this
  rw [hxe]
  exact this
 ·
  intro h j hj
  rw [need_bit hg hi] at hj
  rw [hs]
  exact h _ (of_decide_eq_true hj)
theorem doneN_eq (g : List Tk) (l : List Int) : vDoneB g l = (doneN g l).isSome := by
 unfold vDoneB
 rw [specValid_eq]
 cases hg : graphN g with
 | none =>
  rw [show doneN g l = none by unfold doneN; rw [hg]; rfl]
  rfl
 | some ns =>
  rw [show (some ns).isSome = true from rfl, Bool.true_and]
  have h1 := setOfN_isSome l g.length
  cases hs : setOfN l g.length with
  | none =>
   rw [hs] at h1
   rw [show doneN g l = none by unfold doneN; rw [hg]; show (setOfN l g.length).bind _ = none; rw [hs]; rfl]
   cases ha : ascB l
   ·
    rfl
   ·
    rw [ha, Bool.and_true] at h1
    rw [← h1]
    rfl
  | some s =>
   rw [hs] at h1
   have h2 : allInB l 0 (g.length - 1) = true ∧ ascB l = true := by rw [← Bool.and_eq_true]; exact h1.symm
   rw [h2.1, h2.2, Bool.true_and, Bool.true_and, graph_some_lt hg hs]
   have hb : ∀ j : Nat, s.testBit j = decide ((j : Int) ∈ l) := fun j => setOfN_bits hs j
   have hin := setOfL_mem _ _ _ _ _ (by omega) hs
   have h8 := (graphN_all hg).1
   have hc : closedN ns s = l.all fun x => allDoneB (rdTk g x.toNat).f1 l := by
    unfold closedN
    rw [Bool.eq_iff_iff, List.all_eq_true, List.all_eq_true]
    constructor
    ·
     intro h x hx
     obtain ⟨x0, x1⟩ := hin x hx
     have hxe : x = ((x.toNat : Nat) : Int) := by omega
     rw [← needs_in hg hb (by omega)]
     exact h x.toNat (mem_elems.2 ⟨by omega, by rw [hb, ← hxe]; exact decide_eq_true hx⟩)
    ·
     intro h i hi
     have hil := of_decide_eq_true ((hb i).symm.trans (elems_bit hi))
     obtain ⟨i0, i1⟩ := hin _ hil
     show needsIn ns s i = true
     unfold needsIn
     rw [needs_in hg hb (by omega)]
     exact h _ hil
   rw [← hc]
   cases closedN ns s <;> rfl
theorem readyN_eq {g : List Tk} {l : List Int} {ns : List Nat} {s : Nat} (hd : doneN g l = some (ns, s)) : elems (readyN ns s) = readyS g l := by
 obtain ⟨hg, hs, hc⟩ := doneN_facts hd
 obtain ⟨h8, hn, _⟩ := graphN_all hg
 have hb : ∀ j : Nat, s.testBit j = decide ((j : Int) ∈ l) := fun j => setOfN_bits hs j
 unfold elems readyS
 have e : ∀ i, (readyN ns s).testBit i = (decide (i < g.length) && rdB g l i) := fun i => by
  rw [readyN_bit, hn]
  by_cases hi : i < g.length
  ·
   rw [decide_eq_true hi, Bool.true_and, Bool.true_and]
   unfold isReady rdB
   rw [hb, needs_in hg hb hi]
  ·
   rw [decide_eq_false hi]
   rfl
 have h1 := filter_rangeR (P := (readyN ns s).testBit) (n := g.length) (fun i hi => by
  rw [e, Bool.and_eq_true] at hi
  exact of_decide_eq_true hi.1) (16 - g.length)
 rw [show g.length + (16 - g.length) = 16 by omega] at h1
 show (List.range 16).filter (readyN ns s).testBit = _
 rw [h1]
 apply List.filter_congr
 intro i hi
 rw [e, decide_eq_true (List.mem_range.1 hi), Bool.true_and]
theorem bubL_sorted (T : List Int) : ∀ (k : Nat) (A B : List Nat) (x : Nat), A.length = k → (A ++ B).Pairwise (leT T) → (∀ b ∈ B, leT T x b) → (bubL T k (A ++ x :: B)).Pairwise (leT T)
 | 0, A, B, x, hA, hs, hx => by
  obtain rfl : A = [] := List.eq_nil_of_length_eq_zero hA
  show (x :: B).Pairwise (leT T)
  exact List.pairwise_cons.2 ⟨hx, by simpa using hs⟩
 | k + 1, A, B, x, hA, hs, hx => by
  obtain ⟨A', y, rfl⟩ : ∃ A' y, A = A' ++ [y] := ⟨A.dropLast, A.getLast (by intro h; rw [h] at hA; simp at hA), (List.dropLast_concat_getLast _).symm⟩
  have hA' : A'.length = k := by simpa using hA
  have e1 : (A' ++ [y] ++ x :: B).getD (k + 1) 0 = x := by
   rw [List.getD_eq_getElem?_getD, ← hA', show A' ++ [y] ++ x :: B = (A' ++ [y]) ++ x :: B from rfl, List.getElem?_append_right (by simp)]
   simp
  have e2 : (A' ++ [y] ++ x :: B).getD k 0 = y := by
   rw [List.getD_eq_getElem?_getD, ← hA']
   simp
  unfold bubL
  rw [e1, e2]
  have hpw : (A' ++ (y :: B)).Pairwise (leT T) := by simpa using hs
  obtain ⟨p1, p2, p3⟩ := List.pairwise_append.1 hpw
  obtain ⟨p4, p5⟩ := List.pairwise_cons.1 p2
  by_cases hl : lessB T x y = true
  ·
   rw [if_pos hl]
   have e3 : swapL (A' ++ [y] ++ x :: B) k (k + 1) = A' ++ x :: (y :: B) := by
    unfold swapL
    rw [e1, e2, ← hA']
    simp [List.set_append]
   rw [e3]
   exact bubL_sorted T k A' (y :: B) x hA' hpw (fun b hb => by
    rcases List.mem_cons.1 hb with rfl | hb
    ·
     exact less_true hl
    ·
     exact (less_true hl).trans (p4 b hb))
  ·
   rw [if_neg hl]
   have hyx : leT T y x := less_false.1 (by simpa using hl)
   have : (A' ++ [y] ++ x :: B) = A' ++ (y :: x :: B) := by simp
   rw [this]
   refine List.pairwise_append.2 ⟨p1, List.pairwise_cons.2 ⟨fun b hb => ?_, List.pairwise_cons.2 ⟨hx, p5⟩⟩, fun a ha b hb => ?_⟩
   ·
    rcases List.mem_cons.1 hb with rfl | hb
    ·
     exact hyx
    ·
     exact p4 b hb
   ·
    rcases List.mem_cons.1 hb with rfl | hb
    ·
     exact p3 a ha _ (List.mem_cons_self ..)
    ·
     rcases List.mem_cons.1 hb with rfl | hb
     ·
      exact (p3 a ha y (List.mem_cons_self ..)).trans hyx
     ·
      exact p3 a ha b (List.mem_cons_of_mem _ hb)
theorem insL_sortedA (T : List Int) : ∀ (xs acc : List Nat), acc.Pairwise (leT T) → (xs.foldl (fun out x => bubL T out.length (out ++ [x])) acc).Pairwise (leT T)
 | [], acc, h => h
 | x :: xs, acc, h => insL_sortedA T xs _ (bubL_sorted T acc.length acc [] x rfl (by simpa using h) (fun b hb => by cases hb))
theorem insL_sorted (T : List Int) (xs : List Nat) : (insL T xs).Pairwise (leT T) := insL_sortedA T xs [] List.Pairwise.nil
theorem rank_ins (T : List Int) (xs : List Nat) : rankL T xs = insL T xs :=
 rank_unique (rank_sorted T xs).1 (insL_sorted T xs) ((rank_sorted T xs).2.trans (insL_perm T xs).symm)
theorem rdOrd_eq (g : List Tk) (l : List Int) : rdOrdN g l = ints (sRdOrd g l) := by
 unfold rdOrdN sRdOrd
 rw [doneN_eq]
 cases hd : doneN g l with
 | none => rfl
 | some p =>
  obtain ⟨ns, s⟩ := p
  rw [if_pos (show (some (ns, s)).isSome = true from rfl), ← tailN_eq (doneN_facts hd).1, ← readyN_eq hd, ← rank_ins]
theorem rdTasks_eq (g : List Tk) (l : List Int) : rdTasksN g l = ints (sRdTasks g l) := by
 unfold rdTasksN sRdTasks
 rw [doneN_eq]
 cases hd : doneN g l with
 | none => rfl
 | some p =>
  obtain ⟨ns, s⟩ := p
  rw [if_pos (show (some (ns, s)).isSome = true from rfl), ← readyN_eq hd]
  rfl
end Go.Proofs.YtlcdffhhimbbmaaDoor

namespace Go.Proofs.YtlcdffhhimbbmaaDoor.PFnValidLog
set_option linter.unusedVariables false
set_option linter.unusedSimpArgs false
open Go Go.RowKit
open Go.Proofs.YtlcdffhhimbbmaaDoorW.PrintWords Go.Proofs.YtlcdffhhimbbmaaDoorW.PrintLast Go.Proofs.YtlcdffhhimbbmaaDoorW.PrintMore
def Gets {α : Type} (g : Nat → Option α) (P : α → Prop) : Prop := ∃ k0 r, P r ∧ ∀ k, k0 ≤ k → g k = some r
section
variable {α β : Type} {P Q : α → Prop} {f g : Nat → Option α}
theorem Gets.ret {r : α} (h : P r) : Gets (fun _ => some r) P := ⟨0, r, h, fun _ _ => rfl⟩
theorem Gets.bind {h : Nat → α → Option β} {R : β → Prop} (hg : Gets g P) (hh : ∀ x, P x → Gets (fun k => h k x) R) : Gets (fun k => (g k).bind (h k)) R := by
 obtain ⟨k0, r, hr, h0⟩ := hg
 obtain ⟨k1, s, hs, h1⟩ := hh r hr
 refine ⟨k0 + k1, s, hs, fun k hk => ?_⟩
 show (g k).bind (h k) = some s
 rw [h0 k (by omega), Option.bind_some]
 exact h1 k (by omega)
theorem Gets.step (e : ∀ k, f (k + 1) = g k) (h : Gets g P) : Gets f P := by
 obtain ⟨k0, r, hr, h0⟩ := h
 refine ⟨k0 + 1, r, hr, fun k hk => ?_⟩
 obtain ⟨m, rfl⟩ : ∃ m, k = m + 1 := ⟨k - 1, by omega⟩
 rw [e, h0 m (by omega)]
theorem Gets.pos {c : Prop} [Decidable c] (hc : c) (h : Gets f P) : Gets (fun k => if c then f k else g k) P := by
 obtain ⟨k0, r, hr, h0⟩ := h
 exact ⟨k0, r, hr, fun k hk => (if_pos hc).trans (h0 k hk)⟩
theorem Gets.neg {c : Prop} [Decidable c] (hc : ¬ c) (h : Gets g P) : Gets (fun k => if c then f k else g k) P := by
 obtain ⟨k0, r, hr, h0⟩ := h
 exact ⟨k0, r, hr, fun k hk => (if_neg hc).trans (h0 k hk)⟩
theorem Gets.ite {c : Prop} [Decidable c] (ha : c → Gets f P) (hb : ¬ c → Gets g P) : Gets (fun k => if c then f k else g k) P := by
 by_cases hc : c
 ·
  exact Gets.pos hc (ha hc)
 ·
  exact Gets.neg hc (hb hc)
theorem Gets.mono (h : Gets g P) (hp : ∀ r, P r → Q r) : Gets g Q := by
 obtain ⟨k0, r, hr, h0⟩ := h
 exact ⟨k0, r, hp r hr, h0⟩
theorem Gets.congr (h : Gets g P) (e : ∀ k, f k = g k) : Gets f P := by
 obtain ⟨k0, r, hr, h0⟩ := h
 exact ⟨k0, r, hr, fun k hk => (e k).trans (h0 k hk)⟩
theorem Gets.at (h : Gets g P) : ∃ k r, P r ∧ g k = some r := by
 obtain ⟨k0, r, hr, h0⟩ := h
 exact ⟨k0, r, hr, h0 k0 (Nat.le_refl _)⟩
end
theorem w64 {x : Int} (h : -9223372036854775808 ≤ x) (h' : x < 9223372036854775808) : wrap64 x = x := by unfold wrap64; omega
theorem xor_nonneg {a b : Int} (ha : 0 ≤ a) (ha' : a < 4611686018427387904) (hb : 0 ≤ b) (hb' : b < 4611686018427387904) : 0 ≤ Go.bits .xor .i64 a b ∧ Go.bits .xor .i64 a b < 4611686018427387904 := by
 obtain ⟨a, rfl⟩ := Int.eq_ofNat_of_zero_le ha
 obtain ⟨b, rfl⟩ := Int.eq_ofNat_of_zero_le hb
 have ha2 : a < 2 ^ 62 := by
  have : (2 : Nat) ^ 62 = 4611686018427387904 := by decide
  omega
 have hb2 : b < 2 ^ 62 := by
  have : (2 : Nat) ^ 62 = 4611686018427387904 := by decide
  omega
 have hx : a ^^^ b < 2 ^ 62 := Nat.xor_lt_two_pow ha2 hb2
 have h64 : (2 : Nat) ^ 62 = 4611686018427387904 := by decide
 have e1 : a % 2 ^ 64 = a := Nat.mod_eq_of_lt (Nat.lt_of_lt_of_le ha2 (by decide))
 have e2 : b % 2 ^ 64 = b := Nat.mod_eq_of_lt (Nat.lt_of_lt_of_le hb2 (by decide))
 have e : Go.bits .xor .i64 (a : Int) (b : Int) = ((a ^^^ b : Nat) : Int) := by
  have hb : IntKind.i64.bits = 64 := rfl
  simp only [Go.bits, hb, BitVec.ofInt_natCast, BitVec.toNat_xor, BitVec.toNat_ofNat, e1, e2]
  rw [IntKind.wrap_i64]
  omega
 rw [e]
 omega
theorem rd_byte {b : List Int} (hb : ∀ x ∈ b, 0 ≤ x ∧ x < 256) (i : Int) : 0 ≤ rd b i ∧ rd b i < 256 := by
 unfold rd
 rw [List.getD_eq_getElem?_getD]
 cases h : b[i.toNat]? with
 | none => exact ⟨Int.le_refl _, by decide⟩
 | some x => exact hb x (List.mem_of_getElem? h)
def Picked (n p : Int) (r : Int × Int) : Prop := 0 ≤ r.1 ∧ (0 < n → r.1 < n) ∧ (n ≤ 0 → r.1 = 0) ∧ r.2 = p + 1
theorem pick_gets {b : List Int} (hb : ∀ x ∈ b, 0 ≤ x ∧ x < 256) (hl : b.length ≤ 2000) {p n : Int} (h0 : 0 ≤ p) (h1 : p ≤ 1000000) : Gets (fun k => spec_reader_pick.f k b p n) (Picked n p) := by
 have e1 : wrap64 (p + 1) = p + 1 := w64 (by omega) (by omega)
 have e2 : wrap64 (p + 1 - 1) = p := by rw [w64 (by omega) (by omega)]; omega
 unfold spec_reader_pick.f
 rw [e1]
 refine Gets.ite (fun hn => ?_) (fun hn => ?_)
 ·
  refine Gets.step (fun k => by rw [spec_reader_pick.j0]) ?_
  refine Gets.pos rfl (Gets.ret ⟨Int.le_refl _, fun h => by omega, fun _ => rfl, rfl⟩)
 ·
  by_cases hz : b.length = 0
  ·
   refine Gets.step (fun k => by rw [spec_reader_pick.j0]) ?_
   refine Gets.pos (by simp [hz]) (Gets.ret ⟨Int.le_refl _, fun h => by omega, fun _ => rfl, rfl⟩)
  ·
   refine Gets.step (fun k => by rw [spec_reader_pick.j0]) ?_
   refine Gets.neg (by simp [hz]) ?_
   rw [e2]
   refine Gets.ite (fun hp => ?_) (fun hp => ?_)
   ·
    refine Gets.pos h0 (Gets.neg (by omega) (Gets.ret ?_))
    have hr := rd_byte hb p
    rw [w64 (by omega) (by omega)]
    exact ⟨Int.tmod_nonneg _ hr.1, fun h => Int.tmod_lt_of_pos _ h, fun h => by omega, rfl⟩
   ·
    have hL : (0 : Int) < (b.length : Int) := by omega
    have m1 := Int.tmod_nonneg (b.length : Int) h0
    have m2 := Int.tmod_lt_of_pos p hL
    have e3 : wrap64 (p * 7) = p * 7 := w64 (by omega) (by omega)
    have e4 : wrap64 (p * 7 + 3) = p * 7 + 3 := w64 (by omega) (by omega)
    rw [e3, e4]
    have m3 := Int.tmod_nonneg (b.length : Int) (show 0 ≤ p * 7 + 3 by omega)
    have m4 := Int.tmod_lt_of_pos (p * 7 + 3) hL
    refine Gets.neg (by omega) (Gets.pos m1 (Gets.pos m2 (Gets.pos m3 (Gets.pos m4 (Gets.neg (by omega) (Gets.ret ?_))))))
    have q1 := rd_byte hb (Int.tmod p b.length)
    have q2 := rd_byte hb (Int.tmod (p * 7 + 3) b.length)
    have q3 : 0 ≤ Int.tdiv p b.length := Int.tdiv_nonneg h0 (by omega)
    have q4 : Int.tdiv p b.length ≤ p := by
     rw [Int.tdiv_eq_ediv_of_nonneg h0]
     exact Int.ediv_le_self _ h0
    generalize rd b (Int.tmod p b.length) = u at q1 ⊢
    generalize rd b (Int.tmod (p * 7 + 3) b.length) = v at q2 ⊢
    generalize Int.tdiv p b.length = d at q3 q4 ⊢
    rw [w64 (x := u) (by omega) (by omega), w64 (x := v) (by omega) (by omega), w64 (x := d) (by omega) (by omega), w64 (x := u * 131) (by omega) (by omega), w64 (x := v * 1117) (by omega) (by omega), w64 (x := p * 29) (by omega) (by omega), w64 (x := d * 53) (by omega) (by omega), w64 (x := u * 131 + v * 1117) (by omega) (by omega), w64 (x := u * 131 + v * 1117 + p * 29) (by omega) (by omega), w64 (x := u * 131 + v * 1117 + p * 29 + d * 53) (by omega) (by omega)]
    have x0 : 0 ≤ u * 131 + v * 1117 + p * 29 + d * 53 ∧ u * 131 + v * 1117 + p * 29 + d * 53 < 1000000000 := by omega
    generalize u * 131 + v * 1117 + p * 29 + d * 53 = x at x0 ⊢
    have y1 : 0 ≤ Int.tdiv x 64 := Int.tdiv_nonneg x0.1 (by omega)
    have y2 : Int.tdiv x 64 ≤ x := by
     rw [Int.tdiv_eq_ediv_of_nonneg x0.1]
     exact Int.ediv_le_self _ x0.1
    rw [w64 (x := Int.tdiv x 64) (by omega) (by omega)]
    have z := xor_nonneg x0.1 (by omega) y1 (by omega)
    exact ⟨Int.tmod_nonneg _ z.1, fun h => Int.tmod_lt_of_pos _ h, fun h => by omega, rfl⟩
theorem one_gets {b : List Int} (hb : ∀ x ∈ b, 0 ≤ x ∧ x < 256) (hl : b.length ≤ 2000) {p : Int} {l : List Int} (h0 : 0 ≤ p) (h1 : p ≤ 1000000) (hp : 0 < l.length) : Gets (fun k => spec_reader_one.f k b p l) (fun r => r.1 ∈ l ∧ r.2 = p + 1) := by
 unfold spec_reader_one.f
 refine Gets.bind (pick_gets hb hl h0 h1) fun x hx => ?_
 obtain ⟨x1, x2, x3, x4⟩ := hx
 have := x2 (by omega)
 refine Gets.pos x1 (Gets.pos this (Gets.ret ⟨?_, x4⟩))
 unfold rd
 rw [List.getD_eq_getElem?_getD, List.getElem?_eq_getElem (by omega : x.1.toNat < l.length)]
 exact List.getElem_mem _
end Go.Proofs.YtlcdffhhimbbmaaDoor.PFnValidLog

namespace Go.Proofs.YtlcdffhhimbbmaaDoor.PFnValidLog
set_option linter.unusedVariables false
set_option linter.unusedSimpArgs false
open Go Go.RowKit
open Go.Proofs.YtlcdffhhimbbmaaDoorW.PrintWords Go.Proofs.YtlcdffhhimbbmaaDoorW.PrintLast Go.Proofs.YtlcdffhhimbbmaaDoorW.PrintMore
def GOk (m n : Nat) (g : List S41) : Prop := g.length ≤ m ∧ ∀ t ∈ g, t.f1.length ≤ n
theorem rdT_mem {g : List S41} {i : Int} (h0 : 0 ≤ i) (h1 : i < g.length) : rd_T41 g i ∈ g := by
 unfold rd_T41
 rw [List.getD_eq_getElem?_getD, List.getElem?_eq_getElem (by omega : i.toNat < g.length)]
 exact List.getElem_mem _
theorem GOk_snoc {m n : Nat} {g : List S41} {t : S41} (h : GOk m n g) (ht : t.f1.length ≤ n) : GOk (m + 1) n (g ++ [t]) := by
 refine ⟨by have := h.1; simp; omega, fun x hx => ?_⟩
 rcases List.mem_append.1 hx with hx | hx
 ·
  exact h.2 x hx
 ·
  rw [List.mem_singleton.1 hx]; exact ht
section
variable {P : List S41 → Prop}
theorem turned_l1 (x0 x3 : List S41) (x4 x5 a0 a2 a3 : Int) (a1 : List Int) (h3 : x3.length < 1000) (ha : a1.length ≤ 1000)
  (hk : ∀ ns : List Int, ns.length ≤ a1.length → Gets (fun k => spec_turned.l0 k x0 (x3 ++ [(⟨a0, ns, a2, a3⟩ : S41)]) x4 (wrap64 (x5 - 1))) P) :
  ∀ (n : Nat) (x7 : List Int) (x8 : Int), x8 + 1 = n → x7.length + n ≤ a1.length → Gets (fun k => spec_turned.l1 k x0 x3 x4 x5 x7 x8 a0 a1 a2 a3) P
 | 0, x7, x8, h8, h7 => by
  refine Gets.step (fun k => by rw [spec_turned.l1]) ?_
  exact Gets.neg (by omega) (Gets.pos (by omega) (hk x7 (by omega)))
 | n + 1, x7, x8, h8, h7 => by
  refine Gets.step (fun k => by rw [spec_turned.l1]) ?_
  refine Gets.pos (by omega) (Gets.pos (by omega) (Gets.pos (by omega) (Gets.pos (by omega) ?_)))
  rw [w64 (x := x8 - 1) (by omega) (by omega)]
  exact turned_l1 x0 x3 x4 x5 a0 a2 a3 a1 h3 ha hk n _ (x8 - 1) (by omega) (by simp; omega)
end
theorem turned_l0 {N : Nat} (x0 : List S41) (h0 : GOk 1000 N x0) (hN : N ≤ 1000) (x4 : Int) : ∀ (n : Nat) (x3 : List S41) (x5 : Int), x5 + 1 = n → n ≤ x0.length → GOk (x0.length - n) N x3 →
  Gets (fun k => spec_turned.l0 k x0 x3 x4 x5) (fun r => GOk x0.length N r)
 | 0, x3, x5, h5, hn, h3 => by
  refine Gets.step (fun k => by rw [spec_turned.l0]) ?_
  exact Gets.neg (by omega) (Gets.ret h3)
 | n + 1, x3, x5, h5, hn, h3 => by
  have hx := h0.1
  have h31 := h3.1
  have hm := h0.2 _ (rdT_mem (show 0 ≤ x5 by omega) (show x5 < x0.length by omega))
  refine Gets.step (fun k => by rw [spec_turned.l0]) ?_
  refine Gets.pos (by omega) (Gets.pos (by omega) (Gets.pos (by omega) ?_))
  refine turned_l1 x0 x3 x4 x5 _ _ _ _ (by omega) (by omega) (fun ns hns => ?_) (rd_T41 x0 x5).f1.length [] _ ?_ (by simp)
  ·
   rw [w64 (x := x5 - 1) (by omega) (by omega)]
   refine turned_l0 x0 h0 hN x4 n _ (x5 - 1) (by omega) (by omega) ?_
   have := GOk_snoc (t := ⟨(rd_T41 x0 x5).f0, ns, (rd_T41 x0 x5).f2, (rd_T41 x0 x5).f3⟩) h3 (Nat.le_trans hns hm)
   rw [show x0.length - n = x0.length - (n + 1) + 1 by omega]
   exact this
  ·
   rw [w64 (by omega) (by omega)]
   omega
theorem turned_gets {N : Nat} (g : List S41) (h0 : GOk 1000 N g) (hN : N ≤ 1000) : Gets (fun k => spec_turned.f k g) (fun r => GOk g.length N r) := by
 have hx := h0.1
 unfold spec_turned.f
 rw [w64 (by omega) (by omega)]
 exact turned_l0 g h0 hN _ g.length [] _ (by omega) (Nat.le_refl _) ⟨by simp, fun t ht => by cases ht⟩
section
variable {b : List Int} (hb : ∀ x ∈ b, 0 ≤ x ∧ x < 256) (hl : b.length ≤ 2000)
include hb hl
theorem someGraph_l1 {P : List S41 × Int → Prop} (x5 : List S41) (h5 : x5.length ≤ 7) (x6 a0 a2 a3 : Int) (p0 : Int) (hp0 : 0 ≤ p0) (hp1 : p0 ≤ 900000)
  (hk : ∀ (ns : List Int) (p : Int), ns.length ≤ 8 → p0 ≤ p → p ≤ p0 + 8 → Gets (fun k => spec_someGraph.l0 k (x5 ++ [(⟨a0, ns, a2, a3⟩ : S41)]) (wrap64 (x6 - 1)) b p) P) :
  ∀ (n : Nat) (x8 : Int) (p : Int) (ns : List Int), 0 ≤ x8 → x8 + n = x5.length → p0 ≤ p → p ≤ p0 + x8 → ns.length ≤ x8.toNat → Gets (fun k => spec_someGraph.l1 k x5 x6 x8 b p a0 ns a2 a3) P
 | 0, x8, p, ns, h0, h8, h1, h2, h3 => by
  refine Gets.step (fun k => by rw [spec_someGraph.l1]) ?_
  exact Gets.neg (by omega) (Gets.pos (by omega) (hk ns p (by omega) h1 (by omega)))
 | n + 1, x8, p, ns, h0, h8, h1, h2, h3 => by
  refine Gets.step (fun k => by rw [spec_someGraph.l1]) ?_
  refine Gets.pos (by omega) ?_
  refine Gets.bind (pick_gets hb hl (by omega) (by omega)) fun r hr => ?_
  obtain ⟨r1, r2, r3, r4⟩ := hr
  rw [r4, w64 (x := x8 + 1) (by omega) (by omega)]
  refine Gets.ite (fun _ => Gets.pos (by omega) ?_) (fun _ => ?_)
  ·
   exact someGraph_l1 x5 h5 x6 a0 a2 a3 p0 hp0 hp1 hk n (x8 + 1) (p + 1) _ (by omega) (by omega) (by omega) (by omega) (by simp; omega)
  ·
   exact someGraph_l1 x5 h5 x6 a0 a2 a3 p0 hp0 hp1 hk n (x8 + 1) (p + 1) _ (by omega) (by omega) (by omega) (by omega) (by omega)
def Drawn8 (B : Int) (r : List S41 × Int) : Prop := GOk 8 8 r.1 ∧ 0 ≤ r.2 ∧ r.2 ≤ B
omit hb hl in
theorem mem6 {x : Int} {l : List Int} (h : x ∈ l) {lo hi : Int} (hall : ∀ y ∈ l, lo ≤ y ∧ y ≤ hi) : lo ≤ x ∧ x ≤ hi := hall x h
theorem someGraph_l0 (B : Int) (hB : B ≤ 900000) : ∀ (n : Nat) (x5 : List S41) (p : Int), x5.length + n ≤ 8 → GOk 8 8 x5 → 0 ≤ p → p + 12 * n + 2 ≤ B →
  Gets (fun k => spec_someGraph.l0 k x5 n b p) (Drawn8 B)
 | 0, x5, p, h5, hg, h0, h1 => by
  refine Gets.step (fun k => by rw [spec_someGraph.l0]) ?_
  refine Gets.neg (by omega) (Gets.ite (fun _ => ?_) (fun _ => Gets.ret ⟨hg, h0, by omega⟩))
  refine Gets.bind (pick_gets hb hl h0 (by omega)) fun r hr => ?_
  obtain ⟨r1, r2, r3, r4⟩ := hr
  refine Gets.ite (fun _ => ?_) (fun _ => Gets.ret ⟨hg, by omega, by omega⟩)
  refine Gets.bind (turned_gets x5 ⟨by omega, hg.2⟩ (by omega)) fun t ht => Gets.ret ⟨⟨Nat.le_trans ht.1 (by omega), ht.2⟩, by omega, by omega⟩
 | n + 1, x5, p, h5, hg, h0, h1 => by
  refine Gets.step (fun k => by rw [spec_someGraph.l0]) ?_
  refine Gets.pos (by omega) ?_
  refine Gets.bind (one_gets hb hl h0 (by omega) (by simp)) fun r hr => ?_
  obtain ⟨r1, r4⟩ := hr
  rw [r4]
  refine Gets.bind (pick_gets hb hl (by omega) (by omega)) fun s hs => ?_
  obtain ⟨s1, s2, s3, s4⟩ := hs
  rw [s4]
  refine Gets.bind (pick_gets hb hl (by omega) (by omega)) fun u hu => ?_
  obtain ⟨u1, u2, u3, u4⟩ := hu
  rw [u4]
  refine someGraph_l1 hb hl x5 (by omega) _ _ _ _ (p + 1 + 1 + 1) (by omega) (by omega) (fun ns q hns hq1 hq2 => ?_) x5.length 0 _ [] (by omega) (by omega) (by omega) (by omega) (by simp)
  rw [w64 (x := ((n + 1 : Nat) : Int) - 1) (by omega) (by omega), show ((n + 1 : Nat) : Int) - 1 = n by omega]
  have hs := GOk_snoc (t := ⟨r.1, ns, s.1, wrap64 (1 + u.1)⟩) hg (show ns.length ≤ 8 from hns)
  exact someGraph_l0 B hB n _ q (by simp; omega) ⟨by simp; omega, hs.2⟩ (by omega) (by omega)
theorem someGraph_gets (p : Int) (h0 : 0 ≤ p) (h1 : p ≤ 800000) (m : Int) (hm : m ≤ 8) : Gets (fun k => spec_someGraph.f k b p m) (Drawn8 (p + 120)) := by
 unfold spec_someGraph.f
 refine Gets.bind (one_gets hb hl h0 (by omega) (by simp)) fun r hr => ?_
 obtain ⟨r1, r4⟩ := hr
 rw [r4]
 have hr2 : r.1 ≤ 8 := (mem6 (lo := 0) (hi := 8) r1 (by decide)).2
 have hmn : mn m r.1 ≤ 8 := by unfold mn; split <;> omega
 generalize mn m r.1 = c at hmn
 by_cases hc : 0 ≤ c
 ·
  obtain ⟨c, rfl⟩ := Int.eq_ofNat_of_zero_le hc
  exact someGraph_l0 hb hl (p + 120) (by omega) c [] (p + 1) (by simp; omega) ⟨by simp, fun t ht => by cases ht⟩ (by omega) (by omega)
 ·
  refine Gets.step (fun k => by rw [spec_someGraph.l0]) ?_
  exact Gets.neg (by omega) (Gets.neg (by simp) (Gets.ret ⟨⟨by simp, fun t ht => by cases ht⟩, by omega, by omega⟩))
omit hb hl in
theorem copyInts_some (l : List Int) (h : l.length ≤ 1000000) : spec_copyInts.f l = some l := by
 unfold spec_copyInts.f
 rw [Option.bind_some, if_pos (by simp; omega)]
 rfl
theorem spoil_gets (p : Int) (h0 : 0 ≤ p) (h1 : p ≤ 900000) (l : List Int) (hll : l.length ≤ 1000) (m : Int) : Gets (fun k => spec_reader_spoil.f k b p l m) (fun r => r.1.length ≤ l.length + 1 ∧ 0 ≤ r.2 ∧ r.2 ≤ p + 3) := by
 unfold spec_reader_spoil.f
 rw [copyInts_some l (by omega)]
 simp only [Option.bind_some]
 refine Gets.bind (pick_gets hb hl h0 (by omega)) fun r hr => ?_
 obtain ⟨r1, r2, r3, r4⟩ := hr
 rw [r4]
 refine Gets.ite (fun _ => Gets.pos (by omega) (Gets.ret ⟨by simp, by omega, by omega⟩)) (fun _ => ?_)
 refine Gets.ite (fun _ => ?_) (fun _ => ?_)
 ·
  refine Gets.ite (fun h => Gets.pos (by omega) (Gets.ret ⟨by simp; omega, by omega, by omega⟩)) (fun _ => Gets.ret ⟨by simp, by omega, by omega⟩)
 ·
  refine Gets.ite (fun _ => ?_) (fun _ => Gets.ret ⟨by simp, by omega, by omega⟩)
  refine Gets.ite (fun hpos => ?_) (fun _ => Gets.ret ⟨by simp, by omega, by omega⟩)
  refine Gets.bind (pick_gets hb hl (by omega) (by omega)) fun s hs => ?_
  obtain ⟨s1, s2, s3, s4⟩ := hs
  rw [s4]
  have := s2 (by omega)
  refine Gets.bind (one_gets hb hl (by omega) (by omega) (by simp)) fun u hu => ?_
  obtain ⟨u1, u4⟩ := hu
  exact Gets.pos s1 (Gets.pos this (Gets.ret ⟨by simp, by omega, by omega⟩))
end
end Go.Proofs.YtlcdffhhimbbmaaDoor.PFnValidLog
