/- The reference's logs: eventFits, validLog, ValidLog. -/
import Derived.Test.YtpmfghbjkampkaaDoorSpec3
namespace Go.Proofs.YtpmfghbjkampkaaDoor
set_option linter.unusedVariables false
set_option linter.unusedSimpArgs false
open Go.RowKit Go.Shelf Bits
open Go.Proofs.YtpmfghbjkampkaaDoorW.PrintWords Go.Proofs.YtpmfghbjkampkaaDoorW.PrintLast Go.Proofs.YtpmfghbjkampkaaDoorW.PrintMore
def overL (l : List Ev) : List Int := (l.filter (·.f2)).map (·.f1)
def begunL (t : Int) : List Ev → Int → Int
 | [], b => b
 | e :: r, b => begunL t r (if e.f2 then b else if e.f1 = t then e.f0 else b)
theorem begunL_snoc (t : Int) (e : Ev) : ∀ (l : List Ev) (b : Int), begunL t (l ++ [e]) b = if e.f2 then begunL t l b else if e.f1 = t then e.f0 else begunL t l b
 | [], b => rfl
 | x :: l, b => by
  show begunL t (l ++ [e]) _ = _
  rw [begunL_snoc t e l]
  rfl
theorem begunL_range (t : Int) (lo hi : Int) : ∀ (l : List Ev) (b : Int), lo ≤ b → b ≤ hi → (∀ e ∈ l, lo ≤ e.f0 ∧ e.f0 ≤ hi) → lo ≤ begunL t l b ∧ begunL t l b ≤ hi
 | [], b, h1, h2, _ => ⟨h1, h2⟩
 | e :: l, b, h1, h2, h => by
  have he := h e (List.mem_cons_self ..)
  refine begunL_range t lo hi l _ ?_ ?_ (fun x hx => h x (List.mem_cons_of_mem _ hx))
  ·
   split
   ·
    exact h1
   ·
    split
    ·
     exact he.1
    ·
     exact h1
  ·
   split
   ·
    exact h2
   ·
    split
    ·
     exact he.2
    ·
     exact h2
theorem overL_snoc (l : List Ev) (e : Ev) : overL (l ++ [e]) = if e.f2 then overL l ++ [e.f1] else overL l := by
 unfold overL
 rw [List.filter_append, List.map_append]
 cases h : e.f2 <;> simp [h]
theorem overL_length (l : List Ev) : (overL l).length ≤ l.length := by unfold overL; rw [List.length_map]; exact List.length_filter_le _ _
theorem take_snocE {l : List Ev} {k : Nat} (h : k < l.length) : l.take (k + 1) = l.take k ++ [rdEv l k] := by
 rw [List.take_succ_eq_append_getElem h]; simp [rdEv, List.getD_eq_getElem?_getD, h]
def evFit (g : List Tk) (pre : List Ev) (x : Ev) : Bool :=
 if x.f2 then decide (0 ≤ begunL x.f1 pre (-1)) && (!decide (x.f1 ∈ overL pre) && decide (x.f0 = begunL x.f1 pre (-1) + (rdTk g x.f1.toNat).f0)) else decide (begunL x.f1 pre (-1) < 0) && allDoneB (rdTk g x.f1.toNat).f1 (overL pre)
theorem evFit_begin {g : List Tk} {pre : List Ev} {x0 b : Int} {m : Nat} {ol : List Int} {t : Tk} (hb : begunL (m : Int) pre (-1) = b) (ho : overL pre = ol) (ht : rdTk g m = t) : evFit g pre ⟨x0, m, false⟩ = (decide (b < 0) && allDoneB t.f1 ol) := by
 unfold evFit
 simp only [Int.toNat_natCast, hb, ho, ht, Bool.false_eq_true, if_false]
theorem evFit_over {g : List Tk} {pre : List Ev} {x0 b : Int} {m : Nat} {ol : List Int} {t : Tk} (hb : begunL (m : Int) pre (-1) = b) (ho : overL pre = ol) (ht : rdTk g m = t) : evFit g pre ⟨x0, m, true⟩ = (decide (0 ≤ b) && (!decide ((m : Int) ∈ ol) && decide (x0 = b + t.f0))) := by
 unfold evFit
 simp only [Int.toNat_natCast, hb, ho, ht, if_true]
def eventFitsB (g : List Tk) (log : List Ev) (k : Nat) : Bool := evFit g (log.take k) (rdEv log k)
set_option maxRecDepth 100000 in
set_option maxHeartbeats 4000000 in
theorem eventFits_calls (A : Option Addr) (c : Nat) (g : List Tk) (A' : Option Addr) (c' : Nat) (log : List Ev) (k : Nat) (hk : k < log.length) (h16 : log.length ≤ 16) (w : World) (hr : kTk.C w A g.length g) (hr' : kEv.C w A' log.length log)
  (hlog : ∀ e ∈ log.take k, 0 ≤ e.f0 ∧ e.f0 ≤ 200) (ht0 : 0 ≤ (rdEv log k).f1) (ht1 : (rdEv log k).f1 < g.length) (htm : ∀ i, 0 ≤ (rdTk g i).f0 ∧ (rdTk g i).f0 ≤ 20) :
  Calls Tryd.prog 100 #[.slice A g.length c, .slice A' log.length c', .int .i64 k] w fun e w' => e = .returned (.bool (eventFitsB g log k)) ∧ Below w.heap.size w w' := by
 have hl := (C_len hr).2
 have HR := Lib.hid hr
 have HR' := Lib.hid hr'
 have HT := Lib.hid htm
 have HLOG := Lib.hid hlog
 have HB0 : Hid (begunL (rdEv log k).f1 (log.take k) (-1) = begunL (rdEv log k).f1 (log.take k) (-1)) := Lib.hid rfl
 obtain ⟨ad, rfl, hx0, hx1, hx2⟩ := at_Ev hr' k hk
 have HBR := Lib.hid (begunL_range (rdEv log k).f1 (-1) 200 (log.take k) (-1) (by omega) (by omega) (fun e he => by have := hlog e he; omega))
 unfold eventFitsB
 clear hr hr' hlog htm
 generalize rdEv log k = x at *
 obtain ⟨x0, x1, x2⟩ := x
 simp only at hx0 hx1 hx2 ht0 ht1 HBR
 clear HB0
 go_enter Tryd.func100, Tryd.ntmps100
 go_wp2
 have hbox : ((w.alloc (.cells #[.int .i64 x0, .int .i64 x1, .bool x2] 75)).alloc (.cells #[] 3)).heap[w.heap.size]? = some (.cells #[.int .i64 x0, .int .i64 x1, .bool x2] 75 (0, 0)) := (Below.heap_alloc _ _ _ (by simp)).trans (World.alloc_heap_new w _)
 have hO : Kd.R (Kd.int .i64) 3 ((w.alloc (.cells #[.int .i64 x0, .int .i64 x1, .bool x2] 75)).alloc (.cells #[] 3)) w.heap.size (fun _ => True) (.slice (some ⟨w.heap.size + 1, 0, none⟩) 0 0) [] := Kd.R_of_own (by have := World.ownsRow_lit (base := w.heap.size) (size := 1) (e := 3) (w.alloc (.cells #[.int .i64 x0, .int .i64 x1, .bool x2] 75)) #[] 0 (by simp) (by simp [maxLen]) rfl; rw [World.size_alloc] at this; exact this) (fun _ _ => trivial)
 have hB := below_alloc (below_alloc (Below.refl w.heap.size w) (.cells #[.int .i64 x0, .int .i64 x1, .bool x2] 75)) (.cells #[] 3)
 go_loopw [8, 9, 10] (fun b o i wr => ∃ (j : Nat), j ≤ k ∧ i = .int .i64 j ∧ b = .int .i64 (begunL x1 (log.take j) (-1)) ∧ Kd.R (Kd.int .i64) 3 wr w.heap.size (fun _ => True) o (overL (log.take j)) ∧ wr.heap[w.heap.size]? = some (.cells #[.int .i64 x0, .int .i64 x1, .bool x2] 75 (0, 0)) ∧ Below w.heap.size w wr) (fun _ _ i _ => k - (intOf i).toNat)
 case atStart => exact ⟨0, Nat.zero_le _, rfl, rfl, hO, hbox, hB⟩
 case round =>
  clear hbox hO hB
  obtain ⟨j, hj, rfl, rfl, hO, hbox, hB⟩ := hrel
  by_cases hjk : j < k
  ·
   obtain ⟨ad', e, hy0, hy1, hy2⟩ := at_Ev (Kd.C_below HR'.out hB) j (by omega)
   cases e
   have hjl : j < log.length := by omega
   have HS1 : Hid _ := Lib.hid (begunL_snoc x1 (rdEv log j) (log.take j) (-1))
   have HS2 : Hid _ := Lib.hid (overL_snoc (log.take j) (rdEv log j))
   rw [← take_snocE hjl] at HS1 HS2
   have hol := overL_length (log.take j)
   have hol2 : (overL (log.take j)).length < 1000000 := by have := List.length_take_le j log; omega
   clear hol
   generalize rdEv log j = y at *
   obtain ⟨y0, y1, y2⟩ := y
   simp only at hy0 hy1 hy2 HS1 HS2
   have cx1 := blk_cell hbox 1
   simp at cx1
   generalize begunL x1 (log.take j) (-1) = bj at *
   cases y2
   ·
    simp only [Bool.false_eq_true, if_false] at HS1 HS2
    by_cases he : y1 = x1
    ·
     rw [if_pos he] at HS1
     have d1 : (y1 == x1) = true := beq_iff_eq.2 he
     clear he
     go_wp2
     go_quiet (fail)
     go_wp2
     go_roundw
     case rel => exact ⟨j + 1, by omega, by go_num, by rw [HS1.out], by rw [HS2.out]; exact Kd.R_drewN hO _, hbox, pw_below_drewN hB _⟩
     case measure => simp [intOf]; omega
    ·
     rw [if_neg he] at HS1
     have d1 : (y1 == x1) = false := beq_eq_false_iff_ne.2 he
     clear he
     go_wp2
     go_quiet (fail)
     go_wp2
     go_roundw
     case rel => exact ⟨j + 1, by omega, by go_num, by rw [HS1.out], by rw [HS2.out]; exact Kd.R_drewN hO _, hbox, pw_below_drewN hB _⟩
     case measure => simp [intOf]; omega
   ·
    simp only [if_true] at HS1 HS2
    go_wp2_with (at_builtin; refine ap_int (w0 := w) w.heap.size rfl _ _ rfl u9 (overL (log.take j)) y1 rfl rfl rfl hO hB hB.size hol2 ?_; intro v1 w2 hO2 hB2 hg2 _)
    go_roundw
    case rel => exact ⟨j + 1, by omega, by go_num, by rw [HS1.out], by rw [HS2.out]; exact hO2, blk_grown hbox hg2 (Kd.R_ne hO hbox (by decide)), hB2⟩
    case measure => simp [intOf]; omega
  ·
   have hjk' : j = k := by omega
   subst hjk'
   have HBR' := HBR.out
   clear HBR
   obtain ⟨m, rfl⟩ := Int.eq_ofNat_of_zero_le ht0
   have cx0 := blk_cell hbox 0
   have cx1 := blk_cell hbox 1
   have cx2 := blk_cell hbox 2
   simp at cx0 cx1 cx2
   obtain ⟨adg, A1, c1, rfl, hc0, hc1, hc2, hc3, hl1, hC1⟩ := at_Tk (Kd.C_below HR.out hB) m (by omega)
   have hmg : m < g.length := by omega
   have ht := HT.out m
   obtain ⟨Ao, co, rfl, hlo, hCo⟩ := Kd.R_reads hO
   have HC := Lib.hid hCo
   clear hCo
   generalize hbe : begunL (m : Int) (log.take j) (-1) = b at *
   generalize hoe : overL (log.take j) = ol at *
   generalize hte : rdTk g m = t at *
   have HE0 : Hid _ := Lib.hid (evFit_begin (x0 := x0) hbe hoe hte)
   have HE1 : Hid _ := Lib.hid (evFit_over (x0 := x0) hbe hoe hte)
   clear hbe hoe hte
   cases x2
   ·
    by_cases hb : b < 0
    ·
     have d1 : decide (b < 0) = true := decide_eq_true hb
     have HP : Hid (decide (b < 0) = true) := Lib.hid d1
     cases hd : allDoneB t.f1 ol
     ·
      have HD := Lib.hid hd
      clear hd
      go_wp2_with (go_at_call 69; refine (allDone_is _ _ _ _ _ _ _ HD _ hC1 HC.out).mono ?_; rintro e w' ⟨rfl, rfl⟩)
      go_ret
      exact ⟨ret_bool (by rw [HE0.out, HP.out, HD.out]; rfl), hB⟩
     ·
      have HD := Lib.hid hd
      clear hd
      go_wp2_with (go_at_call 69; refine (allDone_is _ _ _ _ _ _ _ HD _ hC1 HC.out).mono ?_; rintro e w' ⟨rfl, rfl⟩)
      go_ret
      exact ⟨ret_bool (by rw [HE0.out, HP.out, HD.out]; rfl), hB⟩
    ·
     have d1 : decide (b < 0) = false := decide_eq_false hb
     have HP : Hid (decide (b < 0) = false) := Lib.hid d1
     clear hb
     go_wp2
     go_ret
     exact ⟨ret_bool (by rw [HE0.out, HP.out]; rfl), hB⟩
   ·
    by_cases hb : 0 ≤ b
    ·
     have d1 : decide (0 ≤ b) = true := decide_eq_true hb
     have HP : Hid (decide (0 ≤ b) = true) := Lib.hid d1
     cases hm : decide ((m : Int) ∈ ol)
     ·
      have HM := Lib.hid hm
      clear hm
      by_cases he : x0 = b + t.f0
      ·
       have d2 : (x0 == b + t.f0) = true := beq_iff_eq.2 he
       have HE : Hid (decide (x0 = b + t.f0) = true) := Lib.hid (decide_eq_true he)
       clear he
       go_wp2
       (go_quiet ((go_at_call 68; exact Calls.quiet_of_same (isIn_is _ _ _ _ _ HM _ HC.out))))
       go_wp2
       go_ret
       exact ⟨ret_bool (by rw [HE1.out, HP.out, HM.out, HE.out]; rfl), pw_below_drewN hB _⟩
      ·
       have d2 : (x0 == b + t.f0) = false := beq_eq_false_iff_ne.2 he
       have HE : Hid (decide (x0 = b + t.f0) = false) := Lib.hid (decide_eq_false he)
       clear he
       go_wp2
       (go_quiet ((go_at_call 68; exact Calls.quiet_of_same (isIn_is _ _ _ _ _ HM _ HC.out))))
       go_wp2
       go_ret
       exact ⟨ret_bool (by rw [HE1.out, HP.out, HM.out, HE.out]; rfl), pw_below_drewN hB _⟩
     ·
      have HM := Lib.hid hm
      clear hm
      go_wp2
      (go_quiet ((go_at_call 68; exact Calls.quiet_of_same (isIn_is _ _ _ _ _ HM _ HC.out))))
      go_wp2
      go_ret
      exact ⟨ret_bool (by rw [HE1.out, HP.out, HM.out]; rfl), pw_below_drewN hB _⟩
    ·
     have d1 : decide (0 ≤ b) = false := decide_eq_false hb
     have HP : Hid (decide (0 ≤ b) = false) := Lib.hid d1
     clear hb
     go_wp2
     go_quiet (fail)
     go_wp2
     go_ret
     exact ⟨ret_bool (by rw [HE1.out, HP.out]; rfl), pw_below_drewN hB _⟩
end Go.Proofs.YtpmfghbjkampkaaDoor
