/- The draws' plain functions come to an end: graphs, rooms. -/
import Derived.Test.YtpmfghbjkampkaaDoorTot1
namespace Go.Proofs.YtpmfghbjkampkaaDoor.PFnValidLog
set_option linter.unusedVariables false
set_option linter.unusedSimpArgs false
open Go Go.RowKit
open Go.Proofs.YtpmfghbjkampkaaDoorW.PrintWords Go.Proofs.YtpmfghbjkampkaaDoorW.PrintLast Go.Proofs.YtpmfghbjkampkaaDoorW.PrintMore
def GOk (m n : Nat) (g : List S41) : Prop := g.length ≤ m ∧ ∀ t ∈ g, t.f1.length ≤ n
theorem rdT_mem {g : List S41} {i : Int} (h0 : 0 ≤ i) (h1 : i < g.length) : rd_T41 g i ∈ g := by
 unfold rd_T41
 rw [List.getD_eq_getElem?_getD, List.getElem?_eq_getElem (by omega : i.toNat < g.length)]
 exact List.getElem_mem _
theorem GOk_snoc {m n : Nat} {g : List S41} {t : S41} (h : GOk m n g) (ht : t.f1.length ≤ n) : GOk (m + 1) n (g ++ [t]) := by
 refine ⟨by have := h.1; simp; omega, fun x hx => ?_⟩
 rcases List.mem_append.1 hx with hx | hx
 ·
  exact h.2 x hx
 ·
  rw [List.mem_singleton.1 hx]; exact ht
section
variable {P : List S41 → Prop}
theorem turned_l1 (x0 x3 : List S41) (x4 x5 a0 a2 a3 : Int) (a1 : List Int) (h3 : x3.length < 1000) (ha : a1.length ≤ 1000)
  (hk : ∀ ns : List Int, ns.length ≤ a1.length → Gets (fun k => spec_turned.l0 k x0 (x3 ++ [(⟨a0, ns, a2, a3⟩ : S41)]) x4 (wrap64 (x5 - 1))) P) :
  ∀ (n : Nat) (x7 : List Int) (x8 : Int), x8 + 1 = n → x7.length + n ≤ a1.length → Gets (fun k => spec_turned.l1 k x0 x3 x4 x5 x7 x8 a0 a1 a2 a3) P
 | 0, x7, x8, h8, h7 => by
  refine Gets.step (fun k => by rw [spec_turned.l1]) ?_
  exact Gets.neg (by omega) (Gets.pos (by omega) (hk x7 (by omega)))
 | n + 1, x7, x8, h8, h7 => by
  refine Gets.step (fun k => by rw [spec_turned.l1]) ?_
  refine Gets.pos (by omega) (Gets.pos (by omega) (Gets.pos (by omega) (Gets.pos (by omega) ?_)))
  rw [w64 (x := x8 - 1) (by omega) (by omega)]
  exact turned_l1 x0 x3 x4 x5 a0 a2 a3 a1 h3 ha hk n _ (x8 - 1) (by omega) (by simp; omega)
end
theorem turned_l0 {N : Nat} (x0 : List S41) (h0 : GOk 1000 N x0) (hN : N ≤ 1000) (x4 : Int) : ∀ (n : Nat) (x3 : List S41) (x5 : Int), x5 + 1 = n → n ≤ x0.length → GOk (x0.length - n) N x3 →
  Gets (fun k => spec_turned.l0 k x0 x3 x4 x5) (fun r => GOk x0.length N r)
 | 0, x3, x5, h5, hn, h3 => by
  refine Gets.step (fun k => by rw [spec_turned.l0]) ?_
  exact Gets.neg (by omega) (Gets.ret h3)
 | n + 1, x3, x5, h5, hn, h3 => by
  have hx := h0.1
  have h31 := h3.1
  have hm := h0.2 _ (rdT_mem (show 0 ≤ x5 by omega) (show x5 < x0.length by omega))
  refine Gets.step (fun k => by rw [spec_turned.l0]) ?_
  refine Gets.pos (by omega) (Gets.pos (by omega) (Gets.pos (by omega) ?_))
  refine turned_l1 x0 x3 x4 x5 _ _ _ _ (by omega) (by omega) (fun ns hns => ?_) (rd_T41 x0 x5).f1.length [] _ ?_ (by simp)
  ·
   rw [w64 (x := x5 - 1) (by omega) (by omega)]
   refine turned_l0 x0 h0 hN x4 n _ (x5 - 1) (by omega) (by omega) ?_
   have := GOk_snoc (t := ⟨(rd_T41 x0 x5).f0, ns, (rd_T41 x0 x5).f2, (rd_T41 x0 x5).f3⟩) h3 (Nat.le_trans hns hm)
   rw [show x0.length - n = x0.length - (n + 1) + 1 by omega]
   exact this
  ·
   rw [w64 (by omega) (by omega)]
   omega
theorem turned_gets {N : Nat} (g : List S41) (h0 : GOk 1000 N g) (hN : N ≤ 1000) : Gets (fun k => spec_turned.f k g) (fun r => GOk g.length N r) := by
 have hx := h0.1
 unfold spec_turned.f
 rw [w64 (by omega) (by omega)]
 exact turned_l0 g h0 hN _ g.length [] _ (by omega) (Nat.le_refl _) ⟨by simp, fun t ht => by cases ht⟩
section
variable {b : List Int} (hb : ∀ x ∈ b, 0 ≤ x ∧ x < 256) (hl : b.length ≤ 2000)
include hb hl
theorem someGraph_l1 {P : List S41 × Int → Prop} (x5 : List S41) (h5 : x5.length ≤ 7) (x6 a0 a2 a3 : Int) (p0 : Int) (hp0 : 0 ≤ p0) (hp1 : p0 ≤ 900000)
  (hk : ∀ (ns : List Int) (p : Int), ns.length ≤ 8 → p0 ≤ p → p ≤ p0 + 8 → Gets (fun k => spec_someGraph.l0 k (x5 ++ [(⟨a0, ns, a2, a3⟩ : S41)]) (wrap64 (x6 - 1)) b p) P) :
  ∀ (n : Nat) (x8 : Int) (p : Int) (ns : List Int), 0 ≤ x8 → x8 + n = x5.length → p0 ≤ p → p ≤ p0 + x8 → ns.length ≤ x8.toNat → Gets (fun k => spec_someGraph.l1 k x5 x6 x8 b p a0 ns a2 a3) P
 | 0, x8, p, ns, h0, h8, h1, h2, h3 => by
  refine Gets.step (fun k => by rw [spec_someGraph.l1]) ?_
  exact Gets.neg (by omega) (Gets.pos (by omega) (hk ns p (by omega) h1 (by omega)))
 | n + 1, x8, p, ns, h0, h8, h1, h2, h3 => by
  refine Gets.step (fun k => by rw [spec_someGraph.l1]) ?_
  refine Gets.pos (by omega) ?_
  refine Gets.bind (pick_gets hb hl (by omega) (by omega)) fun r hr => ?_
  obtain ⟨r1, r2, r3, r4⟩ := hr
  rw [r4, w64 (x := x8 + 1) (by omega) (by omega)]
  refine Gets.ite (fun _ => Gets.pos (by omega) ?_) (fun _ => ?_)
  ·
   exact someGraph_l1 x5 h5 x6 a0 a2 a3 p0 hp0 hp1 hk n (x8 + 1) (p + 1) _ (by omega) (by omega) (by omega) (by omega) (by simp; omega)
  ·
   exact someGraph_l1 x5 h5 x6 a0 a2 a3 p0 hp0 hp1 hk n (x8 + 1) (p + 1) _ (by omega) (by omega) (by omega) (by omega) (by omega)
def Drawn8 (B : Int) (r : List S41 × Int) : Prop := GOk 8 8 r.1 ∧ 0 ≤ r.2 ∧ r.2 ≤ B
omit hb hl in
theorem mem6 {x : Int} {l : List Int} (h : x ∈ l) {lo hi : Int} (hall : ∀ y ∈ l, lo ≤ y ∧ y ≤ hi) : lo ≤ x ∧ x ≤ hi := hall x h
theorem someGraph_l0 (B : Int) (hB : B ≤ 900000) : ∀ (n : Nat) (x5 : List S41) (p : Int), x5.length + n ≤ 8 → GOk 8 8 x5 → 0 ≤ p → p + 12 * n + 2 ≤ B →
  Gets (fun k => spec_someGraph.l0 k x5 n b p) (Drawn8 B)
 | 0, x5, p, h5, hg, h0, h1 => by
  refine Gets.step (fun k => by rw [spec_someGraph.l0]) ?_
  refine Gets.neg (by omega) (Gets.ite (fun _ => ?_) (fun _ => Gets.ret ⟨hg, h0, by omega⟩))
  refine Gets.bind (pick_gets hb hl h0 (by omega)) fun r hr => ?_
  obtain ⟨r1, r2, r3, r4⟩ := hr
  refine Gets.ite (fun _ => ?_) (fun _ => Gets.ret ⟨hg, by omega, by omega⟩)
  refine Gets.bind (turned_gets x5 ⟨by omega, hg.2⟩ (by omega)) fun t ht => Gets.ret ⟨⟨Nat.le_trans ht.1 (by omega), ht.2⟩, by omega, by omega⟩
 | n + 1, x5, p, h5, hg, h0, h1 => by
  refine Gets.step (fun k => by rw [spec_someGraph.l0]) ?_
  refine Gets.pos (by omega) ?_
  refine Gets.bind (one_gets hb hl h0 (by omega) (by simp)) fun r hr => ?_
  obtain ⟨r1, r4⟩ := hr
  rw [r4]
  refine Gets.bind (pick_gets hb hl (by omega) (by omega)) fun s hs => ?_
  obtain ⟨s1, s2, s3, s4⟩ := hs
  rw [s4]
  refine Gets.bind (pick_gets hb hl (by omega) (by omega)) fun u hu => ?_
  obtain ⟨u1, u2, u3, u4⟩ := hu
  rw [u4]
  refine someGraph_l1 hb hl x5 (by omega) _ _ _ _ (p + 1 + 1 + 1) (by omega) (by omega) (fun ns q hns hq1 hq2 => ?_) x5.length 0 _ [] (by omega) (by omega) (by omega) (by omega) (by simp)
  rw [w64 (x := ((n + 1 : Nat) : Int) - 1) (by omega) (by omega), show ((n + 1 : Nat) : Int) - 1 = n by omega]
  have hs := GOk_snoc (t := ⟨r.1, ns, s.1, wrap64 (1 + u.1)⟩) hg (show ns.length ≤ 8 from hns)
  exact someGraph_l0 B hB n _ q (by simp; omega) ⟨by simp; omega, hs.2⟩ (by omega) (by omega)
theorem someGraph_gets (p : Int) (h0 : 0 ≤ p) (h1 : p ≤ 800000) (m : Int) (hm : m ≤ 8) : Gets (fun k => spec_someGraph.f k b p m) (Drawn8 (p + 120)) := by
 unfold spec_someGraph.f
 refine Gets.bind (one_gets hb hl h0 (by omega) (by simp)) fun r hr => ?_
 obtain ⟨r1, r4⟩ := hr
 rw [r4]
 have hr2 : r.1 ≤ 8 := (mem6 (lo := 0) (hi := 8) r1 (by decide)).2
 have hmn : mn m r.1 ≤ 8 := by unfold mn; split <;> omega
 generalize mn m r.1 = c at hmn
 by_cases hc : 0 ≤ c
 ·
  obtain ⟨c, rfl⟩ := Int.eq_ofNat_of_zero_le hc
  exact someGraph_l0 hb hl (p + 120) (by omega) c [] (p + 1) (by simp; omega) ⟨by simp, fun t ht => by cases ht⟩ (by omega) (by omega)
 ·
  refine Gets.step (fun k => by rw [spec_someGraph.l0]) ?_
  exact Gets.neg (by omega) (Gets.neg (by simp) (Gets.ret ⟨⟨by simp, fun t ht => by cases ht⟩, by omega, by omega⟩))
omit hb hl in
theorem copyInts_some (l : List Int) (h : l.length ≤ 1000000) : spec_copyInts.f l = some l := by
 unfold spec_copyInts.f
 rw [Option.bind_some, if_pos (by simp; omega)]
 rfl
theorem spoil_gets (p : Int) (h0 : 0 ≤ p) (h1 : p ≤ 900000) (l : List Int) (hll : l.length ≤ 1000) (m : Int) : Gets (fun k => spec_reader_spoil.f k b p l m) (fun r => r.1.length ≤ l.length + 1 ∧ 0 ≤ r.2 ∧ r.2 ≤ p + 3) := by
 unfold spec_reader_spoil.f
 rw [copyInts_some l (by omega)]
 simp only [Option.bind_some]
 refine Gets.bind (pick_gets hb hl h0 (by omega)) fun r hr => ?_
 obtain ⟨r1, r2, r3, r4⟩ := hr
 rw [r4]
 refine Gets.ite (fun _ => Gets.pos (by omega) (Gets.ret ⟨by simp, by omega, by omega⟩)) (fun _ => ?_)
 refine Gets.ite (fun _ => ?_) (fun _ => ?_)
 ·
  refine Gets.ite (fun h => Gets.pos (by omega) (Gets.ret ⟨by simp; omega, by omega, by omega⟩)) (fun _ => Gets.ret ⟨by simp, by omega, by omega⟩)
 ·
  refine Gets.ite (fun _ => ?_) (fun _ => Gets.ret ⟨by simp, by omega, by omega⟩)
  refine Gets.ite (fun hpos => ?_) (fun _ => Gets.ret ⟨by simp, by omega, by omega⟩)
  refine Gets.bind (pick_gets hb hl (by omega) (by omega)) fun s hs => ?_
  obtain ⟨s1, s2, s3, s4⟩ := hs
  rw [s4]
  have := s2 (by omega)
  refine Gets.bind (one_gets hb hl (by omega) (by omega) (by simp)) fun u hu => ?_
  obtain ⟨u1, u4⟩ := hu
  exact Gets.pos s1 (Gets.pos this (Gets.ret ⟨by simp, by omega, by omega⟩))
theorem someRoom_gets (p : Int) (h0 : 0 ≤ p) (h1 : p ≤ 800000) : Gets (fun k => spec_someRoom.f k b p) (fun r => r.1.length ≤ 4 ∧ 0 ≤ r.2 ∧ r.2 ≤ p + 6) := by
 unfold spec_someRoom.f
 refine Gets.bind (one_gets hb hl h0 (by omega) (by simp)) fun r hr => ?_
 rw [hr.2]
 refine Gets.bind (one_gets hb hl (by omega) (by omega) (by simp)) fun s hs => ?_
 rw [hs.2]
 refine Gets.bind (one_gets hb hl (by omega) (by omega) (by simp)) fun t ht => ?_
 rw [ht.2]
 refine Gets.bind (spoil_gets hb hl _ (by omega) (by omega) _ (by simp) _) fun u hu => ?_
 obtain ⟨u1, u2, u3⟩ := hu
 simp only [List.length_cons, List.length_nil] at u1
 exact Gets.ret ⟨by omega, by omega, by omega⟩
theorem someWorkers_gets (p : Int) (h0 : 0 ≤ p) (h1 : p ≤ 800000) : Gets (fun k => spec_someWorkers.f k b p) (fun r => 0 ≤ r.2 ∧ r.2 ≤ p + 1) := by
 unfold spec_someWorkers.f
 refine Gets.bind (one_gets hb hl h0 (by omega) (by simp)) fun r hr => ?_
 exact Gets.ret ⟨by omega, by omega⟩
end
end Go.Proofs.YtpmfghbjkampkaaDoor.PFnValidLog
