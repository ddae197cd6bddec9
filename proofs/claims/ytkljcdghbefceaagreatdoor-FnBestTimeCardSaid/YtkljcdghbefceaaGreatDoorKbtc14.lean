/- Parts of the proof, laid as one text by a program of mine. -/
import Derived.Test.YtkljcdghbefceaaGreatDoorKbtc13
import Derived.Test.YtkljcdghbefceaaGreatDoorKbtc5
import Derived.Test.YtkljcdghbefceaaGreatDoorKbtc11
namespace Go.Proofs.YtkljcdghbefceaaGreatDoor
set_option linter.unusedVariables false
set_option linter.unusedSimpArgs false
open Go.RowKit Go.Shelf Bits
open Go.Proofs.YtkljcdghbefceaaGreatDoorW.PrintWords Go.Proofs.YtkljcdghbefceaaGreatDoorW.PrintLast Go.Proofs.YtkljcdghbefceaaGreatDoorW.PrintMore
theorem length_upL (T : List Int) : ∀ (c : Nat) (L : List Nat) (j : Nat), (upL T c L j).length = L.length
 | 0, _, _ => rfl
 | c + 1, L, j => by
  unfold upL
  split
  ·
   rfl
  ·
   rw [length_upL, length_swapL]
theorem length_downL (T : List Int) : ∀ (c : Nat) (L : List Nat) (i n : Nat), (downL T c L i n).length = L.length
 | 0, _, _, _ => rfl
 | c + 1, L, i, n => by
  unfold downL
  split
  ·
   rfl
  ·
   split
   ·
    rfl
   ·
    rw [length_downL, length_swapL]
theorem Push_calls (h : Nat) (B : Option Nat) (T : List Int) (L : List Nat) (x : Nat) (h16 : L.length ≤ 1000) (w : World) (hR : RankAt w h B T L) :
  Calls Tryz.prog 126 #[.pointer (some ⟨h, 0, none⟩), .iface 3 (.int .i64 x)] w fun e w' => e = .returned (.tuple #[]) ∧ ∃ B', RankAt w' h B' T (L ++ [x]) ∧ KeepBut w w' h B ∧ Below h w w' ∧ (B' = B ∨ ∃ b, B' = some b ∧ w.heap.size ≤ b) := by
 obtain ⟨At, ct, v, hB, hCT, hAT, hRL, hvB⟩ := hR
 obtain ⟨A, c, rfl⟩ := Kd.R_slice hRL
 have hx := blk_cell hB 1
 simp at hx
 rw [ints_length] at hx
 have hlt := blk_lt hB
 refine (Push_walk h L x A c h16 w hlt hRL hx (blk_frozen hB 1)).mono ?_
 rintro e w' ⟨rfl, w2, w3, v', rfl, hR3, hB2, hB3, hG3, hat⟩
 have hs2 := hB2.size
 have hne : ∀ k, k ≤ h → (Value.slice A (ints L).length c).ownBlock ≠ some k := fun k hk e => by
  have := Kd.R_base hRL k e
  omega
 have hold : ∀ k, k ≤ h → w3.heap[k]? = w.heap[k]? := fun k hk => (hG3.block k (by omega) (fun e => hne k hk e.symm)).trans (hB2.block k (by omega))
 have hh := blk_set ((hold h (Nat.le_refl _)).trans hB) 1 v'
 refine ⟨rfl, v'.ownBlock, ⟨At, ct, v', hh, C_block hCT fun ad e hn => ?_, hAT, ?_, rfl⟩, ?_, ?_, ?_⟩
 ·
  have := hAT ad e hn
  exact (Below.heap_setCell _ _ _ _ (by simp; omega)).trans (hold _ (by omega))
 ·
  have e : ints (L ++ [x]) = ints L ++ [(x : Int)] := by simp [ints]
  rw [e]
  refine Kd.R_mono (Kd.R_step (Kd.R_tight rfl hR3) fun k hk _ => Below.heap_setCell _ _ _ _ ?_) fun _ _ => trivial
  have := Kd.R_base hR3 k hk.symm
  simp
  omega
 ·
  rw [← hvB]
  exact (((KeepBut.of_below hB2 h _).trans (KeepBut.of_grown hG3 h) (.inl rfl)).set_ 1 v')
 ·
  exact (hB3.mono (by omega)).setCell (p := ⟨h, 1, none⟩) (by simp) _
 ·
  rw [← hvB]
  rcases hat with e | ⟨b, e, hb⟩
  ·
   exact .inl e
  ·
   exact .inr ⟨b, e, by omega⟩
theorem Len_calls (h : Nat) (B : Option Nat) (T : List Int) (L : List Nat) (w : World) (hR : RankAt w h B T L) :
  Calls Tryz.prog 77 #[.pointer (some ⟨h, 0, none⟩)] w fun e w' => e = .returned (.int .i64 L.length) ∧ w' = w := by
 obtain ⟨At, ct, v, hB, hCT, hAT, hRL, hvB⟩ := hR
 obtain ⟨A, c, rfl⟩ := Kd.R_slice hRL
 have hx := blk_cell hB 1
 simp at hx
 rw [ints_length] at hx
 clear hB hCT hAT hRL hvB
 go_enter Tryz.func77, Tryz.ntmps77
 go_wp2
 go_ret
 exact ⟨rfl, rfl⟩
set_option maxRecDepth 1000000 in
set_option maxHeartbeats 4000000 in
theorem Pop_walk (h b cap n : Nat) (x : Int) (hn : 0 < n) (hcap : n ≤ cap) (hn1 : n ≤ 1000000) (w : World) (hx : w.cell? ⟨h, 1, none⟩ = some (.slice (some ⟨b, 0, none⟩) n cap)) (hf : w.frozen? ⟨h, 1, none⟩ = false)
  (hc : w.cell? ⟨b, n - 1, none⟩ = some (.int .i64 x)) :
  Calls Tryz.prog 125 #[.pointer (some ⟨h, 0, none⟩)] w fun e w' => e = .returned (.iface 3 (.int .i64 x)) ∧ ∃ q, w' = (w.setCell ⟨h, 1, none⟩ (.slice (some ⟨b, 0, none⟩) (n - 1) cap)).drewN q := by
 obtain ⟨m, rfl⟩ : ∃ m, n = m + 1 := ⟨n - 1, by omega⟩
 rw [Nat.add_sub_cancel] at hc ⊢
 go_enter Tryz.func125, Tryz.ntmps125
 go_wp2
 go_quiet (fail)
 obtain ⟨w1, hw1⟩ : ∃ w1, w1 = w.drewN nq := ⟨_, rfl⟩
 have hx1 : w1.cell? ⟨h, 1, none⟩ = some (.slice (some ⟨b, 0, none⟩) (m + 1) cap) := by rw [hw1]; exact hx
 have hf1 : w1.frozen? ⟨h, 1, none⟩ = false := by rw [hw1]; exact hf
 have HW := Lib.hid hw1
 rw [← hw1]
 clear hw1 hx hf hc
 have hmc : m ≤ cap := by omega
 have hwm : IntKind.i64.wrap (m : Int) = m := IntWalk.i64_in _ (by omega)
 go_wp2
 go_still_tail 14, mixed
 repeat still_step
 clear hwm
 go_wp2
 go_ret
 exact ⟨rfl, nq + 1, by rw [HW.out]; rfl⟩
theorem Pop_calls (h : Nat) (B : Option Nat) (T : List Int) (L : List Nat) (hL : 0 < L.length) (h16 : L.length ≤ 1000) (w : World) (hR : RankAt w h B T L) :
  Calls Tryz.prog 125 #[.pointer (some ⟨h, 0, none⟩)] w fun e w' => e = .returned (.iface 3 (.int .i64 (L.getD (L.length - 1) 0 : Nat))) ∧ RankAt w' h B T (L.take (L.length - 1)) ∧ KeepBut w w' h B ∧ Below h w w' := by
 obtain ⟨At, ct, v, hB, hCT, hAT, hRL, hvB⟩ := hR
 have hl := ints_length L
 obtain ⟨b, cap, rfl, hb1, hb2, _⟩ := Kd.R_form hRL (by omega)
 obtain ⟨ci, _⟩ := Kd.R_cell (0 : Int) hRL ((L.length - 1 : Nat) : Int) (by omega) (by omega)
 rw [rd_ints, Int.toNat_natCast] at ci
 have hcap := (Kd.R_reads' hRL).2.1
 have hx := blk_cell hB 1
 simp at hx
 rw [hl] at hcap hx
 refine (Pop_walk h b cap L.length _ hL hcap (by omega) w hx (blk_frozen hB 1) ci).mono ?_
 rintro e w' ⟨rfl, q, rfl⟩
 have hh := blk_set hB 1 (.slice (some ⟨b, 0, none⟩) (L.length - 1) cap)
 have hT := Kd.R_take hRL (m := L.length - 1) (by omega)
 have e2 : (ints L).take (L.length - 1) = ints (L.take (L.length - 1)) := by simp [ints, List.map_take]
 rw [e2] at hT
 refine ⟨rfl, ⟨At, ct, _, hh, C_block hCT fun ad e hn => ?_, hAT, ?_, ?_⟩, ?_, ?_⟩
 ·
  have := hAT ad e hn
  exact Below.heap_setCell _ _ _ _ (by simp; omega)
 ·
  refine Kd.R_mono (Kd.R_step (Kd.R_tight rfl hT) fun k hk _ => Below.heap_setCell _ _ _ _ ?_) fun _ _ => trivial
  have := Kd.R_base hT k hk.symm
  simp
  omega
 ·
  rw [← hvB]
  simp [Value.ownBlock]
 ·
  exact keep_drewN ((KeepBut.refl w h B).set_ 1 _) q
 ·
  exact pw_below_drewN ((Below.refl h w).setCell (p := ⟨h, 1, none⟩) (by simp) _) q
theorem mPush (h : Nat) : ∀ w, Sem.run Tryz.prog (method 267 110 (.pointer (some ⟨h, 0, none⟩)) "Push") w = .ok (126, .pointer (some ⟨h, 0, none⟩)) w := fun _ => by kernel_rfl
theorem mPop (h : Nat) : ∀ w, Sem.run Tryz.prog (method 267 110 (.pointer (some ⟨h, 0, none⟩)) "Pop") w = .ok (125, .pointer (some ⟨h, 0, none⟩)) w := fun _ => by kernel_rfl
theorem mLen (h : Nat) : ∀ w, Sem.run Tryz.prog (method 267 110 (.pointer (some ⟨h, 0, none⟩)) "Len") w = .ok (77, .pointer (some ⟨h, 0, none⟩)) w := fun _ => by kernel_rfl
set_option maxRecDepth 1000000 in
set_option maxHeartbeats 4000000 in
theorem heapPush_calls (h : Nat) (B : Option Nat) (T : List Int) (L : List Nat) (x : Nat) (hx : x < T.length) (hT : ∀ y ∈ L, y < T.length) (h16 : L.length ≤ 900) (w : World) (hR : RankAt w h B T L) :
  Calls Tryz.prog 76 #[.iface 110 (.pointer (some ⟨h, 0, none⟩)), .iface 3 (.int .i64 x)] w fun e w' => e = .returned (.tuple #[]) ∧ ∃ B', RankAt w' h B' T (pushL T L x) ∧ KeepBut w w' h B ∧ Below h w w' ∧ (B' = B ∨ ∃ b, B' = some b ∧ w.heap.size ≤ b) := by
 have mP := mPush h
 have mN := mLen h
 have HP := Lib.hid (Push_calls h B T L x (by omega) w hR)
 have hlen : (L ++ [x]).length = L.length + 1 := by simp
 have HL := Lib.hid (fun (B' : Option Nat) (W : World) (hW : RankAt W h B' T (L ++ [x])) => Len_calls h B' T (L ++ [x]) W hW)
 rw [hlen] at HL
 have HU := Lib.hid (fun (B' : Option Nat) (W : World) (hW : RankAt W h B' T (L ++ [x])) => up_calls h B' T (L ++ [x]) L.length (by omega) (by omega) (fun y hy => by
  rcases List.mem_append.1 hy with hy | hy
  ·
   exact hT y hy
  ·
   simp at hy
   omega) W hW)
 clear hR hT hx hlen
 go_enter Tryz.func76, Tryz.ntmps76
 go_wp2_with (first | (go_at_call 126; refine HP.out.mono ?_; rintro e w1 ⟨rfl, B1, hR1, hK1, hB1, hBB⟩) | (go_at_call 77; refine (HL.out B1 _ hR1).mono ?_; rintro e w' ⟨rfl, rfl⟩) | (go_at_call 87; refine (HU.out B1 _ hR1).mono ?_; rintro e w2 ⟨rfl, hR2, hK2, hB2⟩))
 go_end0
 exact ⟨rfl, B1, hR2, hK1.trans hK2 hBB, hB1.trans hB2, hBB⟩
set_option maxRecDepth 1000000 in
set_option maxHeartbeats 4000000 in
theorem heapPop_calls (h : Nat) (B : Option Nat) (T : List Int) (L : List Nat) (hL : 0 < L.length) (hT : ∀ y ∈ L, y < T.length) (h16 : L.length ≤ 900) (w : World) (hR : RankAt w h B T L) :
  Calls Tryz.prog 78 #[.iface 110 (.pointer (some ⟨h, 0, none⟩))] w fun e w' => e = .returned (.iface 3 (.int .i64 ((popL T L).getD (L.length - 1) 0 : Nat))) ∧ RankAt w' h B T ((popL T L).take (L.length - 1)) ∧ KeepBut w w' h B ∧ Below h w w' := by
 have mP := mPop h
 have mN := mLen h
 have mS := mSwap h
 obtain ⟨m, hm⟩ : ∃ m, L.length = m + 1 := ⟨L.length - 1, by omega⟩
 have HN := Lib.hid (Len_calls h B T L w hR)
 have HS := Lib.hid (Swap_calls h B T L 0 m (by omega) (by omega) w hR)
 have hs := length_swapL L 0 m
 have HD := Lib.hid (fun (W : World) (hW : RankAt W h B T (swapL L 0 m)) => down_calls h B T (swapL L 0 m) 0 m L.length (by omega) (by omega) (by omega) (by omega) (fun y hy => hT y (mem_swapL (by omega) (by omega) hy)) W hW)
 have hpl : downL T L.length (swapL L 0 m) 0 m = popL T L := by unfold popL; rw [hm, Nat.add_sub_cancel]
 have hpn : (popL T L).length = m + 1 := by rw [← hpl, length_downL, hs, hm]
 rw [hpl] at HD
 have HP := Lib.hid (fun (W : World) (hW : RankAt W h B T (popL T L)) => Pop_calls h B T (popL T L) (by omega) (by omega) W hW)
 rw [hpn, Nat.add_sub_cancel] at HP
 rw [hm, Nat.add_sub_cancel]
 rw [hm] at HN
 clear hR hT hs hpl hpn hL
 go_enter Tryz.func78, Tryz.ntmps78
 go_wp2_with (first | (go_at_call 77; refine HN.out.mono ?_; rintro e w' ⟨rfl, rfl⟩) | (go_at_call 127; refine HS.out.mono ?_; rintro e w1 ⟨rfl, hR1, hK1, hB1⟩) | (go_at_call 88; refine (HD.out _ hR1).mono ?_; rintro e w2 ⟨b, rfl, hR2, hK2, hB2⟩) | (go_at_call 125; refine (HP.out _ hR2).mono ?_; rintro e w3 ⟨rfl, hR3, hK3, hB3⟩))
 go_ret
 exact ⟨rfl, hR3, (hK1.trans hK2 (.inl rfl)).trans hK3 (.inl rfl), (hB1.trans hB2).trans hB3⟩
end Go.Proofs.YtkljcdghbefceaaGreatDoor

namespace Go.Proofs.YtkljcdghbefceaaGreatDoor
set_option linter.unusedVariables false
set_option linter.unusedSimpArgs false
open Go.RowKit Go.Shelf Bits
open Go.Proofs.YtkljcdghbefceaaGreatDoorW.PrintWords Go.Proofs.YtkljcdghbefceaaGreatDoorW.PrintLast Go.Proofs.YtkljcdghbefceaaGreatDoorW.PrintMore
attribute [local go_sem] Oper.semAt_some
theorem RankAt.cellsB {W : World} {h : Nat} {B : Option Nat} {T : List Int} {L : List Nat} (hR : RankAt W h B T L) : ∀ k, B = some k → ∃ o : Obj, W.heap[k]? = some o ∧ o.isCells = true := by
 obtain ⟨At, ct, v, h1, h3, h4, h5, h6⟩ := hR
 intro k hk
 rw [← h6] at hk
 obtain ⟨_, ⟨hv, _⟩ | ⟨b, cap, cells, rfl, hb, hc, _⟩⟩ := Kd.own_of_R h5
 ·
  subst hv
  cases hk
 ·
  simp only [Value.ownBlock, Option.map_some, Option.some.injEq] at hk
  subst hk
  exact ⟨_, hc, rfl⟩
theorem RankAt.own {β : Type} {B0 h : Nat} (B : β → Option Nat) (T : List Int) (L : β → List Nat) (hh : h < B0) : OwnFrom B0 (fun s W => RankAt W h (B s) T (L s)) := by
 intro s W W' row ⟨At, ct, v, h1, h3, h4, h5, h6⟩ hg hr
 have hne : ∀ k, k ≤ h → some k ≠ row := fun k hk e => by have := (hr k e.symm).1; omega
 exact ⟨At, ct, v, (hg.block h (blk_lt h1) (hne h (Nat.le_refl _))).trans h1, C_block h3 fun ad e hn => hg.block _ (Nat.lt_trans (h4 ad e hn) (blk_lt h1)) (hne _ (Nat.le_of_lt (h4 ad e hn))), h4, R_grownNC h5 hg (fun r e => (hr r e).2), h6⟩
theorem keep_others {w w' : World} {h : Nat} {B : Option Nat} {T : List Int} {L : List Nat} (hk : KeepBut w w' h B) (hR : RankAt w h B T L) : KeepsOthers w w' := by
 refine ⟨hk.1, fun k o ho hc => ?_⟩
 have hl := (Array.getElem?_eq_some_iff.1 ho).1
 refine (hk.2 k hl (fun e => ?_) (fun e => ?_)).trans ho
 ·
  subst e
  obtain ⟨_, _, _, h1, _⟩ := hR
  rw [ho] at h1
  cases h1
  cases hc
 ·
  obtain ⟨o', ho', hc'⟩ := hR.cellsB k e.symm
  rw [ho] at ho'
  cases ho'
  rw [hc] at hc'
  cases hc'
structure RHeap (w : World) (h : Nat) (B : Option Nat) (T : List Int) (L : List Nat) (W : World) : Prop where
 hR : RankAt W h B T L
 hX : Boxed W (h + 1) 110 (.pointer (some ⟨h, 0, none⟩))
 hB : Below h w W
 hb : ∀ b, B = some b → h + 3 ≤ b
 hn : h + 3 ≤ W.heap.size
theorem RHeap.own {β : Type} {B0 h : Nat} {w : World} (B : β → Option Nat) (T : List Int) (L : β → List Nat) (hh : h + 1 < B0) : OwnFrom B0 (fun s W => RHeap w h (B s) T (L s) W) := by
 intro s W W' row hs hg hr
 exact ⟨RankAt.own B T L (by omega) s W W' row hs.hR hg hr, (Own.from (boxed_own (h + 1) 110 (fun _ : β => _)) B0) s W W' row hs.hX hg hr,
  hs.hB.trans ⟨hg.os, hg.tape, hg.output, hg.size, fun k hk => hg.block k (by have := hs.hn; omega) (fun e => by have := (hr k e.symm).1; omega)⟩, hs.hb, Nat.le_trans hs.hn hg.size⟩
theorem RHeap.keep {w : World} {h : Nat} {B B' : Option Nat} {T : List Int} {L L' : List Nat} {W W' : World} (hs : RHeap w h B T L W) (hR : RankAt W' h B' T L') (hk : KeepBut W W' h B) (hbl : Below h W W') (hB' : B' = B ∨ ∃ b, B' = some b ∧ W.heap.size ≤ b) : RHeap w h B' T L' W' := by
 refine ⟨hR, hk.blk hs.hX (by omega) (fun e => by have := hs.hb _ e.symm; omega), hs.hB.trans hbl, fun b e => ?_, Nat.le_trans hs.hn hk.1⟩
 rcases hB' with rfl | ⟨b', e', hb'⟩
 ·
  exact hs.hb b e
 ·
  rw [e'] at e
  cases e
  have := hs.hn
  omega
theorem RHeap.below {w : World} {h : Nat} {B : Option Nat} {T : List Int} {L : List Nat} {W W' : World} (hs : RHeap w h B T L W) (hb : Below W.heap.size W W') : RHeap w h B T L W' :=
 ⟨hs.hR.below hb, (hb.block _ hs.hX.lt).trans hs.hX, hs.hB.trans (hb.mono (by have := hs.hn; omega)), hs.hb, Nat.le_trans hs.hn hb.size⟩
theorem buildL_snoc (T : List Int) (l : List Nat) (x : Nat) : buildL T (l ++ [x]) = pushL T (buildL T l) x := by
 unfold buildL
 rw [List.foldl_append]
 rfl
theorem buildL_perm (T : List Int) (l : List Nat) : (buildL T l).Perm l := (build_heap (T := T) l [] (fun i _ h => absurd h (Nat.not_lt_zero _))).2
theorem downL_perm (T : List Int) : ∀ (c : Nat) (L : List Nat) (i n : Nat), n ≤ L.length → i < L.length → (downL T c L i n).Perm L
 | 0, _, _, _, _, _ => List.Perm.refl _
 | c + 1, L, i, n, hn, hi => by
  unfold downL
  split
  ·
   exact List.Perm.refl _
  ·
   split
   ·
    exact List.Perm.refl _
   ·
    have hc : childL T L i n < L.length := by
     unfold childL
     split <;> omega
    exact (downL_perm T c _ _ n (by rw [length_swapL]; exact hn) (by rw [length_swapL]; exact hc)).trans (swapL_perm hi hc)
theorem popL_perm (T : List Int) (L : List Nat) (hL : 0 < L.length) : (popL T L).Perm L :=
 (downL_perm T _ _ 0 _ (by rw [length_swapL]; omega) (by rw [length_swapL]; omega)).trans (swapL_perm hL (by omega))
theorem R_pop {w w' : World} {h b0 : Nat} {B : Option Nat} {v : Value} {xs : List Int} (hO : Kd.R (Kd.int .i64) 3 w b0 (fun _ => True) v xs) (hk : KeepBut w w' h B) (hh : h < b0) (hB : ∀ b, B = some b → b < b0) : Kd.R (Kd.int .i64) 3 w' b0 (fun _ => True) v xs := by
 refine Kd.R_mono (Kd.R_step (Kd.R_tight rfl hO) fun k hk' hlt => hk.2 k hlt (fun e => ?_) (fun e => ?_)) (fun _ _ => trivial)
 ·
  have := Kd.R_base hO k hk'.symm
  omega
 ·
  have := Kd.R_base hO k hk'.symm
  have := hB k e.symm
  omega
theorem RHeap.grown {w : World} {h b0 : Nat} {B : Option Nat} {T : List Int} {L : List Nat} {W W' : World} (hs : RHeap w h B T L W) {row : Option Nat} (hg : W.grownBy W' row) (hr : ∀ r, row = some r → b0 ≤ r) (h3 : h + 3 ≤ b0) (hB : ∀ b, B = some b → b < b0) : RHeap w h B T L W' := by
 refine ⟨hs.hR.move (fun k hk hkk => hg.block k hk (fun e => ?_)), hs.hX.kept hg (fun e => by have := hr _ e.symm; omega), hs.hB.trans ⟨hg.os, hg.tape, hg.output, hg.size, fun k hk => hg.block k (by have := hs.hn; omega) (fun e => by have := hr k e.symm; omega)⟩, hs.hb, Nat.le_trans hs.hn hg.size⟩
 have h1 := hr k e.symm
 rcases hkk with hkk | hkk
 ·
  omega
 ·
  have := hB k hkk.symm
  omega
set_option maxRecDepth 100000 in
set_option maxHeartbeats 8000000 in
theorem ranked_calls (C : Nat) (g : List Tk) (ns : List Nat) (s : Nat) (hgr : graphN g = some ns) (hs : s < 2 ^ g.length) (w : World) (hG : IsGraph w C g ns) (hT : Tab w) :
  Calls Tryz.prog 48 #[.pointer (some ⟨C, 0, none⟩), .int .u16 s] w fun e w' => ∃ v, e = .returned v ∧ Kd.R (Kd.int .i64) 3 w' w.heap.size (fun _ => True) v (ints (rankL (tailN g ns) (elems s))) ∧ Below w.heap.size w w' := by
 have h8 := (graphN_all hgr).1
 have hs16 : s < 65536 := Nat.lt_of_lt_of_le hs (Nat.le_trans (Nat.pow_le_pow_right (by omega) h8) (by decide))
 have HTA := Lib.hid (tails_calls C g ns hgr w hG hT)
 have HSP := Lib.hid (tailN_span hgr)
 have HT := Lib.hid hT
 have htl := hT.lt
 have hel := elems_length s
 clear hG hT hgr
 refine calls_of_wp_marks Tryz.func48 rfl ?_
 simp only [Tryz.ntmps48, List.size_toArray, List.length_cons, List.length_nil, Nat.reduceAdd, Nat.reduceSub, Array.replicate_succ, Array.replicate_zero, List.push_toArray, List.append_toArray, List.nil_append, List.cons_append]
 go_wp2_with (first | (go_at_call 21; refine HTA.out.mono ?_; rintro e w1 ⟨v1, rfl, hR1, hB1⟩; have HR1 := Lib.hid hR1; obtain ⟨A1, c1, rfl, hc1, hC1⟩ := Kd.R_reads hR1; have HC1 := Lib.hid (And.intro hc1 hC1); have HB1 := Lib.hid hB1; clear hR1 hc1 hC1 hB1) | (go_at_call 47; refine (all_calls s _).mono ?_; rintro e w' ⟨rfl, rfl⟩))
 obtain ⟨hc1, hC1⟩ := HC1.out
 have hB1 := HB1.out
 have hTl := HSP.out.1
 have hel2 : ∀ x ∈ elems s, x < (tailN g ns).length := fun x hx => by rw [hTl]; exact elems_below hs hx
 have HEL := Lib.hid hel2
 obtain ⟨rk, hrk⟩ : ∃ rk, rk = rankL (tailN g ns) (elems s) := ⟨_, rfl⟩
 have HRKQ := Lib.hid hrk
 have HRK : Hid (rk = drainL (tailN g ns) (buildL (tailN g ns) (elems s)).length (buildL (tailN g ns) (elems s))) := Lib.hid hrk
 clear hrk
 have hTl8 : (tailN g ns).length ≤ 8 := by omega
 have hel8 : (elems s).length ≤ 16 := hel
 clear hel2 hTl hel
 generalize tailN g ns = T at hTl8 hC1 HEL HRK hc1
 obtain ⟨h, hh⟩ : ∃ h, h = w1.heap.size := ⟨_, rfl⟩
 have hAt : ∀ ad, A1 = some ad → 0 < T.length → ad.block < w1.heap.size := fun ad e hl => by
  obtain ⟨ad', e', hc⟩ := at_num hC1 0 (by omega)
  rw [e] at e'
  cases e'
  have := World.block_lt_of_cell? w1 _ hc
  have e2 : (ad.add 0).block = ad.block := by unfold Addr.add; split <;> rfl
  rwa [e2] at this
 obtain ⟨W0, hW0⟩ : ∃ W0, W0 = (((w1.alloc (.cells #[.slice A1 T.length c1, .slice none 0 0] 112)).alloc (.cells #[.pointer (some ⟨w1.heap.size, 0, none⟩)] 110)).alloc (.cells #[.int .u16 s] 46)) := ⟨_, rfl⟩
 have hB0 : Below w1.heap.size w1 W0 := by rw [hW0]; exact (((Below.refl _ w1).alloc (Nat.le_refl _) _).alloc (by simp) _).alloc (by simp; omega) _
 have hz0 : W0.heap.size = h + 3 := by rw [hW0, hh]; simp
 have hRH : RHeap w1 h none T [] W0 := by
  have q1 : W0.heap[w1.heap.size]? = some (.cells #[.slice A1 T.length c1, .slice none 0 0] 112 (0, 0)) := by
   rw [hW0]
   exact (Below.heap_alloc _ _ _ (by simp; omega)).trans ((Below.heap_alloc _ _ _ (by simp)).trans (World.alloc_heap_new w1 _))
  have q2 : Boxed W0 (w1.heap.size + 1) 110 (.pointer (some ⟨w1.heap.size, 0, none⟩)) := by
   rw [hW0]
   have := (Boxed.new (w1.alloc (.cells #[.slice A1 T.length c1, .slice none 0 0] 112)) 110 (.pointer (some ⟨w1.heap.size, 0, none⟩))).alloc (.cells #[.int .u16 s] 46)
   rwa [World.size_alloc] at this
  rw [← hh] at q1 q2 hAt hB0
  exact ⟨⟨A1, c1, _, q1, Kd.C_below hC1 (hh ▸ hB0), hAt, Kd.R_of_own ⟨by simp [encs, ints], .inl ⟨rfl, by simp [encs, ints]⟩⟩ (fun _ _ => trivial), rfl⟩, q2, hB0, (fun b e => by cases e), by omega⟩
 have hset : Boxed W0 (h + 2) 46 (.int .u16 s) := by
  rw [hW0, hh]
  have := Boxed.new ((w1.alloc (.cells #[.slice A1 T.length c1, .slice none 0 0] 112)).alloc (.cells #[.pointer (some ⟨w1.heap.size, 0, none⟩)] 110)) 46 (.int .u16 s)
  rwa [World.size_alloc, World.size_alloc] at this
 rw [← hW0]
 have hTT := HT.out.keep htl (hB1.trans (hB0.mono hB1.size))
 have hws := hB1.size
 rw [← hh]
 have HH := Lib.hid hh
 have HB0 := Lib.hid hB0
 clear hW0 hAt hC1 hc1 hh
 refine wp_rangeSet1 s (h + 1 + 1) w.heap.size hs16 rfl (by omega) hset.cell hTT (by have := HH.out; omega) htl
  (fun pre W => ∃ B, RHeap w1 h B T (buildL T (pre.map (·.1))) W) (fun _ _ _ => False)
  (OwnFrom.ex fun B => RHeap.own (fun _ => B) T _ (by omega)) (fun _ _ _ _ _ h _ _ => h) ⟨none, hRH⟩
  (fun x => { tmps := #[.pointer (some ⟨C, 0, none⟩), .int .u16 s, undef, undef, .slice none 0 0, .pointer (some ⟨h + 1, 0, none⟩), .int .i64 (x.1 : Nat), undef, .pointer (some ⟨C, 0, none⟩), .slice A1 T.length c1, .agg #[.slice A1 T.length c1, .slice none 0 0], .pointer (some ⟨h, 0, none⟩), .int .u16 s, .func (.func 74) #[] #[.pointer (some ⟨h + 1 + 1, 0, none⟩)], .int .i64 (x.1 : Nat), undef, undef, undef, undef, undef, undef, undef, undef, undef, undef, undef, undef, undef, undef, undef, undef, undef], defers := [] }) ?assign ?body ?done ?stop
 case stop => exact fun _ _ _ _ _ _ h _ => h.elim
 case assign =>
  intro l x W K hK
  gi_wp2
  exact hK
 case body =>
  rintro l pre x W ⟨B, hS⟩ hlt
  have hxl : x.1 < T.length := HEL.out _ x.2
  have hcX := hS.hX.cell
  have hperm := buildL_perm T (pre.map (·.1))
  have hL16 : (buildL T (pre.map (·.1))).length ≤ 900 := by
   have := hperm.length_eq
   rw [List.length_map] at this
   omega
  have hLT : ∀ y ∈ buildL T (pre.map (·.1)), y < T.length := fun y hy => by
   obtain ⟨z, _, rfl⟩ := List.mem_map.1 (hperm.mem_iff.1 hy)
   exact HEL.out _ z.2
  have HP := Lib.hid (heapPush_calls h B T (buildL T (pre.map (·.1))) x.1 hxl hLT hL16 W hS.hR)
  have HSN : Hid (buildL T ((pre ++ [x]).map (·.1)) = pushL T (buildL T (pre.map (·.1))) x.1) := Lib.hid (by rw [List.map_append]; exact buildL_snoc T _ _)
  have HS := Lib.hid hS
  clear hS hperm hLT
  gi_wp2_with (refine ⟨trivial, ?_⟩; gi_at_call 76; refine CallsIn.mono (CallsIn.inRound l (callsIn_wide.2 HP.out)) ?_; rintro e w' ⟨rfl, B', hR', hk', hb', hB'⟩)
  refine ⟨(keep_others hk' HS.out.hR).from _, hb'.mono (by have := HH.out; omega), B', ?_⟩
  rw [HSN.out]
  exact HS.out.keep hR' hk' hb' hB'
 case done =>
  rintro D ys W hD hys ⟨B, hS⟩ hK
  rw [hys] at hS
  have hperm := buildL_perm T (elems s)
  have hL16 : (buildL T (elems s)).length ≤ 16 := by
   have := hperm.length_eq
   omega
  have hLT : ∀ y ∈ buildL T (elems s), y < T.length := fun y hy => HEL.out _ (hperm.mem_iff.1 hy)
  have HS := Lib.hid hS
  have HLT := Lib.hid hLT
  have HK := Lib.hid hK
  clear hS hperm hLT hys hRH hset hB0 hK
  generalize buildL T (elems s) = L0 at HS HLT HRK hL16
  go_wp2
  have hBl : ∀ b, B = some b → b < W.heap.size := fun b e => by
   obtain ⟨o, ho, _⟩ := HS.out.hR.cellsB b e
   exact (Array.getElem?_eq_some_iff.1 ho).1
  have HBL := Lib.hid hBl
  have hSn := HS.out.hn
  have hDl : D < W.heap.size := (Array.getElem?_eq_some_iff.1 HK.out).1
  have hO0 : Kd.R (Kd.int .i64) 3 (W.alloc (.cells #[] 3)) W.heap.size (fun _ => True) (.slice (some ⟨W.heap.size, 0, none⟩) 0 0) (ints []) := Kd.R_of_own (World.ownsRow_lit (base := W.heap.size) (size := 1) W #[] 0 (Nat.le_refl _) (by simp [maxLen]) rfl) (fun _ _ => trivial)
  have hRH0 := HS.out.below ((Below.refl _ _).alloc (Nat.le_refl _) (.cells #[] 3))
  have hBW0 : Below W.heap.size W (W.alloc (.cells #[] 3)) := (Below.refl _ _).alloc (Nat.le_refl _) _
  have hKD0 : (W.alloc (.cells #[] 3)).heap[D]? = some (.deferred (some [])) := (Below.heap_alloc W _ D hDl).trans HK.out
  clear hBl
  go_loopg [7] L0.length (fun k v wr => ∃ (L out : List Nat), Hid (L.length = k ∧ out ++ drainL T L.length L = rk ∧ L.length + out.length ≤ 16 ∧ (∀ y ∈ L, y < T.length) ∧ RHeap w1 h B T L wr ∧ Kd.R (Kd.int .i64) 3 wr W.heap.size (fun _ => True) v (ints out) ∧ wr.heap[D]? = some (.deferred (some [])) ∧ W.heap.size ≤ wr.heap.size))
  case atStart => exact ⟨L0, [], Lib.hid ⟨rfl, HRK.out.symm, by simpa using hL16, HLT.out, hRH0, hO0, hKD0, by simp⟩⟩
  case round =>
   clear hRH0 hO0 hKD0 hBW0
   obtain ⟨L, out, HR⟩ := hrel
   obtain ⟨rfl, hdr, hLo, hLT2, hRH2, hO2, hKD2, hWw⟩ := HR.out
   have HR2 := Lib.hid (And.intro hdr (And.intro hLT2 (And.intro hKD2 hRH2)))
   have cX := hRH2.hX.cell
   have HO2 := Lib.hid hO2
   clear HR hdr hLT2 hRH2 hO2 hKD2
   cases L with
   | nil =>
    have HLN : Hid (Calls Tryz.prog 77 #[.pointer (some ⟨h, 0, none⟩)] wr fun e w' => e = .returned (.int .i64 0) ∧ w' = wr) := Lib.hid (Len_calls h B T [] wr HR2.out.2.2.2.hR)
    go_wp2_with (go_at_call 77; refine HLN.out.mono ?_; rintro e w' ⟨rfl, rfl⟩)
    have hDB : D ≠ h ∧ some D ≠ B := ⟨by omega, fun e => by
     obtain ⟨o, ho, hoc⟩ := HR2.out.2.2.2.hR.cellsB D e.symm
     rw [HR2.out.2.2.1] at ho
     cases ho
     cases hoc⟩
    refine leave_one HR2.out.2.2.1 (results_tmp rfl _ _ _) ⟨_, rfl, ?_, ?_⟩
    ·
     have e : out = rk := by have := HR2.out.1; simpa [drainL] using this
     rw [← HRKQ.out, ← e]
     refine R_grownNC (Kd.R_mono (Kd.R_lower HO2.out (show w.heap.size ≤ W.heap.size by have := HH.out; omega)) (fun _ _ => trivial)) (grownBy_putObj' _ _ _) (fun r e => ?_)
     cases e
     exact ⟨_, HR2.out.2.2.1, rfl⟩
    ·
     refine (HB1.out.trans ((HR2.out.2.2.2.hB.mono (by have := HH.out; omega)).mono hws)).trans ?_
     exact belowK_b (w := w) (Nat.le_refl _) _ D _ _ (by have := HH.out; omega) HR2.out.2.2.1 rfl rfl
   | cons y L =>
    have HPO := Lib.hid (heapPop_calls h B T (y :: L) (by simp) HR2.out.2.1 (by omega) wr HR2.out.2.2.2.hR)
    have HLN : Hid (Calls Tryz.prog 77 #[.pointer (some ⟨h, 0, none⟩)] wr fun e w' => e = .returned (.int .i64 ((L.length + 1 : Nat) : Int)) ∧ w' = wr) := Lib.hid (Len_calls h B T (y :: L) wr HR2.out.2.2.2.hR)
    have hlen : (y :: L).length - 1 = L.length := by simp
    rw [hlen] at HPO
    have HDR : Hid (drainL T (y :: L).length (y :: L) = (popL T (y :: L)).getD L.length 0 :: drainL T L.length ((popL T (y :: L)).take L.length)) := Lib.hid (by rw [List.length_cons, drainL, if_neg (by simp)]; simp)
    have hp := (popL_perm T (y :: L) (by simp)).length_eq
    have hpl : ((popL T (y :: L)).take L.length).length = L.length := by rw [List.length_take, hp]; simp
    have HPL := Lib.hid hpl
    have HTK : Hid (∀ z ∈ (popL T (y :: L)).take L.length, z < T.length) := Lib.hid fun z hz => HR2.out.2.1 z ((popL_perm T (y :: L) (by simp)).mem_iff.1 (List.mem_of_mem_take hz))
    clear hlen hp hpl
    generalize hq1 : (popL T (y :: L)).getD L.length 0 = q at HPO HDR
    generalize hq2 : (popL T (y :: L)).take L.length = L2 at HPO HDR HPL HTK
    clear hq1 hq2
    have hta := ta q
    go_wp2_with (first | (go_at_call 77; refine HLN.out.mono ?_; rintro e wr ⟨rfl, rfl⟩) | (go_at_call 78; refine HPO.out.mono ?_; rintro e w3 ⟨rfl, hR3, hk3, hb3⟩; have HK3 := Lib.hid (And.intro hR3 (And.intro hk3 hb3)); have HO3 := Lib.hid (R_pop HO2.out hk3 (by omega) HBL.out); clear hR3 hk3 hb3) | (at_builtin; refine ap_int (w0 := w3) W.heap.size rfl _ _ rfl u7 (ints out) (q : Int) rfl rfl rfl HO3.out (Below.refl _ _) (Nat.le_trans hWw HK3.out.2.1.1) (by rw [ints_length]; omega) ?_; intro v1 w4 hO4 hB4 hg4 hat4; have HO4 := Lib.hid (And.intro hO4 (And.intro hB4 hg4)); clear hO4 hB4 hg4 hat4))
    have hDB : D ≠ h ∧ some D ≠ B := ⟨by omega, fun e => by
     obtain ⟨o, ho, hoc⟩ := HR2.out.2.2.2.hR.cellsB D e.symm
     rw [HR2.out.2.2.1] at ho
     cases ho
     cases hoc⟩
    go_roundg L.length
    case measure => simp
    case rel =>
     have hRH3 := HR2.out.2.2.2.keep HK3.out.1 HK3.out.2.1 HK3.out.2.2 (.inl rfl)
     have hr4 : ∀ r, u7.ownBlock = some r → W.heap.size ≤ r := fun r e => Kd.R_base HO2.out r e
     have hDw : D < wr.heap.size := by omega
     refine ⟨L2, out ++ [q], Lib.hid ⟨HPL.out, ?_, by have := HPL.out; simp at hLo ⊢; omega, HTK.out, hRH3.grown HO4.out.2.2 hr4 hSn HBL.out, ?_, ?_, ?_⟩⟩
     ·
      rw [← HR2.out.1, HDR.out, HPL.out]
      simp
     ·
      have := HO4.out.1
      rw [show ints (out ++ [q]) = ints out ++ [(q : Int)] by simp [ints]]
      exact this
     ·
      have h3 := HK3.out.2.1.2 D hDw hDB.1 hDB.2
      have h4 := HO4.out.2.2.block D (Nat.lt_of_lt_of_le hDw HK3.out.2.1.1) (fun e => by have := hr4 D e.symm; omega)
      exact h4.trans (h3.trans HR2.out.2.2.1)
     ·
      exact Nat.le_trans hWw (Nat.le_trans HK3.out.2.1.1 HO4.out.2.2.size)
end Go.Proofs.YtkljcdghbefceaaGreatDoor

namespace Go.Proofs.YtkljcdghbefceaaGreatDoor
set_option linter.unusedVariables false
set_option linter.unusedSimpArgs false
open Go.RowKit Go.Shelf Bits
open Go.Proofs.YtkljcdghbefceaaGreatDoorW.PrintWords Go.Proofs.YtkljcdghbefceaaGreatDoorW.PrintLast Go.Proofs.YtkljcdghbefceaaGreatDoorW.PrintMore
def readyU (ns : List Nat) (d : Nat) : Nat → Nat
 | 0 => 0
 | k + 1 => if isReady ns d k then readyU ns d k ||| 2 ^ k else readyU ns d k
def readyN (ns : List Nat) (d : Nat) : Nat := readyU ns d ns.length
theorem readyU_lt (ns : List Nat) (d : Nat) : ∀ k, readyU ns d k < 2 ^ k
 | 0 => by simp [readyU]
 | k + 1 => by
  have ih := readyU_lt ns d k
  unfold readyU
  have h2 : (2 : Nat) ^ k < 2 ^ (k + 1) := Nat.pow_lt_pow_right (by omega) (by omega)
  split
  ·
   exact Nat.or_lt_two_pow (by omega) h2
  ·
   omega
theorem readyU_bit (ns : List Nat) (d j : Nat) : ∀ k, (readyU ns d k).testBit j = (decide (j < k) && isReady ns d j)
 | 0 => by simp [readyU]
 | k + 1 => by
  have ih := readyU_bit ns d j k
  unfold readyU
  by_cases hj : j = k
  ·
   subst hj
   split
   ·
    rename_i h
    rw [or_bit, ih, h]
    simp
   ·
    rename_i h
    rw [ih]
    simp [h]
  ·
   have e : decide (j < k + 1) = decide (j < k) := by rw [decide_eq_decide]; omega
   split
   ·
    rw [or_bit, ih, e]
    have : ¬ k = j := fun e => hj e.symm
    simp [this]
   ·
    rw [ih, e]
theorem readyN_bit (ns : List Nat) (d j : Nat) : (readyN ns d).testBit j = (decide (j < ns.length) && isReady ns d j) := readyU_bit ns d j _
set_option maxRecDepth 100000 in
set_option maxHeartbeats 2000000 in
theorem ready_calls (C : Nat) (g : List Tk) (ns : List Nat) (d : Nat) (hlen : ns.length ≤ 15) (hns : ∀ i, ns.getD i 0 < 65536) (hd : d < 65536) (w : World) (hG : IsGraph w C g ns) :
  Calls Tryz.prog 49 #[.pointer (some ⟨C, 0, none⟩), .int .u16 d] w fun e w' => e = .returned (.int .u16 (readyN ns d : Nat)) ∧ w' = w := by
 obtain ⟨Ag, cg, An, cn, Ao, co, vb, va, h1, h2, h3, h4⟩ := hG
 have cC := blk_cell h1 1
 simp at cC
 have HR := Lib.hid h3
 have HNS := Lib.hid hns
 have hL := (C_len h3).2
 have HU := Lib.hid (readyU_lt ns d)
 clear h1 h2 h3 h4 hns
 go_enter Tryz.func49, Tryz.ntmps49
 go_wp2
 go_loop [5, 13] (fun out i => ∃ (k : Nat), k ≤ ns.length ∧ i = .int .i64 k ∧ out = .int .u16 (readyU ns d k : Nat)) (fun _ i => ns.length - (intOf i).toNat)
 case atStart => exact ⟨0, Nat.zero_le _, rfl, rfl⟩
 case round =>
  obtain ⟨k, hk, rfl, rfl⟩ := hrel
  by_cases hlt : k < ns.length
  ·
   obtain ⟨ad, rfl, hc⟩ := at_set HR.out k hlt
   have hx := HNS.out k
   have hk16 : k < 16 := by omega
   have hu : readyU ns d k < 65536 := Nat.lt_of_lt_of_le (HU.out k) (pow_le_u16 (by omega))
   have HE : Hid (readyU ns d (k + 1) = if isReady ns d k then readyU ns d k ||| 2 ^ k else readyU ns d k) := Lib.hid rfl
   have HRD : Hid (isReady ns d k = (!d.testBit k && decide (diff (ns.getD k 0) d = 0))) := Lib.hid rfl
   generalize ns.getD k 0 = z at hc hx HRD
   generalize readyU ns d k = u at hu HE
   cases ht : d.testBit k
   ·
    have HT := Lib.hid ht
    clear ht
    by_cases hz : diff z d = 0
    ·
     have hb : (bits BinOp.andNot IntKind.u16 (z : Int) (d : Int) == 0) = true := by rw [bits_andNot_u16 _ d hx, hz]; rfl
     have HZ := Lib.hid hz
     clear hz
     go_wp2_with (first | (go_at_call 79; refine (has_is _ _ _ HT hd hk16 _).mono ?_; rintro e w' ⟨rfl, rfl⟩) | (go_at_call 42; refine (with_calls u k hu hk16 _).mono ?_; rintro e w' ⟨rfl, rfl⟩))
     go_round
     case rel => exact ⟨k + 1, by omega, by go_num, by rw [HE.out, HRD.out, HT.out, HZ.out]; rfl⟩
     case measure => simp [intOf]; omega
    ·
     have hb : (bits BinOp.andNot IntKind.u16 (z : Int) (d : Int) == 0) = false := by rw [bits_andNot_u16 _ d hx, beq_eq_false_iff_ne]; omega
     have HZ := Lib.hid hz
     clear hz
     go_wp2_with (first | (go_at_call 79; refine (has_is _ _ _ HT hd hk16 _).mono ?_; rintro e w' ⟨rfl, rfl⟩))
     go_round
     case rel => exact ⟨k + 1, by omega, by go_num, by rw [HE.out, HRD.out, HT.out, decide_eq_false HZ.out]; rfl⟩
     case measure => simp [intOf]; omega
   ·
    have HT := Lib.hid ht
    clear ht
    go_wp2_with (first | (go_at_call 79; refine (has_is _ _ _ HT hd hk16 _).mono ?_; rintro e w' ⟨rfl, rfl⟩))
    go_round
    case rel => exact ⟨k + 1, by omega, by go_num, by rw [HE.out, HRD.out, HT.out]; rfl⟩
    case measure => simp [intOf]; omega
  ·
   obtain rfl : k = ns.length := by omega
   go_wp2
   go_ret
   exact ⟨rfl, rfl⟩
end Go.Proofs.YtkljcdghbefceaaGreatDoor

namespace Go.Proofs.YtkljcdghbefceaaGreatDoor
set_option linter.unusedVariables false
set_option linter.unusedSimpArgs false
open Go.RowKit Go.Shelf Bits
structure PS where
 st : List Int
 b : Nat
 o : Nat
def ovF (g : List Tk) (st : List Int) (now : Int) (o i : Nat) : Nat := if st.getD i 0 + (rdTk g i).f0 ≤ now then o ||| 2 ^ i else o
def ovN (g : List Tk) (st : List Int) (now : Int) (o : Nat) (l : List Nat) : Nat := l.foldl (ovF g st now) o
theorem ovN_snoc (g : List Tk) (st : List Int) (now : Int) (o : Nat) (l : List Nat) (i : Nat) : ovN g st now o (l ++ [i]) = ovF g st now (ovN g st now o l) i := by
 unfold ovN
 rw [List.foldl_append]
 rfl
theorem ovN_lt {g : List Tk} {st : List Int} {now : Int} {n : Nat} : ∀ (l : List Nat) {o : Nat}, o < 2 ^ n → (∀ i ∈ l, i < n) → ovN g st now o l < 2 ^ n
 | [], o, ho, _ => ho
 | i :: l, o, ho, hl => by
  refine ovN_lt l (o := ovF g st now o i) ?_ (fun j hj => hl j (List.mem_cons_of_mem _ hj))
  unfold ovF
  split
  ·
   exact Nat.or_lt_two_pow ho (Nat.pow_lt_pow_right (by decide) (hl i List.mem_cons_self))
  ·
   exact ho
def nextN (g : List Tk) (ns : List Nat) (rm : List Int) (wk : Int) (b o : Nat) : List Nat :=
 (admN g rm wk (cnt g (elems (diff b o))) (rankL (tailN g ns) (elems (diff (readyN ns o) b)))).2
def putB (b : Nat) (l : List Nat) : Nat := l.foldl (fun b i => b ||| 2 ^ i) b
theorem putB_snoc (b : Nat) (l : List Nat) (i : Nat) : putB b (l ++ [i]) = putB b l ||| 2 ^ i := by
 unfold putB
 rw [List.foldl_append]
 rfl
theorem putB_lt {n : Nat} : ∀ (l : List Nat) {b : Nat}, b < 2 ^ n → (∀ i ∈ l, i < n) → putB b l < 2 ^ n
 | [], b, hb, _ => hb
 | i :: l, b, hb, hl => putB_lt l (b := b ||| 2 ^ i) (Nat.or_lt_two_pow hb (Nat.pow_lt_pow_right (by decide) (hl i List.mem_cons_self))) (fun j hj => hl j (List.mem_cons_of_mem _ hj))
def stepN (g : List Tk) (ns : List Nat) (rm : List Int) (wk : Int) (now : Nat) (p : PS) : PS :=
 ⟨putS now p.st (nextN g ns rm wk p.b (ovN g p.st now p.o (elems p.b))), putB p.b (nextN g ns rm wk p.b (ovN g p.st now p.o (elems p.b))), ovN g p.st now p.o (elems p.b)⟩
def planN (g : List Tk) (ns : List Nat) (rm : List Int) (wk : Int) : Nat → PS
 | 0 => ⟨List.replicate g.length 0, 0, 0⟩
 | k + 1 => stepN g ns rm wk k (planN g ns rm wk k)
theorem nextN_lt {g : List Tk} {ns : List Nat} (rm : List Int) (wk : Int) {b o : Nat} (hn : ns.length = g.length) : ∀ x ∈ nextN g ns rm wk b o, x < g.length := by
 intro x hx
 have h1 := admN_sub g rm wk (cnt g (elems (diff b o))) (rankL (tailN g ns) (elems (diff (readyN ns o) b))) _ (Nat.le_refl _) x (by rw [List.take_length]; exact hx)
 have h2 := (rank_sorted (tailN g ns) (elems (diff (readyN ns o) b))).2.mem_iff.1 h1
 refine elems_below (diff_lt (n := g.length) (hn ▸ readyU_lt ns o _)) h2
def PS.ok (n : Nat) (p : PS) : Prop := StOk n p.st ∧ p.b < 2 ^ n ∧ p.o < 2 ^ n
theorem planN_ok {g : List Tk} {ns : List Nat} (rm : List Int) (wk : Int) (hn : ns.length = g.length) : ∀ k, k ≤ 200 → (planN g ns rm wk k).ok g.length
 | 0, _ => by
  refine ⟨⟨by unfold planN; simp, fun i => ?_⟩, Nat.two_pow_pos _, Nat.two_pow_pos _⟩
  unfold planN
  rw [List.getD_eq_getElem?_getD, List.getElem?_replicate]
  split <;> simp
 | k + 1, hk => by
  obtain ⟨h1, h2, h3⟩ := planN_ok rm wk hn k (by omega)
  exact ⟨putS_ok (by omega) _ h1, putB_lt _ h2 (nextN_lt rm wk hn), ovN_lt _ h3 (fun i hi => elems_below h2 hi)⟩
end Go.Proofs.YtkljcdghbefceaaGreatDoor
