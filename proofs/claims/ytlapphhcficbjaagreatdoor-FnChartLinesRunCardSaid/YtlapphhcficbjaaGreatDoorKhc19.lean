/- Parts of the proof, laid as one text by a program of mine. -/
import Derived.Test.YtlapphhcficbjaaGreatDoorKhc5
import Derived.Test.YtlapphhcficbjaaGreatDoorKhc18
import Derived.Test.YtlapphhcficbjaaGreatDoorKhc9
import Derived.Test.YtlapphhcficbjaaGreatDoorKhc10
import Derived.Deep.RegionHeld3
namespace Go.Proofs.YtlapphhcficbjaaGreatDoor
set_option linter.unusedVariables false
set_option linter.unusedSimpArgs false
open Go.RowKit Go.Shelf Bits
open Go.Proofs.YtlapphhcficbjaaGreatDoorW.PrintWords Go.Proofs.YtlapphhcficbjaaGreatDoorW.PrintLast Go.Proofs.YtlapphhcficbjaaGreatDoorW.PrintMore
attribute [local go_sem] Oper.semAt_some
theorem RankAt.cellsB {W : World} {h : Nat} {B : Option Nat} {T : List Int} {L : List Nat} (hR : RankAt W h B T L) : ∀ k, B = some k → ∃ o : Obj, W.heap[k]? = some o ∧ o.isCells = true := by
 obtain ⟨At, ct, v, h1, h3, h4, h5, h6⟩ := hR
 intro k hk
 rw [← h6] at hk
 obtain ⟨_, ⟨hv, _⟩ | ⟨b, cap, cells, rfl, hb, hc, _⟩⟩ := Kd.own_of_R h5
 ·
  subst hv
  cases hk
 ·
  simp only [Value.ownBlock, Option.map_some, Option.some.injEq] at hk
  subst hk
  exact ⟨_, hc, rfl⟩
theorem RankAt.own {β : Type} {B0 h : Nat} (B : β → Option Nat) (T : List Int) (L : β → List Nat) (hh : h < B0) : OwnFrom B0 (fun s W => RankAt W h (B s) T (L s)) := by
 intro s W W' row ⟨At, ct, v, h1, h3, h4, h5, h6⟩ hg hr
 have hne : ∀ k, k ≤ h → some k ≠ row := fun k hk e => by have := (hr k e.symm).1; omega
 exact ⟨At, ct, v, (hg.block h (blk_lt h1) (hne h (Nat.le_refl _))).trans h1, C_block h3 fun ad e hn => hg.block _ (Nat.lt_trans (h4 ad e hn) (blk_lt h1)) (hne _ (Nat.le_of_lt (h4 ad e hn))), h4, R_grownNC h5 hg (fun r e => (hr r e).2), h6⟩
theorem keep_others {w w' : World} {h : Nat} {B : Option Nat} {T : List Int} {L : List Nat} (hk : KeepBut w w' h B) (hR : RankAt w h B T L) : KeepsOthers w w' := by
 refine ⟨hk.1, fun k o ho hc => ?_⟩
 have hl := (Array.getElem?_eq_some_iff.1 ho).1
 refine (hk.2 k hl (fun e => ?_) (fun e => ?_)).trans ho
 ·
  subst e
  obtain ⟨_, _, _, h1, _⟩ := hR
  rw [ho] at h1
  cases h1
  cases hc
 ·
  obtain ⟨o', ho', hc'⟩ := hR.cellsB k e.symm
  rw [ho] at ho'
  cases ho'
  rw [hc] at hc'
  cases hc'
structure RHeap (w : World) (h : Nat) (B : Option Nat) (T : List Int) (L : List Nat) (W : World) : Prop where
 hR : RankAt W h B T L
 hX : Boxed W (h + 1) 159 (.pointer (some ⟨h, 0, none⟩))
 hB : Below h w W
 hb : ∀ b, B = some b → h + 3 ≤ b
 hn : h + 3 ≤ W.heap.size
theorem RHeap.own {β : Type} {B0 h : Nat} {w : World} (B : β → Option Nat) (T : List Int) (L : β → List Nat) (hh : h + 1 < B0) : OwnFrom B0 (fun s W => RHeap w h (B s) T (L s) W) := by
 intro s W W' row hs hg hr
 exact ⟨RankAt.own B T L (by omega) s W W' row hs.hR hg hr, (Own.from (boxed_own (h + 1) 159 (fun _ : β => _)) B0) s W W' row hs.hX hg hr,
  hs.hB.trans ⟨hg.os, hg.tape, hg.output, hg.size, fun k hk => hg.block k (by have := hs.hn; omega) (fun e => by have := (hr k e.symm).1; omega)⟩, hs.hb, Nat.le_trans hs.hn hg.size⟩
theorem RHeap.keep {w : World} {h : Nat} {B B' : Option Nat} {T : List Int} {L L' : List Nat} {W W' : World} (hs : RHeap w h B T L W) (hR : RankAt W' h B' T L') (hk : KeepBut W W' h B) (hbl : Below h W W') (hB' : B' = B ∨ ∃ b, B' = some b ∧ W.heap.size ≤ b) : RHeap w h B' T L' W' := by
 refine ⟨hR, hk.blk hs.hX (by omega) (fun e => by have := hs.hb _ e.symm; omega), hs.hB.trans hbl, fun b e => ?_, Nat.le_trans hs.hn hk.1⟩
 rcases hB' with rfl | ⟨b', e', hb'⟩
 ·
  exact hs.hb b e
 ·
  rw [e'] at e
  cases e
  have := hs.hn
  omega
theorem RHeap.below {w : World} {h : Nat} {B : Option Nat} {T : List Int} {L : List Nat} {W W' : World} (hs : RHeap w h B T L W) (hb : Below W.heap.size W W') : RHeap w h B T L W' :=
 ⟨hs.hR.below hb, (hb.block _ hs.hX.lt).trans hs.hX, hs.hB.trans (hb.mono (by have := hs.hn; omega)), hs.hb, Nat.le_trans hs.hn hb.size⟩
theorem buildL_snoc (T : List Int) (l : List Nat) (x : Nat) : buildL T (l ++ [x]) = pushL T (buildL T l) x := by
 unfold buildL
 rw [List.foldl_append]
 rfl
theorem buildL_perm (T : List Int) (l : List Nat) : (buildL T l).Perm l := (build_heap (T := T) l [] (fun i _ h => absurd h (Nat.not_lt_zero _))).2
theorem downL_perm (T : List Int) : ∀ (c : Nat) (L : List Nat) (i n : Nat), n ≤ L.length → i < L.length → (downL T c L i n).Perm L
 | 0, _, _, _, _, _ => List.Perm.refl _
 | c + 1, L, i, n, hn, hi => by
  unfold downL
  split
  ·
   exact List.Perm.refl _
  ·
   split
   ·
    exact List.Perm.refl _
   ·
    have hc : childL T L i n < L.length := by
     unfold childL
     split <;> omega
    exact (downL_perm T c _ _ n (by rw [length_swapL]; exact hn) (by rw [length_swapL]; exact hc)).trans (swapL_perm hi hc)
theorem popL_perm (T : List Int) (L : List Nat) (hL : 0 < L.length) : (popL T L).Perm L :=
 (downL_perm T _ _ 0 _ (by rw [length_swapL]; omega) (by rw [length_swapL]; omega)).trans (swapL_perm hL (by omega))
theorem R_pop {w w' : World} {h b0 : Nat} {B : Option Nat} {v : Value} {xs : List Int} (hO : Kd.R (Kd.int .i64) 3 w b0 (fun _ => True) v xs) (hk : KeepBut w w' h B) (hh : h < b0) (hB : ∀ b, B = some b → b < b0) : Kd.R (Kd.int .i64) 3 w' b0 (fun _ => True) v xs := by
 refine Kd.R_mono (Kd.R_step (Kd.R_tight rfl hO) fun k hk' hlt => hk.2 k hlt (fun e => ?_) (fun e => ?_)) (fun _ _ => trivial)
 ·
  have := Kd.R_base hO k hk'.symm
  omega
 ·
  have := Kd.R_base hO k hk'.symm
  have := hB k e.symm
  omega
theorem RHeap.grown {w : World} {h b0 : Nat} {B : Option Nat} {T : List Int} {L : List Nat} {W W' : World} (hs : RHeap w h B T L W) {row : Option Nat} (hg : W.grownBy W' row) (hr : ∀ r, row = some r → b0 ≤ r) (h3 : h + 3 ≤ b0) (hB : ∀ b, B = some b → b < b0) : RHeap w h B T L W' := by
 refine ⟨hs.hR.move (fun k hk hkk => hg.block k hk (fun e => ?_)), hs.hX.kept hg (fun e => by have := hr _ e.symm; omega), hs.hB.trans ⟨hg.os, hg.tape, hg.output, hg.size, fun k hk => hg.block k (by have := hs.hn; omega) (fun e => by have := hr k e.symm; omega)⟩, hs.hb, Nat.le_trans hs.hn hg.size⟩
 have h1 := hr k e.symm
 rcases hkk with hkk | hkk
 ·
  omega
 ·
  have := hB k hkk.symm
  omega
set_option maxRecDepth 100000 in
set_option maxHeartbeats 8000000 in
theorem ranked_calls (C : Nat) (g : List Tk) (ns : List Nat) (s : Nat) (hgr : graphN g = some ns) (hs : s < 2 ^ g.length) (w : World) (hG : IsGraph w C g ns) (hT : Tab w) :
  Calls Tryz.prog 80 #[.pointer (some ⟨C, 0, none⟩), .int .u16 s] w fun e w' => ∃ v, e = .returned v ∧ Kd.R (Kd.int .i64) 3 w' w.heap.size (fun _ => True) v (ints (rankL (tailN g ns) (elems s))) ∧ Below w.heap.size w w' := by
 have h8 := (graphN_all hgr).1
 have hs16 : s < 65536 := Nat.lt_of_lt_of_le hs (Nat.le_trans (Nat.pow_le_pow_right (by omega) h8) (by decide))
 have HTA := Lib.hid (tails_calls C g ns hgr w hG hT)
 have HSP := Lib.hid (tailN_span hgr)
 have HT := Lib.hid hT
 have htl := hT.lt
 have hel := elems_length s
 clear hG hT hgr
 refine calls_of_wp_marks Tryz.func80 rfl ?_
 simp only [Tryz.ntmps80, List.size_toArray, List.length_cons, List.length_nil, Nat.reduceAdd, Nat.reduceSub, Array.replicate_succ, Array.replicate_zero, List.push_toArray, List.append_toArray, List.nil_append, List.cons_append]
 go_wp2_with (first | (go_at_call 39; refine HTA.out.mono ?_; rintro e w1 ⟨v1, rfl, hR1, hB1⟩; have HR1 := Lib.hid hR1; obtain ⟨A1, c1, rfl, hc1, hC1⟩ := Kd.R_reads hR1; have HC1 := Lib.hid (And.intro hc1 hC1); have HB1 := Lib.hid hB1; clear hR1 hc1 hC1 hB1) | (go_at_call 69; refine (all_calls s _).mono ?_; rintro e w' ⟨rfl, rfl⟩))
 obtain ⟨hc1, hC1⟩ := HC1.out
 have hB1 := HB1.out
 have hTl := HSP.out.1
 have hel2 : ∀ x ∈ elems s, x < (tailN g ns).length := fun x hx => by rw [hTl]; exact elems_below hs hx
 have HEL := Lib.hid hel2
 obtain ⟨rk, hrk⟩ : ∃ rk, rk = rankL (tailN g ns) (elems s) := ⟨_, rfl⟩
 have HRKQ := Lib.hid hrk
 have HRK : Hid (rk = drainL (tailN g ns) (buildL (tailN g ns) (elems s)).length (buildL (tailN g ns) (elems s))) := Lib.hid hrk
 clear hrk
 have hTl8 : (tailN g ns).length ≤ 8 := by omega
 have hel8 : (elems s).length ≤ 16 := hel
 clear hel2 hTl hel
 generalize tailN g ns = T at hTl8 hC1 HEL HRK hc1
 obtain ⟨h, hh⟩ : ∃ h, h = w1.heap.size := ⟨_, rfl⟩
 have hAt : ∀ ad, A1 = some ad → 0 < T.length → ad.block < w1.heap.size := fun ad e hl => by
  obtain ⟨ad', e', hc⟩ := at_num hC1 0 (by omega)
  rw [e] at e'
  cases e'
  have := World.block_lt_of_cell? w1 _ hc
  have e2 : (ad.add 0).block = ad.block := by unfold Addr.add; split <;> rfl
  rwa [e2] at this
 obtain ⟨W0, hW0⟩ : ∃ W0, W0 = (((w1.alloc (.cells #[.slice A1 T.length c1, .slice none 0 0] 161)).alloc (.cells #[.pointer (some ⟨w1.heap.size, 0, none⟩)] 159)).alloc (.cells #[.int .u16 s] 56)) := ⟨_, rfl⟩
 have hB0 : Below w1.heap.size w1 W0 := by rw [hW0]; exact (((Below.refl _ w1).alloc (Nat.le_refl _) _).alloc (by simp) _).alloc (by simp; omega) _
 have hz0 : W0.heap.size = h + 3 := by rw [hW0, hh]; simp
 have hRH : RHeap w1 h none T [] W0 := by
  have q1 : W0.heap[w1.heap.size]? = some (.cells #[.slice A1 T.length c1, .slice none 0 0] 161 (0, 0)) := by
   rw [hW0]
   exact (Below.heap_alloc _ _ _ (by simp; omega)).trans ((Below.heap_alloc _ _ _ (by simp)).trans (World.alloc_heap_new w1 _))
  have q2 : Boxed W0 (w1.heap.size + 1) 159 (.pointer (some ⟨w1.heap.size, 0, none⟩)) := by
   rw [hW0]
   have := (Boxed.new (w1.alloc (.cells #[.slice A1 T.length c1, .slice none 0 0] 161)) 159 (.pointer (some ⟨w1.heap.size, 0, none⟩))).alloc (.cells #[.int .u16 s] 56)
   rwa [World.size_alloc] at this
  rw [← hh] at q1 q2 hAt hB0
  exact ⟨⟨A1, c1, _, q1, Kd.C_below hC1 (hh ▸ hB0), hAt, Kd.R_of_own ⟨by simp [encs, ints], .inl ⟨rfl, by simp [encs, ints]⟩⟩ (fun _ _ => trivial), rfl⟩, q2, hB0, (fun b e => by cases e), by omega⟩
 have hset : Boxed W0 (h + 2) 56 (.int .u16 s) := by
  rw [hW0, hh]
  have := Boxed.new ((w1.alloc (.cells #[.slice A1 T.length c1, .slice none 0 0] 161)).alloc (.cells #[.pointer (some ⟨w1.heap.size, 0, none⟩)] 159)) 56 (.int .u16 s)
  rwa [World.size_alloc, World.size_alloc] at this
 rw [← hW0]
 have hTT := HT.out.keep htl (hB1.trans (hB0.mono hB1.size))
 have hws := hB1.size
 rw [← hh]
 have HH := Lib.hid hh
 have HB0 := Lib.hid hB0
 clear hW0 hAt hC1 hc1 hh
 refine wp_rangeSet1 s (h + 1 + 1) w.heap.size hs16 rfl (by omega) hset.cell hTT (by have := HH.out; omega) htl
  (fun pre W => ∃ B, RHeap w1 h B T (buildL T (pre.map (·.1))) W) (fun _ _ _ => False)
  (OwnFrom.ex fun B => RHeap.own (fun _ => B) T _ (by omega)) (fun _ _ _ _ _ h _ _ => h) ⟨none, hRH⟩
  (fun x => { tmps := #[.pointer (some ⟨C, 0, none⟩), .int .u16 s, undef, undef, .slice none 0 0, .pointer (some ⟨h + 1, 0, none⟩), .int .i64 (x.1 : Nat), undef, .pointer (some ⟨C, 0, none⟩), .slice A1 T.length c1, .agg #[.slice A1 T.length c1, .slice none 0 0], .pointer (some ⟨h, 0, none⟩), .int .u16 s, .func (.func 108) #[] #[.pointer (some ⟨h + 1 + 1, 0, none⟩)], .int .i64 (x.1 : Nat), undef, undef, undef, undef, undef, undef, undef, undef, undef, undef, undef, undef, undef, undef, undef, undef, undef], defers := [] }) ?assign ?body ?done ?stop
 case stop => exact fun _ _ _ _ _ _ h _ => h.elim
 case assign =>
  intro l x W K hK
  gi_wp2
  exact hK
 case body =>
  rintro l pre x W ⟨B, hS⟩ hlt
  have hxl : x.1 < T.length := HEL.out _ x.2
  have hcX := hS.hX.cell
  have hperm := buildL_perm T (pre.map (·.1))
  have hL16 : (buildL T (pre.map (·.1))).length ≤ 900 := by
   have := hperm.length_eq
   rw [List.length_map] at this
   omega
  have hLT : ∀ y ∈ buildL T (pre.map (·.1)), y < T.length := fun y hy => by
   obtain ⟨z, _, rfl⟩ := List.mem_map.1 (hperm.mem_iff.1 hy)
   exact HEL.out _ z.2
  have HP := Lib.hid (heapPush_calls h B T (buildL T (pre.map (·.1))) x.1 hxl hLT hL16 W hS.hR)
  have HSN : Hid (buildL T ((pre ++ [x]).map (·.1)) = pushL T (buildL T (pre.map (·.1))) x.1) := Lib.hid (by rw [List.map_append]; exact buildL_snoc T _ _)
  have HS := Lib.hid hS
  clear hS hperm hLT
  gi_wp2_with (refine ⟨trivial, ?_⟩; gi_at_call 114; refine CallsIn.mono (CallsIn.inRound l (callsIn_wide.2 HP.out)) ?_; rintro e w' ⟨rfl, B', hR', hk', hb', hB'⟩)
  refine ⟨(keep_others hk' HS.out.hR).from _, hb'.mono (by have := HH.out; omega), B', ?_⟩
  rw [HSN.out]
  exact HS.out.keep hR' hk' hb' hB'
 case done =>
  rintro D ys W hD hys ⟨B, hS⟩ hK
  rw [hys] at hS
  have hperm := buildL_perm T (elems s)
  have hL16 : (buildL T (elems s)).length ≤ 16 := by
   have := hperm.length_eq
   omega
  have hLT : ∀ y ∈ buildL T (elems s), y < T.length := fun y hy => HEL.out _ (hperm.mem_iff.1 hy)
  have HS := Lib.hid hS
  have HLT := Lib.hid hLT
  have HK := Lib.hid hK
  clear hS hperm hLT hys hRH hset hB0 hK
  generalize buildL T (elems s) = L0 at HS HLT HRK hL16
  go_wp2
  have hBl : ∀ b, B = some b → b < W.heap.size := fun b e => by
   obtain ⟨o, ho, _⟩ := HS.out.hR.cellsB b e
   exact (Array.getElem?_eq_some_iff.1 ho).1
  have HBL := Lib.hid hBl
  have hSn := HS.out.hn
  have hDl : D < W.heap.size := (Array.getElem?_eq_some_iff.1 HK.out).1
  have hO0 : Kd.R (Kd.int .i64) 3 (W.alloc (.cells #[] 3)) W.heap.size (fun _ => True) (.slice (some ⟨W.heap.size, 0, none⟩) 0 0) (ints []) := Kd.R_of_own (World.ownsRow_lit (base := W.heap.size) (size := 1) W #[] 0 (Nat.le_refl _) (by simp [maxLen]) rfl) (fun _ _ => trivial)
  have hRH0 := HS.out.below ((Below.refl _ _).alloc (Nat.le_refl _) (.cells #[] 3))
  have hBW0 : Below W.heap.size W (W.alloc (.cells #[] 3)) := (Below.refl _ _).alloc (Nat.le_refl _) _
  have hKD0 : (W.alloc (.cells #[] 3)).heap[D]? = some (.deferred (some [])) := (Below.heap_alloc W _ D hDl).trans HK.out
  clear hBl
  go_loopg [7] L0.length (fun k v wr => ∃ (L out : List Nat), Hid (L.length = k ∧ out ++ drainL T L.length L = rk ∧ L.length + out.length ≤ 16 ∧ (∀ y ∈ L, y < T.length) ∧ RHeap w1 h B T L wr ∧ Kd.R (Kd.int .i64) 3 wr W.heap.size (fun _ => True) v (ints out) ∧ wr.heap[D]? = some (.deferred (some [])) ∧ W.heap.size ≤ wr.heap.size))
  case atStart => exact ⟨L0, [], Lib.hid ⟨rfl, HRK.out.symm, by simpa using hL16, HLT.out, hRH0, hO0, hKD0, by simp⟩⟩
  case round =>
   clear hRH0 hO0 hKD0 hBW0
   obtain ⟨L, out, HR⟩ := hrel
   obtain ⟨rfl, hdr, hLo, hLT2, hRH2, hO2, hKD2, hWw⟩ := HR.out
   have HR2 := Lib.hid (And.intro hdr (And.intro hLT2 (And.intro hKD2 hRH2)))
   have cX := hRH2.hX.cell
   have HO2 := Lib.hid hO2
   clear HR hdr hLT2 hRH2 hO2 hKD2
   cases L with
   | nil =>
    have HLN : Hid (Calls Tryz.prog 115 #[.pointer (some ⟨h, 0, none⟩)] wr fun e w' => e = .returned (.int .i64 0) ∧ w' = wr) := Lib.hid (Len_calls h B T [] wr HR2.out.2.2.2.hR)
    go_wp2_with (go_at_call 115; refine HLN.out.mono ?_; rintro e w' ⟨rfl, rfl⟩)
    have hDB : D ≠ h ∧ some D ≠ B := ⟨by omega, fun e => by
     obtain ⟨o, ho, hoc⟩ := HR2.out.2.2.2.hR.cellsB D e.symm
     rw [HR2.out.2.2.1] at ho
     cases ho
     cases hoc⟩
    refine leave_one HR2.out.2.2.1 (results_tmp rfl _ _ _) ⟨_, rfl, ?_, ?_⟩
    ·
     have e : out = rk := by have := HR2.out.1; simpa [drainL] using this
     rw [← HRKQ.out, ← e]
     refine R_grownNC (Kd.R_mono (Kd.R_lower HO2.out (show w.heap.size ≤ W.heap.size by have := HH.out; omega)) (fun _ _ => trivial)) (grownBy_putObj' _ _ _) (fun r e => ?_)
     cases e
     exact ⟨_, HR2.out.2.2.1, rfl⟩
    ·
     refine (HB1.out.trans ((HR2.out.2.2.2.hB.mono (by have := HH.out; omega)).mono hws)).trans ?_
     exact belowK_b (w := w) (Nat.le_refl _) _ D _ _ (by have := HH.out; omega) HR2.out.2.2.1 rfl rfl
   | cons y L =>
    have HPO := Lib.hid (heapPop_calls h B T (y :: L) (by simp) HR2.out.2.1 (by omega) wr HR2.out.2.2.2.hR)
    have HLN : Hid (Calls Tryz.prog 115 #[.pointer (some ⟨h, 0, none⟩)] wr fun e w' => e = .returned (.int .i64 ((L.length + 1 : Nat) : Int)) ∧ w' = wr) := Lib.hid (Len_calls h B T (y :: L) wr HR2.out.2.2.2.hR)
    have hlen : (y :: L).length - 1 = L.length := by simp
    rw [hlen] at HPO
    have HDR : Hid (drainL T (y :: L).length (y :: L) = (popL T (y :: L)).getD L.length 0 :: drainL T L.length ((popL T (y :: L)).take L.length)) := Lib.hid (by rw [List.length_cons, drainL, if_neg (by simp)]; simp)
    have hp := (popL_perm T (y :: L) (by simp)).length_eq
    have hpl : ((popL T (y :: L)).take L.length).length = L.length := by rw [List.length_take, hp]; simp
    have HPL := Lib.hid hpl
    have HTK : Hid (∀ z ∈ (popL T (y :: L)).take L.length, z < T.length) := Lib.hid fun z hz => HR2.out.2.1 z ((popL_perm T (y :: L) (by simp)).mem_iff.1 (List.mem_of_mem_take hz))
    clear hlen hp hpl
    generalize hq1 : (popL T (y :: L)).getD L.length 0 = q at HPO HDR
    generalize hq2 : (popL T (y :: L)).take L.length = L2 at HPO HDR HPL HTK
    clear hq1 hq2
    have hta := ta q
    go_wp2_with (first | (go_at_call 115; refine HLN.out.mono ?_; rintro e wr ⟨rfl, rfl⟩) | (go_at_call 116; refine HPO.out.mono ?_; rintro e w3 ⟨rfl, hR3, hk3, hb3⟩; have HK3 := Lib.hid (And.intro hR3 (And.intro hk3 hb3)); have HO3 := Lib.hid (R_pop HO2.out hk3 (by omega) HBL.out); clear hR3 hk3 hb3) | (at_builtin; refine ap_int (w0 := w3) W.heap.size rfl _ _ rfl u7 (ints out) (q : Int) rfl rfl rfl HO3.out (Below.refl _ _) (Nat.le_trans hWw HK3.out.2.1.1) (by rw [ints_length]; omega) ?_; intro v1 w4 hO4 hB4 hg4 hat4; have HO4 := Lib.hid (And.intro hO4 (And.intro hB4 hg4)); clear hO4 hB4 hg4 hat4))
    have hDB : D ≠ h ∧ some D ≠ B := ⟨by omega, fun e => by
     obtain ⟨o, ho, hoc⟩ := HR2.out.2.2.2.hR.cellsB D e.symm
     rw [HR2.out.2.2.1] at ho
     cases ho
     cases hoc⟩
    go_roundg L.length
    case measure => simp
    case rel =>
     have hRH3 := HR2.out.2.2.2.keep HK3.out.1 HK3.out.2.1 HK3.out.2.2 (.inl rfl)
     have hr4 : ∀ r, u7.ownBlock = some r → W.heap.size ≤ r := fun r e => Kd.R_base HO2.out r e
     have hDw : D < wr.heap.size := by omega
     refine ⟨L2, out ++ [q], Lib.hid ⟨HPL.out, ?_, by have := HPL.out; simp at hLo ⊢; omega, HTK.out, hRH3.grown HO4.out.2.2 hr4 hSn HBL.out, ?_, ?_, ?_⟩⟩
     ·
      rw [← HR2.out.1, HDR.out, HPL.out]
      simp
     ·
      have := HO4.out.1
      rw [show ints (out ++ [q]) = ints out ++ [(q : Int)] by simp [ints]]
      exact this
     ·
      have h3 := HK3.out.2.1.2 D hDw hDB.1 hDB.2
      have h4 := HO4.out.2.2.block D (Nat.lt_of_lt_of_le hDw HK3.out.2.1.1) (fun e => by have := hr4 D e.symm; omega)
      exact h4.trans (h3.trans HR2.out.2.2.1)
     ·
      exact Nat.le_trans hWw (Nat.le_trans HK3.out.2.1.1 HO4.out.2.2.size)
end Go.Proofs.YtlapphhcficbjaaGreatDoor

namespace Go.Proofs.YtlapphhcficbjaaGreatDoor
set_option linter.unusedVariables false
set_option linter.unusedSimpArgs false
open Go.RowKit Go.Shelf Bits
open Go.Proofs.YtlapphhcficbjaaGreatDoorW.PrintWords Go.Proofs.YtlapphhcficbjaaGreatDoorW.PrintLast Go.Proofs.YtlapphhcficbjaaGreatDoorW.PrintMore
def readyU (ns : List Nat) (d : Nat) : Nat → Nat
 | 0 => 0
 | k + 1 => if isReady ns d k then readyU ns d k ||| 2 ^ k else readyU ns d k
def readyN (ns : List Nat) (d : Nat) : Nat := readyU ns d ns.length
theorem readyU_lt (ns : List Nat) (d : Nat) : ∀ k, readyU ns d k < 2 ^ k
 | 0 => by simp [readyU]
 | k + 1 => by
  have ih := readyU_lt ns d k
  unfold readyU
  have h2 : (2 : Nat) ^ k < 2 ^ (k + 1) := Nat.pow_lt_pow_right (by omega) (by omega)
  split
  ·
   exact Nat.or_lt_two_pow (by omega) h2
  ·
   omega
theorem readyU_bit (ns : List Nat) (d j : Nat) : ∀ k, (readyU ns d k).testBit j = (decide (j < k) && isReady ns d j)
 | 0 => by simp [readyU]
 | k + 1 => by
  have ih := readyU_bit ns d j k
  unfold readyU
  by_cases hj : j = k
  ·
   subst hj
   split
   ·
    rename_i h
    rw [or_bit, ih, h]
    simp
   ·
    rename_i h
    rw [ih]
    simp [h]
  ·
   have e : decide (j < k + 1) = decide (j < k) := by rw [decide_eq_decide]; omega
   split
   ·
    rw [or_bit, ih, e]
    have : ¬ k = j := fun e => hj e.symm
    simp [this]
   ·
    rw [ih, e]
theorem readyN_bit (ns : List Nat) (d j : Nat) : (readyN ns d).testBit j = (decide (j < ns.length) && isReady ns d j) := readyU_bit ns d j _
set_option maxRecDepth 100000 in
set_option maxHeartbeats 2000000 in
theorem ready_calls (C : Nat) (g : List Tk) (ns : List Nat) (d : Nat) (hlen : ns.length ≤ 15) (hns : ∀ i, ns.getD i 0 < 65536) (hd : d < 65536) (w : World) (hG : IsGraph w C g ns) :
  Calls Tryz.prog 81 #[.pointer (some ⟨C, 0, none⟩), .int .u16 d] w fun e w' => e = .returned (.int .u16 (readyN ns d : Nat)) ∧ w' = w := by
 obtain ⟨Ag, cg, An, cn, Ao, co, vb, va, h1, h2, h3, h4⟩ := hG
 have cC := blk_cell h1 1
 simp at cC
 have HR := Lib.hid h3
 have HNS := Lib.hid hns
 have hL := (C_len h3).2
 have HU := Lib.hid (readyU_lt ns d)
 clear h1 h2 h3 h4 hns
 go_enter Tryz.func81, Tryz.ntmps81
 go_wp2
 go_loop [5, 13] (fun out i => ∃ (k : Nat), k ≤ ns.length ∧ i = .int .i64 k ∧ out = .int .u16 (readyU ns d k : Nat)) (fun _ i => ns.length - (intOf i).toNat)
 case atStart => exact ⟨0, Nat.zero_le _, rfl, rfl⟩
 case round =>
  obtain ⟨k, hk, rfl, rfl⟩ := hrel
  by_cases hlt : k < ns.length
  ·
   obtain ⟨ad, rfl, hc⟩ := at_set HR.out k hlt
   have hx := HNS.out k
   have hk16 : k < 16 := by omega
   have hu : readyU ns d k < 65536 := Nat.lt_of_lt_of_le (HU.out k) (pow_le_u16 (by omega))
   have HE : Hid (readyU ns d (k + 1) = if isReady ns d k then readyU ns d k ||| 2 ^ k else readyU ns d k) := Lib.hid rfl
   have HRD : Hid (isReady ns d k = (!d.testBit k && decide (diff (ns.getD k 0) d = 0))) := Lib.hid rfl
   generalize ns.getD k 0 = z at hc hx HRD
   generalize readyU ns d k = u at hu HE
   cases ht : d.testBit k
   ·
    have HT := Lib.hid ht
    clear ht
    by_cases hz : diff z d = 0
    ·
     have hb : (bits BinOp.andNot IntKind.u16 (z : Int) (d : Int) == 0) = true := by rw [bits_andNot_u16 _ d hx, hz]; rfl
     have HZ := Lib.hid hz
     clear hz
     go_wp2_with (first | (go_at_call 117; refine (has_is _ _ _ HT hd hk16 _).mono ?_; rintro e w' ⟨rfl, rfl⟩) | (go_at_call 28; refine (with_calls u k hu hk16 _).mono ?_; rintro e w' ⟨rfl, rfl⟩))
     go_round
     case rel => exact ⟨k + 1, by omega, by go_num, by rw [HE.out, HRD.out, HT.out, HZ.out]; rfl⟩
     case measure => simp [intOf]; omega
    ·
     have hb : (bits BinOp.andNot IntKind.u16 (z : Int) (d : Int) == 0) = false := by rw [bits_andNot_u16 _ d hx, beq_eq_false_iff_ne]; omega
     have HZ := Lib.hid hz
     clear hz
     go_wp2_with (first | (go_at_call 117; refine (has_is _ _ _ HT hd hk16 _).mono ?_; rintro e w' ⟨rfl, rfl⟩))
     go_round
     case rel => exact ⟨k + 1, by omega, by go_num, by rw [HE.out, HRD.out, HT.out, decide_eq_false HZ.out]; rfl⟩
     case measure => simp [intOf]; omega
   ·
    have HT := Lib.hid ht
    clear ht
    go_wp2_with (first | (go_at_call 117; refine (has_is _ _ _ HT hd hk16 _).mono ?_; rintro e w' ⟨rfl, rfl⟩))
    go_round
    case rel => exact ⟨k + 1, by omega, by go_num, by rw [HE.out, HRD.out, HT.out]; rfl⟩
    case measure => simp [intOf]; omega
  ·
   obtain rfl : k = ns.length := by omega
   go_wp2
   go_ret
   exact ⟨rfl, rfl⟩
end Go.Proofs.YtlapphhcficbjaaGreatDoor

namespace Go.Proofs.YtlapphhcficbjaaGreatDoor
set_option linter.unusedVariables false
set_option linter.unusedSimpArgs false
open Go.RowKit Go.Shelf Bits
structure PS where
 st : List Int
 b : Nat
 o : Nat
def ovF (g : List Tk) (st : List Int) (now : Int) (o i : Nat) : Nat := if st.getD i 0 + (rdTk g i).f0 ≤ now then o ||| 2 ^ i else o
def ovN (g : List Tk) (st : List Int) (now : Int) (o : Nat) (l : List Nat) : Nat := l.foldl (ovF g st now) o
theorem ovN_snoc (g : List Tk) (st : List Int) (now : Int) (o : Nat) (l : List Nat) (i : Nat) : ovN g st now o (l ++ [i]) = ovF g st now (ovN g st now o l) i := by
 unfold ovN
 rw [List.foldl_append]
 rfl
theorem ovN_lt {g : List Tk} {st : List Int} {now : Int} {n : Nat} : ∀ (l : List Nat) {o : Nat}, o < 2 ^ n → (∀ i ∈ l, i < n) → ovN g st now o l < 2 ^ n
 | [], o, ho, _ => ho
 | i :: l, o, ho, hl => by
  refine ovN_lt l (o := ovF g st now o i) ?_ (fun j hj => hl j (List.mem_cons_of_mem _ hj))
  unfold ovF
  split
  ·
   exact Nat.or_lt_two_pow ho (Nat.pow_lt_pow_right (by decide) (hl i List.mem_cons_self))
  ·
   exact ho
def nextN (g : List Tk) (ns : List Nat) (rm : List Int) (wk : Int) (b o : Nat) : List Nat :=
 (admN g rm wk (cnt g (elems (diff b o))) (rankL (tailN g ns) (elems (diff (readyN ns o) b)))).2
def putB (b : Nat) (l : List Nat) : Nat := l.foldl (fun b i => b ||| 2 ^ i) b
theorem putB_snoc (b : Nat) (l : List Nat) (i : Nat) : putB b (l ++ [i]) = putB b l ||| 2 ^ i := by
 unfold putB
 rw [List.foldl_append]
 rfl
theorem putB_lt {n : Nat} : ∀ (l : List Nat) {b : Nat}, b < 2 ^ n → (∀ i ∈ l, i < n) → putB b l < 2 ^ n
 | [], b, hb, _ => hb
 | i :: l, b, hb, hl => putB_lt l (b := b ||| 2 ^ i) (Nat.or_lt_two_pow hb (Nat.pow_lt_pow_right (by decide) (hl i List.mem_cons_self))) (fun j hj => hl j (List.mem_cons_of_mem _ hj))
def stepN (g : List Tk) (ns : List Nat) (rm : List Int) (wk : Int) (now : Nat) (p : PS) : PS :=
 ⟨putS now p.st (nextN g ns rm wk p.b (ovN g p.st now p.o (elems p.b))), putB p.b (nextN g ns rm wk p.b (ovN g p.st now p.o (elems p.b))), ovN g p.st now p.o (elems p.b)⟩
def planN (g : List Tk) (ns : List Nat) (rm : List Int) (wk : Int) : Nat → PS
 | 0 => ⟨List.replicate g.length 0, 0, 0⟩
 | k + 1 => stepN g ns rm wk k (planN g ns rm wk k)
theorem nextN_lt {g : List Tk} {ns : List Nat} (rm : List Int) (wk : Int) {b o : Nat} (hn : ns.length = g.length) : ∀ x ∈ nextN g ns rm wk b o, x < g.length := by
 intro x hx
 have h1 := admN_sub g rm wk (cnt g (elems (diff b o))) (rankL (tailN g ns) (elems (diff (readyN ns o) b))) _ (Nat.le_refl _) x (by rw [List.take_length]; exact hx)
 have h2 := (rank_sorted (tailN g ns) (elems (diff (readyN ns o) b))).2.mem_iff.1 h1
 refine elems_below (diff_lt (n := g.length) (hn ▸ readyU_lt ns o _)) h2
def PS.ok (n : Nat) (p : PS) : Prop := StOk n p.st ∧ p.b < 2 ^ n ∧ p.o < 2 ^ n
theorem planN_ok {g : List Tk} {ns : List Nat} (rm : List Int) (wk : Int) (hn : ns.length = g.length) : ∀ k, k ≤ 200 → (planN g ns rm wk k).ok g.length
 | 0, _ => by
  refine ⟨⟨by unfold planN; simp, fun i => ?_⟩, Nat.two_pow_pos _, Nat.two_pow_pos _⟩
  unfold planN
  rw [List.getD_eq_getElem?_getD, List.getElem?_replicate]
  split <;> simp
 | k + 1, hk => by
  obtain ⟨h1, h2, h3⟩ := planN_ok rm wk hn k (by omega)
  exact ⟨putS_ok (by omega) _ h1, putB_lt _ h2 (nextN_lt rm wk hn), ovN_lt _ h3 (fun i hi => elems_below h2 hi)⟩
end Go.Proofs.YtlapphhcficbjaaGreatDoor

namespace Go.Proofs.YtlapphhcficbjaaGreatDoor
set_option linter.unusedVariables false
set_option linter.unusedSimpArgs false
open Go.RowKit Go.Shelf Bits
open Go.Proofs.YtlapphhcficbjaaGreatDoorW.PrintWords Go.Proofs.YtlapphhcficbjaaGreatDoorW.PrintLast Go.Proofs.YtlapphhcficbjaaGreatDoorW.PrintMore
attribute [local go_sem] Oper.semAt_some
structure PH (w : World) (C h n : Nat) (st : List Int) (o N : Nat) (now : Int) (W : World) : Prop where
 g : Boxed W h 44 (.pointer (some ⟨C, 0, none⟩))
 r : IRow W (h + 1) st
 s : Boxed W (h + 2) 24 (.slice (some ⟨h + 1, 0, none⟩) n n)
 o : Boxed W (h + 3) 56 (.int .u16 o)
 t : Boxed W N 3 (.int .i64 now)
 hN : h + 3 < N
 hB : Below h w W
theorem boxed_below {W W' : World} {B : Nat} {t : TypeId} {v : Value} (h : Boxed W B t v) (hb : Below W.heap.size W W') : Boxed W' B t v := (hb.block B h.lt).trans h
theorem PH.below {w W W' : World} {C h n o N : Nat} {st : List Int} {now : Int} (q : PH w C h n st o N now W) (hb : Below W.heap.size W W') : PH w C h n st o N now W' :=
 ⟨boxed_below q.g hb, q.r.below hb, boxed_below q.s hb, boxed_below q.o hb, boxed_below q.t hb, q.hN, q.hB.trans (hb.mono (by have := q.t.lt; have := q.hN; omega))⟩
theorem PH.setO {w W : World} {C h n o N : Nat} {st : List Int} {now : Int} (q : PH w C h n st o N now W) (x : Nat) : PH w C h n st x N now (W.setCell ⟨h + 3, 0, none⟩ (.int .u16 x)) :=
 ⟨blk_far q.g (by show h ≠ h + 3; omega) _, q.r.far (by show h + 1 ≠ h + 3; omega) _, blk_far q.s (by show h + 2 ≠ h + 3; omega) _, q.o.set _, blk_far q.t (by have := q.hN; show N ≠ h + 3; omega) _, q.hN, q.hB.setCell (p := ⟨h + 3, 0, none⟩) (by show h ≤ h + 3; omega) _⟩
theorem PH.setR {w W : World} {C h n o N : Nat} {st : List Int} {now : Int} (q : PH w C h n st o N now W) (i : Nat) (x : Int) : PH w C h n (st.set i x) o N now (W.setCell ⟨h + 1, i, none⟩ (.int .i64 x)) :=
 ⟨blk_far q.g (by show h ≠ h + 1; omega) _, q.r.set i x, blk_far q.s (by show h + 2 ≠ h + 1; omega) _, blk_far q.o (by show h + 3 ≠ h + 1; omega) _, blk_far q.t (by have := q.hN; show N ≠ h + 1; omega) _, q.hN, q.hB.setCell (p := ⟨h + 1, i, none⟩) (by show h ≤ h + 1; omega) _⟩
theorem PH.setT {w W : World} {C h n o N : Nat} {st : List Int} {now : Int} (q : PH w C h n st o N now W) (x : Int) : PH w C h n st o N x (W.setCell ⟨N, 0, none⟩ (.int .i64 x)) :=
 ⟨blk_far q.g (by have := q.hN; show h ≠ N; omega) _, q.r.far (by have := q.hN; show h + 1 ≠ N; omega) _, blk_far q.s (by have := q.hN; show h + 2 ≠ N; omega) _, blk_far q.o (by have := q.hN; show h + 3 ≠ N; omega) _, q.t.set _, q.hN, q.hB.setCell (p := ⟨N, 0, none⟩) (by have := q.hN; show h ≤ N; omega) _⟩
theorem PH.newT {w W : World} {C h n o N : Nat} {st : List Int} {now : Int} (q : PH w C h n st o N now W) (x : Int) : PH w C h n st o W.heap.size x (W.alloc (.cells #[.int .i64 x] 3)) :=
 have q2 := q.below ((Below.refl W.heap.size W).alloc (Nat.le_refl _) (.cells #[.int .i64 x] 3))
 ⟨q2.g, q2.r, q2.s, q2.o, Boxed.new W 3 (.int .i64 x), by have := q.hN; have := q.t.lt; omega, q2.hB⟩
def nowAt (v : Value) (W : World) : Nat := match v with
 | .pointer (some p) => (match W.cell? p with | some v => (intOf v).toNat | none => 0)
 | _ => 0
theorem nowAt_box {W : World} {N k : Nat} (h : Boxed W N 3 (.int .i64 (k : Int))) : nowAt (.pointer (some ⟨N, 0, none⟩)) W = k := by
 unfold nowAt
 simp only [h.cell]
 simp [intOf]
theorem PH.own {β : Type} {B0 C h n N : Nat} {w : World} {st : List Int} (o : β → Nat) {now : Int} (hN : N < B0) (hh : h + 3 < B0) (hw : h ≤ w.heap.size) : OwnFrom B0 (fun s W => PH w C h n st (o s) N now W) := by
 intro s W W' row q hg hr
 have key : ∀ k, k < B0 → k < W.heap.size → W'.heap[k]? = W.heap[k]? := fun k hk hl => hg.block k hl (fun e => by have := (hr k e.symm).1; omega)
 exact ⟨(key h (by omega) q.g.lt).trans q.g, (key (h + 1) (by omega) (blk_lt q.r)).trans q.r, (key (h + 2) (by omega) q.s.lt).trans q.s, (key (h + 3) (by omega) q.o.lt).trans q.o, (key N hN q.t.lt).trans q.t, q.hN,
  q.hB.trans ⟨hg.os, hg.tape, hg.output, hg.size, fun k hk => key k (by omega) (by have := q.g.lt; omega)⟩⟩
section
variable (w : World) (C h : Nat) (g : List Tk) (ns : List Nat) (A1 : Option Addr) (c1 : Nat) (rm : List Int) (wk : Int) (K : Nat)
def PLoop (a : Act) (W : World) : Prop := ∃ (t : Array Value) (Ds : List Nat) (k N : Nat), a = { tmps := t, defers := mk Ds } ∧ t.size = 78 ∧ t.getD 1 undef = .slice A1 rm.length c1 ∧ t.getD 2 undef = .int .i64 wk ∧
 t.getD 3 undef = .pointer (some ⟨h, 0, none⟩) ∧ t.getD 7 undef = .pointer (some ⟨h + 2, 0, none⟩) ∧ t.getD 8 undef = .int .u16 ((planN g ns rm wk k).b : Nat) ∧ t.getD 9 undef = .pointer (some ⟨h + 3, 0, none⟩) ∧ t.getD 10 undef = .pointer (some ⟨N, 0, none⟩) ∧
 k ≤ K ∧ Marks Ds W ∧ (∀ D ∈ Ds, h ≤ D) ∧ PH w C h g.length (planN g ns rm wk k).st (planN g ns rm wk k).o N k W
end
theorem ph_init (w : World) (C n : Nat) : PH w C w.heap.size n (List.replicate n 0) 0 (w.heap.size + 1 + 1 + 1 + 1) 0 (((((w.alloc (.cells #[.pointer (some ⟨C, 0, none⟩)] 44)).alloc (.cells (zeroI n) 3)).alloc (.cells #[.slice (some ⟨w.heap.size + 1, 0, none⟩) n n] 24)).alloc (.cells #[.int .u16 0] 56)).alloc (.cells #[.int .i64 0] 3)) := by
 have z : ∀ (W : World) (o : Obj), (W.alloc o).heap.size = W.heap.size + 1 := fun W o => World.size_alloc W o
 refine ⟨?_, ?_, ?_, ?_, ?_, by omega, ?_⟩
 ·
  refine ((((Boxed.new w 44 _).alloc _).alloc _).alloc _).alloc _
 ·
  have h1 : IRow ((w.alloc (.cells #[.pointer (some ⟨C, 0, none⟩)] 44)).alloc (.cells (zeroI n) 3)) (w.heap.size + 1) (List.replicate n 0) := by
   have := World.alloc_heap_new (w.alloc (.cells #[.pointer (some ⟨C, 0, none⟩)] 44)) (.cells (zeroI n) 3)
   rw [z] at this
   exact this
  exact ((h1.below ((Below.refl _ _).alloc (Nat.le_refl _) _)).below ((Below.refl _ _).alloc (Nat.le_refl _) _)).below ((Below.refl _ _).alloc (Nat.le_refl _) _)
 ·
  have h1 := Boxed.new ((w.alloc (.cells #[.pointer (some ⟨C, 0, none⟩)] 44)).alloc (.cells (zeroI n) 3)) 24 (.slice (some ⟨w.heap.size + 1, 0, none⟩) n n)
  rw [z, z] at h1
  exact (h1.alloc _).alloc _
 ·
  have h1 := Boxed.new (((w.alloc (.cells #[.pointer (some ⟨C, 0, none⟩)] 44)).alloc (.cells (zeroI n) 3)).alloc (.cells #[.slice (some ⟨w.heap.size + 1, 0, none⟩) n n] 24)) 56 (.int .u16 0)
  rw [z, z, z] at h1
  exact h1.alloc _
 ·
  have h1 := Boxed.new ((((w.alloc (.cells #[.pointer (some ⟨C, 0, none⟩)] 44)).alloc (.cells (zeroI n) 3)).alloc (.cells #[.slice (some ⟨w.heap.size + 1, 0, none⟩) n n] 24)).alloc (.cells #[.int .u16 0] 56)) 3 (.int .i64 0)
  rw [z, z, z, z] at h1
  exact h1
 ·
  exact (((((Below.refl _ w).alloc (Nat.le_refl _) _).alloc (by simp) _).alloc (by simp; omega) _).alloc (by simp; omega) _).alloc (by simp; omega) _
set_option maxRecDepth 1000000 in
set_option maxHeartbeats 8000000 in
theorem iplan_calls (C : Nat) (g : List Tk) (ns : List Nat) (A1 : Option Addr) (c1 : Nat) (rm : List Int) (wk : Int) (K : Nat) (hgr : graphN g = some ns) (hok : TOk g) (hrm : rm.length = 3) (hK : K ≤ 200) (hall : (planN g ns rm wk K).o = 2 ^ g.length - 1) (hnot : ∀ k, k < K → (planN g ns rm wk k).o ≠ 2 ^ g.length - 1) (w : World) (hG : IsGraph w C g ns) (hT : Tab w) (hr1 : (Kd.int .i64).C w A1 rm.length rm) :
  Calls Tryz.prog 37 #[.pointer (some ⟨C, 0, none⟩), .slice A1 rm.length c1, .int .i64 wk] w fun e w' => ∃ v, e = .returned v ∧ Kd.R (Kd.int .i64) 3 w' w.heap.size (fun _ => True) v (planN g ns rm wk K).st ∧ Below w.heap.size w w' := by
 have h8 := hok.1
 have hnl := (graphN_some hgr).2.2.2
 have HG := Lib.hid hG
 have HOK := Lib.hid hok
 have HGR := Lib.hid hgr
 have HRM := Lib.hid hrm
 have HR1 := Lib.hid hr1
 have HALL := Lib.hid hall
 have HNOT := Lib.hid hnot
 have HNL := Lib.hid hnl
 have hmk := run_makeI g.length (by omega)
 clear hG hok hgr hrm hr1 hall hnot hnl
 refine calls_of_wp_marks Tryz.func37 rfl ?_
 simp only [Tryz.ntmps37, List.size_toArray, List.length_cons, List.length_nil, Nat.reduceAdd, Nat.reduceSub, Array.replicate_succ, Array.replicate_zero, List.push_toArray, List.append_toArray, List.nil_append, List.cons_append]
 go_wp2_with (go_at_call 43; refine (size_calls _ C g ns (HG.out.below ((Below.refl _ _).alloc (Nat.le_refl _) _))).mono ?_; rintro e w' ⟨rfl, rfl⟩)
 have hP0 := ph_init w C g.length
 have htl := hT.lt
 refine wp_loop (PLoop w C w.heap.size g ns A1 c1 rm wk K) (fun a W => K - nowAt (a.tmps.getD 10 undef) W) ⟨_, [], 0, _, rfl, rfl, rfl, rfl, rfl, rfl, rfl, rfl, rfl, Nat.zero_le _, Marks.nil _, fun D h => (by cases h), hP0⟩ ?_
 clear hP0 hmk
 rintro a W ⟨t, Ds, k, N, rfl, ht, t1, t2, t3, t7, t8, t9, t10, hk, hM, hDs, hP⟩
 obtain ⟨u, rfl⟩ : ∃ u : Nat → Value, t = #[u 0, u 1, u 2, u 3, u 4, u 5, u 6, u 7, u 8, u 9, u 10, u 11, u 12, u 13, u 14, u 15, u 16, u 17, u 18, u 19, u 20, u 21, u 22, u 23, u 24, u 25, u 26, u 27, u 28, u 29, u 30, u 31, u 32, u 33, u 34, u 35, u 36, u 37, u 38, u 39, u 40, u 41, u 42, u 43, u 44, u 45, u 46, u 47, u 48, u 49, u 50, u 51, u 52, u 53, u 54, u 55, u 56, u 57, u 58, u 59, u 60, u 61, u 62, u 63, u 64, u 65, u 66, u 67, u 68, u 69, u 70, u 71, u 72, u 73, u 74, u 75, u 76, u 77] := ⟨fun i => t.getD i undef, arr_of_size t 78 ht⟩
 replace t1 : u 1 = _ := t1
 replace t2 : u 2 = _ := t2
 replace t3 : u 3 = _ := t3
 replace t7 : u 7 = _ := t7
 replace t8 : u 8 = _ := t8
 replace t9 : u 9 = _ := t9
 replace t10 : u 10 = _ := t10
 clear ht
 have hok := planN_ok rm wk HNL.out k (by omega)
 have HNE := HNOT.out k
 have hAL := HALL.out
 by_cases hkK : k < K
 ·
  replace HNE := HNE hkK
  generalize hp : planN g ns rm wk k = p at t8 hP hok HNE
  have HPK := Lib.hid hp
  obtain ⟨st, b, o⟩ := p
  obtain ⟨hst, hb, ho⟩ := hok
  replace hst : StOk g.length st := hst
  replace hb : b < 2 ^ g.length := hb
  replace ho : o < 2 ^ g.length := ho
  replace hP : PH w C w.heap.size g.length st o N k W := hP
  replace t8 : u 8 = .int .u16 (b : Nat) := t8
  have dne : (((o : Nat) : Int) != ((2 ^ g.length - 1 : Nat) : Int)) = true := by
   rw [bne_iff_ne]
   intro e
   exact HNE (Int.ofNat.inj e)
  have cg := hP.g.cell
  have co := hP.o.cell
  have HPH := Lib.hid hP
  have hsz := hP.hB.size
  have HM := Lib.hid hM
  clear hp HNE hAL hP hM
  go_wp2
  go_quiet (first
   | (go_at_call 43; exact Calls.quiet_of_same (size_calls _ C g ns (HG.out.below (pw_below_drewN HPH.out.hB _))))
   | (go_at_call 42; exact Calls.quiet_of_same (everything_calls g.length (by omega) _)))
  have hB1 : Below W.heap.size W (W.drewN nq) := pw_below_drewN (Below.refl _ _) nq
  obtain ⟨W1, hW1⟩ : ∃ W1, W1 = W.drewN nq := ⟨_, rfl⟩
  rw [← hW1] at hB1 ⊢
  clear hW1 cg co
  have HP1 := Lib.hid (HPH.out.below hB1)
  have HM1 := Lib.hid (HM.out.below hB1)
  go_wp2_with (go_at_call 69; refine (all_calls b _).mono ?_; rintro e w' ⟨rfl, rfl⟩)
  have hbox := Boxed.new W1 56 (.int .u16 b)
  have hBs : Below W1.heap.size W1 (W1.alloc (.cells #[.int .u16 b] 56)) := (Below.refl _ _).alloc (Nat.le_refl _) _
  have hws1 := HP1.out.hB.size
  have hb16 : b < 65536 := Nat.lt_of_lt_of_le hb (Nat.le_trans (Nat.pow_le_pow_right (by omega) h8) (by decide))
  have hN1 := HP1.out.t.lt
  have hh3 := HP1.out.o.lt
  refine wp_rangeSet1 b W1.heap.size w.heap.size hb16 rfl (by simp) hbox.cell (hT.keep htl (HP1.out.hB.trans (hBs.mono hws1))) (by simp; omega) htl
   (fun pre W' => PH w C w.heap.size g.length st (ovN g st k o (pre.map (·.1))) N k W' ∧ Marks Ds W') (fun _ _ _ => False)
   ((PH.own (fun pre : List (El b) => ovN g st k o (pre.map (·.1))) (by simp; omega) (by simp; omega) (Nat.le_refl _)).and (ownFrom_marks _ Ds (fun D hD => by have := HM1.out.lt D hD; simp; omega)))
   (fun _ _ _ _ _ h _ _ => h)
   ⟨HP1.out.below hBs, HM1.out.below hBs⟩
   (fun x => { tmps := #[u 0, .slice A1 rm.length c1, .int .i64 wk, .pointer (some ⟨w.heap.size, 0, none⟩), u 4, u 5, u 6, .pointer (some ⟨w.heap.size + 2, 0, none⟩), .int .u16 (b : Nat), .pointer (some ⟨w.heap.size + 3, 0, none⟩), .pointer (some ⟨N, 0, none⟩), .int .i64 (x.1 : Nat), u 12, u 13, u 14, u 15, u 16, u 17, .int .u16 (o : Nat), .pointer (some ⟨C, 0, none⟩), .int .i64 (g.length : Nat), .int .u16 ((2 ^ g.length - 1 : Nat) : Int), .bool true, u 23, u 24, .int .u16 (b : Nat), .func (.func 108) #[] #[.pointer (some ⟨W1.heap.size, 0, none⟩)], .int .i64 (x.1 : Nat), u 28, u 29, u 30, u 31, u 32, u 33, u 34, u 35, u 36, u 37, u 38, u 39, u 40, u 41, u 42, u 43, u 44, u 45, u 46, u 47, u 48, u 49, u 50, u 51, u 52, u 53, u 54, u 55, u 56, u 57, u 58, u 59, u 60, u 61, u 62, u 63, u 64, u 65, u 66, u 67, u 68, u 69, u 70, u 71, u 72, u 73, u 74, u 75, u 76, u 77], defers := [] }) ?assign ?body ?done ?stop
  case stop => exact fun _ _ _ _ _ _ h _ => h.elim
  case assign =>
   intro l x W' Kq hK
   gi_wp2
   exact hK
  case body =>
   rintro l pre x W' ⟨hP, hM⟩ hlt
   have hel := elems_length b
   have hxn : x.1 < g.length := elems_below hb x.2
   have hx16 : x.1 < 16 := by omega
   have HSN : Hid (ovN g st k o ((pre ++ [x]).map (·.1)) = ovF g st k (ovN g st k o (pre.map (·.1))) x.1) := Lib.hid (by rw [List.map_append, List.map_cons, List.map_nil, ovN_snoc])
   have hov : ovN g st k o (pre.map (·.1)) < 2 ^ g.length := ovN_lt _ ho (fun i hi => by
    obtain ⟨z, _, rfl⟩ := List.mem_map.1 hi
    exact elems_below hb z.2)
   generalize ovN g st k o (pre.map (·.1)) = ov at hP HSN hov
   have hov16 : ov < 65536 := Nat.lt_of_lt_of_le hov (Nat.le_trans (Nat.pow_le_pow_right (by omega) h8) (by decide))
   obtain ⟨Ag, cg, An, cn, Ao, co, vb, va, h1, h2, _, _⟩ := HG.out.below hP.hB
   have cC := blk_cell h1 0
   simp at cC
   obtain ⟨ad, A4, c4, rfl, hx0, _⟩ := at_Tk h2 x.1 hxn
   have cg := hP.g.cell
   have cs := hP.s.cell
   have co := hP.o.cell
   have fo := hP.o.frozen
   have ct := hP.t.cell
   have cr := hP.r.cell x.1 (by rw [hst.1]; exact hxn)
   have hsx := hst.2 x.1
   have htx := HOK.out.2.1 x.1
   have HOF : Hid (ovF g st k ov x.1 = if st.getD x.1 0 + (rdTk g x.1).f0 ≤ (k : Int) then ov ||| 2 ^ x.1 else ov) := Lib.hid rfl
   generalize st.getD x.1 0 = s at cr hsx HOF
   generalize (rdTk g x.1).f0 = tm at hx0 htx HOF
   have hwr : IntKind.i64.wrap (s + tm) = s + tm := IntWalk.i64_in _ (by omega)
   have hxi : ((x.1 : Nat) : Int) < (g.length : Int) := by clear hwr; omega
   have HPP := Lib.hid (And.intro hP hM)
   clear h1 h2 hP hM
   by_cases hfin : s + tm ≤ (k : Int)
   ·
    have dfin : decide (s + tm ≤ (k : Int)) = true := decide_eq_true hfin
    rw [if_pos hfin] at HOF
    clear hfin
    gi_wp2
    refine wpIn_region_still_tail 14 mixed (by kernel_rfl) (by kernel_rfl) (fun ⟨_, _, h⟩ => h) ?_
    simp only [List.take_succ_cons, List.take_zero, List.drop_succ_cons, List.drop_zero]
    repeat still_step
    refine wpStill_nil ?_
    clear hwr
    go_wp2
    gi_wp2_with (refine ⟨trivial, ?_⟩; gi_at_call 28; refine CallsIn.mono (CallsIn.inRound l (callsIn_wide.2 (with_calls ov x.1 hov16 hx16 _))) ?_; rintro e w' ⟨rfl, rfl⟩)
    have hPd := HPP.out.1.below (Below.refl W'.heap.size W').drew
    have hMd := HPP.out.2.below (Below.refl W'.heap.size W').drew
    refine ⟨((KeepsOthers.drew _).trans (KeepsOthers.setCell _ _ _)).from _, (Below.refl _ _).drew.setCell (p := ⟨w.heap.size + 3, 0, none⟩) (by simp) _, ?_, hMd.set _ _ ⟨_, _, _, hPd.o⟩⟩
    rw [HSN.out, HOF.out]
    exact hPd.setO _
   ·
    have dfin : decide (s + tm ≤ (k : Int)) = false := decide_eq_false hfin
    rw [if_neg hfin] at HOF
    clear hfin
    gi_wp2
    refine wpIn_region_still_tail 14 mixed (by kernel_rfl) (by kernel_rfl) (fun ⟨_, _, h⟩ => h) ?_
    simp only [List.take_succ_cons, List.take_zero, List.drop_succ_cons, List.drop_zero]
    repeat still_step
    refine wpStill_nil ?_
    clear hwr
    go_wp2
    gi_wp2
    have hPd := HPP.out.1.below (Below.refl W'.heap.size W').drew
    have hMd := HPP.out.2.below (Below.refl W'.heap.size W').drew
    refine ⟨(KeepsOthers.drew _).from _, (Below.refl _ _).drew, ?_, hMd⟩
    rw [HSN.out, HOF.out]
    exact hPd
  case done =>
   rintro D ys W5 hD hys ⟨hP5, hM5⟩ hK5
   rw [hys] at hP5
   have HM5 := Lib.hid (hM5.cons hK5 (fun E hE' => by have := HM1.out.lt E hE'; simp at hD; omega))
   have hD2 : w.heap.size ≤ D := by simp at hD; omega
   generalize hov : ovN g st k o (elems b) = ov at hP5
   have hovl : ov < 2 ^ g.length := by rw [← hov]; exact ovN_lt _ ho (fun i hi => elems_below hb hi)
   have HSTEP : Hid (planN g ns rm wk (k + 1) = ⟨putS k st (nextN g ns rm wk b ov), putB b (nextN g ns rm wk b ov), ov⟩) := Lib.hid (by
    show stepN g ns rm wk k (planN g ns rm wk k) = _
    rw [HPK.out]
    unfold stepN
    simp only []
    rw [hov])
   have hov16 : ov < 65536 := Nat.lt_of_lt_of_le hovl (Nat.le_trans (Nat.pow_le_pow_right (by omega) h8) (by decide))
   have HP5 := Lib.hid hP5
   have cg := hP5.g.cell
   have co := hP5.o.cell
   clear hP5 hys hov hM5 hK5 hbox hBs
   have hr15 : ns.length ≤ 15 := by rw [HNL.out]; omega
   have hrl : readyN ns ov < 2 ^ g.length := HNL.out ▸ readyU_lt ns ov _
   have hr16 : readyN ns ov < 65536 := Nat.lt_of_lt_of_le hrl (Nat.le_trans (Nat.pow_le_pow_right (by omega) h8) (by decide))
   have hbd : bits BinOp.andNot IntKind.u16 ((readyN ns ov : Nat) : Int) (b : Int) = ((diff (readyN ns ov) b : Nat) : Int) := bits_andNot_u16 _ _ hr16
   have HRK := fun W' hG hT' => ranked_calls C g ns (diff (readyN ns ov) b) HGR.out (diff_lt hrl) W' hG hT'
   have HNX : Hid (nextN g ns rm wk b ov = (admN g rm wk (cnt g (elems (diff b ov))) (rankL (tailN g ns) (elems (diff (readyN ns ov) b)))).2) := Lib.hid rfl
   have hrkl : ∀ x ∈ rankL (tailN g ns) (elems (diff (readyN ns ov) b)), x < g.length := fun x hx => elems_below (diff_lt (n := g.length) hrl) ((rank_sorted (tailN g ns) (elems (diff (readyN ns ov) b))).2.mem_iff.1 hx)
   have hrkn : (rankL (tailN g ns) (elems (diff (readyN ns ov) b))).length ≤ 16 := by rw [(rank_sorted (tailN g ns) (elems (diff (readyN ns ov) b))).2.length_eq]; exact elems_length _
   have HRKL := Lib.hid hrkl
   clear hrkl hrl
   generalize rankL (tailN g ns) (elems (diff (readyN ns ov) b)) = rk at HRK HNX HRKL hrkn
   go_wp2
   go_still_tail 6, mixed
   repeat still_step
   still_call (ready_calls C g ns ov hr15 (graphN_need_u16 HGR.out) hov16 _ (HG.out.below HP5.out.hB.drew))
   repeat still_step
   refine wpStill_nil ?_
   rw [show ({ heap := W5.heap, tape := W5.tape, drawn := W5.drawn + 1, os := W5.os, output := W5.output } : World) = W5.drew from rfl]
   have hB6 : Below W5.heap.size W5 W5.drew := (Below.refl _ _).drew
   have HP6 := Lib.hid (HP5.out.below hB6)
   have HM6 := Lib.hid (HM5.out.below hB6)
   obtain ⟨W6, hW6⟩ : ∃ W6, W6 = W5.drew := ⟨_, rfl⟩
   rw [← hW6] at HP6 HM6 ⊢
   clear hW6 hB6 cg co
   have HR6 := Lib.hid (HRK W6 (HG.out.below HP6.out.hB) (hT.keep htl HP6.out.hB))
   go_wp2_with (go_at_call 80; refine HR6.out.mono ?_; rintro e W7 ⟨v7, rfl, hR7, hB7⟩)
   obtain ⟨A7, c7, rfl, _, hC7⟩ := Kd.R_reads hR7
   rw [ints_length] at hC7 ⊢
   have HC7 := Lib.hid hC7
   have HP7 := Lib.hid (HP6.out.below hB7)
   have HM7 := Lib.hid (HM6.out.below hB7)
   have cg := HP7.out.g.cell
   have co := HP7.out.o.cell
   have hbd2 : bits BinOp.andNot IntKind.u16 (b : Int) (ov : Int) = ((diff b ov : Nat) : Int) := bits_andNot_u16 _ _ hb16
   have HB7 := Lib.hid (HP6.out.hB.trans (hB7.mono HP6.out.hB.size))
   clear hR7 hB7 hC7 hbd
   have HCT := fun W' h1 h2 => counted_calls C g ns (diff b ov) (diff_lt hb) HOK.out W' h1 h2
   have HCS : Hid ((cnt g (elems (diff b ov))).small 100) := Lib.hid (cnt_small100 HOK.out (Nat.le_trans (elems_length _) (by omega)))
   generalize cnt g (elems (diff b ov)) = ct at HCT HCS HNX
   have HC1 : Hid (∀ W, (W.cell? ⟨w.heap.size, 0, none⟩ = some (.pointer (some ⟨C, 0, none⟩)) ∧ W.cell? ⟨w.heap.size + 3, 0, none⟩ = some (.int .u16 (ov : Nat)) ∧ Below W7.heap.size W7 W) → Calls Tryz.prog 83 #[.pointer (some ⟨C, 0, none⟩), .int .u16 (diff b ov : Nat)] W fun e w' =>
     e = .returned (.agg #[.int .i64 ct.t, .int .i64 (ct.u 0), .int .i64 (ct.u 1), .int .i64 (ct.u 2)]) ∧ w'.cell? ⟨w.heap.size, 0, none⟩ = some (.pointer (some ⟨C, 0, none⟩)) ∧ w'.cell? ⟨w.heap.size + 3, 0, none⟩ = some (.int .u16 (ov : Nat)) ∧ Below W7.heap.size W7 w') := Lib.hid (by
    rintro W ⟨_, _, hW⟩
    refine (HCT W (HG.out.below (HP7.out.below hW).hB) (hT.keep htl (HP7.out.below hW).hB)).mono ?_
    rintro e w' ⟨he, hB9⟩
    have hB := hW.trans (hB9.mono hW.size)
    exact ⟨he, (HP7.out.below hB).g.cell, (HP7.out.below hB).o.cell, hB⟩)
   have HC2 : Hid (∀ W, (W.cell? ⟨w.heap.size, 0, none⟩ = some (.pointer (some ⟨C, 0, none⟩)) ∧ W.cell? ⟨w.heap.size + 3, 0, none⟩ = some (.int .u16 (ov : Nat)) ∧ Below W7.heap.size W7 W) → Calls Tryz.prog 82 #[.pointer (some ⟨C, 0, none⟩), .agg #[.int .i64 ct.t, .int .i64 (ct.u 0), .int .i64 (ct.u 1), .int .i64 (ct.u 2)], .slice A1 rm.length c1, .slice A7 rk.length c7, .int .i64 wk] W fun e w' =>
     ∃ A10 c10, e = .returned (.slice A10 (nextN g ns rm wk b ov).length c10) ∧ Kd.R (Kd.int .i64) 3 w' W7.heap.size (fun _ => True) (.slice A10 (nextN g ns rm wk b ov).length c10) (ints (nextN g ns rm wk b ov)) ∧ w'.cell? ⟨w.heap.size, 0, none⟩ = some (.pointer (some ⟨C, 0, none⟩)) ∧ w'.cell? ⟨w.heap.size + 3, 0, none⟩ = some (.int .u16 (ov : Nat)) ∧ Below W7.heap.size W7 w') := Lib.hid (by
    rintro W ⟨_, _, hW⟩
    have had := admitted_calls C g ns ct A1 c1 rm A7 c7 rk wk HOK.out HCS.out HRM.out hrkn HRKL.out W (HG.out.below (HP7.out.below hW).hB) (Kd.C_below HR1.out (HP7.out.below hW).hB) (Kd.C_below HC7.out hW)
    rw [← HNX.out] at had
    refine had.mono ?_
    rintro e w' ⟨v, rfl, hR, hB9⟩
    have hB := hW.trans (hB9.mono hW.size)
    obtain ⟨A10, c10, rfl, _, _⟩ := Kd.R_reads hR
    rw [ints_length] at hR ⊢
    exact ⟨A10, c10, rfl, Kd.R_lower hR hW.size, (HP7.out.below hB).g.cell, (HP7.out.below hB).o.cell, hB⟩)
   go_wp2
   go_region_held3 (fun w' => w'.cell? ⟨w.heap.size, 0, none⟩ = some (.pointer (some ⟨C, 0, none⟩)) ∧ w'.cell? ⟨w.heap.size + 3, 0, none⟩ = some (.int .u16 (ov : Nat)) ∧ Below W7.heap.size W7 w') (first | exact ⟨cg, co, (Below.refl _ W7).drew⟩ | go_keep | (trace_state; fail))
    (first | (go_at_call 83; refine (HC1.out _ ?_).mono ?_; (first | assumption | (refine ⟨?_, ?_, ?_⟩ <;> assumption) | (trace_state; fail)); rintro e W9 ⟨rfl, hS1, hS2, hS3⟩) | (go_at_call 82; refine (HC2.out _ ?_).mono ?_; (first | assumption | (refine ⟨?_, ?_, ?_⟩ <;> assumption) | (trace_state; fail)); rintro e W10 ⟨A10, c10, rfl, hR10, hX1, hX2, hB10⟩))
   have HP9 := HP7
   have HM9 := HM7
   have HP10 := HP9.out.below hB10
   have HM10 := HM9.out.below hB10
   have hnx := nextN_lt (g := g) (ns := ns) rm wk (b := b) (o := ov) HNL.out
   have hR11 : Kd.R (Kd.int .i64) 3 W10 w.heap.size (fun q => q ≠ w.heap.size + 1) (.slice A10 (nextN g ns rm wk b ov).length c10) (ints (nextN g ns rm wk b ov)) := by
    have h1 := HB7.out.size
    have h2 := blk_lt HP7.out.r
    exact Kd.R_lower (Kd.R_mono (Kd.R_bound hR10) (fun q hq => by have := hq.2.1; omega)) h1
   have HSO := Lib.hid (putS_ok (n := g.length) (now := (k : Int)) (by omega))
   have HNXM := Lib.hid hnx
   have hnn : (nextN g ns rm wk b ov).length ≤ 16 := by
    have h1 := (admN_facts HOK.out rm wk HCS.out rk rk.length (Nat.le_refl _)).2
    rw [List.take_length] at h1
    rw [HNX.out]
    omega
   clear hR10 hB10 hX1 hX2 hnx HRKL hrkn
   generalize nextN g ns rm wk b ov = nx at hR11 HNXM HSTEP hnn
   go_wp2
   go_loopw [8, 64] (fun bg i wr => ∃ j, j ≤ nx.length ∧ i = .int .i64 (j : Nat) ∧ bg = .int .u16 (putB b (nx.take j) : Nat) ∧ PH w C w.heap.size g.length (putS k st (nx.take j)) ov N k wr ∧ Marks (D :: Ds) wr ∧ Kd.R (Kd.int .i64) 3 wr w.heap.size (fun q => q ≠ w.heap.size + 1) (.slice A10 nx.length c10) (ints nx)) (fun _ i _ => nx.length - (intOf i).toNat)
   case atStart => exact ⟨0, Nat.zero_le _, rfl, rfl, HP10, HM10, hR11⟩
   case round =>
    clear HP10 HM10 hR11
    obtain ⟨j, hj, rfl, rfl, hP, hM, hR⟩ := hrel
    by_cases hjl : j < nx.length
    ·
     have hjj : decide ((j : Int) < (nx.length : Int)) = true := decide_eq_true (by omega)
     have hji : (j : Int) < (nx.length : Int) := by omega
     obtain ⟨A11, c11, e5, _, hCn⟩ := Kd.R_reads hR
     rw [ints_length] at e5 hCn
     cases e5
     obtain ⟨ad, rfl, cx⟩ := at_set hCn j hjl
     have hxg : nx.getD j 0 < g.length := by
      apply HNXM.out
      rw [List.getD_eq_getElem?_getD, List.getElem?_eq_getElem hjl]
      exact List.getElem_mem _
     have HPS : Hid (putS k st (nx.take (j + 1)) = (putS k st (nx.take j)).set (nx.getD j 0) k) := Lib.hid (by
      rw [List.take_succ_eq_append_getElem hjl, putS_snoc, List.getD_eq_getElem?_getD, List.getElem?_eq_getElem hjl]
      rfl)
     have HPB : Hid (putB b (nx.take (j + 1)) = putB b (nx.take j) ||| 2 ^ nx.getD j 0) := Lib.hid (by
      rw [List.take_succ_eq_append_getElem hjl, putB_snoc, List.getD_eq_getElem?_getD, List.getElem?_eq_getElem hjl]
      rfl)
     have hbl : putB b (nx.take j) < 2 ^ g.length := putB_lt _ hb (fun i hi => HNXM.out i (List.mem_of_mem_take hi))
     have hbl16 : putB b (nx.take j) < 65536 := Nat.lt_of_lt_of_le hbl (Nat.le_trans (Nat.pow_le_pow_right (by omega) h8) (by decide))
     generalize putB b (nx.take j) = bj at HPB hbl hbl16
     have hso := HSO.out (nx.take j) hst
     generalize nx.getD j 0 = x at cx hxg HPS HPB
     have hx16 : x < 16 := by omega
     have cs := hP.s.cell
     have ct := hP.t.cell
     have cr := hP.r.cell x (by rw [hso.1]; exact hxg)
     have fr := hP.r.frozen x
     have hxi : (x : Int) < (g.length : Int) := by omega
     have HIN := Lib.hid (And.intro hP (And.intro hM hR))
     clear hP hM hR hCn hso
     go_wp2_with (go_at_call 28; refine (with_calls bj x hbl16 hx16 _).mono ?_; rintro e w' ⟨rfl, rfl⟩)
     go_roundw
     case rel =>
      refine ⟨j + 1, by omega, by go_num, by rw [HPB.out], ?_, HIN.out.2.1.set _ _ ⟨_, _, _, HIN.out.1.r⟩, Kd.R_far (p := ⟨w.heap.size + 1, x, none⟩) HIN.out.2.2 (fun q h => h) _⟩
      rw [HPS.out]
      exact HIN.out.1.setR x k
     case measure => simp [intOf]; omega
    ·
     obtain rfl : j = nx.length := by omega
     have hjj : decide ((nx.length : Int) < (nx.length : Int)) = false := decide_eq_false (by omega)
     rw [List.take_length] at hP
     have ct := hP.t.cell
     have HPE := Lib.hid hP
     have HME := Lib.hid hM
     have hk1 : IntKind.i64.wrap ((k : Int) + 1) = (k : Int) + 1 := IntWalk.i64_in _ (by omega)
     clear hP hM hR
     go_wp2
     have hBz : Below wr.heap.size wr (wr.alloc (.cells #[.int .i64 ((k : Int) + 1)] 3)) := (Below.refl _ _).alloc (Nat.le_refl _) _
     have hPz := HPE.out.newT ((k : Int) + 1)
     rw [show (k : Int) + 1 = ((k + 1 : Nat) : Int) from by omega] at hPz hBz ⊢
     refine ⟨⟨_, D :: Ds, k + 1, wr.heap.size, rfl, rfl, rfl, rfl, rfl, rfl, ?_, rfl, rfl, by omega, HME.out.below hBz, ?_, ?_⟩, ?_⟩
     ·
      show Value.int .u16 _ = _
      rw [HSTEP.out, List.take_length]
     ·
      intro E hE
      rcases List.mem_cons.1 hE with rfl | hE
      ·
       exact hD2
      ·
       exact hDs E hE
     ·
      rw [HSTEP.out]
      exact hPz
     ·
      show K - nowAt (.pointer (some ⟨wr.heap.size, 0, none⟩)) _ < K - nowAt (u 10) W
      rw [nowAt_box hPz.t, t10, nowAt_box HPH.out.t]
      omega
 ·
  obtain rfl : k = K := by omega
  rw [hAL] at hP
  have dne : (((2 ^ g.length - 1 : Nat) : Int) != ((2 ^ g.length - 1 : Nat) : Int)) = false := by simp
  have cg := hP.g.cell
  have co := hP.o.cell
  have cs := hP.s.cell
  have HPH := Lib.hid hP
  have HM := Lib.hid hM
  clear HNE hAL hP hM
  go_wp2
  go_quiet (first
   | (go_at_call 43; exact Calls.quiet_of_same (size_calls _ C g ns (HG.out.below (pw_below_drewN HPH.out.hB _))))
   | (go_at_call 42; exact Calls.quiet_of_same (everything_calls g.length (by omega) _)))
  go_wp2
  refine leave_marks (B := w.heap.size) Ds _ (HM.out.below (pw_below_drewN (Below.refl _ _) nq)) hDs (fun w' hs => ⟨results_tmp rfl _ _ _, _, rfl, ?_, (pw_below_drewN HPH.out.hB nq).trans hs.below⟩)
  have hr := hs.cells (w.heap.size + 1) _ (HPH.out.r.below (pw_below_drewN (Below.refl _ _) nq)) rfl
  have hr2 := IRow.own (base := w.heap.size) (show IRow w' (w.heap.size + 1) _ from hr) (by omega) (by rw [hok.1.1]; omega)
  rw [hok.1.1] at hr2
  exact hr2
end Go.Proofs.YtlapphhcficbjaaGreatDoor

namespace Go.Proofs.YtlapphhcficbjaaGreatDoor
set_option linter.unusedVariables false
set_option linter.unusedSimpArgs false
open Go.RowKit Go.Shelf Bits
open Go.Proofs.YtlapphhcficbjaaGreatDoorW.PrintWords Go.Proofs.YtlapphhcficbjaaGreatDoorW.PrintLast Go.Proofs.YtlapphhcficbjaaGreatDoorW.PrintMore
attribute [local go_sem] Oper.semAt_some
theorem R_nilI (w : World) (base : Nat) : Kd.R (Kd.int .i64) 3 w base (fun _ => True) (.slice none 0 0) [] := Kd.R_of_own ⟨by simp [encs], .inl ⟨rfl, by simp [encs]⟩⟩ (fun _ _ => trivial)
theorem readyN_lt (ns : List Nat) (d : Nat) : readyN ns d < 2 ^ ns.length := readyU_lt ns d _
theorem doneN_facts {g : List Tk} {l : List Int} {ns : List Nat} {s : Nat} (h : doneN g l = some (ns, s)) : graphN g = some ns ∧ setOfN l g.length = some s ∧ closedN ns s = true := by
 unfold doneN at h
 obtain ⟨ns', h1, h⟩ := Option.bind_eq_some_iff.1 h
 obtain ⟨s', h2, h⟩ := Option.bind_eq_some_iff.1 h
 split at h
 ·
  cases h
  exact ⟨h1, h2, by assumption⟩
 ·
  cases h
def rdOrdN (g : List Tk) (l : List Int) : List Int := match doneN g l with
 | some (ns, s) => ints (rankL (tailN g ns) (elems (readyN ns s)))
 | none => []
def rdTasksN (g : List Tk) (l : List Int) : List Int := match doneN g l with
 | some (ns, s) => els (readyN ns s)
 | none => []
def tailTimesN (g : List Tk) : List Int := match graphN g with
 | some ns => tailN g ns
 | none => []
end Go.Proofs.YtlapphhcficbjaaGreatDoor

namespace Go.Proofs.YtlapphhcficbjaaGreatDoor
set_option linter.unusedVariables false
set_option linter.unusedSimpArgs false
open Go.RowKit Go.Shelf Bits
open Go.Proofs.YtlapphhcficbjaaGreatDoorW.PrintWords Go.Proofs.YtlapphhcficbjaaGreatDoorW.PrintLast Go.Proofs.YtlapphhcficbjaaGreatDoorW.PrintMore
def vDoneB (g : List Tk) (d : List Int) : Bool := specValid g && (ascB d && (allInB d 0 (g.length - 1) && d.all fun x => allDoneB (rdTk g x.toNat).f1 d))
theorem allIn_mem {l : List Int} {lo hi : Int} (h : allInB l lo hi = true) : ∀ j, j < l.length → lo ≤ l.getD j 0 ∧ l.getD j 0 ≤ hi := fun j hj => by
 unfold allInB at h
 rw [List.all_eq_true] at h
 exact inB_true.1 (h _ (mem_getD hj))
theorem specValid_len {g : List Tk} (h : specValid g = true) : g.length ≤ 8 := by
 unfold specValid tasksFineB at h
 simp at h
 exact h.1.2
end Go.Proofs.YtlapphhcficbjaaGreatDoor

namespace Go.Proofs.YtlapphhcficbjaaGreatDoor
set_option linter.unusedVariables false
set_option linter.unusedSimpArgs false
open Go.RowKit Go.Shelf Bits
open Go.Proofs.YtlapphhcficbjaaGreatDoorW.PrintWords Go.Proofs.YtlapphhcficbjaaGreatDoorW.PrintLast Go.Proofs.YtlapphhcficbjaaGreatDoorW.PrintMore
def sRdTasks (g : List Tk) (d : List Int) : List Nat := if vDoneB g d then readyS g d else []
def sRdOrd (g : List Tk) (d : List Int) : List Nat := if vDoneB g d then insL (tailsS g) (readyS g d) else []
theorem vDone_valid {g : List Tk} {d : List Int} (h : vDoneB g d = true) : specValid g = true := by
 unfold vDoneB at h
 rw [Bool.and_eq_true] at h
 exact h.1
theorem readyS_len (g : List Tk) (d : List Int) : (readyS g d).length ≤ g.length := filter_range_le _ _
theorem readyS_lt {g : List Tk} {d : List Int} : ∀ x ∈ readyS g d, x < g.length := fun x hx => List.mem_range.1 (List.mem_filter.1 hx).1
theorem sRdTasks_len (g : List Tk) (d : List Int) : (sRdTasks g d).length ≤ 8 := by
 unfold sRdTasks
 split
 ·
  rename_i h
  exact Nat.le_trans (readyS_len g d) (specValid_len (vDone_valid h))
 ·
  simp
end Go.Proofs.YtlapphhcficbjaaGreatDoor
