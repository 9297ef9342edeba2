/- The walk over the law SealApart. -/
import Derived.Test.YtjkicmlelilcaaaDoorA3
namespace Go.Proofs.YtjkicmlelilcaaaDoor
open Go.RowKit
attribute [local irreducible] OpV be2 be4 be8 layTo layB chg shaB hmB tailB num fewP fewVs
set_option maxRecDepth 100000 in
set_option maxHeartbeats 2000000 in
theorem apart_any (kv pv0 pv1 : Value) (k0 s0 s1 : List UInt8) (vs0 vs1 : List Value) (ps0 ps1 : List (List UInt8)) (w : World) (hk : BSl w kv k0) (hP0 : PSl w pv0 vs0 ps0) (hP1 : PSl w pv1 vs1 ps1)
    (hn0 : ps0.length ≤ 9223372036854775807) (hn1 : ps1.length ≤ 9223372036854775807) (hK : GlobK w) (hS : GlobS w) (h3 : 3 < w.heap.size) :
    Calls Tryd.prog 9 #[kv, .agg #[.string ⟨s0.toArray⟩, .string ⟨s1.toArray⟩], .agg #[pv0, pv1]] w fun e w' => e = .returned (.bool true) ∧ Below w.heap.size w w' := by
  have HK0 : Hid (GlobK w) := hK
  have HS0 : Hid (GlobS w) := hS
  clear hK hS
  obtain ⟨ka0, kc0, rfl⟩ := hk.len
  have hcap := (BSl.cap hk).2
  obtain ⟨pa0, pc0, rfl, _⟩ := psl_form hP0
  obtain ⟨pa1, pc1, rfl, _⟩ := psl_form hP1
  have HPw0 := Lib.hid hP0
  have HPw1 := Lib.hid hP1
  clear hP0 hP1
  obtain ⟨kt, hkt⟩ : ∃ kt, kt = k0.take 63 := ⟨_, rfl⟩
  have hktl : min k0.length 63 = kt.length := by rw [hkt, List.length_take]; omega
  have HMIN : Hid ((if (63 : Int) < ((k0.length : Nat) : Int) then 63 else ((k0.length : Nat) : Int)) = ((kt.length : Nat) : Int)) := by
    show _ = _
    rw [← hktl]; split <;> omega
  have hcap2 : kt.length ≤ kc0 := by omega
  have hkt63 : kt.length ≤ 63 := by omega
  have HT0 := Lib.hid (BSl.cut hk rfl 63)
  rw [← hkt, hktl] at HT0
  obtain ⟨key, hkey⟩ : ∃ key, key = kt ++ [107] := ⟨_, rfl⟩
  have hk0 : 0 < key.length := by rw [hkey]; simp
  have hk1 : key.length ≤ 64 := by rw [hkey]; simp; omega
  have HKY := Lib.hid hkey.symm
  clear hkt hktl hkey hcap
  obtain ⟨l0, hl0⟩ : ∃ l, l = s0.take 30 := ⟨_, rfl⟩
  have HL0 : Hid (l0 = s0.take l0.length ∧ l0.length ≤ s0.length) := by rw [hl0]; exact take_self s0 30
  have hll0 : l0.length ≤ 30 := by rw [hl0, List.length_take]; omega
  have HLM0 : Hid ((if (30 : Int) < ((s0.length : Nat) : Int) then 30 else ((s0.length : Nat) : Int)) = ((l0.length : Nat) : Int)) := by
    show _ = _
    rw [hl0, List.length_take]; split <;> omega
  clear hl0
  obtain ⟨M0, hM0⟩ : ∃ M, M = layB l0 (fewP ps0) := ⟨_, rfl⟩
  have HM0 := Lib.hid hM0
  have hML0 : M0.length ≤ 1000 := by
    have h1 := fewP_flat ps0
    have h2 := fewP_le ps0
    rw [hM0, lay_len]; omega
  obtain ⟨Y0, hY0⟩ : ∃ Y, Y = hmB key M0 := ⟨_, rfl⟩
  have HY0 := Lib.hid hY0
  have HYL0 : Hid (Y0.length = 32) := by rw [hY0]; exact hmB_length _ _
  clear hM0 hY0
  obtain ⟨l1, hl1⟩ : ∃ l, l = s1.take 30 := ⟨_, rfl⟩
  have HL1 : Hid (l1 = s1.take l1.length ∧ l1.length ≤ s1.length) := by rw [hl1]; exact take_self s1 30
  have hll1 : l1.length ≤ 30 := by rw [hl1, List.length_take]; omega
  have HLM1 : Hid ((if (30 : Int) < ((s1.length : Nat) : Int) then 30 else ((s1.length : Nat) : Int)) = ((l1.length : Nat) : Int)) := by
    show _ = _
    rw [hl1, List.length_take]; split <;> omega
  clear hl1
  obtain ⟨M1, hM1⟩ : ∃ M, M = layB l1 (fewP ps1) := ⟨_, rfl⟩
  have HM1 := Lib.hid hM1
  have hML1 : M1.length ≤ 1000 := by
    have h1 := fewP_flat ps1
    have h2 := fewP_le ps1
    rw [hM1, lay_len]; omega
  obtain ⟨Y1, hY1⟩ : ∃ Y, Y = hmB key M1 := ⟨_, rfl⟩
  have HY1 := Lib.hid hY1
  have HYL1 : Hid (Y1.length = 32) := by rw [hY1]; exact hmB_length _ _
  clear hM1 hY1
  go_enter Tryd.func9, Tryd.ntmps9
  go_upto_region 1 with (fail)
  obtain ⟨w1, hw1⟩ : ∃ w1, w1 = (w.alloc (.cells #[.string ⟨s0.toArray⟩, .string ⟨s1.toArray⟩] 53)).alloc (.cells #[.slice pa0 ps0.length pc0, .slice pa1 ps1.length pc1] 54) := ⟨_, rfl⟩
  have hb1 : Below w.heap.size w w1 := by rw [hw1]; exact (alloc_below w).alloc (by simp) _
  have hz1 : w1.heap.size = w.heap.size + 2 := by rw [hw1]; simp
  have hA4 : w1.heap[w.heap.size]? = some (.cells #[.string ⟨s0.toArray⟩, .string ⟨s1.toArray⟩] 53 (0, 0)) := by rw [hw1, alloc_old _ _ _ (by simp)]; exact row_new _ _ _
  have hA5 : w1.heap[w.heap.size + 1]? = some (.cells #[.slice pa0 ps0.length pc0, .slice pa1 ps1.length pc1] 54 (0, 0)) := by rw [hw1, alloc_at _ _ _ (by simp)]
  have HA4 := Lib.hid hA4
  have HA5 := Lib.hid hA5
  have HT : Hid (BSl w1 (.slice ka0 kt.length kc0) kt) := HT0.out.below hb1 (Nat.le_refl _)
  rw [← hw1]
  clear hw1 hA4 hA5
  refine region_txt [some 21, some 22, some 23, some 24, some 25, some 26, some 27, some 28, some 0] (by kernel_rfl) [7] [[], [], [1], [2], [0, 3], [4], [], [5, 6], [0, 1, 7]] [[], [], [], [], [], [7], [7], [], []] [] [Is (.slice ka0 k0.length kc0), Is (.slice ka0 k0.length kc0), Is (.int .i64 ((k0.length : Nat) : Int)), Is (.int .i64 ((kt.length : Nat) : Int)), Is (.slice ka0 kt.length kc0), (false, fun v W => W.ownsRow w1.heap.size 5 1 v (kt).length (c8l (kt))), (false, fun v W => BSl W v [107]), (false, fun v W => W.ownsRow w1.heap.size 5 1 v (key).length (c8l (key))), (false, fun v W => W.ownsRow w1.heap.size 5 1 v (key).length (c8l (key)))] (by kernel_rfl) (by kernel_rfl) (by rfl) ⟨Is.keeps _, Is.keeps _, Is.keeps _, Is.keeps _, Is.keeps _, (fun _ _ _ he h => owns_below h he (Nat.le_refl _)), (fun _ _ _ he h => BSl.below h he (Nat.le_refl _)), (fun _ _ _ he h => owns_below h he (Nat.le_refl _)), (fun _ _ _ he h => owns_below h he (Nat.le_refl _)), trivial⟩ ⟨?_, ?_, ?_, ?_, ?_, ?_, ?_, ?_, ?_, trivial⟩ ?_
  · intro W hW
    refine forV_nil ?_
    exact opv_run (.slice ka0 k0.length kc0) (by kernel_rfl) (by kernel_rfl) (does_pure rfl)
  · intro W hW
    refine forV_nil ?_
    exact opv_run (.slice ka0 k0.length kc0) (by kernel_rfl) (by kernel_rfl) (does_pure rfl)
  · intro W hW v1 h1
    obtain rfl : v1 = .slice ka0 k0.length kc0 := h1 rfl
    refine forV_nil ?_
    exact opv_run (.int .i64 ((k0.length : Nat) : Int)) (by kernel_rfl) (by kernel_rfl) (does_pure rfl)
  · intro W hW v2 h2
    obtain rfl : v2 = .int .i64 ((k0.length : Nat) : Int) := h2 rfl
    refine forV_nil ?_
    refine opv_run (.int .i64 (if (63 : Int) < ((k0.length : Nat) : Int) then 63 else ((k0.length : Nat) : Int))) (by kernel_rfl) (by kernel_rfl) (does_pure ?_)
    rw [HMIN.out]; rfl
  · intro W hW v0 h0 v3 h3
    obtain rfl : v0 = .slice ka0 k0.length kc0 := h0 rfl
    obtain rfl : v3 = .int .i64 ((kt.length : Nat) : Int) := h3 rfl
    refine forV_nil ?_
    exact opv_run _ (by kernel_rfl) (run_sliceTo (k := .i64) (m := k0.length) rfl (by kernel_rfl) (by kernel_rfl) Tryd.underlying22 info5s hcap2) (does_pure rfl)
  · intro W hW v4 h4
    obtain rfl : v4 = .slice ka0 kt.length kc0 := h4 rfl
    refine forV_nil ?_
    refine opv_call 28 #[.slice ka0 kt.length kc0] (by kernel_rfl) (by kernel_rfl) ((clone28_any _ kt W (HT.out.below hW (Nat.le_refl _)) (by omega)).mono ?_)
    rintro e w2 ⟨u, rfl, hm, hb⟩
    exact ⟨u, rfl, does_ext hW hb, owns_up hm hW.size⟩
  · intro W hW
    refine forV_nil ?_
    refine opv_run (.slice (some ⟨W.heap.size, 0, none⟩) 1 1) (W' := W.alloc (.cells (c8 [107]) 5)) (by kernel_rfl) (by kernel_rfl) ⟨does_ext hW (alloc_below W), BSl.lit (bs := [107]) (fr := (0, 0)) rfl (Nat.le_refl _)⟩
  · intro W hW v5 h5 v6 h6
    replace h5 : ((false, fun v W => W.ownsRow w1.heap.size 5 1 v (kt).length (c8l (kt)))).2 v5 W := h5 rfl
    replace h6 : ((false, fun v W => BSl W v [107])).2 v6 W := h6 rfl
    refine forV_nil ?_
    unfold OpV
    refine wpList_append_bsl rfl (.tmp 26) (.tmp 27) rfl w1.heap.size _ kt (by kernel_rfl) h5 _ [107] (by kernel_rfl) h6 (by simp; omega) hW.size ?_
    intro v' w' hown' hb'
    exact ⟨v', rfl, does_wr rfl hb', by rw [HKY.out] at hown'; exact hown'⟩
  · intro W hW v0 h0 v1 h1 v7 h7
    obtain rfl : v0 = .slice ka0 k0.length kc0 := h0 rfl
    obtain rfl : v1 = .slice ka0 k0.length kc0 := h1 rfl
    replace h7 : ((false, fun v W => W.ownsRow w1.heap.size 5 1 v (key).length (c8l (key)))).2 v7 W := h7 rfl
    refine forV_nil ?_
    exact opv_run v7 (by kernel_rfl) (by kernel_rfl) (does_pure h7)
  intro W hW v0 h0 v1 h1 v2 h2 v3 h3 v4 h4 v5 h5 v6 h6 v7 h7 v8 h8
  replace h0 : v0 = .slice ka0 k0.length kc0 := h0 rfl; subst h0
  replace h1 : v1 = .slice ka0 k0.length kc0 := h1 rfl; subst h1
  replace h2 : v2 = .int .i64 ((k0.length : Nat) : Int) := h2 rfl; subst h2
  replace h3 : v3 = .int .i64 ((kt.length : Nat) : Int) := h3 rfl; subst h3
  replace h4 : v4 = .slice ka0 kt.length kc0 := h4 rfl; subst h4
  clear h5
  clear h6
  replace h7 : ((false, fun v W => W.ownsRow w1.heap.size 5 1 v (key).length (c8l (key)))).2 v7 W := h7 rfl
  replace h8 : ((false, fun v W => W.ownsRow w1.heap.size 5 1 v (key).length (c8l (key)))).2 v8 W := h8 rfl
  refine forE_end ?_
  simp only [Act.put, List.getD_cons_zero, List.getD_cons_succ, List.setIfInBounds_toArray, List.set_cons_zero, List.set_cons_succ, Nat.zero_add, Nat.reduceAdd]
  obtain ⟨w7, rfl⟩ : ∃ w7 : World, w7 = W := ⟨_, rfl⟩
  have hbw7 : Below w.heap.size w w7 := hb1.trans (hW.mono hb1.size)
  have HBK : Hid (BSl w7 v8 key) := BSl.of_owns h8
  obtain ⟨ka, kc, rfl⟩ := owns_form h8
  have hz7 := hW.size
  have HX40 : Hid (w7.cell? ⟨w.heap.size, 0, none⟩ = some (.string ⟨s0.toArray⟩)) := (hW.cell (p := ⟨w.heap.size, 0, none⟩) (by show w.heap.size < _; omega)).trans (by rw [cell_of_row w1 _ 0 _ 53 (0, 0) HA4.out]; rfl)
  have HX41 : Hid (w7.cell? ⟨w.heap.size, 1, none⟩ = some (.string ⟨s1.toArray⟩)) := (hW.cell (p := ⟨w.heap.size, 1, none⟩) (by show w.heap.size < _; omega)).trans (by rw [cell_of_row w1 _ 1 _ 53 (0, 0) HA4.out]; rfl)
  have HX50 : Hid (w7.cell? ⟨w.heap.size + 1, 0, none⟩ = some (.slice pa0 ps0.length pc0)) := (hW.cell (p := ⟨w.heap.size + 1, 0, none⟩) (by show w.heap.size + 1 < _; omega)).trans (by rw [cell_of_row w1 _ 0 _ 54 (0, 0) HA5.out]; rfl)
  have HX51 : Hid (w7.cell? ⟨w.heap.size + 1, 1, none⟩ = some (.slice pa1 ps1.length pc1)) := (hW.cell (p := ⟨w.heap.size + 1, 1, none⟩) (by show w.heap.size + 1 < _; omega)).trans (by rw [cell_of_row w1 _ 1 _ 54 (0, 0) HA5.out]; rfl)
  have HK : Hid (GlobK w7) := HK0.out.below hbw7 h3
  have HS : Hid (GlobS w7) := HS0.out.below hbw7 h3
  have h37 : 3 < w7.heap.size := mid_lt h3 hbw7
  have HP0 : Hid (PSl w7 (.slice pa0 ps0.length pc0) vs0 ps0) := HPw0.out.below hbw7 (Nat.le_refl _)
  have HP1 : Hid (PSl w7 (.slice pa1 ps1.length pc1) vs1 ps1) := HPw1.out.below hbw7 (Nat.le_refl _)
  clear h7 h8 hW HT
  obtain ⟨x4, hx4⟩ : ∃ x4, x4 = w.heap.size := ⟨_, rfl⟩
  obtain ⟨x5, hx5⟩ : ∃ x5, x5 = w.heap.size + 1 := ⟨_, rfl⟩
  rw [← hx5] at HX50 HX51 ⊢
  rw [← hx4] at HX40 HX41 ⊢
  have HXE := Lib.hid hx4
  have hx47 : x4 < w7.heap.size := by omega
  have hx57 : x5 < w7.heap.size := by omega
  clear hx4 hx5
  have HI0 : Hid (ApI w7.heap.size w7 M0 M1 Y0 Y1 0 ((w7.alloc (.cells #[.slice none 0 0, .slice none 0 0] 55)).alloc (.cells (c8 (List.replicate 64 0)) 56))) := by
    refine ⟨(alloc_below w7).alloc (by simp) _, by simp, ?_, .slice none 0 0, .slice none 0 0, ?_, fun h => by omega, fun h => by omega⟩
    · have := z64_there (w7.alloc (.cells #[.slice none 0 0, .slice none 0 0] 55))
      simpa using this
    · rw [alloc_old _ _ _ (by simp)]; exact row_new _ _ _
  obtain ⟨b7, hb7⟩ : ∃ b7, b7 = w7.heap.size := ⟨_, rfl⟩
  go_wp2
  rw [← hb7]
  rw [← hb7] at HI0
  have hb7a : b7 ≤ w7.heap.size := by omega
  have hb7b : w7.heap.size ≤ b7 := by omega
  clear hb7
  go_loopw [29] (ApL b7 w7 M0 M1 Y0 Y1) (fun i _ => 2 - (intOf i).toNat)
  case atStart => exact ⟨0, by omega, rfl, HI0.out⟩
  case round =>
    obtain ⟨k, hk3, rfl, hI⟩ := hrel
    clear HI0
    obtain rfl | rfl | rfl : k = 0 ∨ k = 1 ∨ k = 2 := by omega
    · -- round 0
      obtain ⟨hbr, hb8, hth, v0, v1, h7, hv0, hv1⟩ := hI
      have hV0 := Lib.hid hv0
      clear hv0 hv1
      have H7 := Lib.hid h7
      clear h7
      go_upto_region 8 with (fail)
      refine region_ext (by kernel_rfl) [some 32, some 33, some 34, some 35, some 36, some 37, some 38, some 39, some 40, some 41, some 42, some 43, some 44, some 11, some 12] (by kernel_rfl) [] [[], [0], [1], [], [3], [4], [5], [6], [2, 7], [], [9], [10], [11], [8], [12]] [] [] [Is (.int .i64 0), Is (.pointer (some ⟨x4, 0, none⟩)), Is (.string ⟨s0.toArray⟩), Is (.int .i64 0), Is (.pointer (some ⟨x4, 0, none⟩)), Is (.string ⟨s0.toArray⟩), Is (.int .i64 ((s0.length : Nat) : Int)), Is (.int .i64 ((l0.length : Nat) : Int)), Is (.string ⟨l0.toArray⟩), Is (.int .i64 0), Is (.pointer (some ⟨x5, 0, none⟩)), Is (.slice pa0 ps0.length pc0), (false, fun v W => W.ownsRow wr.heap.size 22 1 v (min ps0.length 6) (fewVs vs0 (min ps0.length 6))), Is (.string ⟨l0.toArray⟩), (false, fun v W => W.ownsRow wr.heap.size 22 1 v (min ps0.length 6) (fewVs vs0 (min ps0.length 6)))] (by kernel_rfl) (by kernel_rfl) (by rfl) ⟨Is.keeps _, Is.keeps _, Is.keeps _, Is.keeps _, Is.keeps _, Is.keeps _, Is.keeps _, Is.keeps _, Is.keeps _, Is.keeps _, Is.keeps _, Is.keeps _, (fun _ _ _ he h => owns_below h he (Nat.le_refl _)), Is.keeps _, (fun _ _ _ he h => owns_below h he (Nat.le_refl _)), trivial⟩ ⟨?_, ?_, ?_, ?_, ?_, ?_, ?_, ?_, ?_, ?_, ?_, ?_, ?_, ?_, ?_, trivial⟩ ?_
      · intro W hW
        refine forV_nil ?_
        exact opv_run (.int .i64 0) (by kernel_rfl) (by kernel_rfl) (does_pure rfl)
      · intro W hW v0 h0
        obtain rfl : v0 = .int .i64 0 := h0 rfl
        refine forV_nil ?_
        exact opv_run (.pointer (some ⟨x4, 0, none⟩)) (by kernel_rfl) (by kernel_rfl) (does_pure rfl)
      · intro W hW v1 h1
        obtain rfl : v1 = .pointer (some ⟨x4, 0, none⟩) := h1 rfl
        refine forV_nil ?_
        exact opv_run _ (by kernel_rfl) (run_load1 rfl (by kernel_rfl) Tryd.underlying9 rfl (((hbr.trans (hW.mono (by omega))).cell (p := ⟨x4, 0, none⟩) (by show x4 < _; omega)).trans HX40.out)) (does_pure rfl)
      · intro W hW
        refine forV_nil ?_
        exact opv_run (.int .i64 0) (by kernel_rfl) (by kernel_rfl) (does_pure rfl)
      · intro W hW v3 h3
        obtain rfl : v3 = .int .i64 0 := h3 rfl
        refine forV_nil ?_
        exact opv_run (.pointer (some ⟨x4, 0, none⟩)) (by kernel_rfl) (by kernel_rfl) (does_pure rfl)
      · intro W hW v4 h4
        obtain rfl : v4 = .pointer (some ⟨x4, 0, none⟩) := h4 rfl
        refine forV_nil ?_
        exact opv_run _ (by kernel_rfl) (run_load1 rfl (by kernel_rfl) Tryd.underlying9 rfl (((hbr.trans (hW.mono (by omega))).cell (p := ⟨x4, 0, none⟩) (by show x4 < _; omega)).trans HX40.out)) (does_pure rfl)
      · intro W hW v5 h5
        obtain rfl : v5 = .string ⟨s0.toArray⟩ := h5 rfl
        refine forV_nil ?_
        exact opv_run (.int .i64 ((s0.length : Nat) : Int)) (by kernel_rfl) (by kernel_rfl) (does_pure rfl)
      · intro W hW v6 h6
        obtain rfl : v6 = .int .i64 ((s0.length : Nat) : Int) := h6 rfl
        refine forV_nil ?_
        refine opv_run (.int .i64 (if (30 : Int) < ((s0.length : Nat) : Int) then 30 else ((s0.length : Nat) : Int))) (by kernel_rfl) (by kernel_rfl) (does_pure ?_)
        rw [HLM0.out]; rfl
      · intro W hW v2 h2 v7 h7
        obtain rfl : v2 = .string ⟨s0.toArray⟩ := h2 rfl
        obtain rfl : v7 = .int .i64 ((l0.length : Nat) : Int) := h7 rfl
        refine forV_nil ?_
        exact opv_run _ (by kernel_rfl) (run_cutStr (k := .i64) rfl (by kernel_rfl) (by kernel_rfl) Tryd.underlying9 HL0.out) (does_pure rfl)
      · intro W hW
        refine forV_nil ?_
        exact opv_run (.int .i64 0) (by kernel_rfl) (by kernel_rfl) (does_pure rfl)
      · intro W hW v9 h9
        obtain rfl : v9 = .int .i64 0 := h9 rfl
        refine forV_nil ?_
        exact opv_run (.pointer (some ⟨x5, 0, none⟩)) (by kernel_rfl) (by kernel_rfl) (does_pure rfl)
      · intro W hW v10 h10
        obtain rfl : v10 = .pointer (some ⟨x5, 0, none⟩) := h10 rfl
        refine forV_nil ?_
        exact opv_run _ (by kernel_rfl) (run_load1 rfl (by kernel_rfl) Tryd.underlying31 rfl (((hbr.trans (hW.mono (by omega))).cell (p := ⟨x5, 0, none⟩) (by show x5 < _; omega)).trans HX50.out)) (does_pure rfl)
      · intro W hW v11 h11
        obtain rfl : v11 = .slice pa0 ps0.length pc0 := h11 rfl
        refine forV_nil ?_
        refine opv_call 22 #[.slice pa0 ps0.length pc0] (by kernel_rfl) (by kernel_rfl) ((few_any _ vs0 ps0 W (HP0.out.below (hbr.trans (hW.mono (by omega))) (by omega)) hn0).mono ?_)
        rintro e w2 ⟨u, rfl, hm, hb⟩
        exact ⟨u, rfl, does_ext hW hb, owns_up22 hm hW.size⟩
      · intro W hW v8 h8
        obtain rfl : v8 = .string ⟨l0.toArray⟩ := h8 rfl
        refine forV_nil ?_
        exact opv_run (.string ⟨l0.toArray⟩) (by kernel_rfl) (by kernel_rfl) (does_pure rfl)
      · intro W hW v12 h12
        replace h12 : ((false, fun v W => W.ownsRow wr.heap.size 22 1 v (min ps0.length 6) (fewVs vs0 (min ps0.length 6)))).2 v12 W := h12 rfl
        refine forV_nil ?_
        exact opv_run v12 (by kernel_rfl) (by kernel_rfl) (does_pure h12)
      intro W hW v0 h0 v1 h1 v2 h2 v3 h3 v4 h4 v5 h5 v6 h6 v7 h7 v8 h8 v9 h9 v10 h10 v11 h11 v12 h12 v13 h13 v14 h14
      replace h0 : v0 = .int .i64 0 := h0 rfl; subst h0
      replace h1 : v1 = .pointer (some ⟨x4, 0, none⟩) := h1 rfl; subst h1
      replace h2 : v2 = .string ⟨s0.toArray⟩ := h2 rfl; subst h2
      replace h3 : v3 = .int .i64 0 := h3 rfl; subst h3
      replace h4 : v4 = .pointer (some ⟨x4, 0, none⟩) := h4 rfl; subst h4
      replace h5 : v5 = .string ⟨s0.toArray⟩ := h5 rfl; subst h5
      replace h6 : v6 = .int .i64 ((s0.length : Nat) : Int) := h6 rfl; subst h6
      replace h7 : v7 = .int .i64 ((l0.length : Nat) : Int) := h7 rfl; subst h7
      replace h8 : v8 = .string ⟨l0.toArray⟩ := h8 rfl; subst h8
      replace h9 : v9 = .int .i64 0 := h9 rfl; subst h9
      replace h10 : v10 = .pointer (some ⟨x5, 0, none⟩) := h10 rfl; subst h10
      replace h11 : v11 = .slice pa0 ps0.length pc0 := h11 rfl; subst h11
      replace h12 : ((false, fun v W => W.ownsRow wr.heap.size 22 1 v (min ps0.length 6) (fewVs vs0 (min ps0.length 6)))).2 v12 W := h12 rfl
      replace h13 : v13 = .string ⟨l0.toArray⟩ := h13 rfl; subst h13
      replace h14 : ((false, fun v W => W.ownsRow wr.heap.size 22 1 v (min ps0.length 6) (fewVs vs0 (min ps0.length 6)))).2 v14 W := h14 rfl
      refine forE_end ?_
      simp only [Act.put, List.getD_cons_zero, List.getD_cons_succ, List.setIfInBounds_toArray, List.set_cons_zero, List.set_cons_succ, Nat.zero_add, Nat.reduceAdd]
      obtain ⟨w2, rfl⟩ : ∃ w2 : World, w2 = W := ⟨_, rfl⟩
      have hbr2 : Below b7 w7 w2 := hbr.trans (hW.mono (by omega))
      have hz2 := hW.size
      have hP2 := psl_few h14 HP0.out (hbr2.mono (by omega))
      obtain ⟨pa, pc, hpv, _⟩ := psl_form hP2
      rw [fewP_length] at hpv
      obtain ⟨m, hm⟩ : ∃ m, m = min ps0.length 6 := ⟨_, rfl⟩
      have HMM := Lib.hid hm
      rw [← hm] at hpv
      clear hm
      subst hpv
      have H14 := Lib.hid h14
      clear h12 h14
      go_wp2_with fail
      refine (laid_any _ l0 _ _ w2 hP2 (by omega) (by have := fewP_le ps0; omega) (by have := fewP_flat ps0; omega)).mono ?_
      rintro e w3 ⟨vA, rfl, hownA, hb3⟩
      rw [← HM0.out] at hownA
      have hBA := BSl.of_owns hownA
      have hnA := owns_notTwo (b := b7) hownA (by omega)
      obtain ⟨aa, ac, rfl⟩ := owns_form hownA
      have h73 : w3.heap[b7]? = some (.cells #[v0, v1] 55 (0, 0)) := (hb3.block _ (by omega)).trans ((hW.block _ (by omega)).trans H7.out)
      have c73 := cell_of_row w3 b7 0 _ 55 (0, 0) h73
      simp only [List.getElem?_toArray, List.getElem?_cons_zero, List.getElem?_cons_succ] at c73
      have f73 : w3.frozen? ⟨b7, 0, none⟩ = false := row_free h73 0
      have H73 := Lib.hid h73
      clear h73 hP2
      have hT3 : Two b7 wr w3 := (Two.of_below hW).trans (Two.of_below hb3)
      have hb03 : Below wr.heap.size wr w3 := hW.trans (hb3.mono hW.size)
      go_wp2_with fail
      obtain ⟨w4, hw4⟩ : ∃ w4, w4 = w3.setCell ⟨b7, 0, none⟩ (.slice aa M0.length ac) := ⟨_, rfl⟩
      have hT4 : Two b7 w3 w4 := by rw [hw4]; exact (Two.of_below (Below.refl _ _)).set _
      have hz4 : w4.heap.size = w3.heap.size := by rw [hw4]; simp [World.setCell]
      have HC4 : Hid (w4.heap[b7]? = some (.cells #[.slice aa M0.length ac, v1] 55 (0, 0))) := by
        show _ = _
        rw [hw4]; unfold World.setCell; simp [Array.getElem?_modify, H73.out]
      have he4 : w4.heap[b7 + 1]? = w3.heap[b7 + 1]? := by rw [hw4]; exact heap_setCell_other _ _ _ _ (by simp)
      have hth4 : w4.there (b7 + 1) 0 64 := by
        have h3 := there_below (there_below hth hW (by omega)) hb3 (by omega)
        intro j hj
        have e := he4
        have := h3 j hj
        unfold World.cell? World.frozen? at this ⊢
        simp only [e]; exact this
      rw [← hw4]
      clear hw4 c73 f73
      have hz3 := hb3.size
      have hbr4 : Below b7 w7 w4 := below_two (hbr2.trans (hb3.mono (by omega))) hT4 (by omega)
      have hP4 := psl_few (owns_two (owns_below H14.out hb3 (Nat.le_refl _)) hT4 (by omega)) HP0.out (hbr4.mono (by omega))
      refine (derive_any _ _ key l0 _ _ w4 (HBK.out.below hbr4 (by omega)) hP4 hk0 hk1 (by omega) (by have := fewP_le ps0; omega) (by have := fewP_flat ps0; omega) (HK.out.below (hbr4.mono (by omega)) h37) (HS.out.below (hbr4.mono (by omega)) h37) (by omega)).mono ?_
      rintro e w5 ⟨rfl, hb5⟩
      rw [← HM0.out, ← HY0.out]
      go_wp2_with (refine wpList_store_new43 (o := { dst := none, op := .store 43 (.tmp 13) (.tmp 55), type := _, pos := _, after := _, guard := none }) rfl (.tmp 13) (.tmp 55) rfl Y0 HYL0.out rfl rfl ?_)
      intro w6 hb6 HG13 HZ6
      have hb46 : Below w4.heap.size w4 w6 := hb5.trans (hb6.mono hb5.size)
      have hz6 := HZ6.out
      have hz5 := hb5.size
      have hg13 : w5.heap.size < w6.heap.size := by omega
      have hb75 : b7 < w6.heap.size := by omega
      have hbw5 : Below b7 w7 w6 := hbr4.trans (hb46.mono (by omega))
      have HC6 : Hid (w6.heap[b7]? = some (.cells #[.slice aa M0.length ac, v1] 55 (0, 0))) := (hb46.block _ (by omega)).trans HC4.out
      have HC7 : Hid (w6.cell? ⟨b7, 0, none⟩ = some (.slice aa M0.length ac)) := by
        have := cell_of_row w6 b7 0 _ 55 (0, 0) HC6.out
        exact this
      have HBM : Hid (BSl w6 (.slice aa M0.length ac) M0) := ((hBA.two hT4 hnA).below hb46 (Nat.le_refl _))
      have HZ6' := HZ6
      clear hz6 HZ6
      go_upto_region 11 with (fail)
      refine region_ext (by kernel_rfl) [some 57, some 58, some 59, some 60, some 61, some 62, some 63, some 64, some 65, some 66, some 67, some 68] (by kernel_rfl) [] [[], [0], [1], [2], [2], [2], [2, 5], [2, 6], [2, 7], [2, 4, 8], [2, 3, 9], [2, 10]] [] [] [Is (.int .i64 0), Is (.bool false), Is (.bool false), Is (.agg (c8 Y0)), Is (.slice ka key.length kc), Is (.int .i64 0), Is (.pointer (some ⟨b7, 0, none⟩)), Is (.slice aa M0.length ac), (false, fun v W => ∃ us, PSl W v us [M0]), Is (.agg (c8 Y0)), Is (.bool false), Is (.bool false)] (by kernel_rfl) (by kernel_rfl) (by rfl) ⟨Is.keeps _, Is.keeps _, Is.keeps _, Is.keeps _, Is.keeps _, Is.keeps _, Is.keeps _, Is.keeps _, (fun _ _ _ he h => by obtain ⟨us, h⟩ := h; exact ⟨us, h.below he (Nat.le_refl _)⟩), Is.keeps _, Is.keeps _, Is.keeps _, trivial⟩ ⟨?_, ?_, ?_, ?_, ?_, ?_, ?_, ?_, ?_, ?_, ?_, ?_, trivial⟩ ?_
      · intro W hW
        refine forV_nil ?_
        exact opv_run (.int .i64 0) (by kernel_rfl) (by kernel_rfl) (does_pure rfl)
      · intro W hW v0 h0
        obtain rfl : v0 = .int .i64 0 := h0 rfl
        refine forV_nil ?_
        exact opv_run (.bool false) (by kernel_rfl) (by kernel_rfl) (does_pure rfl)
      · intro W hW v1 h1
        obtain rfl : v1 = .bool false := h1 rfl
        refine forV_nil ?_
        exact opv_run (.bool false) (by kernel_rfl) (by kernel_rfl) (does_pure rfl)
      · intro W hW v2 h2
        obtain rfl : v2 = .bool false := h2 rfl
        refine forV_nil ?_
        exact opv_run _ (by kernel_rfl) (run_loadN rfl (by kernel_rfl) Tryd.underlying43 rfl (HI43' HYL0.out) ((hW.block _ hg13).trans HG13.out)) (does_pure rfl)
      · intro W hW v2 h2
        obtain rfl : v2 = .bool false := h2 rfl
        refine forV_nil ?_
        exact opv_run (.slice ka key.length kc) (by kernel_rfl) (by kernel_rfl) (does_pure rfl)
      · intro W hW v2 h2
        obtain rfl : v2 = .bool false := h2 rfl
        refine forV_nil ?_
        exact opv_run (.int .i64 0) (by kernel_rfl) (by kernel_rfl) (does_pure rfl)
      · intro W hW v2 h2 v5 h5
        obtain rfl : v2 = .bool false := h2 rfl
        obtain rfl : v5 = .int .i64 0 := h5 rfl
        refine forV_nil ?_
        exact opv_run (.pointer (some ⟨b7, 0, none⟩)) (by kernel_rfl) (by kernel_rfl) (does_pure rfl)
      · intro W hW v2 h2 v6 h6
        obtain rfl : v2 = .bool false := h2 rfl
        obtain rfl : v6 = .pointer (some ⟨b7, 0, none⟩) := h6 rfl
        refine forV_nil ?_
        exact opv_run _ (by kernel_rfl) (run_load1 rfl (by kernel_rfl) Tryd.underlying22 rfl ((hW.cell (p := ⟨b7, 0, none⟩) hb75).trans HC7.out)) (does_pure rfl)
      · intro W hW v2 h2 v7 h7
        obtain rfl : v2 = .bool false := h2 rfl
        obtain rfl : v7 = .slice aa M0.length ac := h7 rfl
        refine forV_nil ?_
        exact opv_run (.slice (some ⟨W.heap.size, 0, none⟩) 1 1) (W' := W.alloc (.cells #[.slice aa M0.length ac] 22)) (by kernel_rfl) (by kernel_rfl) ⟨does_ext hW (alloc_below W), _, one_psl (HBM.out.below hW (Nat.le_refl _))⟩
      · intro W hW v2 h2 v4 h4 v8 h8
        obtain rfl : v2 = .bool false := h2 rfl
        obtain rfl : v4 = .slice ka key.length kc := h4 rfl
        replace h8 : ((false, fun v W => ∃ us, PSl W v us [M0])).2 v8 W := h8 rfl
        refine forV_nil ?_
        obtain ⟨us, hP⟩ := h8
        have hbW := (hbw5.trans (hW.mono (by omega))).mono hb7b
        refine opv_call 14 #[.slice ka key.length kc, v8] (by kernel_rfl) (by kernel_rfl) ((hmac_any _ _ key us _ W (HBK.out.below hbW (Nat.le_refl _)) (by omega) hP (by simp) (by simp; omega) (HK.out.below hbW h37) (HS.out.below hbW h37) (by have := hbW.size; omega)).mono ?_)
        rintro e w6 ⟨rfl, hb⟩
        rw [show [M0].flatten = M0 by simp, ← HY0.out]
        exact ⟨_, rfl, does_ext hW hb, rfl⟩
      · intro W hW v2 h2 v3 h3 v9 h9
        obtain rfl : v2 = .bool false := h2 rfl
        obtain rfl : v3 = .agg (c8 Y0) := h3 rfl
        obtain rfl : v9 = .agg (c8 Y0) := h9 rfl
        refine forV_nil ?_
        exact opv_run _ (by kernel_rfl) (run_neq43 rfl (by kernel_rfl) (by kernel_rfl) HYL0.out HYL0.out) (does_pure (by show Value.bool (!(Y0 == Y0)) = _; simp))
      · intro W hW v2 h2 v10 h10
        obtain rfl : v2 = .bool false := h2 rfl
        obtain rfl : v10 = .bool false := h10 rfl
        refine forV_nil ?_
        exact opv_run (.bool false) (by kernel_rfl) (by kernel_rfl) (does_pure rfl)
      intro W hW v0 h0 v1 h1 v2 h2 v3 h3 v4 h4 v5 h5 v6 h6 v7 h7 v8 h8 v9 h9 v10 h10 v11 h11
      replace h0 : v0 = .int .i64 0 := h0 rfl; subst h0
      replace h1 : v1 = .bool false := h1 rfl; subst h1
      replace h2 : v2 = .bool false := h2 rfl; subst h2
      replace h3 : v3 = .agg (c8 Y0) := h3 rfl; subst h3
      replace h4 : v4 = .slice ka key.length kc := h4 rfl; subst h4
      replace h5 : v5 = .int .i64 0 := h5 rfl; subst h5
      replace h6 : v6 = .pointer (some ⟨b7, 0, none⟩) := h6 rfl; subst h6
      replace h7 : v7 = .slice aa M0.length ac := h7 rfl; subst h7
      replace h8 : ((false, fun v W => ∃ us, PSl W v us [M0])).2 v8 W := h8 rfl
      replace h9 : v9 = .agg (c8 Y0) := h9 rfl; subst h9
      replace h10 : v10 = .bool false := h10 rfl; subst h10
      replace h11 : v11 = .bool false := h11 rfl; subst h11
      refine forE_end ?_
      simp only [Act.put, List.getD_cons_zero, List.getD_cons_succ, List.setIfInBounds_toArray, List.set_cons_zero, List.set_cons_succ, Nat.zero_add, Nat.reduceAdd]
      obtain ⟨w8, rfl⟩ : ∃ w8 : World, w8 = W := ⟨_, rfl⟩
      have hz8 := hW.size
      have HC8 : Hid (w8.heap[b7]? = some (.cells #[.slice aa M0.length ac, v1] 55 (0, 0))) := (hW.block _ (by omega)).trans HC6.out
      have HG8 : Hid (w8.heap[w5.heap.size]? = some (.cells (c8 Y0) 43 (0, 0))) := (hW.block _ hg13).trans HG13.out
      have hth8 : w8.there (b7 + 1) 0 (c8 Y0).size := by
        have h6 := there_below (there_below hth4 hb46 (by omega)) hW (by omega)
        intro j hj
        rw [c8_size, HYL0.out] at hj
        have := h6 (0 + j) (by omega)
        rwa [Nat.zero_add] at this
      have HI8 : Hid ((Tryd.prog.info? 43).map (·.size) = some (c8 Y0).size) := HI43' HYL0.out
      have HTH := Lib.hid hth8
      clear hth8
      have hb48 : Below w4.heap.size w4 w8 := hb46.trans (hW.mono hb46.size)
      have hWT := Lib.hid hW
      clear h8
      go_upto_region 13 with (fail)
      refine wp_region_lit ?_
      refine wpl_run (W' := w8) (.int .i64 0) rfl (by kernel_rfl) ?_
      refine wpl_run (W' := w8) (.agg (c8 Y0)) rfl (run_loadN rfl (by kernel_rfl) Tryd.underlying43 rfl HI8.out HG8.out) ?_
      refine wpl_run (W' := w8) (.pointer (some ⟨b7 + 1, 0, none⟩)) rfl (by kernel_rfl) ?_
      refine wpList_store_mid rfl 43 (.tmp 71) (.tmp 70) rfl (b7 + 1) 0 (c8 Y0) (by kernel_rfl) (by kernel_rfl) HTH.out HI8.out (c8_one _) ?_
      refine wpList_nil ?_
      simp only [Act.put, List.setIfInBounds_toArray, List.set_cons_zero, List.set_cons_succ]
      go_upto_region 14 with (fail)
      obtain ⟨w9, hw9⟩ : ∃ w9, w9 = w8.setCells (b7 + 1) 0 (c8 Y0).toList := ⟨_, rfl⟩
      have hT9 : Two b7 w8 w9 := by rw [hw9]; exact Two.sets _ _ _ (Two.of_below (Below.refl _ _))
      have hz9 : w9.heap.size = w8.heap.size := by rw [hw9]; exact sets_size _ _ _
      have h79 : w9.heap[b7]? = some (.cells #[.slice aa M0.length ac, v1] 55 (0, 0)) := by rw [hw9, sets_other (by omega)]; exact HC8.out
      have hth9 : w9.there (b7 + 1) 0 64 := by rw [hw9]; exact World.there_setCells (there_below (there_below hth4 hb46 (by omega)) hWT.out (by omega)) _ _ _
      have hR9 : w9.rangeAt (b7 + 1) 0 (c8l Y0) := by
        have hq : (c8 Y0).toList = c8l Y0 := by simp [c8]
        rw [hw9, hq]; exact World.rangeAt_setCells_same _ _ _ _ (by have := HTH.out; rwa [c8_size, ← c8l_length] at this)
      rw [← hw9]
      clear hw9
      have c79 := cell_of_row w9 b7 0 _ 55 (0, 0) h79
      simp only [List.getElem?_toArray, List.getElem?_cons_zero, List.getElem?_cons_succ] at c79
      have H79 := Lib.hid h79
      clear h79
      have hT29 : Two b7 w3 w9 := hT4.trans ((Two.of_below hb48).trans hT9)
      have hBM9 := hBA.two hT29 hnA
      have hbr9 : Below b7 w7 w9 := below_two (hbr4.trans (hb48.mono (by omega))) hT9 (by omega)
      have hP9 := psl_few (owns_two (owns_below H14.out hb3 (Nat.le_refl _)) hT29 (by omega)) HP0.out (hbr9.mono (by omega))
      go_wp2_with fail
      refine (rnew_any _ M0 w9 hBM9 (by omega)).mono ?_
      rintro e w10 ⟨r, rfl, hr10, hrd10, hb10⟩
      have hbP10 := hP9.below hb10 (Nat.le_refl _)
      rw [HM0.out, layB_eq, List.append_assoc] at hrd10
      have htl : (tailB (fewP ps0)).length ≤ 1000 := by
        have h1 := congrArg List.length (layB_eq l0 (fewP ps0))
        rw [← HM0.out] at h1
        simp only [List.length_append] at h1
        omega
      have hz10 := hb10.size
      have h9s : b7 + 1 < w9.heap.size := by omega
      go_wp2_with fail
      refine (rtext_any r l0 (tailB (fewP ps0)) w10 hrd10 (by omega) (by omega)).mono ?_
      rintro e w11 ⟨rfl, hrd11, hbut11⟩
      have hrl11 : r < w11.heap.size := by
        obtain ⟨_, hx, _⟩ := hrd11
        exact (Array.getElem?_eq_some_iff.1 hx).1
      have hb911 : Below w9.heap.size w9 w11 := Below.of_but hb10 hr10 hbut11
      have HP9 := Lib.hid hP9
      have HF9 := Lib.hid (psl_form hP9)
      clear hbP10 hP9 hrd10
      go_wp2
      go_loopw [82] (InL (fewP ps0) r w11) (fun i _ => (fewP ps0).length - (intOf i).toNat)
      case atStart => exact ⟨0, by omega, rfl, hrd11, But.of_below (Below.refl _ _)⟩
      case round =>
        obtain ⟨wo, rfl⟩ : ∃ wo : World, wo = w11 := ⟨_, rfl⟩
        obtain ⟨j, hj, rfl, hrd, hbut⟩ := hrel
        have hb9x : Below w9.heap.size w9 wr := Below.of_but hb911 hr10 hbut
        have hfl := fewP_length ps0
        rw [← HMM.out] at hfl
        have hfm1 : (fewP ps0).length ≤ m := by omega
        have hj6 : j ≤ 6 := by have := fewP_le ps0; omega
        have hfm2 : m ≤ (fewP ps0).length := by omega
        clear hfl
        by_cases hjl : j < (fewP ps0).length
        · have d1 : decide ((j : Int) < (m : Int)) = true := decide_eq_true (by omega)
          obtain ⟨pa', pc', epv, hF⟩ := HF9.out
          obtain ⟨b, off, hpa, hbl, hcell⟩ := hF j hjl
          cases epv
          subst hpa
          have hBj := HP9.out.each j hjl
          have hcj := (hb9x.cell (p := ⟨b, off + j, none⟩) hbl).trans hcell
          have hpl : (atP (fewP ps0) j).length ≤ 80 := fewP_mem ps0 _ (by unfold atP; rw [List.getD_eq_getElem?_getD, List.getElem?_eq_getElem hjl]; exact List.getElem_mem hjl)
          rw [tail_drop _ _ hjl] at hrd
          obtain ⟨p, hp⟩ : ∃ p, p = atP (fewP ps0) j := ⟨_, rfl⟩
          obtain ⟨T, hT⟩ : ∃ T, T = tailB ((fewP ps0).drop (j + 1)) := ⟨_, rfl⟩
          rw [← hp] at hBj hpl hrd
          rw [← hT] at hrd
          have HT' := Lib.hid hT
          have hTl : T.length ≤ 1000 := by
            have h1 := tail_le (fewP ps0) (j + 1)
            rw [← hT] at h1
            omega
          clear hp hT
          obtain ⟨a1, c1, hv⟩ := hBj.len
          rw [hv] at hBj hcj
          clear hv hF hcell
          have HJ1 : Hid (j + 1 ≤ (fewP ps0).length) := by show _ ≤ _; omega
          have HJ2 : Hid ((fewP ps0).length - (j + 1) < (fewP ps0).length - j) := by show _ < _; omega
          have HN4 := Lib.hid (num_be4 p.length (p ++ T) (by omega))
          have HD4 := Lib.hid (drop_be4 p.length (p ++ T))
          have HL4 : Hid ((be4 p.length ++ (p ++ T)).length = 4 + p.length + T.length) := by show _ = _; rw [List.length_append, be4_length, List.length_append]; omega
          go_wp2_with fail
          refine (rfour_any r _ wr hrd (by rw [HL4.out]; omega) (by rw [HL4.out]; omega)).mono ?_
          rintro e w12 ⟨rfl, hrd12, hbut12⟩
          rw [HN4.out]
          rw [HD4.out] at hrd12
          go_wp2_with fail
          refine (rtake_any r p.length (p ++ T) w12 hrd12 (by rw [List.length_append]; omega) (by rw [List.length_append]; omega)).mono ?_
          rintro e w13 ⟨v13, rfl, hown13, hrd13, hbut13⟩
          rw [List.take_left] at hown13
          rw [List.drop_left] at hrd13
          have hB13 := BSl.of_owns hown13
          have hb9y : Below w9.heap.size w9 w13 := Below.of_but (Below.of_but hb9x hr10 hbut12) hr10 hbut13
          obtain ⟨a13, c13, rfl⟩ := owns_form hown13
          go_wp2_with fail
          refine (equal_any _ _ p p w13 hB13 (hBj.below hb9y (Nat.le_refl _))).mono ?_
          rintro e w14 ⟨rfl, rfl⟩
          rw [beq_self_eq_true]
          go_wp2_with fail
          refine (rerr_any r T w13 hrd13).mono ?_
          rintro e w14 ⟨rfl, rfl⟩
          go_wp2
          go_roundw
          case rel => exact ⟨j + 1, HJ1.out, by go_num, by rw [← HT'.out]; exact hrd13, hbut.trans (hbut12.trans hbut13)⟩
          case measure => have := HJ2.out; simp [intOf]; omega
        · have d1 : decide ((j : Int) < (m : Int)) = false := decide_eq_false (by omega)
          rw [List.drop_of_length_le (by omega), tailB_nil] at hrd
          have hbrx : Below b7 w7 wr := hbr9.trans (hb9x.mono (by omega))
          have hzx := hb9x.size
          go_wp2_with fail
          refine (rleft_any r [] wr hrd).mono ?_
          rintro e w14 ⟨rfl, rfl⟩
          go_wp2
          go_roundw
          case rel => exact ⟨1, by omega, rfl, hbrx, by omega, there_below hth9 hb9x h9s, _, _, (hb9x.block _ (by omega)).trans H79.out, fun _ => ⟨hBM9.below hb9x (Nat.le_refl _), hnA, range_o hR9 hb9x h9s⟩, fun h => by omega⟩
          case measure => simp [intOf]
    · -- round 1
      obtain ⟨hbr, hb8, hth, v0, v1, h7, hv0, hv1⟩ := hI
      have hV0 := Lib.hid hv0
      clear hv0 hv1
      have H7 := Lib.hid h7
      clear h7
      go_upto_region 8 with (fail)
      refine region_ext (by kernel_rfl) [some 32, some 33, some 34, some 35, some 36, some 37, some 38, some 39, some 40, some 41, some 42, some 43, some 44, some 11, some 12] (by kernel_rfl) [] [[], [0], [1], [], [3], [4], [5], [6], [2, 7], [], [9], [10], [11], [8], [12]] [] [] [Is (.int .i64 1), Is (.pointer (some ⟨x4, 1, none⟩)), Is (.string ⟨s1.toArray⟩), Is (.int .i64 1), Is (.pointer (some ⟨x4, 1, none⟩)), Is (.string ⟨s1.toArray⟩), Is (.int .i64 ((s1.length : Nat) : Int)), Is (.int .i64 ((l1.length : Nat) : Int)), Is (.string ⟨l1.toArray⟩), Is (.int .i64 1), Is (.pointer (some ⟨x5, 1, none⟩)), Is (.slice pa1 ps1.length pc1), (false, fun v W => W.ownsRow wr.heap.size 22 1 v (min ps1.length 6) (fewVs vs1 (min ps1.length 6))), Is (.string ⟨l1.toArray⟩), (false, fun v W => W.ownsRow wr.heap.size 22 1 v (min ps1.length 6) (fewVs vs1 (min ps1.length 6)))] (by kernel_rfl) (by kernel_rfl) (by rfl) ⟨Is.keeps _, Is.keeps _, Is.keeps _, Is.keeps _, Is.keeps _, Is.keeps _, Is.keeps _, Is.keeps _, Is.keeps _, Is.keeps _, Is.keeps _, Is.keeps _, (fun _ _ _ he h => owns_below h he (Nat.le_refl _)), Is.keeps _, (fun _ _ _ he h => owns_below h he (Nat.le_refl _)), trivial⟩ ⟨?_, ?_, ?_, ?_, ?_, ?_, ?_, ?_, ?_, ?_, ?_, ?_, ?_, ?_, ?_, trivial⟩ ?_
      · intro W hW
        refine forV_nil ?_
        exact opv_run (.int .i64 1) (by kernel_rfl) (by kernel_rfl) (does_pure rfl)
      · intro W hW v0 h0
        obtain rfl : v0 = .int .i64 1 := h0 rfl
        refine forV_nil ?_
        exact opv_run (.pointer (some ⟨x4, 1, none⟩)) (by kernel_rfl) (by kernel_rfl) (does_pure rfl)
      · intro W hW v1 h1
        obtain rfl : v1 = .pointer (some ⟨x4, 1, none⟩) := h1 rfl
        refine forV_nil ?_
        exact opv_run _ (by kernel_rfl) (run_load1 rfl (by kernel_rfl) Tryd.underlying9 rfl (((hbr.trans (hW.mono (by omega))).cell (p := ⟨x4, 1, none⟩) (by show x4 < _; omega)).trans HX41.out)) (does_pure rfl)
      · intro W hW
        refine forV_nil ?_
        exact opv_run (.int .i64 1) (by kernel_rfl) (by kernel_rfl) (does_pure rfl)
      · intro W hW v3 h3
        obtain rfl : v3 = .int .i64 1 := h3 rfl
        refine forV_nil ?_
        exact opv_run (.pointer (some ⟨x4, 1, none⟩)) (by kernel_rfl) (by kernel_rfl) (does_pure rfl)
      · intro W hW v4 h4
        obtain rfl : v4 = .pointer (some ⟨x4, 1, none⟩) := h4 rfl
        refine forV_nil ?_
        exact opv_run _ (by kernel_rfl) (run_load1 rfl (by kernel_rfl) Tryd.underlying9 rfl (((hbr.trans (hW.mono (by omega))).cell (p := ⟨x4, 1, none⟩) (by show x4 < _; omega)).trans HX41.out)) (does_pure rfl)
      · intro W hW v5 h5
        obtain rfl : v5 = .string ⟨s1.toArray⟩ := h5 rfl
        refine forV_nil ?_
        exact opv_run (.int .i64 ((s1.length : Nat) : Int)) (by kernel_rfl) (by kernel_rfl) (does_pure rfl)
      · intro W hW v6 h6
        obtain rfl : v6 = .int .i64 ((s1.length : Nat) : Int) := h6 rfl
        refine forV_nil ?_
        refine opv_run (.int .i64 (if (30 : Int) < ((s1.length : Nat) : Int) then 30 else ((s1.length : Nat) : Int))) (by kernel_rfl) (by kernel_rfl) (does_pure ?_)
        rw [HLM1.out]; rfl
      · intro W hW v2 h2 v7 h7
        obtain rfl : v2 = .string ⟨s1.toArray⟩ := h2 rfl
        obtain rfl : v7 = .int .i64 ((l1.length : Nat) : Int) := h7 rfl
        refine forV_nil ?_
        exact opv_run _ (by kernel_rfl) (run_cutStr (k := .i64) rfl (by kernel_rfl) (by kernel_rfl) Tryd.underlying9 HL1.out) (does_pure rfl)
      · intro W hW
        refine forV_nil ?_
        exact opv_run (.int .i64 1) (by kernel_rfl) (by kernel_rfl) (does_pure rfl)
      · intro W hW v9 h9
        obtain rfl : v9 = .int .i64 1 := h9 rfl
        refine forV_nil ?_
        exact opv_run (.pointer (some ⟨x5, 1, none⟩)) (by kernel_rfl) (by kernel_rfl) (does_pure rfl)
      · intro W hW v10 h10
        obtain rfl : v10 = .pointer (some ⟨x5, 1, none⟩) := h10 rfl
        refine forV_nil ?_
        exact opv_run _ (by kernel_rfl) (run_load1 rfl (by kernel_rfl) Tryd.underlying31 rfl (((hbr.trans (hW.mono (by omega))).cell (p := ⟨x5, 1, none⟩) (by show x5 < _; omega)).trans HX51.out)) (does_pure rfl)
      · intro W hW v11 h11
        obtain rfl : v11 = .slice pa1 ps1.length pc1 := h11 rfl
        refine forV_nil ?_
        refine opv_call 22 #[.slice pa1 ps1.length pc1] (by kernel_rfl) (by kernel_rfl) ((few_any _ vs1 ps1 W (HP1.out.below (hbr.trans (hW.mono (by omega))) (by omega)) hn1).mono ?_)
        rintro e w2 ⟨u, rfl, hm, hb⟩
        exact ⟨u, rfl, does_ext hW hb, owns_up22 hm hW.size⟩
      · intro W hW v8 h8
        obtain rfl : v8 = .string ⟨l1.toArray⟩ := h8 rfl
        refine forV_nil ?_
        exact opv_run (.string ⟨l1.toArray⟩) (by kernel_rfl) (by kernel_rfl) (does_pure rfl)
      · intro W hW v12 h12
        replace h12 : ((false, fun v W => W.ownsRow wr.heap.size 22 1 v (min ps1.length 6) (fewVs vs1 (min ps1.length 6)))).2 v12 W := h12 rfl
        refine forV_nil ?_
        exact opv_run v12 (by kernel_rfl) (by kernel_rfl) (does_pure h12)
      intro W hW v0 h0 v1 h1 v2 h2 v3 h3 v4 h4 v5 h5 v6 h6 v7 h7 v8 h8 v9 h9 v10 h10 v11 h11 v12 h12 v13 h13 v14 h14
      replace h0 : v0 = .int .i64 1 := h0 rfl; subst h0
      replace h1 : v1 = .pointer (some ⟨x4, 1, none⟩) := h1 rfl; subst h1
      replace h2 : v2 = .string ⟨s1.toArray⟩ := h2 rfl; subst h2
      replace h3 : v3 = .int .i64 1 := h3 rfl; subst h3
      replace h4 : v4 = .pointer (some ⟨x4, 1, none⟩) := h4 rfl; subst h4
      replace h5 : v5 = .string ⟨s1.toArray⟩ := h5 rfl; subst h5
      replace h6 : v6 = .int .i64 ((s1.length : Nat) : Int) := h6 rfl; subst h6
      replace h7 : v7 = .int .i64 ((l1.length : Nat) : Int) := h7 rfl; subst h7
      replace h8 : v8 = .string ⟨l1.toArray⟩ := h8 rfl; subst h8
      replace h9 : v9 = .int .i64 1 := h9 rfl; subst h9
      replace h10 : v10 = .pointer (some ⟨x5, 1, none⟩) := h10 rfl; subst h10
      replace h11 : v11 = .slice pa1 ps1.length pc1 := h11 rfl; subst h11
      replace h12 : ((false, fun v W => W.ownsRow wr.heap.size 22 1 v (min ps1.length 6) (fewVs vs1 (min ps1.length 6)))).2 v12 W := h12 rfl
      replace h13 : v13 = .string ⟨l1.toArray⟩ := h13 rfl; subst h13
      replace h14 : ((false, fun v W => W.ownsRow wr.heap.size 22 1 v (min ps1.length 6) (fewVs vs1 (min ps1.length 6)))).2 v14 W := h14 rfl
      refine forE_end ?_
      simp only [Act.put, List.getD_cons_zero, List.getD_cons_succ, List.setIfInBounds_toArray, List.set_cons_zero, List.set_cons_succ, Nat.zero_add, Nat.reduceAdd]
      obtain ⟨w2, rfl⟩ : ∃ w2 : World, w2 = W := ⟨_, rfl⟩
      have hbr2 : Below b7 w7 w2 := hbr.trans (hW.mono (by omega))
      have hz2 := hW.size
      have hP2 := psl_few h14 HP1.out (hbr2.mono (by omega))
      obtain ⟨pa, pc, hpv, _⟩ := psl_form hP2
      rw [fewP_length] at hpv
      obtain ⟨m, hm⟩ : ∃ m, m = min ps1.length 6 := ⟨_, rfl⟩
      have HMM := Lib.hid hm
      rw [← hm] at hpv
      clear hm
      subst hpv
      have H14 := Lib.hid h14
      clear h12 h14
      go_wp2_with fail
      refine (laid_any _ l1 _ _ w2 hP2 (by omega) (by have := fewP_le ps1; omega) (by have := fewP_flat ps1; omega)).mono ?_
      rintro e w3 ⟨vA, rfl, hownA, hb3⟩
      rw [← HM1.out] at hownA
      have hBA := BSl.of_owns hownA
      have hnA := owns_notTwo (b := b7) hownA (by omega)
      obtain ⟨aa, ac, rfl⟩ := owns_form hownA
      have h73 : w3.heap[b7]? = some (.cells #[v0, v1] 55 (0, 0)) := (hb3.block _ (by omega)).trans ((hW.block _ (by omega)).trans H7.out)
      have c73 := cell_of_row w3 b7 1 _ 55 (0, 0) h73
      simp only [List.getElem?_toArray, List.getElem?_cons_zero, List.getElem?_cons_succ] at c73
      have f73 : w3.frozen? ⟨b7, 1, none⟩ = false := row_free h73 1
      have H73 := Lib.hid h73
      clear h73 hP2
      have hT3 : Two b7 wr w3 := (Two.of_below hW).trans (Two.of_below hb3)
      have hb03 : Below wr.heap.size wr w3 := hW.trans (hb3.mono hW.size)
      go_wp2_with fail
      obtain ⟨w4, hw4⟩ : ∃ w4, w4 = w3.setCell ⟨b7, 1, none⟩ (.slice aa M1.length ac) := ⟨_, rfl⟩
      have hT4 : Two b7 w3 w4 := by rw [hw4]; exact (Two.of_below (Below.refl _ _)).set _
      have hz4 : w4.heap.size = w3.heap.size := by rw [hw4]; simp [World.setCell]
      have HC4 : Hid (w4.heap[b7]? = some (.cells #[v0, .slice aa M1.length ac] 55 (0, 0))) := by
        show _ = _
        rw [hw4]; unfold World.setCell; simp [Array.getElem?_modify, H73.out]
      have he4 : w4.heap[b7 + 1]? = w3.heap[b7 + 1]? := by rw [hw4]; exact heap_setCell_other _ _ _ _ (by simp)
      have hth4 : w4.there (b7 + 1) 0 64 := by
        have h3 := there_below (there_below hth hW (by omega)) hb3 (by omega)
        intro j hj
        have e := he4
        have := h3 j hj
        unfold World.cell? World.frozen? at this ⊢
        simp only [e]; exact this
      rw [← hw4]
      clear hw4 c73 f73
      have hz3 := hb3.size
      have hbr4 : Below b7 w7 w4 := below_two (hbr2.trans (hb3.mono (by omega))) hT4 (by omega)
      have hP4 := psl_few (owns_two (owns_below H14.out hb3 (Nat.le_refl _)) hT4 (by omega)) HP1.out (hbr4.mono (by omega))
      refine (derive_any _ _ key l1 _ _ w4 (HBK.out.below hbr4 (by omega)) hP4 hk0 hk1 (by omega) (by have := fewP_le ps1; omega) (by have := fewP_flat ps1; omega) (HK.out.below (hbr4.mono (by omega)) h37) (HS.out.below (hbr4.mono (by omega)) h37) (by omega)).mono ?_
      rintro e w5 ⟨rfl, hb5⟩
      rw [← HM1.out, ← HY1.out]
      go_wp2_with (refine wpList_store_new43 (o := { dst := none, op := .store 43 (.tmp 13) (.tmp 55), type := _, pos := _, after := _, guard := none }) rfl (.tmp 13) (.tmp 55) rfl Y1 HYL1.out rfl rfl ?_)
      intro w6 hb6 HG13 HZ6
      have hb46 : Below w4.heap.size w4 w6 := hb5.trans (hb6.mono hb5.size)
      have hz6 := HZ6.out
      have hz5 := hb5.size
      have hg13 : w5.heap.size < w6.heap.size := by omega
      have hb75 : b7 < w6.heap.size := by omega
      have hbw5 : Below b7 w7 w6 := hbr4.trans (hb46.mono (by omega))
      have HC6 : Hid (w6.heap[b7]? = some (.cells #[v0, .slice aa M1.length ac] 55 (0, 0))) := (hb46.block _ (by omega)).trans HC4.out
      have HC7 : Hid (w6.cell? ⟨b7, 1, none⟩ = some (.slice aa M1.length ac)) := by
        have := cell_of_row w6 b7 1 _ 55 (0, 0) HC6.out
        exact this
      have HBM : Hid (BSl w6 (.slice aa M1.length ac) M1) := ((hBA.two hT4 hnA).below hb46 (Nat.le_refl _))
      have HZ6' := HZ6
      clear hz6 HZ6
      go_upto_region 11 with (fail)
      refine region_ext (by kernel_rfl) [some 57, some 58, some 59, some 60, some 61, some 62, some 63, some 64, some 65, some 66, some 67, some 68] (by kernel_rfl) [] [[], [0], [1], [2], [2], [2], [2, 5], [2, 6], [2, 7], [2, 4, 8], [2, 3, 9], [2, 10]] [] [] [Is (.int .i64 0), Is (.bool false), Is (.bool false), Is (.agg (c8 Y1)), Is (.slice ka key.length kc), Is (.int .i64 1), Is (.pointer (some ⟨b7, 1, none⟩)), Is (.slice aa M1.length ac), (false, fun v W => ∃ us, PSl W v us [M1]), Is (.agg (c8 Y1)), Is (.bool false), Is (.bool false)] (by kernel_rfl) (by kernel_rfl) (by rfl) ⟨Is.keeps _, Is.keeps _, Is.keeps _, Is.keeps _, Is.keeps _, Is.keeps _, Is.keeps _, Is.keeps _, (fun _ _ _ he h => by obtain ⟨us, h⟩ := h; exact ⟨us, h.below he (Nat.le_refl _)⟩), Is.keeps _, Is.keeps _, Is.keeps _, trivial⟩ ⟨?_, ?_, ?_, ?_, ?_, ?_, ?_, ?_, ?_, ?_, ?_, ?_, trivial⟩ ?_
      · intro W hW
        refine forV_nil ?_
        exact opv_run (.int .i64 0) (by kernel_rfl) (by kernel_rfl) (does_pure rfl)
      · intro W hW v0 h0
        obtain rfl : v0 = .int .i64 0 := h0 rfl
        refine forV_nil ?_
        exact opv_run (.bool false) (by kernel_rfl) (by kernel_rfl) (does_pure rfl)
      · intro W hW v1 h1
        obtain rfl : v1 = .bool false := h1 rfl
        refine forV_nil ?_
        exact opv_run (.bool false) (by kernel_rfl) (by kernel_rfl) (does_pure rfl)
      · intro W hW v2 h2
        obtain rfl : v2 = .bool false := h2 rfl
        refine forV_nil ?_
        exact opv_run _ (by kernel_rfl) (run_loadN rfl (by kernel_rfl) Tryd.underlying43 rfl (HI43' HYL1.out) ((hW.block _ hg13).trans HG13.out)) (does_pure rfl)
      · intro W hW v2 h2
        obtain rfl : v2 = .bool false := h2 rfl
        refine forV_nil ?_
        exact opv_run (.slice ka key.length kc) (by kernel_rfl) (by kernel_rfl) (does_pure rfl)
      · intro W hW v2 h2
        obtain rfl : v2 = .bool false := h2 rfl
        refine forV_nil ?_
        exact opv_run (.int .i64 1) (by kernel_rfl) (by kernel_rfl) (does_pure rfl)
      · intro W hW v2 h2 v5 h5
        obtain rfl : v2 = .bool false := h2 rfl
        obtain rfl : v5 = .int .i64 1 := h5 rfl
        refine forV_nil ?_
        exact opv_run (.pointer (some ⟨b7, 1, none⟩)) (by kernel_rfl) (by kernel_rfl) (does_pure rfl)
      · intro W hW v2 h2 v6 h6
        obtain rfl : v2 = .bool false := h2 rfl
        obtain rfl : v6 = .pointer (some ⟨b7, 1, none⟩) := h6 rfl
        refine forV_nil ?_
        exact opv_run _ (by kernel_rfl) (run_load1 rfl (by kernel_rfl) Tryd.underlying22 rfl ((hW.cell (p := ⟨b7, 1, none⟩) hb75).trans HC7.out)) (does_pure rfl)
      · intro W hW v2 h2 v7 h7
        obtain rfl : v2 = .bool false := h2 rfl
        obtain rfl : v7 = .slice aa M1.length ac := h7 rfl
        refine forV_nil ?_
        exact opv_run (.slice (some ⟨W.heap.size, 0, none⟩) 1 1) (W' := W.alloc (.cells #[.slice aa M1.length ac] 22)) (by kernel_rfl) (by kernel_rfl) ⟨does_ext hW (alloc_below W), _, one_psl (HBM.out.below hW (Nat.le_refl _))⟩
      · intro W hW v2 h2 v4 h4 v8 h8
        obtain rfl : v2 = .bool false := h2 rfl
        obtain rfl : v4 = .slice ka key.length kc := h4 rfl
        replace h8 : ((false, fun v W => ∃ us, PSl W v us [M1])).2 v8 W := h8 rfl
        refine forV_nil ?_
        obtain ⟨us, hP⟩ := h8
        have hbW := (hbw5.trans (hW.mono (by omega))).mono hb7b
        refine opv_call 14 #[.slice ka key.length kc, v8] (by kernel_rfl) (by kernel_rfl) ((hmac_any _ _ key us _ W (HBK.out.below hbW (Nat.le_refl _)) (by omega) hP (by simp) (by simp; omega) (HK.out.below hbW h37) (HS.out.below hbW h37) (by have := hbW.size; omega)).mono ?_)
        rintro e w6 ⟨rfl, hb⟩
        rw [show [M1].flatten = M1 by simp, ← HY1.out]
        exact ⟨_, rfl, does_ext hW hb, rfl⟩
      · intro W hW v2 h2 v3 h3 v9 h9
        obtain rfl : v2 = .bool false := h2 rfl
        obtain rfl : v3 = .agg (c8 Y1) := h3 rfl
        obtain rfl : v9 = .agg (c8 Y1) := h9 rfl
        refine forV_nil ?_
        exact opv_run _ (by kernel_rfl) (run_neq43 rfl (by kernel_rfl) (by kernel_rfl) HYL1.out HYL1.out) (does_pure (by show Value.bool (!(Y1 == Y1)) = _; simp))
      · intro W hW v2 h2 v10 h10
        obtain rfl : v2 = .bool false := h2 rfl
        obtain rfl : v10 = .bool false := h10 rfl
        refine forV_nil ?_
        exact opv_run (.bool false) (by kernel_rfl) (by kernel_rfl) (does_pure rfl)
      intro W hW v0 h0 v1 h1 v2 h2 v3 h3 v4 h4 v5 h5 v6 h6 v7 h7 v8 h8 v9 h9 v10 h10 v11 h11
      replace h0 : v0 = .int .i64 0 := h0 rfl; subst h0
      replace h1 : v1 = .bool false := h1 rfl; subst h1
      replace h2 : v2 = .bool false := h2 rfl; subst h2
      replace h3 : v3 = .agg (c8 Y1) := h3 rfl; subst h3
      replace h4 : v4 = .slice ka key.length kc := h4 rfl; subst h4
      replace h5 : v5 = .int .i64 1 := h5 rfl; subst h5
      replace h6 : v6 = .pointer (some ⟨b7, 1, none⟩) := h6 rfl; subst h6
      replace h7 : v7 = .slice aa M1.length ac := h7 rfl; subst h7
      replace h8 : ((false, fun v W => ∃ us, PSl W v us [M1])).2 v8 W := h8 rfl
      replace h9 : v9 = .agg (c8 Y1) := h9 rfl; subst h9
      replace h10 : v10 = .bool false := h10 rfl; subst h10
      replace h11 : v11 = .bool false := h11 rfl; subst h11
      refine forE_end ?_
      simp only [Act.put, List.getD_cons_zero, List.getD_cons_succ, List.setIfInBounds_toArray, List.set_cons_zero, List.set_cons_succ, Nat.zero_add, Nat.reduceAdd]
      obtain ⟨w8, rfl⟩ : ∃ w8 : World, w8 = W := ⟨_, rfl⟩
      have hz8 := hW.size
      have HC8 : Hid (w8.heap[b7]? = some (.cells #[v0, .slice aa M1.length ac] 55 (0, 0))) := (hW.block _ (by omega)).trans HC6.out
      have HG8 : Hid (w8.heap[w5.heap.size]? = some (.cells (c8 Y1) 43 (0, 0))) := (hW.block _ hg13).trans HG13.out
      have hth8 : w8.there (b7 + 1) 32 (c8 Y1).size := by
        have h6 := there_below (there_below hth4 hb46 (by omega)) hW (by omega)
        intro j hj
        rw [c8_size, HYL1.out] at hj
        have := h6 (32 + j) (by omega)
        rwa [Nat.zero_add] at this
      have HI8 : Hid ((Tryd.prog.info? 43).map (·.size) = some (c8 Y1).size) := HI43' HYL1.out
      have HTH := Lib.hid hth8
      clear hth8
      have hb48 : Below w4.heap.size w4 w8 := hb46.trans (hW.mono hb46.size)
      have hWT := Lib.hid hW
      clear h8
      go_upto_region 13 with (fail)
      refine wp_region_lit ?_
      refine wpl_run (W' := w8) (.int .i64 1) rfl (by kernel_rfl) ?_
      refine wpl_run (W' := w8) (.agg (c8 Y1)) rfl (run_loadN rfl (by kernel_rfl) Tryd.underlying43 rfl HI8.out HG8.out) ?_
      refine wpl_run (W' := w8) (.pointer (some ⟨b7 + 1, 32, none⟩)) rfl (by kernel_rfl) ?_
      refine wpList_store_mid rfl 43 (.tmp 71) (.tmp 70) rfl (b7 + 1) 32 (c8 Y1) (by kernel_rfl) (by kernel_rfl) HTH.out HI8.out (c8_one _) ?_
      refine wpList_nil ?_
      simp only [Act.put, List.setIfInBounds_toArray, List.set_cons_zero, List.set_cons_succ]
      go_upto_region 14 with (fail)
      obtain ⟨w9, hw9⟩ : ∃ w9, w9 = w8.setCells (b7 + 1) 32 (c8 Y1).toList := ⟨_, rfl⟩
      have hT9 : Two b7 w8 w9 := by rw [hw9]; exact Two.sets _ _ _ (Two.of_below (Below.refl _ _))
      have hz9 : w9.heap.size = w8.heap.size := by rw [hw9]; exact sets_size _ _ _
      have h79 : w9.heap[b7]? = some (.cells #[v0, .slice aa M1.length ac] 55 (0, 0)) := by rw [hw9, sets_other (by omega)]; exact HC8.out
      have hth9 : w9.there (b7 + 1) 0 64 := by rw [hw9]; exact World.there_setCells (there_below (there_below hth4 hb46 (by omega)) hWT.out (by omega)) _ _ _
      have hR9 : w9.rangeAt (b7 + 1) 32 (c8l Y1) := by
        have hq : (c8 Y1).toList = c8l Y1 := by simp [c8]
        rw [hw9, hq]; exact World.rangeAt_setCells_same _ _ _ _ (by have := HTH.out; rwa [c8_size, ← c8l_length] at this)
      obtain ⟨hB0, hn0', hR0⟩ := hV0.out (by omega)
      have hT09 : Two b7 wr w9 := hT3.trans (hT4.trans ((Two.of_below hb48).trans hT9))
      have hB09 := hB0.two hT09 hn0'
      have hR09 : w9.rangeAt (b7 + 1) 0 (c8l Y0) := by
        have hq : (c8 Y1).toList = c8l Y1 := by simp [c8]
        have e8 : w8.heap[b7 + 1]? = wr.heap[b7 + 1]? := (hb48.block _ (by omega)).trans (he4.trans (hb03.block _ (by omega)))
        rw [hw9]; exact World.rangeAt_setCells_apart (fun j v hv => by
          rw [World.cell?_of_block (w := wr) (a := ⟨b7 + 1, 0 + j, none⟩) e8]
          exact hR0 j v hv) _ _ _ (.inr (.inl (by rw [c8l_length, HYL0.out]; omega)))
      rw [← hw9]
      clear hw9
      have c79 := cell_of_row w9 b7 1 _ 55 (0, 0) h79
      simp only [List.getElem?_toArray, List.getElem?_cons_zero, List.getElem?_cons_succ] at c79
      have H79 := Lib.hid h79
      clear h79
      have hT29 : Two b7 w3 w9 := hT4.trans ((Two.of_below hb48).trans hT9)
      have hBM9 := hBA.two hT29 hnA
      have hbr9 : Below b7 w7 w9 := below_two (hbr4.trans (hb48.mono (by omega))) hT9 (by omega)
      have hP9 := psl_few (owns_two (owns_below H14.out hb3 (Nat.le_refl _)) hT29 (by omega)) HP1.out (hbr9.mono (by omega))
      go_wp2_with fail
      refine (rnew_any _ M1 w9 hBM9 (by omega)).mono ?_
      rintro e w10 ⟨r, rfl, hr10, hrd10, hb10⟩
      have hbP10 := hP9.below hb10 (Nat.le_refl _)
      rw [HM1.out, layB_eq, List.append_assoc] at hrd10
      have htl : (tailB (fewP ps1)).length ≤ 1000 := by
        have h1 := congrArg List.length (layB_eq l1 (fewP ps1))
        rw [← HM1.out] at h1
        simp only [List.length_append] at h1
        omega
      have hz10 := hb10.size
      have h9s : b7 + 1 < w9.heap.size := by omega
      go_wp2_with fail
      refine (rtext_any r l1 (tailB (fewP ps1)) w10 hrd10 (by omega) (by omega)).mono ?_
      rintro e w11 ⟨rfl, hrd11, hbut11⟩
      have hrl11 : r < w11.heap.size := by
        obtain ⟨_, hx, _⟩ := hrd11
        exact (Array.getElem?_eq_some_iff.1 hx).1
      have hb911 : Below w9.heap.size w9 w11 := Below.of_but hb10 hr10 hbut11
      have HP9 := Lib.hid hP9
      have HF9 := Lib.hid (psl_form hP9)
      clear hbP10 hP9 hrd10
      go_wp2
      go_loopw [82] (InL (fewP ps1) r w11) (fun i _ => (fewP ps1).length - (intOf i).toNat)
      case atStart => exact ⟨0, by omega, rfl, hrd11, But.of_below (Below.refl _ _)⟩
      case round =>
        obtain ⟨wo, rfl⟩ : ∃ wo : World, wo = w11 := ⟨_, rfl⟩
        obtain ⟨j, hj, rfl, hrd, hbut⟩ := hrel
        have hb9x : Below w9.heap.size w9 wr := Below.of_but hb911 hr10 hbut
        have hfl := fewP_length ps1
        rw [← HMM.out] at hfl
        have hfm1 : (fewP ps1).length ≤ m := by omega
        have hj6 : j ≤ 6 := by have := fewP_le ps1; omega
        have hfm2 : m ≤ (fewP ps1).length := by omega
        clear hfl
        by_cases hjl : j < (fewP ps1).length
        · have d1 : decide ((j : Int) < (m : Int)) = true := decide_eq_true (by omega)
          obtain ⟨pa', pc', epv, hF⟩ := HF9.out
          obtain ⟨b, off, hpa, hbl, hcell⟩ := hF j hjl
          cases epv
          subst hpa
          have hBj := HP9.out.each j hjl
          have hcj := (hb9x.cell (p := ⟨b, off + j, none⟩) hbl).trans hcell
          have hpl : (atP (fewP ps1) j).length ≤ 80 := fewP_mem ps1 _ (by unfold atP; rw [List.getD_eq_getElem?_getD, List.getElem?_eq_getElem hjl]; exact List.getElem_mem hjl)
          rw [tail_drop _ _ hjl] at hrd
          obtain ⟨p, hp⟩ : ∃ p, p = atP (fewP ps1) j := ⟨_, rfl⟩
          obtain ⟨T, hT⟩ : ∃ T, T = tailB ((fewP ps1).drop (j + 1)) := ⟨_, rfl⟩
          rw [← hp] at hBj hpl hrd
          rw [← hT] at hrd
          have HT' := Lib.hid hT
          have hTl : T.length ≤ 1000 := by
            have h1 := tail_le (fewP ps1) (j + 1)
            rw [← hT] at h1
            omega
          clear hp hT
          obtain ⟨a1, c1, hv⟩ := hBj.len
          rw [hv] at hBj hcj
          clear hv hF hcell
          have HJ1 : Hid (j + 1 ≤ (fewP ps1).length) := by show _ ≤ _; omega
          have HJ2 : Hid ((fewP ps1).length - (j + 1) < (fewP ps1).length - j) := by show _ < _; omega
          have HN4 := Lib.hid (num_be4 p.length (p ++ T) (by omega))
          have HD4 := Lib.hid (drop_be4 p.length (p ++ T))
          have HL4 : Hid ((be4 p.length ++ (p ++ T)).length = 4 + p.length + T.length) := by show _ = _; rw [List.length_append, be4_length, List.length_append]; omega
          go_wp2_with fail
          refine (rfour_any r _ wr hrd (by rw [HL4.out]; omega) (by rw [HL4.out]; omega)).mono ?_
          rintro e w12 ⟨rfl, hrd12, hbut12⟩
          rw [HN4.out]
          rw [HD4.out] at hrd12
          go_wp2_with fail
          refine (rtake_any r p.length (p ++ T) w12 hrd12 (by rw [List.length_append]; omega) (by rw [List.length_append]; omega)).mono ?_
          rintro e w13 ⟨v13, rfl, hown13, hrd13, hbut13⟩
          rw [List.take_left] at hown13
          rw [List.drop_left] at hrd13
          have hB13 := BSl.of_owns hown13
          have hb9y : Below w9.heap.size w9 w13 := Below.of_but (Below.of_but hb9x hr10 hbut12) hr10 hbut13
          obtain ⟨a13, c13, rfl⟩ := owns_form hown13
          go_wp2_with fail
          refine (equal_any _ _ p p w13 hB13 (hBj.below hb9y (Nat.le_refl _))).mono ?_
          rintro e w14 ⟨rfl, rfl⟩
          rw [beq_self_eq_true]
          go_wp2_with fail
          refine (rerr_any r T w13 hrd13).mono ?_
          rintro e w14 ⟨rfl, rfl⟩
          go_wp2
          go_roundw
          case rel => exact ⟨j + 1, HJ1.out, by go_num, by rw [← HT'.out]; exact hrd13, hbut.trans (hbut12.trans hbut13)⟩
          case measure => have := HJ2.out; simp [intOf]; omega
        · have d1 : decide ((j : Int) < (m : Int)) = false := decide_eq_false (by omega)
          rw [List.drop_of_length_le (by omega), tailB_nil] at hrd
          have hbrx : Below b7 w7 wr := hbr9.trans (hb9x.mono (by omega))
          have hzx := hb9x.size
          go_wp2_with fail
          refine (rleft_any r [] wr hrd).mono ?_
          rintro e w14 ⟨rfl, rfl⟩
          go_wp2
          go_roundw
          case rel => exact ⟨2, by omega, rfl, hbrx, by omega, there_below hth9 hb9x h9s, _, _, (hb9x.block _ (by omega)).trans H79.out, fun _ => ⟨hB09.below hb9x (Nat.le_refl _), hn0', range_o hR09 hb9x h9s⟩, fun _ => ⟨hBM9.below hb9x (Nat.le_refl _), hnA, range_o hR9 hb9x h9s⟩⟩
          case measure => simp [intOf]
    · obtain ⟨hbr, hb8, hth, v0, v1, h7, hv0, hv1⟩ := hI
      obtain ⟨hB0, _, hR0⟩ := hv0 (by omega)
      obtain ⟨hB1, _, hR1⟩ := hv1 (by omega)
      obtain ⟨aa0, ac0, rfl⟩ := hB0.len
      obtain ⟨aa1, ac1, rfl⟩ := hB1.len
      have H7 := Lib.hid h7
      clear h7 hv0 hv1 hth
      have hbwr : Below w.heap.size w wr := hbw7.trans (hbr.mono (by have := hbw7.size; omega))
      go_upto_region 26 with (fail)
      refine region_ext (by kernel_rfl) [some 104, some 105, some 106, some 107, some 108, some 109, some 18, some 19] (by kernel_rfl) [] [[], [0], [1], [], [3], [4], [2], [5]] [] [] [Is (.pointer (some ⟨x5, 0, none⟩)), Is (.slice pa0 ps0.length pc0), (false, fun v W => W.ownsRow wr.heap.size 22 1 v (min ps0.length 6) (fewVs vs0 (min ps0.length 6))), Is (.pointer (some ⟨x5, 1, none⟩)), Is (.slice pa1 ps1.length pc1), (false, fun v W => W.ownsRow wr.heap.size 22 1 v (min ps1.length 6) (fewVs vs1 (min ps1.length 6))), (false, fun v W => W.ownsRow wr.heap.size 22 1 v (min ps0.length 6) (fewVs vs0 (min ps0.length 6))), (false, fun v W => W.ownsRow wr.heap.size 22 1 v (min ps1.length 6) (fewVs vs1 (min ps1.length 6)))] (by kernel_rfl) (by kernel_rfl) (by rfl) ⟨Is.keeps _, Is.keeps _, (fun _ _ _ he h => owns_below h he (Nat.le_refl _)), Is.keeps _, Is.keeps _, (fun _ _ _ he h => owns_below h he (Nat.le_refl _)), (fun _ _ _ he h => owns_below h he (Nat.le_refl _)), (fun _ _ _ he h => owns_below h he (Nat.le_refl _)), trivial⟩ ⟨?_, ?_, ?_, ?_, ?_, ?_, ?_, ?_, trivial⟩ ?_
      · intro W hW
        refine forV_nil ?_
        exact opv_run (.pointer (some ⟨x5, 0, none⟩)) (by kernel_rfl) (by kernel_rfl) (does_pure rfl)
      · intro W hW v0 h0
        obtain rfl : v0 = .pointer (some ⟨x5, 0, none⟩) := h0 rfl
        refine forV_nil ?_
        exact opv_run _ (by kernel_rfl) (run_load1 rfl (by kernel_rfl) Tryd.underlying31 rfl (((hbr.trans (hW.mono (by omega))).cell (p := ⟨x5, 0, none⟩) (by show x5 < _; omega)).trans HX50.out)) (does_pure rfl)
      · intro W hW v1 h1
        obtain rfl : v1 = .slice pa0 ps0.length pc0 := h1 rfl
        refine forV_nil ?_
        refine opv_call 22 #[.slice pa0 ps0.length pc0] (by kernel_rfl) (by kernel_rfl) ((few_any _ vs0 ps0 W (HP0.out.below (hbr.trans (hW.mono (by omega))) (by omega)) hn0).mono ?_)
        rintro e w2 ⟨u, rfl, hm, hb⟩
        exact ⟨u, rfl, does_ext hW hb, owns_up22 hm hW.size⟩
      · intro W hW
        refine forV_nil ?_
        exact opv_run (.pointer (some ⟨x5, 1, none⟩)) (by kernel_rfl) (by kernel_rfl) (does_pure rfl)
      · intro W hW v3 h3
        obtain rfl : v3 = .pointer (some ⟨x5, 1, none⟩) := h3 rfl
        refine forV_nil ?_
        exact opv_run _ (by kernel_rfl) (run_load1 rfl (by kernel_rfl) Tryd.underlying31 rfl (((hbr.trans (hW.mono (by omega))).cell (p := ⟨x5, 1, none⟩) (by show x5 < _; omega)).trans HX51.out)) (does_pure rfl)
      · intro W hW v4 h4
        obtain rfl : v4 = .slice pa1 ps1.length pc1 := h4 rfl
        refine forV_nil ?_
        refine opv_call 22 #[.slice pa1 ps1.length pc1] (by kernel_rfl) (by kernel_rfl) ((few_any _ vs1 ps1 W (HP1.out.below (hbr.trans (hW.mono (by omega))) (by omega)) hn1).mono ?_)
        rintro e w2 ⟨u, rfl, hm, hb⟩
        exact ⟨u, rfl, does_ext hW hb, owns_up22 hm hW.size⟩
      · intro W hW v2 h2
        replace h2 : ((false, fun v W => W.ownsRow wr.heap.size 22 1 v (min ps0.length 6) (fewVs vs0 (min ps0.length 6)))).2 v2 W := h2 rfl
        refine forV_nil ?_
        exact opv_run v2 (by kernel_rfl) (by kernel_rfl) (does_pure h2)
      · intro W hW v5 h5
        replace h5 : ((false, fun v W => W.ownsRow wr.heap.size 22 1 v (min ps1.length 6) (fewVs vs1 (min ps1.length 6)))).2 v5 W := h5 rfl
        refine forV_nil ?_
        exact opv_run v5 (by kernel_rfl) (by kernel_rfl) (does_pure h5)
      intro W hW v0 h0 v1 h1 v2 h2 v3 h3 v4 h4 v5 h5 v6 h6 v7 h7
      replace h0 : v0 = .pointer (some ⟨x5, 0, none⟩) := h0 rfl; subst h0
      replace h1 : v1 = .slice pa0 ps0.length pc0 := h1 rfl; subst h1
      replace h2 : ((false, fun v W => W.ownsRow wr.heap.size 22 1 v (min ps0.length 6) (fewVs vs0 (min ps0.length 6)))).2 v2 W := h2 rfl
      replace h3 : v3 = .pointer (some ⟨x5, 1, none⟩) := h3 rfl; subst h3
      replace h4 : v4 = .slice pa1 ps1.length pc1 := h4 rfl; subst h4
      replace h5 : ((false, fun v W => W.ownsRow wr.heap.size 22 1 v (min ps1.length 6) (fewVs vs1 (min ps1.length 6)))).2 v5 W := h5 rfl
      replace h6 : ((false, fun v W => W.ownsRow wr.heap.size 22 1 v (min ps0.length 6) (fewVs vs0 (min ps0.length 6)))).2 v6 W := h6 rfl
      replace h7 : ((false, fun v W => W.ownsRow wr.heap.size 22 1 v (min ps1.length 6) (fewVs vs1 (min ps1.length 6)))).2 v7 W := h7 rfl
      refine forE_end ?_
      simp only [Act.put, List.getD_cons_zero, List.getD_cons_succ, List.setIfInBounds_toArray, List.set_cons_zero, List.set_cons_succ, Nat.zero_add, Nat.reduceAdd]
      obtain ⟨wE, rfl⟩ : ∃ wE : World, wE = W := ⟨_, rfl⟩
      obtain ⟨wX, rfl⟩ : ∃ wX : World, wX = wr := ⟨_, rfl⟩
      have hbE : Below b7 w7 wE := hbr.trans (hW.mono (by omega))
      have hzE := hW.size
      have hbrE := Lib.hid hW
      have hPE0 := psl_few h6 HP0.out (hbE.mono (by omega))
      have hPE1 := psl_few h7 HP1.out (hbE.mono (by omega))
      obtain ⟨qa0, qc0, hq0, hF0⟩ := psl_form hPE0
      obtain ⟨qa1, qc1, hq1, hF1⟩ := psl_form hPE1
      have HF0 := Lib.hid hF0
      have HF1 := Lib.hid hF1
      have HPE0 := Lib.hid hPE0
      have HPE1 := Lib.hid hPE1
      obtain ⟨m0, hm0⟩ : ∃ m, m = (fewP ps0).length := ⟨_, rfl⟩
      obtain ⟨m1, hm1⟩ : ∃ m, m = (fewP ps1).length := ⟨_, rfl⟩
      rw [← hm0] at hq0
      rw [← hm1] at hq1
      have HM0' := Lib.hid hm0
      have HM1' := Lib.hid hm1
      have hm06 : m0 ≤ 6 := by rw [hm0]; exact fewP_le ps0
      have hm16 : m1 ≤ 6 := by rw [hm1]; exact fewP_le ps1
      subst hq0
      subst hq1
      clear hm0 hm1 h2 h5 h6 h7 hF0 hF1 hPE0 hPE1 hW
      obtain ⟨c, hc⟩ : ∃ c, c = (l0 == l1) := ⟨_, rfl⟩
      have HC := Lib.hid hc
      obtain ⟨b0, hb0⟩ : ∃ b0, b0 = (c && (((m0 : Nat) : Int) == ((m1 : Nat) : Int))) := ⟨_, rfl⟩
      have HB0 := Lib.hid hb0
      have HB0I : Hid (b0 = true ↔ (l0 = l1 ∧ m0 = m1)) := by
        show _ ↔ _
        rw [hb0, hc, Bool.and_eq_true, beq_iff_eq, beq_iff_eq]
        constructor
        · rintro ⟨a, b⟩; exact ⟨a, by omega⟩
        · rintro ⟨a, b⟩; exact ⟨a, by omega⟩
      clear hc hb0
      go_upto_region 27 with (fail)
      refine region_ext (by kernel_rfl) [some 110, some 111, some 112, some 113, some 114, some 115, some 116, some 117, some 118, some 119, some 120, some 121, some 122, some 123, some 124, some 125, some 126, some 127, some 128, some 129, some 130, some 131, some 9] (by kernel_rfl) [] [[], [0], [], [2], [3], [4], [1, 5], [], [7], [], [9], [10], [11], [8, 12], [6, 13], [14], [15], [15, 16], [15], [15, 18], [15, 17, 19], [15, 20], [21]] [] [] [Is (.pointer (some ⟨x4, 0, none⟩)), Is (.string ⟨s0.toArray⟩), Is (.pointer (some ⟨x4, 0, none⟩)), Is (.string ⟨s0.toArray⟩), Is (.int .i64 ((s0.length : Nat) : Int)), Is (.int .i64 ((l0.length : Nat) : Int)), Is (.string ⟨l0.toArray⟩), Is (.pointer (some ⟨x4, 1, none⟩)), Is (.string ⟨s1.toArray⟩), Is (.pointer (some ⟨x4, 1, none⟩)), Is (.string ⟨s1.toArray⟩), Is (.int .i64 ((s1.length : Nat) : Int)), Is (.int .i64 ((l1.length : Nat) : Int)), Is (.string ⟨l1.toArray⟩), Is (.bool c), Is (.bool c), Is ((bif c then .slice qa0 m0 qc0 else undef)), Is ((bif c then .int .i64 ((m0 : Nat) : Int) else undef)), Is ((bif c then .slice qa1 m1 qc1 else undef)), Is ((bif c then .int .i64 ((m1 : Nat) : Int) else undef)), Is ((bif c then .bool (((m0 : Nat) : Int) == ((m1 : Nat) : Int)) else undef)), Is (.bool b0), Is (.bool b0)] (by kernel_rfl) (by kernel_rfl) (by rfl) ⟨Is.keeps _, Is.keeps _, Is.keeps _, Is.keeps _, Is.keeps _, Is.keeps _, Is.keeps _, Is.keeps _, Is.keeps _, Is.keeps _, Is.keeps _, Is.keeps _, Is.keeps _, Is.keeps _, Is.keeps _, Is.keeps _, Is.keeps _, Is.keeps _, Is.keeps _, Is.keeps _, Is.keeps _, Is.keeps _, Is.keeps _, trivial⟩ ⟨?_, ?_, ?_, ?_, ?_, ?_, ?_, ?_, ?_, ?_, ?_, ?_, ?_, ?_, ?_, ?_, ?_, ?_, ?_, ?_, ?_, ?_, ?_, trivial⟩ ?_
      · intro W hW
        refine forV_nil ?_
        exact opv_run (.pointer (some ⟨x4, 0, none⟩)) (by kernel_rfl) (by kernel_rfl) (does_pure rfl)
      · intro W hW v0 h0
        obtain rfl : v0 = .pointer (some ⟨x4, 0, none⟩) := h0 rfl
        refine forV_nil ?_
        exact opv_run _ (by kernel_rfl) (run_load1 rfl (by kernel_rfl) Tryd.underlying9 rfl (((hbE.trans (hW.mono (by omega))).cell (p := ⟨x4, 0, none⟩) (by show x4 < _; omega)).trans HX40.out)) (does_pure rfl)
      · intro W hW
        refine forV_nil ?_
        exact opv_run (.pointer (some ⟨x4, 0, none⟩)) (by kernel_rfl) (by kernel_rfl) (does_pure rfl)
      · intro W hW v2 h2
        obtain rfl : v2 = .pointer (some ⟨x4, 0, none⟩) := h2 rfl
        refine forV_nil ?_
        exact opv_run _ (by kernel_rfl) (run_load1 rfl (by kernel_rfl) Tryd.underlying9 rfl (((hbE.trans (hW.mono (by omega))).cell (p := ⟨x4, 0, none⟩) (by show x4 < _; omega)).trans HX40.out)) (does_pure rfl)
      · intro W hW v3 h3
        obtain rfl : v3 = .string ⟨s0.toArray⟩ := h3 rfl
        refine forV_nil ?_
        exact opv_run (.int .i64 ((s0.length : Nat) : Int)) (by kernel_rfl) (by kernel_rfl) (does_pure rfl)
      · intro W hW v4 h4
        obtain rfl : v4 = .int .i64 ((s0.length : Nat) : Int) := h4 rfl
        refine forV_nil ?_
        refine opv_run (.int .i64 (if (30 : Int) < ((s0.length : Nat) : Int) then 30 else ((s0.length : Nat) : Int))) (by kernel_rfl) (by kernel_rfl) (does_pure ?_)
        rw [HLM0.out]; rfl
      · intro W hW v1 h1 v5 h5
        obtain rfl : v1 = .string ⟨s0.toArray⟩ := h1 rfl
        obtain rfl : v5 = .int .i64 ((l0.length : Nat) : Int) := h5 rfl
        refine forV_nil ?_
        exact opv_run _ (by kernel_rfl) (run_cutStr (k := .i64) rfl (by kernel_rfl) (by kernel_rfl) Tryd.underlying9 HL0.out) (does_pure rfl)
      · intro W hW
        refine forV_nil ?_
        exact opv_run (.pointer (some ⟨x4, 1, none⟩)) (by kernel_rfl) (by kernel_rfl) (does_pure rfl)
      · intro W hW v7 h7
        obtain rfl : v7 = .pointer (some ⟨x4, 1, none⟩) := h7 rfl
        refine forV_nil ?_
        exact opv_run _ (by kernel_rfl) (run_load1 rfl (by kernel_rfl) Tryd.underlying9 rfl (((hbE.trans (hW.mono (by omega))).cell (p := ⟨x4, 1, none⟩) (by show x4 < _; omega)).trans HX41.out)) (does_pure rfl)
      · intro W hW
        refine forV_nil ?_
        exact opv_run (.pointer (some ⟨x4, 1, none⟩)) (by kernel_rfl) (by kernel_rfl) (does_pure rfl)
      · intro W hW v9 h9
        obtain rfl : v9 = .pointer (some ⟨x4, 1, none⟩) := h9 rfl
        refine forV_nil ?_
        exact opv_run _ (by kernel_rfl) (run_load1 rfl (by kernel_rfl) Tryd.underlying9 rfl (((hbE.trans (hW.mono (by omega))).cell (p := ⟨x4, 1, none⟩) (by show x4 < _; omega)).trans HX41.out)) (does_pure rfl)
      · intro W hW v10 h10
        obtain rfl : v10 = .string ⟨s1.toArray⟩ := h10 rfl
        refine forV_nil ?_
        exact opv_run (.int .i64 ((s1.length : Nat) : Int)) (by kernel_rfl) (by kernel_rfl) (does_pure rfl)
      · intro W hW v11 h11
        obtain rfl : v11 = .int .i64 ((s1.length : Nat) : Int) := h11 rfl
        refine forV_nil ?_
        refine opv_run (.int .i64 (if (30 : Int) < ((s1.length : Nat) : Int) then 30 else ((s1.length : Nat) : Int))) (by kernel_rfl) (by kernel_rfl) (does_pure ?_)
        rw [HLM1.out]; rfl
      · intro W hW v8 h8 v12 h12
        obtain rfl : v8 = .string ⟨s1.toArray⟩ := h8 rfl
        obtain rfl : v12 = .int .i64 ((l1.length : Nat) : Int) := h12 rfl
        refine forV_nil ?_
        exact opv_run _ (by kernel_rfl) (run_cutStr (k := .i64) rfl (by kernel_rfl) (by kernel_rfl) Tryd.underlying9 HL1.out) (does_pure rfl)
      · intro W hW v6 h6 v13 h13
        obtain rfl : v6 = .string ⟨l0.toArray⟩ := h6 rfl
        obtain rfl : v13 = .string ⟨l1.toArray⟩ := h13 rfl
        refine forV_nil ?_
        refine opv_run (.bool ((⟨l0.toArray⟩ : ByteArray).toList == (⟨l1.toArray⟩ : ByteArray).toList)) (by kernel_rfl) (by kernel_rfl) (does_pure ?_)
        rw [str_beq, ← HC.out]; rfl
      · intro W hW v14 h14
        obtain rfl : v14 = .bool c := h14 rfl
        refine forV_nil ?_
        exact opv_run (.bool c) (by kernel_rfl) (by kernel_rfl) (does_pure rfl)
      · intro W hW v15 h15
        obtain rfl : v15 = .bool c := h15 rfl
        refine forV_nil ?_
        cases c
        · exact opv_skip (by kernel_rfl) (does_pure rfl)
        · exact opv_run (.slice qa0 m0 qc0) (by kernel_rfl) (by kernel_rfl) (does_pure rfl)
      · intro W hW v15 h15 v16 h16
        obtain rfl : v15 = .bool c := h15 rfl
        obtain rfl : v16 = (bif c then .slice qa0 m0 qc0 else undef) := h16 rfl
        refine forV_nil ?_
        cases c
        · exact opv_skip (by kernel_rfl) (does_pure rfl)
        · exact opv_run (.int .i64 ((m0 : Nat) : Int)) (by kernel_rfl) (by kernel_rfl) (does_pure rfl)
      · intro W hW v15 h15
        obtain rfl : v15 = .bool c := h15 rfl
        refine forV_nil ?_
        cases c
        · exact opv_skip (by kernel_rfl) (does_pure rfl)
        · exact opv_run (.slice qa1 m1 qc1) (by kernel_rfl) (by kernel_rfl) (does_pure rfl)
      · intro W hW v15 h15 v18 h18
        obtain rfl : v15 = .bool c := h15 rfl
        obtain rfl : v18 = (bif c then .slice qa1 m1 qc1 else undef) := h18 rfl
        refine forV_nil ?_
        cases c
        · exact opv_skip (by kernel_rfl) (does_pure rfl)
        · exact opv_run (.int .i64 ((m1 : Nat) : Int)) (by kernel_rfl) (by kernel_rfl) (does_pure rfl)
      · intro W hW v15 h15 v17 h17 v19 h19
        obtain rfl : v15 = .bool c := h15 rfl
        obtain rfl : v17 = (bif c then .int .i64 ((m0 : Nat) : Int) else undef) := h17 rfl
        obtain rfl : v19 = (bif c then .int .i64 ((m1 : Nat) : Int) else undef) := h19 rfl
        refine forV_nil ?_
        cases c
        · exact opv_skip (by kernel_rfl) (does_pure rfl)
        · exact opv_run (.bool (((m0 : Nat) : Int) == ((m1 : Nat) : Int))) (by kernel_rfl) (by kernel_rfl) (does_pure rfl)
      · intro W hW v15 h15 v20 h20
        obtain rfl : v15 = .bool c := h15 rfl
        obtain rfl : v20 = (bif c then .bool (((m0 : Nat) : Int) == ((m1 : Nat) : Int)) else undef) := h20 rfl
        refine forV_nil ?_
        cases c
        · refine opv_run (.bool false) (by kernel_rfl) (by kernel_rfl) (does_pure ?_)
          rw [HB0.out]; rfl
        · refine opv_run (.bool (((m0 : Nat) : Int) == ((m1 : Nat) : Int))) (by kernel_rfl) (by kernel_rfl) (does_pure ?_)
          rw [HB0.out]; rfl
      · intro W hW v21 h21
        obtain rfl : v21 = .bool b0 := h21 rfl
        refine forV_nil ?_
        exact opv_run (.bool b0) (by kernel_rfl) (by kernel_rfl) (does_pure rfl)
      intro W hW v0 h0 v1 h1 v2 h2 v3 h3 v4 h4 v5 h5 v6 h6 v7 h7 v8 h8 v9 h9 v10 h10 v11 h11 v12 h12 v13 h13 v14 h14 v15 h15 v16 h16 v17 h17 v18 h18 v19 h19 v20 h20 v21 h21 v22 h22
      replace h0 : v0 = .pointer (some ⟨x4, 0, none⟩) := h0 rfl; subst h0
      replace h1 : v1 = .string ⟨s0.toArray⟩ := h1 rfl; subst h1
      replace h2 : v2 = .pointer (some ⟨x4, 0, none⟩) := h2 rfl; subst h2
      replace h3 : v3 = .string ⟨s0.toArray⟩ := h3 rfl; subst h3
      replace h4 : v4 = .int .i64 ((s0.length : Nat) : Int) := h4 rfl; subst h4
      replace h5 : v5 = .int .i64 ((l0.length : Nat) : Int) := h5 rfl; subst h5
      replace h6 : v6 = .string ⟨l0.toArray⟩ := h6 rfl; subst h6
      replace h7 : v7 = .pointer (some ⟨x4, 1, none⟩) := h7 rfl; subst h7
      replace h8 : v8 = .string ⟨s1.toArray⟩ := h8 rfl; subst h8
      replace h9 : v9 = .pointer (some ⟨x4, 1, none⟩) := h9 rfl; subst h9
      replace h10 : v10 = .string ⟨s1.toArray⟩ := h10 rfl; subst h10
      replace h11 : v11 = .int .i64 ((s1.length : Nat) : Int) := h11 rfl; subst h11
      replace h12 : v12 = .int .i64 ((l1.length : Nat) : Int) := h12 rfl; subst h12
      replace h13 : v13 = .string ⟨l1.toArray⟩ := h13 rfl; subst h13
      replace h14 : v14 = .bool c := h14 rfl; subst h14
      replace h15 : v15 = .bool c := h15 rfl; subst h15
      replace h16 : v16 = (bif c then .slice qa0 m0 qc0 else undef) := h16 rfl; subst h16
      replace h17 : v17 = (bif c then .int .i64 ((m0 : Nat) : Int) else undef) := h17 rfl; subst h17
      replace h18 : v18 = (bif c then .slice qa1 m1 qc1 else undef) := h18 rfl; subst h18
      replace h19 : v19 = (bif c then .int .i64 ((m1 : Nat) : Int) else undef) := h19 rfl; subst h19
      replace h20 : v20 = (bif c then .bool (((m0 : Nat) : Int) == ((m1 : Nat) : Int)) else undef) := h20 rfl; subst h20
      replace h21 : v21 = .bool b0 := h21 rfl; subst h21
      replace h22 : v22 = .bool b0 := h22 rfl; subst h22
      refine forE_end ?_
      simp only [Act.put, List.getD_cons_zero, List.getD_cons_succ, List.setIfInBounds_toArray, List.set_cons_zero, List.set_cons_succ, Nat.zero_add, Nat.reduceAdd]
      obtain ⟨wF, rfl⟩ : ∃ wF : World, wF = W := ⟨_, rfl⟩
      have hbEF := Lib.hid hW
      have hzF := hW.size
      clear hW
      clear HC HB0
      go_wp2
      go_loopw [9, 134] (SaL l0 l1 (fewP ps0) (fewP ps1) wF) (fun _ i _ => m0 - (intOf i).toNat)
      case atStart => exact ⟨0, b0, by omega, rfl, rfl, by rw [HB0I.out, ← HM0'.out, ← HM1'.out]; exact ⟨fun h => ⟨h.1, h.2, fun j hj => by omega⟩, fun h => ⟨h.1, h.2.1⟩⟩, Below.refl _ _⟩
      case round =>
        obtain ⟨k, b, hkl, rfl, rfl, hbI, hbF⟩ := hrel
        rw [← HM0'.out] at hkl
        have HBI := Lib.hid hbI
        clear hbI
        have hzr := hbF.size
        by_cases hkm : k < m0
        · have d1 : decide ((k : Int) < (m0 : Int)) = true := decide_eq_true (by omega)
          have HJ1 : Hid (k + 1 ≤ (fewP ps0).length) := by show _ ≤ _; rw [← HM0'.out]; omega
          have HJ2 : Hid (m0 - (k + 1) < m0 - k) := by show _ < _; omega
          cases b
          · go_upto_region 31 with (fail)
            refine region_ext (by kernel_rfl) [some 137, some 138, some 139, some 140, some 141, some 142, some 143, some 144, some 145, some 146, some 147, some 148, some 149, some 150, some 151, some 152, some 153, some 154, some 9] (by kernel_rfl) [] [[], [0], [1], [1], [1, 3], [1, 2, 4], [1, 5], [6], [7], [7], [7, 8, 9], [7, 10], [7], [7], [7, 12, 13], [7, 14], [7, 11, 15], [7, 16], [0, 17]] [] [] [Is (.bool false), Is (.bool false), Is (undef), Is (undef), Is (undef), Is (undef), Is (.bool false), Is (.bool false), Is (undef), Is (undef), Is (undef), Is (undef), Is (undef), Is (undef), Is (undef), Is (undef), Is (undef), Is (.bool false), Is (.bool false)] (by kernel_rfl) (by kernel_rfl) (by rfl) ⟨Is.keeps _, Is.keeps _, Is.keeps _, Is.keeps _, Is.keeps _, Is.keeps _, Is.keeps _, Is.keeps _, Is.keeps _, Is.keeps _, Is.keeps _, Is.keeps _, Is.keeps _, Is.keeps _, Is.keeps _, Is.keeps _, Is.keeps _, Is.keeps _, Is.keeps _, trivial⟩ ⟨?_, ?_, ?_, ?_, ?_, ?_, ?_, ?_, ?_, ?_, ?_, ?_, ?_, ?_, ?_, ?_, ?_, ?_, ?_, trivial⟩ ?_
            · intro W hW
              refine forV_nil ?_
              exact opv_run (.bool false) (by kernel_rfl) (by kernel_rfl) (does_pure rfl)
            · intro W hW v0 h0
              obtain rfl : v0 = .bool false := h0 rfl
              refine forV_nil ?_
              exact opv_run (.bool false) (by kernel_rfl) (by kernel_rfl) (does_pure rfl)
            · intro W hW v1 h1
              obtain rfl : v1 = .bool false := h1 rfl
              refine forV_nil ?_
              exact opv_skip (by kernel_rfl) (does_pure rfl)
            · intro W hW v1 h1
              obtain rfl : v1 = .bool false := h1 rfl
              refine forV_nil ?_
              exact opv_skip (by kernel_rfl) (does_pure rfl)
            · intro W hW v1 h1 v3 h3
              obtain rfl : v1 = .bool false := h1 rfl
              obtain rfl : v3 = undef := h3 rfl
              refine forV_nil ?_
              exact opv_skip (by kernel_rfl) (does_pure rfl)
            · intro W hW v1 h1 v2 h2 v4 h4
              obtain rfl : v1 = .bool false := h1 rfl
              obtain rfl : v2 = undef := h2 rfl
              obtain rfl : v4 = undef := h4 rfl
              refine forV_nil ?_
              exact opv_skip (by kernel_rfl) (does_pure rfl)
            · intro W hW v1 h1 v5 h5
              obtain rfl : v1 = .bool false := h1 rfl
              obtain rfl : v5 = undef := h5 rfl
              refine forV_nil ?_
              exact opv_run (.bool false) (by kernel_rfl) (by kernel_rfl) (does_pure rfl)
            · intro W hW v6 h6
              obtain rfl : v6 = .bool false := h6 rfl
              refine forV_nil ?_
              exact opv_run (.bool false) (by kernel_rfl) (by kernel_rfl) (does_pure rfl)
            · intro W hW v7 h7
              obtain rfl : v7 = .bool false := h7 rfl
              refine forV_nil ?_
              exact opv_skip (by kernel_rfl) (does_pure rfl)
            · intro W hW v7 h7
              obtain rfl : v7 = .bool false := h7 rfl
              refine forV_nil ?_
              exact opv_skip (by kernel_rfl) (does_pure rfl)
            · intro W hW v7 h7 v8 h8 v9 h9
              obtain rfl : v7 = .bool false := h7 rfl
              obtain rfl : v8 = undef := h8 rfl
              obtain rfl : v9 = undef := h9 rfl
              refine forV_nil ?_
              exact opv_skip (by kernel_rfl) (does_pure rfl)
            · intro W hW v7 h7 v10 h10
              obtain rfl : v7 = .bool false := h7 rfl
              obtain rfl : v10 = undef := h10 rfl
              refine forV_nil ?_
              exact opv_skip (by kernel_rfl) (does_pure rfl)
            · intro W hW v7 h7
              obtain rfl : v7 = .bool false := h7 rfl
              refine forV_nil ?_
              exact opv_skip (by kernel_rfl) (does_pure rfl)
            · intro W hW v7 h7
              obtain rfl : v7 = .bool false := h7 rfl
              refine forV_nil ?_
              exact opv_skip (by kernel_rfl) (does_pure rfl)
            · intro W hW v7 h7 v12 h12 v13 h13
              obtain rfl : v7 = .bool false := h7 rfl
              obtain rfl : v12 = undef := h12 rfl
              obtain rfl : v13 = undef := h13 rfl
              refine forV_nil ?_
              exact opv_skip (by kernel_rfl) (does_pure rfl)
            · intro W hW v7 h7 v14 h14
              obtain rfl : v7 = .bool false := h7 rfl
              obtain rfl : v14 = undef := h14 rfl
              refine forV_nil ?_
              exact opv_skip (by kernel_rfl) (does_pure rfl)
            · intro W hW v7 h7 v11 h11 v15 h15
              obtain rfl : v7 = .bool false := h7 rfl
              obtain rfl : v11 = undef := h11 rfl
              obtain rfl : v15 = undef := h15 rfl
              refine forV_nil ?_
              exact opv_skip (by kernel_rfl) (does_pure rfl)
            · intro W hW v7 h7 v16 h16
              obtain rfl : v7 = .bool false := h7 rfl
              obtain rfl : v16 = undef := h16 rfl
              refine forV_nil ?_
              exact opv_run (.bool false) (by kernel_rfl) (by kernel_rfl) (does_pure rfl)
            · intro W hW v0 h0 v17 h17
              obtain rfl : v0 = .bool false := h0 rfl
              obtain rfl : v17 = .bool false := h17 rfl
              refine forV_nil ?_
              exact opv_run (.bool false) (by kernel_rfl) (by kernel_rfl) (does_pure rfl)
            intro W hW v0 h0 v1 h1 v2 h2 v3 h3 v4 h4 v5 h5 v6 h6 v7 h7 v8 h8 v9 h9 v10 h10 v11 h11 v12 h12 v13 h13 v14 h14 v15 h15 v16 h16 v17 h17 v18 h18
            replace h0 : v0 = .bool false := h0 rfl; subst h0
            replace h1 : v1 = .bool false := h1 rfl; subst h1
            replace h2 : v2 = undef := h2 rfl; subst h2
            replace h3 : v3 = undef := h3 rfl; subst h3
            replace h4 : v4 = undef := h4 rfl; subst h4
            replace h5 : v5 = undef := h5 rfl; subst h5
            replace h6 : v6 = .bool false := h6 rfl; subst h6
            replace h7 : v7 = .bool false := h7 rfl; subst h7
            replace h8 : v8 = undef := h8 rfl; subst h8
            replace h9 : v9 = undef := h9 rfl; subst h9
            replace h10 : v10 = undef := h10 rfl; subst h10
            replace h11 : v11 = undef := h11 rfl; subst h11
            replace h12 : v12 = undef := h12 rfl; subst h12
            replace h13 : v13 = undef := h13 rfl; subst h13
            replace h14 : v14 = undef := h14 rfl; subst h14
            replace h15 : v15 = undef := h15 rfl; subst h15
            replace h16 : v16 = undef := h16 rfl; subst h16
            replace h17 : v17 = .bool false := h17 rfl; subst h17
            replace h18 : v18 = .bool false := h18 rfl; subst h18
            refine forE_end ?_
            simp only [Act.put, List.getD_cons_zero, List.getD_cons_succ, List.setIfInBounds_toArray, List.set_cons_zero, List.set_cons_succ, Nat.zero_add, Nat.reduceAdd]
            go_wp2
            go_roundw
            case rel => exact ⟨k + 1, false, HJ1.out, by go_num, rfl, ⟨(fun h => by cases h), fun h => absurd (HBI.out.2 ⟨h.1, h.2.1, fun j hj => h.2.2 j (by omega)⟩) (by simp)⟩, hbF.trans (hW.mono hbF.size)⟩
            case measure => have := HJ2.out; simp [intOf]; omega
          · have hb1' := HBI.out.1 rfl
            have hm01 := hb1'.2.1
            rw [← HM0'.out, ← HM1'.out] at hm01
            obtain ⟨g0, o0, hqa0, hg0, hc0⟩ := HF0.out k (by rw [← HM0'.out]; exact hkm)
            obtain ⟨g1, o1, hqa1, hg1, hc1⟩ := HF1.out k (by rw [← HM1'.out]; omega)
            subst hqa0
            subst hqa1
            have hBk0 := HPE0.out.each k (by rw [← HM0'.out]; exact hkm)
            have hBk1 := HPE1.out.each k (by rw [← HM1'.out]; omega)
            have hNX := Lib.hid (sa_next hb1')
            obtain ⟨p0, hp0⟩ : ∃ p, p = atP (fewP ps0) k := ⟨_, rfl⟩
            obtain ⟨p1, hp1⟩ : ∃ p, p = atP (fewP ps1) k := ⟨_, rfl⟩
            rw [← hp0] at hBk0 hNX
            rw [← hp1] at hBk1 hNX
            clear hp0 hp1 hb1'
            obtain ⟨e0, d0, hv0⟩ := hBk0.len
            obtain ⟨e1, d1', hv1⟩ := hBk1.len
            rw [hv0] at hBk0 hc0
            rw [hv1] at hBk1 hc1
            clear hv0 hv1
            have hbEr : Below wE.heap.size wE wr := hbEF.out.trans (hbF.mono hzF)
            replace hBk0 := hBk0.below hbEr (Nat.le_refl _)
            replace hBk1 := hBk1.below hbEr (Nat.le_refl _)
            replace hc0 := (hbEr.cell (p := ⟨g0, o0 + k, none⟩) hg0).trans hc0
            replace hc1 := (hbEr.cell (p := ⟨g1, o1 + k, none⟩) hg1).trans hc1
            have hk0m : k < m0 := hkm
            have hk1m : k < m1 := by omega
            have HLT : Hid (decide (((k : Nat) : Int) < ((m1 : Nat) : Int)) = true) := decide_eq_true (by omega)
            have hg0r : g0 < wr.heap.size := by omega
            have hg1r : g1 < wr.heap.size := by omega
            clear hm01
            go_upto_region 31 with (fail)
            refine region_ext (by kernel_rfl) [some 137, some 138, some 139, some 140, some 141, some 142, some 143, some 144, some 145, some 146, some 147, some 148, some 149, some 150, some 151, some 152, some 153, some 154, some 9] (by kernel_rfl) [] [[], [0], [1], [1], [1, 3], [1, 2, 4], [1, 5], [6], [7], [7], [7, 8, 9], [7, 10], [7], [7], [7, 12, 13], [7, 14], [7, 11, 15], [7, 16], [0, 17]] [] [] [Is (.bool true), Is (.bool true), Is (.int .i64 ((k : Nat) : Int)), Is (.slice (some ⟨g1, o1, none⟩) m1 qc1), Is (.int .i64 ((m1 : Nat) : Int)), Is (.bool true), Is (.bool true), Is (.bool true), Is (.slice (some ⟨g0, o0, none⟩) m0 qc0), Is (.int .i64 ((k : Nat) : Int)), Is (.pointer (some ⟨g0, o0 + k, none⟩)), Is (.slice e0 p0.length d0), Is (.slice (some ⟨g1, o1, none⟩) m1 qc1), Is (.int .i64 ((k : Nat) : Int)), Is (.pointer (some ⟨g1, o1 + k, none⟩)), Is (.slice e1 p1.length d1'), Is (.bool (p0 == p1)), Is (.bool (p0 == p1)), Is (.bool (p0 == p1))] (by kernel_rfl) (by kernel_rfl) (by rfl) ⟨Is.keeps _, Is.keeps _, Is.keeps _, Is.keeps _, Is.keeps _, Is.keeps _, Is.keeps _, Is.keeps _, Is.keeps _, Is.keeps _, Is.keeps _, Is.keeps _, Is.keeps _, Is.keeps _, Is.keeps _, Is.keeps _, Is.keeps _, Is.keeps _, Is.keeps _, trivial⟩ ⟨?_, ?_, ?_, ?_, ?_, ?_, ?_, ?_, ?_, ?_, ?_, ?_, ?_, ?_, ?_, ?_, ?_, ?_, ?_, trivial⟩ ?_
            · intro W hW
              refine forV_nil ?_
              exact opv_run (.bool true) (by kernel_rfl) (by kernel_rfl) (does_pure rfl)
            · intro W hW v0 h0
              obtain rfl : v0 = .bool true := h0 rfl
              refine forV_nil ?_
              exact opv_run (.bool true) (by kernel_rfl) (by kernel_rfl) (does_pure rfl)
            · intro W hW v1 h1
              obtain rfl : v1 = .bool true := h1 rfl
              refine forV_nil ?_
              exact opv_run (.int .i64 ((k : Nat) : Int)) (by kernel_rfl) (by kernel_rfl) (does_pure rfl)
            · intro W hW v1 h1
              obtain rfl : v1 = .bool true := h1 rfl
              refine forV_nil ?_
              exact opv_run (.slice (some ⟨g1, o1, none⟩) m1 qc1) (by kernel_rfl) (by kernel_rfl) (does_pure rfl)
            · intro W hW v1 h1 v3 h3
              obtain rfl : v1 = .bool true := h1 rfl
              obtain rfl : v3 = .slice (some ⟨g1, o1, none⟩) m1 qc1 := h3 rfl
              refine forV_nil ?_
              exact opv_run (.int .i64 ((m1 : Nat) : Int)) (by kernel_rfl) (by kernel_rfl) (does_pure rfl)
            · intro W hW v1 h1 v2 h2 v4 h4
              obtain rfl : v1 = .bool true := h1 rfl
              obtain rfl : v2 = .int .i64 ((k : Nat) : Int) := h2 rfl
              obtain rfl : v4 = .int .i64 ((m1 : Nat) : Int) := h4 rfl
              refine forV_nil ?_
              refine opv_run (.bool (decide (((k : Nat) : Int) < ((m1 : Nat) : Int)))) (by kernel_rfl) (by kernel_rfl) (does_pure ?_)
              rw [HLT.out]; rfl
            · intro W hW v1 h1 v5 h5
              obtain rfl : v1 = .bool true := h1 rfl
              obtain rfl : v5 = .bool true := h5 rfl
              refine forV_nil ?_
              exact opv_run (.bool true) (by kernel_rfl) (by kernel_rfl) (does_pure rfl)
            · intro W hW v6 h6
              obtain rfl : v6 = .bool true := h6 rfl
              refine forV_nil ?_
              exact opv_run (.bool true) (by kernel_rfl) (by kernel_rfl) (does_pure rfl)
            · intro W hW v7 h7
              obtain rfl : v7 = .bool true := h7 rfl
              refine forV_nil ?_
              exact opv_run (.slice (some ⟨g0, o0, none⟩) m0 qc0) (by kernel_rfl) (by kernel_rfl) (does_pure rfl)
            · intro W hW v7 h7
              obtain rfl : v7 = .bool true := h7 rfl
              refine forV_nil ?_
              exact opv_run (.int .i64 ((k : Nat) : Int)) (by kernel_rfl) (by kernel_rfl) (does_pure rfl)
            · intro W hW v7 h7 v8 h8 v9 h9
              obtain rfl : v7 = .bool true := h7 rfl
              obtain rfl : v8 = .slice (some ⟨g0, o0, none⟩) m0 qc0 := h8 rfl
              obtain rfl : v9 = .int .i64 ((k : Nat) : Int) := h9 rfl
              refine forV_nil ?_
              exact opv_run _ (by kernel_rfl) (run_indexAddr1 (kd := .i64) (n := m0) (c := qc0) rfl (by kernel_rfl) (by kernel_rfl) Tryd.underlying31 info22s hk0m) (does_pure rfl)
            · intro W hW v7 h7 v10 h10
              obtain rfl : v7 = .bool true := h7 rfl
              obtain rfl : v10 = .pointer (some ⟨g0, o0 + k, none⟩) := h10 rfl
              refine forV_nil ?_
              exact opv_run _ (by kernel_rfl) (run_load1 rfl (by kernel_rfl) Tryd.underlying22 rfl ((hW.cell (p := ⟨g0, o0 + k, none⟩) (by show g0 < _; omega)).trans hc0)) (does_pure rfl)
            · intro W hW v7 h7
              obtain rfl : v7 = .bool true := h7 rfl
              refine forV_nil ?_
              exact opv_run (.slice (some ⟨g1, o1, none⟩) m1 qc1) (by kernel_rfl) (by kernel_rfl) (does_pure rfl)
            · intro W hW v7 h7
              obtain rfl : v7 = .bool true := h7 rfl
              refine forV_nil ?_
              exact opv_run (.int .i64 ((k : Nat) : Int)) (by kernel_rfl) (by kernel_rfl) (does_pure rfl)
            · intro W hW v7 h7 v12 h12 v13 h13
              obtain rfl : v7 = .bool true := h7 rfl
              obtain rfl : v12 = .slice (some ⟨g1, o1, none⟩) m1 qc1 := h12 rfl
              obtain rfl : v13 = .int .i64 ((k : Nat) : Int) := h13 rfl
              refine forV_nil ?_
              exact opv_run _ (by kernel_rfl) (run_indexAddr1 (kd := .i64) (n := m1) (c := qc1) rfl (by kernel_rfl) (by kernel_rfl) Tryd.underlying31 info22s hk1m) (does_pure rfl)
            · intro W hW v7 h7 v14 h14
              obtain rfl : v7 = .bool true := h7 rfl
              obtain rfl : v14 = .pointer (some ⟨g1, o1 + k, none⟩) := h14 rfl
              refine forV_nil ?_
              exact opv_run _ (by kernel_rfl) (run_load1 rfl (by kernel_rfl) Tryd.underlying22 rfl ((hW.cell (p := ⟨g1, o1 + k, none⟩) (by show g1 < _; omega)).trans hc1)) (does_pure rfl)
            · intro W hW v7 h7 v11 h11 v15 h15
              obtain rfl : v7 = .bool true := h7 rfl
              obtain rfl : v11 = .slice e0 p0.length d0 := h11 rfl
              obtain rfl : v15 = .slice e1 p1.length d1' := h15 rfl
              refine forV_nil ?_
              refine opv_call 32 #[.slice e0 p0.length d0, .slice e1 p1.length d1'] (by kernel_rfl) (by kernel_rfl) ((equal_any _ _ p0 p1 W (hBk0.below hW (Nat.le_refl _)) (hBk1.below hW (Nat.le_refl _))).mono ?_)
              rintro e w1 ⟨rfl, rfl⟩
              exact ⟨_, rfl, does_refl _ _ _ _, rfl⟩
            · intro W hW v7 h7 v16 h16
              obtain rfl : v7 = .bool true := h7 rfl
              obtain rfl : v16 = .bool (p0 == p1) := h16 rfl
              refine forV_nil ?_
              exact opv_run (.bool (p0 == p1)) (by kernel_rfl) (by kernel_rfl) (does_pure rfl)
            · intro W hW v0 h0 v17 h17
              obtain rfl : v0 = .bool true := h0 rfl
              obtain rfl : v17 = .bool (p0 == p1) := h17 rfl
              refine forV_nil ?_
              exact opv_run (.bool (p0 == p1)) (by kernel_rfl) (by kernel_rfl) (does_pure rfl)
            intro W hW v0 h0 v1 h1 v2 h2 v3 h3 v4 h4 v5 h5 v6 h6 v7 h7 v8 h8 v9 h9 v10 h10 v11 h11 v12 h12 v13 h13 v14 h14 v15 h15 v16 h16 v17 h17 v18 h18
            replace h0 : v0 = .bool true := h0 rfl; subst h0
            replace h1 : v1 = .bool true := h1 rfl; subst h1
            replace h2 : v2 = .int .i64 ((k : Nat) : Int) := h2 rfl; subst h2
            replace h3 : v3 = .slice (some ⟨g1, o1, none⟩) m1 qc1 := h3 rfl; subst h3
            replace h4 : v4 = .int .i64 ((m1 : Nat) : Int) := h4 rfl; subst h4
            replace h5 : v5 = .bool true := h5 rfl; subst h5
            replace h6 : v6 = .bool true := h6 rfl; subst h6
            replace h7 : v7 = .bool true := h7 rfl; subst h7
            replace h8 : v8 = .slice (some ⟨g0, o0, none⟩) m0 qc0 := h8 rfl; subst h8
            replace h9 : v9 = .int .i64 ((k : Nat) : Int) := h9 rfl; subst h9
            replace h10 : v10 = .pointer (some ⟨g0, o0 + k, none⟩) := h10 rfl; subst h10
            replace h11 : v11 = .slice e0 p0.length d0 := h11 rfl; subst h11
            replace h12 : v12 = .slice (some ⟨g1, o1, none⟩) m1 qc1 := h12 rfl; subst h12
            replace h13 : v13 = .int .i64 ((k : Nat) : Int) := h13 rfl; subst h13
            replace h14 : v14 = .pointer (some ⟨g1, o1 + k, none⟩) := h14 rfl; subst h14
            replace h15 : v15 = .slice e1 p1.length d1' := h15 rfl; subst h15
            replace h16 : v16 = .bool (p0 == p1) := h16 rfl; subst h16
            replace h17 : v17 = .bool (p0 == p1) := h17 rfl; subst h17
            replace h18 : v18 = .bool (p0 == p1) := h18 rfl; subst h18
            refine forE_end ?_
            simp only [Act.put, List.getD_cons_zero, List.getD_cons_succ, List.setIfInBounds_toArray, List.set_cons_zero, List.set_cons_succ, Nat.zero_add, Nat.reduceAdd]
            go_wp2
            go_roundw
            case rel => exact ⟨k + 1, (p0 == p1), HJ1.out, by go_num, rfl, hNX.out, hbF.trans (hW.mono hbF.size)⟩
            case measure => have := HJ2.out; simp [intOf]; omega
        · have d1 : decide ((k : Int) < (m0 : Int)) = false := decide_eq_false (by omega)
          have hkE : k = (fewP ps0).length := by rw [← HM0'.out]; omega
          have HEQ0 : Hid ((M0 == M1) = b) := by
            show _ = _
            rw [Bool.eq_iff_iff, beq_iff_eq, HBI.out, HM0.out, HM1.out, layB_inj _ _ _ _ (by omega) (by omega) (fun p hp => by have := fewP_mem ps0 p hp; omega) (fun p hp => by have := fewP_mem ps1 p hp; omega)]
            rw [hkE]
            constructor
            · rintro ⟨h1, h2⟩; rw [h2]; exact ⟨h1, rfl, fun _ _ => rfl⟩
            · rintro ⟨h1, h2, h3⟩; exact ⟨h1, atP_ext h2 h3⟩
          have hbX : Below wX.heap.size wX wr := hbrE.out.trans ((hbEF.out.trans (hbF.mono hzF)).mono hzE)
          have HC70 : Hid (wr.cell? ⟨b7, 0, none⟩ = some (.slice aa0 M0.length ac0)) := (hbX.cell (p := ⟨b7, 0, none⟩) (by show b7 < _; omega)).trans (by rw [cell_of_row wX b7 0 _ 55 (0, 0) H7.out]; rfl)
          have HC71 : Hid (wr.cell? ⟨b7, 1, none⟩ = some (.slice aa1 M1.length ac1)) := (hbX.cell (p := ⟨b7, 1, none⟩) (by show b7 < _; omega)).trans (by rw [cell_of_row wX b7 1 _ 55 (0, 0) H7.out]; rfl)
          have HBM0 : Hid (BSl wr (.slice aa0 M0.length ac0) M0) := hB0.below hbX (Nat.le_refl _)
          have HBM1 : Hid (BSl wr (.slice aa1 M1.length ac1) M1) := hB1.below hbX (Nat.le_refl _)
          have HR0 : Hid (wr.rangeAt (b7 + 1) 0 (c8l Y0)) := range_o hR0 hbX hb8
          have HR1 : Hid (wr.rangeAt (b7 + 1) 32 (c8l Y1)) := range_o hR1 hbX hb8
          have hb8x : b7 + 1 < wr.heap.size := by have := hbX.size; omega
          have hb7x : b7 < wr.heap.size := by omega
          have hbw : Below w.heap.size w wr := hbwr.trans (hbX.mono hbwr.size)
          clear hkE hB0 hB1 hR0 hR1
          cases b
          · have HEQ : Hid ((M0 == M1) = false) := HEQ0.out
            go_upto_region 33 with (fail)
            refine region_txt [some 156, some 157, some 158, some 159, some 160, some 161, some 162, some 163, some 164, some 165, some 166, some 167, some 168, some 169, some 170, some 171, some 172, some 173, some 174, some 175, some 176, some 6] (by kernel_rfl) [] [[], [0], [], [2], [1, 3], [], [4, 5], [6], [7], [7, 8], [7, 9], [10], [10, 11], [10], [10, 13], [10, 12, 14], [7, 10, 15], [7, 16], [17], [18], [18, 19], [20]] [] [] [Is (.pointer (some ⟨b7, 0, none⟩)), Is (.slice aa0 M0.length ac0), Is (.pointer (some ⟨b7, 1, none⟩)), Is (.slice aa1 M1.length ac1), Is (.bool false), Is (.bool false), Is (.bool true), Is (.bool true), Is (.bool false), Is (.bool true), Is (.bool true), Is (undef), Is (undef), Is (undef), Is (undef), Is (undef), Is (.bool true), Is (.bool true), Is (.bool true), Is (.bool true), Is (.bool true), Is (.bool true)] (by kernel_rfl) (by kernel_rfl) (by rfl) ⟨Is.keeps _, Is.keeps _, Is.keeps _, Is.keeps _, Is.keeps _, Is.keeps _, Is.keeps _, Is.keeps _, Is.keeps _, Is.keeps _, Is.keeps _, Is.keeps _, Is.keeps _, Is.keeps _, Is.keeps _, Is.keeps _, Is.keeps _, Is.keeps _, Is.keeps _, Is.keeps _, Is.keeps _, Is.keeps _, trivial⟩ ⟨?_, ?_, ?_, ?_, ?_, ?_, ?_, ?_, ?_, ?_, ?_, ?_, ?_, ?_, ?_, ?_, ?_, ?_, ?_, ?_, ?_, ?_, trivial⟩ ?_
            · intro W hW
              refine forV_nil ?_
              exact opv_run (.pointer (some ⟨b7, 0, none⟩)) (by kernel_rfl) (by kernel_rfl) (does_pure rfl)
            · intro W hW v0 h0
              obtain rfl : v0 = .pointer (some ⟨b7, 0, none⟩) := h0 rfl
              refine forV_nil ?_
              exact opv_run _ (by kernel_rfl) (run_load1 rfl (by kernel_rfl) Tryd.underlying22 rfl ((hW.cell (p := ⟨b7, 0, none⟩) hb7x).trans HC70.out)) (does_pure rfl)
            · intro W hW
              refine forV_nil ?_
              exact opv_run (.pointer (some ⟨b7, 1, none⟩)) (by kernel_rfl) (by kernel_rfl) (does_pure rfl)
            · intro W hW v2 h2
              obtain rfl : v2 = .pointer (some ⟨b7, 1, none⟩) := h2 rfl
              refine forV_nil ?_
              exact opv_run _ (by kernel_rfl) (run_load1 rfl (by kernel_rfl) Tryd.underlying22 rfl ((hW.cell (p := ⟨b7, 1, none⟩) hb7x).trans HC71.out)) (does_pure rfl)
            · intro W hW v1 h1 v3 h3
              obtain rfl : v1 = .slice aa0 M0.length ac0 := h1 rfl
              obtain rfl : v3 = .slice aa1 M1.length ac1 := h3 rfl
              refine forV_nil ?_
              refine opv_call 32 #[.slice aa0 M0.length ac0, .slice aa1 M1.length ac1] (by kernel_rfl) (by kernel_rfl) ((equal_any _ _ M0 M1 W (HBM0.out.below hW (Nat.le_refl _)) (HBM1.out.below hW (Nat.le_refl _))).mono ?_)
              rintro e w1 ⟨rfl, rfl⟩
              rw [HEQ.out]
              exact ⟨_, rfl, does_refl _ _ _ _, rfl⟩
            · intro W hW
              refine forV_nil ?_
              exact opv_run (.bool false) (by kernel_rfl) (by kernel_rfl) (does_pure rfl)
            · intro W hW v4 h4 v5 h5
              obtain rfl : v4 = .bool false := h4 rfl
              obtain rfl : v5 = .bool false := h5 rfl
              refine forV_nil ?_
              exact opv_run (.bool true) (by kernel_rfl) (by kernel_rfl) (does_pure rfl)
            · intro W hW v6 h6
              obtain rfl : v6 = .bool true := h6 rfl
              refine forV_nil ?_
              exact opv_run (.bool true) (by kernel_rfl) (by kernel_rfl) (does_pure rfl)
            · intro W hW v7 h7
              obtain rfl : v7 = .bool true := h7 rfl
              refine forV_nil ?_
              exact opv_run (.bool false) (by kernel_rfl) (by kernel_rfl) (does_pure rfl)
            · intro W hW v7 h7 v8 h8
              obtain rfl : v7 = .bool true := h7 rfl
              obtain rfl : v8 = .bool false := h8 rfl
              refine forV_nil ?_
              exact opv_run (.bool true) (by kernel_rfl) (by kernel_rfl) (does_pure rfl)
            · intro W hW v7 h7 v9 h9
              obtain rfl : v7 = .bool true := h7 rfl
              obtain rfl : v9 = .bool true := h9 rfl
              refine forV_nil ?_
              exact opv_run (.bool true) (by kernel_rfl) (by kernel_rfl) (does_pure rfl)
            · intro W hW v10 h10
              obtain rfl : v10 = .bool true := h10 rfl
              refine forV_nil ?_
              exact opv_skip (by kernel_rfl) (does_pure rfl)
            · intro W hW v10 h10 v11 h11
              obtain rfl : v10 = .bool true := h10 rfl
              obtain rfl : v11 = undef := h11 rfl
              refine forV_nil ?_
              exact opv_skip (by kernel_rfl) (does_pure rfl)
            · intro W hW v10 h10
              obtain rfl : v10 = .bool true := h10 rfl
              refine forV_nil ?_
              exact opv_skip (by kernel_rfl) (does_pure rfl)
            · intro W hW v10 h10 v13 h13
              obtain rfl : v10 = .bool true := h10 rfl
              obtain rfl : v13 = undef := h13 rfl
              refine forV_nil ?_
              exact opv_skip (by kernel_rfl) (does_pure rfl)
            · intro W hW v10 h10 v12 h12 v14 h14
              obtain rfl : v10 = .bool true := h10 rfl
              obtain rfl : v12 = undef := h12 rfl
              obtain rfl : v14 = undef := h14 rfl
              refine forV_nil ?_
              exact opv_skip (by kernel_rfl) (does_pure rfl)
            · intro W hW v7 h7 v10 h10 v15 h15
              obtain rfl : v7 = .bool true := h7 rfl
              obtain rfl : v10 = .bool true := h10 rfl
              obtain rfl : v15 = undef := h15 rfl
              refine forV_nil ?_
              exact opv_run (.bool true) (by kernel_rfl) (by kernel_rfl) (does_pure rfl)
            · intro W hW v7 h7 v16 h16
              obtain rfl : v7 = .bool true := h7 rfl
              obtain rfl : v16 = .bool true := h16 rfl
              refine forV_nil ?_
              exact opv_run (.bool true) (by kernel_rfl) (by kernel_rfl) (does_pure rfl)
            · intro W hW v17 h17
              obtain rfl : v17 = .bool true := h17 rfl
              refine forV_nil ?_
              exact opv_run (.bool true) (by kernel_rfl) (by kernel_rfl) (does_pure rfl)
            · intro W hW v18 h18
              obtain rfl : v18 = .bool true := h18 rfl
              refine forV_nil ?_
              have hbX := hbw.trans (hW.mono hbw.size)
              refine opv_call 27 #[] (by kernel_rfl) (by kernel_rfl) ((wakes_any W (HK0.out.below hbX h3) (HS0.out.below hbX h3) (mid_lt h3 hbX)).mono ?_)
              rintro e w1 ⟨rfl, hb⟩
              exact ⟨_, rfl, does_ext hW hb, rfl⟩
            · intro W hW v18 h18 v19 h19
              obtain rfl : v18 = .bool true := h18 rfl
              obtain rfl : v19 = .bool true := h19 rfl
              refine forV_nil ?_
              exact opv_run (.bool true) (by kernel_rfl) (by kernel_rfl) (does_pure rfl)
            · intro W hW v20 h20
              obtain rfl : v20 = .bool true := h20 rfl
              refine forV_nil ?_
              exact opv_run (.bool true) (by kernel_rfl) (by kernel_rfl) (does_pure rfl)
            intro W hW v0 h0 v1 h1 v2 h2 v3 h3 v4 h4 v5 h5 v6 h6 v7 h7 v8 h8 v9 h9 v10 h10 v11 h11 v12 h12 v13 h13 v14 h14 v15 h15 v16 h16 v17 h17 v18 h18 v19 h19 v20 h20 v21 h21
            replace h0 : v0 = .pointer (some ⟨b7, 0, none⟩) := h0 rfl; subst h0
            replace h1 : v1 = .slice aa0 M0.length ac0 := h1 rfl; subst h1
            replace h2 : v2 = .pointer (some ⟨b7, 1, none⟩) := h2 rfl; subst h2
            replace h3 : v3 = .slice aa1 M1.length ac1 := h3 rfl; subst h3
            replace h4 : v4 = .bool false := h4 rfl; subst h4
            replace h5 : v5 = .bool false := h5 rfl; subst h5
            replace h6 : v6 = .bool true := h6 rfl; subst h6
            replace h7 : v7 = .bool true := h7 rfl; subst h7
            replace h8 : v8 = .bool false := h8 rfl; subst h8
            replace h9 : v9 = .bool true := h9 rfl; subst h9
            replace h10 : v10 = .bool true := h10 rfl; subst h10
            replace h11 : v11 = undef := h11 rfl; subst h11
            replace h12 : v12 = undef := h12 rfl; subst h12
            replace h13 : v13 = undef := h13 rfl; subst h13
            replace h14 : v14 = undef := h14 rfl; subst h14
            replace h15 : v15 = undef := h15 rfl; subst h15
            replace h16 : v16 = .bool true := h16 rfl; subst h16
            replace h17 : v17 = .bool true := h17 rfl; subst h17
            replace h18 : v18 = .bool true := h18 rfl; subst h18
            replace h19 : v19 = .bool true := h19 rfl; subst h19
            replace h20 : v20 = .bool true := h20 rfl; subst h20
            replace h21 : v21 = .bool true := h21 rfl; subst h21
            refine forE_end ?_
            simp only [Act.put, List.getD_cons_zero, List.getD_cons_succ, List.setIfInBounds_toArray, List.set_cons_zero, List.set_cons_succ, Nat.zero_add, Nat.reduceAdd]
            go_wp2
            go_ret
            rw [HXE.out]
            exact ⟨rfl, hbw.trans (hW.mono hbw.size)⟩
          · have HEQ : Hid ((M0 == M1) = true) := HEQ0.out
            have HYY : Hid ((Y0 == Y1) = true) := by
              show _ = _
              rw [beq_iff_eq, HY0.out, HY1.out, beq_iff_eq.1 HEQ.out]
            go_upto_region 33 with (fail)
            refine region_txt [some 156, some 157, some 158, some 159, some 160, some 161, some 162, some 163, some 164, some 165, some 166, some 167, some 168, some 169, some 170, some 171, some 172, some 173, some 174, some 175, some 176, some 6] (by kernel_rfl) [] [[], [0], [], [2], [1, 3], [], [4, 5], [6], [7], [7, 8], [7, 9], [10], [10, 11], [10], [10, 13], [10, 12, 14], [7, 10, 15], [7, 16], [17], [18], [18, 19], [20]] [] [] [Is (.pointer (some ⟨b7, 0, none⟩)), Is (.slice aa0 M0.length ac0), Is (.pointer (some ⟨b7, 1, none⟩)), Is (.slice aa1 M1.length ac1), Is (.bool true), Is (.bool true), Is (.bool true), Is (.bool true), Is (.bool true), Is (.bool false), Is (.bool false), Is (.pointer (some ⟨b7 + 1, 0, none⟩)), Is (.agg (c8 Y0)), Is (.pointer (some ⟨b7 + 1, 32, none⟩)), Is (.agg (c8 Y1)), Is (.bool true), Is (.bool true), Is (.bool true), Is (.bool true), Is (.bool true), Is (.bool true), Is (.bool true)] (by kernel_rfl) (by kernel_rfl) (by rfl) ⟨Is.keeps _, Is.keeps _, Is.keeps _, Is.keeps _, Is.keeps _, Is.keeps _, Is.keeps _, Is.keeps _, Is.keeps _, Is.keeps _, Is.keeps _, Is.keeps _, Is.keeps _, Is.keeps _, Is.keeps _, Is.keeps _, Is.keeps _, Is.keeps _, Is.keeps _, Is.keeps _, Is.keeps _, Is.keeps _, trivial⟩ ⟨?_, ?_, ?_, ?_, ?_, ?_, ?_, ?_, ?_, ?_, ?_, ?_, ?_, ?_, ?_, ?_, ?_, ?_, ?_, ?_, ?_, ?_, trivial⟩ ?_
            · intro W hW
              refine forV_nil ?_
              exact opv_run (.pointer (some ⟨b7, 0, none⟩)) (by kernel_rfl) (by kernel_rfl) (does_pure rfl)
            · intro W hW v0 h0
              obtain rfl : v0 = .pointer (some ⟨b7, 0, none⟩) := h0 rfl
              refine forV_nil ?_
              exact opv_run _ (by kernel_rfl) (run_load1 rfl (by kernel_rfl) Tryd.underlying22 rfl ((hW.cell (p := ⟨b7, 0, none⟩) hb7x).trans HC70.out)) (does_pure rfl)
            · intro W hW
              refine forV_nil ?_
              exact opv_run (.pointer (some ⟨b7, 1, none⟩)) (by kernel_rfl) (by kernel_rfl) (does_pure rfl)
            · intro W hW v2 h2
              obtain rfl : v2 = .pointer (some ⟨b7, 1, none⟩) := h2 rfl
              refine forV_nil ?_
              exact opv_run _ (by kernel_rfl) (run_load1 rfl (by kernel_rfl) Tryd.underlying22 rfl ((hW.cell (p := ⟨b7, 1, none⟩) hb7x).trans HC71.out)) (does_pure rfl)
            · intro W hW v1 h1 v3 h3
              obtain rfl : v1 = .slice aa0 M0.length ac0 := h1 rfl
              obtain rfl : v3 = .slice aa1 M1.length ac1 := h3 rfl
              refine forV_nil ?_
              refine opv_call 32 #[.slice aa0 M0.length ac0, .slice aa1 M1.length ac1] (by kernel_rfl) (by kernel_rfl) ((equal_any _ _ M0 M1 W (HBM0.out.below hW (Nat.le_refl _)) (HBM1.out.below hW (Nat.le_refl _))).mono ?_)
              rintro e w1 ⟨rfl, rfl⟩
              rw [HEQ.out]
              exact ⟨_, rfl, does_refl _ _ _ _, rfl⟩
            · intro W hW
              refine forV_nil ?_
              exact opv_run (.bool true) (by kernel_rfl) (by kernel_rfl) (does_pure rfl)
            · intro W hW v4 h4 v5 h5
              obtain rfl : v4 = .bool true := h4 rfl
              obtain rfl : v5 = .bool true := h5 rfl
              refine forV_nil ?_
              exact opv_run (.bool true) (by kernel_rfl) (by kernel_rfl) (does_pure rfl)
            · intro W hW v6 h6
              obtain rfl : v6 = .bool true := h6 rfl
              refine forV_nil ?_
              exact opv_run (.bool true) (by kernel_rfl) (by kernel_rfl) (does_pure rfl)
            · intro W hW v7 h7
              obtain rfl : v7 = .bool true := h7 rfl
              refine forV_nil ?_
              exact opv_run (.bool true) (by kernel_rfl) (by kernel_rfl) (does_pure rfl)
            · intro W hW v7 h7 v8 h8
              obtain rfl : v7 = .bool true := h7 rfl
              obtain rfl : v8 = .bool true := h8 rfl
              refine forV_nil ?_
              exact opv_run (.bool false) (by kernel_rfl) (by kernel_rfl) (does_pure rfl)
            · intro W hW v7 h7 v9 h9
              obtain rfl : v7 = .bool true := h7 rfl
              obtain rfl : v9 = .bool false := h9 rfl
              refine forV_nil ?_
              exact opv_run (.bool false) (by kernel_rfl) (by kernel_rfl) (does_pure rfl)
            · intro W hW v10 h10
              obtain rfl : v10 = .bool false := h10 rfl
              refine forV_nil ?_
              exact opv_run (.pointer (some ⟨b7 + 1, 0, none⟩)) (by kernel_rfl) (by kernel_rfl) (does_pure rfl)
            · intro W hW v10 h10 v11 h11
              obtain rfl : v10 = .bool false := h10 rfl
              obtain rfl : v11 = .pointer (some ⟨b7 + 1, 0, none⟩) := h11 rfl
              refine forV_nil ?_
              exact opv_run _ (by kernel_rfl) (run_loadM (cs := c8l Y0) rfl (by kernel_rfl) Tryd.underlying43 rfl (by rw [c8l_length, HYL0.out]; exact info43) (range_o HR0.out hW hb8x)) (does_pure rfl)
            · intro W hW v10 h10
              obtain rfl : v10 = .bool false := h10 rfl
              refine forV_nil ?_
              exact opv_run (.pointer (some ⟨b7 + 1, 32, none⟩)) (by kernel_rfl) (by kernel_rfl) (does_pure rfl)
            · intro W hW v10 h10 v13 h13
              obtain rfl : v10 = .bool false := h10 rfl
              obtain rfl : v13 = .pointer (some ⟨b7 + 1, 32, none⟩) := h13 rfl
              refine forV_nil ?_
              exact opv_run _ (by kernel_rfl) (run_loadM (cs := c8l Y1) rfl (by kernel_rfl) Tryd.underlying43 rfl (by rw [c8l_length, HYL1.out]; exact info43) (range_o HR1.out hW hb8x)) (does_pure rfl)
            · intro W hW v10 h10 v12 h12 v14 h14
              obtain rfl : v10 = .bool false := h10 rfl
              obtain rfl : v12 = .agg (c8 Y0) := h12 rfl
              obtain rfl : v14 = .agg (c8 Y1) := h14 rfl
              refine forV_nil ?_
              exact opv_run _ (by kernel_rfl) (run_eql43 rfl (by kernel_rfl) (by kernel_rfl) HYL0.out HYL1.out) (does_pure (by show Value.bool (Y0 == Y1) = _; rw [HYY.out]))
            · intro W hW v7 h7 v10 h10 v15 h15
              obtain rfl : v7 = .bool true := h7 rfl
              obtain rfl : v10 = .bool false := h10 rfl
              obtain rfl : v15 = .bool true := h15 rfl
              refine forV_nil ?_
              exact opv_run (.bool true) (by kernel_rfl) (by kernel_rfl) (does_pure rfl)
            · intro W hW v7 h7 v16 h16
              obtain rfl : v7 = .bool true := h7 rfl
              obtain rfl : v16 = .bool true := h16 rfl
              refine forV_nil ?_
              exact opv_run (.bool true) (by kernel_rfl) (by kernel_rfl) (does_pure rfl)
            · intro W hW v17 h17
              obtain rfl : v17 = .bool true := h17 rfl
              refine forV_nil ?_
              exact opv_run (.bool true) (by kernel_rfl) (by kernel_rfl) (does_pure rfl)
            · intro W hW v18 h18
              obtain rfl : v18 = .bool true := h18 rfl
              refine forV_nil ?_
              have hbX := hbw.trans (hW.mono hbw.size)
              refine opv_call 27 #[] (by kernel_rfl) (by kernel_rfl) ((wakes_any W (HK0.out.below hbX h3) (HS0.out.below hbX h3) (mid_lt h3 hbX)).mono ?_)
              rintro e w1 ⟨rfl, hb⟩
              exact ⟨_, rfl, does_ext hW hb, rfl⟩
            · intro W hW v18 h18 v19 h19
              obtain rfl : v18 = .bool true := h18 rfl
              obtain rfl : v19 = .bool true := h19 rfl
              refine forV_nil ?_
              exact opv_run (.bool true) (by kernel_rfl) (by kernel_rfl) (does_pure rfl)
            · intro W hW v20 h20
              obtain rfl : v20 = .bool true := h20 rfl
              refine forV_nil ?_
              exact opv_run (.bool true) (by kernel_rfl) (by kernel_rfl) (does_pure rfl)
            intro W hW v0 h0 v1 h1 v2 h2 v3 h3 v4 h4 v5 h5 v6 h6 v7 h7 v8 h8 v9 h9 v10 h10 v11 h11 v12 h12 v13 h13 v14 h14 v15 h15 v16 h16 v17 h17 v18 h18 v19 h19 v20 h20 v21 h21
            replace h0 : v0 = .pointer (some ⟨b7, 0, none⟩) := h0 rfl; subst h0
            replace h1 : v1 = .slice aa0 M0.length ac0 := h1 rfl; subst h1
            replace h2 : v2 = .pointer (some ⟨b7, 1, none⟩) := h2 rfl; subst h2
            replace h3 : v3 = .slice aa1 M1.length ac1 := h3 rfl; subst h3
            replace h4 : v4 = .bool true := h4 rfl; subst h4
            replace h5 : v5 = .bool true := h5 rfl; subst h5
            replace h6 : v6 = .bool true := h6 rfl; subst h6
            replace h7 : v7 = .bool true := h7 rfl; subst h7
            replace h8 : v8 = .bool true := h8 rfl; subst h8
            replace h9 : v9 = .bool false := h9 rfl; subst h9
            replace h10 : v10 = .bool false := h10 rfl; subst h10
            replace h11 : v11 = .pointer (some ⟨b7 + 1, 0, none⟩) := h11 rfl; subst h11
            replace h12 : v12 = .agg (c8 Y0) := h12 rfl; subst h12
            replace h13 : v13 = .pointer (some ⟨b7 + 1, 32, none⟩) := h13 rfl; subst h13
            replace h14 : v14 = .agg (c8 Y1) := h14 rfl; subst h14
            replace h15 : v15 = .bool true := h15 rfl; subst h15
            replace h16 : v16 = .bool true := h16 rfl; subst h16
            replace h17 : v17 = .bool true := h17 rfl; subst h17
            replace h18 : v18 = .bool true := h18 rfl; subst h18
            replace h19 : v19 = .bool true := h19 rfl; subst h19
            replace h20 : v20 = .bool true := h20 rfl; subst h20
            replace h21 : v21 = .bool true := h21 rfl; subst h21
            refine forE_end ?_
            simp only [Act.put, List.getD_cons_zero, List.getD_cons_succ, List.setIfInBounds_toArray, List.set_cons_zero, List.set_cons_succ, Nat.zero_add, Nat.reduceAdd]
            go_wp2
            go_ret
            rw [HXE.out]
            exact ⟨rfl, hbw.trans (hW.mono hbw.size)⟩
end Go.Proofs.YtjkicmlelilcaaaDoor
