/- The walk over HashParts, printed by gen11.py: case le. -/
import Derived.Test.YtjkicmlelilcaaaDoorW11
namespace Go.Proofs.YtjkicmlelilcaaaDoor
open Go.RowKit
attribute [local irreducible] chg shaB hmB

set_option maxRecDepth 100000 in
set_option maxHeartbeats 4000000 in
theorem parts_le (b off cp kn kc : Nat) (ka : Option Addr) (pa : Option Addr) (vs : List Value) (ps : List (List UInt8)) (key : List UInt8) (w : World) (hpa : 0 < ps.length → pa = some ⟨b, off, none⟩) (hlt : 0 < ps.length → b < w.heap.size) (_hcp : ps.length ≤ cp) (hpm : ps.length ≤ 9223372036854775807)
    (hcell : ∀ j, j < ps.length → w.cell? ⟨b, off + j, none⟩ = some (atV vs j)) (hbs : ∀ j, j < ps.length → BSl w (atV vs j) (atP ps j))
    (hk : BSl w (.slice ka kn kc) key) (hle : kn ≤ 100) (hK : GlobK w) (hS : GlobS w) (h3 : 3 < w.heap.size) :
    Calls Tryd.prog 4 #[.slice pa ps.length cp, .slice ka kn kc] w fun e w' => e = .returned (.bool true) ∧ Below w.heap.size w w' := by
  obtain ⟨i0, hi, hz0, hz1, hz2⟩ := info_parts info22
  have HI := Lib.hid hi
  have HZ := Lib.hid hz0
  have H1 := Lib.hid hz1
  have H2 := Lib.hid hz2
  clear hi hz0 hz1 hz2
  have HK : Hid (GlobK w) := hK
  have HS : Hid (GlobS w) := hS
  have HC := Lib.hid hcell
  have HB := Lib.hid hbs
  have HPA : Hid (0 < ps.length → pa = some ⟨b, off, none⟩) := hpa
  have HLT : Hid (0 < ps.length → b < w.heap.size) := hlt
  clear hK hS hcell hbs hpa hlt
  obtain ⟨hkn, hkc⟩ := hk.cap
  have HKC : Hid (BSl w (.slice ka kn kc) (key.take 100)) := by
    have := hk.cut hkn 100
    rwa [show min kn 100 = kn by omega] at this
  have hkl : (key.take 100).length ≤ 100 := by simp; omega
  have HKN := Lib.hid hkn
  clear hk hkn
  have hown0 : w.ownsRow w.heap.size 22 1 (.slice none 0 0) 0 [] := World.ownsRow_nil w w.heap.size 22 1
  go_enter Tryd.func4, Tryd.ntmps4
  go_wp2
  go_loopw [5, 20] (PaR vs ps.length w) (fun _ i _ => ps.length - (intOf i).toNat)
  case atStart => exact ⟨0, by omega, rfl, hown0, Below.refl _ _⟩
  case round =>
    obtain ⟨k, hk, rfl, hown, hb1⟩ := hrel
    have hz1 := hb1.size
    by_cases hk1 : k < ps.length
    · have d1 : decide ((k : Int) < (ps.length : Int)) = true := decide_eq_true (by omega)
      obtain rfl := HPA.out (by omega)
      have hlt := HLT.out (by omega)
      obtain ⟨a1, c1, hv⟩ := (HB.out k hk1).len
      have hcc := (hv ▸ HB.out k hk1 : BSl w (.slice a1 (atP ps k).length c1) (atP ps k)).cap.2
      have g1 : wr.cell? ⟨b, off + k, none⟩ = some (.slice a1 (atP ps k).length c1) := by rw [← hv, hb1.cell (p := ⟨b, off + k, none⟩) hlt]; exact HC.out k hk1
      have HV := Lib.hid hv
      clear hv
      by_cases h8 : k < 8
      · have d8 : decide ((k : Int) < 8) = true := decide_eq_true (by omega)
        rw [show min k 8 = k by omega] at hown
        by_cases h80 : (atP ps k).length ≤ 80
        · go_wp2_with (at_builtin; refine wpList_append_own _ rfl (.tmp 27) (.tmp 33) 31 rfl w.heap.size 22 i0 (.slice none 0 0) 1 24 Tryd.underlying31 HI.out HZ.out H1.out H2.out rfl (by decide) _ _ _ rfl (hown.alloc _) ⟨wr.heap.size, 0, none⟩ 2 2 [.slice a1 (atP ps k).length c1, .slice none 0 0] rfl rfl (two_new _ _ _ _) (by simp [Value.oneCell']) (by unfold maxLen; omega) (by omega) (by simp; omega) ?_)
          intro v2 w2 hown2 hg2 _
          have hb2 : Below w.heap.size w w2 := (hb1.alloc hz1 _).grown hg2 (by simp; omega) (fun g hg => owns_block hown hg)
          have hown3 : w2.ownsRow w.heap.size 22 1 v2 (2 * min (k + 1) 8) (lawVs vs (min (k + 1) 8)) := by
            rw [show min (k + 1) 8 = k + 1 by omega, lawVs_succ, HV.out]
            simp only [cutV, show min (atP ps k).length 80 = (atP ps k).length by omega]
            exact hown2
          clear hown2 hown hg2
          go_wp2
          go_roundw
          case rel => exact ⟨k + 1, by omega, by go_num, hown3, hb2⟩
          case measure => simp [intOf]; omega
        · go_wp2_with (at_builtin; refine wpList_append_own _ rfl (.tmp 27) (.tmp 33) 31 rfl w.heap.size 22 i0 (.slice none 0 0) 1 24 Tryd.underlying31 HI.out HZ.out H1.out H2.out rfl (by decide) _ _ _ rfl (hown.alloc _) ⟨wr.heap.size, 0, none⟩ 2 2 [.slice a1 80 c1, .slice none 0 0] rfl rfl (two_new _ _ _ _) (by simp [Value.oneCell']) (by unfold maxLen; omega) (by omega) (by simp; omega) ?_)
          intro v2 w2 hown2 hg2 _
          have hb2 : Below w.heap.size w w2 := (hb1.alloc hz1 _).grown hg2 (by simp; omega) (fun g hg => owns_block hown hg)
          have hown3 : w2.ownsRow w.heap.size 22 1 v2 (2 * min (k + 1) 8) (lawVs vs (min (k + 1) 8)) := by
            rw [show min (k + 1) 8 = k + 1 by omega, lawVs_succ, HV.out]
            simp only [cutV, show min (atP ps k).length 80 = 80 by omega]
            exact hown2
          clear hown2 hown hg2
          go_wp2
          go_roundw
          case rel => exact ⟨k + 1, by omega, by go_num, hown3, hb2⟩
          case measure => simp [intOf]; omega
      · have d8 : decide ((k : Int) < 8) = false := decide_eq_false (by omega)
        have hown3 := hown
        rw [show min k 8 = min (k + 1) 8 by omega] at hown3
        go_wp2
        go_roundw
        case rel => exact ⟨k + 1, by omega, by go_num, hown3, hb1⟩
        case measure => simp [intOf]; omega
    · have d1 : decide ((k : Int) < (ps.length : Int)) = false := decide_eq_false (by omega)
      obtain rfl : k = ps.length := by omega
      obtain ⟨m, hm⟩ : ∃ m, m = min ps.length 8 := ⟨_, rfl⟩
      rw [← hm] at hown
      have hm8 : m ≤ 8 := by omega
      have hmp : m ≤ ps.length := by omega
      clear hm
      have hP1 : PSl wr _ (lawVs vs m) (lawPs ps m) := PSl.of_owns hown (by rw [lawVs_length, lawPs_length]) (lawVs_each fun j hj => (HB.out j (by omega)).below hb1 (Nat.le_refl _))
      have hfl := lawPs_flat ps m
      have hll := lawPs_length ps m
      obtain ⟨L, hL⟩ : ∃ L, L = lawPs ps m := ⟨_, rfl⟩
      rw [← hL] at hP1 hfl hll
      obtain ⟨V, hV⟩ : ∃ V, V = lawVs vs m := ⟨_, rfl⟩
      rw [← hV] at hP1 hown
      clear hL hV
      go_wp2_with fail
      refine (concat_any _ V L wr hP1 (by omega) (by omega)).mono ?_
      rintro e w2 ⟨v2, rfl, hown2, hb2⟩
      obtain ⟨bs, hbs⟩ : ∃ bs, bs = L.flatten := ⟨_, rfl⟩
      rw [← hbs] at hown2 hfl
      have HBS := Lib.hid hbs
      clear hbs
      have hP2 := hP1.below hb2 (Nat.le_refl _)
      have hbw2 : Below w.heap.size w w2 := hb1.trans (hb2.mono hb1.size)
      obtain ⟨a2, g, cap, hv2, ha2, hcap, hcm, hgl, hcl⟩ := owned_form hown2
      have hB2 : BSl w2 v2 bs := BSl.of_owns hown2
      rw [hv2] at hB2 ⊢
      have HCL := Lib.hid hcl
      have HGL := Lib.hid hgl
      have HA2 := Lib.hid ha2
      clear hv2 hown2 hcl hgl ha2 hown hP1
      have hownE : w2.ownsRow w2.heap.size 22 1 (.slice none 0 0) 0 [] := World.ownsRow_nil w2 w2.heap.size 22 1
      obtain ⟨wo, rfl⟩ : ∃ wo : World, wo = wr := ⟨_, rfl⟩
      go_wp2
      go_loopw [9, 40] (PaE g cap bs.length w2) (fun _ i _ => bs.length - (intOf i).toNat)
      case atStart => exact ⟨0, by omega, rfl, hownE, Below.refl _ _⟩
      case round =>
        obtain ⟨k, hk, rfl, hown3, hb3⟩ := hrel
        have hz3 := hb3.size
        by_cases hk2 : k < bs.length
        · have d1 : decide ((k : Int) < (bs.length : Int)) = true := decide_eq_true (by omega)
          have ha := HA2.out (by omega)
          subst ha
          have ne1 : ¬ cap = k := by omega
          go_wp2_with (at_builtin; refine wpList_append_own _ rfl (.tmp 43) (.tmp 49) 31 rfl w2.heap.size 22 i0 (.slice none 0 0) 1 24 Tryd.underlying31 HI.out HZ.out H1.out H2.out rfl (by decide) _ _ _ rfl (hown3.alloc _) ⟨wr.heap.size, 0, none⟩ 1 1 [.slice (some ⟨g, k, none⟩) 1 (cap - k)] rfl rfl (cell_one_new _ _ _) (by simp [Value.oneCell']) (by unfold maxLen; omega) (by omega) (by simp; omega) ?_)
          intro v4 w4 hown4 hg4 _
          rw [← eachV_succ] at hown4
          have hb4 : Below w2.heap.size w2 w4 := (hb3.alloc hz3 _).grown hg4 (by simp; omega) (fun g hg => owns_block hown3 hg)
          clear hown3 hg4
          go_wp2
          go_roundw
          case rel => exact ⟨k + 1, by omega, by go_num, hown4, hb4⟩
          case measure => simp [intOf]; omega
        · have d1 : decide ((k : Int) < (bs.length : Int)) = false := decide_eq_false (by omega)
          obtain rfl : k = bs.length := by omega
          have hz3w : w.heap.size ≤ wr.heap.size := Nat.le_trans hbw2.size hz3
          have hbw3 : Below w.heap.size w wr := hbw2.trans (hb3.mono hbw2.size)
          have hB3 := hB2.below hb3 (Nat.le_refl _)
          have hP3 := hP2.below hb3 (Nat.le_refl _)
          have hk3 := HKC.out.below hbw3 (Nat.le_refl _)
          have hPE : PSl wr _ (eachV g cap bs.length) (eachP bs bs.length) := PSl.of_owns hown3 (by simp [eachV, eachP]) (eachV_each hcap (fun hp => Nat.lt_of_lt_of_le (HGL.out hp) hz3) (fun j hj => (hb3.cell (p := ⟨g, j, none⟩) (HGL.out (by omega))).trans (HCL.out j hj)))
          clear hown3 hB2 hP2
          have hb4 : Below w.heap.size w (wr.alloc (.cells #[.slice a2 bs.length cap] 22)) := hbw3.alloc hz3w _
          go_wp2_with fail
          refine (sha_any _ _ _ _ (one_psl hB3) (by simp) (by simp; omega) (HK.out.below hb4 h3) (HS.out.below hb4 h3) (mid_lt h3 hb4)).mono ?_
          rintro e w5 ⟨rfl, hb5⟩
          have hb45 : Below wr.heap.size wr w5 := (alloc_below wr).trans (hb5.mono (by simp))
          have hbw5 : Below w.heap.size w w5 := hbw3.trans (hb45.mono hz3w)
          have hb6 : Below w.heap.size w (w5.alloc (.cells #[.slice a2 bs.length cap] 22)) := hbw5.alloc hbw5.size _
          rw [show [bs].flatten = bs by simp]
          go_wp2_with fail
          refine (hmac_any _ _ _ _ _ _ ((hk3.below hb45 (Nat.le_refl _)).below (alloc_below _) (Nat.le_refl _)) (by omega) (one_psl (hB3.below hb45 (Nat.le_refl _))) (by simp) (by simp; omega) (HK.out.below hb6 h3) (HS.out.below hb6 h3) (mid_lt h3 hb6)).mono ?_
          rintro e w7 ⟨rfl, hb7⟩
          rw [show [bs].flatten = bs by simp]
          have hb57 : Below w5.heap.size w5 w7 := (alloc_below w5).trans (hb7.mono (by simp))
          have hb37 : Below wr.heap.size wr w7 := hb45.trans (hb57.mono hb45.size)
          obtain ⟨X, hX⟩ : ∃ X, X = shaB bs := ⟨_, rfl⟩
          obtain ⟨Y, hY⟩ : ∃ Y, Y = hmB (key.take 100) bs := ⟨_, rfl⟩
          rw [← hX, ← hY]
          have hXl : X.length = 32 := by rw [hX]; exact shaB_length _
          have hYl : Y.length = 32 := by rw [hY]; exact hmB_length _ _
          have HX := Lib.hid hX
          have HY := Lib.hid hY
          clear hX hY
          have HXL := Lib.hid hXl
          have HYL := Lib.hid hYl
          clear hXl hYl
          go_wp2_with (first | (refine wpList_store_two1 (o := { dst := none, op := .store 24 (.tmp 11) (.tmp 54), type := _, pos := _, after := _, guard := none }) rfl (.tmp 11) (.tmp 54) rfl X HXL.out rfl rfl ?_; intro w8 hb8 HG8 HR8 HZ8) | (refine wpList_store_two2 (o := { dst := none, op := .store 24 (.tmp 12) (.tmp 58), type := _, pos := _, after := _, guard := none }) rfl (.tmp 12) (.tmp 58) rfl w7.heap.size Y HYL.out rfl rfl HR8.out ?_; intro w9 HG9 HO9 HZ9))
          go_frame
          have hb79 : Below w7.heap.size w7 w9 := store_two_below hb8 HO9 HZ9.out
          have hx9 : w9.rangeAt w7.heap.size 0 (c8l X) := range_of_row ((HO9 _ (by omega)).trans HG8.out)
          have hy9 : w9.rangeAt (w7.heap.size + 1) 0 (c8l Y) := range_of_row HG9.out
          have hs9 : w7.heap.size + 1 < w9.heap.size := (Array.getElem?_eq_some_iff.1 HG9.out).1
          have hb39 : Below wr.heap.size wr w9 := hb37.trans (hb79.mono hb37.size)
          have hbw9 : Below w.heap.size w w9 := hbw3.trans (hb39.mono hz3w)
          have cA := shaS (X := X) (Y := Y) (hP3.below hb39 (Nat.le_refl _)) (by omega) (by rw [← HBS.out]; omega) (by rw [← HBS.out]; exact HX.out.symm) hbw9 HK.out HS.out h3 hs9
          have cB := shaS (X := X) (Y := Y) (hPE.below hb39 (Nat.le_refl _)) (by simp [eachP]; omega) (by rw [eachP_flat]; omega) (by rw [eachP_flat]; exact HX.out.symm) hbw9 HK.out HS.out h3 hs9
          have cC := hmS2 (X := X) (Y := Y) (hk3.below hb39 (Nat.le_refl _)) (by omega) (hP3.below hb39 (Nat.le_refl _)) (by omega) (by rw [← HBS.out]; omega) (by rw [← HBS.out]; exact HY.out.symm) hbw9 HK.out HS.out h3 hs9
          have cD := hmS2 (X := X) (Y := Y) (hk3.below hb39 (Nat.le_refl _)) (by omega) (hPE.below hb39 (Nat.le_refl _)) (by simp [eachP]; omega) (by rw [eachP_flat]; omega) (by rw [eachP_flat]; exact HY.out.symm) hbw9 HK.out HS.out h3 hs9
          have cE := teS (X := X) (Y := Y) hbw9 HK.out HS.out h3 hs9
          have HCA := Lib.hid cA
          have HCB := Lib.hid cB
          have HCC := Lib.hid cC
          have HCD := Lib.hid cD
          have HCE := Lib.hid cE
          clear cA cB cC cD cE
          have eX : ∀ w : World, (Op.equalIn 10000 24 (.agg (c8 X)) (.agg (c8l X).toArray)).run Tryd.prog w = .ok true w := fun w => by have := eq24 X X HXL.out HXL.out w; rwa [beq_self_eq_true] at this
          have eY : ∀ w : World, (Op.equalIn 10000 24 (.agg (c8 Y)) (.agg (c8l Y).toArray)).run Tryd.prog w = .ok true w := fun w => by have := eq24 Y Y HYL.out HYL.out w; rwa [beq_self_eq_true] at this
          have u24 := Tryd.underlying24
          have iX : (Tryd.prog.info? 24).map (·.size) = some (c8l X).length := by rw [c8l_length, HXL.out]; exact info24
          have iY : (Tryd.prog.info? 24).map (·.size) = some (c8l Y).length := by rw [c8l_length, HYL.out]; exact info24
          have hS9 : w9.drew.rangeAt w7.heap.size 0 (c8l X) ∧ w9.drew.rangeAt (w7.heap.size + 1) 0 (c8l Y) ∧ Below w9.heap.size w9 w9.drew := ⟨hx9, hy9, (Below.refl _ _).drew⟩
          refine wp_region_held_drew (S := fun W => W.rangeAt w7.heap.size 0 (c8l X) ∧ W.rangeAt (w7.heap.size + 1) 0 (c8l Y) ∧ Below w9.heap.size w9 W) (by kernel_rfl) hS9 (fun _ => ?_)
          refine wpAnyH_take (i := 0) (oi := _) (v := u5) rfl (by kernel_rfl) (by kernel_rfl) (by kernel_rfl) (fun _ _ _ h => h) (Or.inl ⟨by rfl, fun w _ => by go_simp⟩) hS9 ?_
          try simp only [Act.put, List.setIfInBounds_toArray]
          refine wpAnyH_take (i := 2) (oi := _) (v := .agg (c8l X).toArray) rfl (by kernel_rfl) (by kernel_rfl) (by kernel_rfl) (fun _ _ _ h => h) (yieldsIf_load_mid (by rfl) 24 (.tmp 11) rfl w7.heap.size 0 rfl (c8l X) _ (fun w h => h.1) Tryd.underlying24 rfl iX) hS9 ?_
          try simp only [Act.put]
          refine wpAnyH_ready (rs := [1]) (by kernel_rfl) (by simp) (AllReadyH.cons rfl ?_ AllReadyH.nil)
          intro K1 hK1
          rw [if_pos (by rfl)]
          go_simp
          refine (HCA.out _ hS9).mono ?_
          rintro e W5 ⟨rfl, hS5⟩
          refine hK1.out _ _ hS5 (fun _ => ?_)
          try simp only [Act.put, List.setIfInBounds_toArray, List.set_cons_zero, List.set_cons_succ]
          refine wpAnyH_take (i := 3) (oi := _) (v := .bool true) rfl (by kernel_rfl) (by kernel_rfl) (by kernel_rfl) (fun _ _ _ h => h) (Or.inl ⟨by rfl, fun w _ => by go_simp⟩) hS5 ?_
          try simp only [Act.put, List.setIfInBounds_toArray]
          refine wpAnyH_take (i := 4) (oi := _) (v := .bool true) rfl (by kernel_rfl) (by kernel_rfl) (by kernel_rfl) (fun _ _ _ h => h) (Or.inl ⟨by rfl, fun w _ => by go_simp⟩) hS5 ?_
          try simp only [Act.put]
          refine wpAnyH_take (i := 5) (oi := _) (v := u9) rfl (by kernel_rfl) (by kernel_rfl) (by kernel_rfl) (fun _ _ _ h => h) (Or.inl ⟨by rfl, fun w _ => by go_simp⟩) hS5 ?_
          try simp only [Act.put]
          refine wpAnyH_take (i := 7) (oi := _) (v := .agg (c8l X).toArray) rfl (by kernel_rfl) (by kernel_rfl) (by kernel_rfl) (fun _ _ _ h => h) (yieldsIf_load_mid (by rfl) 24 (.tmp 11) rfl w7.heap.size 0 rfl (c8l X) _ (fun w h => h.1) Tryd.underlying24 rfl iX) hS5 ?_
          try simp only [Act.put]
          refine wpAnyH_ready (rs := [6]) (by kernel_rfl) (by simp) (AllReadyH.cons rfl ?_ AllReadyH.nil)
          intro K6 hK6
          rw [if_pos (by rfl)]
          go_simp
          refine (HCB.out _ hS5).mono ?_
          rintro e W6 ⟨rfl, hS6⟩
          refine hK6.out _ _ hS6 (fun _ => ?_)
          try simp only [Act.put, List.setIfInBounds_toArray, List.set_cons_zero, List.set_cons_succ]
          refine wpAnyH_take (i := 8) (oi := _) (v := .bool true) rfl (by kernel_rfl) (by kernel_rfl) (by kernel_rfl) (fun _ _ _ h => h) (Or.inl ⟨by rfl, fun w _ => by go_simp⟩) hS6 ?_
          try simp only [Act.put, List.setIfInBounds_toArray]
          refine wpAnyH_take (i := 9) (oi := _) (v := .bool true) rfl (by kernel_rfl) (by kernel_rfl) (by kernel_rfl) (fun _ _ _ h => h) (Or.inl ⟨by rfl, fun w _ => by go_simp⟩) hS6 ?_
          try simp only [Act.put]
          refine wpAnyH_take (i := 10) (oi := _) (v := .bool true) rfl (by kernel_rfl) (by kernel_rfl) (by kernel_rfl) (fun _ _ _ h => h) (Or.inl ⟨by rfl, fun w _ => by go_simp⟩) hS6 ?_
          try simp only [Act.put]
          refine wpAnyH_take (i := 11) (oi := _) (v := .slice ka kn kc) rfl (by kernel_rfl) (by kernel_rfl) (by kernel_rfl) (fun _ _ _ h => h) (Or.inl ⟨by rfl, fun w _ => by go_simp⟩) hS6 ?_
          try simp only [Act.put]
          refine wpAnyH_take (i := 12) (oi := _) (v := u5) rfl (by kernel_rfl) (by kernel_rfl) (by kernel_rfl) (fun _ _ _ h => h) (Or.inl ⟨by rfl, fun w _ => by go_simp⟩) hS6 ?_
          try simp only [Act.put]
          refine wpAnyH_take (i := 14) (oi := _) (v := .agg (c8l Y).toArray) rfl (by kernel_rfl) (by kernel_rfl) (by kernel_rfl) (fun _ _ _ h => h) (yieldsIf_load_mid (by rfl) 24 (.tmp 12) rfl (w7.heap.size + 1) 0 rfl (c8l Y) _ (fun w h => h.2.1) Tryd.underlying24 rfl iY) hS6 ?_
          try simp only [Act.put]
          refine wpAnyH_ready (rs := [13]) (by kernel_rfl) (by simp) (AllReadyH.cons rfl ?_ AllReadyH.nil)
          intro K13 hK13
          rw [if_pos (by rfl)]
          go_simp
          refine (HCC.out _ hS6).mono ?_
          rintro e W7 ⟨rfl, hS7⟩
          refine hK13.out _ _ hS7 (fun _ => ?_)
          try simp only [Act.put, List.setIfInBounds_toArray, List.set_cons_zero, List.set_cons_succ]
          refine wpAnyH_take (i := 15) (oi := _) (v := .bool true) rfl (by kernel_rfl) (by kernel_rfl) (by kernel_rfl) (fun _ _ _ h => h) (Or.inl ⟨by rfl, fun w _ => by go_simp⟩) hS7 ?_
          try simp only [Act.put, List.setIfInBounds_toArray]
          refine wpAnyH_take (i := 16) (oi := _) (v := .bool true) rfl (by kernel_rfl) (by kernel_rfl) (by kernel_rfl) (fun _ _ _ h => h) (Or.inl ⟨by rfl, fun w _ => by go_simp⟩) hS7 ?_
          try simp only [Act.put]
          refine wpAnyH_take (i := 17) (oi := _) (v := .bool true) rfl (by kernel_rfl) (by kernel_rfl) (by kernel_rfl) (fun _ _ _ h => h) (Or.inl ⟨by rfl, fun w _ => by go_simp⟩) hS7 ?_
          try simp only [Act.put]
          refine wpAnyH_take (i := 18) (oi := _) (v := .slice ka kn kc) rfl (by kernel_rfl) (by kernel_rfl) (by kernel_rfl) (fun _ _ _ h => h) (Or.inl ⟨by rfl, fun w _ => by go_simp⟩) hS7 ?_
          try simp only [Act.put]
          refine wpAnyH_take (i := 19) (oi := _) (v := u9) rfl (by kernel_rfl) (by kernel_rfl) (by kernel_rfl) (fun _ _ _ h => h) (Or.inl ⟨by rfl, fun w _ => by go_simp⟩) hS7 ?_
          try simp only [Act.put]
          refine wpAnyH_take (i := 21) (oi := _) (v := .agg (c8l Y).toArray) rfl (by kernel_rfl) (by kernel_rfl) (by kernel_rfl) (fun _ _ _ h => h) (yieldsIf_load_mid (by rfl) 24 (.tmp 12) rfl (w7.heap.size + 1) 0 rfl (c8l Y) _ (fun w h => h.2.1) Tryd.underlying24 rfl iY) hS7 ?_
          try simp only [Act.put]
          refine wpAnyH_ready (rs := [20]) (by kernel_rfl) (by simp) (AllReadyH.cons rfl ?_ AllReadyH.nil)
          intro K20 hK20
          rw [if_pos (by rfl)]
          go_simp
          refine (HCD.out _ hS7).mono ?_
          rintro e W8 ⟨rfl, hS8⟩
          refine hK20.out _ _ hS8 (fun _ => ?_)
          try simp only [Act.put, List.setIfInBounds_toArray, List.set_cons_zero, List.set_cons_succ]
          refine wpAnyH_take (i := 22) (oi := _) (v := .bool true) rfl (by kernel_rfl) (by kernel_rfl) (by kernel_rfl) (fun _ _ _ h => h) (Or.inl ⟨by rfl, fun w _ => by go_simp⟩) hS8 ?_
          try simp only [Act.put, List.setIfInBounds_toArray]
          refine wpAnyH_take (i := 23) (oi := _) (v := .bool true) rfl (by kernel_rfl) (by kernel_rfl) (by kernel_rfl) (fun _ _ _ h => h) (Or.inl ⟨by rfl, fun w _ => by go_simp⟩) hS8 ?_
          try simp only [Act.put]
          refine wpAnyH_take (i := 24) (oi := _) (v := .bool true) rfl (by kernel_rfl) (by kernel_rfl) (by kernel_rfl) (fun _ _ _ h => h) (Or.inl ⟨by rfl, fun w _ => by go_simp⟩) hS8 ?_
          try simp only [Act.put]
          refine wpAnyH_ready (rs := [25]) (by kernel_rfl) (by simp) (AllReadyH.cons rfl ?_ AllReadyH.nil)
          intro K25 hK25
          rw [if_pos (by rfl)]
          go_simp
          refine (HCE.out _ hS8).mono ?_
          rintro e W10 ⟨rfl, hS10⟩
          refine hK25.out _ _ hS10 (fun _ => ?_)
          try simp only [Act.put, List.setIfInBounds_toArray, List.set_cons_zero, List.set_cons_succ]
          refine wpAnyH_take (i := 26) (oi := _) (v := .bool true) rfl (by kernel_rfl) (by kernel_rfl) (by kernel_rfl) (fun _ _ _ h => h) (Or.inl ⟨by rfl, fun w _ => by go_simp⟩) hS10 ?_
          try simp only [Act.put, List.setIfInBounds_toArray]
          refine wpAnyH_take (i := 27) (oi := _) (v := .bool true) rfl (by kernel_rfl) (by kernel_rfl) (by kernel_rfl) (fun _ _ _ h => h) (Or.inl ⟨by rfl, fun w _ => by go_simp⟩) hS10 ?_
          try simp only [Act.put]
          refine wpAnyH_done (by kernel_rfl) ?_ _
          go_simp
          go_wp2
          go_ret
          exact ⟨rfl, hbw9.trans (hS10.2.2.mono hbw9.size)⟩
end Go.Proofs.YtjkicmlelilcaaaDoor
