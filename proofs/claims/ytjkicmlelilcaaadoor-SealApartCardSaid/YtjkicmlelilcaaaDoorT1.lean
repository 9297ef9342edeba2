/- The walk over the law SealTags. Printed by genT1.py. -/
import Derived.Test.YtjkicmlelilcaaaDoorS4
import Derived.Deep.DeepCutAuto
namespace Go.Proofs.YtjkicmlelilcaaaDoor
open Go.RowKit
set_option maxHeartbeats 400000 in
theorem clone28_nil (w : World) : Calls Tryd.prog 28 #[.slice none 0 0] w (Owned w 0 []) := by
  have he := fun w : World => Lib.run_eql_slice_nil (P := Tryd.prog) w 22 5 none 0 0 0 0 Tryd.underlying22
  go_enter Tryd.func28, Tryd.ntmps28
  go_wp2
  go_ret
  exact ⟨_, rfl, ⟨rfl, .inl ⟨rfl, rfl⟩⟩, Below.refl _ _⟩
set_option maxHeartbeats 400000 in
theorem clone28_some (ad : Addr) (c : Nat) (bs : List UInt8) (w : World) (hn : bs.length ≤ 1000000000)
    (hcell : ∀ j u, (c8l bs)[j]? = some u → (w.alloc (.cells #[] 5)).cell? (ad.add j) = some u) :
    Calls Tryd.prog 28 #[.slice (some ad) bs.length c] w (Owned w bs.length bs) := by
  obtain ⟨i0, hi, hz0, hz1, hz2⟩ := info_parts info5
  have HI := Lib.hid hi
  have HZ := Lib.hid hz0
  have H1 := Lib.hid hz1
  have H2 := Lib.hid hz2
  clear hi hz0 hz1 hz2
  have he := fun w : World => Lib.run_eql_slice_nil (P := Tryd.prog) w 22 5 (some ad) bs.length c 0 0 Tryd.underlying22
  have hb0 : Below w.heap.size w (w.alloc (.cells #[] 5)) := (Below.refl _ _).alloc (Nat.le_refl _) _
  have hown : (w.alloc (.cells #[] 5)).ownsRow w.heap.size 5 1 (.slice (some ⟨w.heap.size, 0, none⟩) 0 0) 0 [] := ⟨rfl, .inr ⟨w.heap.size, 0, #[], rfl, Nat.le_refl _, row_new _ _ _, Nat.le_refl _, by unfold maxLen; omega, rfl, rfl⟩⟩
  have HC := Lib.hid hcell
  clear hcell
  go_enter Tryd.func28, Tryd.ntmps28
  go_wp2_with (at_builtin; refine wpList_append_own _ rfl (.tmp 5) (.tmp 6) 22 rfl w.heap.size 5 i0 (.int .u8 0) 1 1 Tryd.underlying22 HI.out HZ.out H1.out H2.out rfl (by decide) _ _ _ rfl hown ad bs.length c (c8l bs) rfl (by rw [c8l_length]; omega) HC.out (c8l_one _) (by unfold maxLen; omega) (by omega) (by simp) ?_)
  intro v' w2 hown2 hg2 _
  have hb2 : Below w.heap.size w w2 := hb0.grown hg2 (by simp) (fun g hg => owns_block hown hg)
  go_wp2
  go_ret
  exact ⟨_, rfl, by simpa using hown2, hb2⟩
/-- bytes.Clone of bytes. -/
theorem clone28_any (kv : Value) (bs : List UInt8) (w : World) (h : BSl w kv bs) (hn : bs.length ≤ 1000000000) : Calls Tryd.prog 28 #[kv] w (Owned w bs.length bs) := by
  rcases h with ⟨rfl, rfl⟩ | ⟨b, off, c, rfl, hc, hlt, hcell⟩ | ⟨a, rfl, rfl⟩
  · exact clone28_nil w
  · refine clone28_some ⟨b, off, none⟩ c bs w hn (fun j u hu => ?_)
    have := news_of hcell j u hu
    rw [Addr.add_mid] at this ⊢
    rw [(alloc_below w).cell (p := ⟨b, off + j, none⟩) hlt]; exact this
  · exact clone28_some a 0 [] w hn (fun j u hu => by simp [c8l] at hu)


/-- A key brought to 32 bytes. -/
def key32 (key : List UInt8) : List UInt8 := key.take 32 ++ List.replicate (32 - (key.take 32).length) 0
theorem key32_length (key : List UInt8) : (key32 key).length = 32 := by simp [key32]; omega
theorem splice_32 (key : List UInt8) : splice (c8l (List.replicate 32 0)) 0 (c8l (key.take 32)) = c8l (key32 key) := by
  unfold splice key32
  rw [List.take_zero, List.nil_append, c8l_append, Nat.zero_add, c8l_length]
  congr 1
  unfold c8l
  rw [← List.map_drop, List.drop_replicate]
def TagC (bb : List UInt8) (w w2 : World) (s : Value) (wx : World) : Prop := ∃ a n c, s = .slice a n c ∧ n = bb.length ∧ BSl w (.slice a n c) bb ∧ wx = w2
attribute [local irreducible] be2 be4 be8 layTo layB chg shaB hmB num key32
set_option maxRecDepth 100000 in
set_option maxHeartbeats 4000000 in
theorem tags_any (kv bv : Value) (key bs : List UInt8) (w : World) (hk : BSl w kv key) (hb : BSl w bv bs) (hK : GlobK w) (hS : GlobS w) (h3 : 3 < w.heap.size) :
    Calls Tryd.prog 8 #[kv, bv] w fun e w' => e = .returned (.bool true) ∧ Below w.heap.size w w' := by
  have HK : Hid (GlobK w) := hK
  have HS : Hid (GlobS w) := hS
  clear hK hS
  obtain ⟨ka, kc, rfl⟩ := hk.len
  obtain ⟨ba, bc, rfl⟩ := hb.len
  obtain ⟨_, hbc⟩ := hb.cap
  have HBY := Lib.hid hb
  clear hb
  obtain ⟨bb, hbb⟩ : ∃ bb, bb = bs.take 300 := ⟨_, rfl⟩
  have hbl : bb.length ≤ 300 := by rw [hbb, List.length_take]; omega
  have HBB := Lib.hid hbb
  clear hbb
  have hb1 : Below w.heap.size w (w.alloc (.cells #[.int .u8 0, .int .u8 0, .int .u8 0, .int .u8 0, .int .u8 0, .int .u8 0, .int .u8 0, .int .u8 0, .int .u8 0, .int .u8 0, .int .u8 0, .int .u8 0, .int .u8 0, .int .u8 0, .int .u8 0, .int .u8 0, .int .u8 0, .int .u8 0, .int .u8 0, .int .u8 0, .int .u8 0, .int .u8 0, .int .u8 0, .int .u8 0, .int .u8 0, .int .u8 0, .int .u8 0, .int .u8 0, .int .u8 0, .int .u8 0, .int .u8 0, .int .u8 0] 43)) := alloc_below w
  have hk1 := (hk.cut rfl 32).below hb1 (Nat.le_refl _)
  have HT : Hid ((key.take 32).length = Nat.min key.length 32) := by show _ = _; rw [List.length_take]; exact Nat.min_comm _ _
  have HP : Hid (0 < (c8l (key.take 32)).length → ∃ ad, ka = some ad ∧ ∀ j v, (c8l (key.take 32))[j]? = some v → (w.alloc (.cells #[.int .u8 0, .int .u8 0, .int .u8 0, .int .u8 0, .int .u8 0, .int .u8 0, .int .u8 0, .int .u8 0, .int .u8 0, .int .u8 0, .int .u8 0, .int .u8 0, .int .u8 0, .int .u8 0, .int .u8 0, .int .u8 0, .int .u8 0, .int .u8 0, .int .u8 0, .int .u8 0, .int .u8 0, .int .u8 0, .int .u8 0, .int .u8 0, .int .u8 0, .int .u8 0, .int .u8 0, .int .u8 0, .int .u8 0, .int .u8 0, .int .u8 0, .int .u8 0] 43)).cell? (ad.add j) = some v) := by
    intro hp
    rw [c8l_length] at hp
    rcases hk1 with ⟨e, h⟩ | ⟨b, off, c1, e, hc1, hlt, hcell⟩ | ⟨_, e, h⟩
    · rw [h] at hp; simp at hp
    · injection e with e1 _ _
      subst e1
      exact ⟨_, rfl, news_of hcell⟩
    · rw [h] at hp; simp at hp
  have HFIT : Hid (0 + (c8l (key.take 32)).length ≤ (c8l (List.replicate 32 0)).length) := by show _ ≤ _; rw [c8l_length, c8l_length, List.length_take, List.length_replicate]; omega
  have HLN : Hid ((c8l (key.take 32)).length = Nat.min key.length 32) := by show _ = _; rw [c8l_length]; exact HT.out
  clear hk1 hk
  obtain ⟨K, hKd⟩ : ∃ K, K = key32 key := ⟨_, rfl⟩
  have HKL : Hid (K.length = 32) := by rw [hKd]; exact key32_length _
  have HKD := Lib.hid hKd
  clear hKd
  go_enter Tryd.func8, Tryd.ntmps8
  go_wp2_with (refine wpList_copy_splice rfl (.tmp 10) (.tmp 11) 22 22 rfl 5 Tryd.underlying22 info5s (some ⟨w.heap.size, 0, none⟩) ka 32 32 key.length kc rfl rfl w.heap.size 0 (c8l (List.replicate 32 0)) 43 (row_new43 w) (c8l (key.take 32)) HLN.out (fun h => ⟨rfl, HP.out h⟩) HFIT.out (c8l_one _) w.heap.size w hb1 (Nat.le_refl _) ?_)
  intro w2 HG2 hb2
  replace HG2 : Hid (w2.heap[w.heap.size]? = some (.cells (c8 K) 43 (0, 0))) := by
    have e : c8 K = (splice (c8l (List.replicate 32 0)) 0 (c8l (key.take 32))).toArray := by rw [splice_32, HKD.out]; rfl
    rw [e]; exact HG2
  go_upto_region 3 with fail
  go_cut [1] (TagC bb w w2)
  case first =>
    have c2 := HBY.out.cut rfl 300
    rw [← HBB.out] at c2
    have C2 := Lib.hid c2
    clear c2
    have HLB : Hid (bb.length = min bs.length 300) := by rw [HBB.out, List.length_take]; exact Nat.min_comm _ _
    by_cases h2 : bs.length ≤ 300
    · have mC2 : min bs.length 300 = bs.length := by omega
      rw [mC2] at C2 HLB
      clear mC2
      go_wp2_with fail
      go_meet
      exact ⟨_, _, _, rfl, HLB.out.symm, C2.out, rfl⟩
    · have mC2 : min bs.length 300 = 300 := by omega
      rw [mC2] at C2 HLB
      clear mC2
      obtain ⟨bb0, bo, rfl⟩ := bsl_big HBY.out (by omega)
      go_wp2_with fail
      go_meet
      exact ⟨_, _, _, rfl, HLB.out.symm, C2.out, rfl⟩
  case rest =>
    obtain ⟨a, n, c, rfl, hn, hbb, rfl⟩ := hcut
    have HN := Lib.hid hn
    have hn300 : n ≤ 300 := by omega
    clear hn
    have hb3 : Below w.heap.size w (wc.alloc (.cells #[.slice a n c] 22)) := hb2.alloc hb2.size _
    have hlw : w.heap.size < wc.heap.size := (Array.getElem?_eq_some_iff.1 HG2.out).1
    have HKB : Hid (BSl (wc.alloc (.cells #[.slice a n c] 22)) (.slice (some ⟨w.heap.size, 0, none⟩) 32 32) K) := (BSl.of_row HG2.out (by rw [HKL.out]; exact Nat.le_refl _) 32 HKL.out.symm).below (alloc_below wc) (Nat.le_refl _)
    go_wp2_with fail
    refine (hmac_any _ _ K _ _ _ HKB.out (by rw [HKL.out]; decide) (one_psl (hbb.below hb2 (Nat.le_refl _))) (by simp) (by simp; omega) (HK.out.below hb3 h3) (HS.out.below hb3 h3) (mid_lt h3 hb3)).mono ?_
    rintro e w3 ⟨rfl, hb4⟩
    rw [show [bb].flatten = bb by simp]
    obtain ⟨Y, hY⟩ : ∃ Y, Y = hmB K bb := ⟨_, rfl⟩
    rw [← hY]
    have HYL : Hid (Y.length = 32) := by rw [hY]; exact hmB_length _ _
    have HY := Lib.hid hY
    clear hY
    have hbw3 : Below w.heap.size w w3 := hb3.trans (hb4.mono hb3.size)
    have hbc3 : Below wc.heap.size wc w3 := (alloc_below wc).trans (hb4.mono (by simp))
    go_wp2_with (refine wpList_store_new (o := { dst := none, op := .store 24 (.tmp 6) (.tmp 21), type := _, pos := _, after := _, guard := none }) rfl (.tmp 6) (.tmp 21) rfl Y HYL.out rfl rfl ?_; intro w4 hb5 HG4 HZ4)
    have hbw4 : Below w.heap.size w w4 := hbw3.trans (hb5.mono hbw3.size)
    have hbc4 : Below wc.heap.size wc w4 := hbc3.trans (hb5.mono hbc3.size)
    have r4 : w4.rangeAt w.heap.size 0 (c8l K) := range_below (range_of_row HG2.out) hbc4 hlw
    have hlt4 : w.heap.size < w4.heap.size := Nat.lt_of_lt_of_le hlw hbc4.size
    have i43 : (Tryd.prog.info? 43).map (·.size) = some (c8l K).length := by rw [c8l_length, HKL.out]; exact info43
    have HC4 : Hid (∀ k, k < 8 → w4.cell? ⟨w3.heap.size, k, none⟩ = some (.int .u8 (N8 (at8 Y k)))) := fun k hk => row8_cell HG4.out k (by rw [HYL.out]; omega)
    go_loop [7, 24] (NumR Y 8) (fun _ i => 8 - (intOf i).toNat)
    case atStart => exact ⟨0, by omega, rfl, by unfold num; rfl⟩
    case round =>
      obtain ⟨k, hk, rfl, rfl⟩ := hrel
      by_cases hkm : k < 8
      · have d1 : decide ((k : Int) < 8) = true := decide_eq_true (by omega)
        have g1 := HC4.out k hkm
        have HO := Lib.hid (or64' (num Y k) (at8 Y k) (num_small Y k (by omega)))
        go_wp2
        go_round
        case rel => exact ⟨k + 1, by omega, by go_num, by rw [HO.out]; conv => rhs; unfold num⟩
        case measure => simp [intOf]; omega
      · have d1 : decide ((k : Int) < 8) = false := decide_eq_false (by omega)
        obtain rfl : k = 8 := by omega
        go_wp2
        have hW0 : Below w4.heap.size w4 w4.drew := (Below.refl _ _).drew
        refine wp_region_held_drew (S := fun W => Below w4.heap.size w4 W) (by kernel_rfl) hW0 (fun _ => ?_)
        refine wpAnyH_take (i := 0) (oi := { dst := some 34, op := Go.Op.load 43 (Go.Operand.tmp 5), type := 43, pos := _, after := _, guard := none }) (v := .agg (c8l K).toArray) rfl (by kernel_rfl) (by kernel_rfl) (by kernel_rfl) (fun _ _ _ h => h) (yieldsIf_load_mid (by kernel_rfl) 43 (.tmp 5) rfl w.heap.size 0 rfl (c8l K) _ (fun w h => range_at r4 h hlt4) Tryd.underlying43 rfl i43) hW0 ?_
        try simp only [Act.put, List.setIfInBounds_toArray, List.set_cons_zero, List.set_cons_succ]
        refine wpAnyH_take (i := 1) (oi := { dst := some 35, op := Go.Op.move (Go.Operand.tmp 1), type := 22, pos := _, after := _, guard := none }) (v := .slice a n c) rfl (by kernel_rfl) (by kernel_rfl) (by kernel_rfl) (fun _ _ _ h => h) (Or.inl ⟨by kernel_rfl, fun w _ => by go_simp⟩) hW0 ?_
        try simp only [Act.put, List.setIfInBounds_toArray, List.set_cons_zero, List.set_cons_succ]
        refine wpAnyH_take (i := 3) (oi := { dst := some 37, op := Go.Op.move (Go.Operand.tmp 7), type := 49, pos := _, after := _, guard := none }) (v := .int .u64 (num Y 8)) rfl (by kernel_rfl) (by kernel_rfl) (by kernel_rfl) (fun _ _ _ h => h) (Or.inl ⟨by kernel_rfl, fun w _ => by go_simp⟩) hW0 ?_
        try simp only [Act.put, List.setIfInBounds_toArray, List.set_cons_zero, List.set_cons_succ]
        refine wpAnyH_ready (rs := [2]) (by kernel_rfl) (by simp) (AllReadyH.cons (o := { dst := some 36, op := Go.Op.call { callee := Go.Callee.value (Go.Operand.func 25), args := #[Go.Operand.tmp 34, Go.Operand.tmp 35], argTypes := #[43, 22] }, type := 49, pos := _, after := _, guard := none }) rfl ?_ AllReadyH.nil)
        intro KK' hK
        rw [if_pos (by kernel_rfl)]
        go_simp
        have hbA : Below w.heap.size w w4.drew := hbw4.trans (hW0.mono hbw4.size)
        refine (tag_any K bb _ _ HKL.out (hbb.below hbA (Nat.le_refl _)) (by omega) (HK.out.below hbA h3) (HS.out.below hbA h3) (mid_lt h3 hbA)).mono ?_
        rintro e W1 ⟨rfl, hb5⟩
        rw [← HY.out]
        have hW1 : Below w4.heap.size w4 W1 := hW0.trans (hb5.mono hW0.size)
        have hbw5 : Below w.heap.size w W1 := hbw4.trans (hW1.mono hbw4.size)
        refine hK.out _ _ hW1 (fun _ => ?_)
        clear hK KK'
        try simp only [Act.put, List.setIfInBounds_toArray, List.set_cons_zero, List.set_cons_succ]
        refine wpAnyH_take (i := 4) (oi := { dst := some 38, op := Go.Op.binOp Go.BinOp.eql 49 (Go.Operand.tmp 36) (Go.Operand.tmp 37) 49, type := 4, pos := _, after := _, guard := none }) (v := .bool true) rfl (by kernel_rfl) (by kernel_rfl) (by kernel_rfl) (fun _ _ _ h => h) (Or.inl ⟨by kernel_rfl, fun w _ => by go_simp⟩) hW1 ?_
        try simp only [Act.put, List.setIfInBounds_toArray, List.set_cons_zero, List.set_cons_succ]
        refine wpAnyH_take (i := 5) (oi := { dst := some 39, op := Go.Op.move (Go.Operand.tmp 38), type := 4, pos := _, after := _, guard := none }) (v := .bool true) rfl (by kernel_rfl) (by kernel_rfl) (by kernel_rfl) (fun _ _ _ h => h) (Or.inl ⟨by kernel_rfl, fun w _ => by go_simp⟩) hW1 ?_
        try simp only [Act.put, List.setIfInBounds_toArray, List.set_cons_zero, List.set_cons_succ]
        refine wpAnyH_take (i := 6) (oi := { dst := some 40, op := Go.Op.load 43 (Go.Operand.tmp 5), type := 43, pos := _, after := _, guard := some (5, true) }) (v := .agg (c8l K).toArray) rfl (by kernel_rfl) (by kernel_rfl) (by kernel_rfl) (fun _ _ _ h => h) (yieldsIf_load_mid (by kernel_rfl) 43 (.tmp 5) rfl w.heap.size 0 rfl (c8l K) _ (fun w h => range_at r4 h hlt4) Tryd.underlying43 rfl i43) hW1 ?_
        try simp only [Act.put, List.setIfInBounds_toArray, List.set_cons_zero, List.set_cons_succ]
        refine wpAnyH_take (i := 7) (oi := { dst := some 41, op := Go.Op.move (Go.Operand.tmp 1), type := 22, pos := _, after := _, guard := some (5, true) }) (v := .slice a n c) rfl (by kernel_rfl) (by kernel_rfl) (by kernel_rfl) (fun _ _ _ h => h) (Or.inl ⟨by kernel_rfl, fun w _ => by go_simp⟩) hW1 ?_
        try simp only [Act.put, List.setIfInBounds_toArray, List.set_cons_zero, List.set_cons_succ]
        refine wpAnyH_take (i := 10) (oi := { dst := some 44, op := Go.Op.move (Go.Operand.tmp 7), type := 49, pos := _, after := _, guard := some (5, true) }) (v := .int .u64 (num Y 8)) rfl (by kernel_rfl) (by kernel_rfl) (by kernel_rfl) (fun _ _ _ h => h) (Or.inl ⟨by kernel_rfl, fun w _ => by go_simp⟩) hW1 ?_
        try simp only [Act.put, List.setIfInBounds_toArray, List.set_cons_zero, List.set_cons_succ]
        refine wpAnyH_ready (rs := [8]) (by kernel_rfl) (by simp) (AllReadyH.cons (o := { dst := some 42, op := Go.Op.call { callee := Go.Callee.value (Go.Operand.func 28), args := #[Go.Operand.tmp 41], argTypes := #[22] }, type := 22, pos := _, after := _, guard := some (5, true) }) rfl ?_ AllReadyH.nil)
        intro KK' hK
        rw [if_pos (by kernel_rfl)]
        go_simp
        refine (clone28_any _ bb W1 (hbb.below hbw5 (Nat.le_refl _)) (by omega)).mono ?_
        rintro e W2 ⟨v6, rfl, hown6, hb6⟩
        have hB6 := BSl.of_owns hown6
        obtain ⟨a6, c6, rfl⟩ := owns_form hown6
        have hW2 : Below w4.heap.size w4 W2 := hW1.trans (hb6.mono hW1.size)
        have hbw6 : Below w.heap.size w W2 := hbw4.trans (hW2.mono hbw4.size)
        refine hK.out _ _ hW2 (fun _ => ?_)
        clear hK KK'
        try simp only [Act.put, List.setIfInBounds_toArray, List.set_cons_zero, List.set_cons_succ]
        refine wpAnyH_ready (rs := [9]) (by kernel_rfl) (by simp) (AllReadyH.cons (o := { dst := some 43, op := Go.Op.call { callee := Go.Callee.value (Go.Operand.func 25), args := #[Go.Operand.tmp 40, Go.Operand.tmp 42], argTypes := #[43, 22] }, type := 49, pos := _, after := _, guard := some (5, true) }) rfl ?_ AllReadyH.nil)
        intro KK' hK
        rw [if_pos (by kernel_rfl)]
        go_simp
        refine (tag_any K bb _ _ HKL.out hB6 (by omega) (HK.out.below hbw6 h3) (HS.out.below hbw6 h3) (mid_lt h3 hbw6)).mono ?_
        rintro e W3 ⟨rfl, hb7⟩
        rw [← HY.out]
        have hW3 : Below w4.heap.size w4 W3 := hW2.trans (hb7.mono hW2.size)
        have hbw7 : Below w.heap.size w W3 := hbw4.trans (hW3.mono hbw4.size)
        refine hK.out _ _ hW3 (fun _ => ?_)
        clear hK KK'
        try simp only [Act.put, List.setIfInBounds_toArray, List.set_cons_zero, List.set_cons_succ]
        refine wpAnyH_take (i := 11) (oi := { dst := some 45, op := Go.Op.binOp Go.BinOp.eql 49 (Go.Operand.tmp 43) (Go.Operand.tmp 44) 49, type := 4, pos := _, after := _, guard := some (5, true) }) (v := .bool true) rfl (by kernel_rfl) (by kernel_rfl) (by kernel_rfl) (fun _ _ _ h => h) (Or.inl ⟨by kernel_rfl, fun w _ => by go_simp⟩) hW3 ?_
        try simp only [Act.put, List.setIfInBounds_toArray, List.set_cons_zero, List.set_cons_succ]
        refine wpAnyH_take (i := 12) (oi := { dst := some 46, op := Go.Op.pick (Go.Operand.tmp 39) (Go.Operand.tmp 45) (Go.Operand.const (Go.Value.bool false)), type := 4, pos := _, after := _, guard := none }) (v := .bool true) rfl (by kernel_rfl) (by kernel_rfl) (by kernel_rfl) (fun _ _ _ h => h) (Or.inl ⟨by kernel_rfl, fun w _ => by go_simp⟩) hW3 ?_
        try simp only [Act.put, List.setIfInBounds_toArray, List.set_cons_zero, List.set_cons_succ]
        refine wpAnyH_take (i := 13) (oi := { dst := some 47, op := Go.Op.move (Go.Operand.tmp 46), type := 4, pos := _, after := _, guard := none }) (v := .bool true) rfl (by kernel_rfl) (by kernel_rfl) (by kernel_rfl) (fun _ _ _ h => h) (Or.inl ⟨by kernel_rfl, fun w _ => by go_simp⟩) hW3 ?_
        try simp only [Act.put, List.setIfInBounds_toArray, List.set_cons_zero, List.set_cons_succ]
        refine wpAnyH_ready (rs := [14]) (by kernel_rfl) (by simp) (AllReadyH.cons (o := { dst := some 48, op := Go.Op.call { callee := Go.Callee.value (Go.Operand.func 27), args := #[], argTypes := #[] }, type := 4, pos := _, after := _, guard := some (13, true) }) rfl ?_ AllReadyH.nil)
        intro KK' hK
        rw [if_pos (by kernel_rfl)]
        go_simp
        refine (wakes_any _ (HK.out.below hbw7 h3) (HS.out.below hbw7 h3) (mid_lt h3 hbw7)).mono ?_
        rintro e W4 ⟨rfl, hb8⟩
        have hW4 : Below w4.heap.size w4 W4 := hW3.trans (hb8.mono hW3.size)
        refine hK.out _ _ hW4 (fun _ => ?_)
        clear hK KK'
        try simp only [Act.put, List.setIfInBounds_toArray, List.set_cons_zero, List.set_cons_succ]
        refine wpAnyH_take (i := 15) (oi := { dst := some 49, op := Go.Op.pick (Go.Operand.tmp 47) (Go.Operand.tmp 48) (Go.Operand.const (Go.Value.bool false)), type := 4, pos := _, after := _, guard := none }) (v := .bool true) rfl (by kernel_rfl) (by kernel_rfl) (by kernel_rfl) (fun _ _ _ h => h) (Or.inl ⟨by kernel_rfl, fun w _ => by go_simp⟩) hW4 ?_
        try simp only [Act.put, List.setIfInBounds_toArray, List.set_cons_zero, List.set_cons_succ]
        refine wpAnyH_take (i := 16) (oi := { dst := some 4, op := Go.Op.assign (Go.Operand.tmp 49), type := 4, pos := _, after := _, guard := none }) (v := .bool true) rfl (by kernel_rfl) (by kernel_rfl) (by kernel_rfl) (fun _ _ _ h => h) (Or.inl ⟨by kernel_rfl, fun w _ => by go_simp⟩) hW4 ?_
        try simp only [Act.put, List.setIfInBounds_toArray, List.set_cons_zero, List.set_cons_succ]
        refine wpAnyH_done (by kernel_rfl) ?_ _
        go_simp
        go_wp2
        go_ret
        exact ⟨rfl, hbw4.trans (hW4.mono hbw4.size)⟩
end Go.Proofs.YtjkicmlelilcaaaDoor
