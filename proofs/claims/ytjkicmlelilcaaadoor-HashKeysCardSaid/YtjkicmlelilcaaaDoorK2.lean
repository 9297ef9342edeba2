/- The walk over the law HashKeys. -/
import Derived.Test.YtjkicmlelilcaaaDoorK1
import Derived.Test.YtjkicmlelilcaaaDoorW11
import Derived.Deep.DeepCutAuto
import Derived.Outline
namespace Go.Proofs.YtjkicmlelilcaaaDoor
open Go.RowKit
theorem u8_xor54 (x : UInt8) : bits .xor .u8 (N8 x) 54 = N8 (x ^^^ 54) := u8_bits_xor x 54
theorem u8_xor92 (x : UInt8) : bits .xor .u8 (N8 x) 92 = N8 (x ^^^ 92) := u8_bits_xor x 92
attribute [local irreducible] chg shaB hmB useK
attribute [local go_sem] u8_xor54 u8_xor92

/-- What the law leaves of key and message: cut at 150. -/
def KeC (kk bb : List UInt8) (w : World) (s0 s1 : Value) (wx : World) : Prop :=
  ∃ a n c a' n' c', s0 = .slice a n c ∧ s1 = .slice a' n' c' ∧ BSl w (.slice a n c) kk ∧ BSl w (.slice a' n' c') bb ∧ Below w.heap.size w wx
theorem KeC.of {kk bb : List UInt8} {w wx : World} {a a' : Option Addr} {n c n' c' : Nat} (h1 : BSl w (.slice a n c) kk) (h2 : BSl w (.slice a' n' c') bb) (h : Below w.heap.size w wx) : KeC kk bb w (.slice a n c) (.slice a' n' c') wx :=
  ⟨a, n, c, a', n', c', rfl, rfl, h1, h2, h⟩
/-- What is held behind the first test: the key that is used, the first hash, whatever lay. -/
def KeO (kk Y : List UInt8) (w : World) (xb : Nat) (s8 : Value) (wx : World) : Prop :=
  ∃ a n c, s8 = .slice a n c ∧ Mine (xb + 1) wx (.slice a n c) (useK kk) ∧ wx.heap[xb]? = some (.cells (c8 Y) 24 (0, 0)) ∧ Below w.heap.size w wx

/-- Two new rows of 64 bytes 0. -/
def KeM (w7 : World) (s11 s12 : Value) (wx : World) : Prop :=
  ∃ g1 g2, s11 = .slice (some ⟨g1, 0, none⟩) 64 64 ∧ s12 = .slice (some ⟨g2, 0, none⟩) 64 64 ∧ g1 ≠ g2 ∧ w7.heap.size ≤ g1 ∧ w7.heap.size ≤ g2 ∧
    wx.heap[g1]? = some (.cells (c8 (List.replicate 64 0)) 5 (0, 0)) ∧ wx.heap[g2]? = some (.cells (c8 (List.replicate 64 0)) 5 (0, 0)) ∧ Below w7.heap.size w7 wx
theorem KeM.of (w7 : World) : KeM w7 (.slice (some ⟨w7.heap.size, 0, none⟩) 64 64) (.slice (some ⟨w7.heap.size + 1, 0, none⟩) 64 64) ((w7.alloc (.cells (c8l (List.replicate 64 0)).toArray 5)).alloc (.cells (c8l (List.replicate 64 0)).toArray 5)).drew := by
  refine ⟨_, _, rfl, rfl, by omega, Nat.le_refl _, by omega, ?_, ?_, (((Below.refl _ _).alloc (Nat.le_refl _) _).alloc (by simp) _).drew⟩
  · exact (Below.heap_alloc _ _ _ (by simp)).trans (row_new _ _ _)
  · have := row_new (w7.alloc (.cells (c8l (List.replicate 64 0)).toArray 5)) (c8l (List.replicate 64 0)).toArray 5
    rw [World.size_alloc] at this
    exact this
theorem KeM.fo (w7 : World) : KeM w7 (.slice (some ⟨w7.heap.size + 1, 0, none⟩) 64 64) (.slice (some ⟨w7.heap.size, 0, none⟩) 64 64) ((w7.alloc (.cells (c8l (List.replicate 64 0)).toArray 5)).alloc (.cells (c8l (List.replicate 64 0)).toArray 5)).drew := by
  obtain ⟨g1, g2, h1, h2, h3, h4, h5, h6, h7, h8⟩ := KeM.of w7
  exact ⟨g2, g1, h2, h1, h3.symm, h5, h4, h7, h6, h8⟩
/-- The law's loop: the first k bytes of the two rows are laid. -/
def KeL (W : List UInt8) (g1 g2 : Nat) (w7 : World) (i : Value) (wr : World) : Prop :=
  ∃ k : Nat, k ≤ 64 ∧ i = .int .i64 k ∧ wr.heap[g1]? = some (.cells (c8 (xin W 54 k)) 5 (0, 0)) ∧ wr.heap[g2]? = some (.cells (c8 (xin W 92 k)) 5 (0, 0)) ∧ Below w7.heap.size w7 wr
theorem BSl.cell_at {w : World} {a : Option Addr} {c : Nat} {bs : List UInt8} (h : BSl w (.slice a 64 c) bs) (hl : bs.length = 64) : ∃ b o, a = some ⟨b, o, none⟩ ∧ b < w.heap.size ∧ ∀ j, j < 64 → w.cell? ⟨b, o + j, none⟩ = some (.int .u8 (N8 (at8 bs j))) := by
  rcases h with ⟨e, rfl⟩ | ⟨b, off, c', e, _, h1, h2⟩ | ⟨a', e, rfl⟩
  · simp at hl
  · injection e with e1 _ _; subst e1; exact ⟨b, off, rfl, h1, fun j hj => h2 j (by omega)⟩
  · simp at hl
theorem BSl.big {w : World} {a : Option Addr} {n c : Nat} {bs : List UInt8} (h : BSl w (.slice a n c) bs) (h0 : 0 < bs.length) : ∃ b o, a = some ⟨b, o, none⟩ := by
  rcases h with ⟨e, rfl⟩ | ⟨b, off, c', e, _⟩ | ⟨a', e, rfl⟩
  · simp at h0
  · cases e; exact ⟨_, _, rfl⟩
  · simp at h0
theorem mod65 (z m : Nat) (h : m ≤ 64) : (z : Int) % (65 - (m : Int)) = ((z % (65 - m) : Nat) : Int) := by rw [show (65 : Int) - (m : Int) = ((65 - m : Nat) : Int) by omega]; rfl
set_option maxRecDepth 100000 in
set_option maxHeartbeats 4000000 in
theorem keys_any (kv bv : Value) (z : Nat) (key bs : List UInt8) (w : World) (hk : BSl w kv key) (hb : BSl w bv bs) (hz : z ≤ 255)
    (hK : GlobK w) (hS : GlobS w) (h3 : 3 < w.heap.size) :
    Calls Tryd.prog 5 #[kv, bv, .int .u8 z] w fun e w' => e = .returned (.bool true) ∧ Below w.heap.size w w' := by
  have HK : Hid (GlobK w) := hK
  have HS : Hid (GlobS w) := hS
  clear hK hS
  obtain ⟨ka, kc, rfl⟩ := hk.len
  obtain ⟨ba, bc, rfl⟩ := hb.len
  obtain ⟨_, hkc⟩ := hk.cap
  obtain ⟨_, hbc⟩ := hb.cap
  have HKY := Lib.hid hk
  have HBY := Lib.hid hb
  clear hk hb
  obtain ⟨kk, hkk⟩ : ∃ kk, kk = key.take 150 := ⟨_, rfl⟩
  obtain ⟨bb, hbb⟩ : ∃ bb, bb = bs.take 150 := ⟨_, rfl⟩
  have hkl : kk.length ≤ 150 := by rw [hkk, List.length_take]; omega
  have hbl : bb.length ≤ 150 := by rw [hbb, List.length_take]; omega
  have HKK := Lib.hid hkk
  have HBB := Lib.hid hbb
  clear hkk hbb
  go_enter Tryd.func5, Tryd.ntmps5
  go_upto_region 1 with fail
  go_cut [0, 1] (KeC kk bb w)
  case first =>
    have c1 := HKY.out.cut rfl 150
    have c2 := HBY.out.cut rfl 150
    rw [← HKK.out] at c1
    rw [← HBB.out] at c2
    have C1 := Lib.hid c1
    have C2 := Lib.hid c2
    clear c1 c2
    by_cases h1 : key.length ≤ 150
    · by_cases h2 : bs.length ≤ 150
      · have mC1 : min key.length 150 = key.length := by omega
        rw [mC1] at C1
        clear mC1
        have mC2 : min bs.length 150 = bs.length := by omega
        rw [mC2] at C2
        clear mC2
        go_quiet (fail)
        go_wp2_with fail
        go_meet
        exact KeC.of C1.out C2.out (below_drewN (Below.refl _ _) _)
      · have mC1 : min key.length 150 = key.length := by omega
        rw [mC1] at C1
        clear mC1
        have mC2 : min bs.length 150 = 150 := by omega
        rw [mC2] at C2
        clear mC2
        obtain ⟨bb0, bo, rfl⟩ := HBY.out.big (by omega)
        go_quiet (fail)
        go_wp2_with fail
        go_meet
        exact KeC.of C1.out C2.out (below_drewN (Below.refl _ _) _)
    · by_cases h2 : bs.length ≤ 150
      · have mC1 : min key.length 150 = 150 := by omega
        rw [mC1] at C1
        clear mC1
        obtain ⟨kb, ko, rfl⟩ := HKY.out.big (by omega)
        have mC2 : min bs.length 150 = bs.length := by omega
        rw [mC2] at C2
        clear mC2
        go_quiet (fail)
        go_wp2_with fail
        go_meet
        exact KeC.of C1.out C2.out (below_drewN (Below.refl _ _) _)
      · have mC1 : min key.length 150 = 150 := by omega
        rw [mC1] at C1
        clear mC1
        obtain ⟨kb, ko, rfl⟩ := HKY.out.big (by omega)
        have mC2 : min bs.length 150 = 150 := by omega
        rw [mC2] at C2
        clear mC2
        obtain ⟨bb0, bo, rfl⟩ := HBY.out.big (by omega)
        go_quiet (fail)
        go_wp2_with fail
        go_meet
        exact KeC.of C1.out C2.out (below_drewN (Below.refl _ _) _)
  case rest =>
    obtain ⟨a, n, c, a', n', c', rfl, rfl, hkk, hbb, hbw⟩ := hcut
    obtain ⟨hn, hnc⟩ := hkk.cap
    obtain ⟨hn', _⟩ := hbb.cap
    have hb0 : Below w.heap.size w (wc.alloc (.cells #[.slice a' n' c'] 22)) := hbw.alloc hbw.size _
    have hn150 : n ≤ 150 := by omega
    have HN := Lib.hid hn
    have HN' := Lib.hid hn'
    clear hn hn'
    go_wp2_with fail
    refine (hmac_any _ _ kk _ _ _ (hkk.below hb0 (Nat.le_refl _)) (by omega) (one_psl (hbb.below hbw (Nat.le_refl _))) (by simp) (by simp; omega) (HK.out.below hb0 h3) (HS.out.below hb0 h3) (mid_lt h3 hb0)).mono ?_
    rintro e w1 ⟨rfl, hb1⟩
    rw [show [bb].flatten = bb by simp]
    obtain ⟨Y, hY⟩ : ∃ Y, Y = hmB kk bb := ⟨_, rfl⟩
    rw [← hY]
    have hYl : Y.length = 32 := by rw [hY]; exact hmB_length _ _
    have HY := Lib.hid hY
    have HYL := Lib.hid hYl
    clear hY hYl
    have hbw1 : Below w.heap.size w w1 := hb0.trans (hb1.mono hb0.size)
    go_wp2_with (refine wpList_store_new (o := { dst := none, op := .store 24 (.tmp 7) (.tmp 29), type := _, pos := _, after := _, guard := none }) rfl (.tmp 7) (.tmp 29) rfl Y HYL.out rfl rfl ?_; intro w2 hb2 HG2 HZ2)
    have hbw2 : Below w.heap.size w w2 := hbw1.trans (hb2.mono hbw1.size)
    refine (clone8_any _ kk _ (hkk.below hbw2 (Nat.le_refl _)) (by omega)).mono ?_
    rintro e w3 ⟨v3, rfl, hown3, hb3⟩
    obtain ⟨a3, c3, hv3⟩ := (BSl.of_owns hown3).len
    rw [hv3] at hown3 ⊢
    clear hv3
    have hbw3 : Below w.heap.size w w3 := hbw2.trans (hb3.mono hbw2.size)
    have HG3 : Hid (w3.heap[w1.heap.size]? = some (.cells (c8 Y) 24 (0, 0))) := (hb3.block _ (by have := HZ2.out; omega)).trans HG2.out
    have hkk3 := hkk.below hbw3 (Nat.le_refl _)
    have hxs3 : w1.heap.size < w3.heap.size := (Array.getElem?_eq_some_iff.1 HG3.out).1
    have hmi3 : Mine (w1.heap.size + 1) w3 (.slice a3 kk.length c3) kk := .inl (by rw [← HZ2.out]; exact hown3)
    have hws1 := hbw1.size
    clear hown3 hb0 hbw hbw1 hbw2 hb1 hb2 hb3 HG2 HZ2
    go_upto_if 34 with fail
    go_cut [8] (KeO kk Y w w1.heap.size)
    case first =>
      by_cases h64 : 64 < n
      · have d64 : decide ((64 : Int) < (n : Int)) = true := decide_eq_true (by omega)
        have hu : useK kk = shaB kk := by unfold useK; exact if_pos (by have := HN.out; omega)
        have HU := Lib.hid hu
        clear hu
        have hb4 : Below w.heap.size w (w3.alloc (.cells #[.slice a n c] 22)) := hbw3.alloc hbw3.size _
        go_wp2_with fail
        refine (sha_any _ _ _ _ (one_psl hkk3) (by simp) (by simp; omega) (HK.out.below hb4 h3) (HS.out.below hb4 h3) (mid_lt h3 hb4)).mono ?_
        rintro e w5 ⟨rfl, hb5⟩
        rw [show [kk].flatten = kk by simp, ← HU.out]
        have hUl : (useK kk).length = 32 := by rw [HU.out]; exact shaB_length _
        have HUL := Lib.hid hUl
        clear hUl
        go_wp2_with (refine wpList_store_new (o := { dst := none, op := .store 24 (.tmp 9) (.tmp 37), type := _, pos := _, after := _, guard := none }) rfl (.tmp 9) (.tmp 37) rfl (useK kk) HUL.out rfl rfl ?_; intro w6 hb6 HG6 HZ6)
        go_meet
        have hb35 : Below w3.heap.size w3 w5 := (alloc_below w3).trans (hb5.mono (by simp))
        have hb36 : Below w3.heap.size w3 w6 := hb35.trans (hb6.mono hb35.size)
        refine ⟨_, _, _, rfl, .inr ⟨w5.heap.size, by rw [HUL.out], by rw [HUL.out]; decide, BSl.of_row HG6.out (by rw [HUL.out]; exact Nat.le_refl _) 32 HUL.out.symm⟩, (hb36.block _ hxs3).trans HG3.out, hbw3.trans (hb36.mono hbw3.size)⟩
      · have d64 : decide ((64 : Int) < (n : Int)) = false := decide_eq_false (by omega)
        have hu : useK kk = kk := by unfold useK; exact if_neg (by have := HN.out; omega)
        have HU := Lib.hid hu
        clear hu
        go_wp2_with fail
        go_meet
        exact ⟨_, _, _, rfl, by rw [HU.out]; exact hmi3, HG3.out, hbw3⟩
    case rest =>
      obtain ⟨a4, n4, c4, rfl, hmi4, hG4, hbw4⟩ := hcut
      obtain ⟨hn4, _⟩ := hmi4.bsl.cap
      have hul := useK_length kk
      have HN4 := Lib.hid hn4
      have hn64 : n4 ≤ 64 := by omega
      have HM := Lib.hid (mod65 z n4 hn64)
      have HG4 := Lib.hid hG4
      clear hn4 hG4
      have hxs4 : w1.heap.size < wc.heap.size := (Array.getElem?_eq_some_iff.1 HG4.out).1
      go_wp2_with (at_builtin; refine wpList_zeros_mine rfl (.tmp 39) (.tmp 45) rfl (w1.heap.size + 1) (z % (65 - n4)) _ (useK kk) rfl (congrArg (Value.int IntKind.i64) HM.out) hmi4 (by have := Nat.mod_lt z (show 65 - n4 > 0 by omega); omega) (by omega) ?_)
      intro v5 w5 hmi5 hb5
      obtain ⟨ow, how⟩ : ∃ ow, ow = useK kk ++ List.replicate (z % (65 - n4)) 0 := ⟨_, rfl⟩
      rw [← how] at hmi5
      have hle : (useK kk).length + z % (65 - n4) ≤ 64 := by have := HN4.out; have := Nat.mod_lt z (show 65 - n4 > 0 by omega); omega
      have hol : ow.length ≤ 64 := by rw [how, List.length_append, List.length_replicate]; exact hle
      have HHM : Hid (hmB ow bb = Y) := by show _ = _; rw [how, hmB_zeros kk bb _ hle]; exact HY.out.symm
      have HKW : Hid (keyW ow = keyW (useK kk)) := by show _ = _; rw [how, keyW_zeros _ _ hle]
      clear how HM hmi4
      obtain ⟨a5, c5, rfl⟩ := hmi5.bsl.len
      have hbw5 : Below w.heap.size w w5 := hbw4.trans (hb5.mono (by omega))
      have hG5 : w5.heap[w1.heap.size]? = some (.cells (c8 Y) 24 (0, 0)) := (hb5.block _ (by omega)).trans HG4.out
      have hxs5 : w1.heap.size < w5.heap.size := (Array.getElem?_eq_some_iff.1 hG5).1
      have r5 : w5.rangeAt w1.heap.size 0 (c8l Y) := range_of_row hG5
      clear hG5 hb5
      have hb6 : Below w.heap.size w (w5.alloc (.cells #[.slice a' n' c'] 22)) := hbw5.alloc hbw5.size _
      have eY : ∀ w : World, (Op.equalIn 10000 24 (.agg (c8 Y)) (.agg (c8l Y).toArray)).run Tryd.prog w = .ok true w := fun w => by have := eq24 Y Y HYL.out HYL.out w; rwa [beq_self_eq_true] at this
      have hu24 := Tryd.underlying24
      have iY : (Tryd.prog.info? 24).map (·.size) = some (c8l Y).length := by rw [c8l_length, HYL.out]; exact info24
      have r5a : (w5.alloc (.cells #[.slice a' n' c'] 22)).rangeAt w1.heap.size 0 (c8l Y) := range_below r5 (alloc_below w5) hxs5
      have hm5 := hmi5.bsl.below (alloc_below (o := .cells #[.slice a' n' c'] 22) w5) (Nat.le_refl _)
      have HC : Hid (Calls Tryd.prog 14 #[.slice a5 ow.length c5, .slice (some ⟨w5.heap.size, 0, none⟩) 1 1] (w5.alloc (.cells #[.slice a' n' c'] 22)).drew fun e w' => e = .returned (.agg (c8 Y)) ∧ Below (w5.alloc (.cells #[.slice a' n' c'] 22)).heap.size (w5.alloc (.cells #[.slice a' n' c'] 22)) w') := by
        have hd : Below (w5.alloc (.cells #[.slice a' n' c'] 22)).heap.size (w5.alloc (.cells #[.slice a' n' c'] 22)) (w5.alloc (.cells #[.slice a' n' c'] 22)).drew := (Below.refl _ _).drew
        refine (hmac_any _ _ ow _ _ _ (hm5.below hd (Nat.le_refl _)) (by omega) ((one_psl (hbb.below hbw5 (Nat.le_refl _))).below hd (Nat.le_refl _)) (by simp) (by simp; omega) (HK.out.below hb6.drew h3) (HS.out.below hb6.drew h3) (mid_lt h3 hb6.drew)).mono fun e w' x => ?_
        rw [show [bb].flatten = bb by simp, HHM.out] at x
        exact ⟨x.1, hd.trans x.2⟩
      go_wp2_with fail
      go_region_held3 (fun W => W.rangeAt w1.heap.size 0 (c8l Y)) (first | exact r5 | exact r5a | exact r6)
        (first | (go_at_call 14; refine HC.out.mono ?_; rintro e w6 ⟨rfl, hb6_1⟩; have r6 : w6.rangeAt w1.heap.size 0 (c8l Y) := range_below r5a hb6_1 (by simp; omega)))
      have hb56 : Below w5.heap.size w5 w6 := (alloc_below w5).trans (hb6_1.mono (by simp))
      clear HC hm5 r5a eY
      have hbw6 : Below w.heap.size w w6 := hbw5.trans (hb56.mono hbw5.size)
      have hmi6 := hmi5.below hb56 (Nat.le_refl _)
      have hxs6 : w1.heap.size < w6.heap.size := Nat.lt_of_lt_of_le hxs5 hb56.size
      clear hmi5 hb6_1 hb6
      have HE64 : Hid ((64 : Int) - (ow.length : Int) = ((64 - ow.length : Nat) : Int)) := by show _ = _; omega
      go_wp2_with (at_builtin; refine wpList_zeros_mine rfl (.tmp 53) (.tmp 56) rfl (w1.heap.size + 1) (64 - ow.length) _ ow rfl (congrArg (Value.int IntKind.i64) HE64.out) hmi6 (by omega) (by omega) ?_)
      intro v7 w7 hmi7 hb7
      have hwl : (ow ++ List.replicate (64 - ow.length) (0 : UInt8)).length = 64 := by simp; omega
      obtain ⟨W, hW⟩ : ∃ W, W = keyW ow := ⟨_, rfl⟩
      rw [show ow ++ List.replicate (64 - ow.length) 0 = W from hW.symm] at hmi7 hwl
      obtain ⟨a7, c7, rfl⟩ := hmi7.bsl.len
      rw [hwl] at hmi7 ⊢
      have HWL := Lib.hid hwl
      have HW : Hid (W = keyW (useK kk)) := by show _ = _; rw [hW]; exact HKW.out
      have hwb := hmi7.bsl
      have hc7 : (64 : Nat) ≤ c7 := hwb.cap.2
      clear hwl hW hmi6 hmi7 HKW HE64
      have hbw7 : Below w.heap.size w w7 := hbw6.trans (hb7.mono (by omega))
      have r7 : w7.rangeAt w1.heap.size 0 (c8l Y) := range_below r6 hb7 (by omega)
      have hxs7 : w1.heap.size < w7.heap.size := Nat.lt_of_lt_of_le hxs6 hb7.size
      clear hb7 r5 r6 hb56
      obtain ⟨wb, wo, rfl, hwlt, hwc⟩ := hwb.cell_at HWL.out
      have HWC := Lib.hid hwc
      clear hwc hwb
      have hmk : ∀ w : World, (Instr.makeSlice 22 (.int .i64 64) (.int .i64 64)).run Tryd.prog w = .ok (.slice (some ⟨w.heap.size, 0, none⟩) 64 64) (w.alloc (.cells (c8l (List.replicate 64 0)).toArray 5)) := make64
      go_wp2_with fail
      go_cut [11, 12] (KeM w7)
      case first =>
        go_region
        all_goals (go_wp2_with fail; go_meet; first | exact KeM.of w7 | exact KeM.fo w7)
      case rest =>
        obtain ⟨g1, g2, rfl, rfl, hg12, hg1, hg2, hR1, hR2, hb8⟩ := hcut
        clear hmk
        go_wp2
        go_loopw [62] (KeL W g1 g2 w7) (fun i _ => 64 - (intOf i).toNat)
        case atStart => exact ⟨0, by omega, rfl, hR1, hR2, hb8⟩
        case round =>
          obtain ⟨k, hk, rfl, hQ1, hQ2, hb9⟩ := hrel
          have HQ1 := Lib.hid hQ1
          have HQ2 := Lib.hid hQ2
          clear hQ1 hQ2
          by_cases h64 : k < 64
          · have d64 : decide ((k : Int) < 64) = true := decide_eq_true (by omega)
            have ck : wr.cell? ⟨wb, wo + k, none⟩ = some (.int .u8 (N8 (at8 W k))) := (hb9.cell (p := ⟨wb, wo + k, none⟩) hwlt).trans (HWC.out k h64)
            have f1 := row_free HQ1.out k
            have f2 := row_free HQ2.out k
            have e1 := row8_cell HQ1.out k (by rw [xin_length]; exact h64)
            have e2 := row8_cell HQ2.out k (by rw [xin_length]; exact h64)
            have HF1 := Lib.hid (row8_set HQ1.out k (at8 W k ^^^ 54))
            go_wp2
            go_roundw
            case rel =>
              refine ⟨k + 1, by omega, by go_num, ?_, ?_, ((hb9.setCell hg1 _).setCell hg2 _)⟩
              · rw [heap_setCell_other _ _ _ _ (by simpa using hg12)]; exact HF1.out
              · exact row8_set ((heap_setCell_other _ _ _ _ (by simpa using hg12.symm)).trans HQ2.out) k (at8 W k ^^^ 92)
            case measure => simp [intOf]; omega
          · have d64 : decide ((k : Int) < 64) = false := decide_eq_false (by omega)
            obtain rfl : k = 64 := by omega
            have hz9 := hb9.size
            have hu64 := useK_length kk
            have x1 : xin W 54 64 = chg (useK kk) 54 := by rw [HW.out]; exact xin_chg _ _ hu64
            have x2 : xin W 92 64 = chg (useK kk) 92 := by rw [HW.out]; exact xin_chg _ _ hu64
            rw [x1] at HQ1
            rw [x2] at HQ2
            clear x1 x2
            have hl1 := chg_length (useK kk) 54 hu64
            have hl2 := chg_length (useK kk) 92 hu64
            have hi9 : BSl wr (.slice (some ⟨g1, 0, none⟩) 64 64) (chg (useK kk) 54) := BSl.of_row HQ1.out (by rw [hl1]; exact Nat.le_refl _) 64 hl1.symm
            have ho9 : BSl wr (.slice (some ⟨g2, 0, none⟩) 64 64) (chg (useK kk) 92) := BSl.of_row HQ2.out (by rw [hl2]; exact Nat.le_refl _) 64 hl2.symm
            have HL1 := Lib.hid hl1
            have HL2 := Lib.hid hl2
            clear hl1 hl2
            have hbw9 : Below w.heap.size w wr := hbw7.trans (hb9.mono hbw7.size)
            have r9 : wr.rangeAt w1.heap.size 0 (c8l Y) := range_below r7 hb9 hxs7
            have hxs9 : w1.heap.size < wr.heap.size := by omega
            have hb10 : Below w.heap.size w (wr.alloc (.cells #[.slice (some ⟨g1, 0, none⟩) 64 64, .slice a' n' c'] 22)) := hbw9.alloc hbw9.size _
            go_wp2_with fail
            refine (sha_any _ _ _ _ (two_psl hi9 (hbb.below hbw9 (Nat.le_refl _))) (by simp) (by simp [HL1.out]; omega) (HK.out.below hb10 h3) (HS.out.below hb10 h3) (mid_lt h3 hb10)).mono ?_
            rintro e w10 ⟨rfl, hb11⟩
            obtain ⟨hm, hhm⟩ : ∃ hm, hm = shaB [chg (useK kk) 54, bb].flatten := ⟨_, rfl⟩
            rw [← hhm]
            have hml : hm.length = 32 := by rw [hhm]; exact shaB_length _
            have HHm := Lib.hid hhm
            have HML := Lib.hid hml
            clear hhm hml
            have hb12 : Below wr.heap.size wr w10 := (alloc_below wr).trans (hb11.mono (by simp))
            go_wp2_with (refine wpList_store_new (o := { dst := none, op := .store 24 (.tmp 15) (.tmp 81), type := _, pos := _, after := _, guard := none }) rfl (.tmp 15) (.tmp 81) rfl hm HML.out rfl rfl ?_; intro w11 hb13 HG11 HZ11)
            go_frame
            have hb14 : Below wr.heap.size wr w11 := hb12.trans (hb13.mono hb12.size)
            have hbw11 : Below w.heap.size w w11 := hbw9.trans (hb14.mono hbw9.size)
            have r11 : w11.rangeAt w1.heap.size 0 (c8l Y) := range_below r9 hb14 hxs9
            have hxs11 : w1.heap.size < w11.heap.size := Nat.lt_of_lt_of_le hxs9 hb14.size
            have ho11 := ho9.below hb14 (Nat.le_refl _)
            have hh11 : BSl w11 (.slice (some ⟨w10.heap.size, 0, none⟩) 32 32) hm := BSl.of_row HG11.out (by rw [HML.out]; exact Nat.le_refl _) 32 HML.out.symm
            have hb15 : Below w.heap.size w (w11.alloc (.cells #[.slice (some ⟨g2, 0, none⟩) 64 64, .slice (some ⟨w10.heap.size, 0, none⟩) 32 32] 22)) := hbw11.alloc hbw11.size _
            have r11a : (w11.alloc (.cells #[.slice (some ⟨g2, 0, none⟩) 64 64, .slice (some ⟨w10.heap.size, 0, none⟩) 32 32] 22)).rangeAt w1.heap.size 0 (c8l Y) := range_below r11 (alloc_below w11) hxs11
            have HFY : Hid (shaB [chg (useK kk) 92, hm].flatten = Y) := by
              show _ = _
              rw [HY.out, HHm.out, ← hm_two]
              simp
            have HC : Hid (Calls Tryd.prog 12 #[.slice (some ⟨w11.heap.size, 0, none⟩) 2 2] (w11.alloc (.cells #[.slice (some ⟨g2, 0, none⟩) 64 64, .slice (some ⟨w10.heap.size, 0, none⟩) 32 32] 22)).drew fun e w' => e = .returned (.agg (c8 Y)) ∧ Below (w11.alloc (.cells #[.slice (some ⟨g2, 0, none⟩) 64 64, .slice (some ⟨w10.heap.size, 0, none⟩) 32 32] 22)).heap.size (w11.alloc (.cells #[.slice (some ⟨g2, 0, none⟩) 64 64, .slice (some ⟨w10.heap.size, 0, none⟩) 32 32] 22)) w') := by
              have hd : Below (w11.alloc (.cells #[.slice (some ⟨g2, 0, none⟩) 64 64, .slice (some ⟨w10.heap.size, 0, none⟩) 32 32] 22)).heap.size (w11.alloc (.cells #[.slice (some ⟨g2, 0, none⟩) 64 64, .slice (some ⟨w10.heap.size, 0, none⟩) 32 32] 22)) (w11.alloc (.cells #[.slice (some ⟨g2, 0, none⟩) 64 64, .slice (some ⟨w10.heap.size, 0, none⟩) 32 32] 22)).drew := (Below.refl _ _).drew
              refine (sha_any _ _ _ _ ((two_psl ho11 hh11).below hd (Nat.le_refl _)) (by simp) (by simp [HL2.out, HML.out]) (HK.out.below hb15.drew h3) (HS.out.below hb15.drew h3) (mid_lt h3 hb15.drew)).mono fun e w' x => ?_
              rw [HFY.out] at x
              exact ⟨x.1, hd.trans x.2⟩
            have eY : ∀ w : World, (Op.equalIn 10000 24 (.agg (c8 Y)) (.agg (c8l Y).toArray)).run Tryd.prog w = .ok true w := fun w => by have := eq24 Y Y HYL.out HYL.out w; rwa [beq_self_eq_true] at this
            go_region_held3 (fun W => W.rangeAt w1.heap.size 0 (c8l Y)) (first | exact r11 | exact r11a | exact r12 | exact r13)
              (first | (go_at_call 12; refine HC.out.mono ?_; rintro e w12 ⟨rfl, hb16⟩; have r12 : w12.rangeAt w1.heap.size 0 (c8l Y) := range_below r11a hb16 (by simp; omega); have hbw12 : Below w.heap.size w w12 := hb15.trans (hb16.mono hb15.size)) | (go_at_call 16; refine (tells_any _ (HK.out.below hbw12 h3) (HS.out.below hbw12 h3) (mid_lt h3 hbw12)).mono ?_; rintro e w13 ⟨rfl, hb17⟩; have r13 : w13.rangeAt w1.heap.size 0 (c8l Y) := range_below r12 hb17 (by have := hb16.size; simp at this; omega)))
            go_wp2
            go_ret
            exact ⟨rfl, hbw12.trans (hb17.mono hbw12.size)⟩
end Go.Proofs.YtjkicmlelilcaaaDoor
