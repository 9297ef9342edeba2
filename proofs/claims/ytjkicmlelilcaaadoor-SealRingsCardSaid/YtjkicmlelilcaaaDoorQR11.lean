/- Part 11 of the proof: texts of the proof. -/
import Derived.Test.YtjkicmlelilcaaaDoorQR10
import Derived.Below
import Derived.Outline
import Derived.Deep.MidRow
namespace Go.Proofs.YtjkicmlelilcaaaDoor
open Go.RowKit
theorem u64_bits_or (x y : UInt64) : bits .or .u64 (N64 x) (N64 y) = N64 (x ||| y) := by
  have e : bits .or .u64 (N64 x) (N64 y) = IntKind.u64.wrap (N64 (x ||| y)) := by
    unfold bits N64
    simp only [IntKind.bits, BitVec.ofInt_natCast]
    rw [show BitVec.ofNat 64 x.toNat = x.toBitVec by rw [← UInt64.toNat_toBitVec, BitVec.ofNat_toNat, BitVec.setWidth_eq], show BitVec.ofNat 64 y.toNat = y.toBitVec by rw [← UInt64.toNat_toBitVec, BitVec.ofNat_toNat, BitVec.setWidth_eq]]
    rfl
  rw [e, u64_id]
theorem or64 (a : Nat) (c : UInt8) (h : a < 72057594037927936) : bits .or .u64 ((a : Int) * 256 % 18446744073709551616) (N8 c) = ((a * 256 + c.toNat : Nat) : Int) := by
  have hc := c.toNat_lt
  have e1 : (a : Int) * 256 % 18446744073709551616 = N64 (UInt64.ofNat (a * 256)) := by
    unfold N64; rw [UInt64.toNat_ofNat']; omega
  have e2 : N8 c = N64 (UInt64.ofNat c.toNat) := by
    unfold N8 N64; rw [UInt64.toNat_ofNat']; omega
  rw [e1, e2, u64_bits_or]
  unfold N64
  rw [UInt64.toNat_or, UInt64.toNat_ofNat', UInt64.toNat_ofNat', Nat.mod_eq_of_lt (by omega), Nat.mod_eq_of_lt (by omega)]
  have := Nat.two_pow_add_eq_or_of_lt (i := 8) (b := c.toNat) (by omega) a
  rw [show a * 256 = 2 ^ 8 * a by omega, ← this]
theorem or64' (a : Nat) (c : UInt8) (h : a < 72057594037927936) : bits .or .u64 (IntKind.u64.wrap ((a : Int) * 256)) (IntKind.u64.wrap (N8 c)) = ((a * 256 + c.toNat : Nat) : Int) := by
  have e1 : IntKind.u64.wrap ((a : Int) * 256) = (a : Int) * 256 % 18446744073709551616 := by
    rw [show (a : Int) * 256 = ((a * 256 : Nat) : Int) by omega, wrap_u64]; omega
  have e2 : IntKind.u64.wrap (N8 c) = N8 c := by
    have hc := c.toNat_lt
    unfold N8; rw [wrap_u64, Nat.mod_eq_of_lt (by omega)]
  rw [e1, e2, or64 a c h]
def num (l : List UInt8) : Nat → Nat
  | 0 => 0
  | k + 1 => num l k * 256 + (at8 l k).toNat
theorem num_lt (l : List UInt8) (k : Nat) : num l k < 256 ^ k := by
  induction k with
  | zero => simp [num]
  | succ k ih =>
    have := (at8 l k).toNat_lt
    rw [num, Nat.pow_succ]; omega
theorem num_small (l : List UInt8) (k : Nat) (h : k < 8) : num l k < 72057594037927936 :=
  Nat.lt_of_lt_of_le (num_lt l k) (show 256 ^ k ≤ 256 ^ 7 from Nat.pow_le_pow_right (by decide) (by omega))
def notAt (r : Nat) (v : Value) : Prop := ∀ a n c, v = .slice (some a) n c → a.block ≠ r
def RdAt (r : Nat) (bs : List UInt8) (w : World) : Prop :=
  ∃ v, w.heap[r]? = some (.cells #[v, .bool false] 107 (0, 0)) ∧ BSl w v bs ∧ notAt r v
theorem BSl.but {r : Nat} {w w' : World} {v : Value} {bs : List UInt8} (h : BSl w v bs) (hb : But r w w') (hn : notAt r v) : BSl w' v bs := by
  rcases h with h | ⟨b, off, c, e, hc, hlt, hcell⟩ | h
  · exact .inl h
  · subst e
    have hne := hn _ _ _ rfl
    exact .inr (.inl ⟨b, off, c, rfl, hc, Nat.lt_of_lt_of_le hlt hb.size, fun j hj => by rw [World.cell?_of_block (w := w) (a := ⟨b, off + j, none⟩) (hb.block b hlt hne)]; exact hcell j hj⟩)
  · exact .inr (.inr h)
set_option maxHeartbeats 1000000 in
theorem rnew_any (bv : Value) (bs : List UInt8) (w : World) (h : BSl w bv bs) (hn : bs.length ≤ 1000000000) :
    Calls Tryd.prog 30 #[bv] w fun e w' => ∃ r, e = .returned (.pointer (some ⟨r, 0, none⟩)) ∧ w.heap.size ≤ r ∧ RdAt r bs w' ∧ Below w.heap.size w w' := by
  go_enter Tryd.func30, Tryd.ntmps30
  go_wp2_with fail
  refine (clone8_any _ bs w h hn).mono ?_
  rintro e w1 ⟨v1, rfl, hown1, hb1⟩
  have hlt1 : ∀ g, v1.ownBlock = some g → g < w1.heap.size := fun g hg => owns_lt hown1 hg
  obtain ⟨a1, c1, rfl⟩ := owns_form hown1
  go_wp2
  go_ret
  refine ⟨_, rfl, hb1.size, ⟨_, row_new _ _ _, (BSl.of_owns hown1).below (alloc_below w1) (Nat.le_refl _), fun a n c e => ?_⟩, hb1.alloc hb1.size _⟩
  rcases hown1.2 with ⟨h, _⟩ | ⟨g, cap, cur, h, _⟩
  · rw [h] at e; cases e
  · have := hlt1 g (by rw [h]; rfl)
    rw [h] at e; cases e; simp; omega
theorem rd_set {w : World} {p : Nat} {v0 x : Value} (h : w.heap[p]? = some (.cells #[v0, x] 107 (0, 0))) (v : Value) : (w.setCell ⟨p, 0, none⟩ v).heap[p]? = some (.cells #[v, x] 107 (0, 0)) := by
  unfold World.setCell; simp [Array.getElem?_modify, h]
theorem rd_fin {r : Nat} {w w1 : World} {v0 v' : Value} {bs : List UInt8} (hb : Below w.heap.size w w1) (hr : w1.heap[r]? = some (.cells #[v0, .bool false] 107 (0, 0))) (hB : BSl w v' bs) (hn : notAt r v') :
    RdAt r bs (w1.setCell ⟨r, 0, none⟩ v') ∧ But r w (w1.setCell ⟨r, 0, none⟩ v') := by
  have hbut : But r w (w1.setCell ⟨r, 0, none⟩ v') := (But.of_below hb).setCell _
  exact ⟨⟨_, rd_set hr _, hB.but hbut hn, hn⟩, hbut⟩
theorem at8_drop (l : List UInt8) (n j : Nat) : at8 (l.drop n) j = at8 l (n + j) := by
  unfold at8; rw [List.getD_eq_getElem?_getD, List.getElem?_drop, List.getD_eq_getElem?_getD]
theorem at8_take (l : List UInt8) (n j : Nat) (h : j < n) : at8 (l.take n) j = at8 l j := by
  unfold at8; rw [List.getD_eq_getElem?_getD, List.getElem?_take, if_pos h, List.getD_eq_getElem?_getD]
set_option maxRecDepth 100000 in
set_option maxHeartbeats 1000000 in
theorem rtake_any (r n : Nat) (bs : List UInt8) (w : World) (h : RdAt r bs w) (hn : bs.length ≤ 1000000000) (hk : n ≤ bs.length) :
    Calls Tryd.prog 33 #[.pointer (some ⟨r, 0, none⟩), .int .i64 n] w fun e w' => ∃ v, e = .returned v ∧ w'.ownsRow w.heap.size 5 1 v n (c8l (bs.take n)) ∧ RdAt r (bs.drop n) w' ∧ But r w w' := by
  obtain ⟨v, hr, hB, hnot⟩ := h
  have hrl := (Array.getElem?_eq_some_iff.1 hr).1
  have hm : max (n : Int) 0 = n := by omega
  have d1 : decide ((bs.length : Int) < (n : Int)) = false := decide_eq_false (by omega)
  have hC : ∀ vT : Value, BSl w vT (bs.take n) → Calls Tryd.prog 18 #[vT] w (Owned w (bs.take n).length (bs.take n)) := fun vT hT => clone8_any vT (bs.take n) w hT (by rw [List.length_take]; omega)
  have hlt : (bs.take n).length = n := by rw [List.length_take]; omega
  have HLT := Lib.hid hlt
  clear hlt
  rcases hB with ⟨rfl, rfl⟩ | ⟨b, off, c, rfl, hc, hlt, hcell⟩ | ⟨ad, rfl, rfl⟩
  · obtain rfl : n = 0 := by simpa using hk
    have c0 : w.cell? ⟨r, 0, none⟩ = some (.slice none 0 0) := cell_of_row w r 0 _ 107 (0, 0) hr
    have c1 : w.cell? ⟨r, 1, none⟩ = some (.bool false) := cell_of_row w r 1 _ 107 (0, 0) hr
    go_enter Tryd.func33, Tryd.ntmps33
    go_wp2_with fail
    refine (hC _ (.inl ⟨rfl, rfl⟩)).mono ?_
    rintro e w1 ⟨v1, rfl, hown1, hb1⟩
    rw [HLT.out] at hown1
    obtain ⟨a1, k1, rfl⟩ := owns_form hown1
    have hr1 := (hb1.block r hrl).trans hr
    have d0 := cell_of_row w1 r 0 _ 107 (0, 0) hr1
    have f0 : w1.frozen? ⟨r, 0, none⟩ = false := row_free hr1 0
    have HR1 := Lib.hid hr1
    clear hr1
    simp only [List.getElem?_toArray, List.getElem?_cons_zero] at d0
    go_wp2
    go_ret
    exact ⟨_, rfl, owns_setCell hown1 hrl, rd_fin hb1 HR1.out (.inl ⟨rfl, rfl⟩) hnot⟩
  · have c0 : w.cell? ⟨r, 0, none⟩ = some (.slice (some ⟨b, off, none⟩) bs.length c) := cell_of_row w r 0 _ 107 (0, 0) hr
    have c1 : w.cell? ⟨r, 1, none⟩ = some (.bool false) := cell_of_row w r 1 _ 107 (0, 0) hr
    have hnc : n ≤ c := by omega
    have HT : Hid (BSl w (.slice (some ⟨b, off, none⟩) n c) (bs.take n)) := .inr (.inl ⟨b, off, c, by rw [HLT.out], by rw [HLT.out]; exact hnc, hlt, fun j hj => by rw [HLT.out] at hj; rw [at8_take _ _ _ hj]; exact hcell j (by omega)⟩)
    have HR : Hid (BSl w (.slice (some ⟨b, off + n, none⟩) (bs.length - n) (c - n)) (bs.drop n)) := .inr (.inl ⟨b, off + n, c - n, by rw [List.length_drop], by rw [List.length_drop]; omega, hlt, fun j hj => by rw [List.length_drop] at hj; rw [at8_drop, Nat.add_assoc]; exact hcell _ (by omega)⟩)
    have HN : Hid (notAt r (.slice (some ⟨b, off + n, none⟩) (bs.length - n) (c - n))) := fun a k k' e => by cases e; exact hnot ⟨b, off, none⟩ _ _ rfl
    clear hcell
    by_cases hcn : c = n
    · subst hcn
      have hbn : bs.length - c = 0 := by omega
      have HZ : Hid (BSl w (.slice (some ⟨b, off, none⟩) 0 0) (bs.drop c)) := .inr (.inr ⟨_, rfl, List.drop_eq_nil_of_le (by omega)⟩)
      have HN0 : Hid (notAt r (.slice (some ⟨b, off, none⟩) 0 0)) := fun a k k' e => by cases e; exact hnot ⟨b, off, none⟩ _ _ rfl
      go_enter Tryd.func33, Tryd.ntmps33
      go_wp2_with fail
      refine (hC _ HT.out).mono ?_
      rintro e w1 ⟨v1, rfl, hown1, hb1⟩
      rw [HLT.out] at hown1
      obtain ⟨a1, k1, rfl⟩ := owns_form hown1
      have hr1 := (hb1.block r hrl).trans hr
      have d0 := cell_of_row w1 r 0 _ 107 (0, 0) hr1
      have f0 : w1.frozen? ⟨r, 0, none⟩ = false := row_free hr1 0
      have HR1 := Lib.hid hr1
      clear hr1
      simp only [List.getElem?_toArray, List.getElem?_cons_zero] at d0
      go_wp2
      go_ret
      exact ⟨_, rfl, owns_setCell hown1 hrl, rd_fin hb1 HR1.out HZ.out HN0.out⟩
    · go_enter Tryd.func33, Tryd.ntmps33
      go_wp2_with fail
      refine (hC _ HT.out).mono ?_
      rintro e w1 ⟨v1, rfl, hown1, hb1⟩
      rw [HLT.out] at hown1
      obtain ⟨a1, k1, rfl⟩ := owns_form hown1
      have hr1 := (hb1.block r hrl).trans hr
      have d0 := cell_of_row w1 r 0 _ 107 (0, 0) hr1
      have f0 : w1.frozen? ⟨r, 0, none⟩ = false := row_free hr1 0
      have HR1 := Lib.hid hr1
      clear hr1
      simp only [List.getElem?_toArray, List.getElem?_cons_zero] at d0
      go_wp2
      go_ret
      exact ⟨_, rfl, owns_setCell hown1 hrl, rd_fin hb1 HR1.out HR.out HN.out⟩
  · obtain rfl : n = 0 := by simpa using hk
    have c0 : w.cell? ⟨r, 0, none⟩ = some (.slice (some ad) 0 0) := cell_of_row w r 0 _ 107 (0, 0) hr
    have c1 : w.cell? ⟨r, 1, none⟩ = some (.bool false) := cell_of_row w r 1 _ 107 (0, 0) hr
    go_enter Tryd.func33, Tryd.ntmps33
    go_wp2_with fail
    refine (hC _ (.inr (.inr ⟨ad, rfl, rfl⟩))).mono ?_
    rintro e w1 ⟨v1, rfl, hown1, hb1⟩
    rw [HLT.out] at hown1
    obtain ⟨a1, k1, rfl⟩ := owns_form hown1
    have hr1 := (hb1.block r hrl).trans hr
    have d0 := cell_of_row w1 r 0 _ 107 (0, 0) hr1
    have f0 : w1.frozen? ⟨r, 0, none⟩ = false := row_free hr1 0
    have HR1 := Lib.hid hr1
    clear hr1
    simp only [List.getElem?_toArray, List.getElem?_cons_zero] at d0
    go_wp2
    go_ret
    exact ⟨_, rfl, owns_setCell hown1 hrl, rd_fin hb1 HR1.out (.inr (.inr ⟨_, rfl, rfl⟩)) hnot⟩
theorem bsl_big {w : World} {a : Option Addr} {n c : Nat} {bs : List UInt8} (h : BSl w (.slice a n c) bs) (h0 : 0 < bs.length) : ∃ b o, a = some ⟨b, o, none⟩ := by
  rcases h with ⟨e, rfl⟩ | ⟨b, off, c', e, _⟩ | ⟨a', e, rfl⟩
  · simp at h0
  · cases e; exact ⟨_, _, rfl⟩
  · simp at h0
def NumR (l : List UInt8) (m : Nat) (n i : Value) : Prop := ∃ k : Nat, k ≤ m ∧ i = .int .i64 k ∧ n = .int .u64 (num l k)
set_option maxHeartbeats 1000000 in
theorem number_any (r m : Nat) (bs : List UInt8) (w : World) (h : RdAt r bs w) (hn : bs.length ≤ 1000000000) (hk : m ≤ bs.length) (h8 : m ≤ 8) :
    Calls Tryd.prog 64 #[.pointer (some ⟨r, 0, none⟩), .int .i64 m] w fun e w' => e = .returned (.int .u64 (num bs m)) ∧ RdAt r (bs.drop m) w' ∧ But r w w' := by
  go_enter Tryd.func64, Tryd.ntmps64
  go_wp2_with fail
  refine (rtake_any r m bs w h hn hk).mono ?_
  rintro e w1 ⟨v1, rfl, hown1, hrd1, hbut1⟩
  have hlt : (bs.take m).length = m := by rw [List.length_take]; omega
  have hB1 : BSl w1 v1 (bs.take m) := BSl.of_owns (by rw [hlt]; exact hown1)
  obtain ⟨a1, c1, rfl⟩ := owns_form hown1
  by_cases hm : m = 0
  · subst hm
    go_wp2
    go_loop [5, 12] (NumR bs 0) (fun _ i => 0 - (intOf i).toNat)
    case atStart => exact ⟨0, by omega, rfl, rfl⟩
    case round =>
      obtain ⟨k, hk, rfl, rfl⟩ := hrel
      obtain rfl : k = 0 := by omega
      have d1 : decide (((0 : Nat) : Int) < ((0 : Nat) : Int)) = false := by decide
      go_wp2
      go_ret
      exact ⟨rfl, hrd1, hbut1⟩
  · obtain ⟨b1, o1, rfl⟩ := bsl_big hB1 (by omega)
    have hc1 : ∀ k, k < m → w1.cell? ⟨b1, o1 + k, none⟩ = some (.int .u8 (N8 (at8 bs k))) := fun k hk => by
      rcases hB1 with ⟨h, _⟩ | ⟨b, off, c, e, _, _, hx⟩ | ⟨_, _, h⟩
      · cases h
      · rw [hlt] at e hx
        cases e
        rw [← at8_take _ _ _ hk]; exact hx k hk
      · rw [h] at hlt; simp at hlt; omega
    have HC1 := Lib.hid hc1
    clear hc1 hB1
    go_wp2
    go_loop [5, 12] (NumR bs m) (fun _ i => m - (intOf i).toNat)
    case atStart => exact ⟨0, by omega, rfl, rfl⟩
    case round =>
      obtain ⟨k, hk, rfl, rfl⟩ := hrel
      by_cases hkm : k < m
      · have d1 : decide ((k : Int) < (m : Int)) = true := decide_eq_true (by omega)
        have g1 := HC1.out k hkm
        have HO := Lib.hid (or64' (num bs k) (at8 bs k) (num_small bs k (by omega)))
        go_wp2
        go_round
        case rel => exact ⟨k + 1, by omega, by go_num, by rw [HO.out]; rfl⟩
        case measure => simp [intOf]; omega
      · have d1 : decide ((k : Int) < (m : Int)) = false := decide_eq_false (by omega)
        obtain rfl : k = m := by omega
        go_wp2
        go_ret
        exact ⟨rfl, hrd1, hbut1⟩
set_option maxHeartbeats 1000000 in
theorem eight_any (r : Nat) (bs : List UInt8) (w : World) (h : RdAt r bs w) (hn : bs.length ≤ 1000000000) (hk : 8 ≤ bs.length) :
    Calls Tryd.prog 62 #[.pointer (some ⟨r, 0, none⟩)] w fun e w' => e = .returned (.int .u64 (num bs 8)) ∧ RdAt r (bs.drop 8) w' ∧ But r w w' := by
  go_enter Tryd.func62, Tryd.ntmps62
  go_wp2_with fail
  refine (number_any r 8 bs w h hn hk (by omega)).mono ?_
  rintro e w1 ⟨rfl, h1, h2⟩
  go_wp2
  go_ret
  exact ⟨rfl, h1, h2⟩
attribute [local irreducible] chg shaB hmB
theorem Below.of_but {r : Nat} {w0 w w' : World} (h : Below w0.heap.size w0 w) (hr : w0.heap.size ≤ r) (hb : But r w w') : Below w0.heap.size w0 w' :=
  h.trans ⟨hb.os, hb.tape, hb.output, hb.size, fun k hk => hb.block k (Nat.lt_of_lt_of_le hk h.size) (by omega)⟩
set_option maxRecDepth 100000 in
set_option maxHeartbeats 1000000 in
theorem tag_any (k bs : List UInt8) (bv : Value) (w : World) (hk : k.length = 32) (hb : BSl w bv bs) (hn : bs.length ≤ 1000000000) (hK : GlobK w) (hS : GlobS w) (h3 : 3 < w.heap.size) :
    Calls Tryd.prog 25 #[.agg (c8 k), bv] w fun e w' => e = .returned (.int .u64 (num (hmB k bs) 8)) ∧ Below w.heap.size w w' := by
  have HK : Hid (GlobK w) := hK
  have HS : Hid (GlobS w) := hS
  clear hK hS
  obtain ⟨ba, bc, rfl⟩ := hb.len
  have HHL : Hid ((hmB k bs).length = 32) := hmB_length _ _
  obtain ⟨Y, hY⟩ : ∃ Y, Y = hmB k bs := ⟨_, rfl⟩
  rw [← hY] at HHL ⊢
  have HY := Lib.hid hY
  clear hY
  have hb0 : Below w.heap.size w (w.alloc (.cells (c8 k) 43)) := alloc_below w
  have hb1 : Below w.heap.size w ((w.alloc (.cells (c8 k) 43)).alloc (.cells #[.slice ba bs.length bc] 22)) := hb0.alloc (by simp) _
  have HKB : Hid (BSl ((w.alloc (.cells (c8 k) 43)).alloc (.cells #[.slice ba bs.length bc] 22)) (.slice (some ⟨w.heap.size, 0, none⟩) 32 32) k) :=
    (BSl.of_row (row_new w (c8 k) 43) (by omega) 32 hk.symm).below (alloc_below _) (Nat.le_refl _)
  have HPB : Hid (PSl ((w.alloc (.cells (c8 k) 43)).alloc (.cells #[.slice ba bs.length bc] 22)) (.slice (some ⟨w.heap.size + 1, 0, none⟩) 1 1) [.slice ba bs.length bc] [bs]) := by
    have := one_psl (hb.below hb0 (Nat.le_refl _))
    rwa [World.size_alloc] at this
  go_enter Tryd.func25, Tryd.ntmps25
  go_wp2_with fail
  refine (hmac_any _ _ k _ _ _ HKB.out (by omega) HPB.out (by simp) (by simp; omega) (HK.out.below hb1 h3) (HS.out.below hb1 h3) (mid_lt h3 hb1)).mono ?_
  rintro e w2 ⟨rfl, hb2⟩
  rw [show [bs].flatten = bs by simp, ← HY.out]
  have hbw2 : Below w.heap.size w w2 := hb1.trans (hb2.mono hb1.size)
  go_wp2_with (refine wpList_store_new (o := { dst := none, op := .store 24 (.tmp 5) (.tmp 9), type := _, pos := _, after := _, guard := none }) rfl (.tmp 5) (.tmp 9) rfl Y HHL.out rfl rfl ?_; intro w3 hb3 HG3 HZ3)
  have hbw3 : Below w.heap.size w w3 := hbw2.trans (hb3.mono hbw2.size)
  refine (rnew_any _ Y w3 (BSl.of_row HG3.out (by rw [HHL.out]; exact Nat.le_refl _) 32 HHL.out.symm) (by rw [HHL.out]; decide)).mono ?_
  rintro e w4 ⟨r, rfl, hr4, hrd4, hb4⟩
  have hbw4 : Below w.heap.size w w4 := hbw3.trans (hb4.mono hbw3.size)
  have hr5 : w.heap.size ≤ r := Nat.le_trans hbw3.size hr4
  go_wp2_with fail
  refine (eight_any r Y w4 hrd4 (by rw [HHL.out]; decide) (by rw [HHL.out]; decide)).mono ?_
  rintro e w5 ⟨rfl, _, hbut5⟩
  go_wp2
  go_ret
  exact ⟨rfl, Below.of_but hbw4 hr5 hbut5⟩
end Go.Proofs.YtjkicmlelilcaaaDoor
namespace Go.Proofs.YtjkicmlelilcaaaDoor
open Go.RowKit
def layTo (s : List UInt8) (ps : List (List UInt8)) : Nat → List UInt8
  | 0 => be2 s.length ++ s
  | k + 1 => layTo s ps k ++ (be4 (atP ps k).length ++ atP ps k)
def layB (s : List UInt8) (ps : List (List UInt8)) : List UInt8 := layTo s ps ps.length
theorem info43 : (Tryd.prog.info? 43).map (·.size) = some 32 := by kernel_rfl
theorem eq43 (X Y : List UInt8) (hx : X.length = 32) (hy : Y.length = 32) (w : World) : (Op.equalIn 10000 43 (.agg (c8 X)) (.agg (c8 Y))).run Tryd.prog w = .ok (X == Y) w := by
  obtain ⟨i0, hi, _⟩ := info_parts info5c
  rw [run_equalIn_array w 9999 (c8 X) (c8 Y) Tryd.underlying43 hi, cells5, eqItems5 9998 X Y w (List.range 32) (fun i hi => by have := List.mem_range.1 hi; omega), all_eq X Y 32 hx hy]
theorem layTo_le (s : List UInt8) (ps : List (List UInt8)) (k : Nat) (h : k ≤ ps.length) : (layTo s ps k).length = 2 + s.length + 4 * k + (catTo ps k).length := by
  induction k with
  | zero => simp [layTo, be2_length, catTo]
  | succ k ih =>
    rw [layTo, List.length_append, ih (by omega), catTo_succ ps k (by omega), List.length_append, List.length_append, be4_length]; omega
theorem wr_new (w : World) : WrAt w.heap.size [] (w.alloc (.cells #[.slice none 0 0, .int .i64 0] 80)) := ⟨_, row_new _ _ _, rfl, .inl ⟨rfl, rfl⟩⟩
attribute [local irreducible] be2 be4 be8 layTo chg shaB hmB
set_option maxHeartbeats 400000 in
theorem may_any (v : Value) (bs : List UInt8) (w : World) (h : BSl w v bs) : Calls Tryd.prog 57 #[v] w fun e w' => e = .returned (.bool (decide (0 < bs.length) && decide (bs.length ≤ 64))) ∧ w = w' := by
  obtain ⟨a, c, rfl⟩ := h.len
  by_cases h0 : 0 < bs.length
  · have d0 : decide ((0 : Int) < (bs.length : Int)) = true := decide_eq_true (by omega)
    go_enter Tryd.func57, Tryd.ntmps57
    go_wp2
    go_ret
    refine ⟨?_, rfl⟩
    rw [show decide (0 < bs.length) = true from decide_eq_true h0, show decide (bs.length ≤ 64) = decide ((bs.length : Int) ≤ 64) by rw [decide_eq_decide]; omega]; simp
  · have d0 : decide ((0 : Int) < (bs.length : Int)) = false := decide_eq_false (by omega)
    go_enter Tryd.func57, Tryd.ntmps57
    go_wp2
    go_ret
    simp [h0]
theorem results_row_tmp {P : Program} {fn : Func} {p u : Tmp} {ty : TypeId} (h : fn.results = #[.cell p ty, .tmp u]) (tmps : Array Value) (w : World) (g : Nat) (t : TypeId) (cs : Array Value) (fr : Nat × Nat) (d : TypeDesc)
    (hp : tmps.getD p undef = .pointer (some ⟨g, 0, none⟩)) (hg : w.heap[g]? = some (.cells cs t fr))
    (hu : P.underlying ty = some d) (hd : (match d with | .struct _ | .array _ _ => true | _ => false) = true) (hi : (P.info? ty).map (·.size) = some cs.size) :
    (results fn tmps).run P w = .ok (.tuple #[.agg cs, tmps.getD u undef]) w := by
  have hp' : tmps[p]?.getD undef = .pointer (some ⟨g, 0, none⟩) := by simpa using hp
  simp [results, h, hp', asAddr, run_loadVar_row w g t ty cs fr d hg hu hd hi]
theorem psl_form {w : World} {pv : Value} {vs : List Value} {ps : List (List UInt8)} (h : PSl w pv vs ps) : ∃ pa pc, pv = .slice pa ps.length pc ∧ ∀ j, j < ps.length → ∃ b off, pa = some ⟨b, off, none⟩ ∧ b < w.heap.size ∧ w.cell? ⟨b, off + j, none⟩ = some (atV vs j) := by
  rcases h.lies with ⟨rfl, rfl⟩ | ⟨b, off, c, rfl, _, h1, h2⟩
  · exact ⟨_, _, rfl, fun j hj => by simp at hj⟩
  · exact ⟨_, _, rfl, fun j hj => ⟨b, off, rfl, h1, h2 j hj⟩⟩
set_option maxRecDepth 100000 in
set_option maxHeartbeats 2000000 in
theorem derive_any (kv pv : Value) (key s : List UInt8) (vs : List Value) (ps : List (List UInt8)) (w : World) (hk : BSl w kv key) (hP : PSl w pv vs ps) (hk0 : 0 < key.length) (hk1 : key.length ≤ 64) (hs : s.length ≤ 65535)
    (hc0 : ps.length ≤ 1000000) (ht : ps.flatten.length ≤ 100000000) (hK : GlobK w) (hS : GlobS w) (h3 : 3 < w.heap.size) :
    Calls Tryd.prog 23 #[kv, .string ⟨s.toArray⟩, pv] w fun e w' => e = .returned (.tuple #[.agg (c8 (hmB key (layB s ps))), .int .i64 0]) ∧ Below w.heap.size w w' := by
  have HK : Hid (GlobK w) := hK
  have HS : Hid (GlobS w) := hS
  clear hK hS
  obtain ⟨ka, kc, rfl⟩ := hk.len
  obtain ⟨pa, pc, rfl, hF⟩ := psl_form hP
  have HF := Lib.hid hF
  clear hF
  have d0 : decide (0 < key.length) = true := decide_eq_true hk0
  have d1 : decide (key.length ≤ 64) = true := decide_eq_true hk1
  have d2 : decide ((65535 : Int) < (s.length : Int)) = false := decide_eq_false (by omega)
  obtain ⟨S, hS⟩ : ∃ S : ByteArray, S = ⟨s.toArray⟩ := ⟨_, rfl⟩
  have hsz : S.size = s.length := by rw [hS]; simp [ByteArray.size]
  rw [← hS]
  have HSt := Lib.hid hS
  clear hS
  obtain ⟨Y, hY⟩ : ∃ Y, Y = hmB key (layB s ps) := ⟨_, rfl⟩
  have HYL : Hid (Y.length = 32) := by rw [hY]; exact hmB_length _ _
  rw [← hY]
  have HY := Lib.hid hY
  clear hY
  have hr0 : (w.alloc (.cells #[.int .u8 0, .int .u8 0, .int .u8 0, .int .u8 0, .int .u8 0, .int .u8 0, .int .u8 0, .int .u8 0, .int .u8 0, .int .u8 0, .int .u8 0, .int .u8 0, .int .u8 0, .int .u8 0, .int .u8 0, .int .u8 0, .int .u8 0, .int .u8 0, .int .u8 0, .int .u8 0, .int .u8 0, .int .u8 0, .int .u8 0, .int .u8 0, .int .u8 0, .int .u8 0, .int .u8 0, .int .u8 0, .int .u8 0, .int .u8 0, .int .u8 0, .int .u8 0] 43)).heap[w.heap.size]? = some (.cells (c8 (List.replicate 32 0)) 43 (0, 0)) := row_new _ _ _
  have HR0 := Lib.hid hr0
  clear hr0
  go_enter Tryd.func23, Tryd.ntmps23
  go_wp2_with fail
  generalize hw1 : w.alloc _ = w1 at HR0 ⊢
  have hb1 : Below w.heap.size w w1 := by rw [← hw1]; exact alloc_below w
  have hz1 : w1.heap.size = w.heap.size + 1 := by rw [← hw1]; simp
  clear hw1
  have HZ1 := Lib.hid hz1
  clear hz1
  refine (may_any _ key w1 (hk.below hb1 (Nat.le_refl _))).mono ?_
  rintro e w1' ⟨rfl, rfl⟩
  rw [d0, d1]
  go_wp2_with fail
  have hw2 := wr_new w1
  have hb2 : Below w1.heap.size w1 (w1.alloc (.cells #[.slice none 0 0, .int .i64 0] 80)) := alloc_below w1
  rw [HSt.out]
  refine (text_any w1.heap.size [] s _ hw2 (by simp) hs).mono ?_
  rintro e w3 ⟨rfl, hw3, hb3⟩
  rw [List.nil_append] at hw3
  have hb13 : Below w1.heap.size w1 w3 := hb2.trans hb3
  have hb3w : Below w.heap.size w w3 := hb1.trans (hb13.mono (by have := HZ1.out; omega))
  have hb14 := hb13
  clear hb2 hb3 hb13 hw2
  go_wp2
  go_loopw [26] (fun i wr => ∃ k : Nat, k ≤ ps.length ∧ i = .int .i64 k ∧ WrAt w1.heap.size (layTo s ps k) wr ∧ Below w1.heap.size w1 wr) (fun i _ => ps.length - (intOf i).toNat)
  case atStart => exact ⟨0, by omega, rfl, by unfold layTo; exact hw3, hb14⟩
  case round =>
    obtain ⟨k, hkl, rfl, hwr, hbel⟩ := hrel
    have hbw : Below w.heap.size w wr := hb1.trans (hbel.mono (by have := HZ1.out; omega))
    have hlen := layTo_le s ps k hkl
    have hcat := catTo_le ps k
    have HLEN := Lib.hid hlen
    clear hlen
    by_cases hlt : k < ps.length
    · have e1 : decide ((k : Int) < (ps.length : Int)) = true := decide_eq_true (by omega)
      obtain ⟨b, off, rfl, hbl, hcell⟩ := HF.out k hlt
      have hpart := catTo_part ps k hlt
      have hBk := hP.each k hlt
      obtain ⟨a1, c1, hv⟩ := hBk.len
      rw [hv] at hBk hcell
      clear hv
      have g1 : wr.cell? ⟨b, off + k, none⟩ = some (.slice a1 (atP ps k).length c1) := (hbw.cell (p := ⟨b, off + k, none⟩) hbl).trans hcell
      have hpl : (atP ps k).length ≤ 100000000 := by omega
      go_wp2_with fail
      refine (four_any w1.heap.size (atP ps k).length (layTo s ps k) wr hwr (by rw [HLEN.out]; omega) (by omega)).mono ?_
      rintro e w5 ⟨rfl, hw5, hb5⟩
      have hbw5 : Below w.heap.size w w5 := hbw.trans (hb5.mono (by have := HZ1.out; omega))
      go_wp2_with fail
      refine (byte_any w1.heap.size _ (atP ps k) _ w5 hw5 (hBk.below hbw5 (Nat.le_refl _)) (by rw [List.length_append, HLEN.out, be4_length]; omega)).mono ?_
      rintro e w6 ⟨rfl, hw6, hb6⟩
      rw [List.append_assoc] at hw6
      go_wp2
      go_roundw
      case rel => exact ⟨k + 1, by omega, by go_num, by unfold layTo; exact hw6, hbel.trans (hb5.trans hb6)⟩
      case measure => simp [intOf]; omega
    · have e1 : decide ((k : Int) < (ps.length : Int)) = false := decide_eq_false (by omega)
      obtain rfl : k = ps.length := by omega
      go_wp2_with fail
      refine (done_any w1.heap.size (layTo s ps ps.length) wr hwr (by rw [HLEN.out]; omega)).mono ?_
      rintro e w5 ⟨v5, rfl, hown5, hb5⟩
      have hbw5 : Below w.heap.size w w5 := hbw.trans (hb5.mono (by have := HZ1.out; omega))
      have hB5 := BSl.of_owns hown5
      obtain ⟨a5, c5, rfl⟩ := owns_form hown5
      have hb6 : Below w.heap.size w (w5.alloc (.cells #[.slice a5 (layTo s ps ps.length).length c5] 22)) := hbw5.alloc hbw5.size _
      go_wp2_with fail
      refine (hmac_any _ _ key _ _ _ (hk.below hb6 (Nat.le_refl _)) (by omega) (one_psl hB5) (by simp) (by simp [HLEN.out]; omega) (HK.out.below hb6 h3) (HS.out.below hb6 h3) (mid_lt h3 hb6)).mono ?_
      rintro e w7 ⟨rfl, hb7⟩
      rw [show [layTo s ps ps.length].flatten = layB s ps by simp [layB], ← HY.out]
      have hbw7 : Below w.heap.size w w7 := hb6.trans (hb7.mono hb6.size)
      have HR7 : Hid (w7.heap[w.heap.size]? = some (.cells (c8 (List.replicate 32 0)) 43 (0, 0))) := by
        show _ = _
        have h15 : Below w1.heap.size w1 w7 := (hbel.trans hb5).trans (((alloc_below w5).trans (hb7.mono (by simp))).mono (Nat.le_trans hbel.size hb5.size))
        rw [h15.block _ (by have := HZ1.out; omega)]; exact HR0.out
      have HI43 : Hid ((Tryd.prog.info? 43).map (·.size) = some (c8 Y).size) := by rw [c8_size, HYL.out]; exact info43
      have HQ : Hid ((c8 (List.replicate 32 0)).size = (c8 Y).size) := by rw [c8_size, c8_size, HYL.out]; simp [Hid]
      go_wp2_with (refine wpList_store_row rfl 43 (.tmp 6) (.tmp 44) rfl w.heap.size (c8 Y) rfl rfl 43 _ HR7.out HI43.out HQ.out (c8_one _) ?_)
      refine bodyPost_ret (results_row_tmp (p := 6) (u := 7) (ty := 43) rfl _ _ w.heap.size 43 _ (0, 0) _ rfl (setRow_heap _ _ _ _ _ _ HR7.out) Tryd.underlying43 rfl HI43.out) rfl ?_
      exact ⟨rfl, below_setRow hbw7 (Nat.le_refl _) _⟩
end Go.Proofs.YtjkicmlelilcaaaDoor
namespace Go.Proofs.YtjkicmlelilcaaaDoor
open Go.RowKit
theorem owns_up {B B' : Nat} {w : World} {v : Value} {n : Nat} {xs : List Value} (h : w.ownsRow B 5 1 v n xs) (hB : B' ≤ B) : w.ownsRow B' 5 1 v n xs := by
  refine ⟨h.1, ?_⟩
  rcases h.2 with h | ⟨g, cap, cur, e1, h1, h2⟩
  · exact .inl h
  · exact .inr ⟨g, cap, cur, e1, by omega, h2⟩
attribute [local irreducible] be2 be4 be8
end Go.Proofs.YtjkicmlelilcaaaDoor
namespace Go.Proofs.YtjkicmlelilcaaaDoor
open Go.RowKit
def keyB : List UInt8 := [107, 101, 121]
def helloB : List UInt8 := [104, 101, 108, 108, 111]
def msgB : List UInt8 := [0, 5, 104, 101, 108, 108, 111]
set_option maxRecDepth 100000 in
theorem hm_key : hmB keyB msgB = [136, 53, 124, 184, 32, 248, 132, 195, 130, 224, 126, 149, 214, 156, 43, 34, 232, 197, 60, 110, 153, 58, 239, 137, 131, 9, 39, 206, 241, 141, 131, 118] := by decide +kernel
theorem lay_hello : layB helloB [] = msgB := by decide
theorem row_new43 (w : World) : (w.alloc (.cells #[.int .u8 0, .int .u8 0, .int .u8 0, .int .u8 0, .int .u8 0, .int .u8 0, .int .u8 0, .int .u8 0, .int .u8 0, .int .u8 0, .int .u8 0, .int .u8 0, .int .u8 0, .int .u8 0, .int .u8 0, .int .u8 0, .int .u8 0, .int .u8 0, .int .u8 0, .int .u8 0, .int .u8 0, .int .u8 0, .int .u8 0, .int .u8 0, .int .u8 0, .int .u8 0, .int .u8 0, .int .u8 0, .int .u8 0, .int .u8 0, .int .u8 0, .int .u8 0] 43)).heap[w.heap.size]? = some (.cells (c8 (List.replicate 32 0)) 43 (0, 0)) := row_new _ _ _
theorem wpList_store_new43 {w : World} {ops : Array Oper} {rest : List Oper} {o : Oper} {a : Act} {Q : Exit → Act → World → Prop} (hgd : o.guard = none) (x y : Operand) (ho : o.op = .store 43 x y) (l : List UInt8) (hl : l.length = 32)
    (hx : a.eval x = .pointer (some ⟨w.heap.size, 0, none⟩)) (hy : a.eval y = .agg (c8 l))
    (h : ∀ w', Below w.heap.size w w' → Hid (w'.heap[w.heap.size]? = some (.cells (c8 l) 43 (0, 0))) → Hid (w'.heap.size = w.heap.size + 1) → wpList Tryd.prog ops Q rest (a.put o.dst undef) w') :
    wpList Tryd.prog ops Q (o :: rest) a (w.alloc (.cells #[.int .u8 0, .int .u8 0, .int .u8 0, .int .u8 0, .int .u8 0, .int .u8 0, .int .u8 0, .int .u8 0, .int .u8 0, .int .u8 0, .int .u8 0, .int .u8 0, .int .u8 0, .int .u8 0, .int .u8 0, .int .u8 0, .int .u8 0, .int .u8 0, .int .u8 0, .int .u8 0, .int .u8 0, .int .u8 0, .int .u8 0, .int .u8 0, .int .u8 0, .int .u8 0, .int .u8 0, .int .u8 0, .int .u8 0, .int .u8 0, .int .u8 0, .int .u8 0] 43)) := by
  refine wpList_store_row hgd 43 x y ho w.heap.size (c8 l) hx hy 43 _ (row_new43 w) (by rw [c8_size, hl]; exact info43) (by rw [c8_size, c8_size, hl]; rfl) (c8_one _) ?_
  exact h _ (below_setRow (alloc_below w) (Nat.le_refl _) _) (setRow_heap _ _ _ _ _ _ (row_new43 w)) (by show _ = _; simp)
def RowV (W : World) (g : Nat) (C : Array Value) (T : TypeId) : Prop := ∃ fr, W.heap[g]? = some (.cells C T fr)
theorem RowV.lt {W : World} {g : Nat} {C : Array Value} {T : TypeId} (h : RowV W g C T) : g < W.heap.size := by
  obtain ⟨fr, h⟩ := h; exact (Array.getElem?_eq_some_iff.1 h).1
theorem RowV.new (W : World) (C : Array Value) (T : TypeId) : RowV (W.alloc (.cells C T)) W.heap.size C T := ⟨_, row_new _ _ _⟩
theorem RowV.alloc {W : World} {g : Nat} {C : Array Value} {T : TypeId} (h : RowV W g C T) (o : Obj) : RowV (W.alloc o) g C T := by
  have hl := h.lt
  obtain ⟨fr, h⟩ := h; exact ⟨fr, (Below.heap_alloc _ _ _ hl).trans h⟩
theorem RowV.freeze {W : World} {g : Nat} {C : Array Value} {T : TypeId} (h : RowV W g C T) (a : Addr) (n : Nat) : RowV (W.freeze a n) g C T := by
  obtain ⟨fr, h⟩ := h
  unfold World.freeze
  by_cases hn : n = 0
  · rw [if_pos hn]; exact ⟨fr, h⟩
  · rw [if_neg hn]
    by_cases hg : a.block = g
    · exact ⟨_, by simp only [Array.getElem?_modify, hg, if_true, h, Option.map_some]; rfl⟩
    · exact ⟨fr, by simp only [Array.getElem?_modify, hg, if_false, h]⟩
theorem RowV.conv {W : World} {g : Nat} {C : Array Value} (h : RowV W g C 5) (n c : Nat) : (convert 22 22 (.slice (some ⟨g, 0, none⟩) n c)).run Tryd.prog W = .ok (.slice (some ⟨g, 0, none⟩) n c) (W.freeze ⟨g, C.size, none⟩ 1) := by
  obtain ⟨fr, h⟩ := h
  have hsh : W.shape? g = some (5, C.size) := by unfold World.shape?; rw [h]
  simp [convert, run_underlying Tryd.underlying22, run_underlying Tryd.underlying5, markStringish, hsh]
theorem below_frz {B : Nat} {a w : World} (h : Below B a w) {p : Addr} (hp : B ≤ p.block) (n : Nat) : Below B a (w.freeze p n) := by
  unfold World.freeze
  by_cases hn : n = 0
  · rw [if_pos hn]; exact h
  · rw [if_neg hn]
    exact ⟨h.os, h.tape, h.output, by simpa using h.size, fun k hk => by rw [← h.block k hk]; simp only [Array.getElem?_modify]; rw [if_neg (by omega)]⟩
theorem RowV.cell {W : World} {g : Nat} {C : Array Value} {T : TypeId} (h : RowV W g C T) (j : Nat) : W.cell? ⟨g, j, none⟩ = C[j]? := by
  obtain ⟨fr, h⟩ := h
  unfold World.cell?; rw [h]; simp
theorem RowV.bsl {W : World} {g : Nat} {bs : List UInt8} (h : RowV W g (c8 bs) 5) (n : Nat) (hn : n = bs.length) : BSl W (.slice (some ⟨g, 0, none⟩) n n) bs := by
  subst hn
  exact .inr (.inl ⟨g, 0, _, rfl, Nat.le_refl _, h.lt, fun j hj => by rw [Nat.zero_add, h.cell]; exact c8_at bs j hj⟩)
theorem RowV.psl {W : World} {g : Nat} {v : Value} {bs : List UInt8} (h : RowV W g #[v] 22) (hb : BSl W v bs) : PSl W (.slice (some ⟨g, 0, none⟩) 1 1) [v] [bs] := by
  refine ⟨rfl, .inr ⟨g, 0, 1, rfl, Nat.le_refl _, h.lt, fun j hj => ?_⟩, fun j hj => ?_⟩
  · obtain rfl : j = 0 := by simpa using hj
    rw [Nat.zero_add, h.cell]; rfl
  · obtain rfl : j = 0 := by simpa using hj
    exact hb
theorem range_at {w w3 : World} {p : Nat} {l : List Value} (r : w3.rangeAt p 0 l) (h : Below w3.heap.size w3 w) (hp : p < w3.heap.size) : w.rangeAt p 0 l := range_below r h hp
attribute [local irreducible] be2 be4 be8 layTo layB chg shaB hmB
set_option maxRecDepth 100000 in
set_option maxHeartbeats 4000000 in
theorem wakes_any (w : World) (hK : GlobK w) (hS : GlobS w) (h3 : 3 < w.heap.size) : Calls Tryd.prog 27 #[] w fun e w' => e = .returned (.bool true) ∧ Below w.heap.size w w' := by
  have HK : Hid (GlobK w) := hK
  have HS : Hid (GlobS w) := hS
  clear hK hS
  have k0 := kc0
  go_enter Tryd.func27, Tryd.ntmps27
  go_wp2_with fail
  have hb1 : Below w.heap.size w (w.alloc (.cells #[.int .u8 107, .int .u8 101, .int .u8 121] 5 (3, 4))) := alloc_below w
  have hk1 : BSl (w.alloc (.cells #[.int .u8 107, .int .u8 101, .int .u8 121] 5 (3, 4))) (.slice (some ⟨w.heap.size, 0, none⟩) 3 3) keyB := BSl.lit (w := w) (bs := keyB) (n := 3) (c := 3) (fr := (3, 4)) rfl (Nat.le_refl _)
  refine (derive_any _ _ keyB helloB [] [] _ hk1 ⟨rfl, .inl ⟨rfl, rfl⟩, fun j hj => by simp at hj⟩ (by decide) (by decide) (by decide) (by simp) (by simp) (HK.out.below hb1 h3) (HS.out.below hb1 h3) (mid_lt h3 hb1)).mono ?_
  rintro e w2 ⟨rfl, hb2⟩
  rw [lay_hello]
  have hbw2 : Below w.heap.size w w2 := hb1.trans (hb2.mono hb1.size)
  clear k0 hb1 hb2 hk1
  obtain ⟨Y, hY⟩ : ∃ Y, Y = hmB keyB msgB := ⟨_, rfl⟩
  rw [← hY]
  have HYL : Hid (Y.length = 32) := by rw [hY]; exact hmB_length _ _
  have HY0 : Hid ((Y == List.replicate 32 0) = false) := by show _ = _; rw [hY, hm_key]; decide
  have HY := Lib.hid hY
  clear hY
  go_wp2_with (refine wpList_store_new43 (o := { dst := none, op := .store 43 (.tmp 1) (.tmp 7), type := _, pos := _, after := _, guard := none }) rfl (.tmp 1) (.tmp 7) rfl Y HYL.out rfl rfl ?_; intro w3 hb3 HG3 HZ3)
  have hbw3 : Below w.heap.size w w3 := hbw2.trans (hb3.mono hbw2.size)
  have hlt3 : w2.heap.size < w3.heap.size := by have := HZ3.out; omega
  have r3 : w3.rangeAt w2.heap.size 0 (c8l Y) := range_of_row HG3.out
  have i43 : (Tryd.prog.info? 43).map (·.size) = some (c8l Y).length := by rw [c8l_length, HYL.out]; exact info43
  have eN : ∀ w : World, (Op.equalIn 10000 43 (.agg (c8l Y).toArray) (.agg #[.int .u8 0, .int .u8 0, .int .u8 0, .int .u8 0, .int .u8 0, .int .u8 0, .int .u8 0, .int .u8 0, .int .u8 0, .int .u8 0, .int .u8 0, .int .u8 0, .int .u8 0, .int .u8 0, .int .u8 0, .int .u8 0, .int .u8 0, .int .u8 0, .int .u8 0, .int .u8 0, .int .u8 0, .int .u8 0, .int .u8 0, .int .u8 0, .int .u8 0, .int .u8 0, .int .u8 0, .int .u8 0, .int .u8 0, .int .u8 0, .int .u8 0, .int .u8 0])).run Tryd.prog w = .ok false w := fun w => by have := eq43 Y (List.replicate 32 0) HYL.out rfl w; rw [HY0.out] at this; exact this
  have eY : ∀ w : World, (Op.equalIn 10000 43 (.agg (c8l Y).toArray) (.agg (c8 Y))).run Tryd.prog w = .ok true w := fun w => by have := eq43 Y Y HYL.out HYL.out w; rwa [beq_self_eq_true] at this
  have hW0 : Below w3.heap.size w3 w3.drew := (Below.refl _ _).drew
  refine wp_region_held_drew (S := fun W => Below w3.heap.size w3 W) (by kernel_rfl) hW0 (fun _ => ?_)
  refine wpAnyH_take (i := 0) (oi := { dst := some 9, op := .move (.tmp 2), type := 44, pos := _, after := _, guard := none }) (v := .int .i64 0) rfl (by kernel_rfl) (by kernel_rfl) (by kernel_rfl) (fun _ _ _ h => h) (Or.inl ⟨by kernel_rfl, fun w _ => by go_simp⟩) hW0 ?_
  try simp only [Act.put, List.setIfInBounds_toArray, List.set_cons_zero, List.set_cons_succ]
  refine wpAnyH_take (i := 1) (oi := { dst := some 10, op := .binOp .eql 44 (.tmp 9) (.const (.int .i64 0)) 44, type := 4, pos := _, after := _, guard := none }) (v := .bool true) rfl (by kernel_rfl) (by kernel_rfl) (by kernel_rfl) (fun _ _ _ h => h) (Or.inl ⟨by kernel_rfl, fun w _ => by go_simp⟩) hW0 ?_
  try simp only [Act.put, List.setIfInBounds_toArray, List.set_cons_zero, List.set_cons_succ]
  refine wpAnyH_take (i := 2) (oi := { dst := some 11, op := .move (.tmp 10), type := 4, pos := _, after := _, guard := none }) (v := .bool true) rfl (by kernel_rfl) (by kernel_rfl) (by kernel_rfl) (fun _ _ _ h => h) (Or.inl ⟨by kernel_rfl, fun w _ => by go_simp⟩) hW0 ?_
  try simp only [Act.put, List.setIfInBounds_toArray, List.set_cons_zero, List.set_cons_succ]
  refine wpAnyH_take (i := 3) (oi := { dst := some 12, op := .load 43 (.tmp 1), type := 43, pos := _, after := _, guard := some (2, true) }) (v := .agg (c8l Y).toArray) rfl (by kernel_rfl) (by kernel_rfl) (by kernel_rfl) (fun _ _ _ h => h) (yieldsIf_load_mid (by kernel_rfl) 43 (.tmp 1) rfl w2.heap.size 0 rfl (c8l Y) _ (fun w h => range_at r3 h hlt3) Tryd.underlying43 rfl i43) hW0 ?_
  try simp only [Act.put, List.setIfInBounds_toArray, List.set_cons_zero, List.set_cons_succ]
  refine wpAnyH_take (i := 4) (oi := { dst := some 13, op := .build 43 #[], type := 43, pos := _, after := _, guard := some (2, true) }) (v := .agg #[.int .u8 0, .int .u8 0, .int .u8 0, .int .u8 0, .int .u8 0, .int .u8 0, .int .u8 0, .int .u8 0, .int .u8 0, .int .u8 0, .int .u8 0, .int .u8 0, .int .u8 0, .int .u8 0, .int .u8 0, .int .u8 0, .int .u8 0, .int .u8 0, .int .u8 0, .int .u8 0, .int .u8 0, .int .u8 0, .int .u8 0, .int .u8 0, .int .u8 0, .int .u8 0, .int .u8 0, .int .u8 0, .int .u8 0, .int .u8 0, .int .u8 0, .int .u8 0]) rfl (by kernel_rfl) (by kernel_rfl) (by kernel_rfl) (fun _ _ _ h => h) (Or.inl ⟨by kernel_rfl, fun w _ => by go_simp⟩) hW0 ?_
  try simp only [Act.put, List.setIfInBounds_toArray, List.set_cons_zero, List.set_cons_succ]
  refine wpAnyH_take (i := 5) (oi := { dst := some 14, op := .binOp .neq 43 (.tmp 12) (.tmp 13) 43, type := 4, pos := _, after := _, guard := some (2, true) }) (v := .bool true) rfl (by kernel_rfl) (by kernel_rfl) (by kernel_rfl) (fun _ _ _ h => h) (Or.inl ⟨by kernel_rfl, fun w _ => by go_simp⟩) hW0 ?_
  try simp only [Act.put, List.setIfInBounds_toArray, List.set_cons_zero, List.set_cons_succ]
  refine wpAnyH_take (i := 6) (oi := { dst := some 15, op := .pick (.tmp 11) (.tmp 14) (.const (.bool false)), type := 4, pos := _, after := _, guard := none }) (v := .bool true) rfl (by kernel_rfl) (by kernel_rfl) (by kernel_rfl) (fun _ _ _ h => h) (Or.inl ⟨by kernel_rfl, fun w _ => by go_simp⟩) hW0 ?_
  try simp only [Act.put, List.setIfInBounds_toArray, List.set_cons_zero, List.set_cons_succ]
  refine wpAnyH_take (i := 7) (oi := { dst := some 16, op := .move (.tmp 15), type := 4, pos := _, after := _, guard := none }) (v := .bool true) rfl (by kernel_rfl) (by kernel_rfl) (by kernel_rfl) (fun _ _ _ h => h) (Or.inl ⟨by kernel_rfl, fun w _ => by go_simp⟩) hW0 ?_
  try simp only [Act.put, List.setIfInBounds_toArray, List.set_cons_zero, List.set_cons_succ]
  refine wpAnyH_take (i := 8) (oi := { dst := some 17, op := .load 43 (.tmp 1), type := 43, pos := _, after := _, guard := some (7, true) }) (v := .agg (c8l Y).toArray) rfl (by kernel_rfl) (by kernel_rfl) (by kernel_rfl) (fun _ _ _ h => h) (yieldsIf_load_mid (by kernel_rfl) 43 (.tmp 1) rfl w2.heap.size 0 rfl (c8l Y) _ (fun w h => range_at r3 h hlt3) Tryd.underlying43 rfl i43) hW0 ?_
  try simp only [Act.put, List.setIfInBounds_toArray, List.set_cons_zero, List.set_cons_succ]
  generalize w3.drew = W0 at hW0 ⊢
  refine wpAnyH_ready (rs := [9, 11]) (by kernel_rfl) (by simp) ?_
  refine AllReadyH.cons (o := { dst := some 18, op := .buildSlice 22 3 #[(0, .const (.int .u8 107)), (1, .const (.int .u8 101)), (2, .const (.int .u8 121))], type := 22, pos := _, after := _, guard := some (7, true) }) rfl ?_ ?_
  · intro K hK
    rw [if_pos (by kernel_rfl)]
    go_simp
    have hW1 := hW0.alloc hW0.size (.cells #[.int .u8 107, .int .u8 101, .int .u8 121] 5)
    refine hK.out _ _ hW1 (fun _ => ?_)
    clear hK K
    try simp only [Act.put, List.setIfInBounds_toArray, List.set_cons_zero, List.set_cons_succ]
    have RA := RowV.new W0 #[.int .u8 107, .int .u8 101, .int .u8 121] 5
    have hg9 : w3.heap.size ≤ W0.heap.size := hW0.size
    generalize W0.alloc _ = W1 at hW1 RA ⊢
    generalize W0.heap.size = gA at RA hg9 ⊢
    refine wpAnyH_ready (rs := [10, 11]) (by kernel_rfl) (by simp) ?_
    refine AllReadyH.cons (o := { dst := some 19, op := .convert 22 22 (.tmp 18), type := 22, pos := _, after := _, guard := some (7, true) }) rfl ?_ ?_
    · intro K hK
      rw [if_pos (by kernel_rfl)]
      have hcv := RA.conv 3 3
      go_simp
      have hW2 := below_frz hW1 (p := ⟨gA, 3, none⟩) hg9 1
      refine hK.out _ _ hW2 (fun _ => ?_)
      clear hK K hcv
      try simp only [Act.put, List.setIfInBounds_toArray, List.set_cons_zero, List.set_cons_succ]
      replace RA := RA.freeze ⟨gA, 3, none⟩ 1
      generalize W1.freeze _ _ = W2 at hW2 RA ⊢
      refine wpAnyH_ready (rs := [11]) (by kernel_rfl) (by simp) ?_
      refine AllReadyH.cons (o := { dst := some 20, op := .buildSlice 22 7 #[(0, .const (.int .u8 0)), (1, .const (.int .u8 5)), (2, .const (.int .u8 104)), (3, .const (.int .u8 101)), (4, .const (.int .u8 108)), (5, .const (.int .u8 108)), (6, .const (.int .u8 111))], type := 22, pos := _, after := _, guard := some (7, true) }) rfl ?_ ?_
      · intro K hK
        rw [if_pos (by kernel_rfl)]
        go_simp
        have hW3 := hW2.alloc hW2.size (.cells #[.int .u8 0, .int .u8 5, .int .u8 104, .int .u8 101, .int .u8 108, .int .u8 108, .int .u8 111] 5)
        refine hK.out _ _ hW3 (fun _ => ?_)
        clear hK K
        try simp only [Act.put, List.setIfInBounds_toArray, List.set_cons_zero, List.set_cons_succ]
        have RB := RowV.new W2 #[.int .u8 0, .int .u8 5, .int .u8 104, .int .u8 101, .int .u8 108, .int .u8 108, .int .u8 111] 5
        replace RA := RA.alloc (.cells #[.int .u8 0, .int .u8 5, .int .u8 104, .int .u8 101, .int .u8 108, .int .u8 108, .int .u8 111] 5)
        have hg11 : w3.heap.size ≤ W2.heap.size := hW2.size
        generalize W2.alloc _ = W3 at hW3 RA RB ⊢
        generalize W2.heap.size = gB at RB hg11 ⊢
        refine wpAnyH_ready (rs := [12]) (by kernel_rfl) (by simp) ?_
        refine AllReadyH.cons (o := { dst := some 21, op := .convert 22 22 (.tmp 20), type := 22, pos := _, after := _, guard := some (7, true) }) rfl ?_ ?_
        · intro K hK
          rw [if_pos (by kernel_rfl)]
          have hcv := RB.conv 7 7
          go_simp
          have hW4 := below_frz hW3 (p := ⟨gB, 7, none⟩) hg11 1
          refine hK.out _ _ hW4 (fun _ => ?_)
          clear hK K hcv
          try simp only [Act.put, List.setIfInBounds_toArray, List.set_cons_zero, List.set_cons_succ]
          replace RA := RA.freeze ⟨gB, 7, none⟩ 1
          replace RB := RB.freeze ⟨gB, 7, none⟩ 1
          generalize W3.freeze _ _ = W4 at hW4 RA RB ⊢
          refine wpAnyH_ready (rs := [13]) (by kernel_rfl) (by simp) ?_
          refine AllReadyH.cons (o := { dst := some 22, op := .buildSlice 31 1 #[(0, .tmp 21)], type := 31, pos := _, after := _, guard := some (7, true) }) rfl ?_ ?_
          · intro K hK
            rw [if_pos (by kernel_rfl)]
            go_simp
            have hW5 := hW4.alloc hW4.size (.cells #[.slice (some ⟨gB, 0, none⟩) 7 7] 22)
            refine hK.out _ _ hW5 (fun _ => ?_)
            clear hK K
            try simp only [Act.put, List.setIfInBounds_toArray, List.set_cons_zero, List.set_cons_succ]
            have RC := RowV.new W4 #[.slice (some ⟨gB, 0, none⟩) 7 7] 22
            replace RA := RA.alloc (.cells #[.slice (some ⟨gB, 0, none⟩) 7 7] 22)
            replace RB := RB.alloc (.cells #[.slice (some ⟨gB, 0, none⟩) 7 7] 22)
            have hg13 : w3.heap.size ≤ W4.heap.size := hW4.size
            generalize W4.alloc _ = W5 at hW5 RA RB RC ⊢
            generalize W4.heap.size = gC at RC hg13 ⊢
            refine wpAnyH_ready (rs := [14]) (by kernel_rfl) (by simp) (AllReadyH.cons (o := { dst := some 23, op := .call { callee := .value (.func 14), args := #[.tmp 19, .tmp 22], argTypes := #[22, 31] }, type := 24, pos := _, after := _, guard := some (7, true) }) rfl ?_ AllReadyH.nil)
            intro K hK
            rw [if_pos (by kernel_rfl)]
            go_simp
            have hbwW : Below w.heap.size w W5 := hbw3.trans (hW5.mono hbw3.size)
            refine (hmac_any _ _ keyB _ [msgB] _ (RA.bsl (bs := keyB) 3 rfl) (by decide) (RC.psl (RB.bsl (bs := msgB) 7 rfl)) (by simp) (by decide) (HK.out.below hbwW h3) (HS.out.below hbwW h3) (mid_lt h3 hbwW)).mono ?_
            rintro e W9 ⟨rfl, hb9⟩
            rw [show [msgB].flatten = msgB by simp, ← HY.out]
            have hW9 : Below w3.heap.size w3 W9 := hW5.trans (hb9.mono hW5.size)
            refine hK.out _ _ hW9 (fun _ => ?_)
            clear hK K
            try simp only [Act.put, List.setIfInBounds_toArray, List.set_cons_zero, List.set_cons_succ]
            refine wpAnyH_take (i := 15) (oi := { dst := some 24, op := .binOp .eql 43 (.tmp 17) (.tmp 23) 43, type := 4, pos := _, after := _, guard := some (7, true) }) (v := .bool true) rfl (by kernel_rfl) (by kernel_rfl) (by kernel_rfl) (fun _ _ _ h => h) (Or.inl ⟨by kernel_rfl, fun w _ => by go_simp⟩) hW9 ?_
            try simp only [Act.put, List.setIfInBounds_toArray, List.set_cons_zero, List.set_cons_succ]
            refine wpAnyH_take (i := 16) (oi := { dst := some 25, op := .pick (.tmp 16) (.tmp 24) (.const (.bool false)), type := 4, pos := _, after := _, guard := none }) (v := .bool true) rfl (by kernel_rfl) (by kernel_rfl) (by kernel_rfl) (fun _ _ _ h => h) (Or.inl ⟨by kernel_rfl, fun w _ => by go_simp⟩) hW9 ?_
            try simp only [Act.put, List.setIfInBounds_toArray, List.set_cons_zero, List.set_cons_succ]
            first | (refine wpAnyH_take (i := 17) (oi := { dst := some 0, op := .assign (.tmp 25), type := 4, pos := _, after := _, guard := none }) (v := .bool true) rfl (by kernel_rfl) (by kernel_rfl) (by kernel_rfl) (fun _ _ _ h => h) (Or.inl ⟨by kernel_rfl, fun w _ => by go_simp⟩) hW9 ?_) | skip
            try simp only [Act.put, List.setIfInBounds_toArray, List.set_cons_zero, List.set_cons_succ]
            refine wpAnyH_done (by kernel_rfl) ?_ _
            go_simp
            go_wp2
            go_ret
            exact ⟨rfl, hbw3.trans (hW9.mono hbw3.size)⟩
          exact AllReadyH.nil
        exact AllReadyH.nil
      exact AllReadyH.nil
    refine AllReadyH.cons (o := { dst := some 20, op := .buildSlice 22 7 #[(0, .const (.int .u8 0)), (1, .const (.int .u8 5)), (2, .const (.int .u8 104)), (3, .const (.int .u8 101)), (4, .const (.int .u8 108)), (5, .const (.int .u8 108)), (6, .const (.int .u8 111))], type := 22, pos := _, after := _, guard := some (7, true) }) rfl ?_ ?_
    · intro K hK
      rw [if_pos (by kernel_rfl)]
      go_simp
      have hW2 := hW1.alloc hW1.size (.cells #[.int .u8 0, .int .u8 5, .int .u8 104, .int .u8 101, .int .u8 108, .int .u8 108, .int .u8 111] 5)
      refine hK.out _ _ hW2 (fun _ => ?_)
      clear hK K
      try simp only [Act.put, List.setIfInBounds_toArray, List.set_cons_zero, List.set_cons_succ]
      have RB := RowV.new W1 #[.int .u8 0, .int .u8 5, .int .u8 104, .int .u8 101, .int .u8 108, .int .u8 108, .int .u8 111] 5
      replace RA := RA.alloc (.cells #[.int .u8 0, .int .u8 5, .int .u8 104, .int .u8 101, .int .u8 108, .int .u8 108, .int .u8 111] 5)
      have hg11 : w3.heap.size ≤ W1.heap.size := hW1.size
      generalize W1.alloc _ = W2 at hW2 RA RB ⊢
      generalize W1.heap.size = gB at RB hg11 ⊢
      refine wpAnyH_ready (rs := [10, 12]) (by kernel_rfl) (by simp) ?_
      refine AllReadyH.cons (o := { dst := some 19, op := .convert 22 22 (.tmp 18), type := 22, pos := _, after := _, guard := some (7, true) }) rfl ?_ ?_
      · intro K hK
        rw [if_pos (by kernel_rfl)]
        have hcv := RA.conv 3 3
        go_simp
        have hW3 := below_frz hW2 (p := ⟨gA, 3, none⟩) hg9 1
        refine hK.out _ _ hW3 (fun _ => ?_)
        clear hK K hcv
        try simp only [Act.put, List.setIfInBounds_toArray, List.set_cons_zero, List.set_cons_succ]
        replace RA := RA.freeze ⟨gA, 3, none⟩ 1
        replace RB := RB.freeze ⟨gA, 3, none⟩ 1
        generalize W2.freeze _ _ = W3 at hW3 RA RB ⊢
        refine wpAnyH_ready (rs := [12]) (by kernel_rfl) (by simp) ?_
        refine AllReadyH.cons (o := { dst := some 21, op := .convert 22 22 (.tmp 20), type := 22, pos := _, after := _, guard := some (7, true) }) rfl ?_ ?_
        · intro K hK
          rw [if_pos (by kernel_rfl)]
          have hcv := RB.conv 7 7
          go_simp
          have hW4 := below_frz hW3 (p := ⟨gB, 7, none⟩) hg11 1
          refine hK.out _ _ hW4 (fun _ => ?_)
          clear hK K hcv
          try simp only [Act.put, List.setIfInBounds_toArray, List.set_cons_zero, List.set_cons_succ]
          replace RA := RA.freeze ⟨gB, 7, none⟩ 1
          replace RB := RB.freeze ⟨gB, 7, none⟩ 1
          generalize W3.freeze _ _ = W4 at hW4 RA RB ⊢
          refine wpAnyH_ready (rs := [13]) (by kernel_rfl) (by simp) ?_
          refine AllReadyH.cons (o := { dst := some 22, op := .buildSlice 31 1 #[(0, .tmp 21)], type := 31, pos := _, after := _, guard := some (7, true) }) rfl ?_ ?_
          · intro K hK
            rw [if_pos (by kernel_rfl)]
            go_simp
            have hW5 := hW4.alloc hW4.size (.cells #[.slice (some ⟨gB, 0, none⟩) 7 7] 22)
            refine hK.out _ _ hW5 (fun _ => ?_)
            clear hK K
            try simp only [Act.put, List.setIfInBounds_toArray, List.set_cons_zero, List.set_cons_succ]
            have RC := RowV.new W4 #[.slice (some ⟨gB, 0, none⟩) 7 7] 22
            replace RA := RA.alloc (.cells #[.slice (some ⟨gB, 0, none⟩) 7 7] 22)
            replace RB := RB.alloc (.cells #[.slice (some ⟨gB, 0, none⟩) 7 7] 22)
            have hg13 : w3.heap.size ≤ W4.heap.size := hW4.size
            generalize W4.alloc _ = W5 at hW5 RA RB RC ⊢
            generalize W4.heap.size = gC at RC hg13 ⊢
            refine wpAnyH_ready (rs := [14]) (by kernel_rfl) (by simp) (AllReadyH.cons (o := { dst := some 23, op := .call { callee := .value (.func 14), args := #[.tmp 19, .tmp 22], argTypes := #[22, 31] }, type := 24, pos := _, after := _, guard := some (7, true) }) rfl ?_ AllReadyH.nil)
            intro K hK
            rw [if_pos (by kernel_rfl)]
            go_simp
            have hbwW : Below w.heap.size w W5 := hbw3.trans (hW5.mono hbw3.size)
            refine (hmac_any _ _ keyB _ [msgB] _ (RA.bsl (bs := keyB) 3 rfl) (by decide) (RC.psl (RB.bsl (bs := msgB) 7 rfl)) (by simp) (by decide) (HK.out.below hbwW h3) (HS.out.below hbwW h3) (mid_lt h3 hbwW)).mono ?_
            rintro e W9 ⟨rfl, hb9⟩
            rw [show [msgB].flatten = msgB by simp, ← HY.out]
            have hW9 : Below w3.heap.size w3 W9 := hW5.trans (hb9.mono hW5.size)
            refine hK.out _ _ hW9 (fun _ => ?_)
            clear hK K
            try simp only [Act.put, List.setIfInBounds_toArray, List.set_cons_zero, List.set_cons_succ]
            refine wpAnyH_take (i := 15) (oi := { dst := some 24, op := .binOp .eql 43 (.tmp 17) (.tmp 23) 43, type := 4, pos := _, after := _, guard := some (7, true) }) (v := .bool true) rfl (by kernel_rfl) (by kernel_rfl) (by kernel_rfl) (fun _ _ _ h => h) (Or.inl ⟨by kernel_rfl, fun w _ => by go_simp⟩) hW9 ?_
            try simp only [Act.put, List.setIfInBounds_toArray, List.set_cons_zero, List.set_cons_succ]
            refine wpAnyH_take (i := 16) (oi := { dst := some 25, op := .pick (.tmp 16) (.tmp 24) (.const (.bool false)), type := 4, pos := _, after := _, guard := none }) (v := .bool true) rfl (by kernel_rfl) (by kernel_rfl) (by kernel_rfl) (fun _ _ _ h => h) (Or.inl ⟨by kernel_rfl, fun w _ => by go_simp⟩) hW9 ?_
            try simp only [Act.put, List.setIfInBounds_toArray, List.set_cons_zero, List.set_cons_succ]
            first | (refine wpAnyH_take (i := 17) (oi := { dst := some 0, op := .assign (.tmp 25), type := 4, pos := _, after := _, guard := none }) (v := .bool true) rfl (by kernel_rfl) (by kernel_rfl) (by kernel_rfl) (fun _ _ _ h => h) (Or.inl ⟨by kernel_rfl, fun w _ => by go_simp⟩) hW9 ?_) | skip
            try simp only [Act.put, List.setIfInBounds_toArray, List.set_cons_zero, List.set_cons_succ]
            refine wpAnyH_done (by kernel_rfl) ?_ _
            go_simp
            go_wp2
            go_ret
            exact ⟨rfl, hbw3.trans (hW9.mono hbw3.size)⟩
          exact AllReadyH.nil
        exact AllReadyH.nil
      refine AllReadyH.cons (o := { dst := some 21, op := .convert 22 22 (.tmp 20), type := 22, pos := _, after := _, guard := some (7, true) }) rfl ?_ ?_
      · intro K hK
        rw [if_pos (by kernel_rfl)]
        have hcv := RB.conv 7 7
        go_simp
        have hW3 := below_frz hW2 (p := ⟨gB, 7, none⟩) hg11 1
        refine hK.out _ _ hW3 (fun _ => ?_)
        clear hK K hcv
        try simp only [Act.put, List.setIfInBounds_toArray, List.set_cons_zero, List.set_cons_succ]
        replace RA := RA.freeze ⟨gB, 7, none⟩ 1
        replace RB := RB.freeze ⟨gB, 7, none⟩ 1
        generalize W2.freeze _ _ = W3 at hW3 RA RB ⊢
        refine wpAnyH_ready (rs := [10, 13]) (by kernel_rfl) (by simp) ?_
        refine AllReadyH.cons (o := { dst := some 19, op := .convert 22 22 (.tmp 18), type := 22, pos := _, after := _, guard := some (7, true) }) rfl ?_ ?_
        · intro K hK
          rw [if_pos (by kernel_rfl)]
          have hcv := RA.conv 3 3
          go_simp
          have hW4 := below_frz hW3 (p := ⟨gA, 3, none⟩) hg9 1
          refine hK.out _ _ hW4 (fun _ => ?_)
          clear hK K hcv
          try simp only [Act.put, List.setIfInBounds_toArray, List.set_cons_zero, List.set_cons_succ]
          replace RA := RA.freeze ⟨gA, 3, none⟩ 1
          replace RB := RB.freeze ⟨gA, 3, none⟩ 1
          generalize W3.freeze _ _ = W4 at hW4 RA RB ⊢
          refine wpAnyH_ready (rs := [13]) (by kernel_rfl) (by simp) ?_
          refine AllReadyH.cons (o := { dst := some 22, op := .buildSlice 31 1 #[(0, .tmp 21)], type := 31, pos := _, after := _, guard := some (7, true) }) rfl ?_ ?_
          · intro K hK
            rw [if_pos (by kernel_rfl)]
            go_simp
            have hW5 := hW4.alloc hW4.size (.cells #[.slice (some ⟨gB, 0, none⟩) 7 7] 22)
            refine hK.out _ _ hW5 (fun _ => ?_)
            clear hK K
            try simp only [Act.put, List.setIfInBounds_toArray, List.set_cons_zero, List.set_cons_succ]
            have RC := RowV.new W4 #[.slice (some ⟨gB, 0, none⟩) 7 7] 22
            replace RA := RA.alloc (.cells #[.slice (some ⟨gB, 0, none⟩) 7 7] 22)
            replace RB := RB.alloc (.cells #[.slice (some ⟨gB, 0, none⟩) 7 7] 22)
            have hg13 : w3.heap.size ≤ W4.heap.size := hW4.size
            generalize W4.alloc _ = W5 at hW5 RA RB RC ⊢
            generalize W4.heap.size = gC at RC hg13 ⊢
            refine wpAnyH_ready (rs := [14]) (by kernel_rfl) (by simp) (AllReadyH.cons (o := { dst := some 23, op := .call { callee := .value (.func 14), args := #[.tmp 19, .tmp 22], argTypes := #[22, 31] }, type := 24, pos := _, after := _, guard := some (7, true) }) rfl ?_ AllReadyH.nil)
            intro K hK
            rw [if_pos (by kernel_rfl)]
            go_simp
            have hbwW : Below w.heap.size w W5 := hbw3.trans (hW5.mono hbw3.size)
            refine (hmac_any _ _ keyB _ [msgB] _ (RA.bsl (bs := keyB) 3 rfl) (by decide) (RC.psl (RB.bsl (bs := msgB) 7 rfl)) (by simp) (by decide) (HK.out.below hbwW h3) (HS.out.below hbwW h3) (mid_lt h3 hbwW)).mono ?_
            rintro e W9 ⟨rfl, hb9⟩
            rw [show [msgB].flatten = msgB by simp, ← HY.out]
            have hW9 : Below w3.heap.size w3 W9 := hW5.trans (hb9.mono hW5.size)
            refine hK.out _ _ hW9 (fun _ => ?_)
            clear hK K
            try simp only [Act.put, List.setIfInBounds_toArray, List.set_cons_zero, List.set_cons_succ]
            refine wpAnyH_take (i := 15) (oi := { dst := some 24, op := .binOp .eql 43 (.tmp 17) (.tmp 23) 43, type := 4, pos := _, after := _, guard := some (7, true) }) (v := .bool true) rfl (by kernel_rfl) (by kernel_rfl) (by kernel_rfl) (fun _ _ _ h => h) (Or.inl ⟨by kernel_rfl, fun w _ => by go_simp⟩) hW9 ?_
            try simp only [Act.put, List.setIfInBounds_toArray, List.set_cons_zero, List.set_cons_succ]
            refine wpAnyH_take (i := 16) (oi := { dst := some 25, op := .pick (.tmp 16) (.tmp 24) (.const (.bool false)), type := 4, pos := _, after := _, guard := none }) (v := .bool true) rfl (by kernel_rfl) (by kernel_rfl) (by kernel_rfl) (fun _ _ _ h => h) (Or.inl ⟨by kernel_rfl, fun w _ => by go_simp⟩) hW9 ?_
            try simp only [Act.put, List.setIfInBounds_toArray, List.set_cons_zero, List.set_cons_succ]
            first | (refine wpAnyH_take (i := 17) (oi := { dst := some 0, op := .assign (.tmp 25), type := 4, pos := _, after := _, guard := none }) (v := .bool true) rfl (by kernel_rfl) (by kernel_rfl) (by kernel_rfl) (fun _ _ _ h => h) (Or.inl ⟨by kernel_rfl, fun w _ => by go_simp⟩) hW9 ?_) | skip
            try simp only [Act.put, List.setIfInBounds_toArray, List.set_cons_zero, List.set_cons_succ]
            refine wpAnyH_done (by kernel_rfl) ?_ _
            go_simp
            go_wp2
            go_ret
            exact ⟨rfl, hbw3.trans (hW9.mono hbw3.size)⟩
          exact AllReadyH.nil
        refine AllReadyH.cons (o := { dst := some 22, op := .buildSlice 31 1 #[(0, .tmp 21)], type := 31, pos := _, after := _, guard := some (7, true) }) rfl ?_ ?_
        · intro K hK
          rw [if_pos (by kernel_rfl)]
          go_simp
          have hW4 := hW3.alloc hW3.size (.cells #[.slice (some ⟨gB, 0, none⟩) 7 7] 22)
          refine hK.out _ _ hW4 (fun _ => ?_)
          clear hK K
          try simp only [Act.put, List.setIfInBounds_toArray, List.set_cons_zero, List.set_cons_succ]
          have RC := RowV.new W3 #[.slice (some ⟨gB, 0, none⟩) 7 7] 22
          replace RA := RA.alloc (.cells #[.slice (some ⟨gB, 0, none⟩) 7 7] 22)
          replace RB := RB.alloc (.cells #[.slice (some ⟨gB, 0, none⟩) 7 7] 22)
          have hg13 : w3.heap.size ≤ W3.heap.size := hW3.size
          generalize W3.alloc _ = W4 at hW4 RA RB RC ⊢
          generalize W3.heap.size = gC at RC hg13 ⊢
          refine wpAnyH_ready (rs := [10]) (by kernel_rfl) (by simp) ?_
          refine AllReadyH.cons (o := { dst := some 19, op := .convert 22 22 (.tmp 18), type := 22, pos := _, after := _, guard := some (7, true) }) rfl ?_ ?_
          · intro K hK
            rw [if_pos (by kernel_rfl)]
            have hcv := RA.conv 3 3
            go_simp
            have hW5 := below_frz hW4 (p := ⟨gA, 3, none⟩) hg9 1
            refine hK.out _ _ hW5 (fun _ => ?_)
            clear hK K hcv
            try simp only [Act.put, List.setIfInBounds_toArray, List.set_cons_zero, List.set_cons_succ]
            replace RA := RA.freeze ⟨gA, 3, none⟩ 1
            replace RB := RB.freeze ⟨gA, 3, none⟩ 1
            replace RC := RC.freeze ⟨gA, 3, none⟩ 1
            generalize W4.freeze _ _ = W5 at hW5 RA RB RC ⊢
            refine wpAnyH_ready (rs := [14]) (by kernel_rfl) (by simp) (AllReadyH.cons (o := { dst := some 23, op := .call { callee := .value (.func 14), args := #[.tmp 19, .tmp 22], argTypes := #[22, 31] }, type := 24, pos := _, after := _, guard := some (7, true) }) rfl ?_ AllReadyH.nil)
            intro K hK
            rw [if_pos (by kernel_rfl)]
            go_simp
            have hbwW : Below w.heap.size w W5 := hbw3.trans (hW5.mono hbw3.size)
            refine (hmac_any _ _ keyB _ [msgB] _ (RA.bsl (bs := keyB) 3 rfl) (by decide) (RC.psl (RB.bsl (bs := msgB) 7 rfl)) (by simp) (by decide) (HK.out.below hbwW h3) (HS.out.below hbwW h3) (mid_lt h3 hbwW)).mono ?_
            rintro e W9 ⟨rfl, hb9⟩
            rw [show [msgB].flatten = msgB by simp, ← HY.out]
            have hW9 : Below w3.heap.size w3 W9 := hW5.trans (hb9.mono hW5.size)
            refine hK.out _ _ hW9 (fun _ => ?_)
            clear hK K
            try simp only [Act.put, List.setIfInBounds_toArray, List.set_cons_zero, List.set_cons_succ]
            refine wpAnyH_take (i := 15) (oi := { dst := some 24, op := .binOp .eql 43 (.tmp 17) (.tmp 23) 43, type := 4, pos := _, after := _, guard := some (7, true) }) (v := .bool true) rfl (by kernel_rfl) (by kernel_rfl) (by kernel_rfl) (fun _ _ _ h => h) (Or.inl ⟨by kernel_rfl, fun w _ => by go_simp⟩) hW9 ?_
            try simp only [Act.put, List.setIfInBounds_toArray, List.set_cons_zero, List.set_cons_succ]
            refine wpAnyH_take (i := 16) (oi := { dst := some 25, op := .pick (.tmp 16) (.tmp 24) (.const (.bool false)), type := 4, pos := _, after := _, guard := none }) (v := .bool true) rfl (by kernel_rfl) (by kernel_rfl) (by kernel_rfl) (fun _ _ _ h => h) (Or.inl ⟨by kernel_rfl, fun w _ => by go_simp⟩) hW9 ?_
            try simp only [Act.put, List.setIfInBounds_toArray, List.set_cons_zero, List.set_cons_succ]
            first | (refine wpAnyH_take (i := 17) (oi := { dst := some 0, op := .assign (.tmp 25), type := 4, pos := _, after := _, guard := none }) (v := .bool true) rfl (by kernel_rfl) (by kernel_rfl) (by kernel_rfl) (fun _ _ _ h => h) (Or.inl ⟨by kernel_rfl, fun w _ => by go_simp⟩) hW9 ?_) | skip
            try simp only [Act.put, List.setIfInBounds_toArray, List.set_cons_zero, List.set_cons_succ]
            refine wpAnyH_done (by kernel_rfl) ?_ _
            go_simp
            go_wp2
            go_ret
            exact ⟨rfl, hbw3.trans (hW9.mono hbw3.size)⟩
          exact AllReadyH.nil
        exact AllReadyH.nil
      exact AllReadyH.nil
    exact AllReadyH.nil
  refine AllReadyH.cons (o := { dst := some 20, op := .buildSlice 22 7 #[(0, .const (.int .u8 0)), (1, .const (.int .u8 5)), (2, .const (.int .u8 104)), (3, .const (.int .u8 101)), (4, .const (.int .u8 108)), (5, .const (.int .u8 108)), (6, .const (.int .u8 111))], type := 22, pos := _, after := _, guard := some (7, true) }) rfl ?_ ?_
  · intro K hK
    rw [if_pos (by kernel_rfl)]
    go_simp
    have hW1 := hW0.alloc hW0.size (.cells #[.int .u8 0, .int .u8 5, .int .u8 104, .int .u8 101, .int .u8 108, .int .u8 108, .int .u8 111] 5)
    refine hK.out _ _ hW1 (fun _ => ?_)
    clear hK K
    try simp only [Act.put, List.setIfInBounds_toArray, List.set_cons_zero, List.set_cons_succ]
    have RB := RowV.new W0 #[.int .u8 0, .int .u8 5, .int .u8 104, .int .u8 101, .int .u8 108, .int .u8 108, .int .u8 111] 5
    have hg11 : w3.heap.size ≤ W0.heap.size := hW0.size
    generalize W0.alloc _ = W1 at hW1 RB ⊢
    generalize W0.heap.size = gB at RB hg11 ⊢
    refine wpAnyH_ready (rs := [9, 12]) (by kernel_rfl) (by simp) ?_
    refine AllReadyH.cons (o := { dst := some 18, op := .buildSlice 22 3 #[(0, .const (.int .u8 107)), (1, .const (.int .u8 101)), (2, .const (.int .u8 121))], type := 22, pos := _, after := _, guard := some (7, true) }) rfl ?_ ?_
    · intro K hK
      rw [if_pos (by kernel_rfl)]
      go_simp
      have hW2 := hW1.alloc hW1.size (.cells #[.int .u8 107, .int .u8 101, .int .u8 121] 5)
      refine hK.out _ _ hW2 (fun _ => ?_)
      clear hK K
      try simp only [Act.put, List.setIfInBounds_toArray, List.set_cons_zero, List.set_cons_succ]
      have RA := RowV.new W1 #[.int .u8 107, .int .u8 101, .int .u8 121] 5
      replace RB := RB.alloc (.cells #[.int .u8 107, .int .u8 101, .int .u8 121] 5)
      have hg9 : w3.heap.size ≤ W1.heap.size := hW1.size
      generalize W1.alloc _ = W2 at hW2 RB RA ⊢
      generalize W1.heap.size = gA at RA hg9 ⊢
      refine wpAnyH_ready (rs := [10, 12]) (by kernel_rfl) (by simp) ?_
      refine AllReadyH.cons (o := { dst := some 19, op := .convert 22 22 (.tmp 18), type := 22, pos := _, after := _, guard := some (7, true) }) rfl ?_ ?_
      · intro K hK
        rw [if_pos (by kernel_rfl)]
        have hcv := RA.conv 3 3
        go_simp
        have hW3 := below_frz hW2 (p := ⟨gA, 3, none⟩) hg9 1
        refine hK.out _ _ hW3 (fun _ => ?_)
        clear hK K hcv
        try simp only [Act.put, List.setIfInBounds_toArray, List.set_cons_zero, List.set_cons_succ]
        replace RA := RA.freeze ⟨gA, 3, none⟩ 1
        replace RB := RB.freeze ⟨gA, 3, none⟩ 1
        generalize W2.freeze _ _ = W3 at hW3 RA RB ⊢
        refine wpAnyH_ready (rs := [12]) (by kernel_rfl) (by simp) ?_
        refine AllReadyH.cons (o := { dst := some 21, op := .convert 22 22 (.tmp 20), type := 22, pos := _, after := _, guard := some (7, true) }) rfl ?_ ?_
        · intro K hK
          rw [if_pos (by kernel_rfl)]
          have hcv := RB.conv 7 7
          go_simp
          have hW4 := below_frz hW3 (p := ⟨gB, 7, none⟩) hg11 1
          refine hK.out _ _ hW4 (fun _ => ?_)
          clear hK K hcv
          try simp only [Act.put, List.setIfInBounds_toArray, List.set_cons_zero, List.set_cons_succ]
          replace RA := RA.freeze ⟨gB, 7, none⟩ 1
          replace RB := RB.freeze ⟨gB, 7, none⟩ 1
          generalize W3.freeze _ _ = W4 at hW4 RA RB ⊢
          refine wpAnyH_ready (rs := [13]) (by kernel_rfl) (by simp) ?_
          refine AllReadyH.cons (o := { dst := some 22, op := .buildSlice 31 1 #[(0, .tmp 21)], type := 31, pos := _, after := _, guard := some (7, true) }) rfl ?_ ?_
          · intro K hK
            rw [if_pos (by kernel_rfl)]
            go_simp
            have hW5 := hW4.alloc hW4.size (.cells #[.slice (some ⟨gB, 0, none⟩) 7 7] 22)
            refine hK.out _ _ hW5 (fun _ => ?_)
            clear hK K
            try simp only [Act.put, List.setIfInBounds_toArray, List.set_cons_zero, List.set_cons_succ]
            have RC := RowV.new W4 #[.slice (some ⟨gB, 0, none⟩) 7 7] 22
            replace RA := RA.alloc (.cells #[.slice (some ⟨gB, 0, none⟩) 7 7] 22)
            replace RB := RB.alloc (.cells #[.slice (some ⟨gB, 0, none⟩) 7 7] 22)
            have hg13 : w3.heap.size ≤ W4.heap.size := hW4.size
            generalize W4.alloc _ = W5 at hW5 RA RB RC ⊢
            generalize W4.heap.size = gC at RC hg13 ⊢
            refine wpAnyH_ready (rs := [14]) (by kernel_rfl) (by simp) (AllReadyH.cons (o := { dst := some 23, op := .call { callee := .value (.func 14), args := #[.tmp 19, .tmp 22], argTypes := #[22, 31] }, type := 24, pos := _, after := _, guard := some (7, true) }) rfl ?_ AllReadyH.nil)
            intro K hK
            rw [if_pos (by kernel_rfl)]
            go_simp
            have hbwW : Below w.heap.size w W5 := hbw3.trans (hW5.mono hbw3.size)
            refine (hmac_any _ _ keyB _ [msgB] _ (RA.bsl (bs := keyB) 3 rfl) (by decide) (RC.psl (RB.bsl (bs := msgB) 7 rfl)) (by simp) (by decide) (HK.out.below hbwW h3) (HS.out.below hbwW h3) (mid_lt h3 hbwW)).mono ?_
            rintro e W9 ⟨rfl, hb9⟩
            rw [show [msgB].flatten = msgB by simp, ← HY.out]
            have hW9 : Below w3.heap.size w3 W9 := hW5.trans (hb9.mono hW5.size)
            refine hK.out _ _ hW9 (fun _ => ?_)
            clear hK K
            try simp only [Act.put, List.setIfInBounds_toArray, List.set_cons_zero, List.set_cons_succ]
            refine wpAnyH_take (i := 15) (oi := { dst := some 24, op := .binOp .eql 43 (.tmp 17) (.tmp 23) 43, type := 4, pos := _, after := _, guard := some (7, true) }) (v := .bool true) rfl (by kernel_rfl) (by kernel_rfl) (by kernel_rfl) (fun _ _ _ h => h) (Or.inl ⟨by kernel_rfl, fun w _ => by go_simp⟩) hW9 ?_
            try simp only [Act.put, List.setIfInBounds_toArray, List.set_cons_zero, List.set_cons_succ]
            refine wpAnyH_take (i := 16) (oi := { dst := some 25, op := .pick (.tmp 16) (.tmp 24) (.const (.bool false)), type := 4, pos := _, after := _, guard := none }) (v := .bool true) rfl (by kernel_rfl) (by kernel_rfl) (by kernel_rfl) (fun _ _ _ h => h) (Or.inl ⟨by kernel_rfl, fun w _ => by go_simp⟩) hW9 ?_
            try simp only [Act.put, List.setIfInBounds_toArray, List.set_cons_zero, List.set_cons_succ]
            first | (refine wpAnyH_take (i := 17) (oi := { dst := some 0, op := .assign (.tmp 25), type := 4, pos := _, after := _, guard := none }) (v := .bool true) rfl (by kernel_rfl) (by kernel_rfl) (by kernel_rfl) (fun _ _ _ h => h) (Or.inl ⟨by kernel_rfl, fun w _ => by go_simp⟩) hW9 ?_) | skip
            try simp only [Act.put, List.setIfInBounds_toArray, List.set_cons_zero, List.set_cons_succ]
            refine wpAnyH_done (by kernel_rfl) ?_ _
            go_simp
            go_wp2
            go_ret
            exact ⟨rfl, hbw3.trans (hW9.mono hbw3.size)⟩
          exact AllReadyH.nil
        exact AllReadyH.nil
      refine AllReadyH.cons (o := { dst := some 21, op := .convert 22 22 (.tmp 20), type := 22, pos := _, after := _, guard := some (7, true) }) rfl ?_ ?_
      · intro K hK
        rw [if_pos (by kernel_rfl)]
        have hcv := RB.conv 7 7
        go_simp
        have hW3 := below_frz hW2 (p := ⟨gB, 7, none⟩) hg11 1
        refine hK.out _ _ hW3 (fun _ => ?_)
        clear hK K hcv
        try simp only [Act.put, List.setIfInBounds_toArray, List.set_cons_zero, List.set_cons_succ]
        replace RA := RA.freeze ⟨gB, 7, none⟩ 1
        replace RB := RB.freeze ⟨gB, 7, none⟩ 1
        generalize W2.freeze _ _ = W3 at hW3 RA RB ⊢
        refine wpAnyH_ready (rs := [10, 13]) (by kernel_rfl) (by simp) ?_
        refine AllReadyH.cons (o := { dst := some 19, op := .convert 22 22 (.tmp 18), type := 22, pos := _, after := _, guard := some (7, true) }) rfl ?_ ?_
        · intro K hK
          rw [if_pos (by kernel_rfl)]
          have hcv := RA.conv 3 3
          go_simp
          have hW4 := below_frz hW3 (p := ⟨gA, 3, none⟩) hg9 1
          refine hK.out _ _ hW4 (fun _ => ?_)
          clear hK K hcv
          try simp only [Act.put, List.setIfInBounds_toArray, List.set_cons_zero, List.set_cons_succ]
          replace RA := RA.freeze ⟨gA, 3, none⟩ 1
          replace RB := RB.freeze ⟨gA, 3, none⟩ 1
          generalize W3.freeze _ _ = W4 at hW4 RA RB ⊢
          refine wpAnyH_ready (rs := [13]) (by kernel_rfl) (by simp) ?_
          refine AllReadyH.cons (o := { dst := some 22, op := .buildSlice 31 1 #[(0, .tmp 21)], type := 31, pos := _, after := _, guard := some (7, true) }) rfl ?_ ?_
          · intro K hK
            rw [if_pos (by kernel_rfl)]
            go_simp
            have hW5 := hW4.alloc hW4.size (.cells #[.slice (some ⟨gB, 0, none⟩) 7 7] 22)
            refine hK.out _ _ hW5 (fun _ => ?_)
            clear hK K
            try simp only [Act.put, List.setIfInBounds_toArray, List.set_cons_zero, List.set_cons_succ]
            have RC := RowV.new W4 #[.slice (some ⟨gB, 0, none⟩) 7 7] 22
            replace RA := RA.alloc (.cells #[.slice (some ⟨gB, 0, none⟩) 7 7] 22)
            replace RB := RB.alloc (.cells #[.slice (some ⟨gB, 0, none⟩) 7 7] 22)
            have hg13 : w3.heap.size ≤ W4.heap.size := hW4.size
            generalize W4.alloc _ = W5 at hW5 RA RB RC ⊢
            generalize W4.heap.size = gC at RC hg13 ⊢
            refine wpAnyH_ready (rs := [14]) (by kernel_rfl) (by simp) (AllReadyH.cons (o := { dst := some 23, op := .call { callee := .value (.func 14), args := #[.tmp 19, .tmp 22], argTypes := #[22, 31] }, type := 24, pos := _, after := _, guard := some (7, true) }) rfl ?_ AllReadyH.nil)
            intro K hK
            rw [if_pos (by kernel_rfl)]
            go_simp
            have hbwW : Below w.heap.size w W5 := hbw3.trans (hW5.mono hbw3.size)
            refine (hmac_any _ _ keyB _ [msgB] _ (RA.bsl (bs := keyB) 3 rfl) (by decide) (RC.psl (RB.bsl (bs := msgB) 7 rfl)) (by simp) (by decide) (HK.out.below hbwW h3) (HS.out.below hbwW h3) (mid_lt h3 hbwW)).mono ?_
            rintro e W9 ⟨rfl, hb9⟩
            rw [show [msgB].flatten = msgB by simp, ← HY.out]
            have hW9 : Below w3.heap.size w3 W9 := hW5.trans (hb9.mono hW5.size)
            refine hK.out _ _ hW9 (fun _ => ?_)
            clear hK K
            try simp only [Act.put, List.setIfInBounds_toArray, List.set_cons_zero, List.set_cons_succ]
            refine wpAnyH_take (i := 15) (oi := { dst := some 24, op := .binOp .eql 43 (.tmp 17) (.tmp 23) 43, type := 4, pos := _, after := _, guard := some (7, true) }) (v := .bool true) rfl (by kernel_rfl) (by kernel_rfl) (by kernel_rfl) (fun _ _ _ h => h) (Or.inl ⟨by kernel_rfl, fun w _ => by go_simp⟩) hW9 ?_
            try simp only [Act.put, List.setIfInBounds_toArray, List.set_cons_zero, List.set_cons_succ]
            refine wpAnyH_take (i := 16) (oi := { dst := some 25, op := .pick (.tmp 16) (.tmp 24) (.const (.bool false)), type := 4, pos := _, after := _, guard := none }) (v := .bool true) rfl (by kernel_rfl) (by kernel_rfl) (by kernel_rfl) (fun _ _ _ h => h) (Or.inl ⟨by kernel_rfl, fun w _ => by go_simp⟩) hW9 ?_
            try simp only [Act.put, List.setIfInBounds_toArray, List.set_cons_zero, List.set_cons_succ]
            first | (refine wpAnyH_take (i := 17) (oi := { dst := some 0, op := .assign (.tmp 25), type := 4, pos := _, after := _, guard := none }) (v := .bool true) rfl (by kernel_rfl) (by kernel_rfl) (by kernel_rfl) (fun _ _ _ h => h) (Or.inl ⟨by kernel_rfl, fun w _ => by go_simp⟩) hW9 ?_) | skip
            try simp only [Act.put, List.setIfInBounds_toArray, List.set_cons_zero, List.set_cons_succ]
            refine wpAnyH_done (by kernel_rfl) ?_ _
            go_simp
            go_wp2
            go_ret
            exact ⟨rfl, hbw3.trans (hW9.mono hbw3.size)⟩
          exact AllReadyH.nil
        refine AllReadyH.cons (o := { dst := some 22, op := .buildSlice 31 1 #[(0, .tmp 21)], type := 31, pos := _, after := _, guard := some (7, true) }) rfl ?_ ?_
        · intro K hK
          rw [if_pos (by kernel_rfl)]
          go_simp
          have hW4 := hW3.alloc hW3.size (.cells #[.slice (some ⟨gB, 0, none⟩) 7 7] 22)
          refine hK.out _ _ hW4 (fun _ => ?_)
          clear hK K
          try simp only [Act.put, List.setIfInBounds_toArray, List.set_cons_zero, List.set_cons_succ]
          have RC := RowV.new W3 #[.slice (some ⟨gB, 0, none⟩) 7 7] 22
          replace RA := RA.alloc (.cells #[.slice (some ⟨gB, 0, none⟩) 7 7] 22)
          replace RB := RB.alloc (.cells #[.slice (some ⟨gB, 0, none⟩) 7 7] 22)
          have hg13 : w3.heap.size ≤ W3.heap.size := hW3.size
          generalize W3.alloc _ = W4 at hW4 RA RB RC ⊢
          generalize W3.heap.size = gC at RC hg13 ⊢
          refine wpAnyH_ready (rs := [10]) (by kernel_rfl) (by simp) ?_
          refine AllReadyH.cons (o := { dst := some 19, op := .convert 22 22 (.tmp 18), type := 22, pos := _, after := _, guard := some (7, true) }) rfl ?_ ?_
          · intro K hK
            rw [if_pos (by kernel_rfl)]
            have hcv := RA.conv 3 3
            go_simp
            have hW5 := below_frz hW4 (p := ⟨gA, 3, none⟩) hg9 1
            refine hK.out _ _ hW5 (fun _ => ?_)
            clear hK K hcv
            try simp only [Act.put, List.setIfInBounds_toArray, List.set_cons_zero, List.set_cons_succ]
            replace RA := RA.freeze ⟨gA, 3, none⟩ 1
            replace RB := RB.freeze ⟨gA, 3, none⟩ 1
            replace RC := RC.freeze ⟨gA, 3, none⟩ 1
            generalize W4.freeze _ _ = W5 at hW5 RA RB RC ⊢
            refine wpAnyH_ready (rs := [14]) (by kernel_rfl) (by simp) (AllReadyH.cons (o := { dst := some 23, op := .call { callee := .value (.func 14), args := #[.tmp 19, .tmp 22], argTypes := #[22, 31] }, type := 24, pos := _, after := _, guard := some (7, true) }) rfl ?_ AllReadyH.nil)
            intro K hK
            rw [if_pos (by kernel_rfl)]
            go_simp
            have hbwW : Below w.heap.size w W5 := hbw3.trans (hW5.mono hbw3.size)
            refine (hmac_any _ _ keyB _ [msgB] _ (RA.bsl (bs := keyB) 3 rfl) (by decide) (RC.psl (RB.bsl (bs := msgB) 7 rfl)) (by simp) (by decide) (HK.out.below hbwW h3) (HS.out.below hbwW h3) (mid_lt h3 hbwW)).mono ?_
            rintro e W9 ⟨rfl, hb9⟩
            rw [show [msgB].flatten = msgB by simp, ← HY.out]
            have hW9 : Below w3.heap.size w3 W9 := hW5.trans (hb9.mono hW5.size)
            refine hK.out _ _ hW9 (fun _ => ?_)
            clear hK K
            try simp only [Act.put, List.setIfInBounds_toArray, List.set_cons_zero, List.set_cons_succ]
            refine wpAnyH_take (i := 15) (oi := { dst := some 24, op := .binOp .eql 43 (.tmp 17) (.tmp 23) 43, type := 4, pos := _, after := _, guard := some (7, true) }) (v := .bool true) rfl (by kernel_rfl) (by kernel_rfl) (by kernel_rfl) (fun _ _ _ h => h) (Or.inl ⟨by kernel_rfl, fun w _ => by go_simp⟩) hW9 ?_
            try simp only [Act.put, List.setIfInBounds_toArray, List.set_cons_zero, List.set_cons_succ]
            refine wpAnyH_take (i := 16) (oi := { dst := some 25, op := .pick (.tmp 16) (.tmp 24) (.const (.bool false)), type := 4, pos := _, after := _, guard := none }) (v := .bool true) rfl (by kernel_rfl) (by kernel_rfl) (by kernel_rfl) (fun _ _ _ h => h) (Or.inl ⟨by kernel_rfl, fun w _ => by go_simp⟩) hW9 ?_
            try simp only [Act.put, List.setIfInBounds_toArray, List.set_cons_zero, List.set_cons_succ]
            first | (refine wpAnyH_take (i := 17) (oi := { dst := some 0, op := .assign (.tmp 25), type := 4, pos := _, after := _, guard := none }) (v := .bool true) rfl (by kernel_rfl) (by kernel_rfl) (by kernel_rfl) (fun _ _ _ h => h) (Or.inl ⟨by kernel_rfl, fun w _ => by go_simp⟩) hW9 ?_) | skip
            try simp only [Act.put, List.setIfInBounds_toArray, List.set_cons_zero, List.set_cons_succ]
            refine wpAnyH_done (by kernel_rfl) ?_ _
            go_simp
            go_wp2
            go_ret
            exact ⟨rfl, hbw3.trans (hW9.mono hbw3.size)⟩
          exact AllReadyH.nil
        exact AllReadyH.nil
      exact AllReadyH.nil
    refine AllReadyH.cons (o := { dst := some 21, op := .convert 22 22 (.tmp 20), type := 22, pos := _, after := _, guard := some (7, true) }) rfl ?_ ?_
    · intro K hK
      rw [if_pos (by kernel_rfl)]
      have hcv := RB.conv 7 7
      go_simp
      have hW2 := below_frz hW1 (p := ⟨gB, 7, none⟩) hg11 1
      refine hK.out _ _ hW2 (fun _ => ?_)
      clear hK K hcv
      try simp only [Act.put, List.setIfInBounds_toArray, List.set_cons_zero, List.set_cons_succ]
      replace RB := RB.freeze ⟨gB, 7, none⟩ 1
      generalize W1.freeze _ _ = W2 at hW2 RB ⊢
      refine wpAnyH_ready (rs := [9, 13]) (by kernel_rfl) (by simp) ?_
      refine AllReadyH.cons (o := { dst := some 18, op := .buildSlice 22 3 #[(0, .const (.int .u8 107)), (1, .const (.int .u8 101)), (2, .const (.int .u8 121))], type := 22, pos := _, after := _, guard := some (7, true) }) rfl ?_ ?_
      · intro K hK
        rw [if_pos (by kernel_rfl)]
        go_simp
        have hW3 := hW2.alloc hW2.size (.cells #[.int .u8 107, .int .u8 101, .int .u8 121] 5)
        refine hK.out _ _ hW3 (fun _ => ?_)
        clear hK K
        try simp only [Act.put, List.setIfInBounds_toArray, List.set_cons_zero, List.set_cons_succ]
        have RA := RowV.new W2 #[.int .u8 107, .int .u8 101, .int .u8 121] 5
        replace RB := RB.alloc (.cells #[.int .u8 107, .int .u8 101, .int .u8 121] 5)
        have hg9 : w3.heap.size ≤ W2.heap.size := hW2.size
        generalize W2.alloc _ = W3 at hW3 RB RA ⊢
        generalize W2.heap.size = gA at RA hg9 ⊢
        refine wpAnyH_ready (rs := [10, 13]) (by kernel_rfl) (by simp) ?_
        refine AllReadyH.cons (o := { dst := some 19, op := .convert 22 22 (.tmp 18), type := 22, pos := _, after := _, guard := some (7, true) }) rfl ?_ ?_
        · intro K hK
          rw [if_pos (by kernel_rfl)]
          have hcv := RA.conv 3 3
          go_simp
          have hW4 := below_frz hW3 (p := ⟨gA, 3, none⟩) hg9 1
          refine hK.out _ _ hW4 (fun _ => ?_)
          clear hK K hcv
          try simp only [Act.put, List.setIfInBounds_toArray, List.set_cons_zero, List.set_cons_succ]
          replace RA := RA.freeze ⟨gA, 3, none⟩ 1
          replace RB := RB.freeze ⟨gA, 3, none⟩ 1
          generalize W3.freeze _ _ = W4 at hW4 RA RB ⊢
          refine wpAnyH_ready (rs := [13]) (by kernel_rfl) (by simp) ?_
          refine AllReadyH.cons (o := { dst := some 22, op := .buildSlice 31 1 #[(0, .tmp 21)], type := 31, pos := _, after := _, guard := some (7, true) }) rfl ?_ ?_
          · intro K hK
            rw [if_pos (by kernel_rfl)]
            go_simp
            have hW5 := hW4.alloc hW4.size (.cells #[.slice (some ⟨gB, 0, none⟩) 7 7] 22)
            refine hK.out _ _ hW5 (fun _ => ?_)
            clear hK K
            try simp only [Act.put, List.setIfInBounds_toArray, List.set_cons_zero, List.set_cons_succ]
            have RC := RowV.new W4 #[.slice (some ⟨gB, 0, none⟩) 7 7] 22
            replace RA := RA.alloc (.cells #[.slice (some ⟨gB, 0, none⟩) 7 7] 22)
            replace RB := RB.alloc (.cells #[.slice (some ⟨gB, 0, none⟩) 7 7] 22)
            have hg13 : w3.heap.size ≤ W4.heap.size := hW4.size
            generalize W4.alloc _ = W5 at hW5 RA RB RC ⊢
            generalize W4.heap.size = gC at RC hg13 ⊢
            refine wpAnyH_ready (rs := [14]) (by kernel_rfl) (by simp) (AllReadyH.cons (o := { dst := some 23, op := .call { callee := .value (.func 14), args := #[.tmp 19, .tmp 22], argTypes := #[22, 31] }, type := 24, pos := _, after := _, guard := some (7, true) }) rfl ?_ AllReadyH.nil)
            intro K hK
            rw [if_pos (by kernel_rfl)]
            go_simp
            have hbwW : Below w.heap.size w W5 := hbw3.trans (hW5.mono hbw3.size)
            refine (hmac_any _ _ keyB _ [msgB] _ (RA.bsl (bs := keyB) 3 rfl) (by decide) (RC.psl (RB.bsl (bs := msgB) 7 rfl)) (by simp) (by decide) (HK.out.below hbwW h3) (HS.out.below hbwW h3) (mid_lt h3 hbwW)).mono ?_
            rintro e W9 ⟨rfl, hb9⟩
            rw [show [msgB].flatten = msgB by simp, ← HY.out]
            have hW9 : Below w3.heap.size w3 W9 := hW5.trans (hb9.mono hW5.size)
            refine hK.out _ _ hW9 (fun _ => ?_)
            clear hK K
            try simp only [Act.put, List.setIfInBounds_toArray, List.set_cons_zero, List.set_cons_succ]
            refine wpAnyH_take (i := 15) (oi := { dst := some 24, op := .binOp .eql 43 (.tmp 17) (.tmp 23) 43, type := 4, pos := _, after := _, guard := some (7, true) }) (v := .bool true) rfl (by kernel_rfl) (by kernel_rfl) (by kernel_rfl) (fun _ _ _ h => h) (Or.inl ⟨by kernel_rfl, fun w _ => by go_simp⟩) hW9 ?_
            try simp only [Act.put, List.setIfInBounds_toArray, List.set_cons_zero, List.set_cons_succ]
            refine wpAnyH_take (i := 16) (oi := { dst := some 25, op := .pick (.tmp 16) (.tmp 24) (.const (.bool false)), type := 4, pos := _, after := _, guard := none }) (v := .bool true) rfl (by kernel_rfl) (by kernel_rfl) (by kernel_rfl) (fun _ _ _ h => h) (Or.inl ⟨by kernel_rfl, fun w _ => by go_simp⟩) hW9 ?_
            try simp only [Act.put, List.setIfInBounds_toArray, List.set_cons_zero, List.set_cons_succ]
            first | (refine wpAnyH_take (i := 17) (oi := { dst := some 0, op := .assign (.tmp 25), type := 4, pos := _, after := _, guard := none }) (v := .bool true) rfl (by kernel_rfl) (by kernel_rfl) (by kernel_rfl) (fun _ _ _ h => h) (Or.inl ⟨by kernel_rfl, fun w _ => by go_simp⟩) hW9 ?_) | skip
            try simp only [Act.put, List.setIfInBounds_toArray, List.set_cons_zero, List.set_cons_succ]
            refine wpAnyH_done (by kernel_rfl) ?_ _
            go_simp
            go_wp2
            go_ret
            exact ⟨rfl, hbw3.trans (hW9.mono hbw3.size)⟩
          exact AllReadyH.nil
        refine AllReadyH.cons (o := { dst := some 22, op := .buildSlice 31 1 #[(0, .tmp 21)], type := 31, pos := _, after := _, guard := some (7, true) }) rfl ?_ ?_
        · intro K hK
          rw [if_pos (by kernel_rfl)]
          go_simp
          have hW4 := hW3.alloc hW3.size (.cells #[.slice (some ⟨gB, 0, none⟩) 7 7] 22)
          refine hK.out _ _ hW4 (fun _ => ?_)
          clear hK K
          try simp only [Act.put, List.setIfInBounds_toArray, List.set_cons_zero, List.set_cons_succ]
          have RC := RowV.new W3 #[.slice (some ⟨gB, 0, none⟩) 7 7] 22
          replace RA := RA.alloc (.cells #[.slice (some ⟨gB, 0, none⟩) 7 7] 22)
          replace RB := RB.alloc (.cells #[.slice (some ⟨gB, 0, none⟩) 7 7] 22)
          have hg13 : w3.heap.size ≤ W3.heap.size := hW3.size
          generalize W3.alloc _ = W4 at hW4 RA RB RC ⊢
          generalize W3.heap.size = gC at RC hg13 ⊢
          refine wpAnyH_ready (rs := [10]) (by kernel_rfl) (by simp) ?_
          refine AllReadyH.cons (o := { dst := some 19, op := .convert 22 22 (.tmp 18), type := 22, pos := _, after := _, guard := some (7, true) }) rfl ?_ ?_
          · intro K hK
            rw [if_pos (by kernel_rfl)]
            have hcv := RA.conv 3 3
            go_simp
            have hW5 := below_frz hW4 (p := ⟨gA, 3, none⟩) hg9 1
            refine hK.out _ _ hW5 (fun _ => ?_)
            clear hK K hcv
            try simp only [Act.put, List.setIfInBounds_toArray, List.set_cons_zero, List.set_cons_succ]
            replace RA := RA.freeze ⟨gA, 3, none⟩ 1
            replace RB := RB.freeze ⟨gA, 3, none⟩ 1
            replace RC := RC.freeze ⟨gA, 3, none⟩ 1
            generalize W4.freeze _ _ = W5 at hW5 RA RB RC ⊢
            refine wpAnyH_ready (rs := [14]) (by kernel_rfl) (by simp) (AllReadyH.cons (o := { dst := some 23, op := .call { callee := .value (.func 14), args := #[.tmp 19, .tmp 22], argTypes := #[22, 31] }, type := 24, pos := _, after := _, guard := some (7, true) }) rfl ?_ AllReadyH.nil)
            intro K hK
            rw [if_pos (by kernel_rfl)]
            go_simp
            have hbwW : Below w.heap.size w W5 := hbw3.trans (hW5.mono hbw3.size)
            refine (hmac_any _ _ keyB _ [msgB] _ (RA.bsl (bs := keyB) 3 rfl) (by decide) (RC.psl (RB.bsl (bs := msgB) 7 rfl)) (by simp) (by decide) (HK.out.below hbwW h3) (HS.out.below hbwW h3) (mid_lt h3 hbwW)).mono ?_
            rintro e W9 ⟨rfl, hb9⟩
            rw [show [msgB].flatten = msgB by simp, ← HY.out]
            have hW9 : Below w3.heap.size w3 W9 := hW5.trans (hb9.mono hW5.size)
            refine hK.out _ _ hW9 (fun _ => ?_)
            clear hK K
            try simp only [Act.put, List.setIfInBounds_toArray, List.set_cons_zero, List.set_cons_succ]
            refine wpAnyH_take (i := 15) (oi := { dst := some 24, op := .binOp .eql 43 (.tmp 17) (.tmp 23) 43, type := 4, pos := _, after := _, guard := some (7, true) }) (v := .bool true) rfl (by kernel_rfl) (by kernel_rfl) (by kernel_rfl) (fun _ _ _ h => h) (Or.inl ⟨by kernel_rfl, fun w _ => by go_simp⟩) hW9 ?_
            try simp only [Act.put, List.setIfInBounds_toArray, List.set_cons_zero, List.set_cons_succ]
            refine wpAnyH_take (i := 16) (oi := { dst := some 25, op := .pick (.tmp 16) (.tmp 24) (.const (.bool false)), type := 4, pos := _, after := _, guard := none }) (v := .bool true) rfl (by kernel_rfl) (by kernel_rfl) (by kernel_rfl) (fun _ _ _ h => h) (Or.inl ⟨by kernel_rfl, fun w _ => by go_simp⟩) hW9 ?_
            try simp only [Act.put, List.setIfInBounds_toArray, List.set_cons_zero, List.set_cons_succ]
            first | (refine wpAnyH_take (i := 17) (oi := { dst := some 0, op := .assign (.tmp 25), type := 4, pos := _, after := _, guard := none }) (v := .bool true) rfl (by kernel_rfl) (by kernel_rfl) (by kernel_rfl) (fun _ _ _ h => h) (Or.inl ⟨by kernel_rfl, fun w _ => by go_simp⟩) hW9 ?_) | skip
            try simp only [Act.put, List.setIfInBounds_toArray, List.set_cons_zero, List.set_cons_succ]
            refine wpAnyH_done (by kernel_rfl) ?_ _
            go_simp
            go_wp2
            go_ret
            exact ⟨rfl, hbw3.trans (hW9.mono hbw3.size)⟩
          exact AllReadyH.nil
        exact AllReadyH.nil
      refine AllReadyH.cons (o := { dst := some 22, op := .buildSlice 31 1 #[(0, .tmp 21)], type := 31, pos := _, after := _, guard := some (7, true) }) rfl ?_ ?_
      · intro K hK
        rw [if_pos (by kernel_rfl)]
        go_simp
        have hW3 := hW2.alloc hW2.size (.cells #[.slice (some ⟨gB, 0, none⟩) 7 7] 22)
        refine hK.out _ _ hW3 (fun _ => ?_)
        clear hK K
        try simp only [Act.put, List.setIfInBounds_toArray, List.set_cons_zero, List.set_cons_succ]
        have RC := RowV.new W2 #[.slice (some ⟨gB, 0, none⟩) 7 7] 22
        replace RB := RB.alloc (.cells #[.slice (some ⟨gB, 0, none⟩) 7 7] 22)
        have hg13 : w3.heap.size ≤ W2.heap.size := hW2.size
        generalize W2.alloc _ = W3 at hW3 RB RC ⊢
        generalize W2.heap.size = gC at RC hg13 ⊢
        refine wpAnyH_ready (rs := [9]) (by kernel_rfl) (by simp) ?_
        refine AllReadyH.cons (o := { dst := some 18, op := .buildSlice 22 3 #[(0, .const (.int .u8 107)), (1, .const (.int .u8 101)), (2, .const (.int .u8 121))], type := 22, pos := _, after := _, guard := some (7, true) }) rfl ?_ ?_
        · intro K hK
          rw [if_pos (by kernel_rfl)]
          go_simp
          have hW4 := hW3.alloc hW3.size (.cells #[.int .u8 107, .int .u8 101, .int .u8 121] 5)
          refine hK.out _ _ hW4 (fun _ => ?_)
          clear hK K
          try simp only [Act.put, List.setIfInBounds_toArray, List.set_cons_zero, List.set_cons_succ]
          have RA := RowV.new W3 #[.int .u8 107, .int .u8 101, .int .u8 121] 5
          replace RB := RB.alloc (.cells #[.int .u8 107, .int .u8 101, .int .u8 121] 5)
          replace RC := RC.alloc (.cells #[.int .u8 107, .int .u8 101, .int .u8 121] 5)
          have hg9 : w3.heap.size ≤ W3.heap.size := hW3.size
          generalize W3.alloc _ = W4 at hW4 RB RC RA ⊢
          generalize W3.heap.size = gA at RA hg9 ⊢
          refine wpAnyH_ready (rs := [10]) (by kernel_rfl) (by simp) ?_
          refine AllReadyH.cons (o := { dst := some 19, op := .convert 22 22 (.tmp 18), type := 22, pos := _, after := _, guard := some (7, true) }) rfl ?_ ?_
          · intro K hK
            rw [if_pos (by kernel_rfl)]
            have hcv := RA.conv 3 3
            go_simp
            have hW5 := below_frz hW4 (p := ⟨gA, 3, none⟩) hg9 1
            refine hK.out _ _ hW5 (fun _ => ?_)
            clear hK K hcv
            try simp only [Act.put, List.setIfInBounds_toArray, List.set_cons_zero, List.set_cons_succ]
            replace RA := RA.freeze ⟨gA, 3, none⟩ 1
            replace RB := RB.freeze ⟨gA, 3, none⟩ 1
            replace RC := RC.freeze ⟨gA, 3, none⟩ 1
            generalize W4.freeze _ _ = W5 at hW5 RA RB RC ⊢
            refine wpAnyH_ready (rs := [14]) (by kernel_rfl) (by simp) (AllReadyH.cons (o := { dst := some 23, op := .call { callee := .value (.func 14), args := #[.tmp 19, .tmp 22], argTypes := #[22, 31] }, type := 24, pos := _, after := _, guard := some (7, true) }) rfl ?_ AllReadyH.nil)
            intro K hK
            rw [if_pos (by kernel_rfl)]
            go_simp
            have hbwW : Below w.heap.size w W5 := hbw3.trans (hW5.mono hbw3.size)
            refine (hmac_any _ _ keyB _ [msgB] _ (RA.bsl (bs := keyB) 3 rfl) (by decide) (RC.psl (RB.bsl (bs := msgB) 7 rfl)) (by simp) (by decide) (HK.out.below hbwW h3) (HS.out.below hbwW h3) (mid_lt h3 hbwW)).mono ?_
            rintro e W9 ⟨rfl, hb9⟩
            rw [show [msgB].flatten = msgB by simp, ← HY.out]
            have hW9 : Below w3.heap.size w3 W9 := hW5.trans (hb9.mono hW5.size)
            refine hK.out _ _ hW9 (fun _ => ?_)
            clear hK K
            try simp only [Act.put, List.setIfInBounds_toArray, List.set_cons_zero, List.set_cons_succ]
            refine wpAnyH_take (i := 15) (oi := { dst := some 24, op := .binOp .eql 43 (.tmp 17) (.tmp 23) 43, type := 4, pos := _, after := _, guard := some (7, true) }) (v := .bool true) rfl (by kernel_rfl) (by kernel_rfl) (by kernel_rfl) (fun _ _ _ h => h) (Or.inl ⟨by kernel_rfl, fun w _ => by go_simp⟩) hW9 ?_
            try simp only [Act.put, List.setIfInBounds_toArray, List.set_cons_zero, List.set_cons_succ]
            refine wpAnyH_take (i := 16) (oi := { dst := some 25, op := .pick (.tmp 16) (.tmp 24) (.const (.bool false)), type := 4, pos := _, after := _, guard := none }) (v := .bool true) rfl (by kernel_rfl) (by kernel_rfl) (by kernel_rfl) (fun _ _ _ h => h) (Or.inl ⟨by kernel_rfl, fun w _ => by go_simp⟩) hW9 ?_
            try simp only [Act.put, List.setIfInBounds_toArray, List.set_cons_zero, List.set_cons_succ]
            first | (refine wpAnyH_take (i := 17) (oi := { dst := some 0, op := .assign (.tmp 25), type := 4, pos := _, after := _, guard := none }) (v := .bool true) rfl (by kernel_rfl) (by kernel_rfl) (by kernel_rfl) (fun _ _ _ h => h) (Or.inl ⟨by kernel_rfl, fun w _ => by go_simp⟩) hW9 ?_) | skip
            try simp only [Act.put, List.setIfInBounds_toArray, List.set_cons_zero, List.set_cons_succ]
            refine wpAnyH_done (by kernel_rfl) ?_ _
            go_simp
            go_wp2
            go_ret
            exact ⟨rfl, hbw3.trans (hW9.mono hbw3.size)⟩
          exact AllReadyH.nil
        exact AllReadyH.nil
      exact AllReadyH.nil
    exact AllReadyH.nil
  exact AllReadyH.nil
end Go.Proofs.YtjkicmlelilcaaaDoor
namespace Go.Proofs.YtjkicmlelilcaaaDoor
open Go.RowKit
theorem be8_length (n : Nat) : (be8 n).length = 8 := rfl
attribute [local irreducible] be2 be4 be8 layTo layB chg shaB hmB
set_option maxHeartbeats 400000 in
theorem weight_any (p n : Nat) (bs : List UInt8) (w : World) (hw : WrAt p bs w) (hl : bs.length ≤ 700000000) (hn : n < 18446744073709551616) :
    Calls Tryd.prog 70 #[.pointer (some ⟨p, 0, none⟩), .int .u64 n] w (WrP p (bs ++ be8 n) w) := by
  have e1 : ((n : Nat) : Int) / 4294967296 = ((n / 4294967296 : Nat) : Int) := by omega
  have e2 : ((n : Nat) : Int) % 4294967296 = ((n % 4294967296 : Nat) : Int) := by omega
  have H8 : Hid (be4 (n / 4294967296) ++ be4 (n % 4294967296) = be8 n) := by unfold be8; rfl
  have HE1 := Lib.hid e1
  have HE2 := Lib.hid e2
  clear e1 e2
  go_enter Tryd.func70, Tryd.ntmps70
  go_wp2_with fail
  rw [HE1.out]
  refine (four_any p (n / 4294967296) bs w hw (by omega) (by omega)).mono ?_
  rintro e w1 ⟨rfl, hw1, hb1⟩
  go_wp2_with fail
  rw [HE2.out]
  refine (four_any p (n % 4294967296) _ w1 hw1 (by rw [List.length_append, be4_length]; omega) (by omega)).mono ?_
  rintro e w2 ⟨rfl, hw2, hb2⟩
  rw [List.append_assoc, H8.out] at hw2
  go_wp2
  go_ret
  exact ⟨rfl, hw2, hb1.trans hb2⟩
set_option maxHeartbeats 400000 in
theorem lay_67 (p q n : Nat) (bs : List UInt8) (w : World) (hw : WrAt p bs w) (hq : w.cell? ⟨q, 0, none⟩ = some (.int .u32 n)) (hn : n < 4294967296) (hl : bs.length ≤ 1000) :
    Calls Tryd.prog 67 #[.pointer (some ⟨p, 0, none⟩), .pointer (some ⟨q, 0, none⟩)] w fun e w' => e = .returned (.tuple #[]) ∧ WrAt p (bs ++ be4 n) w' ∧ Below p w w' := by
  go_enter Tryd.func67, Tryd.ntmps67
  go_wp2_with fail
  refine (four_any p n bs w hw (by omega) hn).mono ?_
  rintro e w1 ⟨rfl, hw1, hb1⟩
  go_wp2
  go_end0
  exact ⟨rfl, hw1, hb1⟩
set_option maxHeartbeats 400000 in
theorem part_67 (q n : Nat) (w : World) (hq : w.cell? ⟨q, 0, none⟩ = some (.int .u32 n)) (hql : q < w.heap.size) (hn : n < 4294967296) :
    Calls Tryd.prog 66 #[.func (.func 67) #[] #[.pointer (some ⟨q, 0, none⟩)]] w fun e w' => ∃ v, e = .returned v ∧ w'.ownsRow w.heap.size 5 1 v (be4 n).length (c8l (be4 n)) ∧ Below w.heap.size w w' := by
  go_enter Tryd.func66, Tryd.ntmps66
  go_wp2_with fail
  refine (lay_67 w.heap.size q n [] _ (wr_new w) (by rw [(alloc_below w).cell (p := ⟨q, 0, none⟩) hql]; exact hq) hn (by simp)).mono ?_
  rintro e w1 ⟨rfl, hw1, hb1⟩
  rw [List.nil_append] at hw1
  go_wp2_with fail
  refine (done_any w.heap.size (be4 n) w1 hw1 (by rw [be4_length]; decide)).mono ?_
  rintro e w2 ⟨v2, rfl, hown2, hb2⟩
  have hown3 := owns_up (B' := w.heap.size) hown2 (by omega)
  obtain ⟨a2, c2, rfl⟩ := owns_form hown2
  go_wp2
  go_ret
  exact ⟨_, rfl, hown3, (alloc_below w).trans (hb1.trans hb2)⟩
set_option maxHeartbeats 400000 in
theorem lay_68 (p q n : Nat) (bs : List UInt8) (w : World) (hw : WrAt p bs w) (hq : w.cell? ⟨q, 0, none⟩ = some (.int .u32 n)) (hn : n < 4294967296) (hl : bs.length ≤ 1000) :
    Calls Tryd.prog 68 #[.pointer (some ⟨p, 0, none⟩), .pointer (some ⟨q, 0, none⟩)] w fun e w' => e = .returned (.tuple #[]) ∧ WrAt p (bs ++ be4 n) w' ∧ Below p w w' := by
  go_enter Tryd.func68, Tryd.ntmps68
  go_wp2_with fail
  refine (four_any p n bs w hw (by omega) hn).mono ?_
  rintro e w1 ⟨rfl, hw1, hb1⟩
  go_wp2
  go_end0
  exact ⟨rfl, hw1, hb1⟩
set_option maxHeartbeats 400000 in
theorem part_68 (q n : Nat) (w : World) (hq : w.cell? ⟨q, 0, none⟩ = some (.int .u32 n)) (hql : q < w.heap.size) (hn : n < 4294967296) :
    Calls Tryd.prog 66 #[.func (.func 68) #[] #[.pointer (some ⟨q, 0, none⟩)]] w fun e w' => ∃ v, e = .returned v ∧ w'.ownsRow w.heap.size 5 1 v (be4 n).length (c8l (be4 n)) ∧ Below w.heap.size w w' := by
  go_enter Tryd.func66, Tryd.ntmps66
  go_wp2_with fail
  refine (lay_68 w.heap.size q n [] _ (wr_new w) (by rw [(alloc_below w).cell (p := ⟨q, 0, none⟩) hql]; exact hq) hn (by simp)).mono ?_
  rintro e w1 ⟨rfl, hw1, hb1⟩
  rw [List.nil_append] at hw1
  go_wp2_with fail
  refine (done_any w.heap.size (be4 n) w1 hw1 (by rw [be4_length]; decide)).mono ?_
  rintro e w2 ⟨v2, rfl, hown2, hb2⟩
  have hown3 := owns_up (B' := w.heap.size) hown2 (by omega)
  obtain ⟨a2, c2, rfl⟩ := owns_form hown2
  go_wp2
  go_ret
  exact ⟨_, rfl, hown3, (alloc_below w).trans (hb1.trans hb2)⟩
set_option maxHeartbeats 400000 in
theorem lay_69 (p q n : Nat) (bs : List UInt8) (w : World) (hw : WrAt p bs w) (hq : w.cell? ⟨q, 0, none⟩ = some (.int .u64 n)) (hn : n < 18446744073709551616) (hl : bs.length ≤ 1000) :
    Calls Tryd.prog 69 #[.pointer (some ⟨p, 0, none⟩), .pointer (some ⟨q, 0, none⟩)] w fun e w' => e = .returned (.tuple #[]) ∧ WrAt p (bs ++ be8 n) w' ∧ Below p w w' := by
  go_enter Tryd.func69, Tryd.ntmps69
  go_wp2_with fail
  refine (weight_any p n bs w hw (by omega) hn).mono ?_
  rintro e w1 ⟨rfl, hw1, hb1⟩
  go_wp2
  go_end0
  exact ⟨rfl, hw1, hb1⟩
set_option maxHeartbeats 400000 in
theorem part_69 (q n : Nat) (w : World) (hq : w.cell? ⟨q, 0, none⟩ = some (.int .u64 n)) (hql : q < w.heap.size) (hn : n < 18446744073709551616) :
    Calls Tryd.prog 66 #[.func (.func 69) #[] #[.pointer (some ⟨q, 0, none⟩)]] w fun e w' => ∃ v, e = .returned v ∧ w'.ownsRow w.heap.size 5 1 v (be8 n).length (c8l (be8 n)) ∧ Below w.heap.size w w' := by
  go_enter Tryd.func66, Tryd.ntmps66
  go_wp2_with fail
  refine (lay_69 w.heap.size q n [] _ (wr_new w) (by rw [(alloc_below w).cell (p := ⟨q, 0, none⟩) hql]; exact hq) hn (by simp)).mono ?_
  rintro e w1 ⟨rfl, hw1, hb1⟩
  rw [List.nil_append] at hw1
  go_wp2_with fail
  refine (done_any w.heap.size (be8 n) w1 hw1 (by rw [be8_length]; decide)).mono ?_
  rintro e w2 ⟨v2, rfl, hown2, hb2⟩
  have hown3 := owns_up (B' := w.heap.size) hown2 (by omega)
  obtain ⟨a2, c2, rfl⟩ := owns_form hown2
  go_wp2
  go_ret
  exact ⟨_, rfl, hown3, (alloc_below w).trans (hb1.trans hb2)⟩
set_option maxHeartbeats 400000 in
theorem lay_71 (p q n : Nat) (bs : List UInt8) (w : World) (hw : WrAt p bs w) (hq : w.cell? ⟨q, 0, none⟩ = some (.int .u64 n)) (hn : n < 18446744073709551616) (hl : bs.length ≤ 1000) :
    Calls Tryd.prog 71 #[.pointer (some ⟨p, 0, none⟩), .pointer (some ⟨q, 0, none⟩)] w fun e w' => e = .returned (.tuple #[]) ∧ WrAt p (bs ++ be8 n) w' ∧ Below p w w' := by
  go_enter Tryd.func71, Tryd.ntmps71
  go_wp2_with fail
  refine (weight_any p n bs w hw (by omega) hn).mono ?_
  rintro e w1 ⟨rfl, hw1, hb1⟩
  go_wp2
  go_end0
  exact ⟨rfl, hw1, hb1⟩
set_option maxHeartbeats 400000 in
theorem part_71 (q n : Nat) (w : World) (hq : w.cell? ⟨q, 0, none⟩ = some (.int .u64 n)) (hql : q < w.heap.size) (hn : n < 18446744073709551616) :
    Calls Tryd.prog 66 #[.func (.func 71) #[] #[.pointer (some ⟨q, 0, none⟩)]] w fun e w' => ∃ v, e = .returned v ∧ w'.ownsRow w.heap.size 5 1 v (be8 n).length (c8l (be8 n)) ∧ Below w.heap.size w w' := by
  go_enter Tryd.func66, Tryd.ntmps66
  go_wp2_with fail
  refine (lay_71 w.heap.size q n [] _ (wr_new w) (by rw [(alloc_below w).cell (p := ⟨q, 0, none⟩) hql]; exact hq) hn (by simp)).mono ?_
  rintro e w1 ⟨rfl, hw1, hb1⟩
  rw [List.nil_append] at hw1
  go_wp2_with fail
  refine (done_any w.heap.size (be8 n) w1 hw1 (by rw [be8_length]; decide)).mono ?_
  rintro e w2 ⟨v2, rfl, hown2, hb2⟩
  have hown3 := owns_up (B' := w.heap.size) hown2 (by omega)
  obtain ⟨a2, c2, rfl⟩ := owns_form hown2
  go_wp2
  go_ret
  exact ⟨_, rfl, hown3, (alloc_below w).trans (hb1.trans hb2)⟩
theorem results_row {P : Program} {fn : Func} {p : Tmp} {ty : TypeId} (h : fn.results = #[.cell p ty]) (tmps : Array Value) (w : World) (g : Nat) (t : TypeId) (cs : Array Value) (fr : Nat × Nat) (d : TypeDesc)
    (hp : tmps.getD p undef = .pointer (some ⟨g, 0, none⟩)) (hg : w.heap[g]? = some (.cells cs t fr))
    (hu : P.underlying ty = some d) (hd : (match d with | .struct _ | .array _ _ => true | _ => false) = true) (hi : (P.info? ty).map (·.size) = some cs.size) :
    (results fn tmps).run P w = .ok (.agg cs) w := by
  have hp' : tmps[p]?.getD undef = .pointer (some ⟨g, 0, none⟩) := by simpa using hp
  simp [results, h, hp', asAddr, run_loadVar_row w g t ty cs fr d hg hu hd hi]
def zer32 : List UInt8 := List.replicate 32 0
theorem zer43 (w : World) : (w.alloc (.cells #[.int .u8 0, .int .u8 0, .int .u8 0, .int .u8 0, .int .u8 0, .int .u8 0, .int .u8 0, .int .u8 0, .int .u8 0, .int .u8 0, .int .u8 0, .int .u8 0, .int .u8 0, .int .u8 0, .int .u8 0, .int .u8 0, .int .u8 0, .int .u8 0, .int .u8 0, .int .u8 0, .int .u8 0, .int .u8 0, .int .u8 0, .int .u8 0, .int .u8 0, .int .u8 0, .int .u8 0, .int .u8 0, .int .u8 0, .int .u8 0, .int .u8 0, .int .u8 0] 43)).heap[w.heap.size]? = some (.cells (c8 zer32) 43 (0, 0)) := row_new _ _ _
end Go.Proofs.YtjkicmlelilcaaaDoor
namespace Go.Proofs.YtjkicmlelilcaaaDoor
open Go.RowKit
attribute [local irreducible] be2 be4 be8 layTo layB chg shaB hmB
theorem info43z : (Tryd.prog.info? 43).map (·.size) = some (c8 zer32).size := by rw [c8_size]; exact info43
theorem HI43' {Y : List UInt8} (h : Y.length = 32) : (Tryd.prog.info? 43).map (·.size) = some (c8 Y).size := by rw [c8_size, h]; exact info43
theorem HQ' {Y : List UInt8} (h : Y.length = 32) : (c8 zer32).size = (c8 Y).size := by rw [c8_size, c8_size, h]; simp [zer32]
def tokenB : List UInt8 := [116, 111, 107, 101, 110]
def wayB : List UInt8 := [119, 97, 121]
def wayP (way s p c d : Nat) : List (List UInt8) := [[UInt8.ofNat way], be4 s, be4 p, be8 c, be8 d]
theorem psl_five {w : World} {a b c d e : Value} {p q r s t : List UInt8} (h1 : BSl w a p) (h2 : BSl w b q) (h3 : BSl w c r) (h4 : BSl w d s) (h5 : BSl w e t) :
    PSl (w.alloc (.cells #[a, b, c, d, e] 22)) (.slice (some ⟨w.heap.size, 0, none⟩) 5 5) [a, b, c, d, e] [p, q, r, s, t] := by
  have hb := alloc_below (o := .cells #[a, b, c, d, e] 22) w
  refine ⟨rfl, .inr ⟨w.heap.size, 0, 5, rfl, Nat.le_refl _, by simp, fun j hj => ?_⟩, fun j hj => ?_⟩
  · rw [Nat.zero_add, cell_of_row _ _ j _ 22 (0, 0) (row_new w _ 22)]
    have : j < 5 := hj
    match j, this with
    | 0, _ => rfl
    | 1, _ => rfl
    | 2, _ => rfl
    | 3, _ => rfl
    | 4, _ => rfl
  · have : j < 5 := hj
    match j, this with
    | 0, _ => exact h1.below hb (Nat.le_refl _)
    | 1, _ => exact h2.below hb (Nat.le_refl _)
    | 2, _ => exact h3.below hb (Nat.le_refl _)
    | 3, _ => exact h4.below hb (Nat.le_refl _)
    | 4, _ => exact h5.below hb (Nat.le_refl _)
theorem alloc_at (w : World) (o : Obj) (n : Nat) (h : n = w.heap.size) : (w.alloc o).heap[n]? = some o := by subst h; show (w.heap.push o)[w.heap.size]? = _; simp
theorem alloc_old (w : World) (o : Obj) (n : Nat) (h : n < w.heap.size) : (w.alloc o).heap[n]? = w.heap[n]? := (alloc_below w).block n h
theorem five_w (w : World) (o0 o1 o2 o3 o4 : Obj) : ∃ W, W = ((((w.alloc o0).alloc o1).alloc o2).alloc o3).alloc o4 ∧ Below w.heap.size w W ∧ W.heap.size = w.heap.size + 5 ∧ W.heap[w.heap.size]? = some o0 ∧ W.heap[w.heap.size + 1]? = some o1 ∧ W.heap[w.heap.size + 2]? = some o2 ∧ W.heap[w.heap.size + 3]? = some o3 ∧ W.heap[w.heap.size + 4]? = some o4 := by
  refine ⟨_, rfl, (((((alloc_below w).alloc (by simp) _).alloc (by simp; omega) _).alloc (by simp; omega) _).alloc (by simp; omega) _), by simp, ?_, ?_, ?_, ?_, ?_⟩
  · rw [alloc_old _ _ _ (by simp <;> omega), alloc_old _ _ _ (by simp <;> omega), alloc_old _ _ _ (by simp <;> omega), alloc_old _ _ _ (by simp <;> omega), alloc_at _ _ _ (by simp)]
  · rw [alloc_old _ _ _ (by simp <;> omega), alloc_old _ _ _ (by simp <;> omega), alloc_old _ _ _ (by simp <;> omega), alloc_at _ _ _ (by simp)]
  · rw [alloc_old _ _ _ (by simp <;> omega), alloc_old _ _ _ (by simp <;> omega), alloc_at _ _ _ (by simp)]
  · rw [alloc_old _ _ _ (by simp <;> omega), alloc_at _ _ _ (by simp)]
  · rw [alloc_at _ _ _ (by simp)]
theorem six_w (w : World) (o0 o1 o2 o3 o4 o5 : Obj) : ∃ W, W = (((((w.alloc o0).alloc o1).alloc o2).alloc o3).alloc o4).alloc o5 ∧ Below w.heap.size w W ∧ W.heap.size = w.heap.size + 6 ∧ W.heap[w.heap.size]? = some o0 ∧ W.heap[w.heap.size + 1]? = some o1 ∧ W.heap[w.heap.size + 2]? = some o2 ∧ W.heap[w.heap.size + 3]? = some o3 ∧ W.heap[w.heap.size + 4]? = some o4 ∧ W.heap[w.heap.size + 5]? = some o5 := by
  refine ⟨_, rfl, ((((((alloc_below w).alloc (by simp) _).alloc (by simp; omega) _).alloc (by simp; omega) _).alloc (by simp; omega) _).alloc (by simp; omega) _), by simp, ?_, ?_, ?_, ?_, ?_, ?_⟩
  · rw [alloc_old _ _ _ (by simp <;> omega), alloc_old _ _ _ (by simp <;> omega), alloc_old _ _ _ (by simp <;> omega), alloc_old _ _ _ (by simp <;> omega), alloc_old _ _ _ (by simp <;> omega), alloc_at _ _ _ (by simp)]
  · rw [alloc_old _ _ _ (by simp <;> omega), alloc_old _ _ _ (by simp <;> omega), alloc_old _ _ _ (by simp <;> omega), alloc_old _ _ _ (by simp <;> omega), alloc_at _ _ _ (by simp)]
  · rw [alloc_old _ _ _ (by simp <;> omega), alloc_old _ _ _ (by simp <;> omega), alloc_old _ _ _ (by simp <;> omega), alloc_at _ _ _ (by simp)]
  · rw [alloc_old _ _ _ (by simp <;> omega), alloc_old _ _ _ (by simp <;> omega), alloc_at _ _ _ (by simp)]
  · rw [alloc_old _ _ _ (by simp <;> omega), alloc_at _ _ _ (by simp)]
  · rw [alloc_at _ _ _ (by simp)]
theorem way_byte (way : Nat) (h : way ≤ 1) : N8 (UInt8.ofNat way) = (way : Int) := by rw [n8_of]; omega
end Go.Proofs.YtjkicmlelilcaaaDoor
namespace Go.Proofs.YtjkicmlelilcaaaDoor.V2
open Go
open Go.RowKit
section
variable {S : List AV → AH → AV → AH → Prop} {args : List AV} {σ σ' : AH} {v : AV} {Γ : Gam} {P : Program} {G : Nat} {f f' : FuncId}
open Classical in
noncomputable def relG (S : List AV → AH → AV → AH → Prop) (args : List AV) (σ : AH) : Out := if h : ∃ o : AV × AH, S args σ o.1 o.2 then (true, h.choose.1, h.choose.2) else bad σ
theorem relG_ok (h : (relG S args σ).1 = true) : S args σ (relG S args σ).2.1 (relG S args σ).2.2 := by
  unfold relG at h ⊢
  split at h
  · rename_i hh; rw [dif_pos hh]; exact hh.choose_spec
  · cases h
theorem relG_eq (h : S args σ v σ') (hu : ∀ v1 σ1, S args σ v1 σ1 → v1 = v ∧ σ1 = σ') : relG S args σ = (true, v, σ') := by
  have hh : ∃ o : AV × AH, S args σ o.1 o.2 := ⟨(v, σ'), h⟩
  unfold relG
  rw [dif_pos hh]
  obtain ⟨e1, e2⟩ := hu _ _ hh.choose_spec
  rw [e1, e2]
def SOk (P : Program) (G : Nat) (f : FuncId) (S : List AV → AH → AV → AH → Prop) : Prop := (∃ fn, P.funcs[f]? = some fn ∧ fn.body.isSome = true ∧ (fn.name == "runtime.NumGoroutine") = false) ∧
  ∀ args σ v σ', S args σ v σ' → ∀ ρ W vs, (∀ g, g < G → ∃ s, ρ g = some (g, (0, s))) → HR ρ σ W → VRs ρ args vs → Calls P f vs.toArray W fun e W' => ∃ u ρ', e = .returned u ∧ HR ρ' σ' W' ∧ Stp σ.next ρ σ W ρ' σ' W' ∧ VR ρ' v u
noncomputable def Gam.rel (Γ : Gam) (f : FuncId) (S : List AV → AH → AV → AH → Prop) : Gam := fun f' args σ => bif Nat.beq f' f then relG S args σ else Γ f' args σ
theorem Gam.rel_self : Γ.rel f S f args σ = relG S args σ := by
  unfold Gam.rel; rw [Nat.beq_refl]; rfl
theorem Gam.rel_ok (hΓ : GamOk P G Γ) (hS : SOk P G f S) : GamOk P G (Γ.rel f S) := by
  intro f' args σ h
  unfold Gam.rel at h ⊢
  cases hb : Nat.beq f' f with
  | false => rw [hb] at h; exact hΓ f' args σ h
  | true =>
    rw [hb] at h
    obtain rfl := Nat.eq_of_beq_eq_true hb
    exact ⟨hS.1, fun ρ W vs hG hr hvs => hS.2 _ _ _ _ (relG_ok h) ρ W vs hG hr hvs⟩
end
def AV.flat1 : AV → Bool
  | .bool _ | .int _ _ | .str _ | .nilptr | .nilsl | .ints _ _ => true
  | _ => false
def AV.flat : AV → Bool
  | .tup l => l.all AV.flat1
  | a => a.flat1
theorem VR.flat1 {ρ ρ' : Ren} {a : AV} {v : Value} (ha : a.flat1 = true) (h : VR ρ a v) : VR ρ' a v := by
  cases a <;> simp only [AV.flat1, Bool.false_eq_true] at ha <;> (unfold VR at h ⊢; exact h)
theorem VRs.flatl {ρ ρ' : Ren} : ∀ {l : List AV} {vs : List Value}, l.all AV.flat1 = true → VRs ρ l vs → VRs ρ' l vs
  | [], _, _, h => h
  | a :: l, _, hl, ⟨v, m, e, hv, hm⟩ => by
    rw [List.all_cons, Bool.and_eq_true] at hl
    exact ⟨v, m, e, VR.flat1 hl.1 hv, VRs.flatl hl.2 hm⟩
theorem VR.flatv {ρ ρ' : Ren} {a : AV} {v : Value} (ha : a.flat = true) (h : VR ρ a v) : VR ρ' a v := by
  cases a
  case tup l =>
    unfold VR at h ⊢
    obtain ⟨us, e, hu⟩ := h
    exact ⟨us, e, VRs.flatl ha hu⟩
  all_goals exact VR.flat1 ha h
section
variable {Γ : Gam} {f : FuncId} {fn : Func} {c : Code} {c' : ACode} {xs : List ARes}
theorem sok_pure (hΓ : GamOk Tryd.prog 4 Γ) (hf : Tryd.prog.funcs[f]? = some fn) (hb : fn.body = some c) (hc : compC Tryd.prog 4 fn.ntmps (fun _ => false) c = some c') (hres : compR Tryd.prog fn.results.toList = some xs) (hnt : Nat.ble fn.ntmps 1048576 = true) (hname : (fn.name == "runtime.NumGoroutine") = false)
    {S : List AV → AH → AV → Prop} (hS : ∀ args σ v, S args σ v → Nat.ble args.length fn.ntmps = true ∧ v.flat = true ∧ avc std Γ 4 fn.ntmps σ.next c' (fun e env σ' => (match e with | .normal => True | .ret => True | _ => False) ∧ (resL std env σ' xs).1 = true ∧ (retV (resL std env σ' xs).2 = v ∧ Grown σ σ')) (envOf args 0 .leaf) σ) :
    SOk Tryd.prog 4 f (fun args σ v σ' => S args σ v ∧ σ' = σ) := by
  refine ⟨⟨fn, hf, by rw [hb]; rfl, hname⟩, ?_⟩
  rintro args σ0 v σ1 ⟨h, rfl⟩ ρ W vs hG hr hvs
  obtain ⟨h1, h2, h3⟩ := hS _ _ _ h
  refine (call_sound (K := fun av σ' => av = v ∧ Grown σ1 σ') (pu := fun _ => false) mixed hΓ (fun f h => by cases h) hf hb hc hres hnt h1 h3 hG hr hvs).mono fun e W' ⟨u, av, σ', ρ', e1, ⟨e2, e3⟩, e4, e5, e6⟩ => ?_
  subst e1 e2
  obtain ⟨q1, q2⟩ := hr.forget e4 e5 e3
  exact ⟨u, ρ, rfl, q1, q2, VR.flatv h2 e6⟩
theorem sok_same (hΓ : GamOk Tryd.prog 4 Γ) (hf : Tryd.prog.funcs[f]? = some fn) (hb : fn.body = some c) (hc : compC Tryd.prog 4 fn.ntmps (fun _ => false) c = some c') (hres : compR Tryd.prog fn.results.toList = some xs) (hnt : Nat.ble fn.ntmps 1048576 = true) (hname : (fn.name == "runtime.NumGoroutine") = false)
    {S : List AV → AH → AV → AH → Prop} (hS : ∀ args σ v σ1, S args σ v σ1 → Nat.ble args.length fn.ntmps = true ∧ ((∀ b, σ.next ≤ b → σ.get b = none) → avc std Γ 4 fn.ntmps σ.next c' (fun e env σ' => (match e with | .normal => True | .ret => True | _ => False) ∧ (resL std env σ' xs).1 = true ∧ (retV (resL std env σ' xs).2 = v ∧ σ1.next = σ'.next ∧ ∀ b, σ1.get b = σ'.get b)) (envOf args 0 .leaf) σ)) :
    SOk Tryd.prog 4 f S := by
  refine ⟨⟨fn, hf, by rw [hb]; rfl, hname⟩, ?_⟩
  rintro args σ v σ1 h ρ W vs hG hr hvs
  obtain ⟨h1, h3⟩ := hS _ _ _ _ h
  refine (call_sound (K := fun av σ' => av = v ∧ σ1.next = σ'.next ∧ ∀ b, σ1.get b = σ'.get b) (pu := fun _ => false) mixed hΓ (fun f h => by cases h) hf hb hc hres hnt h1 (h3 hr.none_) hG hr hvs).mono fun e W' ⟨u, av, σ', ρ', e1, ⟨e2, e3, e3'⟩, e4, e5, e6⟩ => ?_
  subst e1 e2
  exact ⟨u, ρ', rfl, e4.same e3 e3', e5.same e3 e3', e6⟩
end
theorem sok_below {f : FuncId} {fn : Func} (hf : Tryd.prog.funcs[f]? = some fn) (hb : fn.body.isSome = true) (hname : (fn.name == "runtime.NumGoroutine") = false) {S : List AV → AH → AV → Prop}
    (hS : ∀ args σ v, S args σ v → ∀ ρ W vs, (∀ g, g < 4 → ∃ s, ρ g = some (g, (0, s))) → HR ρ σ W → VRs ρ args vs → Calls Tryd.prog f vs.toArray W fun e W' => ∃ u, e = .returned u ∧ Below W.heap.size W W' ∧ VR ρ v u) : SOk Tryd.prog 4 f (fun args σ v σ' => S args σ v ∧ σ' = σ) := by
  refine ⟨⟨fn, hf, hb, hname⟩, ?_⟩
  rintro args σ v _ ⟨h, rfl⟩ ρ W vs hG hr hvs
  refine (hS _ _ _ h ρ W vs hG hr hvs).mono fun e W' ⟨u, e1, e2, e3⟩ => ⟨u, ρ, e1, hr.below e2, Stp.below (Nat.le_refl _) e2, e3⟩
section
variable {A : Ar} {Γ : Gam} {G nt N : Nat} {K : AK} {env : T AV} {σ : AH}
theorem avc_one_nil (h : K .normal env σ) : avc A Γ G nt N (.reg []) K env σ := ⟨rfl, h⟩
theorem avc_one_cons {r : CRow} {rows : List CRow} {v : AV} {σ' : AH} (h : gstep A Γ (evS env) σ r = (true, v, σ')) (h2 : avc A Γ G nt N (.reg rows) K (putD env r.dst v) σ') : avc A Γ G nt N (.reg (r :: rows)) K env σ := by
  have h3 : (evP A Γ rows (putD env r.dst v) σ').1 = true ∧ K .normal (evP A Γ rows (putD env r.dst v) σ').2.1 (evP A Γ rows (putD env r.dst v) σ').2.2 := h2
  show (evP A Γ (r :: rows) env σ).1 = true ∧ K .normal (evP A Γ (r :: rows) env σ).2.1 (evP A Γ (r :: rows) env σ).2.2
  unfold evP
  rw [h]
  simp only
  generalize evP A Γ rows (putD env r.dst v) σ' = x at h3
  obtain ⟨ok, x⟩ := x
  exact h3
theorem mv {d : Option Nat} {x : Ref} {rows : List CRow} {b : ACode} {v : AV} (h : evS env x = v) (h2 : avc A Γ G nt N (.seq (.reg rows) b) K (putD env d v) σ) : avc A Γ G nt N (.seq (.reg (⟨.aop (.mov x), d, none⟩ :: rows)) b) K env σ := avc_reg_cons (g_mov h) h2
theorem mv1 {d : Option Nat} {x : Ref} {rows : List CRow} {v : AV} (h : evS env x = v) (h2 : avc A Γ G nt N (.reg rows) K (putD env d v) σ) : avc A Γ G nt N (.reg (⟨.aop (.mov x), d, none⟩ :: rows)) K env σ := avc_one_cons (g_mov h) h2
end
section
variable {A : Ar} {Γ : Gam} {G nt N : Nat} {K K' : AK} {env : T AV} {σ : AH}
theorem k_bseq {id : Nat} {b : ACode} (h : avc A Γ G nt N b K env σ) : AK.block id (AK.seq (avc A Γ G nt N b K) K') .normal env σ := h
theorem k_sexit {id : Nat} {f : T AV → AH → Prop} (h : K (.exit id) env σ) : AK.seq f K (.exit id) env σ := h
theorem k_exit {id : Nat} {b : ACode} (h : avc A Γ G nt N b K env σ) : AK.block id (AK.seq (avc A Γ G nt N b K) K') (.exit id) env σ := by
  show (if id = id then _ else _)
  rw [if_pos rfl]; exact h
end
noncomputable def intAt (env : T AV) (s : Nat) : Int := match env.get s with
  | some (.int _ n) => n
  | _ => 0
theorem intAt_of {env : T AV} {s : Nat} {k : IntKind} {n : Int} (h : env.get s = some (.int k n)) : intAt env s = n := by
  unfold intAt; rw [h]
theorem IsB.uniq {σ : AH} {v : AV} {l l' : List Int} (h : IsB σ v l) (h' : IsB σ v l') : l = l' := by
  cases h with
  | nil => cases h'; rfl
  | sl b o n k ex l m e tl hb hg hn hk hl =>
    cases h' with
    | sl b o n k ex l' m' e' tl' hb' hg' hn' hk' hl' =>
      rw [hg] at hg'
      cases hg'
      rw [hl, hl']
theorem bI_inj {a b : List UInt8} (h : bI a = bI b) : a = b := by rw [← toBs_bI a, ← toBs_bI b, h]
theorem IsB.uniqB {σ : AH} {v : AV} {l l' : List UInt8} (h : IsB σ v (bI l)) (h' : IsB σ v (bI l')) : l = l' := bI_inj (h.uniq h')
def numL (n : Nat) : Nat → List UInt8
  | 0 => []
  | k + 1 => UInt8.ofNat (n / 256 ^ k) :: numL n k
theorem numL_length (n m : Nat) : (numL n m).length = m := by
  induction m with
  | zero => rfl
  | succ m ih => rw [numL, List.length_cons, ih]
theorem ofNat_eq {a b : Nat} (h : a % 256 = b % 256) : UInt8.ofNat a = UInt8.ofNat b := by
  apply UInt8.toNat.inj
  rw [UInt8.toNat_ofNat', UInt8.toNat_ofNat']; exact h
theorem numL2 (n : Nat) : numL n 2 = be2 n := by simp [numL, be2]
theorem numL4 (n : Nat) : numL n 4 = be4 n := by
  simp only [numL, be4, be2, List.cons_append, List.nil_append]
  refine List.cons_eq_cons.2 ⟨ofNat_eq (by omega), List.cons_eq_cons.2 ⟨ofNat_eq (by omega), List.cons_eq_cons.2 ⟨ofNat_eq (by omega), List.cons_eq_cons.2 ⟨ofNat_eq (by omega), rfl⟩⟩⟩⟩
theorem numL8 (n : Nat) : numL n 8 = be8 n := by
  simp only [numL, be8, be4, be2, List.cons_append, List.nil_append]
  refine List.cons_eq_cons.2 ⟨ofNat_eq (by omega), List.cons_eq_cons.2 ⟨ofNat_eq (by omega), List.cons_eq_cons.2 ⟨ofNat_eq (by omega), List.cons_eq_cons.2 ⟨ofNat_eq (by omega), ?_⟩⟩⟩⟩
  refine List.cons_eq_cons.2 ⟨ofNat_eq (by omega), List.cons_eq_cons.2 ⟨ofNat_eq (by omega), List.cons_eq_cons.2 ⟨ofNat_eq (by omega), List.cons_eq_cons.2 ⟨ofNat_eq (by omega), rfl⟩⟩⟩⟩
end Go.Proofs.YtjkicmlelilcaaaDoor.V2
