/- The walks over the reader of package scribe; a number of bytes. -/
import Derived.Test.YtjkicmlelilcaaaDoorS1
import Derived.Test.YtjkicmlelilcaaaDoorW11
namespace Go.Proofs.YtjkicmlelilcaaaDoor
open Go.RowKit

theorem u64_bits_or (x y : UInt64) : bits .or .u64 (N64 x) (N64 y) = N64 (x ||| y) := by
  have e : bits .or .u64 (N64 x) (N64 y) = IntKind.u64.wrap (N64 (x ||| y)) := by
    unfold bits N64
    simp only [IntKind.bits, BitVec.ofInt_natCast]
    rw [show BitVec.ofNat 64 x.toNat = x.toBitVec by rw [← UInt64.toNat_toBitVec, BitVec.ofNat_toNat, BitVec.setWidth_eq], show BitVec.ofNat 64 y.toNat = y.toBitVec by rw [← UInt64.toNat_toBitVec, BitVec.ofNat_toNat, BitVec.setWidth_eq]]
    rfl
  rw [e, u64_id]
theorem or64 (a : Nat) (c : UInt8) (h : a < 72057594037927936) : bits .or .u64 ((a : Int) * 256 % 18446744073709551616) (N8 c) = ((a * 256 + c.toNat : Nat) : Int) := by
  have hc := c.toNat_lt
  have e1 : (a : Int) * 256 % 18446744073709551616 = N64 (UInt64.ofNat (a * 256)) := by
    unfold N64; rw [UInt64.toNat_ofNat']; omega
  have e2 : N8 c = N64 (UInt64.ofNat c.toNat) := by
    unfold N8 N64; rw [UInt64.toNat_ofNat']; omega
  rw [e1, e2, u64_bits_or]
  unfold N64
  rw [UInt64.toNat_or, UInt64.toNat_ofNat', UInt64.toNat_ofNat', Nat.mod_eq_of_lt (by omega), Nat.mod_eq_of_lt (by omega)]
  have := Nat.two_pow_add_eq_or_of_lt (i := 8) (b := c.toNat) (by omega) a
  rw [show a * 256 = 2 ^ 8 * a by omega, ← this]
theorem or64' (a : Nat) (c : UInt8) (h : a < 72057594037927936) : bits .or .u64 (IntKind.u64.wrap ((a : Int) * 256)) (IntKind.u64.wrap (N8 c)) = ((a * 256 + c.toNat : Nat) : Int) := by
  have e1 : IntKind.u64.wrap ((a : Int) * 256) = (a : Int) * 256 % 18446744073709551616 := by
    rw [show (a : Int) * 256 = ((a * 256 : Nat) : Int) by omega, wrap_u64]; omega
  have e2 : IntKind.u64.wrap (N8 c) = N8 c := by
    have hc := c.toNat_lt
    unfold N8; rw [wrap_u64, Nat.mod_eq_of_lt (by omega)]
  rw [e1, e2, or64 a c h]
/-- The number that the first k bytes are. -/
def num (l : List UInt8) : Nat → Nat
  | 0 => 0
  | k + 1 => num l k * 256 + (at8 l k).toNat
theorem num_lt (l : List UInt8) (k : Nat) : num l k < 256 ^ k := by
  induction k with
  | zero => simp [num]
  | succ k ih =>
    have := (at8 l k).toNat_lt
    rw [num, Nat.pow_succ]; omega
theorem num_small (l : List UInt8) (k : Nat) (h : k < 8) : num l k < 72057594037927936 :=
  Nat.lt_of_lt_of_le (num_lt l k) (show 256 ^ k ≤ 256 ^ 7 from Nat.pow_le_pow_right (by decide) (by omega))
theorem num_take (l : List UInt8) (n k : Nat) (h : k ≤ n) : num (l.take n) k = num l k := by
  induction k with
  | zero => rfl
  | succ k ih =>
    rw [num, num, ih (by omega)]
    congr 2
    unfold at8
    rw [List.getD_eq_getElem?_getD, List.getElem?_take, if_pos (by omega), List.getD_eq_getElem?_getD]

/-- A slice that does not lie in block r. -/
def notAt (r : Nat) (v : Value) : Prop := ∀ a n c, v = .slice (some a) n c → a.block ≠ r
/-- A reader at block r that has the bytes bs left. -/
def RdAt (r : Nat) (bs : List UInt8) (w : World) : Prop :=
  ∃ v, w.heap[r]? = some (.cells #[v, .bool false] 107 (0, 0)) ∧ BSl w v bs ∧ notAt r v
theorem BSl.but {r : Nat} {w w' : World} {v : Value} {bs : List UInt8} (h : BSl w v bs) (hb : But r w w') (hn : notAt r v) : BSl w' v bs := by
  rcases h with h | ⟨b, off, c, e, hc, hlt, hcell⟩ | h
  · exact .inl h
  · subst e
    have hne := hn _ _ _ rfl
    exact .inr (.inl ⟨b, off, c, rfl, hc, Nat.lt_of_lt_of_le hlt hb.size, fun j hj => by rw [World.cell?_of_block (w := w) (a := ⟨b, off + j, none⟩) (hb.block b hlt hne)]; exact hcell j hj⟩)
  · exact .inr (.inr h)
set_option maxHeartbeats 1000000 in
theorem rnew_any (bv : Value) (bs : List UInt8) (w : World) (h : BSl w bv bs) (hn : bs.length ≤ 1000000000) :
    Calls Tryd.prog 30 #[bv] w fun e w' => ∃ r, e = .returned (.pointer (some ⟨r, 0, none⟩)) ∧ w.heap.size ≤ r ∧ RdAt r bs w' ∧ Below w.heap.size w w' := by
  go_enter Tryd.func30, Tryd.ntmps30
  go_wp2_with fail
  refine (clone8_any _ bs w h hn).mono ?_
  rintro e w1 ⟨v1, rfl, hown1, hb1⟩
  have hlt1 : ∀ g, v1.ownBlock = some g → g < w1.heap.size := fun g hg => owns_lt hown1 hg
  obtain ⟨a1, c1, rfl⟩ := owns_form hown1
  go_wp2
  go_ret
  refine ⟨_, rfl, hb1.size, ⟨_, row_new _ _ _, (BSl.of_owns hown1).below (alloc_below w1) (Nat.le_refl _), fun a n c e => ?_⟩, hb1.alloc hb1.size _⟩
  rcases hown1.2 with ⟨h, _⟩ | ⟨g, cap, cur, h, _⟩
  · rw [h] at e; cases e
  · have := hlt1 g (by rw [h]; rfl)
    rw [h] at e; cases e; simp; omega
theorem rd_set {w : World} {p : Nat} {v0 x : Value} (h : w.heap[p]? = some (.cells #[v0, x] 107 (0, 0))) (v : Value) : (w.setCell ⟨p, 0, none⟩ v).heap[p]? = some (.cells #[v, x] 107 (0, 0)) := by
  unfold World.setCell; simp [Array.getElem?_modify, h]
theorem rd_fin {r : Nat} {w w1 : World} {v0 v' : Value} {bs : List UInt8} (hb : Below w.heap.size w w1) (hr : w1.heap[r]? = some (.cells #[v0, .bool false] 107 (0, 0))) (hB : BSl w v' bs) (hn : notAt r v') :
    RdAt r bs (w1.setCell ⟨r, 0, none⟩ v') ∧ But r w (w1.setCell ⟨r, 0, none⟩ v') := by
  have hbut : But r w (w1.setCell ⟨r, 0, none⟩ v') := (But.of_below hb).setCell _
  exact ⟨⟨_, rd_set hr _, hB.but hbut hn, hn⟩, hbut⟩
theorem at8_drop (l : List UInt8) (n j : Nat) : at8 (l.drop n) j = at8 l (n + j) := by
  unfold at8; rw [List.getD_eq_getElem?_getD, List.getElem?_drop, List.getD_eq_getElem?_getD]
theorem at8_take (l : List UInt8) (n j : Nat) (h : j < n) : at8 (l.take n) j = at8 l j := by
  unfold at8; rw [List.getD_eq_getElem?_getD, List.getElem?_take, if_pos h, List.getD_eq_getElem?_getD]
set_option maxRecDepth 100000 in
set_option maxHeartbeats 1000000 in
theorem rtake_any (r n : Nat) (bs : List UInt8) (w : World) (h : RdAt r bs w) (hn : bs.length ≤ 1000000000) (hk : n ≤ bs.length) :
    Calls Tryd.prog 33 #[.pointer (some ⟨r, 0, none⟩), .int .i64 n] w fun e w' => ∃ v, e = .returned v ∧ w'.ownsRow w.heap.size 5 1 v n (c8l (bs.take n)) ∧ RdAt r (bs.drop n) w' ∧ But r w w' := by
  obtain ⟨v, hr, hB, hnot⟩ := h
  have hrl := (Array.getElem?_eq_some_iff.1 hr).1
  have hm : max (n : Int) 0 = n := by omega
  have d1 : decide ((bs.length : Int) < (n : Int)) = false := decide_eq_false (by omega)
  have hC : ∀ vT : Value, BSl w vT (bs.take n) → Calls Tryd.prog 18 #[vT] w (Owned w (bs.take n).length (bs.take n)) := fun vT hT => clone8_any vT (bs.take n) w hT (by rw [List.length_take]; omega)
  have hlt : (bs.take n).length = n := by rw [List.length_take]; omega
  have HLT := Lib.hid hlt
  clear hlt
  rcases hB with ⟨rfl, rfl⟩ | ⟨b, off, c, rfl, hc, hlt, hcell⟩ | ⟨ad, rfl, rfl⟩
  · obtain rfl : n = 0 := by simpa using hk
    have c0 : w.cell? ⟨r, 0, none⟩ = some (.slice none 0 0) := cell_of_row w r 0 _ 107 (0, 0) hr
    have c1 : w.cell? ⟨r, 1, none⟩ = some (.bool false) := cell_of_row w r 1 _ 107 (0, 0) hr
    go_enter Tryd.func33, Tryd.ntmps33
    go_wp2_with fail
    refine (hC _ (.inl ⟨rfl, rfl⟩)).mono ?_
    rintro e w1 ⟨v1, rfl, hown1, hb1⟩
    rw [HLT.out] at hown1
    obtain ⟨a1, k1, rfl⟩ := owns_form hown1
    have hr1 := (hb1.block r hrl).trans hr
    have d0 := cell_of_row w1 r 0 _ 107 (0, 0) hr1
    have f0 : w1.frozen? ⟨r, 0, none⟩ = false := row_free hr1 0
    have HR1 := Lib.hid hr1
    clear hr1
    simp only [List.getElem?_toArray, List.getElem?_cons_zero] at d0
    go_wp2
    go_ret
    exact ⟨_, rfl, owns_setCell hown1 hrl, rd_fin hb1 HR1.out (.inl ⟨rfl, rfl⟩) hnot⟩
  · have c0 : w.cell? ⟨r, 0, none⟩ = some (.slice (some ⟨b, off, none⟩) bs.length c) := cell_of_row w r 0 _ 107 (0, 0) hr
    have c1 : w.cell? ⟨r, 1, none⟩ = some (.bool false) := cell_of_row w r 1 _ 107 (0, 0) hr
    have hnc : n ≤ c := by omega
    have HT : Hid (BSl w (.slice (some ⟨b, off, none⟩) n c) (bs.take n)) := .inr (.inl ⟨b, off, c, by rw [HLT.out], by rw [HLT.out]; exact hnc, hlt, fun j hj => by rw [HLT.out] at hj; rw [at8_take _ _ _ hj]; exact hcell j (by omega)⟩)
    have HR : Hid (BSl w (.slice (some ⟨b, off + n, none⟩) (bs.length - n) (c - n)) (bs.drop n)) := .inr (.inl ⟨b, off + n, c - n, by rw [List.length_drop], by rw [List.length_drop]; omega, hlt, fun j hj => by rw [List.length_drop] at hj; rw [at8_drop, Nat.add_assoc]; exact hcell _ (by omega)⟩)
    have HN : Hid (notAt r (.slice (some ⟨b, off + n, none⟩) (bs.length - n) (c - n))) := fun a k k' e => by cases e; exact hnot ⟨b, off, none⟩ _ _ rfl
    clear hcell
    by_cases hcn : c = n
    · subst hcn
      have hbn : bs.length - c = 0 := by omega
      have HZ : Hid (BSl w (.slice (some ⟨b, off, none⟩) 0 0) (bs.drop c)) := .inr (.inr ⟨_, rfl, List.drop_eq_nil_of_le (by omega)⟩)
      have HN0 : Hid (notAt r (.slice (some ⟨b, off, none⟩) 0 0)) := fun a k k' e => by cases e; exact hnot ⟨b, off, none⟩ _ _ rfl
      go_enter Tryd.func33, Tryd.ntmps33
      go_wp2_with fail
      refine (hC _ HT.out).mono ?_
      rintro e w1 ⟨v1, rfl, hown1, hb1⟩
      rw [HLT.out] at hown1
      obtain ⟨a1, k1, rfl⟩ := owns_form hown1
      have hr1 := (hb1.block r hrl).trans hr
      have d0 := cell_of_row w1 r 0 _ 107 (0, 0) hr1
      have f0 : w1.frozen? ⟨r, 0, none⟩ = false := row_free hr1 0
      have HR1 := Lib.hid hr1
      clear hr1
      simp only [List.getElem?_toArray, List.getElem?_cons_zero] at d0
      go_wp2
      go_ret
      exact ⟨_, rfl, owns_setCell hown1 hrl, rd_fin hb1 HR1.out HZ.out HN0.out⟩
    · go_enter Tryd.func33, Tryd.ntmps33
      go_wp2_with fail
      refine (hC _ HT.out).mono ?_
      rintro e w1 ⟨v1, rfl, hown1, hb1⟩
      rw [HLT.out] at hown1
      obtain ⟨a1, k1, rfl⟩ := owns_form hown1
      have hr1 := (hb1.block r hrl).trans hr
      have d0 := cell_of_row w1 r 0 _ 107 (0, 0) hr1
      have f0 : w1.frozen? ⟨r, 0, none⟩ = false := row_free hr1 0
      have HR1 := Lib.hid hr1
      clear hr1
      simp only [List.getElem?_toArray, List.getElem?_cons_zero] at d0
      go_wp2
      go_ret
      exact ⟨_, rfl, owns_setCell hown1 hrl, rd_fin hb1 HR1.out HR.out HN.out⟩
  · obtain rfl : n = 0 := by simpa using hk
    have c0 : w.cell? ⟨r, 0, none⟩ = some (.slice (some ad) 0 0) := cell_of_row w r 0 _ 107 (0, 0) hr
    have c1 : w.cell? ⟨r, 1, none⟩ = some (.bool false) := cell_of_row w r 1 _ 107 (0, 0) hr
    go_enter Tryd.func33, Tryd.ntmps33
    go_wp2_with fail
    refine (hC _ (.inr (.inr ⟨ad, rfl, rfl⟩))).mono ?_
    rintro e w1 ⟨v1, rfl, hown1, hb1⟩
    rw [HLT.out] at hown1
    obtain ⟨a1, k1, rfl⟩ := owns_form hown1
    have hr1 := (hb1.block r hrl).trans hr
    have d0 := cell_of_row w1 r 0 _ 107 (0, 0) hr1
    have f0 : w1.frozen? ⟨r, 0, none⟩ = false := row_free hr1 0
    have HR1 := Lib.hid hr1
    clear hr1
    simp only [List.getElem?_toArray, List.getElem?_cons_zero] at d0
    go_wp2
    go_ret
    exact ⟨_, rfl, owns_setCell hown1 hrl, rd_fin hb1 HR1.out (.inr (.inr ⟨_, rfl, rfl⟩)) hnot⟩

theorem bsl_big {w : World} {a : Option Addr} {n c : Nat} {bs : List UInt8} (h : BSl w (.slice a n c) bs) (h0 : 0 < bs.length) : ∃ b o, a = some ⟨b, o, none⟩ := by
  rcases h with ⟨e, rfl⟩ | ⟨b, off, c', e, _⟩ | ⟨a', e, rfl⟩
  · simp at h0
  · cases e; exact ⟨_, _, rfl⟩
  · simp at h0
def NumR (l : List UInt8) (m : Nat) (n i : Value) : Prop := ∃ k : Nat, k ≤ m ∧ i = .int .i64 k ∧ n = .int .u64 (num l k)
set_option maxHeartbeats 1000000 in
theorem number_any (r m : Nat) (bs : List UInt8) (w : World) (h : RdAt r bs w) (hn : bs.length ≤ 1000000000) (hk : m ≤ bs.length) (h8 : m ≤ 8) :
    Calls Tryd.prog 64 #[.pointer (some ⟨r, 0, none⟩), .int .i64 m] w fun e w' => e = .returned (.int .u64 (num bs m)) ∧ RdAt r (bs.drop m) w' ∧ But r w w' := by
  go_enter Tryd.func64, Tryd.ntmps64
  go_wp2_with fail
  refine (rtake_any r m bs w h hn hk).mono ?_
  rintro e w1 ⟨v1, rfl, hown1, hrd1, hbut1⟩
  have hlt : (bs.take m).length = m := by rw [List.length_take]; omega
  have hB1 : BSl w1 v1 (bs.take m) := BSl.of_owns (by rw [hlt]; exact hown1)
  obtain ⟨a1, c1, rfl⟩ := owns_form hown1
  by_cases hm : m = 0
  · subst hm
    go_wp2
    go_loop [5, 12] (NumR bs 0) (fun _ i => 0 - (intOf i).toNat)
    case atStart => exact ⟨0, by omega, rfl, rfl⟩
    case round =>
      obtain ⟨k, hk, rfl, rfl⟩ := hrel
      obtain rfl : k = 0 := by omega
      have d1 : decide (((0 : Nat) : Int) < ((0 : Nat) : Int)) = false := by decide
      go_wp2
      go_ret
      exact ⟨rfl, hrd1, hbut1⟩
  · obtain ⟨b1, o1, rfl⟩ := bsl_big hB1 (by omega)
    have hc1 : ∀ k, k < m → w1.cell? ⟨b1, o1 + k, none⟩ = some (.int .u8 (N8 (at8 bs k))) := fun k hk => by
      rcases hB1 with ⟨h, _⟩ | ⟨b, off, c, e, _, _, hx⟩ | ⟨_, _, h⟩
      · cases h
      · rw [hlt] at e hx
        cases e
        rw [← at8_take _ _ _ hk]; exact hx k hk
      · rw [h] at hlt; simp at hlt; omega
    have HC1 := Lib.hid hc1
    clear hc1 hB1
    go_wp2
    go_loop [5, 12] (NumR bs m) (fun _ i => m - (intOf i).toNat)
    case atStart => exact ⟨0, by omega, rfl, rfl⟩
    case round =>
      obtain ⟨k, hk, rfl, rfl⟩ := hrel
      by_cases hkm : k < m
      · have d1 : decide ((k : Int) < (m : Int)) = true := decide_eq_true (by omega)
        have g1 := HC1.out k hkm
        have HO := Lib.hid (or64' (num bs k) (at8 bs k) (num_small bs k (by omega)))
        go_wp2
        go_round
        case rel => exact ⟨k + 1, by omega, by go_num, by rw [HO.out]; rfl⟩
        case measure => simp [intOf]; omega
      · have d1 : decide ((k : Int) < (m : Int)) = false := decide_eq_false (by omega)
        obtain rfl : k = m := by omega
        go_wp2
        go_ret
        exact ⟨rfl, hrd1, hbut1⟩
set_option maxHeartbeats 1000000 in
theorem eight_any (r : Nat) (bs : List UInt8) (w : World) (h : RdAt r bs w) (hn : bs.length ≤ 1000000000) (hk : 8 ≤ bs.length) :
    Calls Tryd.prog 62 #[.pointer (some ⟨r, 0, none⟩)] w fun e w' => e = .returned (.int .u64 (num bs 8)) ∧ RdAt r (bs.drop 8) w' ∧ But r w w' := by
  go_enter Tryd.func62, Tryd.ntmps62
  go_wp2_with fail
  refine (number_any r 8 bs w h hn hk (by omega)).mono ?_
  rintro e w1 ⟨rfl, h1, h2⟩
  go_wp2
  go_ret
  exact ⟨rfl, h1, h2⟩
attribute [local irreducible] chg shaB hmB
theorem Below.of_but {r : Nat} {w0 w w' : World} (h : Below w0.heap.size w0 w) (hr : w0.heap.size ≤ r) (hb : But r w w') : Below w0.heap.size w0 w' :=
  h.trans ⟨hb.os, hb.tape, hb.output, hb.size, fun k hk => hb.block k (Nat.lt_of_lt_of_le hk h.size) (by omega)⟩
set_option maxRecDepth 100000 in
set_option maxHeartbeats 1000000 in
theorem tag_any (k bs : List UInt8) (bv : Value) (w : World) (hk : k.length = 32) (hb : BSl w bv bs) (hn : bs.length ≤ 1000000000) (hK : GlobK w) (hS : GlobS w) (h3 : 3 < w.heap.size) :
    Calls Tryd.prog 25 #[.agg (c8 k), bv] w fun e w' => e = .returned (.int .u64 (num (hmB k bs) 8)) ∧ Below w.heap.size w w' := by
  have HK : Hid (GlobK w) := hK
  have HS : Hid (GlobS w) := hS
  clear hK hS
  obtain ⟨ba, bc, rfl⟩ := hb.len
  have HHL : Hid ((hmB k bs).length = 32) := hmB_length _ _
  obtain ⟨Y, hY⟩ : ∃ Y, Y = hmB k bs := ⟨_, rfl⟩
  rw [← hY] at HHL ⊢
  have HY := Lib.hid hY
  clear hY
  have hb0 : Below w.heap.size w (w.alloc (.cells (c8 k) 43)) := alloc_below w
  have hb1 : Below w.heap.size w ((w.alloc (.cells (c8 k) 43)).alloc (.cells #[.slice ba bs.length bc] 22)) := hb0.alloc (by simp) _
  have HKB : Hid (BSl ((w.alloc (.cells (c8 k) 43)).alloc (.cells #[.slice ba bs.length bc] 22)) (.slice (some ⟨w.heap.size, 0, none⟩) 32 32) k) :=
    (BSl.of_row (row_new w (c8 k) 43) (by omega) 32 hk.symm).below (alloc_below _) (Nat.le_refl _)
  have HPB : Hid (PSl ((w.alloc (.cells (c8 k) 43)).alloc (.cells #[.slice ba bs.length bc] 22)) (.slice (some ⟨w.heap.size + 1, 0, none⟩) 1 1) [.slice ba bs.length bc] [bs]) := by
    have := one_psl (hb.below hb0 (Nat.le_refl _))
    rwa [World.size_alloc] at this
  go_enter Tryd.func25, Tryd.ntmps25
  go_wp2_with fail
  refine (hmac_any _ _ k _ _ _ HKB.out (by omega) HPB.out (by simp) (by simp; omega) (HK.out.below hb1 h3) (HS.out.below hb1 h3) (mid_lt h3 hb1)).mono ?_
  rintro e w2 ⟨rfl, hb2⟩
  rw [show [bs].flatten = bs by simp, ← HY.out]
  have hbw2 : Below w.heap.size w w2 := hb1.trans (hb2.mono hb1.size)
  go_wp2_with (refine wpList_store_new (o := { dst := none, op := .store 24 (.tmp 5) (.tmp 9), type := _, pos := _, after := _, guard := none }) rfl (.tmp 5) (.tmp 9) rfl Y HHL.out rfl rfl ?_; intro w3 hb3 HG3 HZ3)
  have hbw3 : Below w.heap.size w w3 := hbw2.trans (hb3.mono hbw2.size)
  refine (rnew_any _ Y w3 (BSl.of_row HG3.out (by rw [HHL.out]; exact Nat.le_refl _) 32 HHL.out.symm) (by rw [HHL.out]; decide)).mono ?_
  rintro e w4 ⟨r, rfl, hr4, hrd4, hb4⟩
  have hbw4 : Below w.heap.size w w4 := hbw3.trans (hb4.mono hbw3.size)
  have hr5 : w.heap.size ≤ r := Nat.le_trans hbw3.size hr4
  go_wp2_with fail
  refine (eight_any r Y w4 hrd4 (by rw [HHL.out]; decide) (by rw [HHL.out]; decide)).mono ?_
  rintro e w5 ⟨rfl, _, hbut5⟩
  go_wp2
  go_ret
  exact ⟨rfl, Below.of_but hbw4 hr5 hbut5⟩
end Go.Proofs.YtjkicmlelilcaaaDoor
