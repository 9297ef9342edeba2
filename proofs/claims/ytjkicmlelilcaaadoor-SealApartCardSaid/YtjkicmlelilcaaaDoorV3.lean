/- The walks over the ring's Hello, Token and Way. -/
import Derived.Test.YtjkicmlelilcaaaDoorV2
namespace Go.Proofs.YtjkicmlelilcaaaDoor
open Go.RowKit
attribute [local irreducible] be2 be4 be8 layTo layB chg shaB hmB
theorem info43z : (Tryd.prog.info? 43).map (·.size) = some (c8 zer32).size := by rw [c8_size]; exact info43
theorem HI43' {Y : List UInt8} (h : Y.length = 32) : (Tryd.prog.info? 43).map (·.size) = some (c8 Y).size := by rw [c8_size, h]; exact info43
theorem HQ' {Y : List UInt8} (h : Y.length = 32) : (c8 zer32).size = (c8 Y).size := by rw [c8_size, c8_size, h]; simp [zer32]
set_option maxRecDepth 100000 in
set_option maxHeartbeats 1000000 in
theorem hello_any (r : Nat) (key : List UInt8) (w : World) (hR : RingAt r key w) (hk0 : 0 < key.length) (hk1 : key.length ≤ 64) (hK : GlobK w) (hS : GlobS w) (h3 : 3 < w.heap.size) :
    Calls Tryd.prog 39 #[.pointer (some ⟨r, 0, none⟩)] w fun e w' => e = .returned (.agg (c8 (hmB key (layB helloB [])))) ∧ Below w.heap.size w w' := by
  have HK : Hid (GlobK w) := hK
  have HS : Hid (GlobS w) := hS
  clear hK hS
  have HR0 := Lib.hid (zer43 w)
  obtain ⟨Y, hY⟩ : ∃ Y, Y = hmB key (layB helloB []) := ⟨_, rfl⟩
  have HYL : Hid (Y.length = 32) := by rw [hY]; exact hmB_length _ _
  rw [← hY]
  have HY := Lib.hid hY
  clear hY
  go_enter Tryd.func39, Tryd.ntmps39
  go_wp2_with fail
  generalize hw1 : w.alloc _ = w1 at HR0 ⊢
  have hb1 : Below w.heap.size w w1 := by rw [← hw1]; exact alloc_below w
  have hz1 : w.heap.size < w1.heap.size := by rw [← hw1]; simp
  clear hw1
  refine (key_any r _ key helloB [] [] w1 (hR.below hb1 (Nat.le_refl _)) ⟨rfl, .inl ⟨rfl, rfl⟩, fun j hj => by simp at hj⟩ hk0 hk1 (by decide) (by simp) (by simp) (HK.out.below hb1 h3) (HS.out.below hb1 h3) (mid_lt h3 hb1)).mono ?_
  rintro e w2 ⟨rfl, hb2⟩
  rw [← HY.out]
  have hb12 : Below w.heap.size w w2 := hb1.trans (hb2.mono hb1.size)
  have HR2 : Hid (w2.heap[w.heap.size]? = some (.cells (c8 zer32) 43 (0, 0))) := (hb2.block _ hz1).trans HR0.out
  go_wp2_with (refine wpList_store_row (o := { dst := none, op := .store 43 (.tmp 2) (.tmp 4), type := _, pos := _, after := _, guard := none }) rfl 43 (.tmp 2) (.tmp 4) rfl w.heap.size (c8 Y) rfl rfl 43 _ HR2.out (HI43' HYL.out) (HQ' HYL.out) (c8_one _) ?_)
  refine bodyPost_ret (results_row (p := 2) (ty := 43) rfl _ _ w.heap.size 43 _ (0, 0) _ rfl (setRow_heap _ _ _ _ _ _ HR2.out) Tryd.underlying43 rfl (HI43' HYL.out)) rfl ?_
  exact ⟨rfl, below_setRow hb12 (Nat.le_refl _) _⟩
def tokenB : List UInt8 := [116, 111, 107, 101, 110]
def wayB : List UInt8 := [119, 97, 121]
set_option maxRecDepth 100000 in
set_option maxHeartbeats 1000000 in
theorem token_any (r s p : Nat) (key : List UInt8) (w : World) (hR : RingAt r key w) (hk0 : 0 < key.length) (hk1 : key.length ≤ 64) (hs : s < 4294967296) (hp : p < 4294967296) (hK : GlobK w) (hS : GlobS w) (h3 : 3 < w.heap.size) :
    Calls Tryd.prog 42 #[.pointer (some ⟨r, 0, none⟩), .int .u32 s, .int .u32 p] w fun e w' => e = .returned (.int .u64 (num (hmB (hmB key (layB tokenB [])) (be4 s ++ be4 p)) 8)) ∧ Below w.heap.size w w' := by
  have HK : Hid (GlobK w) := hK
  have HS : Hid (GlobS w) := hS
  clear hK hS
  have d0 : decide (0 < key.length) = true := decide_eq_true hk0
  have d1 : decide (key.length ≤ 64) = true := decide_eq_true hk1
  obtain ⟨Y, hY⟩ : ∃ Y, Y = hmB key (layB tokenB []) := ⟨_, rfl⟩
  have HYL : Hid (Y.length = 32) := by rw [hY]; exact hmB_length _ _
  rw [← hY]
  have HY := Lib.hid hY
  clear hY
  obtain ⟨M, hM⟩ : ∃ M, M = be4 s ++ be4 p := ⟨_, rfl⟩
  have hML : M.length ≤ 8 := by rw [hM, List.length_append, be4_length, be4_length]; decide
  rw [← hM]
  have HM := Lib.hid hM
  clear hM
  have hrl := hR.lt
  have HRR := Lib.hid hR
  obtain ⟨v, hr, hB⟩ := hR
  obtain ⟨ka, kc, rfl⟩ := hB.len
  have c0 := cell_of_row w r 0 _ 112 (0, 0) hr
  simp only [List.getElem?_toArray, List.getElem?_cons_zero] at c0
  clear hr
  go_enter Tryd.func42, Tryd.ntmps42
  go_wp2_with fail
  refine (may_any _ key w hB).mono ?_
  rintro e w1 ⟨rfl, rfl⟩
  rw [d0, d1]
  go_wp2_with fail
  refine (four_any w.heap.size s [] _ (wr_new w) (by simp) hs).mono ?_
  rintro e w2 ⟨rfl, hw2, hb2⟩
  rw [List.nil_append] at hw2
  go_wp2_with fail
  refine (four_any w.heap.size p (be4 s) w2 hw2 (by rw [be4_length]; omega) hp).mono ?_
  rintro e w3 ⟨rfl, hw3, hb3⟩
  go_wp2_with fail
  rw [← HM.out] at hw3
  refine (done_any w.heap.size M w3 hw3 (by omega)).mono ?_
  rintro e w4 ⟨v4, rfl, hown4, hb4⟩
  have hB4 := BSl.of_owns hown4
  have hbw4 : Below w.heap.size w w4 := (alloc_below w).trans (hb2.trans (hb3.trans hb4))
  obtain ⟨a4, c4, rfl⟩ := owns_form hown4
  go_wp2_with fail
  refine (key_any r _ key tokenB [] [] w4 (HRR.out.below hbw4 (Nat.le_refl _)) ⟨rfl, .inl ⟨rfl, rfl⟩, fun j hj => by simp at hj⟩ hk0 hk1 (by decide) (by simp) (by simp) (HK.out.below hbw4 h3) (HS.out.below hbw4 h3) (mid_lt h3 hbw4)).mono ?_
  rintro e w5 ⟨rfl, hb5⟩
  rw [← HY.out]
  have hbw5 : Below w.heap.size w w5 := hbw4.trans (hb5.mono hbw4.size)
  go_wp2_with fail
  refine (tag_any Y M _ w5 HYL.out (hB4.below hb5 (Nat.le_refl _)) (by omega) (HK.out.below hbw5 h3) (HS.out.below hbw5 h3) (mid_lt h3 hbw5)).mono ?_
  rintro e w6 ⟨rfl, hb6⟩
  go_wp2
  go_ret
  exact ⟨rfl, hbw5.trans (hb6.mono hbw5.size)⟩
/-- What a way's key is of. -/
def wayP (way s p c d : Nat) : List (List UInt8) := [[UInt8.ofNat way], be4 s, be4 p, be8 c, be8 d]
theorem psl_five {w : World} {a b c d e : Value} {p q r s t : List UInt8} (h1 : BSl w a p) (h2 : BSl w b q) (h3 : BSl w c r) (h4 : BSl w d s) (h5 : BSl w e t) :
    PSl (w.alloc (.cells #[a, b, c, d, e] 22)) (.slice (some ⟨w.heap.size, 0, none⟩) 5 5) [a, b, c, d, e] [p, q, r, s, t] := by
  have hb := alloc_below (o := .cells #[a, b, c, d, e] 22) w
  refine ⟨rfl, .inr ⟨w.heap.size, 0, 5, rfl, Nat.le_refl _, by simp, fun j hj => ?_⟩, fun j hj => ?_⟩
  · rw [Nat.zero_add, cell_of_row _ _ j _ 22 (0, 0) (row_new w _ 22)]
    have : j < 5 := hj
    match j, this with
    | 0, _ => rfl
    | 1, _ => rfl
    | 2, _ => rfl
    | 3, _ => rfl
    | 4, _ => rfl
  · have : j < 5 := hj
    match j, this with
    | 0, _ => exact h1.below hb (Nat.le_refl _)
    | 1, _ => exact h2.below hb (Nat.le_refl _)
    | 2, _ => exact h3.below hb (Nat.le_refl _)
    | 3, _ => exact h4.below hb (Nat.le_refl _)
    | 4, _ => exact h5.below hb (Nat.le_refl _)
theorem alloc_at (w : World) (o : Obj) (n : Nat) (h : n = w.heap.size) : (w.alloc o).heap[n]? = some o := by subst h; show (w.heap.push o)[w.heap.size]? = _; simp
theorem alloc_old (w : World) (o : Obj) (n : Nat) (h : n < w.heap.size) : (w.alloc o).heap[n]? = w.heap[n]? := (alloc_below w).block n h
theorem five_w (w : World) (o0 o1 o2 o3 o4 : Obj) : ∃ W, W = ((((w.alloc o0).alloc o1).alloc o2).alloc o3).alloc o4 ∧ Below w.heap.size w W ∧ W.heap.size = w.heap.size + 5 ∧ W.heap[w.heap.size]? = some o0 ∧ W.heap[w.heap.size + 1]? = some o1 ∧ W.heap[w.heap.size + 2]? = some o2 ∧ W.heap[w.heap.size + 3]? = some o3 ∧ W.heap[w.heap.size + 4]? = some o4 := by
  refine ⟨_, rfl, (((((alloc_below w).alloc (by simp) _).alloc (by simp; omega) _).alloc (by simp; omega) _).alloc (by simp; omega) _), by simp, ?_, ?_, ?_, ?_, ?_⟩
  · rw [alloc_old _ _ _ (by simp <;> omega), alloc_old _ _ _ (by simp <;> omega), alloc_old _ _ _ (by simp <;> omega), alloc_old _ _ _ (by simp <;> omega), alloc_at _ _ _ (by simp)]
  · rw [alloc_old _ _ _ (by simp <;> omega), alloc_old _ _ _ (by simp <;> omega), alloc_old _ _ _ (by simp <;> omega), alloc_at _ _ _ (by simp)]
  · rw [alloc_old _ _ _ (by simp <;> omega), alloc_old _ _ _ (by simp <;> omega), alloc_at _ _ _ (by simp)]
  · rw [alloc_old _ _ _ (by simp <;> omega), alloc_at _ _ _ (by simp)]
  · rw [alloc_at _ _ _ (by simp)]
theorem six_w (w : World) (o0 o1 o2 o3 o4 o5 : Obj) : ∃ W, W = (((((w.alloc o0).alloc o1).alloc o2).alloc o3).alloc o4).alloc o5 ∧ Below w.heap.size w W ∧ W.heap.size = w.heap.size + 6 ∧ W.heap[w.heap.size]? = some o0 ∧ W.heap[w.heap.size + 1]? = some o1 ∧ W.heap[w.heap.size + 2]? = some o2 ∧ W.heap[w.heap.size + 3]? = some o3 ∧ W.heap[w.heap.size + 4]? = some o4 ∧ W.heap[w.heap.size + 5]? = some o5 := by
  refine ⟨_, rfl, ((((((alloc_below w).alloc (by simp) _).alloc (by simp; omega) _).alloc (by simp; omega) _).alloc (by simp; omega) _).alloc (by simp; omega) _), by simp, ?_, ?_, ?_, ?_, ?_, ?_⟩
  · rw [alloc_old _ _ _ (by simp <;> omega), alloc_old _ _ _ (by simp <;> omega), alloc_old _ _ _ (by simp <;> omega), alloc_old _ _ _ (by simp <;> omega), alloc_old _ _ _ (by simp <;> omega), alloc_at _ _ _ (by simp)]
  · rw [alloc_old _ _ _ (by simp <;> omega), alloc_old _ _ _ (by simp <;> omega), alloc_old _ _ _ (by simp <;> omega), alloc_old _ _ _ (by simp <;> omega), alloc_at _ _ _ (by simp)]
  · rw [alloc_old _ _ _ (by simp <;> omega), alloc_old _ _ _ (by simp <;> omega), alloc_old _ _ _ (by simp <;> omega), alloc_at _ _ _ (by simp)]
  · rw [alloc_old _ _ _ (by simp <;> omega), alloc_old _ _ _ (by simp <;> omega), alloc_at _ _ _ (by simp)]
  · rw [alloc_old _ _ _ (by simp <;> omega), alloc_at _ _ _ (by simp)]
  · rw [alloc_at _ _ _ (by simp)]
theorem way_byte (way : Nat) (h : way ≤ 1) : N8 (UInt8.ofNat way) = (way : Int) := by rw [n8_of]; omega
set_option maxRecDepth 100000 in
set_option maxHeartbeats 2000000 in
theorem way_any (r way s p c d : Nat) (key : List UInt8) (w : World) (hR : RingAt r key w) (hk0 : 0 < key.length) (hk1 : key.length ≤ 64) (hway : way ≤ 1) (hs : s < 4294967296) (hp : p < 4294967296) (hc : c < 18446744073709551616) (hd : d < 18446744073709551616)
    (hK : GlobK w) (hS : GlobS w) (h3 : 3 < w.heap.size) :
    Calls Tryd.prog 40 #[.pointer (some ⟨r, 0, none⟩), .int .i64 way, .int .u32 s, .int .u32 p, .int .u64 c, .int .u64 d] w fun e w' => e = .returned (.agg (c8 (hmB key (layB wayB (wayP way s p c d))))) ∧ Below w.heap.size w w' := by
  have HK : Hid (GlobK w) := hK
  have HS : Hid (GlobS w) := hS
  clear hK hS
  obtain ⟨Y, hY⟩ : ∃ Y, Y = hmB key (layB wayB (wayP way s p c d)) := ⟨_, rfl⟩
  have HYL : Hid (Y.length = 32) := by rw [hY]; exact hmB_length _ _
  rw [← hY]
  have HY := Lib.hid hY
  clear hY
  have hWB := Lib.hid (way_byte way hway)
  obtain ⟨W, hWe, hbW, hzW, k0, k1, k2, k3, k4, k5⟩ := six_w w (.cells #[.int .u32 s] 62) (.cells #[.int .u32 p] 62) (.cells #[.int .u64 c] 49) (.cells #[.int .u64 d] 49) (.cells #[.int .u8 0, .int .u8 0, .int .u8 0, .int .u8 0, .int .u8 0, .int .u8 0, .int .u8 0, .int .u8 0, .int .u8 0, .int .u8 0, .int .u8 0, .int .u8 0, .int .u8 0, .int .u8 0, .int .u8 0, .int .u8 0, .int .u8 0, .int .u8 0, .int .u8 0, .int .u8 0, .int .u8 0, .int .u8 0, .int .u8 0, .int .u8 0, .int .u8 0, .int .u8 0, .int .u8 0, .int .u8 0, .int .u8 0, .int .u8 0, .int .u8 0, .int .u8 0] 43) (.cells #[.int .u8 way] 5)
  have HB0 := Lib.hid (cell_of_row W _ 0 _ 62 (0, 0) k0)
  have HB1 := Lib.hid (cell_of_row W _ 0 _ 62 (0, 0) k1)
  have HB2 := Lib.hid (cell_of_row W _ 0 _ 49 (0, 0) k2)
  have HB3 := Lib.hid (cell_of_row W _ 0 _ 49 (0, 0) k3)
  have HB4 : Hid (W.heap[w.heap.size + 4]? = some (.cells (c8 zer32) 43 (0, 0))) := k4
  have HB5 : Hid (BSl W (.slice (some ⟨w.heap.size + 5, 0, none⟩) 1 1) [UInt8.ofNat way]) := BSl.of_row (bs := [UInt8.ofNat way]) (T := 5) (by rw [k5]; unfold c8 c8l; simp only [List.map_cons, List.map_nil]; rw [way_byte way hway]) (Nat.le_refl _) 1 rfl
  clear k0 k1 k2 k3 k4 k5
  have HWE := Lib.hid hWe
  have HZW := Lib.hid hzW
  clear hWe hzW
  go_enter Tryd.func40, Tryd.ntmps40
  rcases (by omega : way = 0 ∨ way = 1) with rfl | rfl
  all_goals
    go_wp2_with fail
    generalize hG : World.alloc _ _ = G
    obtain rfl : G = W := hG.symm.trans HWE.out.symm
    clear hG
    have z0 := HZW.out
    have HZ0 := Lib.hid z0
    have l0 : w.heap.size + 5 < G.heap.size := by omega
    clear z0
    refine (part_67 w.heap.size s G HB0.out (by omega) hs).mono ?_
    rintro e w1 ⟨v1, rfl, hown1, hb1⟩
    have hB1 := BSl.of_owns hown1
    obtain ⟨a1, c1, rfl⟩ := owns_form hown1
    have l1 : w.heap.size + 5 < w1.heap.size := by have := hb1.size; omega
    go_wp2_with fail
    refine (part_68 (w.heap.size + 1) p w1 ((hb1.cell (p := ⟨w.heap.size + 1, 0, none⟩) (by simp; omega)).trans HB1.out) (by omega) hp).mono ?_
    rintro e w2 ⟨v2, rfl, hown2, hb2⟩
    have hB2 := BSl.of_owns hown2
    obtain ⟨a2, c2, rfl⟩ := owns_form hown2
    have hb02 : Below G.heap.size G w2 := hb1.trans (hb2.mono hb1.size)
    have l2 : w.heap.size + 5 < w2.heap.size := by have := hb2.size; omega
    go_wp2_with fail
    refine (part_69 (w.heap.size + 2) c w2 ((hb02.cell (p := ⟨w.heap.size + 2, 0, none⟩) (by simp; omega)).trans HB2.out) (by omega) hc).mono ?_
    rintro e w3 ⟨v3, rfl, hown3, hb3⟩
    have hB3 := BSl.of_owns hown3
    obtain ⟨a3, c3, rfl⟩ := owns_form hown3
    have hb03 : Below G.heap.size G w3 := hb02.trans (hb3.mono hb02.size)
    have l3 : w.heap.size + 5 < w3.heap.size := by have := hb3.size; omega
    go_wp2_with fail
    refine (part_71 (w.heap.size + 3) d w3 ((hb03.cell (p := ⟨w.heap.size + 3, 0, none⟩) (by simp; omega)).trans HB3.out) (by omega) hd).mono ?_
    rintro e w4 ⟨v4, rfl, hown4, hb4⟩
    have hB4 := BSl.of_owns hown4
    obtain ⟨a4, c4, rfl⟩ := owns_form hown4
    have hb04 : Below G.heap.size G w4 := hb03.trans (hb4.mono hb03.size)
    have l4 : w.heap.size + 5 < w4.heap.size := by have := hb4.size; omega
    have hb34 := hb3.trans (hb4.mono hb3.size)
    have hb24 := hb2.trans (hb34.mono hb2.size)
    have HP5 := Lib.hid (psl_five (HB5.out.below hb04 (Nat.le_refl _)) (hB1.below hb24 (Nat.le_refl _)) (hB2.below hb34 (Nat.le_refl _)) (hB3.below hb4 (Nat.le_refl _)) hB4)
    have hbw4 : Below w.heap.size w w4 := hbW.trans (hb04.mono (by omega))
    have hbw5 : Below w.heap.size w (w4.alloc (.cells #[.slice (some ⟨w.heap.size + 5, 0, none⟩) 1 1, .slice a1 (be4 s).length c1, .slice a2 (be4 p).length c2, .slice a3 (be8 c).length c3, .slice a4 (be8 d).length c4] 22)) := hbw4.alloc hbw4.size _
    go_wp2_with fail
    refine (key_any r _ key wayB _ _ _ (hR.below hbw5 (Nat.le_refl _)) HP5.out hk0 hk1 (by decide) (by simp) (by simp [be4_length, be8_length]) (HK.out.below hbw5 h3) (HS.out.below hbw5 h3) (mid_lt h3 hbw5)).mono ?_
    rintro e w6 ⟨rfl, hb6⟩
    have HY' := HY.out
    unfold wayP at HY'
    rw [← HY']
    clear HY'
    have hbw6 : Below w.heap.size w w6 := hbw5.trans (hb6.mono hbw5.size)
    have HR6 : Hid (w6.heap[w.heap.size + 4]? = some (.cells (c8 zer32) 43 (0, 0))) := by
      have h46 : Below w4.heap.size w4 w6 := (alloc_below w4).trans (hb6.mono (by simp))
      exact ((hb04.trans (h46.mono hb04.size)).block _ (by omega)).trans HB4.out
    go_wp2_with (refine wpList_store_row (o := { dst := none, op := .store 43 (.tmp 12) (.tmp 38), type := _, pos := _, after := _, guard := none }) rfl 43 (.tmp 12) (.tmp 38) rfl (w.heap.size + 4) (c8 Y) rfl rfl 43 _ HR6.out (HI43' HYL.out) (HQ' HYL.out) (c8_one _) ?_)
    refine bodyPost_ret (results_row (p := 12) (ty := 43) rfl _ _ (w.heap.size + 4) 43 _ (0, 0) _ rfl (setRow_heap _ _ _ _ _ _ HR6.out) Tryd.underlying43 rfl (HI43' HYL.out)) rfl ?_
    exact ⟨rfl, below_setRow hbw6 (by omega) _⟩
set_option maxRecDepth 100000 in
set_option maxHeartbeats 1000000 in
theorem way_none (rv : Value) (way : Int) (s p c d : Nat) (w : World) (hway : way = 2 ∨ way = -1) :
    Calls Tryd.prog 40 #[rv, .int .i64 way, .int .u32 s, .int .u32 p, .int .u64 c, .int .u64 d] w fun e w' => e = .returned (.agg (c8 zer32)) ∧ Below w.heap.size w w' := by
  obtain ⟨W, hWe, hbW, hzW, _, _, _, _, k4⟩ := five_w w (.cells #[.int .u32 s] 62) (.cells #[.int .u32 p] 62) (.cells #[.int .u64 c] 49) (.cells #[.int .u64 d] 49) (.cells #[.int .u8 0, .int .u8 0, .int .u8 0, .int .u8 0, .int .u8 0, .int .u8 0, .int .u8 0, .int .u8 0, .int .u8 0, .int .u8 0, .int .u8 0, .int .u8 0, .int .u8 0, .int .u8 0, .int .u8 0, .int .u8 0, .int .u8 0, .int .u8 0, .int .u8 0, .int .u8 0, .int .u8 0, .int .u8 0, .int .u8 0, .int .u8 0, .int .u8 0, .int .u8 0, .int .u8 0, .int .u8 0, .int .u8 0, .int .u8 0, .int .u8 0, .int .u8 0] 43)
  have HB4 : Hid (W.heap[w.heap.size + 4]? = some (.cells (c8 zer32) 43 (0, 0))) := k4
  have HWE := Lib.hid hWe
  clear hWe k4
  rcases hway with rfl | rfl
  all_goals
    go_enter Tryd.func40, Tryd.ntmps40
    go_wp2_with (refine wpList_store_row (o := { dst := none, op := .store 43 (.tmp 12) (.tmp 20), type := _, pos := _, after := _, guard := none }) rfl 43 (.tmp 12) (.tmp 20) rfl (w.heap.size + 4) (c8 zer32) rfl rfl 43 (c8 zer32) (by rw [← HWE.out]; exact HB4.out) info43z rfl (c8_one _) ?_)
    rw [← HWE.out]
    refine bodyPost_ret (results_row (p := 12) (ty := 43) rfl _ _ (w.heap.size + 4) 43 _ (0, 0) _ rfl (setRow_heap _ _ _ _ _ _ HB4.out) Tryd.underlying43 rfl info43z) rfl ?_
    exact ⟨rfl, below_setRow hbW (by omega) _⟩
end Go.Proofs.YtjkicmlelilcaaaDoor
