/- The walk over the law's 'wakes'. Printed by genS4.py. -/
import Derived.Test.YtjkicmlelilcaaaDoorS3
import Derived.Deep.MidRow
namespace Go.Proofs.YtjkicmlelilcaaaDoor
open Go.RowKit
def keyB : List UInt8 := [107, 101, 121]
def helloB : List UInt8 := [104, 101, 108, 108, 111]
def msgB : List UInt8 := [0, 5, 104, 101, 108, 108, 111]
set_option maxRecDepth 100000 in
theorem hm_key : hmB keyB msgB = [136, 53, 124, 184, 32, 248, 132, 195, 130, 224, 126, 149, 214, 156, 43, 34, 232, 197, 60, 110, 153, 58, 239, 137, 131, 9, 39, 206, 241, 141, 131, 118] := by decide +kernel
theorem lay_hello : layB helloB [] = msgB := by decide
theorem row_new43 (w : World) : (w.alloc (.cells #[.int .u8 0, .int .u8 0, .int .u8 0, .int .u8 0, .int .u8 0, .int .u8 0, .int .u8 0, .int .u8 0, .int .u8 0, .int .u8 0, .int .u8 0, .int .u8 0, .int .u8 0, .int .u8 0, .int .u8 0, .int .u8 0, .int .u8 0, .int .u8 0, .int .u8 0, .int .u8 0, .int .u8 0, .int .u8 0, .int .u8 0, .int .u8 0, .int .u8 0, .int .u8 0, .int .u8 0, .int .u8 0, .int .u8 0, .int .u8 0, .int .u8 0, .int .u8 0] 43)).heap[w.heap.size]? = some (.cells (c8 (List.replicate 32 0)) 43 (0, 0)) := row_new _ _ _
theorem wpList_store_new43 {w : World} {ops : Array Oper} {rest : List Oper} {o : Oper} {a : Act} {Q : Exit → Act → World → Prop} (hgd : o.guard = none) (x y : Operand) (ho : o.op = .store 43 x y) (l : List UInt8) (hl : l.length = 32)
    (hx : a.eval x = .pointer (some ⟨w.heap.size, 0, none⟩)) (hy : a.eval y = .agg (c8 l))
    (h : ∀ w', Below w.heap.size w w' → Hid (w'.heap[w.heap.size]? = some (.cells (c8 l) 43 (0, 0))) → Hid (w'.heap.size = w.heap.size + 1) → wpList Tryd.prog ops Q rest (a.put o.dst undef) w') :
    wpList Tryd.prog ops Q (o :: rest) a (w.alloc (.cells #[.int .u8 0, .int .u8 0, .int .u8 0, .int .u8 0, .int .u8 0, .int .u8 0, .int .u8 0, .int .u8 0, .int .u8 0, .int .u8 0, .int .u8 0, .int .u8 0, .int .u8 0, .int .u8 0, .int .u8 0, .int .u8 0, .int .u8 0, .int .u8 0, .int .u8 0, .int .u8 0, .int .u8 0, .int .u8 0, .int .u8 0, .int .u8 0, .int .u8 0, .int .u8 0, .int .u8 0, .int .u8 0, .int .u8 0, .int .u8 0, .int .u8 0, .int .u8 0] 43)) := by
  refine wpList_store_row hgd 43 x y ho w.heap.size (c8 l) hx hy 43 _ (row_new43 w) (by rw [c8_size, hl]; exact info43) (by rw [c8_size, c8_size, hl]; rfl) (c8_one _) ?_
  exact h _ (below_setRow (alloc_below w) (Nat.le_refl _) _) (setRow_heap _ _ _ _ _ _ (row_new43 w)) (by show _ = _; simp)
/-- A block that holds these cells, some of them marked or not. -/
def RowV (W : World) (g : Nat) (C : Array Value) (T : TypeId) : Prop := ∃ fr, W.heap[g]? = some (.cells C T fr)
theorem RowV.lt {W : World} {g : Nat} {C : Array Value} {T : TypeId} (h : RowV W g C T) : g < W.heap.size := by
  obtain ⟨fr, h⟩ := h; exact (Array.getElem?_eq_some_iff.1 h).1
theorem RowV.new (W : World) (C : Array Value) (T : TypeId) : RowV (W.alloc (.cells C T)) W.heap.size C T := ⟨_, row_new _ _ _⟩
theorem RowV.alloc {W : World} {g : Nat} {C : Array Value} {T : TypeId} (h : RowV W g C T) (o : Obj) : RowV (W.alloc o) g C T := by
  have hl := h.lt
  obtain ⟨fr, h⟩ := h; exact ⟨fr, (Below.heap_alloc _ _ _ hl).trans h⟩
theorem RowV.freeze {W : World} {g : Nat} {C : Array Value} {T : TypeId} (h : RowV W g C T) (a : Addr) (n : Nat) : RowV (W.freeze a n) g C T := by
  obtain ⟨fr, h⟩ := h
  unfold World.freeze
  by_cases hn : n = 0
  · rw [if_pos hn]; exact ⟨fr, h⟩
  · rw [if_neg hn]
    by_cases hg : a.block = g
    · exact ⟨_, by simp only [Array.getElem?_modify, hg, if_true, h, Option.map_some]; rfl⟩
    · exact ⟨fr, by simp only [Array.getElem?_modify, hg, if_false, h]⟩
theorem RowV.conv {W : World} {g : Nat} {C : Array Value} (h : RowV W g C 5) (n c : Nat) : (convert 22 22 (.slice (some ⟨g, 0, none⟩) n c)).run Tryd.prog W = .ok (.slice (some ⟨g, 0, none⟩) n c) (W.freeze ⟨g, C.size, none⟩ 1) := by
  obtain ⟨fr, h⟩ := h
  have hsh : W.shape? g = some (5, C.size) := by unfold World.shape?; rw [h]
  simp [convert, run_underlying Tryd.underlying22, run_underlying Tryd.underlying5, markStringish, hsh]
theorem below_frz {B : Nat} {a w : World} (h : Below B a w) {p : Addr} (hp : B ≤ p.block) (n : Nat) : Below B a (w.freeze p n) := by
  unfold World.freeze
  by_cases hn : n = 0
  · rw [if_pos hn]; exact h
  · rw [if_neg hn]
    exact ⟨h.os, h.tape, h.output, by simpa using h.size, fun k hk => by rw [← h.block k hk]; simp only [Array.getElem?_modify]; rw [if_neg (by omega)]⟩
theorem RowV.cell {W : World} {g : Nat} {C : Array Value} {T : TypeId} (h : RowV W g C T) (j : Nat) : W.cell? ⟨g, j, none⟩ = C[j]? := by
  obtain ⟨fr, h⟩ := h
  unfold World.cell?; rw [h]; simp
theorem RowV.bsl {W : World} {g : Nat} {bs : List UInt8} (h : RowV W g (c8 bs) 5) (n : Nat) (hn : n = bs.length) : BSl W (.slice (some ⟨g, 0, none⟩) n n) bs := by
  subst hn
  exact .inr (.inl ⟨g, 0, _, rfl, Nat.le_refl _, h.lt, fun j hj => by rw [Nat.zero_add, h.cell]; exact c8_at bs j hj⟩)
theorem RowV.psl {W : World} {g : Nat} {v : Value} {bs : List UInt8} (h : RowV W g #[v] 22) (hb : BSl W v bs) : PSl W (.slice (some ⟨g, 0, none⟩) 1 1) [v] [bs] := by
  refine ⟨rfl, .inr ⟨g, 0, 1, rfl, Nat.le_refl _, h.lt, fun j hj => ?_⟩, fun j hj => ?_⟩
  · obtain rfl : j = 0 := by simpa using hj
    rw [Nat.zero_add, h.cell]; rfl
  · obtain rfl : j = 0 := by simpa using hj
    exact hb
theorem range_at {w w3 : World} {p : Nat} {l : List Value} (r : w3.rangeAt p 0 l) (h : Below w3.heap.size w3 w) (hp : p < w3.heap.size) : w.rangeAt p 0 l := range_below r h hp

attribute [local irreducible] be2 be4 be8 layTo layB chg shaB hmB
set_option maxRecDepth 100000 in
set_option maxHeartbeats 4000000 in
theorem wakes_any (w : World) (hK : GlobK w) (hS : GlobS w) (h3 : 3 < w.heap.size) : Calls Tryd.prog 27 #[] w fun e w' => e = .returned (.bool true) ∧ Below w.heap.size w w' := by
  have HK : Hid (GlobK w) := hK
  have HS : Hid (GlobS w) := hS
  clear hK hS
  have k0 := kc0
  go_enter Tryd.func27, Tryd.ntmps27
  go_wp2_with fail
  have hb1 : Below w.heap.size w (w.alloc (.cells #[.int .u8 107, .int .u8 101, .int .u8 121] 5 (3, 4))) := alloc_below w
  have hk1 : BSl (w.alloc (.cells #[.int .u8 107, .int .u8 101, .int .u8 121] 5 (3, 4))) (.slice (some ⟨w.heap.size, 0, none⟩) 3 3) keyB := BSl.lit (w := w) (bs := keyB) (n := 3) (c := 3) (fr := (3, 4)) rfl (Nat.le_refl _)
  refine (derive_any _ _ keyB helloB [] [] _ hk1 ⟨rfl, .inl ⟨rfl, rfl⟩, fun j hj => by simp at hj⟩ (by decide) (by decide) (by decide) (by simp) (by simp) (HK.out.below hb1 h3) (HS.out.below hb1 h3) (mid_lt h3 hb1)).mono ?_
  rintro e w2 ⟨rfl, hb2⟩
  rw [lay_hello]
  have hbw2 : Below w.heap.size w w2 := hb1.trans (hb2.mono hb1.size)
  clear k0 hb1 hb2 hk1
  obtain ⟨Y, hY⟩ : ∃ Y, Y = hmB keyB msgB := ⟨_, rfl⟩
  rw [← hY]
  have HYL : Hid (Y.length = 32) := by rw [hY]; exact hmB_length _ _
  have HY0 : Hid ((Y == List.replicate 32 0) = false) := by show _ = _; rw [hY, hm_key]; decide
  have HY := Lib.hid hY
  clear hY
  go_wp2_with (refine wpList_store_new43 (o := { dst := none, op := .store 43 (.tmp 1) (.tmp 7), type := _, pos := _, after := _, guard := none }) rfl (.tmp 1) (.tmp 7) rfl Y HYL.out rfl rfl ?_; intro w3 hb3 HG3 HZ3)
  have hbw3 : Below w.heap.size w w3 := hbw2.trans (hb3.mono hbw2.size)
  have hlt3 : w2.heap.size < w3.heap.size := by have := HZ3.out; omega
  have r3 : w3.rangeAt w2.heap.size 0 (c8l Y) := range_of_row HG3.out
  have i43 : (Tryd.prog.info? 43).map (·.size) = some (c8l Y).length := by rw [c8l_length, HYL.out]; exact info43
  have eN : ∀ w : World, (Op.equalIn 10000 43 (.agg (c8l Y).toArray) (.agg #[.int .u8 0, .int .u8 0, .int .u8 0, .int .u8 0, .int .u8 0, .int .u8 0, .int .u8 0, .int .u8 0, .int .u8 0, .int .u8 0, .int .u8 0, .int .u8 0, .int .u8 0, .int .u8 0, .int .u8 0, .int .u8 0, .int .u8 0, .int .u8 0, .int .u8 0, .int .u8 0, .int .u8 0, .int .u8 0, .int .u8 0, .int .u8 0, .int .u8 0, .int .u8 0, .int .u8 0, .int .u8 0, .int .u8 0, .int .u8 0, .int .u8 0, .int .u8 0])).run Tryd.prog w = .ok false w := fun w => by have := eq43 Y (List.replicate 32 0) HYL.out rfl w; rw [HY0.out] at this; exact this
  have eY : ∀ w : World, (Op.equalIn 10000 43 (.agg (c8l Y).toArray) (.agg (c8 Y))).run Tryd.prog w = .ok true w := fun w => by have := eq43 Y Y HYL.out HYL.out w; rwa [beq_self_eq_true] at this
  have hW0 : Below w3.heap.size w3 w3.drew := (Below.refl _ _).drew
  refine wp_region_held_drew (S := fun W => Below w3.heap.size w3 W) (by kernel_rfl) hW0 (fun _ => ?_)
  refine wpAnyH_take (i := 0) (oi := { dst := some 9, op := Go.Op.move (Go.Operand.tmp 2), type := 44, pos := _, after := _, guard := none }) (v := .int .i64 0) rfl (by kernel_rfl) (by kernel_rfl) (by kernel_rfl) (fun _ _ _ h => h) (Or.inl ⟨by kernel_rfl, fun w _ => by go_simp⟩) hW0 ?_
  try simp only [Act.put, List.setIfInBounds_toArray, List.set_cons_zero, List.set_cons_succ]
  refine wpAnyH_take (i := 1) (oi := { dst := some 10, op := Go.Op.binOp Go.BinOp.eql 44 (Go.Operand.tmp 9) (Go.Operand.const (Go.Value.int Go.IntKind.i64 0)) 44, type := 4, pos := _, after := _, guard := none }) (v := .bool true) rfl (by kernel_rfl) (by kernel_rfl) (by kernel_rfl) (fun _ _ _ h => h) (Or.inl ⟨by kernel_rfl, fun w _ => by go_simp⟩) hW0 ?_
  try simp only [Act.put, List.setIfInBounds_toArray, List.set_cons_zero, List.set_cons_succ]
  refine wpAnyH_take (i := 2) (oi := { dst := some 11, op := Go.Op.move (Go.Operand.tmp 10), type := 4, pos := _, after := _, guard := none }) (v := .bool true) rfl (by kernel_rfl) (by kernel_rfl) (by kernel_rfl) (fun _ _ _ h => h) (Or.inl ⟨by kernel_rfl, fun w _ => by go_simp⟩) hW0 ?_
  try simp only [Act.put, List.setIfInBounds_toArray, List.set_cons_zero, List.set_cons_succ]
  refine wpAnyH_take (i := 3) (oi := { dst := some 12, op := Go.Op.load 43 (Go.Operand.tmp 1), type := 43, pos := _, after := _, guard := some (2, true) }) (v := .agg (c8l Y).toArray) rfl (by kernel_rfl) (by kernel_rfl) (by kernel_rfl) (fun _ _ _ h => h) (yieldsIf_load_mid (by kernel_rfl) 43 (.tmp 1) rfl w2.heap.size 0 rfl (c8l Y) _ (fun w h => range_at r3 h hlt3) Tryd.underlying43 rfl i43) hW0 ?_
  try simp only [Act.put, List.setIfInBounds_toArray, List.set_cons_zero, List.set_cons_succ]
  refine wpAnyH_take (i := 4) (oi := { dst := some 13, op := Go.Op.build 43 #[], type := 43, pos := _, after := _, guard := some (2, true) }) (v := .agg #[.int .u8 0, .int .u8 0, .int .u8 0, .int .u8 0, .int .u8 0, .int .u8 0, .int .u8 0, .int .u8 0, .int .u8 0, .int .u8 0, .int .u8 0, .int .u8 0, .int .u8 0, .int .u8 0, .int .u8 0, .int .u8 0, .int .u8 0, .int .u8 0, .int .u8 0, .int .u8 0, .int .u8 0, .int .u8 0, .int .u8 0, .int .u8 0, .int .u8 0, .int .u8 0, .int .u8 0, .int .u8 0, .int .u8 0, .int .u8 0, .int .u8 0, .int .u8 0]) rfl (by kernel_rfl) (by kernel_rfl) (by kernel_rfl) (fun _ _ _ h => h) (Or.inl ⟨by kernel_rfl, fun w _ => by go_simp⟩) hW0 ?_
  try simp only [Act.put, List.setIfInBounds_toArray, List.set_cons_zero, List.set_cons_succ]
  refine wpAnyH_take (i := 5) (oi := { dst := some 14, op := Go.Op.binOp Go.BinOp.neq 43 (Go.Operand.tmp 12) (Go.Operand.tmp 13) 43, type := 4, pos := _, after := _, guard := some (2, true) }) (v := .bool true) rfl (by kernel_rfl) (by kernel_rfl) (by kernel_rfl) (fun _ _ _ h => h) (Or.inl ⟨by kernel_rfl, fun w _ => by go_simp⟩) hW0 ?_
  try simp only [Act.put, List.setIfInBounds_toArray, List.set_cons_zero, List.set_cons_succ]
  refine wpAnyH_take (i := 6) (oi := { dst := some 15, op := Go.Op.pick (Go.Operand.tmp 11) (Go.Operand.tmp 14) (Go.Operand.const (Go.Value.bool false)), type := 4, pos := _, after := _, guard := none }) (v := .bool true) rfl (by kernel_rfl) (by kernel_rfl) (by kernel_rfl) (fun _ _ _ h => h) (Or.inl ⟨by kernel_rfl, fun w _ => by go_simp⟩) hW0 ?_
  try simp only [Act.put, List.setIfInBounds_toArray, List.set_cons_zero, List.set_cons_succ]
  refine wpAnyH_take (i := 7) (oi := { dst := some 16, op := Go.Op.move (Go.Operand.tmp 15), type := 4, pos := _, after := _, guard := none }) (v := .bool true) rfl (by kernel_rfl) (by kernel_rfl) (by kernel_rfl) (fun _ _ _ h => h) (Or.inl ⟨by kernel_rfl, fun w _ => by go_simp⟩) hW0 ?_
  try simp only [Act.put, List.setIfInBounds_toArray, List.set_cons_zero, List.set_cons_succ]
  refine wpAnyH_take (i := 8) (oi := { dst := some 17, op := Go.Op.load 43 (Go.Operand.tmp 1), type := 43, pos := _, after := _, guard := some (7, true) }) (v := .agg (c8l Y).toArray) rfl (by kernel_rfl) (by kernel_rfl) (by kernel_rfl) (fun _ _ _ h => h) (yieldsIf_load_mid (by kernel_rfl) 43 (.tmp 1) rfl w2.heap.size 0 rfl (c8l Y) _ (fun w h => range_at r3 h hlt3) Tryd.underlying43 rfl i43) hW0 ?_
  try simp only [Act.put, List.setIfInBounds_toArray, List.set_cons_zero, List.set_cons_succ]
  generalize w3.drew = W0 at hW0 ⊢
  refine wpAnyH_ready (rs := [9, 11]) (by kernel_rfl) (by simp) ?_
  refine AllReadyH.cons (o := { dst := some 18, op := Go.Op.buildSlice 22 3 #[(0, Go.Operand.const (Go.Value.int Go.IntKind.u8 107)), (1, Go.Operand.const (Go.Value.int Go.IntKind.u8 101)), (2, Go.Operand.const (Go.Value.int Go.IntKind.u8 121))], type := 22, pos := _, after := _, guard := some (7, true) }) rfl ?_ ?_
  · intro K hK
    rw [if_pos (by kernel_rfl)]
    go_simp
    have hW1 := hW0.alloc hW0.size (.cells #[.int .u8 107, .int .u8 101, .int .u8 121] 5)
    refine hK.out _ _ hW1 (fun _ => ?_)
    clear hK K
    try simp only [Act.put, List.setIfInBounds_toArray, List.set_cons_zero, List.set_cons_succ]
    have RA := RowV.new W0 #[.int .u8 107, .int .u8 101, .int .u8 121] 5
    have hg9 : w3.heap.size ≤ W0.heap.size := hW0.size
    generalize W0.alloc _ = W1 at hW1 RA ⊢
    generalize W0.heap.size = gA at RA hg9 ⊢
    refine wpAnyH_ready (rs := [10, 11]) (by kernel_rfl) (by simp) ?_
    refine AllReadyH.cons (o := { dst := some 19, op := Go.Op.convert 22 22 (Go.Operand.tmp 18), type := 22, pos := _, after := _, guard := some (7, true) }) rfl ?_ ?_
    · intro K hK
      rw [if_pos (by kernel_rfl)]
      have hcv := RA.conv 3 3
      go_simp
      have hW2 := below_frz hW1 (p := ⟨gA, 3, none⟩) hg9 1
      refine hK.out _ _ hW2 (fun _ => ?_)
      clear hK K hcv
      try simp only [Act.put, List.setIfInBounds_toArray, List.set_cons_zero, List.set_cons_succ]
      replace RA := RA.freeze ⟨gA, 3, none⟩ 1
      generalize W1.freeze _ _ = W2 at hW2 RA ⊢
      refine wpAnyH_ready (rs := [11]) (by kernel_rfl) (by simp) ?_
      refine AllReadyH.cons (o := { dst := some 20, op := Go.Op.buildSlice 22 7 #[(0, Go.Operand.const (Go.Value.int Go.IntKind.u8 0)), (1, Go.Operand.const (Go.Value.int Go.IntKind.u8 5)), (2, Go.Operand.const (Go.Value.int Go.IntKind.u8 104)), (3, Go.Operand.const (Go.Value.int Go.IntKind.u8 101)), (4, Go.Operand.const (Go.Value.int Go.IntKind.u8 108)), (5, Go.Operand.const (Go.Value.int Go.IntKind.u8 108)), (6, Go.Operand.const (Go.Value.int Go.IntKind.u8 111))], type := 22, pos := _, after := _, guard := some (7, true) }) rfl ?_ ?_
      · intro K hK
        rw [if_pos (by kernel_rfl)]
        go_simp
        have hW3 := hW2.alloc hW2.size (.cells #[.int .u8 0, .int .u8 5, .int .u8 104, .int .u8 101, .int .u8 108, .int .u8 108, .int .u8 111] 5)
        refine hK.out _ _ hW3 (fun _ => ?_)
        clear hK K
        try simp only [Act.put, List.setIfInBounds_toArray, List.set_cons_zero, List.set_cons_succ]
        have RB := RowV.new W2 #[.int .u8 0, .int .u8 5, .int .u8 104, .int .u8 101, .int .u8 108, .int .u8 108, .int .u8 111] 5
        replace RA := RA.alloc (.cells #[.int .u8 0, .int .u8 5, .int .u8 104, .int .u8 101, .int .u8 108, .int .u8 108, .int .u8 111] 5)
        have hg11 : w3.heap.size ≤ W2.heap.size := hW2.size
        generalize W2.alloc _ = W3 at hW3 RA RB ⊢
        generalize W2.heap.size = gB at RB hg11 ⊢
        refine wpAnyH_ready (rs := [12]) (by kernel_rfl) (by simp) ?_
        refine AllReadyH.cons (o := { dst := some 21, op := Go.Op.convert 22 22 (Go.Operand.tmp 20), type := 22, pos := _, after := _, guard := some (7, true) }) rfl ?_ ?_
        · intro K hK
          rw [if_pos (by kernel_rfl)]
          have hcv := RB.conv 7 7
          go_simp
          have hW4 := below_frz hW3 (p := ⟨gB, 7, none⟩) hg11 1
          refine hK.out _ _ hW4 (fun _ => ?_)
          clear hK K hcv
          try simp only [Act.put, List.setIfInBounds_toArray, List.set_cons_zero, List.set_cons_succ]
          replace RA := RA.freeze ⟨gB, 7, none⟩ 1
          replace RB := RB.freeze ⟨gB, 7, none⟩ 1
          generalize W3.freeze _ _ = W4 at hW4 RA RB ⊢
          refine wpAnyH_ready (rs := [13]) (by kernel_rfl) (by simp) ?_
          refine AllReadyH.cons (o := { dst := some 22, op := Go.Op.buildSlice 31 1 #[(0, Go.Operand.tmp 21)], type := 31, pos := _, after := _, guard := some (7, true) }) rfl ?_ ?_
          · intro K hK
            rw [if_pos (by kernel_rfl)]
            go_simp
            have hW5 := hW4.alloc hW4.size (.cells #[.slice (some ⟨gB, 0, none⟩) 7 7] 22)
            refine hK.out _ _ hW5 (fun _ => ?_)
            clear hK K
            try simp only [Act.put, List.setIfInBounds_toArray, List.set_cons_zero, List.set_cons_succ]
            have RC := RowV.new W4 #[.slice (some ⟨gB, 0, none⟩) 7 7] 22
            replace RA := RA.alloc (.cells #[.slice (some ⟨gB, 0, none⟩) 7 7] 22)
            replace RB := RB.alloc (.cells #[.slice (some ⟨gB, 0, none⟩) 7 7] 22)
            have hg13 : w3.heap.size ≤ W4.heap.size := hW4.size
            generalize W4.alloc _ = W5 at hW5 RA RB RC ⊢
            generalize W4.heap.size = gC at RC hg13 ⊢
            refine wpAnyH_ready (rs := [14]) (by kernel_rfl) (by simp) (AllReadyH.cons (o := { dst := some 23, op := Go.Op.call { callee := Go.Callee.value (Go.Operand.func 14), args := #[Go.Operand.tmp 19, Go.Operand.tmp 22], argTypes := #[22, 31] }, type := 24, pos := _, after := _, guard := some (7, true) }) rfl ?_ AllReadyH.nil)
            intro K hK
            rw [if_pos (by kernel_rfl)]
            go_simp
            have hbwW : Below w.heap.size w W5 := hbw3.trans (hW5.mono hbw3.size)
            refine (hmac_any _ _ keyB _ [msgB] _ (RA.bsl (bs := keyB) 3 rfl) (by decide) (RC.psl (RB.bsl (bs := msgB) 7 rfl)) (by simp) (by decide) (HK.out.below hbwW h3) (HS.out.below hbwW h3) (mid_lt h3 hbwW)).mono ?_
            rintro e W9 ⟨rfl, hb9⟩
            rw [show [msgB].flatten = msgB by simp, ← HY.out]
            have hW9 : Below w3.heap.size w3 W9 := hW5.trans (hb9.mono hW5.size)
            refine hK.out _ _ hW9 (fun _ => ?_)
            clear hK K
            try simp only [Act.put, List.setIfInBounds_toArray, List.set_cons_zero, List.set_cons_succ]
            refine wpAnyH_take (i := 15) (oi := { dst := some 24, op := Go.Op.binOp Go.BinOp.eql 43 (Go.Operand.tmp 17) (Go.Operand.tmp 23) 43, type := 4, pos := _, after := _, guard := some (7, true) }) (v := .bool true) rfl (by kernel_rfl) (by kernel_rfl) (by kernel_rfl) (fun _ _ _ h => h) (Or.inl ⟨by kernel_rfl, fun w _ => by go_simp⟩) hW9 ?_
            try simp only [Act.put, List.setIfInBounds_toArray, List.set_cons_zero, List.set_cons_succ]
            refine wpAnyH_take (i := 16) (oi := { dst := some 25, op := Go.Op.pick (Go.Operand.tmp 16) (Go.Operand.tmp 24) (Go.Operand.const (Go.Value.bool false)), type := 4, pos := _, after := _, guard := none }) (v := .bool true) rfl (by kernel_rfl) (by kernel_rfl) (by kernel_rfl) (fun _ _ _ h => h) (Or.inl ⟨by kernel_rfl, fun w _ => by go_simp⟩) hW9 ?_
            try simp only [Act.put, List.setIfInBounds_toArray, List.set_cons_zero, List.set_cons_succ]
            first | (refine wpAnyH_take (i := 17) (oi := { dst := some 0, op := Go.Op.assign (Go.Operand.tmp 25), type := 4, pos := _, after := _, guard := none }) (v := .bool true) rfl (by kernel_rfl) (by kernel_rfl) (by kernel_rfl) (fun _ _ _ h => h) (Or.inl ⟨by kernel_rfl, fun w _ => by go_simp⟩) hW9 ?_) | skip
            try simp only [Act.put, List.setIfInBounds_toArray, List.set_cons_zero, List.set_cons_succ]
            refine wpAnyH_done (by kernel_rfl) ?_ _
            go_simp
            go_wp2
            go_ret
            exact ⟨rfl, hbw3.trans (hW9.mono hbw3.size)⟩
          exact AllReadyH.nil
        exact AllReadyH.nil
      exact AllReadyH.nil
    refine AllReadyH.cons (o := { dst := some 20, op := Go.Op.buildSlice 22 7 #[(0, Go.Operand.const (Go.Value.int Go.IntKind.u8 0)), (1, Go.Operand.const (Go.Value.int Go.IntKind.u8 5)), (2, Go.Operand.const (Go.Value.int Go.IntKind.u8 104)), (3, Go.Operand.const (Go.Value.int Go.IntKind.u8 101)), (4, Go.Operand.const (Go.Value.int Go.IntKind.u8 108)), (5, Go.Operand.const (Go.Value.int Go.IntKind.u8 108)), (6, Go.Operand.const (Go.Value.int Go.IntKind.u8 111))], type := 22, pos := _, after := _, guard := some (7, true) }) rfl ?_ ?_
    · intro K hK
      rw [if_pos (by kernel_rfl)]
      go_simp
      have hW2 := hW1.alloc hW1.size (.cells #[.int .u8 0, .int .u8 5, .int .u8 104, .int .u8 101, .int .u8 108, .int .u8 108, .int .u8 111] 5)
      refine hK.out _ _ hW2 (fun _ => ?_)
      clear hK K
      try simp only [Act.put, List.setIfInBounds_toArray, List.set_cons_zero, List.set_cons_succ]
      have RB := RowV.new W1 #[.int .u8 0, .int .u8 5, .int .u8 104, .int .u8 101, .int .u8 108, .int .u8 108, .int .u8 111] 5
      replace RA := RA.alloc (.cells #[.int .u8 0, .int .u8 5, .int .u8 104, .int .u8 101, .int .u8 108, .int .u8 108, .int .u8 111] 5)
      have hg11 : w3.heap.size ≤ W1.heap.size := hW1.size
      generalize W1.alloc _ = W2 at hW2 RA RB ⊢
      generalize W1.heap.size = gB at RB hg11 ⊢
      refine wpAnyH_ready (rs := [10, 12]) (by kernel_rfl) (by simp) ?_
      refine AllReadyH.cons (o := { dst := some 19, op := Go.Op.convert 22 22 (Go.Operand.tmp 18), type := 22, pos := _, after := _, guard := some (7, true) }) rfl ?_ ?_
      · intro K hK
        rw [if_pos (by kernel_rfl)]
        have hcv := RA.conv 3 3
        go_simp
        have hW3 := below_frz hW2 (p := ⟨gA, 3, none⟩) hg9 1
        refine hK.out _ _ hW3 (fun _ => ?_)
        clear hK K hcv
        try simp only [Act.put, List.setIfInBounds_toArray, List.set_cons_zero, List.set_cons_succ]
        replace RA := RA.freeze ⟨gA, 3, none⟩ 1
        replace RB := RB.freeze ⟨gA, 3, none⟩ 1
        generalize W2.freeze _ _ = W3 at hW3 RA RB ⊢
        refine wpAnyH_ready (rs := [12]) (by kernel_rfl) (by simp) ?_
        refine AllReadyH.cons (o := { dst := some 21, op := Go.Op.convert 22 22 (Go.Operand.tmp 20), type := 22, pos := _, after := _, guard := some (7, true) }) rfl ?_ ?_
        · intro K hK
          rw [if_pos (by kernel_rfl)]
          have hcv := RB.conv 7 7
          go_simp
          have hW4 := below_frz hW3 (p := ⟨gB, 7, none⟩) hg11 1
          refine hK.out _ _ hW4 (fun _ => ?_)
          clear hK K hcv
          try simp only [Act.put, List.setIfInBounds_toArray, List.set_cons_zero, List.set_cons_succ]
          replace RA := RA.freeze ⟨gB, 7, none⟩ 1
          replace RB := RB.freeze ⟨gB, 7, none⟩ 1
          generalize W3.freeze _ _ = W4 at hW4 RA RB ⊢
          refine wpAnyH_ready (rs := [13]) (by kernel_rfl) (by simp) ?_
          refine AllReadyH.cons (o := { dst := some 22, op := Go.Op.buildSlice 31 1 #[(0, Go.Operand.tmp 21)], type := 31, pos := _, after := _, guard := some (7, true) }) rfl ?_ ?_
          · intro K hK
            rw [if_pos (by kernel_rfl)]
            go_simp
            have hW5 := hW4.alloc hW4.size (.cells #[.slice (some ⟨gB, 0, none⟩) 7 7] 22)
            refine hK.out _ _ hW5 (fun _ => ?_)
            clear hK K
            try simp only [Act.put, List.setIfInBounds_toArray, List.set_cons_zero, List.set_cons_succ]
            have RC := RowV.new W4 #[.slice (some ⟨gB, 0, none⟩) 7 7] 22
            replace RA := RA.alloc (.cells #[.slice (some ⟨gB, 0, none⟩) 7 7] 22)
            replace RB := RB.alloc (.cells #[.slice (some ⟨gB, 0, none⟩) 7 7] 22)
            have hg13 : w3.heap.size ≤ W4.heap.size := hW4.size
            generalize W4.alloc _ = W5 at hW5 RA RB RC ⊢
            generalize W4.heap.size = gC at RC hg13 ⊢
            refine wpAnyH_ready (rs := [14]) (by kernel_rfl) (by simp) (AllReadyH.cons (o := { dst := some 23, op := Go.Op.call { callee := Go.Callee.value (Go.Operand.func 14), args := #[Go.Operand.tmp 19, Go.Operand.tmp 22], argTypes := #[22, 31] }, type := 24, pos := _, after := _, guard := some (7, true) }) rfl ?_ AllReadyH.nil)
            intro K hK
            rw [if_pos (by kernel_rfl)]
            go_simp
            have hbwW : Below w.heap.size w W5 := hbw3.trans (hW5.mono hbw3.size)
            refine (hmac_any _ _ keyB _ [msgB] _ (RA.bsl (bs := keyB) 3 rfl) (by decide) (RC.psl (RB.bsl (bs := msgB) 7 rfl)) (by simp) (by decide) (HK.out.below hbwW h3) (HS.out.below hbwW h3) (mid_lt h3 hbwW)).mono ?_
            rintro e W9 ⟨rfl, hb9⟩
            rw [show [msgB].flatten = msgB by simp, ← HY.out]
            have hW9 : Below w3.heap.size w3 W9 := hW5.trans (hb9.mono hW5.size)
            refine hK.out _ _ hW9 (fun _ => ?_)
            clear hK K
            try simp only [Act.put, List.setIfInBounds_toArray, List.set_cons_zero, List.set_cons_succ]
            refine wpAnyH_take (i := 15) (oi := { dst := some 24, op := Go.Op.binOp Go.BinOp.eql 43 (Go.Operand.tmp 17) (Go.Operand.tmp 23) 43, type := 4, pos := _, after := _, guard := some (7, true) }) (v := .bool true) rfl (by kernel_rfl) (by kernel_rfl) (by kernel_rfl) (fun _ _ _ h => h) (Or.inl ⟨by kernel_rfl, fun w _ => by go_simp⟩) hW9 ?_
            try simp only [Act.put, List.setIfInBounds_toArray, List.set_cons_zero, List.set_cons_succ]
            refine wpAnyH_take (i := 16) (oi := { dst := some 25, op := Go.Op.pick (Go.Operand.tmp 16) (Go.Operand.tmp 24) (Go.Operand.const (Go.Value.bool false)), type := 4, pos := _, after := _, guard := none }) (v := .bool true) rfl (by kernel_rfl) (by kernel_rfl) (by kernel_rfl) (fun _ _ _ h => h) (Or.inl ⟨by kernel_rfl, fun w _ => by go_simp⟩) hW9 ?_
            try simp only [Act.put, List.setIfInBounds_toArray, List.set_cons_zero, List.set_cons_succ]
            first | (refine wpAnyH_take (i := 17) (oi := { dst := some 0, op := Go.Op.assign (Go.Operand.tmp 25), type := 4, pos := _, after := _, guard := none }) (v := .bool true) rfl (by kernel_rfl) (by kernel_rfl) (by kernel_rfl) (fun _ _ _ h => h) (Or.inl ⟨by kernel_rfl, fun w _ => by go_simp⟩) hW9 ?_) | skip
            try simp only [Act.put, List.setIfInBounds_toArray, List.set_cons_zero, List.set_cons_succ]
            refine wpAnyH_done (by kernel_rfl) ?_ _
            go_simp
            go_wp2
            go_ret
            exact ⟨rfl, hbw3.trans (hW9.mono hbw3.size)⟩
          exact AllReadyH.nil
        exact AllReadyH.nil
      refine AllReadyH.cons (o := { dst := some 21, op := Go.Op.convert 22 22 (Go.Operand.tmp 20), type := 22, pos := _, after := _, guard := some (7, true) }) rfl ?_ ?_
      · intro K hK
        rw [if_pos (by kernel_rfl)]
        have hcv := RB.conv 7 7
        go_simp
        have hW3 := below_frz hW2 (p := ⟨gB, 7, none⟩) hg11 1
        refine hK.out _ _ hW3 (fun _ => ?_)
        clear hK K hcv
        try simp only [Act.put, List.setIfInBounds_toArray, List.set_cons_zero, List.set_cons_succ]
        replace RA := RA.freeze ⟨gB, 7, none⟩ 1
        replace RB := RB.freeze ⟨gB, 7, none⟩ 1
        generalize W2.freeze _ _ = W3 at hW3 RA RB ⊢
        refine wpAnyH_ready (rs := [10, 13]) (by kernel_rfl) (by simp) ?_
        refine AllReadyH.cons (o := { dst := some 19, op := Go.Op.convert 22 22 (Go.Operand.tmp 18), type := 22, pos := _, after := _, guard := some (7, true) }) rfl ?_ ?_
        · intro K hK
          rw [if_pos (by kernel_rfl)]
          have hcv := RA.conv 3 3
          go_simp
          have hW4 := below_frz hW3 (p := ⟨gA, 3, none⟩) hg9 1
          refine hK.out _ _ hW4 (fun _ => ?_)
          clear hK K hcv
          try simp only [Act.put, List.setIfInBounds_toArray, List.set_cons_zero, List.set_cons_succ]
          replace RA := RA.freeze ⟨gA, 3, none⟩ 1
          replace RB := RB.freeze ⟨gA, 3, none⟩ 1
          generalize W3.freeze _ _ = W4 at hW4 RA RB ⊢
          refine wpAnyH_ready (rs := [13]) (by kernel_rfl) (by simp) ?_
          refine AllReadyH.cons (o := { dst := some 22, op := Go.Op.buildSlice 31 1 #[(0, Go.Operand.tmp 21)], type := 31, pos := _, after := _, guard := some (7, true) }) rfl ?_ ?_
          · intro K hK
            rw [if_pos (by kernel_rfl)]
            go_simp
            have hW5 := hW4.alloc hW4.size (.cells #[.slice (some ⟨gB, 0, none⟩) 7 7] 22)
            refine hK.out _ _ hW5 (fun _ => ?_)
            clear hK K
            try simp only [Act.put, List.setIfInBounds_toArray, List.set_cons_zero, List.set_cons_succ]
            have RC := RowV.new W4 #[.slice (some ⟨gB, 0, none⟩) 7 7] 22
            replace RA := RA.alloc (.cells #[.slice (some ⟨gB, 0, none⟩) 7 7] 22)
            replace RB := RB.alloc (.cells #[.slice (some ⟨gB, 0, none⟩) 7 7] 22)
            have hg13 : w3.heap.size ≤ W4.heap.size := hW4.size
            generalize W4.alloc _ = W5 at hW5 RA RB RC ⊢
            generalize W4.heap.size = gC at RC hg13 ⊢
            refine wpAnyH_ready (rs := [14]) (by kernel_rfl) (by simp) (AllReadyH.cons (o := { dst := some 23, op := Go.Op.call { callee := Go.Callee.value (Go.Operand.func 14), args := #[Go.Operand.tmp 19, Go.Operand.tmp 22], argTypes := #[22, 31] }, type := 24, pos := _, after := _, guard := some (7, true) }) rfl ?_ AllReadyH.nil)
            intro K hK
            rw [if_pos (by kernel_rfl)]
            go_simp
            have hbwW : Below w.heap.size w W5 := hbw3.trans (hW5.mono hbw3.size)
            refine (hmac_any _ _ keyB _ [msgB] _ (RA.bsl (bs := keyB) 3 rfl) (by decide) (RC.psl (RB.bsl (bs := msgB) 7 rfl)) (by simp) (by decide) (HK.out.below hbwW h3) (HS.out.below hbwW h3) (mid_lt h3 hbwW)).mono ?_
            rintro e W9 ⟨rfl, hb9⟩
            rw [show [msgB].flatten = msgB by simp, ← HY.out]
            have hW9 : Below w3.heap.size w3 W9 := hW5.trans (hb9.mono hW5.size)
            refine hK.out _ _ hW9 (fun _ => ?_)
            clear hK K
            try simp only [Act.put, List.setIfInBounds_toArray, List.set_cons_zero, List.set_cons_succ]
            refine wpAnyH_take (i := 15) (oi := { dst := some 24, op := Go.Op.binOp Go.BinOp.eql 43 (Go.Operand.tmp 17) (Go.Operand.tmp 23) 43, type := 4, pos := _, after := _, guard := some (7, true) }) (v := .bool true) rfl (by kernel_rfl) (by kernel_rfl) (by kernel_rfl) (fun _ _ _ h => h) (Or.inl ⟨by kernel_rfl, fun w _ => by go_simp⟩) hW9 ?_
            try simp only [Act.put, List.setIfInBounds_toArray, List.set_cons_zero, List.set_cons_succ]
            refine wpAnyH_take (i := 16) (oi := { dst := some 25, op := Go.Op.pick (Go.Operand.tmp 16) (Go.Operand.tmp 24) (Go.Operand.const (Go.Value.bool false)), type := 4, pos := _, after := _, guard := none }) (v := .bool true) rfl (by kernel_rfl) (by kernel_rfl) (by kernel_rfl) (fun _ _ _ h => h) (Or.inl ⟨by kernel_rfl, fun w _ => by go_simp⟩) hW9 ?_
            try simp only [Act.put, List.setIfInBounds_toArray, List.set_cons_zero, List.set_cons_succ]
            first | (refine wpAnyH_take (i := 17) (oi := { dst := some 0, op := Go.Op.assign (Go.Operand.tmp 25), type := 4, pos := _, after := _, guard := none }) (v := .bool true) rfl (by kernel_rfl) (by kernel_rfl) (by kernel_rfl) (fun _ _ _ h => h) (Or.inl ⟨by kernel_rfl, fun w _ => by go_simp⟩) hW9 ?_) | skip
            try simp only [Act.put, List.setIfInBounds_toArray, List.set_cons_zero, List.set_cons_succ]
            refine wpAnyH_done (by kernel_rfl) ?_ _
            go_simp
            go_wp2
            go_ret
            exact ⟨rfl, hbw3.trans (hW9.mono hbw3.size)⟩
          exact AllReadyH.nil
        refine AllReadyH.cons (o := { dst := some 22, op := Go.Op.buildSlice 31 1 #[(0, Go.Operand.tmp 21)], type := 31, pos := _, after := _, guard := some (7, true) }) rfl ?_ ?_
        · intro K hK
          rw [if_pos (by kernel_rfl)]
          go_simp
          have hW4 := hW3.alloc hW3.size (.cells #[.slice (some ⟨gB, 0, none⟩) 7 7] 22)
          refine hK.out _ _ hW4 (fun _ => ?_)
          clear hK K
          try simp only [Act.put, List.setIfInBounds_toArray, List.set_cons_zero, List.set_cons_succ]
          have RC := RowV.new W3 #[.slice (some ⟨gB, 0, none⟩) 7 7] 22
          replace RA := RA.alloc (.cells #[.slice (some ⟨gB, 0, none⟩) 7 7] 22)
          replace RB := RB.alloc (.cells #[.slice (some ⟨gB, 0, none⟩) 7 7] 22)
          have hg13 : w3.heap.size ≤ W3.heap.size := hW3.size
          generalize W3.alloc _ = W4 at hW4 RA RB RC ⊢
          generalize W3.heap.size = gC at RC hg13 ⊢
          refine wpAnyH_ready (rs := [10]) (by kernel_rfl) (by simp) ?_
          refine AllReadyH.cons (o := { dst := some 19, op := Go.Op.convert 22 22 (Go.Operand.tmp 18), type := 22, pos := _, after := _, guard := some (7, true) }) rfl ?_ ?_
          · intro K hK
            rw [if_pos (by kernel_rfl)]
            have hcv := RA.conv 3 3
            go_simp
            have hW5 := below_frz hW4 (p := ⟨gA, 3, none⟩) hg9 1
            refine hK.out _ _ hW5 (fun _ => ?_)
            clear hK K hcv
            try simp only [Act.put, List.setIfInBounds_toArray, List.set_cons_zero, List.set_cons_succ]
            replace RA := RA.freeze ⟨gA, 3, none⟩ 1
            replace RB := RB.freeze ⟨gA, 3, none⟩ 1
            replace RC := RC.freeze ⟨gA, 3, none⟩ 1
            generalize W4.freeze _ _ = W5 at hW5 RA RB RC ⊢
            refine wpAnyH_ready (rs := [14]) (by kernel_rfl) (by simp) (AllReadyH.cons (o := { dst := some 23, op := Go.Op.call { callee := Go.Callee.value (Go.Operand.func 14), args := #[Go.Operand.tmp 19, Go.Operand.tmp 22], argTypes := #[22, 31] }, type := 24, pos := _, after := _, guard := some (7, true) }) rfl ?_ AllReadyH.nil)
            intro K hK
            rw [if_pos (by kernel_rfl)]
            go_simp
            have hbwW : Below w.heap.size w W5 := hbw3.trans (hW5.mono hbw3.size)
            refine (hmac_any _ _ keyB _ [msgB] _ (RA.bsl (bs := keyB) 3 rfl) (by decide) (RC.psl (RB.bsl (bs := msgB) 7 rfl)) (by simp) (by decide) (HK.out.below hbwW h3) (HS.out.below hbwW h3) (mid_lt h3 hbwW)).mono ?_
            rintro e W9 ⟨rfl, hb9⟩
            rw [show [msgB].flatten = msgB by simp, ← HY.out]
            have hW9 : Below w3.heap.size w3 W9 := hW5.trans (hb9.mono hW5.size)
            refine hK.out _ _ hW9 (fun _ => ?_)
            clear hK K
            try simp only [Act.put, List.setIfInBounds_toArray, List.set_cons_zero, List.set_cons_succ]
            refine wpAnyH_take (i := 15) (oi := { dst := some 24, op := Go.Op.binOp Go.BinOp.eql 43 (Go.Operand.tmp 17) (Go.Operand.tmp 23) 43, type := 4, pos := _, after := _, guard := some (7, true) }) (v := .bool true) rfl (by kernel_rfl) (by kernel_rfl) (by kernel_rfl) (fun _ _ _ h => h) (Or.inl ⟨by kernel_rfl, fun w _ => by go_simp⟩) hW9 ?_
            try simp only [Act.put, List.setIfInBounds_toArray, List.set_cons_zero, List.set_cons_succ]
            refine wpAnyH_take (i := 16) (oi := { dst := some 25, op := Go.Op.pick (Go.Operand.tmp 16) (Go.Operand.tmp 24) (Go.Operand.const (Go.Value.bool false)), type := 4, pos := _, after := _, guard := none }) (v := .bool true) rfl (by kernel_rfl) (by kernel_rfl) (by kernel_rfl) (fun _ _ _ h => h) (Or.inl ⟨by kernel_rfl, fun w _ => by go_simp⟩) hW9 ?_
            try simp only [Act.put, List.setIfInBounds_toArray, List.set_cons_zero, List.set_cons_succ]
            first | (refine wpAnyH_take (i := 17) (oi := { dst := some 0, op := Go.Op.assign (Go.Operand.tmp 25), type := 4, pos := _, after := _, guard := none }) (v := .bool true) rfl (by kernel_rfl) (by kernel_rfl) (by kernel_rfl) (fun _ _ _ h => h) (Or.inl ⟨by kernel_rfl, fun w _ => by go_simp⟩) hW9 ?_) | skip
            try simp only [Act.put, List.setIfInBounds_toArray, List.set_cons_zero, List.set_cons_succ]
            refine wpAnyH_done (by kernel_rfl) ?_ _
            go_simp
            go_wp2
            go_ret
            exact ⟨rfl, hbw3.trans (hW9.mono hbw3.size)⟩
          exact AllReadyH.nil
        exact AllReadyH.nil
      exact AllReadyH.nil
    exact AllReadyH.nil
  refine AllReadyH.cons (o := { dst := some 20, op := Go.Op.buildSlice 22 7 #[(0, Go.Operand.const (Go.Value.int Go.IntKind.u8 0)), (1, Go.Operand.const (Go.Value.int Go.IntKind.u8 5)), (2, Go.Operand.const (Go.Value.int Go.IntKind.u8 104)), (3, Go.Operand.const (Go.Value.int Go.IntKind.u8 101)), (4, Go.Operand.const (Go.Value.int Go.IntKind.u8 108)), (5, Go.Operand.const (Go.Value.int Go.IntKind.u8 108)), (6, Go.Operand.const (Go.Value.int Go.IntKind.u8 111))], type := 22, pos := _, after := _, guard := some (7, true) }) rfl ?_ ?_
  · intro K hK
    rw [if_pos (by kernel_rfl)]
    go_simp
    have hW1 := hW0.alloc hW0.size (.cells #[.int .u8 0, .int .u8 5, .int .u8 104, .int .u8 101, .int .u8 108, .int .u8 108, .int .u8 111] 5)
    refine hK.out _ _ hW1 (fun _ => ?_)
    clear hK K
    try simp only [Act.put, List.setIfInBounds_toArray, List.set_cons_zero, List.set_cons_succ]
    have RB := RowV.new W0 #[.int .u8 0, .int .u8 5, .int .u8 104, .int .u8 101, .int .u8 108, .int .u8 108, .int .u8 111] 5
    have hg11 : w3.heap.size ≤ W0.heap.size := hW0.size
    generalize W0.alloc _ = W1 at hW1 RB ⊢
    generalize W0.heap.size = gB at RB hg11 ⊢
    refine wpAnyH_ready (rs := [9, 12]) (by kernel_rfl) (by simp) ?_
    refine AllReadyH.cons (o := { dst := some 18, op := Go.Op.buildSlice 22 3 #[(0, Go.Operand.const (Go.Value.int Go.IntKind.u8 107)), (1, Go.Operand.const (Go.Value.int Go.IntKind.u8 101)), (2, Go.Operand.const (Go.Value.int Go.IntKind.u8 121))], type := 22, pos := _, after := _, guard := some (7, true) }) rfl ?_ ?_
    · intro K hK
      rw [if_pos (by kernel_rfl)]
      go_simp
      have hW2 := hW1.alloc hW1.size (.cells #[.int .u8 107, .int .u8 101, .int .u8 121] 5)
      refine hK.out _ _ hW2 (fun _ => ?_)
      clear hK K
      try simp only [Act.put, List.setIfInBounds_toArray, List.set_cons_zero, List.set_cons_succ]
      have RA := RowV.new W1 #[.int .u8 107, .int .u8 101, .int .u8 121] 5
      replace RB := RB.alloc (.cells #[.int .u8 107, .int .u8 101, .int .u8 121] 5)
      have hg9 : w3.heap.size ≤ W1.heap.size := hW1.size
      generalize W1.alloc _ = W2 at hW2 RB RA ⊢
      generalize W1.heap.size = gA at RA hg9 ⊢
      refine wpAnyH_ready (rs := [10, 12]) (by kernel_rfl) (by simp) ?_
      refine AllReadyH.cons (o := { dst := some 19, op := Go.Op.convert 22 22 (Go.Operand.tmp 18), type := 22, pos := _, after := _, guard := some (7, true) }) rfl ?_ ?_
      · intro K hK
        rw [if_pos (by kernel_rfl)]
        have hcv := RA.conv 3 3
        go_simp
        have hW3 := below_frz hW2 (p := ⟨gA, 3, none⟩) hg9 1
        refine hK.out _ _ hW3 (fun _ => ?_)
        clear hK K hcv
        try simp only [Act.put, List.setIfInBounds_toArray, List.set_cons_zero, List.set_cons_succ]
        replace RA := RA.freeze ⟨gA, 3, none⟩ 1
        replace RB := RB.freeze ⟨gA, 3, none⟩ 1
        generalize W2.freeze _ _ = W3 at hW3 RA RB ⊢
        refine wpAnyH_ready (rs := [12]) (by kernel_rfl) (by simp) ?_
        refine AllReadyH.cons (o := { dst := some 21, op := Go.Op.convert 22 22 (Go.Operand.tmp 20), type := 22, pos := _, after := _, guard := some (7, true) }) rfl ?_ ?_
        · intro K hK
          rw [if_pos (by kernel_rfl)]
          have hcv := RB.conv 7 7
          go_simp
          have hW4 := below_frz hW3 (p := ⟨gB, 7, none⟩) hg11 1
          refine hK.out _ _ hW4 (fun _ => ?_)
          clear hK K hcv
          try simp only [Act.put, List.setIfInBounds_toArray, List.set_cons_zero, List.set_cons_succ]
          replace RA := RA.freeze ⟨gB, 7, none⟩ 1
          replace RB := RB.freeze ⟨gB, 7, none⟩ 1
          generalize W3.freeze _ _ = W4 at hW4 RA RB ⊢
          refine wpAnyH_ready (rs := [13]) (by kernel_rfl) (by simp) ?_
          refine AllReadyH.cons (o := { dst := some 22, op := Go.Op.buildSlice 31 1 #[(0, Go.Operand.tmp 21)], type := 31, pos := _, after := _, guard := some (7, true) }) rfl ?_ ?_
          · intro K hK
            rw [if_pos (by kernel_rfl)]
            go_simp
            have hW5 := hW4.alloc hW4.size (.cells #[.slice (some ⟨gB, 0, none⟩) 7 7] 22)
            refine hK.out _ _ hW5 (fun _ => ?_)
            clear hK K
            try simp only [Act.put, List.setIfInBounds_toArray, List.set_cons_zero, List.set_cons_succ]
            have RC := RowV.new W4 #[.slice (some ⟨gB, 0, none⟩) 7 7] 22
            replace RA := RA.alloc (.cells #[.slice (some ⟨gB, 0, none⟩) 7 7] 22)
            replace RB := RB.alloc (.cells #[.slice (some ⟨gB, 0, none⟩) 7 7] 22)
            have hg13 : w3.heap.size ≤ W4.heap.size := hW4.size
            generalize W4.alloc _ = W5 at hW5 RA RB RC ⊢
            generalize W4.heap.size = gC at RC hg13 ⊢
            refine wpAnyH_ready (rs := [14]) (by kernel_rfl) (by simp) (AllReadyH.cons (o := { dst := some 23, op := Go.Op.call { callee := Go.Callee.value (Go.Operand.func 14), args := #[Go.Operand.tmp 19, Go.Operand.tmp 22], argTypes := #[22, 31] }, type := 24, pos := _, after := _, guard := some (7, true) }) rfl ?_ AllReadyH.nil)
            intro K hK
            rw [if_pos (by kernel_rfl)]
            go_simp
            have hbwW : Below w.heap.size w W5 := hbw3.trans (hW5.mono hbw3.size)
            refine (hmac_any _ _ keyB _ [msgB] _ (RA.bsl (bs := keyB) 3 rfl) (by decide) (RC.psl (RB.bsl (bs := msgB) 7 rfl)) (by simp) (by decide) (HK.out.below hbwW h3) (HS.out.below hbwW h3) (mid_lt h3 hbwW)).mono ?_
            rintro e W9 ⟨rfl, hb9⟩
            rw [show [msgB].flatten = msgB by simp, ← HY.out]
            have hW9 : Below w3.heap.size w3 W9 := hW5.trans (hb9.mono hW5.size)
            refine hK.out _ _ hW9 (fun _ => ?_)
            clear hK K
            try simp only [Act.put, List.setIfInBounds_toArray, List.set_cons_zero, List.set_cons_succ]
            refine wpAnyH_take (i := 15) (oi := { dst := some 24, op := Go.Op.binOp Go.BinOp.eql 43 (Go.Operand.tmp 17) (Go.Operand.tmp 23) 43, type := 4, pos := _, after := _, guard := some (7, true) }) (v := .bool true) rfl (by kernel_rfl) (by kernel_rfl) (by kernel_rfl) (fun _ _ _ h => h) (Or.inl ⟨by kernel_rfl, fun w _ => by go_simp⟩) hW9 ?_
            try simp only [Act.put, List.setIfInBounds_toArray, List.set_cons_zero, List.set_cons_succ]
            refine wpAnyH_take (i := 16) (oi := { dst := some 25, op := Go.Op.pick (Go.Operand.tmp 16) (Go.Operand.tmp 24) (Go.Operand.const (Go.Value.bool false)), type := 4, pos := _, after := _, guard := none }) (v := .bool true) rfl (by kernel_rfl) (by kernel_rfl) (by kernel_rfl) (fun _ _ _ h => h) (Or.inl ⟨by kernel_rfl, fun w _ => by go_simp⟩) hW9 ?_
            try simp only [Act.put, List.setIfInBounds_toArray, List.set_cons_zero, List.set_cons_succ]
            first | (refine wpAnyH_take (i := 17) (oi := { dst := some 0, op := Go.Op.assign (Go.Operand.tmp 25), type := 4, pos := _, after := _, guard := none }) (v := .bool true) rfl (by kernel_rfl) (by kernel_rfl) (by kernel_rfl) (fun _ _ _ h => h) (Or.inl ⟨by kernel_rfl, fun w _ => by go_simp⟩) hW9 ?_) | skip
            try simp only [Act.put, List.setIfInBounds_toArray, List.set_cons_zero, List.set_cons_succ]
            refine wpAnyH_done (by kernel_rfl) ?_ _
            go_simp
            go_wp2
            go_ret
            exact ⟨rfl, hbw3.trans (hW9.mono hbw3.size)⟩
          exact AllReadyH.nil
        exact AllReadyH.nil
      refine AllReadyH.cons (o := { dst := some 21, op := Go.Op.convert 22 22 (Go.Operand.tmp 20), type := 22, pos := _, after := _, guard := some (7, true) }) rfl ?_ ?_
      · intro K hK
        rw [if_pos (by kernel_rfl)]
        have hcv := RB.conv 7 7
        go_simp
        have hW3 := below_frz hW2 (p := ⟨gB, 7, none⟩) hg11 1
        refine hK.out _ _ hW3 (fun _ => ?_)
        clear hK K hcv
        try simp only [Act.put, List.setIfInBounds_toArray, List.set_cons_zero, List.set_cons_succ]
        replace RA := RA.freeze ⟨gB, 7, none⟩ 1
        replace RB := RB.freeze ⟨gB, 7, none⟩ 1
        generalize W2.freeze _ _ = W3 at hW3 RA RB ⊢
        refine wpAnyH_ready (rs := [10, 13]) (by kernel_rfl) (by simp) ?_
        refine AllReadyH.cons (o := { dst := some 19, op := Go.Op.convert 22 22 (Go.Operand.tmp 18), type := 22, pos := _, after := _, guard := some (7, true) }) rfl ?_ ?_
        · intro K hK
          rw [if_pos (by kernel_rfl)]
          have hcv := RA.conv 3 3
          go_simp
          have hW4 := below_frz hW3 (p := ⟨gA, 3, none⟩) hg9 1
          refine hK.out _ _ hW4 (fun _ => ?_)
          clear hK K hcv
          try simp only [Act.put, List.setIfInBounds_toArray, List.set_cons_zero, List.set_cons_succ]
          replace RA := RA.freeze ⟨gA, 3, none⟩ 1
          replace RB := RB.freeze ⟨gA, 3, none⟩ 1
          generalize W3.freeze _ _ = W4 at hW4 RA RB ⊢
          refine wpAnyH_ready (rs := [13]) (by kernel_rfl) (by simp) ?_
          refine AllReadyH.cons (o := { dst := some 22, op := Go.Op.buildSlice 31 1 #[(0, Go.Operand.tmp 21)], type := 31, pos := _, after := _, guard := some (7, true) }) rfl ?_ ?_
          · intro K hK
            rw [if_pos (by kernel_rfl)]
            go_simp
            have hW5 := hW4.alloc hW4.size (.cells #[.slice (some ⟨gB, 0, none⟩) 7 7] 22)
            refine hK.out _ _ hW5 (fun _ => ?_)
            clear hK K
            try simp only [Act.put, List.setIfInBounds_toArray, List.set_cons_zero, List.set_cons_succ]
            have RC := RowV.new W4 #[.slice (some ⟨gB, 0, none⟩) 7 7] 22
            replace RA := RA.alloc (.cells #[.slice (some ⟨gB, 0, none⟩) 7 7] 22)
            replace RB := RB.alloc (.cells #[.slice (some ⟨gB, 0, none⟩) 7 7] 22)
            have hg13 : w3.heap.size ≤ W4.heap.size := hW4.size
            generalize W4.alloc _ = W5 at hW5 RA RB RC ⊢
            generalize W4.heap.size = gC at RC hg13 ⊢
            refine wpAnyH_ready (rs := [14]) (by kernel_rfl) (by simp) (AllReadyH.cons (o := { dst := some 23, op := Go.Op.call { callee := Go.Callee.value (Go.Operand.func 14), args := #[Go.Operand.tmp 19, Go.Operand.tmp 22], argTypes := #[22, 31] }, type := 24, pos := _, after := _, guard := some (7, true) }) rfl ?_ AllReadyH.nil)
            intro K hK
            rw [if_pos (by kernel_rfl)]
            go_simp
            have hbwW : Below w.heap.size w W5 := hbw3.trans (hW5.mono hbw3.size)
            refine (hmac_any _ _ keyB _ [msgB] _ (RA.bsl (bs := keyB) 3 rfl) (by decide) (RC.psl (RB.bsl (bs := msgB) 7 rfl)) (by simp) (by decide) (HK.out.below hbwW h3) (HS.out.below hbwW h3) (mid_lt h3 hbwW)).mono ?_
            rintro e W9 ⟨rfl, hb9⟩
            rw [show [msgB].flatten = msgB by simp, ← HY.out]
            have hW9 : Below w3.heap.size w3 W9 := hW5.trans (hb9.mono hW5.size)
            refine hK.out _ _ hW9 (fun _ => ?_)
            clear hK K
            try simp only [Act.put, List.setIfInBounds_toArray, List.set_cons_zero, List.set_cons_succ]
            refine wpAnyH_take (i := 15) (oi := { dst := some 24, op := Go.Op.binOp Go.BinOp.eql 43 (Go.Operand.tmp 17) (Go.Operand.tmp 23) 43, type := 4, pos := _, after := _, guard := some (7, true) }) (v := .bool true) rfl (by kernel_rfl) (by kernel_rfl) (by kernel_rfl) (fun _ _ _ h => h) (Or.inl ⟨by kernel_rfl, fun w _ => by go_simp⟩) hW9 ?_
            try simp only [Act.put, List.setIfInBounds_toArray, List.set_cons_zero, List.set_cons_succ]
            refine wpAnyH_take (i := 16) (oi := { dst := some 25, op := Go.Op.pick (Go.Operand.tmp 16) (Go.Operand.tmp 24) (Go.Operand.const (Go.Value.bool false)), type := 4, pos := _, after := _, guard := none }) (v := .bool true) rfl (by kernel_rfl) (by kernel_rfl) (by kernel_rfl) (fun _ _ _ h => h) (Or.inl ⟨by kernel_rfl, fun w _ => by go_simp⟩) hW9 ?_
            try simp only [Act.put, List.setIfInBounds_toArray, List.set_cons_zero, List.set_cons_succ]
            first | (refine wpAnyH_take (i := 17) (oi := { dst := some 0, op := Go.Op.assign (Go.Operand.tmp 25), type := 4, pos := _, after := _, guard := none }) (v := .bool true) rfl (by kernel_rfl) (by kernel_rfl) (by kernel_rfl) (fun _ _ _ h => h) (Or.inl ⟨by kernel_rfl, fun w _ => by go_simp⟩) hW9 ?_) | skip
            try simp only [Act.put, List.setIfInBounds_toArray, List.set_cons_zero, List.set_cons_succ]
            refine wpAnyH_done (by kernel_rfl) ?_ _
            go_simp
            go_wp2
            go_ret
            exact ⟨rfl, hbw3.trans (hW9.mono hbw3.size)⟩
          exact AllReadyH.nil
        refine AllReadyH.cons (o := { dst := some 22, op := Go.Op.buildSlice 31 1 #[(0, Go.Operand.tmp 21)], type := 31, pos := _, after := _, guard := some (7, true) }) rfl ?_ ?_
        · intro K hK
          rw [if_pos (by kernel_rfl)]
          go_simp
          have hW4 := hW3.alloc hW3.size (.cells #[.slice (some ⟨gB, 0, none⟩) 7 7] 22)
          refine hK.out _ _ hW4 (fun _ => ?_)
          clear hK K
          try simp only [Act.put, List.setIfInBounds_toArray, List.set_cons_zero, List.set_cons_succ]
          have RC := RowV.new W3 #[.slice (some ⟨gB, 0, none⟩) 7 7] 22
          replace RA := RA.alloc (.cells #[.slice (some ⟨gB, 0, none⟩) 7 7] 22)
          replace RB := RB.alloc (.cells #[.slice (some ⟨gB, 0, none⟩) 7 7] 22)
          have hg13 : w3.heap.size ≤ W3.heap.size := hW3.size
          generalize W3.alloc _ = W4 at hW4 RA RB RC ⊢
          generalize W3.heap.size = gC at RC hg13 ⊢
          refine wpAnyH_ready (rs := [10]) (by kernel_rfl) (by simp) ?_
          refine AllReadyH.cons (o := { dst := some 19, op := Go.Op.convert 22 22 (Go.Operand.tmp 18), type := 22, pos := _, after := _, guard := some (7, true) }) rfl ?_ ?_
          · intro K hK
            rw [if_pos (by kernel_rfl)]
            have hcv := RA.conv 3 3
            go_simp
            have hW5 := below_frz hW4 (p := ⟨gA, 3, none⟩) hg9 1
            refine hK.out _ _ hW5 (fun _ => ?_)
            clear hK K hcv
            try simp only [Act.put, List.setIfInBounds_toArray, List.set_cons_zero, List.set_cons_succ]
            replace RA := RA.freeze ⟨gA, 3, none⟩ 1
            replace RB := RB.freeze ⟨gA, 3, none⟩ 1
            replace RC := RC.freeze ⟨gA, 3, none⟩ 1
            generalize W4.freeze _ _ = W5 at hW5 RA RB RC ⊢
            refine wpAnyH_ready (rs := [14]) (by kernel_rfl) (by simp) (AllReadyH.cons (o := { dst := some 23, op := Go.Op.call { callee := Go.Callee.value (Go.Operand.func 14), args := #[Go.Operand.tmp 19, Go.Operand.tmp 22], argTypes := #[22, 31] }, type := 24, pos := _, after := _, guard := some (7, true) }) rfl ?_ AllReadyH.nil)
            intro K hK
            rw [if_pos (by kernel_rfl)]
            go_simp
            have hbwW : Below w.heap.size w W5 := hbw3.trans (hW5.mono hbw3.size)
            refine (hmac_any _ _ keyB _ [msgB] _ (RA.bsl (bs := keyB) 3 rfl) (by decide) (RC.psl (RB.bsl (bs := msgB) 7 rfl)) (by simp) (by decide) (HK.out.below hbwW h3) (HS.out.below hbwW h3) (mid_lt h3 hbwW)).mono ?_
            rintro e W9 ⟨rfl, hb9⟩
            rw [show [msgB].flatten = msgB by simp, ← HY.out]
            have hW9 : Below w3.heap.size w3 W9 := hW5.trans (hb9.mono hW5.size)
            refine hK.out _ _ hW9 (fun _ => ?_)
            clear hK K
            try simp only [Act.put, List.setIfInBounds_toArray, List.set_cons_zero, List.set_cons_succ]
            refine wpAnyH_take (i := 15) (oi := { dst := some 24, op := Go.Op.binOp Go.BinOp.eql 43 (Go.Operand.tmp 17) (Go.Operand.tmp 23) 43, type := 4, pos := _, after := _, guard := some (7, true) }) (v := .bool true) rfl (by kernel_rfl) (by kernel_rfl) (by kernel_rfl) (fun _ _ _ h => h) (Or.inl ⟨by kernel_rfl, fun w _ => by go_simp⟩) hW9 ?_
            try simp only [Act.put, List.setIfInBounds_toArray, List.set_cons_zero, List.set_cons_succ]
            refine wpAnyH_take (i := 16) (oi := { dst := some 25, op := Go.Op.pick (Go.Operand.tmp 16) (Go.Operand.tmp 24) (Go.Operand.const (Go.Value.bool false)), type := 4, pos := _, after := _, guard := none }) (v := .bool true) rfl (by kernel_rfl) (by kernel_rfl) (by kernel_rfl) (fun _ _ _ h => h) (Or.inl ⟨by kernel_rfl, fun w _ => by go_simp⟩) hW9 ?_
            try simp only [Act.put, List.setIfInBounds_toArray, List.set_cons_zero, List.set_cons_succ]
            first | (refine wpAnyH_take (i := 17) (oi := { dst := some 0, op := Go.Op.assign (Go.Operand.tmp 25), type := 4, pos := _, after := _, guard := none }) (v := .bool true) rfl (by kernel_rfl) (by kernel_rfl) (by kernel_rfl) (fun _ _ _ h => h) (Or.inl ⟨by kernel_rfl, fun w _ => by go_simp⟩) hW9 ?_) | skip
            try simp only [Act.put, List.setIfInBounds_toArray, List.set_cons_zero, List.set_cons_succ]
            refine wpAnyH_done (by kernel_rfl) ?_ _
            go_simp
            go_wp2
            go_ret
            exact ⟨rfl, hbw3.trans (hW9.mono hbw3.size)⟩
          exact AllReadyH.nil
        exact AllReadyH.nil
      exact AllReadyH.nil
    refine AllReadyH.cons (o := { dst := some 21, op := Go.Op.convert 22 22 (Go.Operand.tmp 20), type := 22, pos := _, after := _, guard := some (7, true) }) rfl ?_ ?_
    · intro K hK
      rw [if_pos (by kernel_rfl)]
      have hcv := RB.conv 7 7
      go_simp
      have hW2 := below_frz hW1 (p := ⟨gB, 7, none⟩) hg11 1
      refine hK.out _ _ hW2 (fun _ => ?_)
      clear hK K hcv
      try simp only [Act.put, List.setIfInBounds_toArray, List.set_cons_zero, List.set_cons_succ]
      replace RB := RB.freeze ⟨gB, 7, none⟩ 1
      generalize W1.freeze _ _ = W2 at hW2 RB ⊢
      refine wpAnyH_ready (rs := [9, 13]) (by kernel_rfl) (by simp) ?_
      refine AllReadyH.cons (o := { dst := some 18, op := Go.Op.buildSlice 22 3 #[(0, Go.Operand.const (Go.Value.int Go.IntKind.u8 107)), (1, Go.Operand.const (Go.Value.int Go.IntKind.u8 101)), (2, Go.Operand.const (Go.Value.int Go.IntKind.u8 121))], type := 22, pos := _, after := _, guard := some (7, true) }) rfl ?_ ?_
      · intro K hK
        rw [if_pos (by kernel_rfl)]
        go_simp
        have hW3 := hW2.alloc hW2.size (.cells #[.int .u8 107, .int .u8 101, .int .u8 121] 5)
        refine hK.out _ _ hW3 (fun _ => ?_)
        clear hK K
        try simp only [Act.put, List.setIfInBounds_toArray, List.set_cons_zero, List.set_cons_succ]
        have RA := RowV.new W2 #[.int .u8 107, .int .u8 101, .int .u8 121] 5
        replace RB := RB.alloc (.cells #[.int .u8 107, .int .u8 101, .int .u8 121] 5)
        have hg9 : w3.heap.size ≤ W2.heap.size := hW2.size
        generalize W2.alloc _ = W3 at hW3 RB RA ⊢
        generalize W2.heap.size = gA at RA hg9 ⊢
        refine wpAnyH_ready (rs := [10, 13]) (by kernel_rfl) (by simp) ?_
        refine AllReadyH.cons (o := { dst := some 19, op := Go.Op.convert 22 22 (Go.Operand.tmp 18), type := 22, pos := _, after := _, guard := some (7, true) }) rfl ?_ ?_
        · intro K hK
          rw [if_pos (by kernel_rfl)]
          have hcv := RA.conv 3 3
          go_simp
          have hW4 := below_frz hW3 (p := ⟨gA, 3, none⟩) hg9 1
          refine hK.out _ _ hW4 (fun _ => ?_)
          clear hK K hcv
          try simp only [Act.put, List.setIfInBounds_toArray, List.set_cons_zero, List.set_cons_succ]
          replace RA := RA.freeze ⟨gA, 3, none⟩ 1
          replace RB := RB.freeze ⟨gA, 3, none⟩ 1
          generalize W3.freeze _ _ = W4 at hW4 RA RB ⊢
          refine wpAnyH_ready (rs := [13]) (by kernel_rfl) (by simp) ?_
          refine AllReadyH.cons (o := { dst := some 22, op := Go.Op.buildSlice 31 1 #[(0, Go.Operand.tmp 21)], type := 31, pos := _, after := _, guard := some (7, true) }) rfl ?_ ?_
          · intro K hK
            rw [if_pos (by kernel_rfl)]
            go_simp
            have hW5 := hW4.alloc hW4.size (.cells #[.slice (some ⟨gB, 0, none⟩) 7 7] 22)
            refine hK.out _ _ hW5 (fun _ => ?_)
            clear hK K
            try simp only [Act.put, List.setIfInBounds_toArray, List.set_cons_zero, List.set_cons_succ]
            have RC := RowV.new W4 #[.slice (some ⟨gB, 0, none⟩) 7 7] 22
            replace RA := RA.alloc (.cells #[.slice (some ⟨gB, 0, none⟩) 7 7] 22)
            replace RB := RB.alloc (.cells #[.slice (some ⟨gB, 0, none⟩) 7 7] 22)
            have hg13 : w3.heap.size ≤ W4.heap.size := hW4.size
            generalize W4.alloc _ = W5 at hW5 RA RB RC ⊢
            generalize W4.heap.size = gC at RC hg13 ⊢
            refine wpAnyH_ready (rs := [14]) (by kernel_rfl) (by simp) (AllReadyH.cons (o := { dst := some 23, op := Go.Op.call { callee := Go.Callee.value (Go.Operand.func 14), args := #[Go.Operand.tmp 19, Go.Operand.tmp 22], argTypes := #[22, 31] }, type := 24, pos := _, after := _, guard := some (7, true) }) rfl ?_ AllReadyH.nil)
            intro K hK
            rw [if_pos (by kernel_rfl)]
            go_simp
            have hbwW : Below w.heap.size w W5 := hbw3.trans (hW5.mono hbw3.size)
            refine (hmac_any _ _ keyB _ [msgB] _ (RA.bsl (bs := keyB) 3 rfl) (by decide) (RC.psl (RB.bsl (bs := msgB) 7 rfl)) (by simp) (by decide) (HK.out.below hbwW h3) (HS.out.below hbwW h3) (mid_lt h3 hbwW)).mono ?_
            rintro e W9 ⟨rfl, hb9⟩
            rw [show [msgB].flatten = msgB by simp, ← HY.out]
            have hW9 : Below w3.heap.size w3 W9 := hW5.trans (hb9.mono hW5.size)
            refine hK.out _ _ hW9 (fun _ => ?_)
            clear hK K
            try simp only [Act.put, List.setIfInBounds_toArray, List.set_cons_zero, List.set_cons_succ]
            refine wpAnyH_take (i := 15) (oi := { dst := some 24, op := Go.Op.binOp Go.BinOp.eql 43 (Go.Operand.tmp 17) (Go.Operand.tmp 23) 43, type := 4, pos := _, after := _, guard := some (7, true) }) (v := .bool true) rfl (by kernel_rfl) (by kernel_rfl) (by kernel_rfl) (fun _ _ _ h => h) (Or.inl ⟨by kernel_rfl, fun w _ => by go_simp⟩) hW9 ?_
            try simp only [Act.put, List.setIfInBounds_toArray, List.set_cons_zero, List.set_cons_succ]
            refine wpAnyH_take (i := 16) (oi := { dst := some 25, op := Go.Op.pick (Go.Operand.tmp 16) (Go.Operand.tmp 24) (Go.Operand.const (Go.Value.bool false)), type := 4, pos := _, after := _, guard := none }) (v := .bool true) rfl (by kernel_rfl) (by kernel_rfl) (by kernel_rfl) (fun _ _ _ h => h) (Or.inl ⟨by kernel_rfl, fun w _ => by go_simp⟩) hW9 ?_
            try simp only [Act.put, List.setIfInBounds_toArray, List.set_cons_zero, List.set_cons_succ]
            first | (refine wpAnyH_take (i := 17) (oi := { dst := some 0, op := Go.Op.assign (Go.Operand.tmp 25), type := 4, pos := _, after := _, guard := none }) (v := .bool true) rfl (by kernel_rfl) (by kernel_rfl) (by kernel_rfl) (fun _ _ _ h => h) (Or.inl ⟨by kernel_rfl, fun w _ => by go_simp⟩) hW9 ?_) | skip
            try simp only [Act.put, List.setIfInBounds_toArray, List.set_cons_zero, List.set_cons_succ]
            refine wpAnyH_done (by kernel_rfl) ?_ _
            go_simp
            go_wp2
            go_ret
            exact ⟨rfl, hbw3.trans (hW9.mono hbw3.size)⟩
          exact AllReadyH.nil
        refine AllReadyH.cons (o := { dst := some 22, op := Go.Op.buildSlice 31 1 #[(0, Go.Operand.tmp 21)], type := 31, pos := _, after := _, guard := some (7, true) }) rfl ?_ ?_
        · intro K hK
          rw [if_pos (by kernel_rfl)]
          go_simp
          have hW4 := hW3.alloc hW3.size (.cells #[.slice (some ⟨gB, 0, none⟩) 7 7] 22)
          refine hK.out _ _ hW4 (fun _ => ?_)
          clear hK K
          try simp only [Act.put, List.setIfInBounds_toArray, List.set_cons_zero, List.set_cons_succ]
          have RC := RowV.new W3 #[.slice (some ⟨gB, 0, none⟩) 7 7] 22
          replace RA := RA.alloc (.cells #[.slice (some ⟨gB, 0, none⟩) 7 7] 22)
          replace RB := RB.alloc (.cells #[.slice (some ⟨gB, 0, none⟩) 7 7] 22)
          have hg13 : w3.heap.size ≤ W3.heap.size := hW3.size
          generalize W3.alloc _ = W4 at hW4 RA RB RC ⊢
          generalize W3.heap.size = gC at RC hg13 ⊢
          refine wpAnyH_ready (rs := [10]) (by kernel_rfl) (by simp) ?_
          refine AllReadyH.cons (o := { dst := some 19, op := Go.Op.convert 22 22 (Go.Operand.tmp 18), type := 22, pos := _, after := _, guard := some (7, true) }) rfl ?_ ?_
          · intro K hK
            rw [if_pos (by kernel_rfl)]
            have hcv := RA.conv 3 3
            go_simp
            have hW5 := below_frz hW4 (p := ⟨gA, 3, none⟩) hg9 1
            refine hK.out _ _ hW5 (fun _ => ?_)
            clear hK K hcv
            try simp only [Act.put, List.setIfInBounds_toArray, List.set_cons_zero, List.set_cons_succ]
            replace RA := RA.freeze ⟨gA, 3, none⟩ 1
            replace RB := RB.freeze ⟨gA, 3, none⟩ 1
            replace RC := RC.freeze ⟨gA, 3, none⟩ 1
            generalize W4.freeze _ _ = W5 at hW5 RA RB RC ⊢
            refine wpAnyH_ready (rs := [14]) (by kernel_rfl) (by simp) (AllReadyH.cons (o := { dst := some 23, op := Go.Op.call { callee := Go.Callee.value (Go.Operand.func 14), args := #[Go.Operand.tmp 19, Go.Operand.tmp 22], argTypes := #[22, 31] }, type := 24, pos := _, after := _, guard := some (7, true) }) rfl ?_ AllReadyH.nil)
            intro K hK
            rw [if_pos (by kernel_rfl)]
            go_simp
            have hbwW : Below w.heap.size w W5 := hbw3.trans (hW5.mono hbw3.size)
            refine (hmac_any _ _ keyB _ [msgB] _ (RA.bsl (bs := keyB) 3 rfl) (by decide) (RC.psl (RB.bsl (bs := msgB) 7 rfl)) (by simp) (by decide) (HK.out.below hbwW h3) (HS.out.below hbwW h3) (mid_lt h3 hbwW)).mono ?_
            rintro e W9 ⟨rfl, hb9⟩
            rw [show [msgB].flatten = msgB by simp, ← HY.out]
            have hW9 : Below w3.heap.size w3 W9 := hW5.trans (hb9.mono hW5.size)
            refine hK.out _ _ hW9 (fun _ => ?_)
            clear hK K
            try simp only [Act.put, List.setIfInBounds_toArray, List.set_cons_zero, List.set_cons_succ]
            refine wpAnyH_take (i := 15) (oi := { dst := some 24, op := Go.Op.binOp Go.BinOp.eql 43 (Go.Operand.tmp 17) (Go.Operand.tmp 23) 43, type := 4, pos := _, after := _, guard := some (7, true) }) (v := .bool true) rfl (by kernel_rfl) (by kernel_rfl) (by kernel_rfl) (fun _ _ _ h => h) (Or.inl ⟨by kernel_rfl, fun w _ => by go_simp⟩) hW9 ?_
            try simp only [Act.put, List.setIfInBounds_toArray, List.set_cons_zero, List.set_cons_succ]
            refine wpAnyH_take (i := 16) (oi := { dst := some 25, op := Go.Op.pick (Go.Operand.tmp 16) (Go.Operand.tmp 24) (Go.Operand.const (Go.Value.bool false)), type := 4, pos := _, after := _, guard := none }) (v := .bool true) rfl (by kernel_rfl) (by kernel_rfl) (by kernel_rfl) (fun _ _ _ h => h) (Or.inl ⟨by kernel_rfl, fun w _ => by go_simp⟩) hW9 ?_
            try simp only [Act.put, List.setIfInBounds_toArray, List.set_cons_zero, List.set_cons_succ]
            first | (refine wpAnyH_take (i := 17) (oi := { dst := some 0, op := Go.Op.assign (Go.Operand.tmp 25), type := 4, pos := _, after := _, guard := none }) (v := .bool true) rfl (by kernel_rfl) (by kernel_rfl) (by kernel_rfl) (fun _ _ _ h => h) (Or.inl ⟨by kernel_rfl, fun w _ => by go_simp⟩) hW9 ?_) | skip
            try simp only [Act.put, List.setIfInBounds_toArray, List.set_cons_zero, List.set_cons_succ]
            refine wpAnyH_done (by kernel_rfl) ?_ _
            go_simp
            go_wp2
            go_ret
            exact ⟨rfl, hbw3.trans (hW9.mono hbw3.size)⟩
          exact AllReadyH.nil
        exact AllReadyH.nil
      refine AllReadyH.cons (o := { dst := some 22, op := Go.Op.buildSlice 31 1 #[(0, Go.Operand.tmp 21)], type := 31, pos := _, after := _, guard := some (7, true) }) rfl ?_ ?_
      · intro K hK
        rw [if_pos (by kernel_rfl)]
        go_simp
        have hW3 := hW2.alloc hW2.size (.cells #[.slice (some ⟨gB, 0, none⟩) 7 7] 22)
        refine hK.out _ _ hW3 (fun _ => ?_)
        clear hK K
        try simp only [Act.put, List.setIfInBounds_toArray, List.set_cons_zero, List.set_cons_succ]
        have RC := RowV.new W2 #[.slice (some ⟨gB, 0, none⟩) 7 7] 22
        replace RB := RB.alloc (.cells #[.slice (some ⟨gB, 0, none⟩) 7 7] 22)
        have hg13 : w3.heap.size ≤ W2.heap.size := hW2.size
        generalize W2.alloc _ = W3 at hW3 RB RC ⊢
        generalize W2.heap.size = gC at RC hg13 ⊢
        refine wpAnyH_ready (rs := [9]) (by kernel_rfl) (by simp) ?_
        refine AllReadyH.cons (o := { dst := some 18, op := Go.Op.buildSlice 22 3 #[(0, Go.Operand.const (Go.Value.int Go.IntKind.u8 107)), (1, Go.Operand.const (Go.Value.int Go.IntKind.u8 101)), (2, Go.Operand.const (Go.Value.int Go.IntKind.u8 121))], type := 22, pos := _, after := _, guard := some (7, true) }) rfl ?_ ?_
        · intro K hK
          rw [if_pos (by kernel_rfl)]
          go_simp
          have hW4 := hW3.alloc hW3.size (.cells #[.int .u8 107, .int .u8 101, .int .u8 121] 5)
          refine hK.out _ _ hW4 (fun _ => ?_)
          clear hK K
          try simp only [Act.put, List.setIfInBounds_toArray, List.set_cons_zero, List.set_cons_succ]
          have RA := RowV.new W3 #[.int .u8 107, .int .u8 101, .int .u8 121] 5
          replace RB := RB.alloc (.cells #[.int .u8 107, .int .u8 101, .int .u8 121] 5)
          replace RC := RC.alloc (.cells #[.int .u8 107, .int .u8 101, .int .u8 121] 5)
          have hg9 : w3.heap.size ≤ W3.heap.size := hW3.size
          generalize W3.alloc _ = W4 at hW4 RB RC RA ⊢
          generalize W3.heap.size = gA at RA hg9 ⊢
          refine wpAnyH_ready (rs := [10]) (by kernel_rfl) (by simp) ?_
          refine AllReadyH.cons (o := { dst := some 19, op := Go.Op.convert 22 22 (Go.Operand.tmp 18), type := 22, pos := _, after := _, guard := some (7, true) }) rfl ?_ ?_
          · intro K hK
            rw [if_pos (by kernel_rfl)]
            have hcv := RA.conv 3 3
            go_simp
            have hW5 := below_frz hW4 (p := ⟨gA, 3, none⟩) hg9 1
            refine hK.out _ _ hW5 (fun _ => ?_)
            clear hK K hcv
            try simp only [Act.put, List.setIfInBounds_toArray, List.set_cons_zero, List.set_cons_succ]
            replace RA := RA.freeze ⟨gA, 3, none⟩ 1
            replace RB := RB.freeze ⟨gA, 3, none⟩ 1
            replace RC := RC.freeze ⟨gA, 3, none⟩ 1
            generalize W4.freeze _ _ = W5 at hW5 RA RB RC ⊢
            refine wpAnyH_ready (rs := [14]) (by kernel_rfl) (by simp) (AllReadyH.cons (o := { dst := some 23, op := Go.Op.call { callee := Go.Callee.value (Go.Operand.func 14), args := #[Go.Operand.tmp 19, Go.Operand.tmp 22], argTypes := #[22, 31] }, type := 24, pos := _, after := _, guard := some (7, true) }) rfl ?_ AllReadyH.nil)
            intro K hK
            rw [if_pos (by kernel_rfl)]
            go_simp
            have hbwW : Below w.heap.size w W5 := hbw3.trans (hW5.mono hbw3.size)
            refine (hmac_any _ _ keyB _ [msgB] _ (RA.bsl (bs := keyB) 3 rfl) (by decide) (RC.psl (RB.bsl (bs := msgB) 7 rfl)) (by simp) (by decide) (HK.out.below hbwW h3) (HS.out.below hbwW h3) (mid_lt h3 hbwW)).mono ?_
            rintro e W9 ⟨rfl, hb9⟩
            rw [show [msgB].flatten = msgB by simp, ← HY.out]
            have hW9 : Below w3.heap.size w3 W9 := hW5.trans (hb9.mono hW5.size)
            refine hK.out _ _ hW9 (fun _ => ?_)
            clear hK K
            try simp only [Act.put, List.setIfInBounds_toArray, List.set_cons_zero, List.set_cons_succ]
            refine wpAnyH_take (i := 15) (oi := { dst := some 24, op := Go.Op.binOp Go.BinOp.eql 43 (Go.Operand.tmp 17) (Go.Operand.tmp 23) 43, type := 4, pos := _, after := _, guard := some (7, true) }) (v := .bool true) rfl (by kernel_rfl) (by kernel_rfl) (by kernel_rfl) (fun _ _ _ h => h) (Or.inl ⟨by kernel_rfl, fun w _ => by go_simp⟩) hW9 ?_
            try simp only [Act.put, List.setIfInBounds_toArray, List.set_cons_zero, List.set_cons_succ]
            refine wpAnyH_take (i := 16) (oi := { dst := some 25, op := Go.Op.pick (Go.Operand.tmp 16) (Go.Operand.tmp 24) (Go.Operand.const (Go.Value.bool false)), type := 4, pos := _, after := _, guard := none }) (v := .bool true) rfl (by kernel_rfl) (by kernel_rfl) (by kernel_rfl) (fun _ _ _ h => h) (Or.inl ⟨by kernel_rfl, fun w _ => by go_simp⟩) hW9 ?_
            try simp only [Act.put, List.setIfInBounds_toArray, List.set_cons_zero, List.set_cons_succ]
            first | (refine wpAnyH_take (i := 17) (oi := { dst := some 0, op := Go.Op.assign (Go.Operand.tmp 25), type := 4, pos := _, after := _, guard := none }) (v := .bool true) rfl (by kernel_rfl) (by kernel_rfl) (by kernel_rfl) (fun _ _ _ h => h) (Or.inl ⟨by kernel_rfl, fun w _ => by go_simp⟩) hW9 ?_) | skip
            try simp only [Act.put, List.setIfInBounds_toArray, List.set_cons_zero, List.set_cons_succ]
            refine wpAnyH_done (by kernel_rfl) ?_ _
            go_simp
            go_wp2
            go_ret
            exact ⟨rfl, hbw3.trans (hW9.mono hbw3.size)⟩
          exact AllReadyH.nil
        exact AllReadyH.nil
      exact AllReadyH.nil
    exact AllReadyH.nil
  exact AllReadyH.nil
end Go.Proofs.YtjkicmlelilcaaaDoor
