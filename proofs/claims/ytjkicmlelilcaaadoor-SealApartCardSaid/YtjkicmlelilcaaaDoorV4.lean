/- The walk over the law SealWays. -/
import Derived.Test.YtjkicmlelilcaaaDoorV3
import Derived.Test.YtjkicmlelilcaaaDoorT1
import Derived.Laws.EntriesVeiled
namespace Go.Proofs.YtjkicmlelilcaaaDoor
open Go.RowKit
theorem run_sliceTo {P : Program} {o : Oper} {t e : TypeId} {x y : Operand} {k : IntKind} {a : Act} {W : World} {ad : Option Addr} {n m c sz : Nat} (hop : o.op = .slice t x none (some y) none) (hx : a.eval x = .slice ad m c) (hy : a.eval y = .int k ((n : Nat) : Int)) (hu : P.underlying t = some (.slice e))
    (hz : (P.info? e).map (·.size) = some sz) (hn : n ≤ c) : (execOp a.eval o).run P W = .ok (.value (.slice ad n c)) W := by
  obtain ⟨i, hi, hs⟩ := Option.map_eq_some_iff.1 hz
  have e1 : ((n : Int) ≤ (c : Int)) := by omega
  have e2 : (if c = 0 then ad else ad.map (·.add 0)) = ad := by
    split
    · rfl
    · cases ad <;> simp [Addr.add]
  simp [execOp, hop, hx, hy, Instr.sliceAt, run_underlying hu, Instr.slice, Instr.sliceBounds, Instr.sliceBound, asIntOf, sizeOf, typeInfo, hi, e2]
  intro h; omega
/-- A load of a row. -/
theorem run_loadN {P : Program} {o : Oper} {ty t : TypeId} {x : Operand} {a : Act} {W : World} {g : Nat} {cs : Array Value} {fr : Nat × Nat} {d : TypeDesc} (hop : o.op = .load ty x) (hx : a.eval x = .pointer (some ⟨g, 0, none⟩)) (hu : P.underlying ty = some d)
    (hd : (match d with | .struct _ | .array _ _ => true | _ => false) = true) (hi : (P.info? ty).map (·.size) = some cs.size) (hg : W.heap[g]? = some (.cells cs t fr)) : (execOp a.eval o).run P W = .ok (.value (.agg cs)) W := by
  simp [execOp, hop, hx, Instr.loadAt, Instr.sureAddr, run_loadVar_row W g t ty cs fr d hg hu hd hi]
theorem eqg43 (x y : Operand) (X Y : Array Value) (op : BinOp) (W : World) : (eqGuard op 43 x y (.agg X) (.agg Y)).run Tryd.prog W = .ok () W := by
  have : Tryd.prog.eqGuardType Tryd.prog.depth 43 = false := by kernel_rfl
  unfold eqGuard
  cases op <;> simp [this]
theorem run_neq43 {o : Oper} {x y : Operand} {a : Act} {W : World} {X Y : List UInt8} (hop : o.op = .binOp .neq 43 x y 43) (hx : a.eval x = .agg (c8 X)) (hy : a.eval y = .agg (c8 Y)) (hX : X.length = 32) (hY : Y.length = 32) :
    (execOp a.eval o).run Tryd.prog W = .ok (.value (.bool (!(X == Y)))) W := by
  have e := eq43 X Y hX hY W
  have e2 : (Op.equal 43 (.agg (c8 X)) (.agg (c8 Y))).run Tryd.prog W = .ok (X == Y) W := e
  simp [execOp, hop, hx, hy, eqg43, binOp, e2]
theorem run_eql43 {o : Oper} {x y : Operand} {a : Act} {W : World} {X Y : List UInt8} (hop : o.op = .binOp .eql 43 x y 43) (hx : a.eval x = .agg (c8 X)) (hy : a.eval y = .agg (c8 Y)) (hX : X.length = 32) (hY : Y.length = 32) :
    (execOp a.eval o).run Tryd.prog W = .ok (.value (.bool (X == Y))) W := by
  have e := eq43 X Y hX hY W
  have e2 : (Op.equal 43 (.agg (c8 X)) (.agg (c8 Y))).run Tryd.prog W = .ok (X == Y) W := e
  simp [execOp, hop, hx, hy, eqg43, binOp, e2]
/-- What stands in memory while the law runs. -/
structure WaysAt (x0 f0 r1 r2 : Nat) (kv : Value) (key : List UInt8) (wy : Int) (s p c d : Nat) (W : World) : Prop where
  x : W.heap[x0]? = some (.cells #[.int .i64 wy, .int .u32 s, .int .u32 p, .int .u64 c, .int .u64 d] 68 (0, 0))
  f : W.heap[f0]? = some (.cells #[.func (.func 44) #[] #[]] 85 (0, 0))
  ring1 : RingAt r1 key W
  ring2 : RingAt r2 key W
  k : BSl W kv key
  gk : GlobK W
  gs : GlobS W
  h3 : 3 < W.heap.size
theorem WaysAt.ext {x0 f0 r1 r2 : Nat} {kv : Value} {key : List UInt8} {wy : Int} {s p c d : Nat} {W W' : World} (h : WaysAt x0 f0 r1 r2 kv key wy s p c d W) (hb : Below W.heap.size W W') : WaysAt x0 f0 r1 r2 kv key wy s p c d W' :=
  ⟨(hb.block _ (Array.getElem?_eq_some_iff.1 h.x).1).trans h.x, (hb.block _ (Array.getElem?_eq_some_iff.1 h.f).1).trans h.f, h.ring1.below hb (Nat.le_refl _), h.ring2.below hb (Nat.le_refl _), h.k.below hb (Nat.le_refl _), h.gk.below hb h.h3, h.gs.below hb h.h3, mid_lt h.h3 hb⟩
theorem WaysAt.f_lt {x0 f0 r1 r2 : Nat} {kv : Value} {key : List UInt8} {wy : Int} {s p c d : Nat} {W : World} (h : WaysAt x0 f0 r1 r2 kv key wy s p c d W) : f0 < W.heap.size := (Array.getElem?_eq_some_iff.1 h.f).1
theorem way_wrap (k : Nat) (h : k ≤ 1) : IntKind.u8.wrap ((k : Nat) : Int) = (k : Int) := by rw [wrap_u8]; omega
attribute [local irreducible] OpV be2 be4 be8 layTo layB chg shaB hmB

def WyL (w9 : World) (i : Value) (wr : World) : Prop := ∃ k : Nat, k ≤ 2 ∧ i = .int .i64 k ∧ Below w9.heap.size w9 wr
set_option maxRecDepth 100000 in
set_option maxHeartbeats 2000000 in
theorem ways_any (kv : Value) (k0 : List UInt8) (wy : Int) (s p c d : Nat) (w : World) (hk : BSl w kv k0) (hs : s < 4294967296) (hp : p < 4294967296) (hc : c < 18446744073709551616) (hd : d < 18446744073709551616)
    (hK : GlobK w) (hS : GlobS w) (h3 : 3 < w.heap.size) :
    Calls Tryd.prog 11 #[kv, .agg #[.int .i64 wy, .int .u32 s, .int .u32 p, .int .u64 c, .int .u64 d]] w fun e w' => e = .returned (.bool true) ∧ Below w.heap.size w w' := by
  have HK : Hid (GlobK w) := hK
  have HS : Hid (GlobS w) := hS
  clear hK hS
  obtain ⟨ka0, kc0, rfl⟩ := hk.len
  have hcap := (BSl.cap hk).2
  have HT := Lib.hid (BSl.cut (hk.below (alloc_below (o := .cells #[.int .i64 wy, .int .u32 s, .int .u32 p, .int .u64 c, .int .u64 d] 68) w) (Nat.le_refl _)) rfl 63)
  obtain ⟨kt, hkt⟩ : ∃ kt, kt = k0.take 63 := ⟨_, rfl⟩
  have hktl : min k0.length 63 = kt.length := by rw [hkt, List.length_take]; omega
  have HKTL := Lib.hid hktl
  rw [← hkt] at HT
  have hmin : min (k0.length : Int) 63 = ((min k0.length 63 : Nat) : Int) := by omega
  go_enter Tryd.func11, Tryd.ntmps11
  have HMIN : Hid ((if (63 : Int) < ((k0.length : Nat) : Int) then 63 else ((k0.length : Nat) : Int)) = ((kt.length : Nat) : Int)) := by
    show _ = _
    rw [← hktl]; split <;> omega
  have hcap2 : kt.length ≤ kc0 := by omega
  have hkt63 : kt.length ≤ 63 := by omega
  obtain ⟨key, hkey⟩ : ∃ key, key = kt ++ [107] := ⟨_, rfl⟩
  have hk0 : 0 < key.length := by rw [hkey]; simp
  have hk1 : key.length ≤ 64 := by rw [hkey]; simp; omega
  have HKY := Lib.hid hkey.symm
  rw [hktl] at HT
  clear hkt hktl hmin hkey
  go_upto_region 1 with (fail)
  obtain ⟨w1, hw1⟩ : ∃ w1, w1 = w.alloc (.cells #[.int .i64 wy, .int .u32 s, .int .u32 p, .int .u64 c, .int .u64 d] 68) := ⟨_, rfl⟩
  have HX1 : Hid (w1.heap[w.heap.size]? = some (.cells #[.int .i64 wy, .int .u32 s, .int .u32 p, .int .u64 c, .int .u64 d] 68 (0, 0))) := by show _ = _; rw [hw1]; exact row_new _ _ _
  have hb1 : Below w.heap.size w w1 := by rw [hw1]; exact alloc_below w
  have hz1 : w.heap.size < w1.heap.size := by rw [hw1]; simp
  rw [← hw1] at HT ⊢
  clear hw1
  refine region_txt [some 19, some 20, some 21, some 22, some 23, some 24, some 25, some 26, some 0] (by kernel_rfl) [7] [[], [], [1], [2], [0, 3], [4], [], [5, 6], [0, 1, 7]] [[], [], [], [], [], [7], [7], [], []] [] [Is (.slice ka0 k0.length kc0), Is (.slice ka0 k0.length kc0), Is (.int .i64 ((k0.length : Nat) : Int)), Is (.int .i64 ((kt.length : Nat) : Int)), Is (.slice ka0 kt.length kc0), (false, fun v W => W.ownsRow w1.heap.size 5 1 v (kt).length (c8l (kt))), (false, fun v W => BSl W v [107]), (false, fun v W => W.ownsRow w1.heap.size 5 1 v (key).length (c8l (key))), (false, fun v W => W.ownsRow w1.heap.size 5 1 v (key).length (c8l (key)))] (by kernel_rfl) (by kernel_rfl) (by rfl) ⟨Is.keeps _, Is.keeps _, Is.keeps _, Is.keeps _, Is.keeps _, (fun _ _ _ he h => owns_below h he (Nat.le_refl _)), (fun _ _ _ he h => BSl.below h he (Nat.le_refl _)), (fun _ _ _ he h => owns_below h he (Nat.le_refl _)), (fun _ _ _ he h => owns_below h he (Nat.le_refl _)), trivial⟩ ⟨?_, ?_, ?_, ?_, ?_, ?_, ?_, ?_, ?_, trivial⟩ ?_
  · intro W hW
    refine forV_nil ?_
    exact opv_run (.slice ka0 k0.length kc0) (by kernel_rfl) (by kernel_rfl) (does_pure rfl)
  · intro W hW
    refine forV_nil ?_
    exact opv_run (.slice ka0 k0.length kc0) (by kernel_rfl) (by kernel_rfl) (does_pure rfl)
  · intro W hW v1 h1
    obtain rfl : v1 = .slice ka0 k0.length kc0 := h1 rfl
    refine forV_nil ?_
    exact opv_run (.int .i64 ((k0.length : Nat) : Int)) (by kernel_rfl) (by kernel_rfl) (does_pure rfl)
  · intro W hW v2 h2
    obtain rfl : v2 = .int .i64 ((k0.length : Nat) : Int) := h2 rfl
    refine forV_nil ?_
    refine opv_run (.int .i64 (if (63 : Int) < ((k0.length : Nat) : Int) then 63 else ((k0.length : Nat) : Int))) (by kernel_rfl) (by kernel_rfl) (does_pure ?_)
    rw [HMIN.out]; rfl
  · intro W hW v0 h0 v3 h3
    obtain rfl : v0 = .slice ka0 k0.length kc0 := h0 rfl
    obtain rfl : v3 = .int .i64 ((kt.length : Nat) : Int) := h3 rfl
    refine forV_nil ?_
    exact opv_run _ (by kernel_rfl) (run_sliceTo (k := .i64) (m := k0.length) rfl (by kernel_rfl) (by kernel_rfl) Tryd.underlying22 info5s hcap2) (does_pure rfl)
  · intro W hW v4 h4
    obtain rfl : v4 = .slice ka0 kt.length kc0 := h4 rfl
    refine forV_nil ?_
    refine opv_call 28 #[.slice ka0 kt.length kc0] (by kernel_rfl) (by kernel_rfl) ((clone28_any _ kt W (HT.out.below hW (Nat.le_refl _)) (by omega)).mono ?_)
    rintro e w2 ⟨u, rfl, hm, hb⟩
    exact ⟨u, rfl, does_ext hW hb, owns_up hm hW.size⟩
  · intro W hW
    refine forV_nil ?_
    refine opv_run (.slice (some ⟨W.heap.size, 0, none⟩) 1 1) (W' := W.alloc (.cells (c8 [107]) 5)) (by kernel_rfl) (by kernel_rfl) ⟨does_ext hW (alloc_below W), BSl.lit (bs := [107]) (fr := (0, 0)) rfl (Nat.le_refl _)⟩
  · intro W hW v5 h5 v6 h6
    replace h5 : ((false, fun v W => W.ownsRow w1.heap.size 5 1 v (kt).length (c8l (kt)))).2 v5 W := h5 rfl
    replace h6 : ((false, fun v W => BSl W v [107])).2 v6 W := h6 rfl
    refine forV_nil ?_
    unfold OpV
    refine wpList_append_bsl rfl (.tmp 24) (.tmp 25) rfl w1.heap.size _ kt (by kernel_rfl) h5 _ [107] (by kernel_rfl) h6 (by simp; omega) hW.size ?_
    intro v' w' hown' hb'
    exact ⟨v', rfl, does_wr rfl hb', by rw [HKY.out] at hown'; exact hown'⟩
  · intro W hW v0 h0 v1 h1 v7 h7
    obtain rfl : v0 = .slice ka0 k0.length kc0 := h0 rfl
    obtain rfl : v1 = .slice ka0 k0.length kc0 := h1 rfl
    replace h7 : ((false, fun v W => W.ownsRow w1.heap.size 5 1 v (key).length (c8l (key)))).2 v7 W := h7 rfl
    refine forV_nil ?_
    exact opv_run v7 (by kernel_rfl) (by kernel_rfl) (does_pure h7)
  intro W hW v0 h0 v1 h1 v2 h2 v3 h3 v4 h4 v5 h5 v6 h6 v7 h7 v8 h8
  replace h0 : v0 = .slice ka0 k0.length kc0 := h0 rfl; subst h0
  replace h1 : v1 = .slice ka0 k0.length kc0 := h1 rfl; subst h1
  replace h2 : v2 = .int .i64 ((k0.length : Nat) : Int) := h2 rfl; subst h2
  replace h3 : v3 = .int .i64 ((kt.length : Nat) : Int) := h3 rfl; subst h3
  replace h4 : v4 = .slice ka0 kt.length kc0 := h4 rfl; subst h4
  clear h5
  clear h6
  replace h7 : ((false, fun v W => W.ownsRow w1.heap.size 5 1 v (key).length (c8l (key)))).2 v7 W := h7 rfl
  replace h8 : ((false, fun v W => W.ownsRow w1.heap.size 5 1 v (key).length (c8l (key)))).2 v8 W := h8 rfl
  refine forE_end ?_
  simp only [Act.put, List.getD_cons_zero, List.getD_cons_succ, List.setIfInBounds_toArray, List.set_cons_zero, List.set_cons_succ, Nat.zero_add, Nat.reduceAdd]
  obtain ⟨w2, rfl⟩ : ∃ w2 : World, w2 = W := ⟨_, rfl⟩
  have hbw2 : Below w.heap.size w w2 := hb1.trans (hW.mono hb1.size)
  have hB8 : BSl w2 v8 key := BSl.of_owns h8
  obtain ⟨ka, kc, rfl⟩ := owns_form h8
  clear h7 h8 HT hk hcap hcap2
  go_wp2_with fail
  refine (ringnew_any _ key w2 hB8 hk0 hk1).mono ?_
  rintro e w3 ⟨r1, rfl, hR1, _, hb3⟩
  have hbw3 : Below w.heap.size w w3 := hbw2.trans (hb3.mono hbw2.size)
  go_wp2_with fail
  refine (ringnew_any _ key w3 (hB8.below hb3 (Nat.le_refl _)) hk0 hk1).mono ?_
  rintro e w4 ⟨r2, rfl, hR2, _, hb4⟩
  have hbw4 : Below w.heap.size w w4 := hbw3.trans (hb4.mono hbw3.size)
  have hb24 : Below w2.heap.size w2 w4 := hb3.trans (hb4.mono hb3.size)
  have hb14 : Below w1.heap.size w1 w4 := hW.trans (hb24.mono hW.size)
  go_wp2
  obtain ⟨w9, hw9⟩ : ∃ w9, w9 = w4.alloc (.cells #[.func (.func 44) #[] #[]] 85) := ⟨_, rfl⟩
  have HA : Hid (WaysAt w.heap.size w4.heap.size r1 r2 (.slice ka key.length kc) key wy s p c d w9) := by
    have hb49 : Below w4.heap.size w4 w9 := by rw [hw9]; exact alloc_below w4
    have hbw9 : Below w.heap.size w w9 := hbw4.trans (hb49.mono hbw4.size)
    exact ⟨((hb14.trans (hb49.mono hb14.size)).block _ hz1).trans HX1.out, by rw [hw9]; exact row_new _ _ _, hR1.below (hb4.trans (hb49.mono hb4.size)) (Nat.le_refl _), hR2.below hb49 (Nat.le_refl _),
      hB8.below (hb24.trans (hb49.mono hb24.size)) (Nat.le_refl _), HK.out.below hbw9 h3, HS.out.below hbw9 h3, mid_lt h3 hbw9⟩
  have hbw9 : Below w.heap.size w w9 := by rw [hw9]; exact hbw4.alloc hbw4.size _
  rw [← hw9]
  obtain ⟨f0, hf0⟩ : ∃ f0, f0 = w4.heap.size := ⟨_, rfl⟩
  obtain ⟨x0, hx0⟩ : ∃ x0, x0 = w.heap.size := ⟨_, rfl⟩
  rw [← hf0, ← hx0] at HA
  rw [← hf0, ← hx0]
  have HX0 := Lib.hid hx0
  clear hw9 hf0 hx0
  go_loopw [44] (WyL w9) (fun i _ => 2 - (intOf i).toNat)
  case atStart => exact ⟨0, by omega, rfl, Below.refl _ _⟩
  case round =>
    obtain ⟨k, hk3, rfl, hbr⟩ := hrel
    have HA0 := HA
    replace HA := Lib.hid (HA.out.ext hbr)
    by_cases hlt : k < 2
    · have d1 : decide ((k : Int) < 2) = true := decide_eq_true (by omega)
      have hk2 : k ≤ 1 := by omega
      obtain ⟨Y, hY⟩ : ∃ Y, Y = hmB key (layB wayB (wayP k s p c d)) := ⟨_, rfl⟩
      have HYL : Hid (Y.length = 32) := by rw [hY]; exact hmB_length _ _
      have HY := Lib.hid hY
      clear hY
      go_upto_region 11 with (fail)
      refine region_ext (by kernel_rfl) [some 48, some 49, some 50, some 51, some 52, some 53, some 54, some 55, some 56, some 57, some 58, some 59, some 60, some 61, some 62, some 63, some 64, some 65, some 66, some 67, some 68, some 69, some 47, some 70, some 71, some 12, none, some 13] (by kernel_rfl) [26] [[], [], [1], [2], [], [], [5], [4, 6], [], [], [9], [8, 10], [], [], [13], [12, 14], [], [], [17], [16, 18], [3, 7, 11, 15, 19], [0, 20], [21], [22], [22], [], [20, 21, 23, 25], [24]] [[], [], [], [26], [], [], [], [26], [], [], [], [26], [], [], [], [26], [], [], [], [26], [26], [], [], [], [], [26], [], []] [(26, 25)] [Is (.slice ka key.length kc), Is (.int .i64 ((k : Nat) : Int)), Is (.int .u8 (IntKind.u8.wrap ((k : Nat) : Int))), (false, fun v W => BSl W v [UInt8.ofNat k]), Is (.func (.func 44) #[] #[]), Is (.pointer (some ⟨x0, 1, none⟩)), Is (.int .u32 s), (false, fun v W => W.ownsRow wr.heap.size 5 1 v (be4 s).length (c8l (be4 s))), Is (.func (.func 44) #[] #[]), Is (.pointer (some ⟨x0, 2, none⟩)), Is (.int .u32 p), (false, fun v W => W.ownsRow wr.heap.size 5 1 v (be4 p).length (c8l (be4 p))), Is (.func (.func 47) #[] #[.pointer (some ⟨f0, 0, none⟩)]), Is (.pointer (some ⟨x0, 3, none⟩)), Is (.int .u64 c), (false, fun v W => W.ownsRow wr.heap.size 5 1 v (be8 c).length (c8l (be8 c))), Is (.func (.func 47) #[] #[.pointer (some ⟨f0, 0, none⟩)]), Is (.pointer (some ⟨x0, 4, none⟩)), Is (.int .u64 d), (false, fun v W => W.ownsRow wr.heap.size 5 1 v (be8 d).length (c8l (be8 d))), (false, fun v W => ∃ vs, PSl W v vs (wayP k s p c d)), Is (.tuple #[.agg (c8 Y), .int .i64 0]), Is (.tuple #[.agg (c8 Y), .int .i64 0]), Is (.agg (c8 Y)), Is (.int .i64 0), (false, fun v W => ∃ g, v = .pointer (some ⟨g, 0, none⟩) ∧ wr.heap.size ≤ g ∧ W.heap[g]? = some (.cells (c8 zer32) 43 (0, 0))), (false, fun v W => ∃ g, v = .pointer (some ⟨g, 0, none⟩) ∧ wr.heap.size ≤ g ∧ W.heap[g]? = some (.cells (c8 Y) 43 (0, 0))), Is (.int .i64 0)] (by kernel_rfl) (by kernel_rfl) (by rfl) ⟨Is.keeps _, Is.keeps _, Is.keeps _, (fun _ _ _ he h => BSl.below h he (Nat.le_refl _)), Is.keeps _, Is.keeps _, Is.keeps _, (fun _ _ _ he h => owns_below h he (Nat.le_refl _)), Is.keeps _, Is.keeps _, Is.keeps _, (fun _ _ _ he h => owns_below h he (Nat.le_refl _)), Is.keeps _, Is.keeps _, Is.keeps _, (fun _ _ _ he h => owns_below h he (Nat.le_refl _)), Is.keeps _, Is.keeps _, Is.keeps _, (fun _ _ _ he h => owns_below h he (Nat.le_refl _)), (fun _ _ _ he h => by obtain ⟨vs, h⟩ := h; exact ⟨vs, h.below he (Nat.le_refl _)⟩), Is.keeps _, Is.keeps _, Is.keeps _, Is.keeps _, (fun _ _ _ he h => by obtain ⟨g, e, hl, hg⟩ := h; exact ⟨g, e, hl, (he.block g (Array.getElem?_eq_some_iff.1 hg).1).trans hg⟩), (fun _ _ _ he h => by obtain ⟨g, e, hl, hg⟩ := h; exact ⟨g, e, hl, (he.block g (Array.getElem?_eq_some_iff.1 hg).1).trans hg⟩), Is.keeps _, trivial⟩ ⟨?_, ?_, ?_, ?_, ?_, ?_, ?_, ?_, ?_, ?_, ?_, ?_, ?_, ?_, ?_, ?_, ?_, ?_, ?_, ?_, ?_, ?_, ?_, ?_, ?_, ?_, ?_, ?_, trivial⟩ ?_
      · intro W hW
        refine forV_nil ?_
        exact opv_run (.slice ka key.length kc) (by kernel_rfl) (by kernel_rfl) (does_pure rfl)
      · intro W hW
        refine forV_nil ?_
        exact opv_run (.int .i64 ((k : Nat) : Int)) (by kernel_rfl) (by kernel_rfl) (does_pure rfl)
      · intro W hW v1 h1
        obtain rfl : v1 = .int .i64 ((k : Nat) : Int) := h1 rfl
        refine forV_nil ?_
        exact opv_run (.int .u8 (IntKind.u8.wrap ((k : Nat) : Int))) (by kernel_rfl) (by kernel_rfl) (does_pure rfl)
      · intro W hW v2 h2
        obtain rfl : v2 = .int .u8 (IntKind.u8.wrap ((k : Nat) : Int)) := h2 rfl
        refine forV_nil ?_
        refine opv_run (.slice (some ⟨W.heap.size, 0, none⟩) 1 1) (W' := W.alloc (.cells #[.int .u8 (IntKind.u8.wrap ((k : Nat) : Int))] 5)) (by kernel_rfl) (by kernel_rfl) ⟨does_ext hW (alloc_below W), ?_⟩
        exact BSl.of_row (bs := [UInt8.ofNat k]) (T := 5) (by rw [row_new]; unfold c8 c8l; simp only [List.map_cons, List.map_nil]; rw [way_byte k hk2, way_wrap k hk2]) (Nat.le_refl _) 1 rfl
      · intro W hW
        refine forV_nil ?_
        have hA := HA.out.ext hW
        exact opv_run _ (by kernel_rfl) (run_load1 rfl (by kernel_rfl) Tryd.underlying85 rfl (cell_of_row W f0 0 _ 85 (0, 0) hA.f)) (does_pure rfl)
      · intro W hW
        refine forV_nil ?_
        exact opv_run (.pointer (some ⟨x0, 1, none⟩)) (by kernel_rfl) (by kernel_rfl) (does_pure rfl)
      · intro W hW v5 h5
        obtain rfl : v5 = .pointer (some ⟨x0, 1, none⟩) := h5 rfl
        refine forV_nil ?_
        have hA := HA.out.ext hW
        exact opv_run _ (by kernel_rfl) (run_load1 rfl (by kernel_rfl) Tryd.underlying62 rfl (cell_of_row W x0 1 _ 68 (0, 0) hA.x)) (does_pure rfl)
      · intro W hW v4 h4 v6 h6
        obtain rfl : v4 = .func (.func 44) #[] #[] := h4 rfl
        obtain rfl : v6 = .int .u32 s := h6 rfl
        refine forV_nil ?_
        have hA := HA.out.ext hW
        refine opv_call 44 #[.int .u32 ((s : Nat) : Int)] (by kernel_rfl) (by kernel_rfl) ((four_c s W hs).mono ?_)
        rintro e w1 ⟨u, rfl, hm, hb⟩
        exact ⟨u, rfl, does_ext hW hb, owns_up hm hW.size⟩
      · intro W hW
        refine forV_nil ?_
        have hA := HA.out.ext hW
        exact opv_run _ (by kernel_rfl) (run_load1 rfl (by kernel_rfl) Tryd.underlying85 rfl (cell_of_row W f0 0 _ 85 (0, 0) hA.f)) (does_pure rfl)
      · intro W hW
        refine forV_nil ?_
        exact opv_run (.pointer (some ⟨x0, 2, none⟩)) (by kernel_rfl) (by kernel_rfl) (does_pure rfl)
      · intro W hW v9 h9
        obtain rfl : v9 = .pointer (some ⟨x0, 2, none⟩) := h9 rfl
        refine forV_nil ?_
        have hA := HA.out.ext hW
        exact opv_run _ (by kernel_rfl) (run_load1 rfl (by kernel_rfl) Tryd.underlying62 rfl (cell_of_row W x0 2 _ 68 (0, 0) hA.x)) (does_pure rfl)
      · intro W hW v8 h8 v10 h10
        obtain rfl : v8 = .func (.func 44) #[] #[] := h8 rfl
        obtain rfl : v10 = .int .u32 p := h10 rfl
        refine forV_nil ?_
        have hA := HA.out.ext hW
        refine opv_call 44 #[.int .u32 ((p : Nat) : Int)] (by kernel_rfl) (by kernel_rfl) ((four_c p W hp).mono ?_)
        rintro e w1 ⟨u, rfl, hm, hb⟩
        exact ⟨u, rfl, does_ext hW hb, owns_up hm hW.size⟩
      · intro W hW
        refine forV_nil ?_
        exact opv_run (.func (.func 47) #[] #[.pointer (some ⟨f0, 0, none⟩)]) (by kernel_rfl) (by kernel_rfl) (does_pure rfl)
      · intro W hW
        refine forV_nil ?_
        exact opv_run (.pointer (some ⟨x0, 3, none⟩)) (by kernel_rfl) (by kernel_rfl) (does_pure rfl)
      · intro W hW v13 h13
        obtain rfl : v13 = .pointer (some ⟨x0, 3, none⟩) := h13 rfl
        refine forV_nil ?_
        have hA := HA.out.ext hW
        exact opv_run _ (by kernel_rfl) (run_load1 rfl (by kernel_rfl) Tryd.underlying49 rfl (cell_of_row W x0 3 _ 68 (0, 0) hA.x)) (does_pure rfl)
      · intro W hW v12 h12 v14 h14
        obtain rfl : v12 = .func (.func 47) #[] #[.pointer (some ⟨f0, 0, none⟩)] := h12 rfl
        obtain rfl : v14 = .int .u64 c := h14 rfl
        refine forV_nil ?_
        have hA := HA.out.ext hW
        refine opv_call 47 #[.int .u64 ((c : Nat) : Int), .pointer (some ⟨f0, 0, none⟩)] (by kernel_rfl) (by kernel_rfl) ((eight_c c f0 0 W hc (hA.f_lt) (cell_of_row W f0 0 _ 85 (0, 0) hA.f)).mono ?_)
        rintro e w1 ⟨u, rfl, hm, hb⟩
        exact ⟨u, rfl, does_ext hW hb, owns_up hm hW.size⟩
      · intro W hW
        refine forV_nil ?_
        exact opv_run (.func (.func 47) #[] #[.pointer (some ⟨f0, 0, none⟩)]) (by kernel_rfl) (by kernel_rfl) (does_pure rfl)
      · intro W hW
        refine forV_nil ?_
        exact opv_run (.pointer (some ⟨x0, 4, none⟩)) (by kernel_rfl) (by kernel_rfl) (does_pure rfl)
      · intro W hW v17 h17
        obtain rfl : v17 = .pointer (some ⟨x0, 4, none⟩) := h17 rfl
        refine forV_nil ?_
        have hA := HA.out.ext hW
        exact opv_run _ (by kernel_rfl) (run_load1 rfl (by kernel_rfl) Tryd.underlying49 rfl (cell_of_row W x0 4 _ 68 (0, 0) hA.x)) (does_pure rfl)
      · intro W hW v16 h16 v18 h18
        obtain rfl : v16 = .func (.func 47) #[] #[.pointer (some ⟨f0, 0, none⟩)] := h16 rfl
        obtain rfl : v18 = .int .u64 d := h18 rfl
        refine forV_nil ?_
        have hA := HA.out.ext hW
        refine opv_call 47 #[.int .u64 ((d : Nat) : Int), .pointer (some ⟨f0, 0, none⟩)] (by kernel_rfl) (by kernel_rfl) ((eight_c d f0 0 W hd (hA.f_lt) (cell_of_row W f0 0 _ 85 (0, 0) hA.f)).mono ?_)
        rintro e w1 ⟨u, rfl, hm, hb⟩
        exact ⟨u, rfl, does_ext hW hb, owns_up hm hW.size⟩
      · intro W hW v3 h3 v7 h7 v11 h11 v15 h15 v19 h19
        replace h3 : ((false, fun v W => BSl W v [UInt8.ofNat k])).2 v3 W := h3 rfl
        replace h7 : ((false, fun v W => W.ownsRow wr.heap.size 5 1 v (be4 s).length (c8l (be4 s)))).2 v7 W := h7 rfl
        replace h11 : ((false, fun v W => W.ownsRow wr.heap.size 5 1 v (be4 p).length (c8l (be4 p)))).2 v11 W := h11 rfl
        replace h15 : ((false, fun v W => W.ownsRow wr.heap.size 5 1 v (be8 c).length (c8l (be8 c)))).2 v15 W := h15 rfl
        replace h19 : ((false, fun v W => W.ownsRow wr.heap.size 5 1 v (be8 d).length (c8l (be8 d)))).2 v19 W := h19 rfl
        refine forV_nil ?_
        obtain ⟨_, _, rfl⟩ := BSl.len h3
        obtain ⟨_, _, rfl⟩ := owns_form h7
        obtain ⟨_, _, rfl⟩ := owns_form h11
        obtain ⟨_, _, rfl⟩ := owns_form h15
        obtain ⟨_, _, rfl⟩ := owns_form h19
        refine opv_run (.slice (some ⟨W.heap.size, 0, none⟩) 5 5) (W' := W.alloc (.cells #[_, _, _, _, _] 22)) (by kernel_rfl) (by kernel_rfl) ⟨does_ext hW (alloc_below W), _, psl_five h3 (BSl.of_owns h7) (BSl.of_owns h11) (BSl.of_owns h15) (BSl.of_owns h19)⟩
      · intro W hW v0 h0 v20 h20
        obtain rfl : v0 = .slice ka key.length kc := h0 rfl
        replace h20 : ((false, fun v W => ∃ vs, PSl W v vs (wayP k s p c d))).2 v20 W := h20 rfl
        refine forV_nil ?_
        have hA := HA.out.ext hW
        obtain ⟨vs, hP⟩ := h20
        refine opv_call 23 #[.slice ka key.length kc, .string ⟨wayB.toArray⟩, v20] (by kernel_rfl) (by kernel_rfl) ((derive_any _ _ key wayB vs _ W hA.k hP hk0 hk1 (by decide) (by simp [wayP]) (by simp [wayP, be4_length, be8_length]) hA.gk hA.gs hA.h3).mono ?_)
        rintro e w1 ⟨rfl, hb⟩
        rw [← HY.out]
        exact ⟨_, rfl, does_ext hW hb, rfl⟩
      · intro W hW v21 h21
        obtain rfl : v21 = .tuple #[.agg (c8 Y), .int .i64 0] := h21 rfl
        refine forV_nil ?_
        exact opv_run (.tuple #[.agg (c8 Y), .int .i64 0]) (by kernel_rfl) (by kernel_rfl) (does_pure rfl)
      · intro W hW v22 h22
        obtain rfl : v22 = .tuple #[.agg (c8 Y), .int .i64 0] := h22 rfl
        refine forV_nil ?_
        exact opv_run (.agg (c8 Y)) (by kernel_rfl) (by kernel_rfl) (does_pure rfl)
      · intro W hW v22 h22
        obtain rfl : v22 = .tuple #[.agg (c8 Y), .int .i64 0] := h22 rfl
        refine forV_nil ?_
        exact opv_run (.int .i64 0) (by kernel_rfl) (by kernel_rfl) (does_pure rfl)
      · intro W hW
        refine forV_nil ?_
        refine opv_run (.pointer (some ⟨W.heap.size, 0, none⟩)) (W' := W.alloc (.cells #[.int .u8 0, .int .u8 0, .int .u8 0, .int .u8 0, .int .u8 0, .int .u8 0, .int .u8 0, .int .u8 0, .int .u8 0, .int .u8 0, .int .u8 0, .int .u8 0, .int .u8 0, .int .u8 0, .int .u8 0, .int .u8 0, .int .u8 0, .int .u8 0, .int .u8 0, .int .u8 0, .int .u8 0, .int .u8 0, .int .u8 0, .int .u8 0, .int .u8 0, .int .u8 0, .int .u8 0, .int .u8 0, .int .u8 0, .int .u8 0, .int .u8 0, .int .u8 0] 43)) (by kernel_rfl) (by kernel_rfl) ⟨does_ext hW (alloc_below W), _, rfl, hW.size, zer43 W⟩
      · intro W hW v20 h20 v21 h21 v23 h23 v25 h25
        replace h20 : ((false, fun v W => ∃ vs, PSl W v vs (wayP k s p c d))).2 v20 W := h20 rfl
        obtain rfl : v21 = .tuple #[.agg (c8 Y), .int .i64 0] := h21 rfl
        obtain rfl : v23 = .agg (c8 Y) := h23 rfl
        replace h25 : ((false, fun v W => ∃ g, v = .pointer (some ⟨g, 0, none⟩) ∧ wr.heap.size ≤ g ∧ W.heap[g]? = some (.cells (c8 zer32) 43 (0, 0)))).2 v25 W := h25 rfl
        refine forV_nil ?_
        obtain ⟨g, rfl, hl, hg⟩ := h25
        unfold OpV
        refine wpList_store_row rfl 43 (.tmp 12) (.tmp 70) rfl g (c8 Y) (by kernel_rfl) (by kernel_rfl) 43 _ hg (HI43' HYL.out) (HQ' HYL.out) (c8_one _) ?_
        exact ⟨_, rfl, does_wr rfl (below_setRow (Below.refl _ _) hl _), g, rfl, hl, setRow_heap _ _ _ _ _ _ hg⟩
      · intro W hW v24 h24
        obtain rfl : v24 = .int .i64 0 := h24 rfl
        refine forV_nil ?_
        exact opv_run (.int .i64 0) (by kernel_rfl) (by kernel_rfl) (does_pure rfl)
      intro W hW v0 h0 v1 h1 v2 h2 v3 h3 v4 h4 v5 h5 v6 h6 v7 h7 v8 h8 v9 h9 v10 h10 v11 h11 v12 h12 v13 h13 v14 h14 v15 h15 v16 h16 v17 h17 v18 h18 v19 h19 v20 h20 v21 h21 v22 h22 v23 h23 v24 h24 v25 h25 v26 h26 v27 h27
      replace h0 : v0 = .slice ka key.length kc := h0 rfl; subst h0
      replace h1 : v1 = .int .i64 ((k : Nat) : Int) := h1 rfl; subst h1
      replace h2 : v2 = .int .u8 (IntKind.u8.wrap ((k : Nat) : Int)) := h2 rfl; subst h2
      clear h3
      replace h4 : v4 = .func (.func 44) #[] #[] := h4 rfl; subst h4
      replace h5 : v5 = .pointer (some ⟨x0, 1, none⟩) := h5 rfl; subst h5
      replace h6 : v6 = .int .u32 s := h6 rfl; subst h6
      clear h7
      replace h8 : v8 = .func (.func 44) #[] #[] := h8 rfl; subst h8
      replace h9 : v9 = .pointer (some ⟨x0, 2, none⟩) := h9 rfl; subst h9
      replace h10 : v10 = .int .u32 p := h10 rfl; subst h10
      clear h11
      replace h12 : v12 = .func (.func 47) #[] #[.pointer (some ⟨f0, 0, none⟩)] := h12 rfl; subst h12
      replace h13 : v13 = .pointer (some ⟨x0, 3, none⟩) := h13 rfl; subst h13
      replace h14 : v14 = .int .u64 c := h14 rfl; subst h14
      clear h15
      replace h16 : v16 = .func (.func 47) #[] #[.pointer (some ⟨f0, 0, none⟩)] := h16 rfl; subst h16
      replace h17 : v17 = .pointer (some ⟨x0, 4, none⟩) := h17 rfl; subst h17
      replace h18 : v18 = .int .u64 d := h18 rfl; subst h18
      clear h19
      clear h20
      replace h21 : v21 = .tuple #[.agg (c8 Y), .int .i64 0] := h21 rfl; subst h21
      replace h22 : v22 = .tuple #[.agg (c8 Y), .int .i64 0] := h22 rfl; subst h22
      replace h23 : v23 = .agg (c8 Y) := h23 rfl; subst h23
      replace h24 : v24 = .int .i64 0 := h24 rfl; subst h24
      clear h25
      replace h26 : ((false, fun v W => ∃ g, v = .pointer (some ⟨g, 0, none⟩) ∧ wr.heap.size ≤ g ∧ W.heap[g]? = some (.cells (c8 Y) 43 (0, 0)))).2 v25 W := h26 rfl
      replace h27 : v27 = .int .i64 0 := h27 rfl; subst h27
      refine forE_end ?_
      simp only [Act.put, List.getD_cons_zero, List.getD_cons_succ, List.setIfInBounds_toArray, List.set_cons_zero, List.set_cons_succ, Nat.zero_add, Nat.reduceAdd]
      obtain ⟨w5, rfl⟩ : ∃ w5 : World, w5 = W := ⟨_, rfl⟩
      obtain ⟨g, rfl, hgl0, hg⟩ := h26
      have hgl : g < w5.heap.size := (Array.getElem?_eq_some_iff.1 hg).1
      have hb5 : Below w9.heap.size w9 w5 := hbr.trans (hW.mono hbr.size)
      replace HA := Lib.hid (HA.out.ext hW)
      replace hg := Lib.hid hg
      clear hW
      go_upto_region 12 with (fail)
      refine region_ext (by kernel_rfl) [some 72, some 73, some 74, some 75, some 76, some 77, some 78, some 79, some 80, some 81, some 82, some 83, some 84, some 85, some 86, some 87, some 88, some 89, some 90, some 91, some 92, some 93, some 94, some 95, some 96, some 97, some 98, some 99] (by kernel_rfl) [] [[], [], [], [2], [], [4], [], [6], [], [8], [0, 1, 3, 5, 7, 9], [], [10, 11], [12], [13], [13], [13], [13, 16], [13], [13, 18], [13], [13, 20], [13], [13, 22], [13, 14, 15, 17, 19, 21, 23], [13], [13, 24, 25], [13, 26]] [] [] [Is (.pointer (some ⟨r1, 0, none⟩)), Is (.int .i64 ((k : Nat) : Int)), Is (.pointer (some ⟨x0, 1, none⟩)), Is (.int .u32 s), Is (.pointer (some ⟨x0, 2, none⟩)), Is (.int .u32 p), Is (.pointer (some ⟨x0, 3, none⟩)), Is (.int .u64 c), Is (.pointer (some ⟨x0, 4, none⟩)), Is (.int .u64 d), Is (.agg (c8 Y)), Is (.agg (c8 Y)), Is (.bool false), Is (.bool false), Is (.pointer (some ⟨r2, 0, none⟩)), Is (.int .i64 ((k : Nat) : Int)), Is (.pointer (some ⟨x0, 1, none⟩)), Is (.int .u32 s), Is (.pointer (some ⟨x0, 2, none⟩)), Is (.int .u32 p), Is (.pointer (some ⟨x0, 3, none⟩)), Is (.int .u64 c), Is (.pointer (some ⟨x0, 4, none⟩)), Is (.int .u64 d), Is (.agg (c8 Y)), Is (.agg (c8 Y)), Is (.bool false), Is (.bool false)] (by kernel_rfl) (by kernel_rfl) (by rfl) ⟨Is.keeps _, Is.keeps _, Is.keeps _, Is.keeps _, Is.keeps _, Is.keeps _, Is.keeps _, Is.keeps _, Is.keeps _, Is.keeps _, Is.keeps _, Is.keeps _, Is.keeps _, Is.keeps _, Is.keeps _, Is.keeps _, Is.keeps _, Is.keeps _, Is.keeps _, Is.keeps _, Is.keeps _, Is.keeps _, Is.keeps _, Is.keeps _, Is.keeps _, Is.keeps _, Is.keeps _, Is.keeps _, trivial⟩ ⟨?_, ?_, ?_, ?_, ?_, ?_, ?_, ?_, ?_, ?_, ?_, ?_, ?_, ?_, ?_, ?_, ?_, ?_, ?_, ?_, ?_, ?_, ?_, ?_, ?_, ?_, ?_, ?_, trivial⟩ ?_
      · intro W hW
        refine forV_nil ?_
        exact opv_run (.pointer (some ⟨r1, 0, none⟩)) (by kernel_rfl) (by kernel_rfl) (does_pure rfl)
      · intro W hW
        refine forV_nil ?_
        exact opv_run (.int .i64 ((k : Nat) : Int)) (by kernel_rfl) (by kernel_rfl) (does_pure rfl)
      · intro W hW
        refine forV_nil ?_
        exact opv_run (.pointer (some ⟨x0, 1, none⟩)) (by kernel_rfl) (by kernel_rfl) (does_pure rfl)
      · intro W hW v2 h2
        obtain rfl : v2 = .pointer (some ⟨x0, 1, none⟩) := h2 rfl
        refine forV_nil ?_
        have hA := HA.out.ext hW
        exact opv_run _ (by kernel_rfl) (run_load1 rfl (by kernel_rfl) Tryd.underlying62 rfl (cell_of_row W x0 1 _ 68 (0, 0) hA.x)) (does_pure rfl)
      · intro W hW
        refine forV_nil ?_
        exact opv_run (.pointer (some ⟨x0, 2, none⟩)) (by kernel_rfl) (by kernel_rfl) (does_pure rfl)
      · intro W hW v4 h4
        obtain rfl : v4 = .pointer (some ⟨x0, 2, none⟩) := h4 rfl
        refine forV_nil ?_
        have hA := HA.out.ext hW
        exact opv_run _ (by kernel_rfl) (run_load1 rfl (by kernel_rfl) Tryd.underlying62 rfl (cell_of_row W x0 2 _ 68 (0, 0) hA.x)) (does_pure rfl)
      · intro W hW
        refine forV_nil ?_
        exact opv_run (.pointer (some ⟨x0, 3, none⟩)) (by kernel_rfl) (by kernel_rfl) (does_pure rfl)
      · intro W hW v6 h6
        obtain rfl : v6 = .pointer (some ⟨x0, 3, none⟩) := h6 rfl
        refine forV_nil ?_
        have hA := HA.out.ext hW
        exact opv_run _ (by kernel_rfl) (run_load1 rfl (by kernel_rfl) Tryd.underlying49 rfl (cell_of_row W x0 3 _ 68 (0, 0) hA.x)) (does_pure rfl)
      · intro W hW
        refine forV_nil ?_
        exact opv_run (.pointer (some ⟨x0, 4, none⟩)) (by kernel_rfl) (by kernel_rfl) (does_pure rfl)
      · intro W hW v8 h8
        obtain rfl : v8 = .pointer (some ⟨x0, 4, none⟩) := h8 rfl
        refine forV_nil ?_
        have hA := HA.out.ext hW
        exact opv_run _ (by kernel_rfl) (run_load1 rfl (by kernel_rfl) Tryd.underlying49 rfl (cell_of_row W x0 4 _ 68 (0, 0) hA.x)) (does_pure rfl)
      · intro W hW v0 h0 v1 h1 v3 h3 v5 h5 v7 h7 v9 h9
        obtain rfl : v0 = .pointer (some ⟨r1, 0, none⟩) := h0 rfl
        obtain rfl : v1 = .int .i64 ((k : Nat) : Int) := h1 rfl
        obtain rfl : v3 = .int .u32 s := h3 rfl
        obtain rfl : v5 = .int .u32 p := h5 rfl
        obtain rfl : v7 = .int .u64 c := h7 rfl
        obtain rfl : v9 = .int .u64 d := h9 rfl
        refine forV_nil ?_
        have hA := HA.out.ext hW
        refine opv_call 40 #[.pointer (some ⟨r1, 0, none⟩), .int .i64 ((k : Nat) : Int), .int .u32 ((s : Nat) : Int), .int .u32 ((p : Nat) : Int), .int .u64 ((c : Nat) : Int), .int .u64 ((d : Nat) : Int)] (by kernel_rfl) (by kernel_rfl) ((way_any r1 k s p c d key W hA.ring1 hk0 hk1 hk2 hs hp hc hd hA.gk hA.gs hA.h3).mono ?_)
        rintro e w1 ⟨rfl, hb⟩
        rw [← HY.out]
        exact ⟨_, rfl, does_ext hW hb, rfl⟩
      · intro W hW
        refine forV_nil ?_
        exact opv_run _ (by kernel_rfl) (run_loadN rfl (by kernel_rfl) Tryd.underlying43 rfl (HI43' HYL.out) ((hW.block g hgl).trans hg.out)) (does_pure rfl)
      · intro W hW v10 h10 v11 h11
        obtain rfl : v10 = .agg (c8 Y) := h10 rfl
        obtain rfl : v11 = .agg (c8 Y) := h11 rfl
        refine forV_nil ?_
        exact opv_run _ (by kernel_rfl) (run_neq43 rfl (by kernel_rfl) (by kernel_rfl) HYL.out HYL.out) (does_pure (by show Value.bool (!(Y == Y)) = _; simp))
      · intro W hW v12 h12
        obtain rfl : v12 = .bool false := h12 rfl
        refine forV_nil ?_
        exact opv_run (.bool false) (by kernel_rfl) (by kernel_rfl) (does_pure rfl)
      · intro W hW v13 h13
        obtain rfl : v13 = .bool false := h13 rfl
        refine forV_nil ?_
        exact opv_run (.pointer (some ⟨r2, 0, none⟩)) (by kernel_rfl) (by kernel_rfl) (does_pure rfl)
      · intro W hW v13 h13
        obtain rfl : v13 = .bool false := h13 rfl
        refine forV_nil ?_
        exact opv_run (.int .i64 ((k : Nat) : Int)) (by kernel_rfl) (by kernel_rfl) (does_pure rfl)
      · intro W hW v13 h13
        obtain rfl : v13 = .bool false := h13 rfl
        refine forV_nil ?_
        exact opv_run (.pointer (some ⟨x0, 1, none⟩)) (by kernel_rfl) (by kernel_rfl) (does_pure rfl)
      · intro W hW v13 h13 v16 h16
        obtain rfl : v13 = .bool false := h13 rfl
        obtain rfl : v16 = .pointer (some ⟨x0, 1, none⟩) := h16 rfl
        refine forV_nil ?_
        have hA := HA.out.ext hW
        exact opv_run _ (by kernel_rfl) (run_load1 rfl (by kernel_rfl) Tryd.underlying62 rfl (cell_of_row W x0 1 _ 68 (0, 0) hA.x)) (does_pure rfl)
      · intro W hW v13 h13
        obtain rfl : v13 = .bool false := h13 rfl
        refine forV_nil ?_
        exact opv_run (.pointer (some ⟨x0, 2, none⟩)) (by kernel_rfl) (by kernel_rfl) (does_pure rfl)
      · intro W hW v13 h13 v18 h18
        obtain rfl : v13 = .bool false := h13 rfl
        obtain rfl : v18 = .pointer (some ⟨x0, 2, none⟩) := h18 rfl
        refine forV_nil ?_
        have hA := HA.out.ext hW
        exact opv_run _ (by kernel_rfl) (run_load1 rfl (by kernel_rfl) Tryd.underlying62 rfl (cell_of_row W x0 2 _ 68 (0, 0) hA.x)) (does_pure rfl)
      · intro W hW v13 h13
        obtain rfl : v13 = .bool false := h13 rfl
        refine forV_nil ?_
        exact opv_run (.pointer (some ⟨x0, 3, none⟩)) (by kernel_rfl) (by kernel_rfl) (does_pure rfl)
      · intro W hW v13 h13 v20 h20
        obtain rfl : v13 = .bool false := h13 rfl
        obtain rfl : v20 = .pointer (some ⟨x0, 3, none⟩) := h20 rfl
        refine forV_nil ?_
        have hA := HA.out.ext hW
        exact opv_run _ (by kernel_rfl) (run_load1 rfl (by kernel_rfl) Tryd.underlying49 rfl (cell_of_row W x0 3 _ 68 (0, 0) hA.x)) (does_pure rfl)
      · intro W hW v13 h13
        obtain rfl : v13 = .bool false := h13 rfl
        refine forV_nil ?_
        exact opv_run (.pointer (some ⟨x0, 4, none⟩)) (by kernel_rfl) (by kernel_rfl) (does_pure rfl)
      · intro W hW v13 h13 v22 h22
        obtain rfl : v13 = .bool false := h13 rfl
        obtain rfl : v22 = .pointer (some ⟨x0, 4, none⟩) := h22 rfl
        refine forV_nil ?_
        have hA := HA.out.ext hW
        exact opv_run _ (by kernel_rfl) (run_load1 rfl (by kernel_rfl) Tryd.underlying49 rfl (cell_of_row W x0 4 _ 68 (0, 0) hA.x)) (does_pure rfl)
      · intro W hW v13 h13 v14 h14 v15 h15 v17 h17 v19 h19 v21 h21 v23 h23
        obtain rfl : v13 = .bool false := h13 rfl
        obtain rfl : v14 = .pointer (some ⟨r2, 0, none⟩) := h14 rfl
        obtain rfl : v15 = .int .i64 ((k : Nat) : Int) := h15 rfl
        obtain rfl : v17 = .int .u32 s := h17 rfl
        obtain rfl : v19 = .int .u32 p := h19 rfl
        obtain rfl : v21 = .int .u64 c := h21 rfl
        obtain rfl : v23 = .int .u64 d := h23 rfl
        refine forV_nil ?_
        have hA := HA.out.ext hW
        refine opv_call 40 #[.pointer (some ⟨r2, 0, none⟩), .int .i64 ((k : Nat) : Int), .int .u32 ((s : Nat) : Int), .int .u32 ((p : Nat) : Int), .int .u64 ((c : Nat) : Int), .int .u64 ((d : Nat) : Int)] (by kernel_rfl) (by kernel_rfl) ((way_any r2 k s p c d key W hA.ring2 hk0 hk1 hk2 hs hp hc hd hA.gk hA.gs hA.h3).mono ?_)
        rintro e w1 ⟨rfl, hb⟩
        rw [← HY.out]
        exact ⟨_, rfl, does_ext hW hb, rfl⟩
      · intro W hW v13 h13
        obtain rfl : v13 = .bool false := h13 rfl
        refine forV_nil ?_
        exact opv_run _ (by kernel_rfl) (run_loadN rfl (by kernel_rfl) Tryd.underlying43 rfl (HI43' HYL.out) ((hW.block g hgl).trans hg.out)) (does_pure rfl)
      · intro W hW v13 h13 v24 h24 v25 h25
        obtain rfl : v13 = .bool false := h13 rfl
        obtain rfl : v24 = .agg (c8 Y) := h24 rfl
        obtain rfl : v25 = .agg (c8 Y) := h25 rfl
        refine forV_nil ?_
        exact opv_run _ (by kernel_rfl) (run_neq43 rfl (by kernel_rfl) (by kernel_rfl) HYL.out HYL.out) (does_pure (by show Value.bool (!(Y == Y)) = _; simp))
      · intro W hW v13 h13 v26 h26
        obtain rfl : v13 = .bool false := h13 rfl
        obtain rfl : v26 = .bool false := h26 rfl
        refine forV_nil ?_
        exact opv_run (.bool false) (by kernel_rfl) (by kernel_rfl) (does_pure rfl)
      intro W hW v0 h0 v1 h1 v2 h2 v3 h3 v4 h4 v5 h5 v6 h6 v7 h7 v8 h8 v9 h9 v10 h10 v11 h11 v12 h12 v13 h13 v14 h14 v15 h15 v16 h16 v17 h17 v18 h18 v19 h19 v20 h20 v21 h21 v22 h22 v23 h23 v24 h24 v25 h25 v26 h26 v27 h27
      replace h0 : v0 = .pointer (some ⟨r1, 0, none⟩) := h0 rfl; subst h0
      replace h1 : v1 = .int .i64 ((k : Nat) : Int) := h1 rfl; subst h1
      replace h2 : v2 = .pointer (some ⟨x0, 1, none⟩) := h2 rfl; subst h2
      replace h3 : v3 = .int .u32 s := h3 rfl; subst h3
      replace h4 : v4 = .pointer (some ⟨x0, 2, none⟩) := h4 rfl; subst h4
      replace h5 : v5 = .int .u32 p := h5 rfl; subst h5
      replace h6 : v6 = .pointer (some ⟨x0, 3, none⟩) := h6 rfl; subst h6
      replace h7 : v7 = .int .u64 c := h7 rfl; subst h7
      replace h8 : v8 = .pointer (some ⟨x0, 4, none⟩) := h8 rfl; subst h8
      replace h9 : v9 = .int .u64 d := h9 rfl; subst h9
      replace h10 : v10 = .agg (c8 Y) := h10 rfl; subst h10
      replace h11 : v11 = .agg (c8 Y) := h11 rfl; subst h11
      replace h12 : v12 = .bool false := h12 rfl; subst h12
      replace h13 : v13 = .bool false := h13 rfl; subst h13
      replace h14 : v14 = .pointer (some ⟨r2, 0, none⟩) := h14 rfl; subst h14
      replace h15 : v15 = .int .i64 ((k : Nat) : Int) := h15 rfl; subst h15
      replace h16 : v16 = .pointer (some ⟨x0, 1, none⟩) := h16 rfl; subst h16
      replace h17 : v17 = .int .u32 s := h17 rfl; subst h17
      replace h18 : v18 = .pointer (some ⟨x0, 2, none⟩) := h18 rfl; subst h18
      replace h19 : v19 = .int .u32 p := h19 rfl; subst h19
      replace h20 : v20 = .pointer (some ⟨x0, 3, none⟩) := h20 rfl; subst h20
      replace h21 : v21 = .int .u64 c := h21 rfl; subst h21
      replace h22 : v22 = .pointer (some ⟨x0, 4, none⟩) := h22 rfl; subst h22
      replace h23 : v23 = .int .u64 d := h23 rfl; subst h23
      replace h24 : v24 = .agg (c8 Y) := h24 rfl; subst h24
      replace h25 : v25 = .agg (c8 Y) := h25 rfl; subst h25
      replace h26 : v26 = .bool false := h26 rfl; subst h26
      replace h27 : v27 = .bool false := h27 rfl; subst h27
      refine forE_end ?_
      simp only [Act.put, List.getD_cons_zero, List.getD_cons_succ, List.setIfInBounds_toArray, List.set_cons_zero, List.set_cons_succ, Nat.zero_add, Nat.reduceAdd]
      go_wp2
      go_roundw
      case rel => exact ⟨k + 1, by omega, by go_num, hb5.trans (hW.mono hb5.size)⟩
      case measure => simp [intOf]; omega
    · have d1 : decide ((k : Int) < 2) = false := decide_eq_false (by omega)
      obtain ⟨YT, hYT⟩ : ∃ Y, Y = hmB key (layB tokenB []) := ⟨_, rfl⟩
      have HYT : Hid (YT.length = 32) := by rw [hYT]; exact hmB_length _ _
      have HYTE := Lib.hid hYT
      obtain ⟨YH, hYH⟩ : ∃ Y, Y = hmB key (layB helloB []) := ⟨_, rfl⟩
      have HYH : Hid (YH.length = 32) := by rw [hYH]; exact hmB_length _ _
      have HYHE := Lib.hid hYH
      obtain ⟨M, hM⟩ : ∃ M, M = be4 s ++ be4 p := ⟨_, rfl⟩
      have hML : M.length ≤ 8 := by rw [hM, List.length_append, be4_length, be4_length]; decide
      have HM := Lib.hid hM
      obtain ⟨N, hN⟩ : ∃ N, N = num (hmB YT M) 8 := ⟨_, rfl⟩
      have HN := Lib.hid hN
      clear hYT hYH hM hN
      go_wp2_with fail
      refine (derive_any _ _ key tokenB [] [] wr HA.out.k ⟨rfl, .inl ⟨rfl, rfl⟩, fun j hj => by simp at hj⟩ hk0 hk1 (by decide) (by simp) (by simp) HA.out.gk HA.out.gs HA.out.h3).mono ?_
      rintro e w10 ⟨rfl, hb10⟩
      rw [← HYTE.out]
      go_wp2_with (refine wpList_store_new43 (o := { dst := none, op := .store 43 (.tmp 14) (.tmp 104), type := _, pos := _, after := _, guard := none }) rfl (.tmp 14) (.tmp 104) rfl YT HYT.out rfl rfl ?_)
      intro w11 hb11 HGT HZ11
      have hb911 : Below wr.heap.size wr w11 := hb10.trans (hb11.mono hb10.size)
      replace HA := Lib.hid (HA.out.ext hb911)
      have hgT : w10.heap.size < w11.heap.size := by have := HZ11.out; omega
      go_upto_region 16 with (fail)
      refine region_ext (by kernel_rfl) [some 106, some 107, some 108, some 109, some 110, some 111, some 112, some 113, some 114, some 115, some 116, some 16] (by kernel_rfl) [9] [[], [], [], [2], [1, 3], [], [], [6], [5, 7], [4, 8], [0, 9], [10]] [[], [], [], [], [9], [], [], [], [9], [], [], []] [] [Is (.agg (c8 YT)), Is (.func (.func 44) #[] #[]), Is (.pointer (some ⟨x0, 1, none⟩)), Is (.int .u32 s), (false, fun v W => W.ownsRow w11.heap.size 5 1 v (be4 s).length (c8l (be4 s))), Is (.func (.func 44) #[] #[]), Is (.pointer (some ⟨x0, 2, none⟩)), Is (.int .u32 p), (false, fun v W => W.ownsRow w11.heap.size 5 1 v (be4 p).length (c8l (be4 p))), (false, fun v W => W.ownsRow w11.heap.size 5 1 v (M).length (c8l (M))), Is (.int .u64 ((N : Nat) : Int)), Is (.int .u64 ((N : Nat) : Int))] (by kernel_rfl) (by kernel_rfl) (by rfl) ⟨Is.keeps _, Is.keeps _, Is.keeps _, Is.keeps _, (fun _ _ _ he h => owns_below h he (Nat.le_refl _)), Is.keeps _, Is.keeps _, Is.keeps _, (fun _ _ _ he h => owns_below h he (Nat.le_refl _)), (fun _ _ _ he h => owns_below h he (Nat.le_refl _)), Is.keeps _, Is.keeps _, trivial⟩ ⟨?_, ?_, ?_, ?_, ?_, ?_, ?_, ?_, ?_, ?_, ?_, ?_, trivial⟩ ?_
      · intro W hW
        refine forV_nil ?_
        exact opv_run _ (by kernel_rfl) (run_loadN rfl (by kernel_rfl) Tryd.underlying43 rfl (HI43' HYT.out) ((hW.block _ hgT).trans HGT.out)) (does_pure rfl)
      · intro W hW
        refine forV_nil ?_
        have hA := HA.out.ext hW
        exact opv_run _ (by kernel_rfl) (run_load1 rfl (by kernel_rfl) Tryd.underlying85 rfl (cell_of_row W f0 0 _ 85 (0, 0) hA.f)) (does_pure rfl)
      · intro W hW
        refine forV_nil ?_
        exact opv_run (.pointer (some ⟨x0, 1, none⟩)) (by kernel_rfl) (by kernel_rfl) (does_pure rfl)
      · intro W hW v2 h2
        obtain rfl : v2 = .pointer (some ⟨x0, 1, none⟩) := h2 rfl
        refine forV_nil ?_
        have hA := HA.out.ext hW
        exact opv_run _ (by kernel_rfl) (run_load1 rfl (by kernel_rfl) Tryd.underlying62 rfl (cell_of_row W x0 1 _ 68 (0, 0) hA.x)) (does_pure rfl)
      · intro W hW v1 h1 v3 h3
        obtain rfl : v1 = .func (.func 44) #[] #[] := h1 rfl
        obtain rfl : v3 = .int .u32 s := h3 rfl
        refine forV_nil ?_
        have hA := HA.out.ext hW
        refine opv_call 44 #[.int .u32 ((s : Nat) : Int)] (by kernel_rfl) (by kernel_rfl) ((four_c s W hs).mono ?_)
        rintro e w1 ⟨u, rfl, hm, hb⟩
        exact ⟨u, rfl, does_ext hW hb, owns_up hm hW.size⟩
      · intro W hW
        refine forV_nil ?_
        have hA := HA.out.ext hW
        exact opv_run _ (by kernel_rfl) (run_load1 rfl (by kernel_rfl) Tryd.underlying85 rfl (cell_of_row W f0 0 _ 85 (0, 0) hA.f)) (does_pure rfl)
      · intro W hW
        refine forV_nil ?_
        exact opv_run (.pointer (some ⟨x0, 2, none⟩)) (by kernel_rfl) (by kernel_rfl) (does_pure rfl)
      · intro W hW v6 h6
        obtain rfl : v6 = .pointer (some ⟨x0, 2, none⟩) := h6 rfl
        refine forV_nil ?_
        have hA := HA.out.ext hW
        exact opv_run _ (by kernel_rfl) (run_load1 rfl (by kernel_rfl) Tryd.underlying62 rfl (cell_of_row W x0 2 _ 68 (0, 0) hA.x)) (does_pure rfl)
      · intro W hW v5 h5 v7 h7
        obtain rfl : v5 = .func (.func 44) #[] #[] := h5 rfl
        obtain rfl : v7 = .int .u32 p := h7 rfl
        refine forV_nil ?_
        have hA := HA.out.ext hW
        refine opv_call 44 #[.int .u32 ((p : Nat) : Int)] (by kernel_rfl) (by kernel_rfl) ((four_c p W hp).mono ?_)
        rintro e w1 ⟨u, rfl, hm, hb⟩
        exact ⟨u, rfl, does_ext hW hb, owns_up hm hW.size⟩
      · intro W hW v4 h4 v8 h8
        replace h4 : ((false, fun v W => W.ownsRow w11.heap.size 5 1 v (be4 s).length (c8l (be4 s)))).2 v4 W := h4 rfl
        replace h8 : ((false, fun v W => W.ownsRow w11.heap.size 5 1 v (be4 p).length (c8l (be4 p)))).2 v8 W := h8 rfl
        refine forV_nil ?_
        unfold OpV
        refine wpList_append_bsl rfl (.tmp 110) (.tmp 114) rfl w11.heap.size _ (be4 s) (by kernel_rfl) h4 _ (be4 p) (by kernel_rfl) (BSl.of_owns h8) (by simp [be4_length]) hW.size ?_
        intro v' w' hown' hb'
        exact ⟨v', rfl, does_wr rfl hb', by rw [← HM.out] at hown'; exact hown'⟩
      · intro W hW v0 h0 v9 h9
        obtain rfl : v0 = .agg (c8 YT) := h0 rfl
        replace h9 : ((false, fun v W => W.ownsRow w11.heap.size 5 1 v (M).length (c8l (M)))).2 v9 W := h9 rfl
        refine forV_nil ?_
        have hA := HA.out.ext hW
        refine opv_call 25 #[.agg (c8 YT), v9] (by kernel_rfl) (by kernel_rfl) ((tag_any YT M _ W HYT.out (BSl.of_owns h9) (by omega) hA.gk hA.gs hA.h3).mono ?_)
        rintro e w1 ⟨rfl, hb⟩
        rw [← HN.out]
        exact ⟨_, rfl, does_ext hW hb, rfl⟩
      · intro W hW v10 h10
        obtain rfl : v10 = .int .u64 ((N : Nat) : Int) := h10 rfl
        refine forV_nil ?_
        exact opv_run (.int .u64 ((N : Nat) : Int)) (by kernel_rfl) (by kernel_rfl) (does_pure rfl)
      intro W hW v0 h0 v1 h1 v2 h2 v3 h3 v4 h4 v5 h5 v6 h6 v7 h7 v8 h8 v9 h9 v10 h10 v11 h11
      replace h0 : v0 = .agg (c8 YT) := h0 rfl; subst h0
      replace h1 : v1 = .func (.func 44) #[] #[] := h1 rfl; subst h1
      replace h2 : v2 = .pointer (some ⟨x0, 1, none⟩) := h2 rfl; subst h2
      replace h3 : v3 = .int .u32 s := h3 rfl; subst h3
      clear h4
      replace h5 : v5 = .func (.func 44) #[] #[] := h5 rfl; subst h5
      replace h6 : v6 = .pointer (some ⟨x0, 2, none⟩) := h6 rfl; subst h6
      replace h7 : v7 = .int .u32 p := h7 rfl; subst h7
      clear h8
      replace h9 : ((false, fun v W => W.ownsRow w11.heap.size 5 1 v (M).length (c8l (M)))).2 v9 W := h9 rfl
      replace h10 : v10 = .int .u64 ((N : Nat) : Int) := h10 rfl; subst h10
      replace h11 : v11 = .int .u64 ((N : Nat) : Int) := h11 rfl; subst h11
      refine forE_end ?_
      simp only [Act.put, List.getD_cons_zero, List.getD_cons_succ, List.setIfInBounds_toArray, List.set_cons_zero, List.set_cons_succ, Nat.zero_add, Nat.reduceAdd]
      obtain ⟨w12, rfl⟩ : ∃ w12 : World, w12 = W := ⟨_, rfl⟩
      have hb912 : Below wr.heap.size wr w12 := hb911.trans (hW.mono hb911.size)
      replace HA := Lib.hid (HA.out.ext hW)
      clear hW h9
      go_wp2_with fail
      refine (derive_any _ _ key helloB [] [] w12 HA.out.k ⟨rfl, .inl ⟨rfl, rfl⟩, fun j hj => by simp at hj⟩ hk0 hk1 (by decide) (by simp) (by simp) HA.out.gk HA.out.gs HA.out.h3).mono ?_
      rintro e w13 ⟨rfl, hb13⟩
      rw [← HYHE.out]
      go_wp2_with (refine wpList_store_new43 (o := { dst := none, op := .store 43 (.tmp 17) (.tmp 120), type := _, pos := _, after := _, guard := none }) rfl (.tmp 17) (.tmp 120) rfl YH HYH.out rfl rfl ?_)
      intro w14 hb14 HGH HZ14
      have hb1214 : Below w12.heap.size w12 w14 := hb13.trans (hb14.mono hb13.size)
      replace HA := Lib.hid (HA.out.ext hb1214)
      have hgH : w13.heap.size < w14.heap.size := by have := HZ14.out; omega
      go_upto_region 18 with (fail)
      refine region_ext (by kernel_rfl) [some 122, some 123, some 124, some 125, some 126, some 127, some 128, some 129, some 130, some 131, some 132, some 133, some 134, some 135, some 136, some 137, some 138, some 139, some 140, some 141, some 142, some 143, some 144, some 145, some 146, some 147, some 148, some 149, some 150, some 151, some 152, some 153, some 154, some 155, some 156, some 157, some 158, some 159, some 160, some 4] (by kernel_rfl) [] [[], [], [1], [], [3], [0, 2, 4], [], [5, 6], [7], [8], [8], [8, 10], [8], [8, 12], [8, 9, 11, 13], [8], [8, 14, 15], [8, 16], [17], [18], [18, 19], [18], [18, 20, 21], [18, 22], [23], [24], [24, 25], [24], [24, 26, 27], [24, 28], [29], [30], [30, 31], [30], [30, 32, 33], [30, 34], [35], [36], [36, 37], [38]] [] [] [Is (.pointer (some ⟨r1, 0, none⟩)), Is (.pointer (some ⟨x0, 1, none⟩)), Is (.int .u32 s), Is (.pointer (some ⟨x0, 2, none⟩)), Is (.int .u32 p), Is (.int .u64 ((N : Nat) : Int)), Is (.int .u64 ((N : Nat) : Int)), Is (.bool true), Is (.bool true), Is (.pointer (some ⟨r2, 0, none⟩)), Is (.pointer (some ⟨x0, 1, none⟩)), Is (.int .u32 s), Is (.pointer (some ⟨x0, 2, none⟩)), Is (.int .u32 p), Is (.int .u64 ((N : Nat) : Int)), Is (.int .u64 ((N : Nat) : Int)), Is (.bool true), Is (.bool true), Is (.bool true), Is (.pointer (some ⟨r1, 0, none⟩)), Is (.agg (c8 YH)), Is (.agg (c8 YH)), Is (.bool true), Is (.bool true), Is (.bool true), Is (.pointer (some ⟨r1, 0, none⟩)), Is (.agg (c8 zer32)), Is (.agg (c8 zer32)), Is (.bool true), Is (.bool true), Is (.bool true), Is (.pointer (some ⟨r1, 0, none⟩)), Is (.agg (c8 zer32)), Is (.agg (c8 zer32)), Is (.bool true), Is (.bool true), Is (.bool true), Is (.bool true), Is (.bool true), Is (.bool true)] (by kernel_rfl) (by kernel_rfl) (by rfl) ⟨Is.keeps _, Is.keeps _, Is.keeps _, Is.keeps _, Is.keeps _, Is.keeps _, Is.keeps _, Is.keeps _, Is.keeps _, Is.keeps _, Is.keeps _, Is.keeps _, Is.keeps _, Is.keeps _, Is.keeps _, Is.keeps _, Is.keeps _, Is.keeps _, Is.keeps _, Is.keeps _, Is.keeps _, Is.keeps _, Is.keeps _, Is.keeps _, Is.keeps _, Is.keeps _, Is.keeps _, Is.keeps _, Is.keeps _, Is.keeps _, Is.keeps _, Is.keeps _, Is.keeps _, Is.keeps _, Is.keeps _, Is.keeps _, Is.keeps _, Is.keeps _, Is.keeps _, Is.keeps _, trivial⟩ ⟨?_, ?_, ?_, ?_, ?_, ?_, ?_, ?_, ?_, ?_, ?_, ?_, ?_, ?_, ?_, ?_, ?_, ?_, ?_, ?_, ?_, ?_, ?_, ?_, ?_, ?_, ?_, ?_, ?_, ?_, ?_, ?_, ?_, ?_, ?_, ?_, ?_, ?_, ?_, ?_, trivial⟩ ?_
      · intro W hW
        refine forV_nil ?_
        exact opv_run (.pointer (some ⟨r1, 0, none⟩)) (by kernel_rfl) (by kernel_rfl) (does_pure rfl)
      · intro W hW
        refine forV_nil ?_
        exact opv_run (.pointer (some ⟨x0, 1, none⟩)) (by kernel_rfl) (by kernel_rfl) (does_pure rfl)
      · intro W hW v1 h1
        obtain rfl : v1 = .pointer (some ⟨x0, 1, none⟩) := h1 rfl
        refine forV_nil ?_
        have hA := HA.out.ext hW
        exact opv_run _ (by kernel_rfl) (run_load1 rfl (by kernel_rfl) Tryd.underlying62 rfl (cell_of_row W x0 1 _ 68 (0, 0) hA.x)) (does_pure rfl)
      · intro W hW
        refine forV_nil ?_
        exact opv_run (.pointer (some ⟨x0, 2, none⟩)) (by kernel_rfl) (by kernel_rfl) (does_pure rfl)
      · intro W hW v3 h3
        obtain rfl : v3 = .pointer (some ⟨x0, 2, none⟩) := h3 rfl
        refine forV_nil ?_
        have hA := HA.out.ext hW
        exact opv_run _ (by kernel_rfl) (run_load1 rfl (by kernel_rfl) Tryd.underlying62 rfl (cell_of_row W x0 2 _ 68 (0, 0) hA.x)) (does_pure rfl)
      · intro W hW v0 h0 v2 h2 v4 h4
        obtain rfl : v0 = .pointer (some ⟨r1, 0, none⟩) := h0 rfl
        obtain rfl : v2 = .int .u32 s := h2 rfl
        obtain rfl : v4 = .int .u32 p := h4 rfl
        refine forV_nil ?_
        have hA := HA.out.ext hW
        refine opv_call 42 #[.pointer (some ⟨r1, 0, none⟩), .int .u32 ((s : Nat) : Int), .int .u32 ((p : Nat) : Int)] (by kernel_rfl) (by kernel_rfl) ((token_any r1 s p key W hA.ring1 hk0 hk1 hs hp hA.gk hA.gs hA.h3).mono ?_)
        rintro e w1 ⟨rfl, hb⟩
        rw [← HYTE.out, ← HM.out, ← HN.out]
        exact ⟨_, rfl, does_ext hW hb, rfl⟩
      · intro W hW
        refine forV_nil ?_
        exact opv_run (.int .u64 ((N : Nat) : Int)) (by kernel_rfl) (by kernel_rfl) (does_pure rfl)
      · intro W hW v5 h5 v6 h6
        obtain rfl : v5 = .int .u64 ((N : Nat) : Int) := h5 rfl
        obtain rfl : v6 = .int .u64 ((N : Nat) : Int) := h6 rfl
        refine forV_nil ?_
        refine opv_run (.bool (((N : Nat) : Int) == ((N : Nat) : Int))) (by kernel_rfl) (by kernel_rfl) (does_pure ?_)
        rw [beq_self_eq_true]; rfl
      · intro W hW v7 h7
        obtain rfl : v7 = .bool true := h7 rfl
        refine forV_nil ?_
        exact opv_run (.bool true) (by kernel_rfl) (by kernel_rfl) (does_pure rfl)
      · intro W hW v8 h8
        obtain rfl : v8 = .bool true := h8 rfl
        refine forV_nil ?_
        exact opv_run (.pointer (some ⟨r2, 0, none⟩)) (by kernel_rfl) (by kernel_rfl) (does_pure rfl)
      · intro W hW v8 h8
        obtain rfl : v8 = .bool true := h8 rfl
        refine forV_nil ?_
        exact opv_run (.pointer (some ⟨x0, 1, none⟩)) (by kernel_rfl) (by kernel_rfl) (does_pure rfl)
      · intro W hW v8 h8 v10 h10
        obtain rfl : v8 = .bool true := h8 rfl
        obtain rfl : v10 = .pointer (some ⟨x0, 1, none⟩) := h10 rfl
        refine forV_nil ?_
        have hA := HA.out.ext hW
        exact opv_run _ (by kernel_rfl) (run_load1 rfl (by kernel_rfl) Tryd.underlying62 rfl (cell_of_row W x0 1 _ 68 (0, 0) hA.x)) (does_pure rfl)
      · intro W hW v8 h8
        obtain rfl : v8 = .bool true := h8 rfl
        refine forV_nil ?_
        exact opv_run (.pointer (some ⟨x0, 2, none⟩)) (by kernel_rfl) (by kernel_rfl) (does_pure rfl)
      · intro W hW v8 h8 v12 h12
        obtain rfl : v8 = .bool true := h8 rfl
        obtain rfl : v12 = .pointer (some ⟨x0, 2, none⟩) := h12 rfl
        refine forV_nil ?_
        have hA := HA.out.ext hW
        exact opv_run _ (by kernel_rfl) (run_load1 rfl (by kernel_rfl) Tryd.underlying62 rfl (cell_of_row W x0 2 _ 68 (0, 0) hA.x)) (does_pure rfl)
      · intro W hW v8 h8 v9 h9 v11 h11 v13 h13
        obtain rfl : v8 = .bool true := h8 rfl
        obtain rfl : v9 = .pointer (some ⟨r2, 0, none⟩) := h9 rfl
        obtain rfl : v11 = .int .u32 s := h11 rfl
        obtain rfl : v13 = .int .u32 p := h13 rfl
        refine forV_nil ?_
        have hA := HA.out.ext hW
        refine opv_call 42 #[.pointer (some ⟨r2, 0, none⟩), .int .u32 ((s : Nat) : Int), .int .u32 ((p : Nat) : Int)] (by kernel_rfl) (by kernel_rfl) ((token_any r2 s p key W hA.ring2 hk0 hk1 hs hp hA.gk hA.gs hA.h3).mono ?_)
        rintro e w1 ⟨rfl, hb⟩
        rw [← HYTE.out, ← HM.out, ← HN.out]
        exact ⟨_, rfl, does_ext hW hb, rfl⟩
      · intro W hW v8 h8
        obtain rfl : v8 = .bool true := h8 rfl
        refine forV_nil ?_
        exact opv_run (.int .u64 ((N : Nat) : Int)) (by kernel_rfl) (by kernel_rfl) (does_pure rfl)
      · intro W hW v8 h8 v14 h14 v15 h15
        obtain rfl : v8 = .bool true := h8 rfl
        obtain rfl : v14 = .int .u64 ((N : Nat) : Int) := h14 rfl
        obtain rfl : v15 = .int .u64 ((N : Nat) : Int) := h15 rfl
        refine forV_nil ?_
        refine opv_run (.bool (((N : Nat) : Int) == ((N : Nat) : Int))) (by kernel_rfl) (by kernel_rfl) (does_pure ?_)
        rw [beq_self_eq_true]; rfl
      · intro W hW v8 h8 v16 h16
        obtain rfl : v8 = .bool true := h8 rfl
        obtain rfl : v16 = .bool true := h16 rfl
        refine forV_nil ?_
        exact opv_run (.bool true) (by kernel_rfl) (by kernel_rfl) (does_pure rfl)
      · intro W hW v17 h17
        obtain rfl : v17 = .bool true := h17 rfl
        refine forV_nil ?_
        exact opv_run (.bool true) (by kernel_rfl) (by kernel_rfl) (does_pure rfl)
      · intro W hW v18 h18
        obtain rfl : v18 = .bool true := h18 rfl
        refine forV_nil ?_
        exact opv_run (.pointer (some ⟨r1, 0, none⟩)) (by kernel_rfl) (by kernel_rfl) (does_pure rfl)
      · intro W hW v18 h18 v19 h19
        obtain rfl : v18 = .bool true := h18 rfl
        obtain rfl : v19 = .pointer (some ⟨r1, 0, none⟩) := h19 rfl
        refine forV_nil ?_
        have hA := HA.out.ext hW
        refine opv_call 39 #[.pointer (some ⟨r1, 0, none⟩)] (by kernel_rfl) (by kernel_rfl) ((hello_any r1 key W hA.ring1 hk0 hk1 hA.gk hA.gs hA.h3).mono ?_)
        rintro e w1 ⟨rfl, hb⟩
        rw [← HYHE.out]
        exact ⟨_, rfl, does_ext hW hb, rfl⟩
      · intro W hW v18 h18
        obtain rfl : v18 = .bool true := h18 rfl
        refine forV_nil ?_
        exact opv_run _ (by kernel_rfl) (run_loadN rfl (by kernel_rfl) Tryd.underlying43 rfl (HI43' HYH.out) ((hW.block _ hgH).trans HGH.out)) (does_pure rfl)
      · intro W hW v18 h18 v20 h20 v21 h21
        obtain rfl : v18 = .bool true := h18 rfl
        obtain rfl : v20 = .agg (c8 YH) := h20 rfl
        obtain rfl : v21 = .agg (c8 YH) := h21 rfl
        refine forV_nil ?_
        exact opv_run _ (by kernel_rfl) (run_eql43 rfl (by kernel_rfl) (by kernel_rfl) HYH.out HYH.out) (does_pure (by show Value.bool (YH == YH) = _; simp))
      · intro W hW v18 h18 v22 h22
        obtain rfl : v18 = .bool true := h18 rfl
        obtain rfl : v22 = .bool true := h22 rfl
        refine forV_nil ?_
        exact opv_run (.bool true) (by kernel_rfl) (by kernel_rfl) (does_pure rfl)
      · intro W hW v23 h23
        obtain rfl : v23 = .bool true := h23 rfl
        refine forV_nil ?_
        exact opv_run (.bool true) (by kernel_rfl) (by kernel_rfl) (does_pure rfl)
      · intro W hW v24 h24
        obtain rfl : v24 = .bool true := h24 rfl
        refine forV_nil ?_
        exact opv_run (.pointer (some ⟨r1, 0, none⟩)) (by kernel_rfl) (by kernel_rfl) (does_pure rfl)
      · intro W hW v24 h24 v25 h25
        obtain rfl : v24 = .bool true := h24 rfl
        obtain rfl : v25 = .pointer (some ⟨r1, 0, none⟩) := h25 rfl
        refine forV_nil ?_
        have hA := HA.out.ext hW
        refine opv_call 40 #[.pointer (some ⟨r1, 0, none⟩), .int .i64 (2), .int .u32 ((1 : Nat) : Int), .int .u32 ((1 : Nat) : Int), .int .u64 ((1 : Nat) : Int), .int .u64 ((1 : Nat) : Int)] (by kernel_rfl) (by kernel_rfl) ((way_none _ (2) 1 1 1 1 W (by decide)).mono ?_)
        rintro e w1 ⟨rfl, hb⟩
        exact ⟨_, rfl, does_ext hW hb, rfl⟩
      · intro W hW v24 h24
        obtain rfl : v24 = .bool true := h24 rfl
        refine forV_nil ?_
        exact opv_run (.agg (c8 zer32)) (by kernel_rfl) (by kernel_rfl) (does_pure rfl)
      · intro W hW v24 h24 v26 h26 v27 h27
        obtain rfl : v24 = .bool true := h24 rfl
        obtain rfl : v26 = .agg (c8 zer32) := h26 rfl
        obtain rfl : v27 = .agg (c8 zer32) := h27 rfl
        refine forV_nil ?_
        exact opv_run _ (by kernel_rfl) (run_eql43 rfl (by kernel_rfl) (by kernel_rfl) (X := zer32) (Y := zer32) rfl rfl) (does_pure (by show Value.bool (zer32 == zer32) = _; simp))
      · intro W hW v24 h24 v28 h28
        obtain rfl : v24 = .bool true := h24 rfl
        obtain rfl : v28 = .bool true := h28 rfl
        refine forV_nil ?_
        exact opv_run (.bool true) (by kernel_rfl) (by kernel_rfl) (does_pure rfl)
      · intro W hW v29 h29
        obtain rfl : v29 = .bool true := h29 rfl
        refine forV_nil ?_
        exact opv_run (.bool true) (by kernel_rfl) (by kernel_rfl) (does_pure rfl)
      · intro W hW v30 h30
        obtain rfl : v30 = .bool true := h30 rfl
        refine forV_nil ?_
        exact opv_run (.pointer (some ⟨r1, 0, none⟩)) (by kernel_rfl) (by kernel_rfl) (does_pure rfl)
      · intro W hW v30 h30 v31 h31
        obtain rfl : v30 = .bool true := h30 rfl
        obtain rfl : v31 = .pointer (some ⟨r1, 0, none⟩) := h31 rfl
        refine forV_nil ?_
        have hA := HA.out.ext hW
        refine opv_call 40 #[.pointer (some ⟨r1, 0, none⟩), .int .i64 (-1), .int .u32 ((1 : Nat) : Int), .int .u32 ((1 : Nat) : Int), .int .u64 ((1 : Nat) : Int), .int .u64 ((1 : Nat) : Int)] (by kernel_rfl) (by kernel_rfl) ((way_none _ (-1) 1 1 1 1 W (by decide)).mono ?_)
        rintro e w1 ⟨rfl, hb⟩
        exact ⟨_, rfl, does_ext hW hb, rfl⟩
      · intro W hW v30 h30
        obtain rfl : v30 = .bool true := h30 rfl
        refine forV_nil ?_
        exact opv_run (.agg (c8 zer32)) (by kernel_rfl) (by kernel_rfl) (does_pure rfl)
      · intro W hW v30 h30 v32 h32 v33 h33
        obtain rfl : v30 = .bool true := h30 rfl
        obtain rfl : v32 = .agg (c8 zer32) := h32 rfl
        obtain rfl : v33 = .agg (c8 zer32) := h33 rfl
        refine forV_nil ?_
        exact opv_run _ (by kernel_rfl) (run_eql43 rfl (by kernel_rfl) (by kernel_rfl) (X := zer32) (Y := zer32) rfl rfl) (does_pure (by show Value.bool (zer32 == zer32) = _; simp))
      · intro W hW v30 h30 v34 h34
        obtain rfl : v30 = .bool true := h30 rfl
        obtain rfl : v34 = .bool true := h34 rfl
        refine forV_nil ?_
        exact opv_run (.bool true) (by kernel_rfl) (by kernel_rfl) (does_pure rfl)
      · intro W hW v35 h35
        obtain rfl : v35 = .bool true := h35 rfl
        refine forV_nil ?_
        exact opv_run (.bool true) (by kernel_rfl) (by kernel_rfl) (does_pure rfl)
      · intro W hW v36 h36
        obtain rfl : v36 = .bool true := h36 rfl
        refine forV_nil ?_
        have hA := HA.out.ext hW
        refine opv_call 27 #[] (by kernel_rfl) (by kernel_rfl) ((wakes_any W hA.gk hA.gs hA.h3).mono ?_)
        rintro e w1 ⟨rfl, hb⟩
        exact ⟨_, rfl, does_ext hW hb, rfl⟩
      · intro W hW v36 h36 v37 h37
        obtain rfl : v36 = .bool true := h36 rfl
        obtain rfl : v37 = .bool true := h37 rfl
        refine forV_nil ?_
        exact opv_run (.bool true) (by kernel_rfl) (by kernel_rfl) (does_pure rfl)
      · intro W hW v38 h38
        obtain rfl : v38 = .bool true := h38 rfl
        refine forV_nil ?_
        exact opv_run (.bool true) (by kernel_rfl) (by kernel_rfl) (does_pure rfl)
      intro W hW v0 h0 v1 h1 v2 h2 v3 h3 v4 h4 v5 h5 v6 h6 v7 h7 v8 h8 v9 h9 v10 h10 v11 h11 v12 h12 v13 h13 v14 h14 v15 h15 v16 h16 v17 h17 v18 h18 v19 h19 v20 h20 v21 h21 v22 h22 v23 h23 v24 h24 v25 h25 v26 h26 v27 h27 v28 h28 v29 h29 v30 h30 v31 h31 v32 h32 v33 h33 v34 h34 v35 h35 v36 h36 v37 h37 v38 h38 v39 h39
      replace h0 : v0 = .pointer (some ⟨r1, 0, none⟩) := h0 rfl; subst h0
      replace h1 : v1 = .pointer (some ⟨x0, 1, none⟩) := h1 rfl; subst h1
      replace h2 : v2 = .int .u32 s := h2 rfl; subst h2
      replace h3 : v3 = .pointer (some ⟨x0, 2, none⟩) := h3 rfl; subst h3
      replace h4 : v4 = .int .u32 p := h4 rfl; subst h4
      replace h5 : v5 = .int .u64 ((N : Nat) : Int) := h5 rfl; subst h5
      replace h6 : v6 = .int .u64 ((N : Nat) : Int) := h6 rfl; subst h6
      replace h7 : v7 = .bool true := h7 rfl; subst h7
      replace h8 : v8 = .bool true := h8 rfl; subst h8
      replace h9 : v9 = .pointer (some ⟨r2, 0, none⟩) := h9 rfl; subst h9
      replace h10 : v10 = .pointer (some ⟨x0, 1, none⟩) := h10 rfl; subst h10
      replace h11 : v11 = .int .u32 s := h11 rfl; subst h11
      replace h12 : v12 = .pointer (some ⟨x0, 2, none⟩) := h12 rfl; subst h12
      replace h13 : v13 = .int .u32 p := h13 rfl; subst h13
      replace h14 : v14 = .int .u64 ((N : Nat) : Int) := h14 rfl; subst h14
      replace h15 : v15 = .int .u64 ((N : Nat) : Int) := h15 rfl; subst h15
      replace h16 : v16 = .bool true := h16 rfl; subst h16
      replace h17 : v17 = .bool true := h17 rfl; subst h17
      replace h18 : v18 = .bool true := h18 rfl; subst h18
      replace h19 : v19 = .pointer (some ⟨r1, 0, none⟩) := h19 rfl; subst h19
      replace h20 : v20 = .agg (c8 YH) := h20 rfl; subst h20
      replace h21 : v21 = .agg (c8 YH) := h21 rfl; subst h21
      replace h22 : v22 = .bool true := h22 rfl; subst h22
      replace h23 : v23 = .bool true := h23 rfl; subst h23
      replace h24 : v24 = .bool true := h24 rfl; subst h24
      replace h25 : v25 = .pointer (some ⟨r1, 0, none⟩) := h25 rfl; subst h25
      replace h26 : v26 = .agg (c8 zer32) := h26 rfl; subst h26
      replace h27 : v27 = .agg (c8 zer32) := h27 rfl; subst h27
      replace h28 : v28 = .bool true := h28 rfl; subst h28
      replace h29 : v29 = .bool true := h29 rfl; subst h29
      replace h30 : v30 = .bool true := h30 rfl; subst h30
      replace h31 : v31 = .pointer (some ⟨r1, 0, none⟩) := h31 rfl; subst h31
      replace h32 : v32 = .agg (c8 zer32) := h32 rfl; subst h32
      replace h33 : v33 = .agg (c8 zer32) := h33 rfl; subst h33
      replace h34 : v34 = .bool true := h34 rfl; subst h34
      replace h35 : v35 = .bool true := h35 rfl; subst h35
      replace h36 : v36 = .bool true := h36 rfl; subst h36
      replace h37 : v37 = .bool true := h37 rfl; subst h37
      replace h38 : v38 = .bool true := h38 rfl; subst h38
      replace h39 : v39 = .bool true := h39 rfl; subst h39
      refine forE_end ?_
      simp only [Act.put, List.getD_cons_zero, List.getD_cons_succ, List.setIfInBounds_toArray, List.set_cons_zero, List.set_cons_succ, Nat.zero_add, Nat.reduceAdd]
      go_wp2
      go_ret
      have hf1 := hb912.trans (hb1214.mono hb912.size)
      have hf2 := hf1.trans (hW.mono hf1.size)
      have hf3 := hbr.trans (hf2.mono hbr.size)
      rw [HX0.out]
      exact ⟨rfl, hbw9.trans (hf3.mono hbw9.size)⟩
end Go.Proofs.YtjkicmlelilcaaaDoor
