/- The walks over seal's Derive and the law's 'wakes'. -/
import Derived.Test.YtjkicmlelilcaaaDoorS2
namespace Go.Proofs.YtjkicmlelilcaaaDoor
open Go.RowKit
/-- The bytes that a label and parts are, the first k parts. -/
def layTo (s : List UInt8) (ps : List (List UInt8)) : Nat → List UInt8
  | 0 => be2 s.length ++ s
  | k + 1 => layTo s ps k ++ (be4 (atP ps k).length ++ atP ps k)
def layB (s : List UInt8) (ps : List (List UInt8)) : List UInt8 := layTo s ps ps.length
theorem info43 : (Tryd.prog.info? 43).map (·.size) = some 32 := by kernel_rfl
theorem eq43 (X Y : List UInt8) (hx : X.length = 32) (hy : Y.length = 32) (w : World) : (Op.equalIn 10000 43 (.agg (c8 X)) (.agg (c8 Y))).run Tryd.prog w = .ok (X == Y) w := by
  obtain ⟨i0, hi, _⟩ := info_parts info5c
  rw [run_equalIn_array w 9999 (c8 X) (c8 Y) Tryd.underlying43 hi, cells5, eqItems5 9998 X Y w (List.range 32) (fun i hi => by have := List.mem_range.1 hi; omega), all_eq X Y 32 hx hy]
theorem layTo_le (s : List UInt8) (ps : List (List UInt8)) (k : Nat) (h : k ≤ ps.length) : (layTo s ps k).length = 2 + s.length + 4 * k + (catTo ps k).length := by
  induction k with
  | zero => simp [layTo, be2_length, catTo]
  | succ k ih =>
    rw [layTo, List.length_append, ih (by omega), catTo_succ ps k (by omega), List.length_append, List.length_append, be4_length]; omega
theorem wr_new (w : World) : WrAt w.heap.size [] (w.alloc (.cells #[.slice none 0 0, .int .i64 0] 80)) := ⟨_, row_new _ _ _, rfl, .inl ⟨rfl, rfl⟩⟩
attribute [local irreducible] be2 be4 be8 layTo chg shaB hmB
set_option maxHeartbeats 400000 in
theorem may_any (v : Value) (bs : List UInt8) (w : World) (h : BSl w v bs) : Calls Tryd.prog 57 #[v] w fun e w' => e = .returned (.bool (decide (0 < bs.length) && decide (bs.length ≤ 64))) ∧ w = w' := by
  obtain ⟨a, c, rfl⟩ := h.len
  by_cases h0 : 0 < bs.length
  · have d0 : decide ((0 : Int) < (bs.length : Int)) = true := decide_eq_true (by omega)
    go_enter Tryd.func57, Tryd.ntmps57
    go_wp2
    go_ret
    refine ⟨?_, rfl⟩
    rw [show decide (0 < bs.length) = true from decide_eq_true h0, show decide (bs.length ≤ 64) = decide ((bs.length : Int) ≤ 64) by rw [decide_eq_decide]; omega]; simp
  · have d0 : decide ((0 : Int) < (bs.length : Int)) = false := decide_eq_false (by omega)
    go_enter Tryd.func57, Tryd.ntmps57
    go_wp2
    go_ret
    simp [h0]
def DerL (s : List UInt8) (ps : List (List UInt8)) (p : Nat) (w : World) (i : Value) (wr : World) : Prop :=
  ∃ k : Nat, k ≤ ps.length ∧ i = .int .i64 k ∧ WrAt p (layTo s ps k) wr ∧ Below w.heap.size w wr
theorem results_row_tmp {P : Program} {fn : Func} {p u : Tmp} {ty : TypeId} (h : fn.results = #[.cell p ty, .tmp u]) (tmps : Array Value) (w : World) (g : Nat) (t : TypeId) (cs : Array Value) (fr : Nat × Nat) (d : TypeDesc)
    (hp : tmps.getD p undef = .pointer (some ⟨g, 0, none⟩)) (hg : w.heap[g]? = some (.cells cs t fr))
    (hu : P.underlying ty = some d) (hd : (match d with | .struct _ | .array _ _ => true | _ => false) = true) (hi : (P.info? ty).map (·.size) = some cs.size) :
    (results fn tmps).run P w = .ok (.tuple #[.agg cs, tmps.getD u undef]) w := by
  have hp' : tmps[p]?.getD undef = .pointer (some ⟨g, 0, none⟩) := by simpa using hp
  simp [results, h, hp', asAddr, run_loadVar_row w g t ty cs fr d hg hu hd hi]
theorem psl_form {w : World} {pv : Value} {vs : List Value} {ps : List (List UInt8)} (h : PSl w pv vs ps) : ∃ pa pc, pv = .slice pa ps.length pc ∧ ∀ j, j < ps.length → ∃ b off, pa = some ⟨b, off, none⟩ ∧ b < w.heap.size ∧ w.cell? ⟨b, off + j, none⟩ = some (atV vs j) := by
  rcases h.lies with ⟨rfl, rfl⟩ | ⟨b, off, c, rfl, _, h1, h2⟩
  · exact ⟨_, _, rfl, fun j hj => by simp at hj⟩
  · exact ⟨_, _, rfl, fun j hj => ⟨b, off, rfl, h1, h2 j hj⟩⟩
set_option maxRecDepth 100000 in
set_option maxHeartbeats 2000000 in
theorem derive_any (kv pv : Value) (key s : List UInt8) (vs : List Value) (ps : List (List UInt8)) (w : World) (hk : BSl w kv key) (hP : PSl w pv vs ps) (hk0 : 0 < key.length) (hk1 : key.length ≤ 64) (hs : s.length ≤ 65535)
    (hc0 : ps.length ≤ 1000000) (ht : ps.flatten.length ≤ 100000000) (hK : GlobK w) (hS : GlobS w) (h3 : 3 < w.heap.size) :
    Calls Tryd.prog 23 #[kv, .string ⟨s.toArray⟩, pv] w fun e w' => e = .returned (.tuple #[.agg (c8 (hmB key (layB s ps))), .int .i64 0]) ∧ Below w.heap.size w w' := by
  have HK : Hid (GlobK w) := hK
  have HS : Hid (GlobS w) := hS
  clear hK hS
  obtain ⟨ka, kc, rfl⟩ := hk.len
  obtain ⟨pa, pc, rfl, hF⟩ := psl_form hP
  have HF := Lib.hid hF
  clear hF
  have d0 : decide (0 < key.length) = true := decide_eq_true hk0
  have d1 : decide (key.length ≤ 64) = true := decide_eq_true hk1
  have d2 : decide ((65535 : Int) < (s.length : Int)) = false := decide_eq_false (by omega)
  obtain ⟨S, hS⟩ : ∃ S : ByteArray, S = ⟨s.toArray⟩ := ⟨_, rfl⟩
  have hsz : S.size = s.length := by rw [hS]; simp [ByteArray.size]
  rw [← hS]
  have HSt := Lib.hid hS
  clear hS
  obtain ⟨Y, hY⟩ : ∃ Y, Y = hmB key (layB s ps) := ⟨_, rfl⟩
  have HYL : Hid (Y.length = 32) := by rw [hY]; exact hmB_length _ _
  rw [← hY]
  have HY := Lib.hid hY
  clear hY
  have hr0 : (w.alloc (.cells #[.int .u8 0, .int .u8 0, .int .u8 0, .int .u8 0, .int .u8 0, .int .u8 0, .int .u8 0, .int .u8 0, .int .u8 0, .int .u8 0, .int .u8 0, .int .u8 0, .int .u8 0, .int .u8 0, .int .u8 0, .int .u8 0, .int .u8 0, .int .u8 0, .int .u8 0, .int .u8 0, .int .u8 0, .int .u8 0, .int .u8 0, .int .u8 0, .int .u8 0, .int .u8 0, .int .u8 0, .int .u8 0, .int .u8 0, .int .u8 0, .int .u8 0, .int .u8 0] 43)).heap[w.heap.size]? = some (.cells (c8 (List.replicate 32 0)) 43 (0, 0)) := row_new _ _ _
  have HR0 := Lib.hid hr0
  clear hr0
  go_enter Tryd.func23, Tryd.ntmps23
  go_wp2_with fail
  generalize hw1 : w.alloc _ = w1 at HR0 ⊢
  have hb1 : Below w.heap.size w w1 := by rw [← hw1]; exact alloc_below w
  have hz1 : w1.heap.size = w.heap.size + 1 := by rw [← hw1]; simp
  clear hw1
  have HZ1 := Lib.hid hz1
  clear hz1
  refine (may_any _ key w1 (hk.below hb1 (Nat.le_refl _))).mono ?_
  rintro e w1' ⟨rfl, rfl⟩
  rw [d0, d1]
  go_wp2_with fail
  have hw2 := wr_new w1
  have hb2 : Below w1.heap.size w1 (w1.alloc (.cells #[.slice none 0 0, .int .i64 0] 80)) := alloc_below w1
  rw [HSt.out]
  refine (text_any w1.heap.size [] s _ hw2 (by simp) hs).mono ?_
  rintro e w3 ⟨rfl, hw3, hb3⟩
  rw [List.nil_append] at hw3
  have hb13 : Below w1.heap.size w1 w3 := hb2.trans hb3
  have hb3w : Below w.heap.size w w3 := hb1.trans (hb13.mono (by have := HZ1.out; omega))
  have hb14 := hb13
  clear hb2 hb3 hb13 hw2
  go_wp2
  go_loopw [26] (fun i wr => ∃ k : Nat, k ≤ ps.length ∧ i = .int .i64 k ∧ WrAt w1.heap.size (layTo s ps k) wr ∧ Below w1.heap.size w1 wr) (fun i _ => ps.length - (intOf i).toNat)
  case atStart => exact ⟨0, by omega, rfl, by unfold layTo; exact hw3, hb14⟩
  case round =>
    obtain ⟨k, hkl, rfl, hwr, hbel⟩ := hrel
    have hbw : Below w.heap.size w wr := hb1.trans (hbel.mono (by have := HZ1.out; omega))
    have hlen := layTo_le s ps k hkl
    have hcat := catTo_le ps k
    have HLEN := Lib.hid hlen
    clear hlen
    by_cases hlt : k < ps.length
    · have e1 : decide ((k : Int) < (ps.length : Int)) = true := decide_eq_true (by omega)
      obtain ⟨b, off, rfl, hbl, hcell⟩ := HF.out k hlt
      have hpart := catTo_part ps k hlt
      have hBk := hP.each k hlt
      obtain ⟨a1, c1, hv⟩ := hBk.len
      rw [hv] at hBk hcell
      clear hv
      have g1 : wr.cell? ⟨b, off + k, none⟩ = some (.slice a1 (atP ps k).length c1) := (hbw.cell (p := ⟨b, off + k, none⟩) hbl).trans hcell
      have hpl : (atP ps k).length ≤ 100000000 := by omega
      go_wp2_with fail
      refine (four_any w1.heap.size (atP ps k).length (layTo s ps k) wr hwr (by rw [HLEN.out]; omega) (by omega)).mono ?_
      rintro e w5 ⟨rfl, hw5, hb5⟩
      have hbw5 : Below w.heap.size w w5 := hbw.trans (hb5.mono (by have := HZ1.out; omega))
      go_wp2_with fail
      refine (byte_any w1.heap.size _ (atP ps k) _ w5 hw5 (hBk.below hbw5 (Nat.le_refl _)) (by rw [List.length_append, HLEN.out, be4_length]; omega)).mono ?_
      rintro e w6 ⟨rfl, hw6, hb6⟩
      rw [List.append_assoc] at hw6
      go_wp2
      go_roundw
      case rel => exact ⟨k + 1, by omega, by go_num, by unfold layTo; exact hw6, hbel.trans (hb5.trans hb6)⟩
      case measure => simp [intOf]; omega
    · have e1 : decide ((k : Int) < (ps.length : Int)) = false := decide_eq_false (by omega)
      obtain rfl : k = ps.length := by omega
      go_wp2_with fail
      refine (done_any w1.heap.size (layTo s ps ps.length) wr hwr (by rw [HLEN.out]; omega)).mono ?_
      rintro e w5 ⟨v5, rfl, hown5, hb5⟩
      have hbw5 : Below w.heap.size w w5 := hbw.trans (hb5.mono (by have := HZ1.out; omega))
      have hB5 := BSl.of_owns hown5
      obtain ⟨a5, c5, rfl⟩ := owns_form hown5
      have hb6 : Below w.heap.size w (w5.alloc (.cells #[.slice a5 (layTo s ps ps.length).length c5] 22)) := hbw5.alloc hbw5.size _
      go_wp2_with fail
      refine (hmac_any _ _ key _ _ _ (hk.below hb6 (Nat.le_refl _)) (by omega) (one_psl hB5) (by simp) (by simp [HLEN.out]; omega) (HK.out.below hb6 h3) (HS.out.below hb6 h3) (mid_lt h3 hb6)).mono ?_
      rintro e w7 ⟨rfl, hb7⟩
      rw [show [layTo s ps ps.length].flatten = layB s ps by simp [layB], ← HY.out]
      have hbw7 : Below w.heap.size w w7 := hb6.trans (hb7.mono hb6.size)
      have HR7 : Hid (w7.heap[w.heap.size]? = some (.cells (c8 (List.replicate 32 0)) 43 (0, 0))) := by
        show _ = _
        have h15 : Below w1.heap.size w1 w7 := (hbel.trans hb5).trans (((alloc_below w5).trans (hb7.mono (by simp))).mono (Nat.le_trans hbel.size hb5.size))
        rw [h15.block _ (by have := HZ1.out; omega)]; exact HR0.out
      have HI43 : Hid ((Tryd.prog.info? 43).map (·.size) = some (c8 Y).size) := by rw [c8_size, HYL.out]; exact info43
      have HQ : Hid ((c8 (List.replicate 32 0)).size = (c8 Y).size) := by rw [c8_size, c8_size, HYL.out]; simp [Hid]
      go_wp2_with (refine wpList_store_row rfl 43 (.tmp 6) (.tmp 44) rfl w.heap.size (c8 Y) rfl rfl 43 _ HR7.out HI43.out HQ.out (c8_one _) ?_)
      refine bodyPost_ret (results_row_tmp (p := 6) (u := 7) (ty := 43) rfl _ _ w.heap.size 43 _ (0, 0) _ rfl (setRow_heap _ _ _ _ _ _ HR7.out) Tryd.underlying43 rfl HI43.out) rfl ?_
      exact ⟨rfl, below_setRow hbw7 (Nat.le_refl _) _⟩
end Go.Proofs.YtjkicmlelilcaaaDoor
