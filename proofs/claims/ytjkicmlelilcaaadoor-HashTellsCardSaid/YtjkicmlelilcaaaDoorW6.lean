/- The walk over the hash's Sha256. -/
import Derived.Test.YtjkicmlelilcaaaDoorW3
import Derived.Test.YtjkicmlelilcaaaDoorW4
import Derived.Test.YtjkicmlelilcaaaDoorW5
import Derived.Test.YtjkicmlelilcaaaDoorZeros
import Derived.Test.YtjkicmlelilcaaaDoorSha
import Derived.Shelf.Abstract
import Derived.RangeFuncCalls
namespace Go.Proofs.YtjkicmlelilcaaaDoor
open Go.RowKit Go.Shelf
attribute [local go_sem] Oper.semAt_some

/-- The start's words, as they lie. -/
def GlobS (w : World) : Prop := ∀ i, i < 8 → w.cell? ⟨0, i, none⟩ = some (.int .u32 (N32 (at32 S0 i)))
theorem padZ_eq (n : Nat) : ((120 : Int) - ((n : Int) + 1) % 64) % 64 = (padZ n : Int) := by unfold padZ; omega

theorem info24 : (Tryd.prog.info? 24).map (·.size) = some 32 := by kernel_rfl
def ShaO (st : List UInt32) (W : World) (i : Value) (W2 : World) : Prop :=
  ∃ k : Nat, k ≤ 32 ∧ i = .int .i64 k ∧ W2.heap[W.heap.size]? = some (.cells (c8 (outTo st k)) 24 (0, 0)) ∧ Below W.heap.size W W2
def ShaL (bs : List UInt8) (w1 : World) (v i : Value) (wr : World) : Prop :=
  ∃ k : Nat, k ≤ 8 ∧ i = .int .i64 k ∧ wr.ownsRow w1.heap.size 5 1 v (padTo bs k).length (c8l (padTo bs k)) ∧ Below w1.heap.size w1 wr

theorem kb_put {Bs n : Nat} (hB : Bs + 1 < n) (W : World) (l : Nat) (o o' : Obj) (hl : n ≤ l) (_ : W.heap[l]? = some o) (_ : o.isCells = false) (_ : o.isWalk = false) : KB Bs W (W.putObj l o') := by
  have hg := grownBy_putObj' W l o'
  have h1 : ∀ k, k < l → (W.putObj l o').heap[k]? = W.heap[k]? := fun k hk => by
    by_cases hs : k < W.heap.size
    · exact hg.block k hs (fun e => by cases e; omega)
    · have : (W.putObj l o').heap.size = W.heap.size := by simp [World.putObj]
      rw [Array.getElem?_eq_none (by omega), Array.getElem?_eq_none (by omega)]
  exact ⟨h1 _ (by omega), h1 _ (by omega)⟩
theorem own_st {sb n : Nat} {bs : List UInt8} {w6 : World} (hn : sb < n) (hw : w6.heap.size = n := by rfl) : OwnFrom n (fun (pre : List Nat) W => W.heap[sb]? = some (.cells (cw (stL bs pre)) 88 (0, 0)) ∧ But sb w6 W) := by
  intro pre W W' row ⟨h1, h2⟩ hg hr
  have hs : sb < W.heap.size := (Array.getElem?_eq_some_iff.1 h1).1
  have hb : ∀ k, k < n → k < W.heap.size → W'.heap[k]? = W.heap[k]? := fun k hk hk2 => hg.block k hk2 (fun e => by have := (hr k e.symm).1; omega)
  exact ⟨(hb sb hn hs).trans h1, ⟨hg.os.trans h2.os, hg.tape.trans h2.tape, hg.output.trans h2.output, Nat.le_trans h2.size hg.size, fun k hk hne => (hb k (by omega) (Nat.lt_of_lt_of_le hk h2.size)).trans (h2.block k hk hne)⟩⟩

set_option maxRecDepth 100000 in
set_option maxHeartbeats 2000000 in
theorem sha_any (pv : Value) (vs : List Value) (ps : List (List UInt8)) (w : World) (hP : PSl w pv vs ps) (hc0 : ps.length ≤ 1000000000) (ht : ps.flatten.length ≤ 100000000000)
    (hK : GlobK w) (hS : GlobS w) (h3 : 3 < w.heap.size) :
    Calls Tryd.prog 12 #[pv] w fun e w' => e = .returned (.agg (c8 (shaB ps.flatten))) ∧ Below w.heap.size w w' := by
  obtain ⟨i0, hi, hz0, hz1, hz2⟩ := info_parts info5
  have HI := Lib.hid hi
  have HZ := Lib.hid hz0
  have H1 := Lib.hid hz1
  have H2 := Lib.hid hz2
  clear hi hz0 hz1 hz2
  have HK : Hid (GlobK w) := hK
  have HS : Hid (GlobS w) := hS
  clear hK hS
  obtain ⟨bs, hbs⟩ : ∃ bs, bs = ps.flatten := ⟨_, rfl⟩
  have HBS := Lib.hid hbs
  rw [← hbs] at ht
  clear hbs
  have HR1 := Lib.hid (row_new8 w)
  refine callsIn_wide.1 (callsIn_of_wp_marks (n := 7) Tryd.func12 rfl trivial (wpIn_wide.2 ?_) rfl)
  simp only [Tryd.ntmps12, List.size_toArray, List.length_cons, List.length_nil, Nat.reduceAdd, Nat.reduceSub, Array.replicate_succ, Array.replicate_zero, List.push_toArray, List.append_toArray, List.nil_append, List.cons_append]
  go_wp2_with fail
  generalize hw1 : w.alloc _ = w1 at HR1 ⊢
  have hb1 : Below w.heap.size w w1 := by rw [← hw1]; exact (Below.refl _ _).alloc (Nat.le_refl _) _
  have hz1 : w1.heap.size = w.heap.size + 1 := by rw [← hw1]; simp
  clear hw1
  have HZ1 := Lib.hid hz1
  clear hz1
  refine (concat_any pv vs ps w1 (hP.below hb1 (Nat.le_refl _)) hc0 (by rw [← HBS.out]; omega)).mono ?_
  rw [← HBS.out]
  rintro e w2 ⟨v, rfl, hown, hb2⟩
  obtain ⟨a2, c2, hv2⟩ := (BSl.of_owns hown).len
  rw [hv2] at hown ⊢
  clear hv2
  have hz2 := hb2.size
  go_wp2_with (at_builtin; refine wpList_append_own _ rfl (.tmp 16) (.tmp 17) 22 rfl w1.heap.size 5 i0 (.int .u8 0) 1 1 Tryd.underlying22 HI.out HZ.out H1.out H2.out rfl (by decide) _ _ _ rfl (hown.alloc _) ⟨w2.heap.size, 0, none⟩ 1 1 (c8l [128]) rfl rfl (cell_one_new _ _ _) (c8l_one _) (by unfold maxLen; omega) (by omega) (by simp; omega) ?_)
  intro v3 w3 hown3 hg3 _
  rw [← c8l_append] at hown3
  have hb3 : Below w1.heap.size w1 w3 := (hb2.alloc hz2 _).grown hg3 (by simp; omega) (fun g hg => owns_block hown hg)
  have hz3 := hb3.size
  have hl3 : (bs ++ [128]).length = bs.length + 1 := by simp
  rw [← hl3] at hown3
  obtain ⟨a3, c3, hv3⟩ := (BSl.of_owns hown3).len
  rw [hv3] at hown3 ⊢
  rw [hl3] at hown3 ⊢
  clear hv3 hown hl3 hg3 hb2 hz2
  have HPZ := Lib.hid (padZ_eq bs.length)
  have hpl : padZ bs.length ≤ 64 := by unfold padZ; omega
  go_wp2_with (at_builtin; refine wpList_zeros_own rfl (.tmp 19) (.tmp 24) rfl w1.heap.size (bs.length + 1) (padZ bs.length) _ (bs ++ [128]) rfl (congrArg (Value.int IntKind.i64) HPZ.out) hown3 (by omega) (by omega) hz3 ?_)
  intro v4 w4 hown4 hg4
  have hb4 : Below w1.heap.size w1 w4 := hb3.grown hg4 hz3 (fun g hg => owns_block hown3 hg)
  clear hown3 hg4 hb3 hz3
  have hown5 : w4.ownsRow w1.heap.size 5 1 v4 (padTo bs 0).length (c8l (padTo bs 0)) := by
    rw [padTo_length]; simpa [padTo, pad0] using hown4
  clear hown4
  go_wp2
  go_loopw [3, 26] (ShaL bs w1) (fun _ i _ => 8 - (intOf i).toNat)
  case atStart => exact ⟨0, by omega, rfl, hown5, hb4⟩
  case round =>
    obtain ⟨k, hk, rfl, hown6, hb6⟩ := hrel
    have hl6 := padTo_length bs k
    have hz6 := hb6.size
    by_cases h8 : k < 8
    · have d8 : decide ((k : Int) < 8) = true := decide_eq_true (by omega)
      have hle : (padTo bs k).length ≤ 200000000000 := by omega
      have HE := Lib.hid (lenB_eq bs.length k)
      have HL6 := Lib.hid hl6
      clear hl6
      go_wp2_with (at_builtin; refine wpList_append_own _ rfl (.tmp 29) (.tmp 36) 22 rfl w1.heap.size 5 i0 (.int .u8 0) 1 1 Tryd.underlying22 HI.out HZ.out H1.out H2.out rfl (by decide) _ _ _ rfl (hown6.alloc _) ⟨wr.heap.size, 0, none⟩ 1 1 [.int .u8 ((bs.length : Int) * 8 / 2 ^ (56 - 8 * k) % 256)] rfl rfl (cell_one_new _ _ _) (by simp [Value.oneCell']) (by unfold maxLen; omega) (by omega) (by simp; omega) ?_)
      intro v7 w7 hown7 hg7 _
      rw [HE.out] at hown7
      have hb7 : Below w1.heap.size w1 w7 := (hb6.alloc hz6 _).grown hg7 (by simp; omega) (fun g hg => owns_block hown6 hg)
      have hown8 : w7.ownsRow w1.heap.size 5 1 v7 (padTo bs (k + 1)).length (c8l (padTo bs (k + 1))) := by
        rw [padTo_succ, List.length_append, c8l_append]; exact hown7
      clear hown7 hown6 hg7
      go_wp2
      go_roundw
      case rel => exact ⟨k + 1, by omega, by go_num, hown8, hb7⟩
      case measure => simp [intOf]; omega
    · obtain rfl : k = 8 := by omega
      have d8 : decide (((8 : Nat) : Int) < 8) = false := by decide
      have d8' : decide ((8 : Int) < 8) = false := by decide
      rcases hown6.2 with ⟨rfl, h0⟩ | ⟨g, cap, cur, rfl, hbg, hg, hnc, hcm, hcs, htake⟩
      · omega
      have hpl8 := pad_length bs
      have hbl8 := blocks_le bs
      have HRD : Hid (∀ j, j < 64 * blocks bs → wr.cell? ⟨g, j, none⟩ = some (.int .u8 (N8 (at8 (padTo bs 8) j)))) := by
        intro j hj
        rcases BSl.of_owns hown6 with ⟨h, _⟩ | ⟨b', o', c', e', _, _, hx⟩ | ⟨_, _, h⟩
        rotate_right
        · rw [h] at hpl8; simp only [List.length_nil] at hpl8; omega
        · cases h
        · cases e'
          have := hx j (by rw [hpl8]; exact hj)
          rwa [Nat.zero_add] at this
      have hgl : g < wr.heap.size := (Array.getElem?_eq_some_iff.1 hg).1
      rw [hpl8] at hnc ⊢
      clear hown6 hg hcs htake hl6 hpl8
      have HRS : Hid (wr.rangeAt 0 0 (cwl S0)) := by
        intro j v hj
        have hj8 : j < 8 := by have := (List.getElem?_eq_some_iff.1 hj).1; simpa [cwl, S0] using this
        rw [Nat.zero_add, hb6.cell (p := ⟨0, j, none⟩) (by have := HZ1.out; simp; omega), hb1.cell (p := ⟨0, j, none⟩) (by simp; omega), HS.out j hj8, ← hj]
        have := cw_at S0 j hj8
        rw [cw, List.getElem?_toArray] at this
        exact this.symm
      go_wp2_with (first | (refine wpList_load_mid rfl 88 (.global 0) rfl 0 0 rfl (cwl S0) _ HRS.out Tryd.underlying88 rfl info88 ?_) | (refine wpList_store_row rfl 88 (.tmp 6) (.tmp 39) rfl wr.heap.size (cw S0) rfl rfl 88 _ (row_new _ _ _) info88 rfl (cw_one _) ?_))
      obtain ⟨w5, hw5⟩ : ∃ w5, w5 = (wr.alloc (.cells #[.int .u32 0, .int .u32 0, .int .u32 0, .int .u32 0, .int .u32 0, .int .u32 0, .int .u32 0, .int .u32 0] 88)).setRow wr.heap.size (cw S0) := ⟨_, rfl⟩
      rw [← hw5]
      have hb5 : Below wr.heap.size wr w5 := by rw [hw5]; exact below_setRow ((Below.refl _ _).alloc (Nat.le_refl _) _) (Nat.le_refl _) _
      have HX5 : Hid (w5.heap[wr.heap.size]? = some (.cells (cw S0) 88 (0, 0))) := by rw [hw5]; exact setRow_heap _ _ _ _ _ _ (row_new _ _ _)
      have HZ5 : Hid (w5.heap.size = wr.heap.size + 1) := by rw [hw5]; simp [Hid]
      clear hw5
      refine (chunk_any _ _ _ _).mono ?_
      rintro e w6 ⟨rfl, hw6⟩
      have hb56 : Below w5.heap.size w5 w6 := by rw [← hw6]; exact ((Below.refl _ _).alloc (Nat.le_refl _) _).alloc (by simp) _
      have hz6' : w6.heap.size = w5.heap.size + 2 := by rw [← hw6]; simp
      have hx1 : w6.cell? ⟨w5.heap.size, 0, none⟩ = some (.slice (some ⟨g, 0, none⟩) (64 * blocks bs) cap) := by rw [← hw6]; simp
      have hx2 : w6.cell? ⟨w5.heap.size + 1, 0, none⟩ = some (.int .i64 64) := by
        rw [← hw6]
        have := World.cell?_alloc_new (w5.alloc (.cells #[.slice (some ⟨g, 0, none⟩) (64 * blocks bs) cap] 22)) #[.int .i64 64] 3 0
        simp
      clear hw6
      have HX1 := Lib.hid hx1
      have HX2 := Lib.hid hx2
      have HZ6 := Lib.hid hz6'
      clear hx1 hx2 hz6'
      go_wp2
      have hbm : 1 ≤ blocks bs := by unfold blocks padZ; omega
      refine wpIn_wide.1 (wpIn_rangeFunc_ownG (F := Fence.wide) (n := 7) rfl (by decide) (gf := 73) (lb := #[.pointer (some ⟨w5.heap.size, 0, none⟩), .pointer (some ⟨w5.heap.size + 1, 0, none⟩)]) rfl trivial (enters_of Tryd.func73 (by kernel_rfl) rfl)
        (chunk_stops w5.heap.size g (blocks bs) cap (by omega) hnc w6 (by have := HZ6.out; omega) HX1.out HX2.out) KB.trans (kb_put (by have := HZ6.out; omega)) (Below.refl _ _) (fun _ => rfl)
        (fun pre W => W.heap[wr.heap.size]? = some (.cells (cw (stL bs pre)) 88 (0, 0)) ∧ But wr.heap.size w6 W) (fun _ _ _ => False)
        (own_st (by have := HZ6.out; have := HZ5.out; omega)) (fun _ _ _ _ _ h _ _ => h.elim)
        ⟨by rw [hb56.block _ (by have := HZ5.out; omega)]; exact HX5.out, But.of_below (Below.refl _ _)⟩
        (fun x => { tmps := #[pv, undef, .pointer (some ⟨w.heap.size, 0, none⟩), .slice (some ⟨g, 0, none⟩) (64 * blocks bs) cap, .int .u64 ((bs.length : Int) * 8), u5, .pointer (some ⟨wr.heap.size, 0, none⟩), chunkV g (x % blocks bs), undef, undef, pv, .slice a2 bs.length c2, .slice a2 bs.length c2, .int .i64 bs.length, .int .u64 bs.length, .int .u64 ((bs.length : Int) * 8), .slice a2 bs.length c2, .slice (some ⟨w2.heap.size, 0, none⟩) 1 1, .slice a3 (bs.length + 1) c3, .slice a3 (bs.length + 1) c3, .slice a3 (bs.length + 1) c3, .int .i64 ((bs.length : Int) + 1), .int .i64 (((bs.length : Int) + 1) % 64), .int .i64 (120 - ((bs.length : Int) + 1) % 64), .int .i64 ((120 - ((bs.length : Int) + 1)) % 64), v4, .int .i64 8, .bool false, u28, u29, u30, u31, u32, u33, u34, u35, u36, u37, u38, .agg (cwl S0).toArray, .slice (some ⟨g, 0, none⟩) (64 * blocks bs) cap, .func (.func 73) #[] #[.pointer (some ⟨w5.heap.size, 0, none⟩), .pointer (some ⟨w5.heap.size + 1, 0, none⟩)], chunkV g (x % blocks bs), undef, undef, undef, undef, undef, undef, undef, undef, undef, undef, undef, undef, undef, undef, undef, undef, undef, undef, undef], defers := [] }) ?assign ?body ?done ?stop)
      case assign =>
        intro l x W K hK
        gi_wp2
        exact hK
      case body =>
        rintro l pre x W ⟨hst, hbut⟩ _
        have hxm : x % blocks bs < blocks bs := Nat.mod_lt _ (by omega)
        have hgW : W.heap[g]? = wr.heap[g]? := (hbut.block g (by have := HZ6.out; have := HZ5.out; omega) (by omega)).trans ((hb56.block g (by have := HZ5.out; omega)).trans (hb5.block g hgl))
        have h3W : W.heap[3]? = w.heap[3]? := (hbut.block 3 (by have := HZ6.out; have := HZ5.out; have := HZ1.out; omega) (by have := HZ1.out; omega)).trans ((hb56.block 3 (by have := HZ5.out; have := HZ1.out; omega)).trans ((hb5.block 3 (by have := HZ1.out; omega)).trans ((hb6.block 3 (by have := HZ1.out; omega)).trans (hb1.block 3 h3))))
        have hWs := hbut.size
        have HCW : Hid (∀ i, i < 64 → W.cell? ⟨g, 64 * (x % blocks bs) + i, none⟩ = some (.int .u8 (N8 (at8 (blk (padTo bs 8) (x % blocks bs)) i)))) := fun i hi => by
          rw [World.cell?_of_block (w := wr) (a := ⟨g, 64 * (x % blocks bs) + i, none⟩) hgW, HRD.out _ (by omega), at8_blk _ _ _ hi]
        have HKW : Hid (GlobK W) := fun i hi => by rw [World.cell?_of_block (w := w) (a := ⟨3, i, none⟩) h3W]; exact HK.out i hi
        have HST := Lib.hid hst
        clear hst hgW h3W
        gi_wp2
        unfold chunkV
        refine ⟨trivial, (CallsIn.inRound l (callsIn_wide.2 (take_any wr.heap.size g (64 * (x % blocks bs)) 64 (stL bs pre) (blk (padTo bs 8) (x % blocks bs)) W (by have := HZ6.out; have := HZ5.out; omega) (by have := HZ6.out; have := HZ5.out; omega) (stL_length _ _) HST.out HCW.out (by decide) HKW.out (by have := HZ6.out; have := HZ5.out; have := HZ1.out; omega)))).mono ?_⟩
        rintro e W2 ⟨rfl, hst2, hbut2⟩
        have HST2 := Lib.hid hst2
        clear hst2
        gi_wp2
        refine ⟨⟨hbut2.size, fun k o hk ho _ => (hbut2.block k (Array.getElem?_eq_some_iff.1 ho).1 (by have := HZ6.out; have := HZ5.out; omega)).trans ho⟩, ⟨hbut2.block _ (by have := HZ6.out; omega) (by have := HZ5.out; omega), hbut2.block _ (by have := HZ6.out; omega) (by have := HZ5.out; omega)⟩, by rw [stL_snoc]; exact HST2.out, ?_⟩
        exact ⟨hbut2.os.trans hbut.os, hbut2.tape.trans hbut.tape, hbut2.output.trans hbut.output, Nat.le_trans hbut.size hbut2.size, fun k hk hne => (hbut2.block k (Nat.lt_of_lt_of_le hk hbut.size) hne).trans (hbut.block k hk hne)⟩
      case done =>
        rintro D ys W hD rfl ⟨hst, hbut⟩ hKD
        rw [stL_range bs _ (Nat.le_refl _)] at hst
        have HST := Lib.hid hst
        have HKD := Lib.hid hKD
        clear hst hKD
        have HRW : Hid (W.heap[w.heap.size]? = some (.cells (c8 (List.replicate 32 0)) 24 (0, 0))) := by
          show _ = _
          rw [hbut.block _ (by have := HZ6.out; have := HZ5.out; have := HZ1.out; omega) (by have := HZ1.out; omega), hb56.block _ (by have := HZ5.out; have := HZ1.out; omega), hb5.block _ (by have := HZ1.out; omega), hb6.block _ (by have := HZ1.out; omega)]
          exact HR1.out
        have HBW : Hid (Below w.heap.size w W) := by
          have a1 := hb1.trans ((hb6.mono (by have := HZ1.out; omega)).trans ((hb5.mono (by have := HZ1.out; omega)).trans (hb56.mono (by have := HZ5.out; have := HZ1.out; omega))))
          exact a1.trans ⟨hbut.os, hbut.tape, hbut.output, hbut.size, fun k hk => hbut.block k (by have := HZ6.out; have := HZ5.out; have := HZ1.out; omega) (by have := HZ1.out; omega)⟩
        have hWz : wr.heap.size < W.heap.size := by have := hbut.size; have := HZ6.out; have := HZ5.out; omega
        have hRz : w.heap.size < wr.heap.size := by have := HZ1.out; omega
        go_wp2
        obtain ⟨wo, rfl⟩ : ∃ wo : World, wo = wr := ⟨_, rfl⟩
        go_loopw [45] (ShaO (stTo bs (blocks bs)) W) (fun i _ => 32 - (intOf i).toNat)
        case atStart => exact ⟨0, by omega, rfl, row_new8 W, (Below.refl _ _).alloc (Nat.le_refl _) _⟩
        case round =>
          obtain ⟨k, hk, rfl, ho, hb9⟩ := hrel
          have HO := Lib.hid ho
          clear ho
          by_cases h32 : k < 32
          · have d32 : decide ((k : Int) < 32) = true := decide_eq_true (by omega)
            have cs : wr.cell? ⟨wo.heap.size, k / 4, none⟩ = some (.int .u32 (N32 (at32 (stTo bs (blocks bs)) (k / 4)))) := by
              rw [hb9.cell (p := ⟨wo.heap.size, k / 4, none⟩) hWz]; exact row_cell HST.out _ (by rw [stTo_length]; omega)
            have co := row8_cell HO.out k (by rw [outTo_length]; exact h32)
            have fo := row_free HO.out k
            have HE := Lib.hid (outB_eq (stTo bs (blocks bs)) k)
            have HF := Lib.hid (row8_set HO.out k (outB (stTo bs (blocks bs)) k))
            go_wp2
            go_roundw
            case rel =>
              rw [HE.out]
              exact ⟨k + 1, by omega, by go_num, HF.out, hb9.setCell (Nat.le_refl _) _⟩
            case measure => simp [intOf]; omega
          · have d32 : decide ((k : Int) < 32) = false := decide_eq_false (by omega)
            obtain rfl : k = 32 := by omega
            have HI24 : Hid ((Tryd.prog.info? 24).map (·.size) = some (c8 (outTo (stTo bs (blocks bs)) 32)).size) := by rw [c8_size, outTo_length]; exact info24
            have HR9 : Hid (wr.heap[w.heap.size]? = some (.cells (c8 (List.replicate 32 0)) 24 (0, 0))) := by
              show _ = _
              rw [hb9.block _ (by omega)]; exact HRW.out
            have HQ : Hid ((c8 (List.replicate 32 0)).size = (c8 (outTo (stTo bs (blocks bs)) 32)).size) := by rw [c8_size, c8_size, outTo_length]; simp [Hid]
            go_wp2_with (first | (refine wpList_load_row rfl 24 (.tmp 8) rfl W.heap.size rfl 24 _ (0, 0) _ HO.out Tryd.underlying24 rfl HI24.out ?_) | (refine wpList_store_row rfl 24 (.tmp 2) (.tmp 61) rfl w.heap.size (c8 (outTo (stTo bs (blocks bs)) 32)) rfl rfl 24 _ HR9.out HI24.out HQ.out (c8_one _) ?_))
            have hD1 : wr.heap[D]? = some (.deferred (some [])) := (hb9.block D (Array.getElem?_eq_some_iff.1 HKD.out).1).trans HKD.out
            have hDR : D ≠ w.heap.size := by have := HZ6.out; have := HZ5.out; omega
            have hD2 : (wr.setRow w.heap.size (c8 (outTo (stTo bs (blocks bs)) 32))).heap[D]? = some (.deferred (some [])) := (setRow_other _ _ _ _ hDR).trans hD1
            refine ⟨by simp, .inl ⟨_, _, rfl, run_takeDeferred hD2, ?_⟩⟩
            have hR1 : (wr.setRow w.heap.size (c8 (outTo (stTo bs (blocks bs)) 32))).heap[w.heap.size]? = some (.cells (c8 (outTo (stTo bs (blocks bs)) 32)) 24 (0, 0)) := setRow_heap _ _ _ _ _ _ HR9.out
            have hR2 : ((wr.setRow w.heap.size (c8 (outTo (stTo bs (blocks bs)) 32))).putObj D (.deferred none)).heap[w.heap.size]? = some (.cells (c8 (outTo (stTo bs (blocks bs)) 32)) 24 (0, 0)) :=
              ((grownBy_putObj' _ D (.deferred none)).block _ (Array.getElem?_eq_some_iff.1 hR1).1 (fun e => by cases e; exact hDR rfl)).trans hR1
            refine ⟨.agg (c8 (shaB bs)), results_cell_row (p := 2) (ty := 24) rfl _ _ w.heap.size 24 _ (0, 0) _ rfl hR2 Tryd.underlying24 rfl HI24.out, by rw [← HBS.out], ?_⟩
            have hfin : Below w.heap.size w (wr.setRow w.heap.size (c8 (outTo (stTo bs (blocks bs)) 32))) := below_setRow (HBW.out.trans (hb9.mono (by omega))) (Nat.le_refl _) _
            exact hfin.trans (belowK_b (w := w) (Nat.le_refl _) _ D _ _ (by have := HZ6.out; have := HZ5.out; omega) hD2 rfl rfl)
      case stop =>
        rintro D c pre W _ _ h _
        exact h.elim
end Go.Proofs.YtjkicmlelilcaaaDoor
