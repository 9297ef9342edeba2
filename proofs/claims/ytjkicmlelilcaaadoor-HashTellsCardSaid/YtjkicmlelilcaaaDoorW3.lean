/- The walk over the hash's 'take'. -/
import Derived.Test.YtjkicmlelilcaaaDoorW2
import Derived.Deep.RegionLaw
import Derived.Laws.CopyOwn
namespace Go.Proofs.YtjkicmlelilcaaaDoor
open Go.RowKit
attribute [local go_sem] u32_bits_xor u32_bits_and u32_bits_or u32_add u32_bits_not2

theorem info88 : (Tryd.prog.info? 88).map (·.size) = some 8 := by kernel_rfl
theorem info62 : (Tryd.prog.info? 62).map (·.size) = some 1 := by kernel_rfl
/-- The rounds' constants, as they lie. -/
def GlobK (w : World) : Prop := ∀ i, i < 64 → w.cell? ⟨3, i, none⟩ = some (.int .u32 (N32 (at32 KK i)))

theorem u62 : Tryd.prog.underlying 62 = some (.int .u32) := Tryd.underlying62
theorem index_cw (l : List UInt32) (t : Nat) (hl : l.length = 64) (ht : t < 64) (w : World) :
    (Instr.index 119 (.agg (cw l)) (.int .i64 (t : Int))).run Tryd.prog w = .ok (.int .u32 (N32 (at32 l t))) w := by
  have h1 : (0 : Int) ≤ (t : Int) ∧ (t : Int) < 64 := by omega
  have hi := info62
  cases hq : Tryd.prog.info? 62 with
  | none => simp [hq] at hi
  | some i =>
    simp [hq] at hi
    have hc := cw_at l t (by omega)
    simp [ht, hc, Instr.index, asIntOf, underlying, Tryd.underlying119, part, sizeOf, typeInfo, hq, hi, h1, go_sem]
theorem sum5 (a b c d e : UInt32) : (N32 a + N32 b + N32 c + N32 d + N32 e) % 4294967296 = N32 (a + b + c + d + e) := by
  unfold N32; simp only [UInt32.toNat_add]; omega
theorem sum14 (x a b c d : UInt32) : (N32 x + (N32 a + N32 b + N32 c + N32 d)) % 4294967296 = N32 (x + (a + b + c + d)) := by
  unfold N32; simp only [UInt32.toNat_add]; omega
theorem cp_len {xs : List UInt32} (hl : xs.length = 8) : (cwl (xs.take 7)).length = 7 := by simp [cwl, hl]
theorem cp_pos {w' : World} {X : Nat} {xs : List UInt32} (hX : w'.heap[X]? = some (.cells (cw xs) 88 (0, 0))) (hl : xs.length = 8) :
    0 < (cwl (xs.take 7)).length → (some ⟨X, 1, none⟩ : Option Addr) = some ⟨X, 1, none⟩ ∧ ∃ ad, (some ⟨X, 0, none⟩ : Option Addr) = some ad ∧ ∀ j v, (cwl (xs.take 7))[j]? = some v → w'.cell? (ad.add j) = some v := by
  refine fun _ => ⟨rfl, _, rfl, fun j v hv => ?_⟩
  have hj : j < 7 := by
    have := (List.getElem?_eq_some_iff.1 hv).1
    rw [cp_len hl] at this; exact this
  rw [Addr.add_mid, Nat.zero_add, row_cell hX j (by omega), ← hv]
  simp [cwl, at32, hj, show j < xs.length by omega]
theorem cp_splice {xs : List UInt32} (hl : xs.length = 8) :
    splice (cwl xs) 1 (cwl (xs.take 7)) = cwl [at32 xs 0, at32 xs 0, at32 xs 1, at32 xs 2, at32 xs 3, at32 xs 4, at32 xs 5, at32 xs 6] := by
  match xs, hl with
  | [a, b, c, d, e, f, g, h], _ => rfl
def TakR (s : List UInt32) (bs : List UInt8) (w : World) (i : Value) (wr : World) : Prop :=
  ∃ t : Nat, t ≤ 64 ∧ i = .int .i64 t ∧ wr.heap[w.heap.size]? = some (.cells (cw (rndTo s (schedTo bs 64) t)) 88 (0, 0)) ∧ Below w.heap.size w wr
def TakS (s x : List UInt32) (sb : Nat) (w : World) (i : Value) (wr : World) : Prop :=
  ∃ k : Nat, k ≤ 8 ∧ i = .int .i64 k ∧ wr.heap[w.heap.size]? = some (.cells (cw x) 88 (0, 0)) ∧ wr.heap[sb]? = some (.cells (cw (sumTo s x k)) 88 (0, 0)) ∧ But sb w wr

set_option maxHeartbeats 1000000 in
set_option maxRecDepth 100000 in
theorem take_any (sb bb off cap : Nat) (s : List UInt32) (bs : List UInt8) (w : World) (hb : bb < w.heap.size) (hsb : sb < w.heap.size) (h8 : s.length = 8)
    (hs : w.heap[sb]? = some (.cells (cw s) 88 (0, 0)))
    (hc : ∀ i, i < 64 → w.cell? ⟨bb, off + i, none⟩ = some (.int .u8 (N8 (at8 bs i)))) (hcap : 64 ≤ cap) (hK : GlobK w) (h3 : 3 < w.heap.size) :
    Calls Tryd.prog 49 #[.pointer (some ⟨sb, 0, none⟩), .slice (some ⟨bb, off, none⟩) 64 cap] w fun e w' => e = .returned (.tuple #[]) ∧ w'.heap[sb]? = some (.cells (cw (compW s bs)) 88 (0, 0)) ∧ But sb w w' := by
  have HC := Lib.hid hc
  clear hc
  have HSB := Lib.hid hs
  clear hs
  have HI : Hid ((Tryd.prog.info? 88).map (·.size) = some (cw s).size) := by rw [cw_size, h8]; exact info88
  have HN := Lib.hid (row_new w #[.int .u32 0, .int .u32 0, .int .u32 0, .int .u32 0, .int .u32 0, .int .u32 0, .int .u32 0, .int .u32 0] 88)
  have HZ : Hid ((#[.int .u32 0, .int .u32 0, .int .u32 0, .int .u32 0, .int .u32 0, .int .u32 0, .int .u32 0, .int .u32 0] : Array Value).size = (cw s).size) := by rw [cw_size, h8]; rfl
  have H8 := Lib.hid h8
  clear h8
  obtain ⟨w1, hw1⟩ : ∃ w1, w1 = (w.alloc (.cells #[.int .u32 0, .int .u32 0, .int .u32 0, .int .u32 0, .int .u32 0, .int .u32 0, .int .u32 0, .int .u32 0] 88)).setRow w.heap.size (cw s) := ⟨_, rfl⟩
  have hb1 : Below w.heap.size w w1 := by rw [hw1]; exact below_setRow ((Below.refl _ _).alloc (Nat.le_refl _) _) (Nat.le_refl _) _
  have hx1 : w1.heap[w.heap.size]? = some (.cells (cw s) 88 (0, 0)) := by rw [hw1]; exact setRow_heap _ _ _ _ _ _ HN.out
  have hz1 : w1.heap.size = w.heap.size + 1 := by rw [hw1]; simp
  have HW1 := Lib.hid hw1
  clear hw1
  have HX1 := Lib.hid hx1
  clear hx1
  have HZ1 := Lib.hid hz1
  clear hz1
  go_enter Tryd.func49, Tryd.ntmps49
  go_wp2_with (first | (refine wpList_load_row rfl 88 (.tmp 13) rfl sb rfl 88 _ (0, 0) _ HSB.out Tryd.underlying88 rfl HI.out ?_) | (refine wpList_store_row rfl 88 (.tmp 4) (.tmp 14) rfl w.heap.size (cw s) rfl rfl 88 _ HN.out HI.out HZ.out (cw_one _) ?_))
  rw [← HW1.out]
  refine (schedule_any bb off cap bs w1 (by have := HZ1.out; omega) (fun i hi => by rw [hb1.cell (p := ⟨bb, off + i, none⟩) hb]; exact HC.out i hi) hcap).mono ?_
  rintro e w2 ⟨rfl, hb2⟩
  have hb3 : Below w.heap.size w w2 := hb1.trans (hb2.mono (by have := HZ1.out; omega))
  have HX2 : Hid (w2.heap[w.heap.size]? = some (.cells (cw s) 88 (0, 0))) := by rw [hb2.block _ (by have := HZ1.out; omega)]; exact HX1.out
  have HK : Hid (GlobK w) := hK
  clear hK hb1 hb2
  go_wp2
  go_loopw [17] (TakR s bs w) (fun i _ => 64 - (intOf i).toNat)
  case atStart => exact ⟨0, by omega, rfl, HX2.out, hb3⟩
  case round =>
    obtain ⟨t, ht, rfl, hX, hbel⟩ := hrel
    have HX := Lib.hid hX
    clear hX
    by_cases h64 : t < 64
    · have d64 : decide ((t : Int) < 64) = true := by simp; omega
      have hix : ∀ w : World, (Instr.index 119 (.agg (cw (schedTo bs 64))) (.int .i64 (t : Int))).run Tryd.prog w = .ok (.int .u32 (N32 (at32 (schedTo bs 64) t))) w := by
        exact index_cw _ _ (schedTo_length _ _) h64
      obtain ⟨xs, hxs⟩ : ∃ xs, xs = rndTo s (schedTo bs 64) t := ⟨_, rfl⟩
      have hl : xs.length = 8 := by rw [hxs]; exact rndTo_length _ _ _ H8.out
      rw [← hxs] at HX
      have HXS := Lib.hid hxs
      clear hxs
      have c0 := row_cell HX.out 0 (by omega)
      have c1 := row_cell HX.out 1 (by omega)
      have c2 := row_cell HX.out 2 (by omega)
      have c3 := row_cell HX.out 3 (by omega)
      have c4 := row_cell HX.out 4 (by omega)
      have c5 := row_cell HX.out 5 (by omega)
      have c6 := row_cell HX.out 6 (by omega)
      have c7 := row_cell HX.out 7 (by omega)
      have cK : wr.cell? ⟨3, t, none⟩ = some (.int .u32 (N32 (at32 KK t))) := by rw [hbel.cell (p := ⟨3, t, none⟩) h3]; exact HK.out t h64
      have HL := Lib.hid hl
      clear hl
      have z0 : (0 : Int) ≤ (t : Int) := by omega
      have b0 : (t : Int) < 64 := by omega
      go_wp2
      go_quiet (fail)
      go_wp2
      go_quiet ((go_at_call 75; exact q_two (turn_any _ _ _ _ _ (by decide) (by decide) (by decide) (by decide) (by decide) (by decide))))
      go_wp2
      go_quiet ((go_at_call 75; exact q_two (turn_any _ _ _ _ _ (by decide) (by decide) (by decide) (by decide) (by decide) (by decide))))
      go_wp2
      go_region_law (refine step_copy_splice rfl (.tmp 65) (.tmp 66) 93 93 rfl 62 Tryd.underlying93 info62 (some ⟨w.heap.size, 1, none⟩) (some ⟨w.heap.size, 0, none⟩) 7 7 7 8 rfl rfl w.heap.size 1 (cwl xs) 88 HX.out (cwl (xs.take 7)) (cp_len HL.out) (cp_pos HX.out HL.out) (by rw [cp_len HL.out]; simp [cwl, HL.out]) (fun v hv => (Array.all_eq_true_iff_forall_mem.1 (cw_one (xs.take 7))) v (by simpa [cw] using hv)) w.heap.size w ⟨hbel.os, hbel.tape, hbel.output, hbel.size, hbel.block⟩ (Nat.le_refl _) ?_; intro w4 HG4 hb4)
      rw [cp_splice HL.out] at HG4
      have HG5 : Hid (w4.heap[w.heap.size]? = some (.cells (cw [at32 xs 0, at32 xs 0, at32 xs 1, at32 xs 2, at32 xs 3, at32 xs 4, at32 xs 5, at32 xs 6]) 88 (0, 0))) := HG4.out
      clear HG4 c0 c1 c2 c3 c4 c5 c6 c7 cK
      have c0 : w4.cell? ⟨w.heap.size, 0, none⟩ = some (.int .u32 (N32 (at32 xs 0))) := row_cell HG5.out 0 (by simp)
      have c4 : w4.cell? ⟨w.heap.size, 4, none⟩ = some (.int .u32 (N32 (at32 xs 3))) := row_cell HG5.out 4 (by simp)
      have f0 : w4.frozen? ⟨w.heap.size, 0, none⟩ = false := row_free HG5.out 0
      have f4 : w4.frozen? ⟨w.heap.size, 4, none⟩ = false := row_free HG5.out 4
      have HF := Lib.hid (row_set (row_set HG5.out 0 (oneW xs (at32 KK t) (at32 (schedTo bs 64) t) + twoW xs)) 4 (at32 xs 3 + oneW xs (at32 KK t) (at32 (schedTo bs 64) t)))
      go_wp2
      go_roundw
      case rel =>
        rw [sum5, sum14]
        exact ⟨t + 1, by omega, by go_num, by rw [rndTo, ← HXS.out]; exact HF.out, (hb4.setCell (Nat.le_refl _) _).setCell (Nat.le_refl _) _⟩
      case measure => simp [intOf]; omega
    · have d64 : decide ((t : Int) < 64) = false := by simp; omega
      obtain rfl : t = 64 := by omega
      obtain ⟨xs, hxs⟩ : ∃ xs, xs = rndTo s (schedTo bs 64) 64 := ⟨_, rfl⟩
      have hl : xs.length = 8 := by rw [hxs]; exact rndTo_length _ _ _ H8.out
      rw [← hxs] at HX
      have HXS := Lib.hid hxs
      clear hxs
      have HL := Lib.hid hl
      clear hl
      have HS0 : Hid (wr.heap[sb]? = some (.cells (cw s) 88 (0, 0))) := by rw [hbel.block sb hsb]; exact HSB.out
      have hbut : But sb w wr := But.of_below hbel
      obtain ⟨wo, rfl⟩ : ∃ wo : World, wo = wr := ⟨_, rfl⟩
      go_wp2
      go_loopw [78] (TakS s xs sb w) (fun i _ => 8 - (intOf i).toNat)
      case atStart => exact ⟨0, by omega, rfl, HX.out, HS0.out, hbut⟩
      case round =>
        obtain ⟨k, hk, rfl, hx, hs, hbut2⟩ := hrel
        have HX2 := Lib.hid hx
        have HS2 := Lib.hid hs
        clear hx hs
        by_cases h8 : k < 8
        · have d8 : decide ((k : Int) < 8) = true := by simp; omega
          have z0 : (0 : Int) ≤ (k : Int) := by omega
          have b0 : (k : Int) < 8 := by omega
          have cx := row_cell HX2.out k (by rw [HL.out]; exact h8)
          have cs := row_cell HS2.out k (by rw [sumTo_length, H8.out]; exact h8)
          have fs := row_free HS2.out k
          have HF := Lib.hid (row_set HS2.out k (at32 (sumTo s xs k) k + at32 xs k))
          go_wp2
          go_region
          go_wp2
          go_roundw
          case rel =>
            refine ⟨k + 1, by omega, by go_num, ?_, HF.out, ?_⟩
            · exact (heap_setCell_other _ _ _ _ (by simp; omega)).trans HX2.out
            · exact (hbut2.setCell _).drewN (n := 1)
          case measure => simp [intOf]; omega
        · have d8 : decide ((k : Int) < 8) = false := by simp; omega
          obtain rfl : k = 8 := by omega
          go_wp2
          go_end0
          exact ⟨rfl, by rw [compW, ← HXS.out]; exact HS2.out, hbut2⟩
end Go.Proofs.YtjkicmlelilcaaaDoor
