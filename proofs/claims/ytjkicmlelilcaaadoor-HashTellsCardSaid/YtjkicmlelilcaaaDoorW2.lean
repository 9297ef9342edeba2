/- The walk over the hash's schedule. -/
import Derived.Test.YtjkicmlelilcaaaDoorW1
import Derived.Test.YtjkicmlelilcaaaDoorSpec
import Derived.Deep.RegionHeld3
namespace Go.Proofs.YtjkicmlelilcaaaDoor
open Go.RowKit
attribute [local go_sem] u32_bits_xor u32_bits_and u32_bits_or u32_add putB_eq

theorem info119 : (Tryd.prog.info? 119).map (·.size) = some 64 := by kernel_rfl
def SchR (bs : List UInt8) (w : World) (i : Value) (wr : World) : Prop :=
  ∃ t : Nat, t ≤ 64 ∧ i = .int .i64 t ∧ wr.heap[w.heap.size]? = some (.cells (cw (schedTo bs t)) 119 (0, 0)) ∧ Below w.heap.size w wr
def SchI (bs : List UInt8) (w : World) (t : Nat) (i : Value) (wr : World) : Prop :=
  ∃ j : Nat, j ≤ 4 ∧ i = .int .i64 j ∧ wr.heap[w.heap.size]? = some (.cells (cw ((schedTo bs t).set t (wordTo bs t j))) 119 (0, 0)) ∧ Below w.heap.size w wr

set_option maxHeartbeats 1000000 in
theorem schedule_any (bb off cap : Nat) (bs : List UInt8) (w : World) (hb : bb < w.heap.size)
    (hc : ∀ i, i < 64 → w.cell? ⟨bb, off + i, none⟩ = some (.int .u8 (N8 (at8 bs i)))) (hcap : 64 ≤ cap) :
    Calls Tryd.prog 74 #[.slice (some ⟨bb, off, none⟩) 64 cap] w fun e w' => e = .returned (.agg (cw (schedTo bs 64))) ∧ Below w.heap.size w w' := by
  have HC := Lib.hid hc
  clear hc
  go_enter Tryd.func74, Tryd.ntmps74
  go_wp2
  go_loopw [6] (SchR bs w) (fun i _ => 64 - (intOf i).toNat)
  case atStart => exact ⟨0, by omega, rfl, row_new _ _ _, (Below.refl _ _).alloc (Nat.le_refl _) _⟩
  case round =>
    obtain ⟨t, ht, rfl, hB, hbel⟩ := hrel
    have HB := Lib.hid hB
    clear hB
    by_cases h64 : t < 64
    · have d64 : decide ((t : Int) < 64) = true := by simp; omega
      by_cases h16 : t < 16
      · have d16 : decide ((t : Int) < 16) = true := by simp; omega
        go_wp2
        obtain ⟨wo, rfl⟩ : ∃ wo : World, wo = wr := ⟨_, rfl⟩
        go_loopw [19] (SchI bs w t) (fun i _ => 4 - (intOf i).toNat)
        case atStart => exact ⟨0, by omega, rfl, by rw [sch_start bs t h64]; exact HB.out, hbel⟩
        case round =>
          obtain ⟨j, hj, rfl, hB2, hbel2⟩ := hrel
          have HB2 := Lib.hid hB2
          clear hB2
          by_cases h4 : j < 4
          · have d4 : decide ((j : Int) < 4) = true := by simp; omega
            have c1 : wr.cell? ⟨bb, off + 4 * t + j, none⟩ = some (.int .u8 (N8 (at8 bs (4 * t + j)))) := by
              rw [hbel2.cell (p := ⟨bb, off + 4 * t + j, none⟩) hb, Nat.add_assoc]; exact HC.out _ (by omega)
            have c2 : wr.cell? ⟨w.heap.size, t, none⟩ = some (.int .u32 (N32 (wordTo bs t j))) := by
              rw [row_cell HB2.out t (by simp [schedTo_length]; omega), at32_set_self (by rw [schedTo_length]; omega)]
            have c3 : wr.frozen? ⟨w.heap.size, t, none⟩ = false := row_free HB2.out t
            have n1 := N8_bd (at8 bs (4 * t + j))
            have HS := Lib.hid (row_set HB2.out t (wordTo bs t (j + 1)))
            go_wp2
            go_roundw
            case rel => exact ⟨j + 1, by omega, by go_num, by rw [wordTo]; rw [wordTo, List.set_set] at HS; exact HS.out, hbel2.setCell (Nat.le_refl _) _⟩
            case measure => simp [intOf]; omega
          · have d4 : decide ((j : Int) < 4) = false := by simp; omega
            obtain rfl : j = 4 := by omega
            go_wp2
            go_roundw
            case rel => exact ⟨t + 1, by omega, by go_num, by rw [schedTo, if_pos h16]; exact HB2.out, hbel2⟩
            case measure => simp [intOf]; omega
      · have d16 : decide ((t : Int) < 16) = false := by simp; omega
        have c16 : wr.cell? ⟨w.heap.size, t - 16, none⟩ = some (.int .u32 (N32 (at32 (schedTo bs t) (t - 16)))) := row_cell HB.out _ (by rw [schedTo_length]; omega)
        have c15 : wr.cell? ⟨w.heap.size, t - 15, none⟩ = some (.int .u32 (N32 (at32 (schedTo bs t) (t - 15)))) := row_cell HB.out _ (by rw [schedTo_length]; omega)
        have c7 : wr.cell? ⟨w.heap.size, t - 7, none⟩ = some (.int .u32 (N32 (at32 (schedTo bs t) (t - 7)))) := row_cell HB.out _ (by rw [schedTo_length]; omega)
        have c2 : wr.cell? ⟨w.heap.size, t - 2, none⟩ = some (.int .u32 (N32 (at32 (schedTo bs t) (t - 2)))) := row_cell HB.out _ (by rw [schedTo_length]; omega)
        have c0 : wr.cell? ⟨w.heap.size, t, none⟩ = some (.int .u32 (N32 (at32 (schedTo bs t) t))) := row_cell HB.out _ (by rw [schedTo_length]; omega)
        have cf : wr.frozen? ⟨w.heap.size, t, none⟩ = false := row_free HB.out t
        have e16 : IntKind.i64.wrap ((t : Int) - 16) = (t : Int) - 16 := IntWalk.i64_in _ (by omega)
        have e15 : IntKind.i64.wrap ((t : Int) - 15) = (t : Int) - 15 := IntWalk.i64_in _ (by omega)
        have e7 : IntKind.i64.wrap ((t : Int) - 7) = (t : Int) - 7 := IntWalk.i64_in _ (by omega)
        have e2 : IntKind.i64.wrap ((t : Int) - 2) = (t : Int) - 2 := IntWalk.i64_in _ (by omega)
        have a16 : (0 : Int) ≤ (t : Int) - 16 := by omega
        have a15 : (0 : Int) ≤ (t : Int) - 15 := by omega
        have a7 : (0 : Int) ≤ (t : Int) - 7 := by omega
        have a2 : (0 : Int) ≤ (t : Int) - 2 := by omega
        have z16 : (16 : Int) ≤ (t : Int) := by omega
        have z15 : (15 : Int) ≤ (t : Int) := by omega
        have z7 : (7 : Int) ≤ (t : Int) := by omega
        have z2 : (2 : Int) ≤ (t : Int) := by omega
        have z0 : (0 : Int) ≤ (t : Int) := by omega
        have b0 : (t : Int) < 64 := by omega
        have k16 := off_ne (B := w.heap.size) (i := t) (j := t - 16) (by omega)
        have k15 := off_ne (B := w.heap.size) (i := t) (j := t - 15) (by omega)
        have k7 := off_ne (B := w.heap.size) (i := t) (j := t - 7) (by omega)
        have k2 := off_ne (B := w.heap.size) (i := t) (j := t - 2) (by omega)
        have HS := Lib.hid (row_set HB.out t (nextW (schedTo bs t) t))
        have b16 : (t : Int) - 16 < 64 := by omega
        have b15 : (t : Int) - 15 < 64 := by omega
        have b7 : (t : Int) - 7 < 64 := by omega
        have b2 : (t : Int) - 2 < 64 := by omega
        have t16 : ((t : Int) - 16).toNat = t - 16 := by omega
        have t15 : ((t : Int) - 15).toNat = t - 15 := by omega
        have t7 : ((t : Int) - 7).toNat = t - 7 := by omega
        have t2 : ((t : Int) - 2).toNat = t - 2 := by omega
        go_wp2
        go_region_held3 (fun w' => w'.cell? ⟨w.heap.size, t - 16, none⟩ = some (.int .u32 (N32 (at32 (schedTo bs t) (t - 16)))) ∧ w'.cell? ⟨w.heap.size, t - 15, none⟩ = some (.int .u32 (N32 (at32 (schedTo bs t) (t - 15)))) ∧ w'.cell? ⟨w.heap.size, t - 7, none⟩ = some (.int .u32 (N32 (at32 (schedTo bs t) (t - 7)))) ∧ w'.cell? ⟨w.heap.size, t - 2, none⟩ = some (.int .u32 (N32 (at32 (schedTo bs t) (t - 2))))) (go_keep)
          (first | (go_at_call 80; refine (slide_any _ _ _ _ _ (by decide) (by decide) (by decide) (by decide) (by decide) (by decide)).mono ?_; rintro e w' ⟨rfl, k, rfl⟩))
        go_wp2
        go_roundw
        case rel => exact ⟨t + 1, by omega, by go_num, by rw [schedTo, if_neg h16]; exact HS.out, (below_drewN hbel _).setCell (Nat.le_refl _) _⟩
        case measure => simp [intOf]; omega
    · have d64 : decide ((t : Int) < 64) = false := by simp; omega
      obtain rfl : t = 64 := by omega
      have i119 : (Tryd.prog.info? 119).map (·.size) = some (cw (schedTo bs 64)).size := by rw [cw_size, schedTo_length]; exact info119
      have HI := Lib.hid i119
      clear i119
      go_wp2_with (first | (refine wpList_load_row rfl 119 (.tmp 2) rfl w.heap.size rfl 119 _ (0, 0) _ HB.out Tryd.underlying119 rfl HI.out ?_) | (refine wpList_store_row rfl 119 (.tmp 2) (.tmp 57) rfl w.heap.size (cw (schedTo bs 64)) rfl rfl 119 _ HB.out HI.out rfl (cw_one _) ?_))
      exact bodyPost_ret (v := .agg (cw (schedTo bs 64))) (results_cell_row (p := 2) (ty := 119) rfl _ _ w.heap.size 119 _ (0, 0) _ rfl (setRow_heap _ _ _ _ _ _ HB.out) Tryd.underlying119 rfl HI.out) rfl ⟨rfl, below_setRow hbel (Nat.le_refl _) _⟩
end Go.Proofs.YtjkicmlelilcaaaDoor
