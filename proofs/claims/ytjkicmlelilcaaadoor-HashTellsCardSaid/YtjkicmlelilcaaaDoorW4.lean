/- The walks over slices.Grow and slices.Concat at bytes. -/
import Derived.Test.YtjkicmlelilcaaaDoorBytes
import Derived.WalkSpells
import Derived.WalkLawsBesides
import Derived.Lib.Hide
import Derived.Lib.AppendZeros
namespace Go.Proofs.YtjkicmlelilcaaaDoor
open Go.RowKit

theorem info5 : (Tryd.prog.info? 5).map (fun i => (i.zero, i.size, i.bytes)) = some (some (.int .u8 0), 1, 1) := by kernel_rfl
def Owned (w : World) (n : Nat) (xs : List UInt8) (e : Ending) (w' : World) : Prop :=
  ∃ v, e = .returned v ∧ w'.ownsRow w.heap.size 5 1 v n (c8l xs) ∧ Below w.heap.size w w'

set_option maxHeartbeats 400000 in
theorem grow_any (n : Nat) (w : World) (h : n ≤ 1000000000000) : Calls Tryd.prog 55 #[.slice none 0 0, .int .i64 n] w (Owned w 0 []) := by
  obtain ⟨i0, hi, hz0, hz1, hz2⟩ := info_parts info5
  have HI := Lib.hid hi
  have HZ := Lib.hid hz0
  have H1 := Lib.hid hz1
  have H2 := Lib.hid hz2
  clear hi hz0 hz1 hz2
  have d0 : decide ((n : Int) < 0) = false := decide_eq_false (by omega)
  by_cases hn : 0 < n
  · have hr := Lib.run_append_nil_zeros (P := Tryd.prog) w 22 3 22 5 i0 (.int .u8 0) .i64 .i64 Tryd.underlying22 Tryd.underlying3 HI.out HZ.out n hn (by rw [H1.out]; decide) (by omega) (by rw [H2.out]; omega)
    have HR := Lib.hid hr
    clear hr
    have d1 : decide ((0 : Int) < (n : Int)) = true := decide_eq_true (by omega)
    go_enter Tryd.func55, Tryd.ntmps55
    go_wp2_with (at_builtin; refine Lib.wpList_append_run w rfl (.tmp 20) (.tmp 21) 22 3 rfl (.slice none 0 0) (.int .i64 n) rfl rfl _ _ HR.out ?_)
    go_ret
    refine ⟨_, rfl, ⟨by simp [c8l], .inr ⟨w.heap.size, _, _, rfl, Nat.le_refl _, row_new _ _ _, by omega, grownCap_le_maxLen _ _ _ _ (by unfold maxLen; omega), ?_, by simp [c8l]⟩⟩, ?_⟩
    · have := grownCap_ge w n 0 5
      simp [size_zeroCells]; omega
    · exact (Below.refl _ _).drew.alloc (by simp) _
  · obtain rfl : n = 0 := by omega
    go_enter Tryd.func55, Tryd.ntmps55
    go_wp2
    go_ret
    exact ⟨_, rfl, ⟨by simp [c8l], .inl ⟨rfl, rfl⟩⟩, Below.refl _ _⟩

def CatR (ps : List (List UInt8)) (s i : Value) : Prop := ∃ k : Nat, k ≤ ps.length ∧ i = .int .i64 k ∧ s = .int .i64 (catTo ps k).length
def CatS (ps : List (List UInt8)) (w : World) (v i : Value) (wr : World) : Prop :=
  ∃ k : Nat, k ≤ ps.length ∧ i = .int .i64 k ∧ wr.ownsRow w.heap.size 5 1 v (catTo ps k).length (c8l (catTo ps k)) ∧ Below w.heap.size w wr

set_option maxHeartbeats 1000000 in
theorem concat_some (b off c : Nat) (vs : List Value) (ps : List (List UInt8)) (w : World) (hlt : b < w.heap.size) (_hcap : ps.length ≤ c) (hc0 : ps.length ≤ 1000000000)
    (hcell : ∀ j, j < ps.length → w.cell? ⟨b, off + j, none⟩ = some (atV vs j)) (hbs : ∀ j, j < ps.length → BSl w (atV vs j) (atP ps j)) (ht : ps.flatten.length ≤ 1000000000000) :
    Calls Tryd.prog 17 #[.slice (some ⟨b, off, none⟩) ps.length c] w (Owned w ps.flatten.length ps.flatten) := by
  obtain ⟨i0, hi, hz0, hz1, hz2⟩ := info_parts info5
  have HI := Lib.hid hi
  have HZ := Lib.hid hz0
  have H1 := Lib.hid hz1
  have H2 := Lib.hid hz2
  clear hi hz0 hz1 hz2
  have HC := Lib.hid hcell
  have HB := Lib.hid hbs
  clear hcell hbs
  go_enter Tryd.func17, Tryd.ntmps17
  go_wp2
  go_loop [3, 11] (CatR ps) (fun _ i => ps.length - (intOf i).toNat)
  case atStart => exact ⟨0, by omega, rfl, by simp [catTo]⟩
  case round =>
    obtain ⟨k, hk, rfl, rfl⟩ := hrel
    have hle := catTo_le ps k
    by_cases hlt2 : k < ps.length
    · have d1 : decide ((k : Int) < (ps.length : Int)) = true := decide_eq_true (by omega)
      have hp := catTo_part ps k hlt2
      obtain ⟨a1, c1, hv⟩ := (HB.out k hlt2).len
      have g1 : w.cell? ⟨b, off + k, none⟩ = some (.slice a1 (atP ps k).length c1) := by rw [← hv]; exact HC.out k hlt2
      clear hv
      have d2 : decide (((catTo ps k).length : Int) + ((atP ps k).length : Int) < 0) = false := decide_eq_false (by omega)
      have HS := Lib.hid (catTo_succ ps k hlt2)
      go_wp2
      go_round
      case rel => exact ⟨k + 1, by omega, by go_num, by rw [HS.out, List.length_append]; go_num⟩
      case measure => simp [intOf]; omega
    · have d1 : decide ((k : Int) < (ps.length : Int)) = false := decide_eq_false (by omega)
      obtain rfl : k = ps.length := by omega
      go_wp2_with fail
      refine (grow_any (catTo ps ps.length).length w (by omega)).mono ?_
      rintro e w1 ⟨v, rfl, hown, hb1⟩
      go_wp2
      go_loopw [6, 27] (CatS ps w) (fun _ i _ => ps.length - (intOf i).toNat)
      case atStart => exact ⟨0, by omega, rfl, by simpa [catTo] using hown, hb1⟩
      case round =>
        obtain ⟨k, hk, rfl, hown2, hb2⟩ := hrel
        have hle2 := catTo_le ps k
        by_cases hlt2 : k < ps.length
        · have d3 : decide ((k : Int) < (ps.length : Int)) = true := decide_eq_true (by omega)
          have hp := catTo_part ps k hlt2
          have HS := Lib.hid (catTo_succ ps k hlt2)
          have g0 : wr.cell? ⟨b, off + k, none⟩ = some (atV vs k) := (hb2.cell (p := ⟨b, off + k, none⟩) hlt).trans (HC.out k hlt2)
          have hz := hb2.size
          rcases (HB.out k hlt2).below hb2 (Nat.le_refl _) with ⟨hv, hn⟩ | ⟨b1, o1, c1, hv, hc1, hl1, hx1⟩ | ⟨a1, hv, hn⟩
          · rw [hv] at g0
            have HN := Lib.hid hn
            clear hv hn
            go_wp2_with (at_builtin; refine wpList_append_own_none rfl (.tmp 31) (.tmp 32) 22 rfl w.heap.size 5 i0 1 Tryd.underlying22 HI.out _ _ _ rfl hown2 rfl ?_)
            go_roundw
            case rel => exact ⟨k + 1, by omega, by go_num, by rw [HS.out, HN.out, List.append_nil]; exact hown2, hb2⟩
            case measure => simp [intOf]; omega
          · rw [hv] at g0
            have HX1 := Lib.hid hx1
            clear hv hx1
            go_wp2_with (at_builtin; refine wpList_append_own _ rfl (.tmp 31) (.tmp 32) 22 rfl w.heap.size 5 i0 (.int .u8 0) 1 1 Tryd.underlying22 HI.out HZ.out H1.out H2.out rfl (by decide) _ _ _ rfl hown2 ⟨b1, o1, none⟩ (atP ps k).length c1 (c8l (atP ps k)) rfl (by rw [c8l_length]; omega) (news_of HX1.out) (c8l_one _) (by unfold maxLen; omega) (by omega) hz ?_)
            intro v' w2 hown3 hg3 _
            have hb3 := hb2.grown hg3 hz (fun g hg => owns_block hown2 hg)
            go_wp2
            go_roundw
            case rel => exact ⟨k + 1, by omega, by go_num, by rw [HS.out, List.length_append, c8l_append]; exact hown3, hb3⟩
            case measure => simp [intOf]; omega
          · rw [hv] at g0
            have HN := Lib.hid hn
            clear hv hn
            go_wp2_with (at_builtin; refine wpList_append_own _ rfl (.tmp 31) (.tmp 32) 22 rfl w.heap.size 5 i0 (.int .u8 0) 1 1 Tryd.underlying22 HI.out HZ.out H1.out H2.out rfl (by decide) _ _ _ rfl hown2 a1 0 0 [] rfl rfl (fun j u hu => by simp at hu) (fun u hu => by simp at hu) (by unfold maxLen; omega) (by omega) hz ?_)
            intro v' w2 hown3 hg3 _
            have hb3 := hb2.grown hg3 hz (fun g hg => owns_block hown2 hg)
            go_wp2
            go_roundw
            case rel => exact ⟨k + 1, by omega, by go_num, by rw [HS.out, HN.out, List.append_nil]; exact hown3, hb3⟩
            case measure => simp [intOf]; omega
        · have d3 : decide ((k : Int) < (ps.length : Int)) = false := decide_eq_false (by omega)
          obtain rfl : k = ps.length := by omega
          go_wp2
          go_ret
          exact ⟨_, rfl, by rw [← catTo_all]; exact hown2, hb2⟩

set_option maxHeartbeats 400000 in
theorem concat_nil (w : World) : Calls Tryd.prog 17 #[.slice none 0 0] w (Owned w 0 []) := by
  go_enter Tryd.func17, Tryd.ntmps17
  go_wp2
  go_loop [3, 11] (fun s i => s = .int .i64 0 ∧ i = .int .i64 0) (fun _ _ => 0)
  case atStart => exact ⟨rfl, rfl⟩
  case round =>
    obtain ⟨rfl, rfl⟩ := hrel
    go_wp2_with fail
    refine (grow_any 0 w (by omega)).mono ?_
    rintro e w1 ⟨v, rfl, hown, hb1⟩
    go_wp2
    go_loopw [6, 27] (fun v i wr => i = .int .i64 0 ∧ wr.ownsRow w.heap.size 5 1 v 0 (c8l []) ∧ Below w.heap.size w wr) (fun _ _ _ => 0)
    case atStart => exact ⟨rfl, hown, hb1⟩
    case round =>
      obtain ⟨rfl, hown2, hb2⟩ := hrel
      go_wp2
      go_ret
      exact ⟨_, rfl, hown2, hb2⟩

/-- slices.Concat at slices of bytes. -/
theorem concat_any (pv : Value) (vs : List Value) (ps : List (List UInt8)) (w : World) (h : PSl w pv vs ps) (hc0 : ps.length ≤ 1000000000) (ht : ps.flatten.length ≤ 1000000000000) :
    Calls Tryd.prog 17 #[pv] w (Owned w ps.flatten.length ps.flatten) := by
  rcases h.lies with ⟨rfl, rfl⟩ | ⟨b, off, c, rfl, hc, hlt, hcell⟩
  · exact concat_nil w
  · exact concat_some b off c vs ps w hlt hc hc0 hcell h.each ht
end Go.Proofs.YtjkicmlelilcaaaDoor
