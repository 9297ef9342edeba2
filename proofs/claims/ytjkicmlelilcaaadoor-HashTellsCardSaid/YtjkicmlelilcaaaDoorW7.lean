/- The walk over the hash's 'changed'. -/
import Derived.Test.YtjkicmlelilcaaaDoorSha
import Derived.WalkSpells
import Derived.WalkLawsBesides
import Derived.Lib.Hide
import Derived.Laws.CopyOwn
namespace Go.Proofs.YtjkicmlelilcaaaDoor
open Go.RowKit
attribute [local go_sem] u8_bits_xor

/-- A key, brought to 64 bytes, the first k of them changed. -/
def keyW (key : List UInt8) : List UInt8 := key ++ List.replicate (64 - key.length) 0
def chgTo (key : List UInt8) (c : UInt8) : Nat → List UInt8
  | 0 => keyW key
  | k + 1 => (chgTo key c k).set k (at8 (chgTo key c k) k ^^^ c)
theorem keyW_length (key : List UInt8) (h : key.length ≤ 64) : (keyW key).length = 64 := by simp [keyW]; omega
theorem chgTo_length (key : List UInt8) (c : UInt8) (k : Nat) (h : key.length ≤ 64) : (chgTo key c k).length = 64 := by
  induction k with
  | zero => exact keyW_length key h
  | succ k ih => simp [chgTo, ih]
def chg (key : List UInt8) (c : UInt8) : List UInt8 := chgTo key c 64
theorem chg_length (key : List UInt8) (c : UInt8) (h : key.length ≤ 64) : (chg key c).length = 64 := chgTo_length key c 64 h

theorem info5s : (Tryd.prog.info? 5).map (·.size) = some 1 := by kernel_rfl
theorem make64 (w : World) : (Instr.makeSlice 22 (.int .i64 64) (.int .i64 64)).run Tryd.prog w = .ok (.slice (some ⟨w.heap.size, 0, none⟩) 64 64) (w.alloc (.cells (c8l (List.replicate 64 0)).toArray 5)) := by kernel_rfl
theorem splice_key (key : List UInt8) (_h : key.length ≤ 64) : splice (c8l (List.replicate 64 0)) 0 (c8l key) = c8l (keyW key) := by
  unfold splice keyW
  rw [List.take_zero, List.nil_append, c8l_append, Nat.zero_add, c8l_length]
  congr 1
  unfold c8l
  rw [← List.map_drop, List.drop_replicate]

def ChgR (key : List UInt8) (c : UInt8) (w : World) (i : Value) (wr : World) : Prop :=
  ∃ k : Nat, k ≤ 64 ∧ i = .int .i64 k ∧ wr.heap[w.heap.size]? = some (.cells (c8 (chgTo key c k)) 5 (0, 0)) ∧ Below w.heap.size w wr
def ChgP (key : List UInt8) (c : UInt8) (w : World) (e : Ending) (w' : World) : Prop :=
  e = .returned (.slice (some ⟨w.heap.size, 0, none⟩) 64 64) ∧ w'.heap[w.heap.size]? = some (.cells (c8 (chg key c)) 5 (0, 0)) ∧ Below w.heap.size w w'

set_option maxHeartbeats 1000000 in
theorem changed_at (a : Option Addr) (n cp : Nat) (key : List UInt8) (c : UInt8) (w : World) (hn : n = key.length) (h : BSl w (.slice a n cp) key) (hl : key.length ≤ 64) :
    Calls Tryd.prog 54 #[.slice a n cp, .int .u8 (N8 c)] w (ChgP key c w) := by
  have hb0 : Below w.heap.size w (w.alloc (.cells (c8l (List.replicate 64 0)).toArray 5)) := (Below.refl _ _).alloc (Nat.le_refl _) _
  have h0 := h.below hb0 (Nat.le_refl _)
  have HN := Lib.hid hn
  have HMK := Lib.hid make64
  have hpos : 0 < (c8l key).length → (some ⟨w.heap.size, 0, none⟩ : Option Addr) = some ⟨w.heap.size, 0, none⟩ ∧ ∃ ad, a = some ad ∧ ∀ j v, (c8l key)[j]? = some v → (w.alloc (.cells (c8l (List.replicate 64 0)).toArray 5)).cell? (ad.add j) = some v := by
    intro hp
    rw [c8l_length] at hp
    rcases h0 with ⟨e, hk⟩ | ⟨b, off, c1, e, hc1, hlt, hcell⟩ | ⟨_, e, hk⟩
    rotate_right
    · subst hk; simp at hp
    · subst hk; simp at hp
    · cases e
      exact ⟨rfl, _, rfl, news_of hcell⟩
  have HP := Lib.hid hpos
  clear hpos h0 h
  have hmk : ∀ w : World, (Instr.makeSlice 22 (.int .i64 64) (.int .i64 64)).run Tryd.prog w = .ok (.slice (some ⟨w.heap.size, 0, none⟩) 64 64) (w.alloc (.cells (c8l (List.replicate 64 0)).toArray 5)) := make64
  clear hn
  have hn64 : n ≤ 64 := by have := HN.out; omega
  go_enter Tryd.func54, Tryd.ntmps54
  go_wp2_with (refine wpList_copy_splice rfl (.tmp 8) (.tmp 9) 22 22 rfl 5 Tryd.underlying22 info5s (some ⟨w.heap.size, 0, none⟩) a 64 64 n cp rfl rfl w.heap.size 0 (c8l (List.replicate 64 0)) 5 (row_new _ _ _) (c8l key) (by rw [c8l_length, HN.out]; exact (Nat.min_eq_left (by omega)).symm) HP.out (by rw [c8l_length, c8l_length]; simp; omega) (c8l_one _) w.heap.size w hb0 (Nat.le_refl _) ?_; intro w2 HG2 hb2)
  rw [splice_key key hl] at HG2
  clear hmk
  go_wp2
  go_loopw [13] (ChgR key c w) (fun i _ => 64 - (intOf i).toNat)
  case atStart => exact ⟨0, by omega, rfl, HG2.out, hb2⟩
  case round =>
    obtain ⟨k, hk, rfl, hG, hb3⟩ := hrel
    have HG := Lib.hid hG
    clear hG
    by_cases h64 : k < 64
    · have d64 : decide ((k : Int) < 64) = true := decide_eq_true (by omega)
      have ck := row8_cell HG.out k (by rw [chgTo_length _ _ _ hl]; exact h64)
      have fk := row_free HG.out k
      have HF := Lib.hid (row8_set HG.out k (at8 (chgTo key c k) k ^^^ c))
      go_wp2
      go_roundw
      case rel => exact ⟨k + 1, by omega, by go_num, HF.out, hb3.setCell (Nat.le_refl _) _⟩
      case measure => simp [intOf]; omega
    · have d64 : decide ((k : Int) < 64) = false := decide_eq_false (by omega)
      obtain rfl : k = 64 := by omega
      go_wp2
      go_ret
      exact ⟨rfl, HG.out, hb3⟩
end Go.Proofs.YtjkicmlelilcaaaDoor
