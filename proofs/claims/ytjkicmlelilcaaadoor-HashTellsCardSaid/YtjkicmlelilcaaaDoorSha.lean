/- Plain functions: the hash of bytes. -/
import Derived.Test.YtjkicmlelilcaaaDoorBytes
namespace Go.Proofs.YtjkicmlelilcaaaDoor
open Go

def padZ (n : Nat) : Nat := (120 - (n + 1) % 64) % 64
def pad0 (bs : List UInt8) : List UInt8 := bs ++ [128] ++ List.replicate (padZ bs.length) 0
def lenB (n k : Nat) : UInt8 := UInt8.ofNat (8 * n / 2 ^ (56 - 8 * k))
def padTo (bs : List UInt8) (k : Nat) : List UInt8 := pad0 bs ++ (List.range k).map (lenB bs.length)
theorem padTo_succ (bs : List UInt8) (k : Nat) : padTo bs (k + 1) = padTo bs k ++ [lenB bs.length k] := by
  unfold padTo; rw [List.range_succ, List.map_append, List.append_assoc]; rfl
theorem padTo_length (bs : List UInt8) (k : Nat) : (padTo bs k).length = bs.length + 1 + padZ bs.length + k := by
  unfold padTo pad0; simp; omega
/-- How many blocks there are. -/
def blocks (bs : List UInt8) : Nat := (bs.length + 9 + padZ bs.length) / 64
theorem pad_length (bs : List UInt8) : (padTo bs 8).length = 64 * blocks bs := by
  rw [padTo_length]; unfold blocks padZ; omega
theorem blocks_le (bs : List UInt8) : 64 * blocks bs ≤ bs.length + 73 := by
  unfold blocks padZ; omega
/-- Block k. -/
def blk (l : List UInt8) (k : Nat) : List UInt8 := (l.drop (64 * k)).take 64
theorem at8_blk (l : List UInt8) (k i : Nat) (h : i < 64) : at8 (blk l k) i = at8 l (64 * k + i) := by
  unfold at8 blk
  rw [List.getD_eq_getElem?_getD, List.getD_eq_getElem?_getD, List.getElem?_take, if_pos h, List.getElem?_drop]
/-- The state behind k blocks. -/
def stTo (bs : List UInt8) : Nat → List UInt32
  | 0 => S0
  | k + 1 => compW (stTo bs k) (blk (padTo bs 8) k)
theorem stTo_length (bs : List UInt8) (k : Nat) : (stTo bs k).length = 8 := by
  induction k with
  | zero => rfl
  | succ k ih => simp only [stTo]; rw [compW_length, ih]
/-- The state behind the blocks of a list of numbers. -/
def stL (bs : List UInt8) (l : List Nat) : List UInt32 := l.foldl (fun s x => compW s (blk (padTo bs 8) (x % blocks bs))) S0
theorem stL_snoc (bs : List UInt8) (l : List Nat) (x : Nat) : stL bs (l ++ [x]) = compW (stL bs l) (blk (padTo bs 8) (x % blocks bs)) := by
  unfold stL; rw [List.foldl_append]; rfl
theorem stL_length (bs : List UInt8) (l : List Nat) : (stL bs l).length = 8 := by
  unfold stL
  suffices ∀ (l : List Nat) (s : List UInt32), s.length = 8 → (l.foldl (fun s x => compW s (blk (padTo bs 8) (x % blocks bs))) s).length = 8 from this l S0 rfl
  intro l
  induction l with
  | nil => exact fun s h => h
  | cons x l ih => exact fun s h => ih _ (by rw [compW_length, h])
theorem stL_range (bs : List UInt8) (k : Nat) (hk : k ≤ blocks bs) : stL bs (List.range k) = stTo bs k := by
  induction k with
  | zero => rfl
  | succ k ih => rw [List.range_succ, stL_snoc, ih (by omega), stTo, Nat.mod_eq_of_lt (by omega)]
def outB (s : List UInt32) (k : Nat) : UInt8 := UInt8.ofNat ((at32 s (k / 4)).toNat / 2 ^ (24 - k % 4 * 8))
/-- The first k bytes of the hash, the rest 0. -/
def outTo (s : List UInt32) : Nat → List UInt8
  | 0 => List.replicate 32 0
  | k + 1 => (outTo s k).set k (outB s k)
theorem outTo_length (s : List UInt32) (k : Nat) : (outTo s k).length = 32 := by
  induction k with
  | zero => simp [outTo]
  | succ k ih => simp [outTo, ih]
/-- The hash. -/
def shaB (bs : List UInt8) : List UInt8 := outTo (stTo bs (blocks bs)) 32
theorem shaB_length (bs : List UInt8) : (shaB bs).length = 32 := outTo_length _ _
theorem lenB_eq (n k : Nat) : (((n : Int) * 8) / 2 ^ (56 - 8 * k)) % 256 = N8 (lenB n k) := by
  unfold N8 lenB
  rw [UInt8.toNat_ofNat']
  have : ((n : Int) * 8) / 2 ^ (56 - 8 * k) = ((8 * n / 2 ^ (56 - 8 * k) : Nat) : Int) := by simp [Int.mul_comm]
  rw [this]; omega
theorem outB_eq (s : List UInt32) (k : Nat) : (N32 (at32 s (k / 4)) / 2 ^ (24 - k % 4 * 8)) % 256 = N8 (outB s k) := by
  unfold N8 outB N32
  rw [UInt8.toNat_ofNat']
  have : ((at32 s (k / 4)).toNat : Int) / 2 ^ (24 - k % 4 * 8) = (((at32 s (k / 4)).toNat / 2 ^ (24 - k % 4 * 8) : Nat) : Int) := by simp
  rw [this]; omega
theorem row_new8 (w : World) : (w.alloc (.cells #[.int .u8 0, .int .u8 0, .int .u8 0, .int .u8 0, .int .u8 0, .int .u8 0, .int .u8 0, .int .u8 0, .int .u8 0, .int .u8 0, .int .u8 0, .int .u8 0, .int .u8 0, .int .u8 0, .int .u8 0, .int .u8 0, .int .u8 0, .int .u8 0, .int .u8 0, .int .u8 0, .int .u8 0, .int .u8 0, .int .u8 0, .int .u8 0, .int .u8 0, .int .u8 0, .int .u8 0, .int .u8 0, .int .u8 0, .int .u8 0, .int .u8 0, .int .u8 0] 24)).heap[w.heap.size]? = some (.cells (c8 (List.replicate 32 0)) 24 (0, 0)) := row_new _ _ _
theorem row8_cell {w : World} {B T : Nat} {l : List UInt8} (h : w.heap[B]? = some (.cells (c8 l) T (0, 0))) (i : Nat) (hi : i < l.length) :
    w.cell? ⟨B, i, none⟩ = some (.int .u8 (N8 (at8 l i))) := by
  unfold World.cell?; rw [h]; simp only [Option.isSome_none, Bool.false_eq_true, if_false]; exact c8_at l i hi
theorem row8_set {w : World} {B T : Nat} {l : List UInt8} (h : w.heap[B]? = some (.cells (c8 l) T (0, 0))) (i : Nat) (x : UInt8) :
    (w.setCell ⟨B, i, none⟩ (.int .u8 (N8 x))).heap[B]? = some (.cells (c8 (l.set i x)) T (0, 0)) := by
  unfold World.setCell; simp only [Array.getElem?_modify, h, if_true, Option.map_some, Option.isSome_none, Bool.false_eq_true, if_false, c8_set]
end Go.Proofs.YtjkicmlelilcaaaDoor
