/- Plain facts: the model's operations on unsigned integers, said of Lean's own UInt32, UInt8 and UInt64. -/
import Derived.Test.YtjkicmlelilcaaaDoorRows
import Derived.WalkKit
import Derived.Deep.Draws
namespace Go.Proofs.YtjkicmlelilcaaaDoor
open Go

/-- A word, a byte, a long word, as the integer that the model holds: closed to the walk. -/
def N32 (x : UInt32) : Int := (x.toNat : Int)
def N8 (x : UInt8) : Int := (x.toNat : Int)
def N64 (x : UInt64) : Int := (x.toNat : Int)
theorem N32_bd (x : UInt32) : 0 ≤ N32 x ∧ N32 x ≤ 4294967295 := by have := x.toNat_lt; unfold N32; omega
theorem N8_bd (x : UInt8) : 0 ≤ N8 x ∧ N8 x ≤ 255 := by have := x.toNat_lt; unfold N8; omega
theorem N64_bd (x : UInt64) : 0 ≤ N64 x ∧ N64 x ≤ 18446744073709551615 := by have := x.toNat_lt; unfold N64; omega

theorem wrap_u32 (n : Nat) : IntKind.u32.wrap (n : Int) = ((n % 4294967296 : Nat) : Int) := by
  simp [IntKind.wrap, IntKind.bits, IntKind.signed]
theorem wrap_u8 (n : Nat) : IntKind.u8.wrap (n : Int) = ((n % 256 : Nat) : Int) := by
  simp [IntKind.wrap, IntKind.bits, IntKind.signed]
theorem wrap_u64 (n : Nat) : IntKind.u64.wrap (n : Int) = ((n % 18446744073709551616 : Nat) : Int) := by
  simp [IntKind.wrap, IntKind.bits, IntKind.signed]

theorem u32_add (x y : UInt32) : IntKind.u32.wrap (N32 x + N32 y) = N32 (x + y) := by
  unfold N32; rw [← Int.natCast_add, wrap_u32, UInt32.toNat_add]
theorem u32_add' (x y : UInt32) : (N32 x + N32 y) % 4294967296 = N32 (x + y) := by
  unfold N32; rw [← Int.natCast_add, UInt32.toNat_add]; omega
theorem u32_mul (x y : UInt32) : IntKind.u32.wrap (N32 x * N32 y) = N32 (x * y) := by
  unfold N32; rw [← Int.natCast_mul, wrap_u32, UInt32.toNat_mul]
theorem u32_id (x : UInt32) : IntKind.u32.wrap (N32 x) = N32 x := by
  unfold N32; rw [wrap_u32, Nat.mod_eq_of_lt x.toNat_lt]
theorem u8_id (x : UInt8) : IntKind.u8.wrap (N8 x) = N8 x := by
  unfold N8; rw [wrap_u8, Nat.mod_eq_of_lt x.toNat_lt]
theorem u64_id (x : UInt64) : IntKind.u64.wrap (N64 x) = N64 x := by
  unfold N64; rw [wrap_u64, Nat.mod_eq_of_lt x.toNat_lt]

theorem bv32 (x : UInt32) : BitVec.ofNat 32 x.toNat = x.toBitVec := by rw [← UInt32.toNat_toBitVec, BitVec.ofNat_toNat, BitVec.setWidth_eq]
theorem bv8 (x : UInt8) : BitVec.ofNat 8 x.toNat = x.toBitVec := by rw [← UInt8.toNat_toBitVec, BitVec.ofNat_toNat, BitVec.setWidth_eq]
theorem u32_bits_xor (x y : UInt32) : bits .xor .u32 (N32 x) (N32 y) = N32 (x ^^^ y) := by
  have e : bits .xor .u32 (N32 x) (N32 y) = IntKind.u32.wrap (N32 (x ^^^ y)) := by
    unfold bits N32
    simp only [IntKind.bits, BitVec.ofInt_natCast, bv32]
    rfl
  rw [e, u32_id]
theorem u32_bits_and (x y : UInt32) : bits .and .u32 (N32 x) (N32 y) = N32 (x &&& y) := by
  have e : bits .and .u32 (N32 x) (N32 y) = IntKind.u32.wrap (N32 (x &&& y)) := by
    unfold bits N32
    simp only [IntKind.bits, BitVec.ofInt_natCast, bv32]
    rfl
  rw [e, u32_id]
theorem u32_bits_or (x y : UInt32) : bits .or .u32 (N32 x) (N32 y) = N32 (x ||| y) := by
  have e : bits .or .u32 (N32 x) (N32 y) = IntKind.u32.wrap (N32 (x ||| y)) := by
    unfold bits N32
    simp only [IntKind.bits, BitVec.ofInt_natCast, bv32]
    rfl
  rw [e, u32_id]
theorem u32_bits_not (x : UInt32) : bits .xor .u32 4294967295 (N32 x) = N32 (~~~ x) := by
  have h : (4294967295 : Int) = N32 (4294967295 : UInt32) := rfl
  rw [h, u32_bits_xor]
  have : (4294967295 : UInt32) ^^^ x = ~~~ x := by
    apply UInt32.toBitVec_inj.1
    simp [← BitVec.allOnes_xor]
  rw [this]
theorem u32_bits_not2 (x : UInt32) : bits .xor .u32 IntKind.u32.max (N32 x) = N32 (~~~ x) := u32_bits_not x
theorem u8_bits_xor (x y : UInt8) : bits .xor .u8 (N8 x) (N8 y) = N8 (x ^^^ y) := by
  have e : bits .xor .u8 (N8 x) (N8 y) = IntKind.u8.wrap (N8 (x ^^^ y)) := by
    unfold bits N8
    simp only [IntKind.bits, BitVec.ofInt_natCast, bv8]
    rfl
  rw [e, u8_id]

/-- A word turned right. -/
def ror (n : UInt32) (x : Nat) : UInt32 := UInt32.ofNat (n.toNat * 2 ^ (32 - x)) ||| UInt32.ofNat (n.toNat / 2 ^ x)
/-- A word shifted right. -/
def sror (n : UInt32) (x : Nat) : UInt32 := UInt32.ofNat (n.toNat / 2 ^ x)
theorem sror_eq (n : UInt32) (x : Nat) : N32 n / 2 ^ x = N32 (sror n x) := by
  unfold sror N32
  rw [UInt32.toNat_ofNat']
  have : n.toNat / 2 ^ x < 4294967296 := Nat.lt_of_le_of_lt (Nat.div_le_self _ _) n.toNat_lt
  rw [show (2:Nat) ^ 32 = 4294967296 from rfl, Nat.mod_eq_of_lt this]; simp
theorem ror_eq (n : UInt32) (x : Nat) : bits .or .u32 (N32 n * 2 ^ (32 - x) % 4294967296) (N32 n / 2 ^ x) = N32 (ror n x) := by
  have h1 : N32 n * 2 ^ (32 - x) % 4294967296 = N32 (UInt32.ofNat (n.toNat * 2 ^ (32 - x))) := by
    unfold N32
    rw [UInt32.toNat_ofNat']
    have : ((n.toNat : Int) * 2 ^ (32 - x)) = ((n.toNat * 2 ^ (32 - x) : Nat) : Int) := by simp
    rw [this]; omega
  rw [h1, sror_eq, u32_bits_or]; rfl
theorem ret_int {k : IntKind} {a b : Int} (h : a = b) : Ending.returned (.int k a) = .returned (.int k b) := by rw [h]
/-- What 'turn' gives. -/
def turnW (n : UInt32) (x y z : Nat) : UInt32 := ror n x ^^^ ror n y ^^^ ror n z
/-- What 'slide' gives. -/
def slideW (n : UInt32) (x y z : Nat) : UInt32 := ror n x ^^^ ror n y ^^^ sror n z
end Go.Proofs.YtjkicmlelilcaaaDoor
