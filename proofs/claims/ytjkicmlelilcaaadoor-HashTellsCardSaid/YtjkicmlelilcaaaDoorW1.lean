/- First walks over the hash functions: rotations. -/
import Derived.Test.YtjkicmlelilcaaaDoorWords
import Derived.WalkSpells
import Derived.WalkLawsBesides
import Derived.Deep.QuietTactic
import Derived.BigQuiet
import Derived.Lib.Hide
namespace Go.Proofs.YtjkicmlelilcaaaDoor
open Go.RowKit

theorem and31 (x : Nat) (h0 : 0 < x) (h1 : x < 32) : bits .and .u64 (IntKind.u64.wrap (-(x : Int))) 31 = (32 : Int) - (x : Int) := by
  have : ∀ y : Fin 32, 0 < y.val → bits .and .u64 (IntKind.u64.wrap (-(y.val : Int))) 31 = (32 : Int) - (y.val : Int) := by decide +kernel
  exact this ⟨x, h1⟩ h0
theorem sub32 (x : Nat) (h1 : x < 32) : IntKind.u64.wrap ((32 : Int) - ((32 : Int) - (x : Int))) = (x : Int) := by
  have : (32 : Int) - ((32 : Int) - (x : Int)) = (x : Int) := by omega
  rw [this, wrap_u64]; omega

set_option maxHeartbeats 400000 in
theorem rot_any (n : UInt32) (x : Nat) (w : World) (h0 : 0 < x) (h1 : x < 32) :
    Calls Tryd.prog 81 #[.int .u32 (N32 n), .int .i64 (-(x : Int))] w fun e w' => e = .returned (.int .u32 (N32 (ror n x))) ∧ w = w' := by
  have h31 := and31 x h0 h1
  have h32 := sub32 x h1
  have HR := Lib.hid (ror_eq n x)
  go_enter Tryd.func81, Tryd.ntmps81
  go_wp2
  go_ret
  exact ⟨ret_int HR.out, rfl⟩

/-- A contract that leaves the world alone, inside a region that draws: first region; a later one. -/
theorem q_one {P : Program} {f : FuncId} {args : Array Value} {w : World} {n : Nat} {v : Value}
    (h : Calls P f args (w.drewN n) fun e w' => e = .returned v ∧ w.drewN n = w') : Calls P f args (w.drewN n) fun e w'' => e = .returned v ∧ ∃ m, w'' = w.drewN m :=
  h.mono fun _ _ x => ⟨x.1, n, x.2.symm⟩
theorem q_two {P : Program} {f : FuncId} {args : Array Value} {w : World} {k n : Nat} {v : Value}
    (h : Calls P f args (w.drewN (k + n)) fun e w' => e = .returned v ∧ w.drewN (k + n) = w') : Calls P f args (w.drewN (k + n)) fun e w'' => e = .returned v ∧ ∃ m, w'' = w.drewN (k + m) :=
  h.mono fun _ _ x => ⟨x.1, n, x.2.symm⟩
attribute [local go_sem] u32_bits_xor u32_bits_and u32_bits_or
set_option maxHeartbeats 400000 in
theorem turn_any (n : UInt32) (x y z : Nat) (w : World) (h0 : 0 < x) (h1 : x < 32) (h2 : 0 < y) (h3 : y < 32) (h4 : 0 < z) (h5 : z < 32) :
    Calls Tryd.prog 75 #[.int .u32 (N32 n), .int .i64 x, .int .i64 y, .int .i64 z] w fun e w' => e = .returned (.int .u32 (N32 (turnW n x y z))) ∧ w = w' := by
  go_enter Tryd.func75, Tryd.ntmps75
  go_wp2_with (go_at_call 81; refine (rot_any _ _ _ (by omega) (by omega)).mono ?_; rintro e w' ⟨rfl, rfl⟩)
  go_ret
  exact ⟨rfl, rfl⟩
set_option maxHeartbeats 400000 in
theorem slide_any (n : UInt32) (x y z : Nat) (w : World) (h0 : 0 < x) (h1 : x < 32) (h2 : 0 < y) (h3 : y < 32) (h4 : 0 < z) (h5 : z < 32) :
    Calls Tryd.prog 80 #[.int .u32 (N32 n), .int .i64 x, .int .i64 y, .int .i64 z] w fun e w' => e = .returned (.int .u32 (N32 (slideW n x y z))) ∧ ∃ k, w' = w.drewN k := by
  have hs := sror_eq n z
  have hm : min z 32 = z := by omega
  go_enter Tryd.func80, Tryd.ntmps80
  go_wp2
  go_quiet ((go_at_call 81; exact Calls.quiet_of_same ((rot_any _ _ _ (by omega) (by omega)).mono fun _ _ h => ⟨h.1, h.2.symm⟩)))
  go_wp2
  go_ret
  exact ⟨rfl, _, rfl⟩
end Go.Proofs.YtjkicmlelilcaaaDoor
