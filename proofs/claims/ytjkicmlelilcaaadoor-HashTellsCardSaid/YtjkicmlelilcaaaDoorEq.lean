/- Two hashes held against each other. -/
import Derived.Test.YtjkicmlelilcaaaDoorBytes
import Derived.ChangeKeysEq
import Derived.Laws.StructEq
namespace Go.Proofs.YtjkicmlelilcaaaDoor
open Go Go.RowKit

theorem info5c : (Tryd.prog.info? 5).map (fun i => (i.zero, i.size, i.bytes)) = some (some (.int .u8 0), 1, 1) := by kernel_rfl
theorem cells5 : Tryd.prog.cellsOf 5 = 1 := by kernel_rfl
theorem N8_inj {a b : UInt8} : (N8 a == N8 b) = (a == b) := by
  rw [Bool.eq_iff_iff, beq_iff_eq, beq_iff_eq]
  unfold N8
  exact ⟨fun e => UInt8.toNat_inj.1 (by omega), fun e => by rw [e]⟩
theorem run_part5 (X : List UInt8) (i : Nat) (h : i < X.length) (w : World) : (part 5 (c8 X) (i * 1)).run Tryd.prog w = .ok (.int .u8 (N8 (at8 X i))) w := by
  have hc := c8_at X i h
  rw [Nat.mul_one]
  simp [part, isAgg, run_underlying Tryd.underlying5, hc]
theorem eqItems5 (d : Nat) (X Y : List UInt8) (w : World) : ∀ is : List Nat, (∀ i ∈ is, i < X.length ∧ i < Y.length) →
    (Op.eqItems (d + 1) 5 1 (c8 X) (c8 Y) is).run Tryd.prog w = .ok (is.all fun i => at8 X i == at8 Y i) w
  | [], _ => by simp [Op.eqItems]
  | i :: is, h => by
    have hi := h i (by simp)
    have ih := eqItems5 d X Y w is (fun j hj => h j (by simp [hj]))
    simp only [Op.eqItems, Sem.run_bind, run_part5 X i hi.1, run_part5 Y i hi.2, Result.andThen_ok, run_equalIn_int w d 5 .u8 .u8 _ _ Tryd.underlying5, N8_inj]
    cases hq : (at8 X i == at8 Y i) <;> simp [hq, ih]
theorem all_eq (X Y : List UInt8) (n : Nat) (hx : X.length = n) (hy : Y.length = n) : ((List.range n).all fun i => at8 X i == at8 Y i) = (X == Y) := by
  rw [Bool.eq_iff_iff]
  simp only [List.all_eq_true, List.mem_range, beq_iff_eq]
  constructor
  · intro h
    apply List.ext_getElem (by omega)
    intro i h1 h2
    have := h i (by omega)
    simpa [at8, h1, h2] using this
  · intro h i _; rw [h]
theorem eq24 (X Y : List UInt8) (hx : X.length = 32) (hy : Y.length = 32) (w : World) : (Op.equalIn 10000 24 (.agg (c8 X)) (.agg (c8 Y))).run Tryd.prog w = .ok (X == Y) w := by
  obtain ⟨i0, hi, _⟩ := info_parts info5c
  rw [run_equalIn_array w 9999 (c8 X) (c8 Y) Tryd.underlying24 hi, cells5, eqItems5 9998 X Y w (List.range 32) (fun i hi => by have := List.mem_range.1 hi; omega), all_eq X Y 32 hx hy]
end Go.Proofs.YtjkicmlelilcaaaDoor
