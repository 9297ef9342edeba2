/- An argument of type uint8. -/
import Derived.Test.YtjkicmlelilcaaaDoorRow
namespace Go.Proofs.YtjkicmlelilcaaaDoor
open Go.ChangeShapes Go.WideShapes Go.ChangeAt Go.RowKit
set_option maxRecDepth 100000 in
/-- An argument of type uint8. -/
theorem open_byte {H : Type} {enc : TypeId × Value → H} {W : World} {v : Value} {d : DataW H} {p : List MemPlace} {r : Reach} {base : Nat} (hv : Value.okWide Tryd.prog W r base 5 v) (h : DataW.Trod enc Tryd.prog W 0 (fun _ => true) true 5 v d p) :
    ∃ z : Nat, v = .int .u8 z ∧ z ≤ 255 := by
  obtain ⟨n, rfl, _, _, hw⟩ := open_int Tryd.underlying5 hv h
  simp only [Lit.wf, Bool.and_eq_true, decide_eq_true_eq] at hw
  have h2 : (0 : Int) ≤ n ∧ n ≤ 255 := hw
  exact ⟨n.toNat, by rw [Int.toNat_of_nonneg h2.1], by omega⟩
end Go.Proofs.YtjkicmlelilcaaaDoor
