/- The argument Told opened. -/
import Derived.Test.YtjkicmlelilcaaaDoorRow
namespace Go.Proofs.YtjkicmlelilcaaaDoor
open Go.ChangeShapes Go.WideShapes Go.RowKit
theorem cells68 : Tryd.prog.cellsOf 68 = 5 := by kernel_rfl
theorem cells3 : Tryd.prog.cellsOf 3 = 1 := by kernel_rfl
theorem cells49 : Tryd.prog.cellsOf 49 = 1 := by kernel_rfl
/-- A cell that reads as a whole number of its kind. -/
theorem cell_int {H : Type} {enc : TypeId × Value → H} {W : World} {n : Nat} {t : TypeId} {k : IntKind} {v : Value} {y : Option (DataW H × List MemPlace)} (hu : Tryd.prog.underlying t = some (.int k)) (hy : y.isSome = true)
    (h : DataW.trod enc Tryd.prog W 0 (fun _ => true) true n t [v] = y) : ∃ z, v = .int k z ∧ (Lit.int k z).wf = true := by
  obtain ⟨x, rfl⟩ := Option.isSome_iff_exists.1 hy
  obtain ⟨z, e, _, hw⟩ := DataW.trod_int hu h
  cases e
  exact ⟨z, rfl, hw⟩
theorem wf_u32 {z : Int} (h : (Lit.int .u32 z).wf = true) : ∃ n : Nat, z = n ∧ n < 4294967296 := by
  simp only [Lit.wf, Bool.and_eq_true, decide_eq_true_eq] at h
  have h2 : (0 : Int) ≤ z ∧ z ≤ 4294967295 := h
  exact ⟨z.toNat, by omega, by omega⟩
theorem wf_u64 {z : Int} (h : (Lit.int .u64 z).wf = true) : ∃ n : Nat, z = n ∧ n < 18446744073709551616 := by
  simp only [Lit.wf, Bool.and_eq_true, decide_eq_true_eq] at h
  rw [show IntKind.u64.max = 18446744073709551615 by kernel_rfl, show IntKind.u64.min = 0 by kernel_rfl] at h
  exact ⟨z.toNat, by omega, by omega⟩
set_option maxRecDepth 100000 in
theorem open_told {H : Type} {enc : TypeId × Value → H} {W : World} {v : Value} {d : DataW H} {p : List MemPlace} {r : Reach} {base : Nat} (hv : Value.okWide Tryd.prog W r base 68 v) (h : DataW.Trod enc Tryd.prog W 0 (fun _ => true) true 68 v d p) :
    ∃ (wy : Int) (s e c q : Nat), v = .agg #[.int .i64 wy, .int .u32 s, .int .u32 e, .int .u64 c, .int .u64 q] ∧ s < 4294967296 ∧ e < 4294967296 ∧ c < 18446744073709551616 ∧ q < 18446744073709551616 := by
  obtain ⟨cs, rfl, hsz⟩ := okWide_struct Tryd.underlying68 hv
  obtain ⟨fuel, hf⟩ := h
  obtain ⟨xs, n, _, _, _, hlen, hg⟩ := DataW.trod_struct Tryd.underlying68 hf
  rw [cells68] at hsz
  obtain ⟨l⟩ := cs
  match l, hsz, xs, hlen with
  | [c0, c1, c2, c3, c4], _, [y0, y1, y2, y3, y4], _ =>
    have g0 := hg 0 _ rfl
    have g1 := hg 1 _ rfl
    have g2 := hg 2 _ rfl
    have g3 := hg 3 _ rfl
    have g4 := hg 4 _ rfl
    simp only [cells3, cells62, cells49, Value.cells, List.drop_zero, List.drop_succ_cons, List.take_succ_cons, List.take_zero, List.getElem?_cons_zero, List.getElem?_cons_succ] at g0 g1 g2 g3 g4
    obtain ⟨z0, rfl, _⟩ := cell_int Tryd.underlying3 rfl g0
    obtain ⟨z1, rfl, w1⟩ := cell_int Tryd.underlying62 rfl g1
    obtain ⟨z2, rfl, w2⟩ := cell_int Tryd.underlying62 rfl g2
    obtain ⟨z3, rfl, w3⟩ := cell_int Tryd.underlying49 rfl g3
    obtain ⟨z4, rfl, w4⟩ := cell_int Tryd.underlying49 rfl g4
    obtain ⟨s, rfl, h1⟩ := wf_u32 w1
    obtain ⟨e, rfl, h2⟩ := wf_u32 w2
    obtain ⟨c, rfl, h3⟩ := wf_u64 w3
    obtain ⟨q, rfl, h4⟩ := wf_u64 w4
    exact ⟨z0, s, e, c, q, rfl, h1, h2, h3, h4⟩
end Go.Proofs.YtjkicmlelilcaaaDoor
