/- The arguments of type [2]string and [2][][]byte opened. -/
import Derived.Test.YtjkicmlelilcaaaDoorRow
import Derived.OpenShut
namespace Go.Proofs.YtjkicmlelilcaaaDoor
open Go.ChangeShapes Go.WideShapes Go.RowKit
theorem cells53 : Tryd.prog.cellsOf 53 = 2 := by kernel_rfl
theorem cells54 : Tryd.prog.cellsOf 54 = 2 := by kernel_rfl
theorem cells9 : Tryd.prog.cellsOf 9 = 1 := by kernel_rfl
theorem cells31 : Tryd.prog.cellsOf 31 = 1 := by kernel_rfl
theorem types54 : Tryd.prog.cellTypes Tryd.prog.depth 54 = some [31, 31] := by kernel_rfl
set_option maxRecDepth 100000 in
theorem open_labels {H : Type} {enc : TypeId × Value → H} {W : World} {v : Value} {d : DataW H} {p : List MemPlace} {r : Reach} {base : Nat} (hv : Value.okWide Tryd.prog W r base 53 v) (h : DataW.Trod enc Tryd.prog W 0 (fun _ => true) true 53 v d p) :
    ∃ s0 s1 : List UInt8, v = .agg #[.string ⟨s0.toArray⟩, .string ⟨s1.toArray⟩] := by
  unfold Value.okWide at hv
  rw [Tryd.underlying53] at hv
  obtain ⟨cs, rfl, hsz, _⟩ := hv
  rw [cells53] at hsz
  obtain ⟨fuel, hf⟩ := h
  obtain ⟨xs, n, _, _, _, hlen, hg⟩ := DataW.trod_array Tryd.underlying53 hf
  obtain ⟨l⟩ := cs
  match l, hsz, xs, hlen with
  | [c0, c1], _, [y0, y1], _ =>
    have g0 := hg 0 (by decide)
    have g1 := hg 1 (by decide)
    rw [cells9] at g0 g1
    obtain ⟨s0, e0, _⟩ := DataW.trod_string Tryd.underlying9 (x := y0) (cs := [c0]) g0
    obtain ⟨s1, e1, _⟩ := DataW.trod_string Tryd.underlying9 (x := y1) (cs := [c1]) g1
    cases e0
    cases e1
    exact ⟨s0.data.toList, s1.data.toList, rfl⟩
set_option maxRecDepth 100000 in
theorem ok31 {W : World} {r : Reach} {base : Nat} {v : Value} (h : Cell.okWide Tryd.prog W r base 31 v) : Value.okWide Tryd.prog W r base 31 v := by
  unfold Value.okWide; rw [Tryd.underlying31]; exact h
set_option maxRecDepth 100000 in
theorem open_two {H : Type} {enc : TypeId × Value → H} {W : World} {v : Value} {d : DataW H} {p : List MemPlace} {r : Reach} {base : Nat} (hv : Value.okWide Tryd.prog W r base 54 v) (h : DataW.Trod enc Tryd.prog W 0 (fun _ => true) true 54 v d p) :
    ∃ pv0 pv1 vs0 ps0 vs1 ps1, v = .agg #[pv0, pv1] ∧ PSl W pv0 vs0 ps0 ∧ PSl W pv1 vs1 ps1 ∧ ps0.length ≤ 9223372036854775807 ∧ ps1.length ≤ 9223372036854775807 := by
  unfold Value.okWide at hv
  rw [Tryd.underlying54] at hv
  obtain ⟨cs, rfl, hsz, ts, hts, _, hok⟩ := hv
  rw [types54] at hts
  cases hts
  rw [cells54] at hsz
  obtain ⟨fuel, hf⟩ := h
  obtain ⟨xs, n, _, _, _, hlen, hg⟩ := DataW.trod_array Tryd.underlying54 hf
  obtain ⟨l⟩ := cs
  match l, hsz, xs, hlen with
  | [c0, c1], _, [y0, y1], _ =>
    have g0 := hg 0 (by decide)
    have g1 := hg 1 (by decide)
    rw [cells31] at g0 g1
    obtain ⟨u0, hu0, o0⟩ := hok 0 c0 rfl
    obtain ⟨u1, hu1, o1⟩ := hok 1 c1 rfl
    cases hu0
    cases hu1
    have k0 := okWide_slice Tryd.underlying31 (ok31 o0)
    have k1 := okWide_slice Tryd.underlying31 (ok31 o1)
    obtain ⟨a0, n0, m0, rfl⟩ := k0
    obtain ⟨a1, n1, m1, rfl⟩ := k1
    obtain ⟨vs0, ps0, h0, b0⟩ := open_parts (d := y0.1) (p := y0.2) (ok31 o0) ⟨n, g0⟩
    obtain ⟨vs1, ps1, h1, b1⟩ := open_parts (d := y1.1) (p := y1.2) (ok31 o1) ⟨n, g1⟩
    exact ⟨_, _, vs0, ps0, vs1, ps1, rfl, h0, h1, b0, b1⟩
end Go.Proofs.YtjkicmlelilcaaaDoor
