/- Bytes in memory: a slice that reads as bytes. -/
import Derived.Test.YtjkicmlelilcaaaDoorSpec
import Derived.OwnWalk
import Derived.Laws.AppendOwnNone
namespace Go.Proofs.YtjkicmlelilcaaaDoor
open Go Go.RowKit

def c8l (l : List UInt8) : List Value := l.map fun x => Value.int .u8 (N8 x)
def c8 (l : List UInt8) : Array Value := (c8l l).toArray
theorem c8l_length (l : List UInt8) : (c8l l).length = l.length := by simp [c8l]
theorem c8l_append (a b : List UInt8) : c8l (a ++ b) = c8l a ++ c8l b := by simp [c8l]
theorem c8_size (l : List UInt8) : (c8 l).size = l.length := by simp [c8, c8l]
theorem c8l_at (l : List UInt8) (i : Nat) (h : i < l.length) : (c8l l)[i]? = some (.int .u8 (N8 (at8 l i))) := by
  simp [c8l, h, at8]
theorem c8_at (l : List UInt8) (i : Nat) (h : i < l.length) : (c8 l)[i]? = some (.int .u8 (N8 (at8 l i))) := by
  simp [c8, c8l, h, at8]
theorem c8_set (l : List UInt8) (i : Nat) (x : UInt8) : (c8 l).setIfInBounds i (.int .u8 (N8 x)) = c8 (l.set i x) := by
  apply Array.ext'
  simp [c8, c8l, List.map_set]
theorem c8l_one (l : List UInt8) : ∀ v ∈ c8l l, v.oneCell' = true := by
  intro v hv
  simp only [c8l, List.mem_map] at hv
  obtain ⟨x, _, rfl⟩ := hv
  rfl
theorem c8_one (l : List UInt8) : (c8 l).all (·.oneCell') = true := by
  rw [Array.all_eq_true_iff_forall_mem]
  intro v hv
  exact c8l_one l v (by simpa [c8] using hv)

/-- The slice v reads as the bytes bs. -/
def BSl (w : World) (v : Value) (bs : List UInt8) : Prop :=
  (v = .slice none 0 0 ∧ bs = []) ∨
  (∃ b off c, v = .slice (some ⟨b, off, none⟩) bs.length c ∧ bs.length ≤ c ∧ b < w.heap.size ∧ ∀ j, j < bs.length → w.cell? ⟨b, off + j, none⟩ = some (.int .u8 (N8 (at8 bs j)))) ∨
  ∃ a, v = .slice (some a) 0 0 ∧ bs = []
theorem BSl.below {B : Nat} {w w' : World} {v : Value} {bs : List UInt8} (h : BSl w v bs) (hb : Below B w w') (hB : w.heap.size ≤ B) : BSl w' v bs := by
  rcases h with h | ⟨b, off, c, e, hc, hlt, hcell⟩ | h
  · exact .inl h
  · exact .inr (.inl ⟨b, off, c, e, hc, Nat.lt_of_lt_of_le hlt hb.size, fun j hj => (hb.cell (p := ⟨b, off + j, none⟩) (Nat.lt_of_lt_of_le hlt hB)).trans (hcell j hj)⟩)
  · exact .inr (.inr h)
theorem BSl.len {w : World} {v : Value} {bs : List UInt8} (h : BSl w v bs) : ∃ a c, v = .slice a bs.length c := by
  rcases h with ⟨rfl, rfl⟩ | ⟨b, off, c, e, _⟩ | ⟨a, rfl, rfl⟩
  · exact ⟨_, _, rfl⟩
  · exact ⟨_, _, e⟩
  · exact ⟨_, _, rfl⟩
/-- What the call owns reads as its bytes. -/
theorem BSl.of_owns {w : World} {base : Nat} {v : Value} {bs : List UInt8} (h : w.ownsRow base 5 1 v bs.length (c8l bs)) : BSl w v bs := by
  obtain ⟨h1, h2⟩ := h
  rcases h2 with ⟨rfl, h3⟩ | ⟨g, cap, cur, rfl, hg, hh, hn, hm, hs, ht⟩
  · exact .inl ⟨rfl, List.eq_nil_of_length_eq_zero h3⟩
  · refine .inr (.inl ⟨g, 0, cap, rfl, hn, (Array.getElem?_eq_some_iff.1 hh).1, fun j hj => ?_⟩)
    rw [Nat.zero_add, cell_of_row w g j cur 5 (0, 0) hh, ← c8l_at bs j hj, ← ht, List.getElem?_take, if_pos (by omega)]
    simp
theorem news_of {w : World} {b o : Nat} {bs : List UInt8} (h : ∀ j, j < bs.length → w.cell? ⟨b, o + j, none⟩ = some (.int .u8 (N8 (at8 bs j)))) :
    ∀ j u, (c8l bs)[j]? = some u → w.cell? ((⟨b, o, none⟩ : Addr).add j) = some u := by
  intro j u hu
  have hj : j < bs.length := by have := (List.getElem?_eq_some_iff.1 hu).1; rwa [c8l_length] at this
  rw [show (⟨b, o, none⟩ : Addr).add j = ⟨b, o + j, none⟩ by unfold Addr.add; split <;> simp_all, h j hj, ← hu, c8l_at bs j hj]
theorem owns_block {w : World} {base e size : Nat} {v : Value} {n : Nat} {xs : List Value} (h : w.ownsRow base e size v n xs) {g : Nat} (hg : v.ownBlock = some g) : base ≤ g := by
  rcases h.2 with ⟨rfl, _⟩ | ⟨g', cap, cur, rfl, hb, _⟩
  · cases hg
  · cases hg; exact hb
/-! Slices of slices of bytes. -/
def atV (vs : List Value) (j : Nat) : Value := vs.getD j undef
def atP (ps : List (List UInt8)) (j : Nat) : List UInt8 := ps.getD j []
def catTo (ps : List (List UInt8)) (k : Nat) : List UInt8 := (ps.take k).flatten
theorem catTo_succ (ps : List (List UInt8)) (k : Nat) (h : k < ps.length) : catTo ps (k + 1) = catTo ps k ++ atP ps k := by
  unfold catTo atP
  rw [List.take_succ_eq_append_getElem h, List.flatten_append, List.getD_eq_getElem?_getD, List.getElem?_eq_getElem h]; simp
theorem catTo_all (ps : List (List UInt8)) : catTo ps ps.length = ps.flatten := by simp [catTo]
theorem catTo_le (ps : List (List UInt8)) (k : Nat) : (catTo ps k).length ≤ ps.flatten.length := by
  unfold catTo
  have : ps.flatten = (ps.take k).flatten ++ (ps.drop k).flatten := by rw [← List.flatten_append, List.take_append_drop]
  rw [this, List.length_append]; omega
theorem catTo_part (ps : List (List UInt8)) (k : Nat) (h : k < ps.length) : (catTo ps k).length + (atP ps k).length ≤ ps.flatten.length := by
  have := catTo_le ps (k + 1)
  rw [catTo_succ ps k h, List.length_append] at this; exact this
/-- The slice pv holds the slices vs, which read as ps. -/
structure PSl (w : World) (pv : Value) (vs : List Value) (ps : List (List UInt8)) : Prop where
  len : vs.length = ps.length
  lies : (pv = .slice none 0 0 ∧ ps = []) ∨
    ∃ b off c, pv = .slice (some ⟨b, off, none⟩) ps.length c ∧ ps.length ≤ c ∧ b < w.heap.size ∧ ∀ j, j < ps.length → w.cell? ⟨b, off + j, none⟩ = some (atV vs j)
  each : ∀ j, j < ps.length → BSl w (atV vs j) (atP ps j)
theorem PSl.below {B : Nat} {w w' : World} {pv : Value} {vs : List Value} {ps : List (List UInt8)} (h : PSl w pv vs ps) (hb : Below B w w') (hB : w.heap.size ≤ B) : PSl w' pv vs ps := by
  refine ⟨h.len, ?_, fun j hj => (h.each j hj).below hb hB⟩
  rcases h.lies with h | ⟨b, off, c, e, hc, hlt, hcell⟩
  · exact .inl h
  · exact .inr ⟨b, off, c, e, hc, Nat.lt_of_lt_of_le hlt hb.size, fun j hj => (hb.cell (p := ⟨b, off + j, none⟩) (Nat.lt_of_lt_of_le hlt hB)).trans (hcell j hj)⟩
end Go.Proofs.YtjkicmlelilcaaaDoor
