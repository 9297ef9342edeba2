/- Plain facts for the law SealApart. -/
import Derived.Test.YtjkicmlelilcaaaDoorA2
import Derived.Test.YtjkicmlelilcaaaDoorV4
namespace Go.Proofs.YtjkicmlelilcaaaDoor
open Go.RowKit
/-- The first bytes of a text. -/
theorem run_cutStr {P : Program} {o : Oper} {t : TypeId} {x y : Operand} {k : IntKind} {a : Act} {W : World} {s l : List UInt8} (hop : o.op = .slice t x none (some y) none) (hx : a.eval x = .string ⟨s.toArray⟩) (hy : a.eval y = .int k ((l.length : Nat) : Int)) (hu : P.underlying t = some .string)
    (hl : l = s.take l.length ∧ l.length ≤ s.length) : (execOp a.eval o).run P W = .ok (.value (.string ⟨l.toArray⟩)) W := by
  have e1 : (⟨s.toArray⟩ : ByteArray).size = s.length := by simp [ByteArray.size]
  have e2 : (⟨s.toArray⟩ : ByteArray).extract 0 l.length = ⟨l.toArray⟩ := by
    apply ByteArray.ext
    apply Array.ext'
    rw [ByteArray.data_extract]
    simp
    exact hl.1.symm
  simp [execOp, hop, hx, hy, Instr.sliceAt, run_underlying hu, Instr.slice, Instr.sliceBounds, Instr.sliceBound, asIntOf, e1, hl.2, e2]
theorem take_self (s : List UInt8) (n : Nat) : s.take n = s.take (s.take n).length ∧ (s.take n).length ≤ s.length := by
  rw [List.length_take]
  refine ⟨?_, by omega⟩
  by_cases h : n ≤ s.length
  · rw [Nat.min_eq_left h]
  · rw [Nat.min_eq_right (by omega), List.take_of_length_le (by omega), List.take_of_length_le (Nat.le_refl _)]
theorem tail_drop (f : List (List UInt8)) (j : Nat) (h : j < f.length) : tailB (f.drop j) = be4 (atP f j).length ++ (atP f j ++ tailB (f.drop (j + 1))) := by
  rw [List.drop_eq_getElem_cons h, tailB, List.append_assoc]
  have : atP f j = f[j] := by unfold atP; rw [List.getD_eq_getElem?_getD, List.getElem?_eq_getElem h]; rfl
  rw [this]
theorem lay_len (s : List UInt8) (ps : List (List UInt8)) : (layB s ps).length = 2 + s.length + 4 * ps.length + ps.flatten.length := by
  unfold layB; rw [layTo_le s ps _ (Nat.le_refl _), catTo_all]
/-- All but two blocks is as it was. -/
structure Two (b : Nat) (w w' : World) : Prop where
  os : w'.os = w.os
  tape : w'.tape = w.tape
  output : w'.output = w.output
  size : w.heap.size ≤ w'.heap.size
  block : ∀ k, k < w.heap.size → k ≠ b → k ≠ b + 1 → w'.heap[k]? = w.heap[k]?
theorem Two.of_below {b : Nat} {w w' : World} (h : Below w.heap.size w w') : Two b w w' := ⟨h.os, h.tape, h.output, h.size, fun k hk _ _ => h.block k hk⟩
theorem Two.trans {b : Nat} {x y z : World} (h : Two b x y) (h' : Two b y z) : Two b x z :=
  ⟨h'.os.trans h.os, h'.tape.trans h.tape, h'.output.trans h.output, Nat.le_trans h.size h'.size, fun k hk h1 h2 => (h'.block k (Nat.lt_of_lt_of_le hk h.size) h1 h2).trans (h.block k hk h1 h2)⟩
theorem Two.but {b r : Nat} {x y z : World} (h : Two b x y) (hr : x.heap.size ≤ r) (h' : But r y z) : Two b x z :=
  ⟨h'.os.trans h.os, h'.tape.trans h.tape, h'.output.trans h.output, Nat.le_trans h.size h'.size, fun k hk h1 h2 => (h'.block k (Nat.lt_of_lt_of_le hk h.size) (by omega)).trans (h.block k hk h1 h2)⟩
theorem Two.set {b i : Nat} {x y : World} (h : Two b x y) (v : Value) : Two b x (y.setCell ⟨b, i, none⟩ v) :=
  ⟨h.os, h.tape, h.output, by simpa [World.setCell] using h.size, fun k hk h1 h2 => (heap_setCell_other _ _ _ _ (by simpa using h1)).trans (h.block k hk h1 h2)⟩
theorem Two.sets {b : Nat} {x : World} : ∀ (vs : List Value) (o : Nat) (y : World), Two b x y → Two b x (y.setCells (b + 1) o vs)
  | [], _, _, h => h
  | v :: vs, o, y, h => by
    refine Two.sets vs (o + 1) _ ⟨h.os, h.tape, h.output, by simpa [World.setCell] using h.size, fun k hk h1 h2 => (heap_setCell_other _ _ _ _ (by simpa using h2)).trans (h.block k hk h1 h2)⟩
def notTwo (b : Nat) (v : Value) : Prop := ∀ a n c, v = .slice (some a) n c → a.block ≠ b ∧ a.block ≠ b + 1
theorem BSl.two {b : Nat} {w w' : World} {v : Value} {bs : List UInt8} (h : BSl w v bs) (hb : Two b w w') (hn : notTwo b v) : BSl w' v bs := by
  rcases h with h | ⟨g, off, c, e, hc, hlt, hcell⟩ | h
  · exact .inl h
  · subst e
    have hne := hn _ _ _ rfl
    exact .inr (.inl ⟨g, off, c, rfl, hc, Nat.lt_of_lt_of_le hlt hb.size, fun j hj => by rw [World.cell?_of_block (w := w) (a := ⟨g, off + j, none⟩) (hb.block g hlt hne.1 hne.2)]; exact hcell j hj⟩)
  · exact .inr (.inr h)
theorem below_two {b : Nat} {x y z : World} (h : Below b x y) (h' : Two b y z) (hx : b ≤ y.heap.size) : Below b x z :=
  h.trans ⟨h'.os, h'.tape, h'.output, h'.size, fun k hk => h'.block k (by omega) (by omega) (by omega)⟩
theorem owns_two {b base e n : Nat} {x y : World} {v : Value} {xs : List Value} (h : x.ownsRow base e 1 v n xs) (h' : Two b x y) (hb : b + 1 < base) : y.ownsRow base e 1 v n xs := by
  refine ⟨h.1, ?_⟩
  rcases h.2 with h | ⟨g, cap, cur, e1, h1, hh, h2⟩
  · exact .inl h
  · exact .inr ⟨g, cap, cur, e1, h1, (h'.block g (Array.getElem?_eq_some_iff.1 hh).1 (by omega) (by omega)).trans hh, h2⟩
theorem owns_notTwo {b base e n : Nat} {x : World} {v : Value} {xs : List Value} (h : x.ownsRow base e 1 v n xs) (hb : b + 1 < base) : notTwo b v := by
  intro a m c ev
  rcases h.2 with ⟨h, _⟩ | ⟨g, cap, cur, e1, h1, _⟩
  · rw [h] at ev; cases ev
  · rw [e1] at ev; cases ev; simp; omega
theorem there_two {b : Nat} {x y : World} {B o n : Nat} (h : x.there B o n) (h' : Below x.heap.size x y) (hB : B < x.heap.size) : y.there B o n := there_below h h' hB
/-- What holds ahead of round k. -/
def ApI (b7 : Nat) (w7 : World) (M0 M1 Y0 Y1 : List UInt8) (k : Nat) (wr : World) : Prop :=
  Below b7 w7 wr ∧ b7 + 1 < wr.heap.size ∧ wr.there (b7 + 1) 0 64 ∧ ∃ v0 v1, wr.heap[b7]? = some (.cells #[v0, v1] 55 (0, 0)) ∧
    (0 < k → BSl wr v0 M0 ∧ notTwo b7 v0 ∧ wr.rangeAt (b7 + 1) 0 (c8l Y0)) ∧ (1 < k → BSl wr v1 M1 ∧ notTwo b7 v1 ∧ wr.rangeAt (b7 + 1) 32 (c8l Y1))
def ApL (b7 : Nat) (w7 : World) (M0 M1 Y0 Y1 : List UInt8) (i : Value) (wr : World) : Prop := ∃ k : Nat, k ≤ 2 ∧ i = .int .i64 k ∧ ApI b7 w7 M0 M1 Y0 Y1 k wr
theorem sets_other {b k : Nat} (h : k ≠ b) : ∀ (vs : List Value) (o : Nat) (y : World), (y.setCells b o vs).heap[k]? = y.heap[k]?
  | [], _, _ => rfl
  | v :: vs, o, y => (sets_other h vs (o + 1) _).trans (heap_setCell_other _ _ _ _ (by simpa using h))
theorem sets_size {b : Nat} : ∀ (vs : List Value) (o : Nat) (y : World), (y.setCells b o vs).heap.size = y.heap.size
  | [], _, _ => rfl
  | v :: vs, o, y => (sets_size vs (o + 1) _).trans (by simp [World.setCell])
theorem range_but {r b o : Nat} {x y : World} {cs : List Value} (h : x.rangeAt b o cs) (hb : But r x y) (hl : b < x.heap.size) (hr : b ≠ r) : y.rangeAt b o cs := fun j v hv => by
  rw [World.cell?_of_block (w := x) (a := ⟨b, o + j, none⟩) (hb.block b hl hr)]; exact h j v hv
theorem there_but {r b o n : Nat} {x y : World} (h : x.there b o n) (hb : But r x y) (hl : b < x.heap.size) (hr : b ≠ r) : y.there b o n := fun j hj => by
  have e := hb.block b hl hr
  have := h j hj
  unfold World.cell? World.frozen? at this ⊢
  simp only [e]; exact this
theorem wpl_run {P : Program} {ops : Array Oper} {Q : Exit → Act → World → Prop} {o : Oper} {rest : List Oper} {a : Act} {W W' : World} (v : Value) (hg : o.guard = none) (hr : (execOp a.eval o).run P W = .ok (.value v) W') (h : wpList P ops Q rest (a.put o.dst v) W') : wpList P ops Q (o :: rest) a W :=
  wpList_plain hg fun K hK => by unfold Oper.wp; rw [hr]; exact hK _ _ h
theorem tail_le (f : List (List UInt8)) : ∀ j, (tailB (f.drop j)).length ≤ (tailB f).length := by
  induction f with
  | nil => intro j; simp
  | cons p f ih =>
    intro j
    cases j with
    | zero => exact Nat.le_refl _
    | succ j =>
      have := ih j
      simp only [List.drop_succ_cons, tailB, List.length_append]; omega
theorem range_o {B o : Nat} {w w' : World} {b : Nat} {cs : List Value} (h : w.rangeAt b o cs) (hb : Below B w w') (hB : b < B) : w'.rangeAt b o cs := fun j v hv => (hb.cell (p := ⟨b, o + j, none⟩) hB).trans (h j v hv)
theorem run_indexAddr1 {P : Program} {o : Oper} {t e : TypeId} {x y : Operand} {kd : IntKind} {a : Act} {W : World} {b off n c k : Nat} (hop : o.op = .indexAddr t x y) (hx : a.eval x = .slice (some ⟨b, off, none⟩) n c) (hy : a.eval y = .int kd ((k : Nat) : Int)) (hu : P.underlying t = some (.slice e))
    (hz : (P.info? e).map (·.size) = some 1) (hk : k < n) : (execOp a.eval o).run P W = .ok (.value (.pointer (some ⟨b, off + k, none⟩))) W := by
  obtain ⟨i, hi, hs⟩ := Option.map_eq_some_iff.1 hz
  have e2 : (⟨b, off, none⟩ : Addr).add k = ⟨b, off + k, none⟩ := by unfold Addr.add; split <;> simp_all
  simp [execOp, hop, hx, hy, Instr.indexAt, asIntOf, run_underlying hu, sizeOf, typeInfo, hi, hs, hk, e2]
theorem run_loadM {P : Program} {o : Oper} {ty : TypeId} {x : Operand} {a : Act} {W : World} {b off : Nat} {cs : List Value} {d : TypeDesc} (hop : o.op = .load ty x) (hx : a.eval x = .pointer (some ⟨b, off, none⟩)) (hu : P.underlying ty = some d)
    (hd : d.isRow = true) (hi : (P.info? ty).map (·.size) = some cs.length) (hg : W.rangeAt b off cs) : (execOp a.eval o).run P W = .ok (.value (.agg cs.toArray)) W := by
  simp [execOp, hop, hx, run_loadAt_mid W b off ty cs d hg hu hd hi]
theorem atP_ext {f g : List (List UInt8)} (hl : f.length = g.length) (h : ∀ j, j < f.length → atP f j = atP g j) : f = g := by
  apply List.ext_getElem hl
  intro j h1 h2
  have := h j h1
  unfold atP at this
  rw [List.getD_eq_getElem?_getD, List.getD_eq_getElem?_getD, List.getElem?_eq_getElem h1, List.getElem?_eq_getElem h2] at this
  exact this
def SaL (l0 l1 : List UInt8) (f0 f1 : List (List UInt8)) (wE : World) (sv i : Value) (wr : World) : Prop :=
  ∃ (k : Nat) (b : Bool), k ≤ f0.length ∧ i = .int .i64 k ∧ sv = .bool b ∧ (b = true ↔ (l0 = l1 ∧ f0.length = f1.length ∧ ∀ j, j < k → atP f0 j = atP f1 j)) ∧ Below wE.heap.size wE wr
theorem sa_next {l0 l1 : List UInt8} {f0 f1 : List (List UInt8)} {k : Nat} (h : l0 = l1 ∧ f0.length = f1.length ∧ ∀ j, j < k → atP f0 j = atP f1 j) : ((atP f0 k == atP f1 k) = true ↔ (l0 = l1 ∧ f0.length = f1.length ∧ ∀ j, j < k + 1 → atP f0 j = atP f1 j)) := by
  constructor
  · intro e
    refine ⟨h.1, h.2.1, fun j hj => ?_⟩
    by_cases hjk : j = k
    · subst hjk; exact beq_iff_eq.1 e
    · exact h.2.2 j (by omega)
  · rintro ⟨_, _, h3⟩
    exact beq_iff_eq.2 (h3 k (by omega))
theorem str_beq (x y : List UInt8) : ((⟨x.toArray⟩ : ByteArray).toList == (⟨y.toArray⟩ : ByteArray).toList) = (x == y) := by
  simp [go_sem]
theorem tailB_nil : tailB [] = [] := rfl
theorem drop_be4 (n : Nat) (l : List UInt8) : (be4 n ++ l).drop 4 = l := by rw [show 4 = (be4 n).length from (be4_length n).symm, List.drop_left]
def InL (f : List (List UInt8)) (r : Nat) (wI : World) (i : Value) (wr : World) : Prop := ∃ j : Nat, j ≤ f.length ∧ i = .int .i64 j ∧ RdAt r (tailB (f.drop j)) wr ∧ But r wI wr
theorem z64_there (w : World) : (w.alloc (.cells (c8 (List.replicate 64 0)) 56)).there w.heap.size 0 64 := by
  have := there_of_row (l := List.replicate 64 0) (row_new w (c8 (List.replicate 64 0)) 56)
  simpa using this
end Go.Proofs.YtjkicmlelilcaaaDoor
