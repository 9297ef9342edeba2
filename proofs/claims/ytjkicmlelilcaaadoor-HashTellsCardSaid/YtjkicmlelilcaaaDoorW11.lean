/- The walk over the law HashParts. -/
import Derived.Test.YtjkicmlelilcaaaDoorW10
import Derived.Test.YtjkicmlelilcaaaDoorEq
namespace Go.Proofs.YtjkicmlelilcaaaDoor
open Go.RowKit

/-- A slice cut at most at m. -/
theorem BSl.cut {w : World} {a : Option Addr} {n c : Nat} {bs : List UInt8} (h : BSl w (.slice a n c) bs) (hn : n = bs.length) (m : Nat) : BSl w (.slice a (min n m) c) (bs.take m) := by
  subst hn
  rcases h with ⟨e, rfl⟩ | ⟨b, off, c', e, hc, hlt, hcell⟩ | ⟨a', e, rfl⟩
  rotate_right
  · cases e
    exact .inr (.inr ⟨a', by simp, by simp⟩)
  · cases e
    refine .inl ⟨by simp, by simp⟩
  · cases e
    refine .inr (.inl ⟨b, off, c, by rw [List.length_take, Nat.min_comm], by rw [List.length_take]; omega, hlt, fun j hj => ?_⟩)
    rw [List.length_take] at hj
    rw [hcell j (by omega)]
    unfold at8
    rw [List.getD_eq_getElem?_getD, List.getD_eq_getElem?_getD, List.getElem?_take, if_pos (by omega)]
theorem BSl.cap {w : World} {a : Option Addr} {n c : Nat} {bs : List UInt8} (h : BSl w (.slice a n c) bs) : n = bs.length ∧ n ≤ c := by
  rcases h with ⟨e, rfl⟩ | ⟨b, off, c', e, hc, _⟩ | ⟨a', e, rfl⟩
  · cases e; exact ⟨rfl, Nat.le_refl _⟩
  · cases e; exact ⟨rfl, hc⟩
  · cases e; exact ⟨rfl, Nat.le_refl _⟩

attribute [local irreducible] chg shaB hmB
/-- The parts that the law takes: values, bytes. -/
def cutV : Value → Value
  | .slice a n c => .slice a (min n 80) c
  | v => v
def lawVs (vs : List Value) (k : Nat) : List Value := (List.range k).flatMap fun j => [cutV (atV vs j), .slice none 0 0]
def lawPs (ps : List (List UInt8)) (k : Nat) : List (List UInt8) := (List.range k).flatMap fun j => [(atP ps j).take 80, []]
theorem lawVs_succ (vs : List Value) (k : Nat) : lawVs vs (k + 1) = lawVs vs k ++ [cutV (atV vs k), .slice none 0 0] := by
  simp [lawVs, List.range_succ]
theorem lawPs_succ (ps : List (List UInt8)) (k : Nat) : lawPs ps (k + 1) = lawPs ps k ++ [(atP ps k).take 80, []] := by
  simp [lawPs, List.range_succ]
theorem lawVs_length (vs : List Value) (k : Nat) : (lawVs vs k).length = 2 * k := by
  induction k with
  | zero => rfl
  | succ k ih => rw [lawVs_succ, List.length_append, ih]; simp; omega
theorem lawPs_length (ps : List (List UInt8)) (k : Nat) : (lawPs ps k).length = 2 * k := by
  induction k with
  | zero => rfl
  | succ k ih => rw [lawPs_succ, List.length_append, ih]; simp; omega
theorem lawPs_flat (ps : List (List UInt8)) (k : Nat) : (lawPs ps k).flatten.length ≤ 80 * k := by
  induction k with
  | zero => simp [lawPs]
  | succ k ih =>
    rw [lawPs_succ, List.flatten_append, List.length_append]
    have : ([(atP ps k).take 80, []] : List (List UInt8)).flatten.length ≤ 80 := by simp; omega
    omega
theorem atV_left {a b : List Value} {j : Nat} (h : j < a.length) : atV (a ++ b) j = atV a j := by
  unfold atV; rw [List.getD_eq_getElem?_getD, List.getElem?_append_left h, ← List.getD_eq_getElem?_getD]
theorem atV_right {a b : List Value} {j : Nat} (h : a.length ≤ j) : atV (a ++ b) j = atV b (j - a.length) := by
  unfold atV; rw [List.getD_eq_getElem?_getD, List.getElem?_append_right h, ← List.getD_eq_getElem?_getD]
theorem atP_left {a b : List (List UInt8)} {j : Nat} (h : j < a.length) : atP (a ++ b) j = atP a j := by
  unfold atP; rw [List.getD_eq_getElem?_getD, List.getElem?_append_left h, ← List.getD_eq_getElem?_getD]
theorem atP_right {a b : List (List UInt8)} {j : Nat} (h : a.length ≤ j) : atP (a ++ b) j = atP b (j - a.length) := by
  unfold atP; rw [List.getD_eq_getElem?_getD, List.getElem?_append_right h, ← List.getD_eq_getElem?_getD]
theorem lawVs_each {w : World} {vs : List Value} {ps : List (List UInt8)} {k : Nat} (h : ∀ j, j < k → BSl w (atV vs j) (atP ps j)) : ∀ j, j < (lawPs ps k).length → BSl w (atV (lawVs vs k) j) (atP (lawPs ps k) j) := by
  induction k with
  | zero => intro j hj; simp [lawPs] at hj
  | succ k ih =>
    intro j hj
    rw [lawPs_length] at hj
    have hl := lawVs_length vs k
    have hp := lawPs_length ps k
    rw [lawVs_succ, lawPs_succ]
    by_cases h1 : j < 2 * k
    · rw [atV_left (by omega), atP_left (by omega)]
      exact ih (fun i hi => h i (by omega)) j (by omega)
    · rw [atV_right (by omega), atP_right (by omega), hl, hp]
      obtain h2 | h2 : j - 2 * k = 0 ∨ j - 2 * k = 1 := by omega
      · rw [h2]
        have hb := h k (by omega)
        obtain ⟨a, c, hv⟩ := hb.len
        have := hb
        rw [hv] at this
        have := this.cut rfl 80
        show BSl w (cutV (atV vs k)) ((atP ps k).take 80)
        rw [hv]
        exact this
      · rw [h2]
        exact .inl ⟨rfl, rfl⟩
theorem cutV_one {w : World} {v : Value} {bs : List UInt8} (h : BSl w v bs) : (cutV v).oneCell' = true := by
  obtain ⟨a, c, rfl⟩ := h.len; rfl
/-- Each byte by itself. -/
def eachV (g cap : Nat) (k : Nat) : List Value := (List.range k).map fun j => .slice (some ⟨g, j, none⟩) 1 (cap - j)
def eachP (bs : List UInt8) (k : Nat) : List (List UInt8) := (List.range k).map fun j => [at8 bs j]
theorem eachV_succ (g cap k : Nat) : eachV g cap (k + 1) = eachV g cap k ++ [.slice (some ⟨g, k, none⟩) 1 (cap - k)] := by simp [eachV, List.range_succ]
theorem eachP_flat (bs : List UInt8) : (eachP bs bs.length).flatten = bs := by
  have : ∀ k, k ≤ bs.length → (eachP bs k).flatten = bs.take k := by
    intro k
    induction k with
    | zero => intro _; simp [eachP]
    | succ k ih =>
      intro hk
      have e : eachP bs (k + 1) = eachP bs k ++ [[at8 bs k]] := by simp [eachP, List.range_succ]
      rw [e, List.flatten_append, ih (by omega), List.take_succ_eq_append_getElem (by omega)]
      simp [at8, show k < bs.length by omega]
  rw [this _ (Nat.le_refl _), List.take_length]
theorem eachV_each {w : World} {g cap : Nat} {bs : List UInt8} (hcap : bs.length ≤ cap) (hg : 0 < bs.length → g < w.heap.size) (h : ∀ j, j < bs.length → w.cell? ⟨g, j, none⟩ = some (.int .u8 (N8 (at8 bs j)))) : ∀ j, j < (eachP bs bs.length).length → BSl w (atV (eachV g cap bs.length) j) (atP (eachP bs bs.length) j) := by
  intro j hj
  have hj' : j < bs.length := by simpa [eachP] using hj
  have e1 : atV (eachV g cap bs.length) j = .slice (some ⟨g, j, none⟩) 1 (cap - j) := by simp [atV, eachV, hj']
  have e2 : atP (eachP bs bs.length) j = [at8 bs j] := by simp [atP, eachP, hj']
  rw [e1, e2]
  refine .inr (.inl ⟨g, j, cap - j, rfl, by simp; omega, hg (by omega), fun i hi => ?_⟩)
  have : i = 0 := by simpa using hi
  subst this
  exact h j hj'
theorem owned_form {w : World} {base : Nat} {v : Value} {bs : List UInt8} (h : w.ownsRow base 5 1 v bs.length (c8l bs)) :
    ∃ a g cap, v = .slice a bs.length cap ∧ (0 < bs.length → a = some ⟨g, 0, none⟩) ∧ bs.length ≤ cap ∧ cap ≤ 9223372036854775807 ∧ (0 < bs.length → g < w.heap.size) ∧ (∀ j, j < bs.length → w.cell? ⟨g, j, none⟩ = some (.int .u8 (N8 (at8 bs j)))) := by
  have hB := BSl.of_owns h
  rcases h.2 with ⟨rfl, h0⟩ | ⟨g, cap, cur, rfl, hg, hh, hn, hm, _⟩
  · exact ⟨none, 0, 0, by rw [h0], fun hp => by omega, by omega, by omega, fun hp => by omega, fun j hj => by omega⟩
  · refine ⟨_, g, cap, rfl, fun _ => rfl, hn, hm, fun _ => (Array.getElem?_eq_some_iff.1 hh).1, fun j hj => ?_⟩
    rcases hB with ⟨e, _⟩ | ⟨b', o', c', e, _, _, hx⟩ | ⟨_, _, e⟩
    rotate_right
    · rw [e] at hj; simp at hj
    · cases e
    · cases e
      have := hx j hj
      rwa [Nat.zero_add] at this
theorem hmB_length (key msg : List UInt8) : (hmB key msg).length = 32 := by unfold hmB hmS; exact shaB_length _
/-- Two hashes laid into two variables that have just been made: the first, the second. -/
theorem wpList_store_two1 {w : World} {ops : Array Oper} {rest : List Oper} {o : Oper} {a : Act} {Q : Exit → Act → World → Prop} (hgd : o.guard = none) (x y : Operand) (ho : o.op = .store 24 x y) (l : List UInt8) (hl : l.length = 32)
    (hx : a.eval x = .pointer (some ⟨w.heap.size, 0, none⟩)) (hy : a.eval y = .agg (c8 l))
    (h : ∀ w', Below w.heap.size w w' → Hid (w'.heap[w.heap.size]? = some (.cells (c8 l) 24 (0, 0))) → Hid (w'.heap[w.heap.size + 1]? = some (.cells (c8 (List.replicate 32 0)) 24 (0, 0))) → Hid (w'.heap.size = w.heap.size + 2) → wpList Tryd.prog ops Q rest (a.put o.dst undef) w') :
    wpList Tryd.prog ops Q (o :: rest) a ((w.alloc (.cells #[.int .u8 0, .int .u8 0, .int .u8 0, .int .u8 0, .int .u8 0, .int .u8 0, .int .u8 0, .int .u8 0, .int .u8 0, .int .u8 0, .int .u8 0, .int .u8 0, .int .u8 0, .int .u8 0, .int .u8 0, .int .u8 0, .int .u8 0, .int .u8 0, .int .u8 0, .int .u8 0, .int .u8 0, .int .u8 0, .int .u8 0, .int .u8 0, .int .u8 0, .int .u8 0, .int .u8 0, .int .u8 0, .int .u8 0, .int .u8 0, .int .u8 0, .int .u8 0] 24)).alloc (.cells #[.int .u8 0, .int .u8 0, .int .u8 0, .int .u8 0, .int .u8 0, .int .u8 0, .int .u8 0, .int .u8 0, .int .u8 0, .int .u8 0, .int .u8 0, .int .u8 0, .int .u8 0, .int .u8 0, .int .u8 0, .int .u8 0, .int .u8 0, .int .u8 0, .int .u8 0, .int .u8 0, .int .u8 0, .int .u8 0, .int .u8 0, .int .u8 0, .int .u8 0, .int .u8 0, .int .u8 0, .int .u8 0, .int .u8 0, .int .u8 0, .int .u8 0, .int .u8 0] 24)) := by
  have hr : ((w.alloc (.cells #[.int .u8 0, .int .u8 0, .int .u8 0, .int .u8 0, .int .u8 0, .int .u8 0, .int .u8 0, .int .u8 0, .int .u8 0, .int .u8 0, .int .u8 0, .int .u8 0, .int .u8 0, .int .u8 0, .int .u8 0, .int .u8 0, .int .u8 0, .int .u8 0, .int .u8 0, .int .u8 0, .int .u8 0, .int .u8 0, .int .u8 0, .int .u8 0, .int .u8 0, .int .u8 0, .int .u8 0, .int .u8 0, .int .u8 0, .int .u8 0, .int .u8 0, .int .u8 0] 24)).alloc (.cells #[.int .u8 0, .int .u8 0, .int .u8 0, .int .u8 0, .int .u8 0, .int .u8 0, .int .u8 0, .int .u8 0, .int .u8 0, .int .u8 0, .int .u8 0, .int .u8 0, .int .u8 0, .int .u8 0, .int .u8 0, .int .u8 0, .int .u8 0, .int .u8 0, .int .u8 0, .int .u8 0, .int .u8 0, .int .u8 0, .int .u8 0, .int .u8 0, .int .u8 0, .int .u8 0, .int .u8 0, .int .u8 0, .int .u8 0, .int .u8 0, .int .u8 0, .int .u8 0] 24)).heap[w.heap.size]? = some (.cells (c8 (List.replicate 32 0)) 24 (0, 0)) := (Below.heap_alloc _ _ _ (by simp)).trans (row_new8 w)
  have hr2 := row_new8 (w.alloc (.cells #[.int .u8 0, .int .u8 0, .int .u8 0, .int .u8 0, .int .u8 0, .int .u8 0, .int .u8 0, .int .u8 0, .int .u8 0, .int .u8 0, .int .u8 0, .int .u8 0, .int .u8 0, .int .u8 0, .int .u8 0, .int .u8 0, .int .u8 0, .int .u8 0, .int .u8 0, .int .u8 0, .int .u8 0, .int .u8 0, .int .u8 0, .int .u8 0, .int .u8 0, .int .u8 0, .int .u8 0, .int .u8 0, .int .u8 0, .int .u8 0, .int .u8 0, .int .u8 0] 24))
  rw [World.size_alloc] at hr2
  refine wpList_store_row hgd 24 x y ho w.heap.size (c8 l) hx hy 24 _ hr (by rw [c8_size, hl]; exact info24) (by rw [c8_size, c8_size, hl]; rfl) (c8_one _) ?_
  exact h _ (below_setRow ((alloc_below w).alloc (by simp) _) (Nat.le_refl _) _) (setRow_heap _ _ _ _ _ _ hr) ((setRow_other _ _ _ _ (by omega)).trans hr2) (by show _ = _; simp)
theorem wpList_store_two2 {w : World} {ops : Array Oper} {rest : List Oper} {o : Oper} {a : Act} {Q : Exit → Act → World → Prop} (hgd : o.guard = none) (x y : Operand) (ho : o.op = .store 24 x y) (b : Nat) (l : List UInt8) (hl : l.length = 32)
    (hx : a.eval x = .pointer (some ⟨b + 1, 0, none⟩)) (hy : a.eval y = .agg (c8 l)) (hr : w.heap[b + 1]? = some (.cells (c8 (List.replicate 32 0)) 24 (0, 0)))
    (h : ∀ w', Hid (w'.heap[b + 1]? = some (.cells (c8 l) 24 (0, 0))) → (∀ k, k ≠ b + 1 → w'.heap[k]? = w.heap[k]?) → Hid (w'.os = w.os ∧ w'.tape = w.tape ∧ w'.output = w.output ∧ w'.heap.size = w.heap.size) → wpList Tryd.prog ops Q rest (a.put o.dst undef) w') :
    wpList Tryd.prog ops Q (o :: rest) a w := by
  refine wpList_store_row hgd 24 x y ho (b + 1) (c8 l) hx hy 24 _ hr (by rw [c8_size, hl]; exact info24) (by rw [c8_size, c8_size, hl]; rfl) (c8_one _) ?_
  exact h _ (setRow_heap _ _ _ _ _ _ hr) (fun k hk => setRow_other _ _ _ _ hk) ⟨rfl, rfl, rfl, by simp⟩
theorem store_two_below {w7 w8 w9 : World} (hb : Below w7.heap.size w7 w8) (ho : ∀ k, k ≠ w7.heap.size + 1 → w9.heap[k]? = w8.heap[k]?) (hz : w9.os = w8.os ∧ w9.tape = w8.tape ∧ w9.output = w8.output ∧ w9.heap.size = w8.heap.size) : Below w7.heap.size w7 w9 :=
  ⟨hz.1.trans hb.os, hz.2.1.trans hb.tape, hz.2.2.1.trans hb.output, by rw [hz.2.2.2]; exact hb.size, fun k hk => (ho k (by omega)).trans (hb.block k hk)⟩
theorem range_of_row {w : World} {b T : Nat} {l : List UInt8} (h : w.heap[b]? = some (.cells (c8 l) T (0, 0))) : w.rangeAt b 0 (c8l l) := by
  intro j v hv
  rw [Nat.zero_add, cell_of_row w b j _ T (0, 0) h, c8, List.getElem?_toArray]; exact hv
theorem range_below {B : Nat} {w w' : World} {b : Nat} {cs : List Value} (h : w.rangeAt b 0 cs) (hb : Below B w w') (hB : b < B) : w'.rangeAt b 0 cs := fun j v hv => by
  rw [hb.cell (p := ⟨b, 0 + j, none⟩) hB]; exact h j v hv
/-- What the last statement of the law keeps: the two hashes that it reads, and whatever lay. -/
theorem keepS {w9 W W' : World} {xb : Nat} {X Y : List UInt8} (h : W.rangeAt xb 0 (c8l X) ∧ W.rangeAt (xb + 1) 0 (c8l Y) ∧ Below w9.heap.size w9 W) (hs : xb + 1 < w9.heap.size) (hb : Below W.heap.size W W') :
    W'.rangeAt xb 0 (c8l X) ∧ W'.rangeAt (xb + 1) 0 (c8l Y) ∧ Below w9.heap.size w9 W' :=
  ⟨range_below h.1 hb (by have := h.2.2.size; omega), range_below h.2.1 hb (by have := h.2.2.size; omega), h.2.2.trans (hb.mono h.2.2.size)⟩
theorem shaS {w w9 : World} {xb : Nat} {X Y : List UInt8} {pv : Value} {vs : List Value} {ps : List (List UInt8)} (hP : PSl w9 pv vs ps) (hc0 : ps.length ≤ 1000000000) (ht : ps.flatten.length ≤ 100000000000) (hr : shaB ps.flatten = X)
    (hbw : Below w.heap.size w w9) (hK : GlobK w) (hS : GlobS w) (h3 : 3 < w.heap.size) (hs : xb + 1 < w9.heap.size) (W : World) (h : W.rangeAt xb 0 (c8l X) ∧ W.rangeAt (xb + 1) 0 (c8l Y) ∧ Below w9.heap.size w9 W) :
    Calls Tryd.prog 12 #[pv] W fun e W' => e = .returned (.agg (c8 X)) ∧ (W'.rangeAt xb 0 (c8l X) ∧ W'.rangeAt (xb + 1) 0 (c8l Y) ∧ Below w9.heap.size w9 W') := by
  have hb : Below w.heap.size w W := hbw.trans (h.2.2.mono hbw.size)
  refine (sha_any pv vs ps W (hP.below h.2.2 (Nat.le_refl _)) hc0 ht (hK.below hb h3) (hS.below hb h3) (mid_lt h3 hb)).mono fun e W' x => ?_
  rw [hr] at x
  exact ⟨x.1, keepS h hs x.2⟩
theorem hmS2 {w w9 : World} {xb : Nat} {X Y : List UInt8} {kv pv : Value} {key : List UInt8} {vs : List Value} {ps : List (List UInt8)} (hk : BSl w9 kv key) (hkl : key.length ≤ 10000000000) (hP : PSl w9 pv vs ps) (hc0 : ps.length ≤ 100000000) (ht : ps.flatten.length ≤ 10000000000) (hr : hmB key ps.flatten = Y)
    (hbw : Below w.heap.size w w9) (hK : GlobK w) (hS : GlobS w) (h3 : 3 < w.heap.size) (hs : xb + 1 < w9.heap.size) (W : World) (h : W.rangeAt xb 0 (c8l X) ∧ W.rangeAt (xb + 1) 0 (c8l Y) ∧ Below w9.heap.size w9 W) :
    Calls Tryd.prog 14 #[kv, pv] W fun e W' => e = .returned (.agg (c8 Y)) ∧ (W'.rangeAt xb 0 (c8l X) ∧ W'.rangeAt (xb + 1) 0 (c8l Y) ∧ Below w9.heap.size w9 W') := by
  have hb : Below w.heap.size w W := hbw.trans (h.2.2.mono hbw.size)
  refine (hmac_any kv pv key vs ps W (hk.below h.2.2 (Nat.le_refl _)) hkl (hP.below h.2.2 (Nat.le_refl _)) hc0 ht (hK.below hb h3) (hS.below hb h3) (mid_lt h3 hb)).mono fun e W' x => ?_
  rw [hr] at x
  exact ⟨x.1, keepS h hs x.2⟩
theorem teS {w w9 : World} {xb : Nat} {X Y : List UInt8} (hbw : Below w.heap.size w w9) (hK : GlobK w) (hS : GlobS w) (h3 : 3 < w.heap.size) (hs : xb + 1 < w9.heap.size) (W : World) (h : W.rangeAt xb 0 (c8l X) ∧ W.rangeAt (xb + 1) 0 (c8l Y) ∧ Below w9.heap.size w9 W) :
    Calls Tryd.prog 16 #[] W fun e W' => e = .returned (.bool true) ∧ (W'.rangeAt xb 0 (c8l X) ∧ W'.rangeAt (xb + 1) 0 (c8l Y) ∧ Below w9.heap.size w9 W') := by
  have hb : Below w.heap.size w W := hbw.trans (h.2.2.mono hbw.size)
  exact (tells_any W (hK.below hb h3) (hS.below hb h3) (mid_lt h3 hb)).mono fun e W' x => ⟨x.1, keepS h hs x.2⟩
def PaR (vs : List Value) (n : Nat) (w : World) (v i : Value) (wr : World) : Prop :=
  ∃ k : Nat, k ≤ n ∧ i = .int .i64 k ∧ wr.ownsRow w.heap.size 22 1 v (2 * min k 8) (lawVs vs (min k 8)) ∧ Below w.heap.size w wr
def PaE (g cap n : Nat) (w : World) (v i : Value) (wr : World) : Prop :=
  ∃ k : Nat, k ≤ n ∧ i = .int .i64 k ∧ wr.ownsRow w.heap.size 22 1 v k (eachV g cap k) ∧ Below w.heap.size w wr
theorem two_new (w : World) (x y : Value) (T : Nat) : ∀ j u, [x, y][j]? = some u → (w.alloc (.cells #[x, y] T)).cell? ((⟨w.heap.size, 0, none⟩ : Addr).add j) = some u := by
  intro j u hu
  rw [Addr.add_mid, Nat.zero_add, cell_of_row _ _ j _ T (0, 0) (row_new _ _ _)]
  simpa using hu
end Go.Proofs.YtjkicmlelilcaaaDoor
