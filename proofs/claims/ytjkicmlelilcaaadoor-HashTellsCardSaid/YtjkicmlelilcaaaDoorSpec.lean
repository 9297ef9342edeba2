/- Plain functions: what the hash's parts compute. No program in sight. -/
import Derived.Test.YtjkicmlelilcaaaDoorWords
namespace Go.Proofs.YtjkicmlelilcaaaDoor
open Go

/-- A byte, a word of a list, closed to the walk. -/
def at8 (l : List UInt8) (i : Nat) : UInt8 := l.getD i 0
def at32 (l : List UInt32) (i : Nat) : UInt32 := l.getD i 0
theorem at32_set_self {l : List UInt32} {i : Nat} {x : UInt32} (h : i < l.length) : at32 (l.set i x) i = x := by
  unfold at32; rw [List.getD_eq_getElem?_getD, List.getElem?_set_self h]; rfl
theorem at32_set_ne {l : List UInt32} {i j : Nat} {x : UInt32} (h : i ≠ j) : at32 (l.set i x) j = at32 l j := by
  unfold at32; rw [List.getD_eq_getElem?_getD, List.getElem?_set_ne h, List.getD_eq_getElem?_getD]
/-- A row of words, as cells. -/
def cwl (l : List UInt32) : List Value := l.map fun x => Value.int .u32 (N32 x)
def cw (l : List UInt32) : Array Value := (cwl l).toArray
theorem cw_size (l : List UInt32) : (cw l).size = l.length := by simp [cw, cwl]
theorem cw_at (l : List UInt32) (i : Nat) (h : i < l.length) : (cw l)[i]? = some (.int .u32 (N32 (at32 l i))) := by
  simp [cw, cwl, h, at32]
theorem cw_set (l : List UInt32) (i : Nat) (x : UInt32) : (cw l).setIfInBounds i (.int .u32 (N32 x)) = cw (l.set i x) := by
  apply Array.ext'
  simp [cw, cwl, List.map_set]

theorem cw_one (l : List UInt32) : (cw l).all (·.oneCell') = true := by
  rw [Array.all_eq_true_iff_forall_mem]
  intro v hv
  simp only [cw, cwl, List.mem_toArray, List.mem_map] at hv
  obtain ⟨x, _, rfl⟩ := hv
  rfl
/-- A byte put behind a word. -/
def putB (x : UInt32) (c : UInt8) : UInt32 := UInt32.ofNat (x.toNat * 256) ||| UInt32.ofNat c.toNat
theorem putB_eq (x : UInt32) (c : UInt8) : bits .or .u32 (N32 x * 256 % 4294967296) (N8 c) = N32 (putB x c) := by
  have h1 : N32 x * 256 % 4294967296 = N32 (UInt32.ofNat (x.toNat * 256)) := by
    unfold N32; rw [UInt32.toNat_ofNat']; omega
  have h2 : N8 c = N32 (UInt32.ofNat c.toNat) := by
    unfold N32 N8; rw [UInt32.toNat_ofNat']
    have := c.toNat_lt
    rw [Nat.mod_eq_of_lt (by omega)]
  rw [h1, h2, u32_bits_or]; rfl

/-- Word t's first j bytes. -/
def wordTo (bs : List UInt8) (t : Nat) : Nat → UInt32
  | 0 => 0
  | j + 1 => putB (wordTo bs t j) (at8 bs (4 * t + j))
def nextW (l : List UInt32) (t : Nat) : UInt32 :=
  at32 l (t - 16) + at32 l (t - 7) + slideW (at32 l (t - 15)) 7 18 3 + slideW (at32 l (t - 2)) 17 19 10
/-- The schedule's array behind t rounds. -/
def schedTo (bs : List UInt8) : Nat → List UInt32
  | 0 => List.replicate 64 0
  | t + 1 => (schedTo bs t).set t (if t < 16 then wordTo bs t 4 else nextW (schedTo bs t) t)
theorem schedTo_length (bs : List UInt8) (t : Nat) : (schedTo bs t).length = 64 := by
  induction t with
  | zero => simp [schedTo]
  | succ t ih => simp [schedTo, ih]
theorem schedTo_zero_at (bs : List UInt8) (t i : Nat) (h : t ≤ i) : at32 (schedTo bs t) i = 0 := by
  induction t with
  | zero =>
    simp only [schedTo, at32]
    rw [List.getD_eq_getElem?_getD, List.getElem?_replicate]; split <;> rfl
  | succ t ih =>
    have := ih (by omega)
    simp only [schedTo]
    rw [at32_set_ne (by omega)]; exact this

/-- The constants of the rounds; the state ahead of any block. -/
def KK : List UInt32 := [1116352408, 1899447441, 3049323471, 3921009573, 961987163, 1508970993, 2453635748, 2870763221, 3624381080, 310598401, 607225278, 1426881987, 1925078388, 2162078206, 2614888103, 3248222580, 3835390401, 4022224774, 264347078, 604807628, 770255983, 1249150122, 1555081692, 1996064986, 2554220882, 2821834349, 2952996808, 3210313671, 3336571891, 3584528711, 113926993, 338241895, 666307205, 773529912, 1294757372, 1396182291, 1695183700, 1986661051, 2177026350, 2456956037, 2730485921, 2820302411, 3259730800, 3345764771, 3516065817, 3600352804, 4094571909, 275423344, 430227734, 506948616, 659060556, 883997877, 958139571, 1322822218, 1537002063, 1747873779, 1955562222, 2024104815, 2227730452, 2361852424, 2428436474, 2756734187, 3204031479, 3329325298]
def S0 : List UInt32 := [1779033703, 3144134277, 1013904242, 2773480762, 1359893119, 2600822924, 528734635, 1541459225]
/-- One round. -/
def oneW (x : List UInt32) (k v : UInt32) : UInt32 := at32 x 7 + turnW (at32 x 4) 6 11 25 + (at32 x 4 &&& at32 x 5 ^^^ ~~~ at32 x 4 &&& at32 x 6) + k + v
def twoW (x : List UInt32) : UInt32 := turnW (at32 x 0) 2 13 22 + (at32 x 0 &&& at32 x 1 ^^^ at32 x 0 &&& at32 x 2 ^^^ at32 x 1 &&& at32 x 2)
def rndW (x : List UInt32) (k v : UInt32) : List UInt32 :=
  [oneW x k v + twoW x, at32 x 0, at32 x 1, at32 x 2, at32 x 3 + oneW x k v, at32 x 4, at32 x 5, at32 x 6]
def rndTo (s W : List UInt32) : Nat → List UInt32
  | 0 => s
  | t + 1 => rndW (rndTo s W t) (at32 KK t) (at32 W t)
def sumTo (s x : List UInt32) : Nat → List UInt32
  | 0 => s
  | k + 1 => (sumTo s x k).set k (at32 (sumTo s x k) k + at32 x k)
/-- A block taken in. -/
def compW (s : List UInt32) (bs : List UInt8) : List UInt32 := sumTo s (rndTo s (schedTo bs 64) 64) 8
theorem rndTo_length (s W : List UInt32) (t : Nat) (h : s.length = 8) : (rndTo s W t).length = 8 := by
  cases t with
  | zero => exact h
  | succ t => rfl
theorem sumTo_length (s x : List UInt32) (k : Nat) : (sumTo s x k).length = s.length := by
  induction k with
  | zero => rfl
  | succ k ih => simp [sumTo, ih]
theorem compW_length (s : List UInt32) (bs : List UInt8) : (compW s bs).length = s.length := sumTo_length _ _ _

/-- w' is w but for block b and new blocks. -/
structure But (b : Nat) (w w' : World) : Prop where
  os : w'.os = w.os
  tape : w'.tape = w.tape
  output : w'.output = w.output
  size : w.heap.size ≤ w'.heap.size
  block : ∀ k, k < w.heap.size → k ≠ b → w'.heap[k]? = w.heap[k]?
theorem But.of_below {b : Nat} {w w' : World} (h : RowKit.Below w.heap.size w w') : But b w w' := ⟨h.os, h.tape, h.output, h.size, fun k hk _ => h.block k hk⟩
theorem But.setCell {b i : Nat} {w w' : World} (h : But b w w') (v : Value) : But b w (w'.setCell ⟨b, i, none⟩ v) :=
  ⟨h.os, h.tape, h.output, by simpa [World.setCell] using h.size, fun k hk hb => (heap_setCell_other _ _ _ _ (by simpa using hb)).trans (h.block k hk hb)⟩
theorem But.drewN {b n : Nat} {w w' : World} (h : But b w w') : But b w (w'.drewN n) := ⟨h.os, h.tape, h.output, h.size, h.block⟩

/-! A block of words in the world. -/
theorem row_new (w : World) (C : Array Value) (T : Nat) : (w.alloc (.cells C T)).heap[w.heap.size]? = some (.cells C T (0, 0)) := by
  unfold World.alloc; simp
theorem set_self {l : List UInt32} {t : Nat} (h : t < l.length) : l.set t (at32 l t) = l := by
  unfold at32; rw [List.getD_eq_getElem?_getD, List.getElem?_eq_getElem h]; simp
theorem sch_start (bs : List UInt8) (t : Nat) (h : t < 64) : (schedTo bs t).set t (wordTo bs t 0) = schedTo bs t := by
  have := schedTo_zero_at bs t t (Nat.le_refl _)
  show (schedTo bs t).set t 0 = _
  rw [← this]; exact set_self (by rw [schedTo_length]; exact h)
theorem row_cell {w : World} {B T : Nat} {l : List UInt32} (h : w.heap[B]? = some (.cells (cw l) T (0, 0))) (i : Nat) (hi : i < l.length) :
    w.cell? ⟨B, i, none⟩ = some (.int .u32 (N32 (at32 l i))) := by
  unfold World.cell?; rw [h]; simp only [Option.isSome_none, Bool.false_eq_true, if_false]; exact cw_at l i hi
theorem off_ne {B i j : Nat} (h : i ≠ j) (W : World) (v : Value) : (W.setCell ⟨B, i, none⟩ v).cell? ⟨B, j, none⟩ = W.cell? ⟨B, j, none⟩ := by
  unfold World.cell? World.setCell
  simp only [Array.getElem?_modify, if_true]
  cases h2 : W.heap[B]? with
  | none => rfl
  | some o => cases o <;> simp [h]
theorem below_setRow {B : Nat} {a w : World} (h : RowKit.Below B a w) {g : Nat} (hg : B ≤ g) (cs : Array Value) : RowKit.Below B a (w.setRow g cs) :=
  h.trans ⟨rfl, rfl, rfl, by simp, fun k hk => setRow_other _ _ _ _ (by omega)⟩
theorem row_free {w : World} {B T : Nat} {C : Array Value} (h : w.heap[B]? = some (.cells C T (0, 0))) (i : Nat) : w.frozen? ⟨B, i, none⟩ = false := by
  unfold World.frozen?; rw [h]; simp
theorem row_set {w : World} {B T : Nat} {l : List UInt32} (h : w.heap[B]? = some (.cells (cw l) T (0, 0))) (i : Nat) (x : UInt32) :
    (w.setCell ⟨B, i, none⟩ (.int .u32 (N32 x))).heap[B]? = some (.cells (cw (l.set i x)) T (0, 0)) := by
  unfold World.setCell; simp only [Array.getElem?_modify, h, if_true, Option.map_some, Option.isSome_none, Bool.false_eq_true, if_false, cw_set]
end Go.Proofs.YtjkicmlelilcaaaDoor
