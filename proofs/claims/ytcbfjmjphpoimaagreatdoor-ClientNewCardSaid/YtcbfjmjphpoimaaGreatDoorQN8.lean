/- Part 8 of the proof: texts of the proof. -/
import Derived.Test.YtcbfjmjphpoimaaGreatDoorQN7
import Derived.WalkSpells
import Derived.WalkLawsBesides
import Derived.Lib.Hide
import Derived.Deep.QuietTactic
import Derived.BigQuiet
import Derived.RangeFuncBox
import Derived.RangeFuncLeaves
import Derived.OwnWalkIn
import Derived.TacticsInMore
import Derived.LoopNIn
import Derived.LoopIn
import Derived.RangeFuncWrites
import Derived.Laws.CopyOwn
import Derived.Lib.AppendZerosOnto
import Derived.Lib.Overlaps
import Derived.Deep.RegionLaw
import Derived.Deep.MidRow
import Derived.StillTailTactics
import Derived.Shelf.Abstract
import Derived.RangeFuncCalls
import Derived.Deep.RegionHeld3
import Derived.Test.YtcbfjmjphpoimaaGreatDoorChecked
namespace Go.Proofs.YtcbfjmjphpoimaaGreatDoor
open Go.RowKit
set_option maxHeartbeats 400000 in
theorem chunk_any (a : Option Addr) (n c : Nat) (w : World) :
    Calls Tryz.prog 184 #[.slice a n c, .int .i64 64] w fun e w' => e = .returned (.func (.func 203) #[] #[.pointer (some ⟨w.heap.size, 0, none⟩), .pointer (some ⟨w.heap.size + 1, 0, none⟩)]) ∧ (w.alloc (.cells #[.slice a n c] 22)).alloc (.cells #[.int .i64 64] 3) = w' := by
  go_enter Tryz.func184, Tryz.ntmps184
  go_wp2
  go_ret
  exact ⟨rfl, rfl⟩
attribute [local go_sem] Oper.semAt_some
def chunkV (g : Nat) (k : Nat) : Value := .slice (some ⟨g, 64 * k, none⟩) 64 64
def KB (Bs : Nat) (W W' : World) : Prop := W'.heap[Bs]? = W.heap[Bs]? ∧ W'.heap[Bs + 1]? = W.heap[Bs + 1]?
theorem KB.refl (Bs : Nat) (W : World) : KB Bs W W := ⟨rfl, rfl⟩
theorem KB.trans {Bs : Nat} {A B C : World} (h : KB Bs A B) (k : KB Bs B C) : KB Bs A C := ⟨k.1.trans h.1, k.2.trans h.2⟩
theorem KB.drewN {Bs n : Nat} {A B : World} (h : KB Bs A B) : KB Bs A (B.drewN n) := h
theorem KB.c0 {Bs : Nat} {A B : World} (h : KB Bs A B) : B.cell? ⟨Bs, 0, none⟩ = A.cell? ⟨Bs, 0, none⟩ := World.cell?_of_block h.1
theorem KB.c1 {Bs : Nat} {A B : World} (h : KB Bs A B) : B.cell? ⟨Bs + 1, 0, none⟩ = A.cell? ⟨Bs + 1, 0, none⟩ := World.cell?_of_block h.2
set_option maxRecDepth 100000 in
set_option maxHeartbeats 2000000 in
theorem chunk1_in (l Bs g m cap : Nat) (hm : m ≤ 100000000000) (hcap : 64 * m ≤ cap) (J Jx : List Nat → World → Prop) (hJ : ∀ s W n, J s W → J s (W.drewN n))
    (hY : ∀ pre x W, J pre W → pre.length < m → YieldAt Fence.wide 5 Tryz.prog l #[chunkV g (x % m)] W fun e W' =>
      (e = .returned (.bool true) ∧ J (pre ++ [x]) W' ∧ KB Bs W W') ∨ (e = .returned (.bool false) ∧ Jx (pre ++ [x]) W'))
    (W : World) (h1 : W.cell? ⟨Bs, 0, none⟩ = some (.slice (some ⟨g, 0, none⟩) (64 * m) cap)) (h2 : W.cell? ⟨Bs + 1, 0, none⟩ = some (.int .i64 64)) (h0 : J [] W) :
    CallsIn Fence.wide 6 Tryz.prog 203 #[.func (.yield l) #[] #[], .pointer (some ⟨Bs, 0, none⟩), .pointer (some ⟨Bs + 1, 0, none⟩)] W fun e W' => (∃ v, e = .returned v) ∧
      ((∃ ys, ys = List.range m ∧ J ys W') ∨ (∃ pre, (∃ k, k ≤ m ∧ pre = List.range k) ∧ Jx pre W')) := by
  refine callsIn_of_wp Tryz.func203 rfl trivial ?_ rfl
  simp only [Tryz.ntmps203, List.size_toArray, List.length_cons, List.length_nil, Nat.reduceAdd, Nat.reduceSub, Array.replicate_succ, Array.replicate_zero, List.push_toArray, List.append_toArray, List.nil_append, List.cons_append]
  have HY := Lib.hid hY
  have HJ := Lib.hid hJ
  clear hY hJ
  gi_wp2
  gi_loopw [4] (fun i wr => ∃ k : Nat, k ≤ m ∧ i = .int .i64 (64 * k : Nat) ∧ J (List.range k) wr ∧ KB Bs W wr)
    (fun i _ => 64 * m + 1 - (intOf i).toNat)
  case atStart => exact ⟨0, Nat.zero_le _, rfl, by simpa using h0, KB.refl _ _⟩
  case round =>
    obtain ⟨k, hk, rfl, hJs, hnx⟩ := hrel
    have g1 : wr.cell? ⟨Bs, 0, none⟩ = some (.slice (some ⟨g, 0, none⟩) (64 * m) cap) := hnx.c0.trans h1
    have g2 : wr.cell? ⟨Bs + 1, 0, none⟩ = some (.int .i64 64) := hnx.c1.trans h2
    by_cases hlt : k < m
    · have d1 : decide (((64 * k : Nat) : Int) < ((64 * m : Nat) : Int)) = true := decide_eq_true (by omega)
      have z0 : (0 : Int) ≤ ((64 * k : Nat) : Int) := by omega
      have z1 : ((64 * k : Nat) : Int) ≤ ((64 * m : Nat) : Int) := by omega
      have z2 : ((64 * k : Nat) : Int) ≤ (cap : Int) := by omega
      have z3 : ((64 * k : Nat) : Int) < (cap : Int) := by omega
      gi_wp2
      refine wpIn_wide.2 ?_
      go_quiet (fail)
      have hJ2 := HJ.out _ _ nq hJs
      have hnx2 := hnx.drewN (n := nq)
      obtain ⟨fn, tmps, assign, body, hy, hR⟩ := HY.out _ k _ hJ2 (by simpa using hlt)
      have HR := Lib.hid hR
      clear hR
      rw [Nat.mod_eq_of_lt hlt] at hy
      unfold chunkV at hy
      have e1 : IntKind.i64.wrap (((64 * k : Nat) : Int) + 64) = ((64 * k : Nat) : Int) + 64 := IntWalk.i64_in _ (by omega)
      gi_wp2
      refine HR.out.mono ?_
      rintro e W3 (⟨rfl, hJ3, hk3⟩ | ⟨rfl, hJx3⟩)
      · have g3 : W3.cell? ⟨Bs + 1, 0, none⟩ = some (.int .i64 64) := hk3.c1.trans g2
        gi_wp2
        go_roundw
        case rel => exact ⟨k + 1, by omega, by simp; omega, by rw [List.range_succ]; exact hJ3, hnx2.trans hk3⟩
        case measure => simp [intOf]; omega
      · gi_wp2
        refine bodyPost_ret (results_none rfl _ _ _) rfl ?_
        exact ⟨⟨_, rfl⟩, .inr ⟨_, ⟨k + 1, by omega, List.range_succ.symm⟩, hJx3⟩⟩
    · obtain rfl : k = m := by omega
      have d1 : decide (((64 * k : Nat) : Int) < ((64 * k : Nat) : Int)) = false := decide_eq_false (by omega)
      gi_wp2
      go_end0
      exact ⟨⟨_, rfl⟩, .inl ⟨_, rfl, hJs⟩⟩
theorem chunk_stops (Bs g m cap : Nat) (hm : m ≤ 100000000000) (hcap : 64 * m ≤ cap) (w : World) (hB : Bs + 1 < w.heap.size)
    (h1 : w.cell? ⟨Bs, 0, none⟩ = some (.slice (some ⟨g, 0, none⟩) (64 * m) cap)) (h2 : w.cell? ⟨Bs + 1, 0, none⟩ = some (.int .i64 64)) :
    SeqStopsK Fence.wide 6 Tryz.prog 203 #[.pointer (some ⟨Bs, 0, none⟩), .pointer (some ⟨Bs + 1, 0, none⟩)] (fun x : Nat => #[chunkV g (x % m)]) (KB Bs)
      (fun ys => ys = List.range m) (fun pre => ∃ k, k ≤ m ∧ pre = List.range k) m w := fun l J Jx W hW hA _ hY h0 =>
  chunk1_in l Bs g m cap hm hcap J Jx (fun s W n hs => hA s W _ none hs ⟨rfl, rfl, rfl, Nat.le_refl _, fun _ _ _ => rfl⟩ (fun r e => by cases e)) hY W
    ((hW.cell (p := ⟨Bs, 0, none⟩) (by simp; omega)).trans h1) ((hW.cell (p := ⟨Bs + 1, 0, none⟩) (by simp; omega)).trans h2) h0
end Go.Proofs.YtcbfjmjphpoimaaGreatDoor
namespace Go.Proofs.YtcbfjmjphpoimaaGreatDoor
open Go
def padZ (n : Nat) : Nat := (120 - (n + 1) % 64) % 64
def pad0 (bs : List UInt8) : List UInt8 := bs ++ [128] ++ List.replicate (padZ bs.length) 0
def lenB (n k : Nat) : UInt8 := UInt8.ofNat (8 * n / 2 ^ (56 - 8 * k))
def padTo (bs : List UInt8) (k : Nat) : List UInt8 := pad0 bs ++ (List.range k).map (lenB bs.length)
theorem padTo_succ (bs : List UInt8) (k : Nat) : padTo bs (k + 1) = padTo bs k ++ [lenB bs.length k] := by
  unfold padTo; rw [List.range_succ, List.map_append, List.append_assoc]; rfl
theorem padTo_length (bs : List UInt8) (k : Nat) : (padTo bs k).length = bs.length + 1 + padZ bs.length + k := by
  unfold padTo pad0; simp; omega
def blocks (bs : List UInt8) : Nat := (bs.length + 9 + padZ bs.length) / 64
theorem pad_length (bs : List UInt8) : (padTo bs 8).length = 64 * blocks bs := by
  rw [padTo_length]; unfold blocks padZ; omega
theorem blocks_le (bs : List UInt8) : 64 * blocks bs ≤ bs.length + 73 := by
  unfold blocks padZ; omega
def blk (l : List UInt8) (k : Nat) : List UInt8 := (l.drop (64 * k)).take 64
theorem at8_blk (l : List UInt8) (k i : Nat) (h : i < 64) : at8 (blk l k) i = at8 l (64 * k + i) := by
  unfold at8 blk
  rw [List.getD_eq_getElem?_getD, List.getD_eq_getElem?_getD, List.getElem?_take, if_pos h, List.getElem?_drop]
def stTo (bs : List UInt8) : Nat → List UInt32
  | 0 => S0
  | k + 1 => compW (stTo bs k) (blk (padTo bs 8) k)
theorem stTo_length (bs : List UInt8) (k : Nat) : (stTo bs k).length = 8 := by
  induction k with
  | zero => rfl
  | succ k ih => simp only [stTo]; rw [compW_length, ih]
def stL (bs : List UInt8) (l : List Nat) : List UInt32 := l.foldl (fun s x => compW s (blk (padTo bs 8) (x % blocks bs))) S0
theorem stL_snoc (bs : List UInt8) (l : List Nat) (x : Nat) : stL bs (l ++ [x]) = compW (stL bs l) (blk (padTo bs 8) (x % blocks bs)) := by
  unfold stL; rw [List.foldl_append]; rfl
theorem stL_length (bs : List UInt8) (l : List Nat) : (stL bs l).length = 8 := by
  unfold stL
  suffices ∀ (l : List Nat) (s : List UInt32), s.length = 8 → (l.foldl (fun s x => compW s (blk (padTo bs 8) (x % blocks bs))) s).length = 8 from this l S0 rfl
  intro l
  induction l with
  | nil => exact fun s h => h
  | cons x l ih => exact fun s h => ih _ (by rw [compW_length, h])
theorem stL_range (bs : List UInt8) (k : Nat) (hk : k ≤ blocks bs) : stL bs (List.range k) = stTo bs k := by
  induction k with
  | zero => rfl
  | succ k ih => rw [List.range_succ, stL_snoc, ih (by omega), stTo, Nat.mod_eq_of_lt (by omega)]
def outB (s : List UInt32) (k : Nat) : UInt8 := UInt8.ofNat ((at32 s (k / 4)).toNat / 2 ^ (24 - k % 4 * 8))
def outTo (s : List UInt32) : Nat → List UInt8
  | 0 => List.replicate 32 0
  | k + 1 => (outTo s k).set k (outB s k)
theorem outTo_length (s : List UInt32) (k : Nat) : (outTo s k).length = 32 := by
  induction k with
  | zero => simp [outTo]
  | succ k ih => simp [outTo, ih]
def shaB (bs : List UInt8) : List UInt8 := outTo (stTo bs (blocks bs)) 32
theorem shaB_length (bs : List UInt8) : (shaB bs).length = 32 := outTo_length _ _
theorem lenB_eq (n k : Nat) : (((n : Int) * 8) / 2 ^ (56 - 8 * k)) % 256 = N8 (lenB n k) := by
  unfold N8 lenB
  rw [UInt8.toNat_ofNat']
  have : ((n : Int) * 8) / 2 ^ (56 - 8 * k) = ((8 * n / 2 ^ (56 - 8 * k) : Nat) : Int) := by simp [Int.mul_comm]
  rw [this]; omega
theorem outB_eq (s : List UInt32) (k : Nat) : (N32 (at32 s (k / 4)) / 2 ^ (24 - k % 4 * 8)) % 256 = N8 (outB s k) := by
  unfold N8 outB N32
  rw [UInt8.toNat_ofNat']
  have : ((at32 s (k / 4)).toNat : Int) / 2 ^ (24 - k % 4 * 8) = (((at32 s (k / 4)).toNat / 2 ^ (24 - k % 4 * 8) : Nat) : Int) := by simp
  rw [this]; omega
theorem row_new8 (w : World) : (w.alloc (.cells #[.int .u8 0, .int .u8 0, .int .u8 0, .int .u8 0, .int .u8 0, .int .u8 0, .int .u8 0, .int .u8 0, .int .u8 0, .int .u8 0, .int .u8 0, .int .u8 0, .int .u8 0, .int .u8 0, .int .u8 0, .int .u8 0, .int .u8 0, .int .u8 0, .int .u8 0, .int .u8 0, .int .u8 0, .int .u8 0, .int .u8 0, .int .u8 0, .int .u8 0, .int .u8 0, .int .u8 0, .int .u8 0, .int .u8 0, .int .u8 0, .int .u8 0, .int .u8 0] 304)).heap[w.heap.size]? = some (.cells (c8 (List.replicate 32 0)) 304 (0, 0)) := row_new _ _ _
theorem row8_cell {w : World} {B T : Nat} {l : List UInt8} (h : w.heap[B]? = some (.cells (c8 l) T (0, 0))) (i : Nat) (hi : i < l.length) :
    w.cell? ⟨B, i, none⟩ = some (.int .u8 (N8 (at8 l i))) := by
  unfold World.cell?; rw [h]; simp only [Option.isSome_none, Bool.false_eq_true, if_false]; exact c8_at l i hi
theorem row8_set {w : World} {B T : Nat} {l : List UInt8} (h : w.heap[B]? = some (.cells (c8 l) T (0, 0))) (i : Nat) (x : UInt8) :
    (w.setCell ⟨B, i, none⟩ (.int .u8 (N8 x))).heap[B]? = some (.cells (c8 (l.set i x)) T (0, 0)) := by
  unfold World.setCell; simp only [Array.getElem?_modify, h, if_true, Option.map_some, Option.isSome_none, Bool.false_eq_true, if_false, c8_set]
end Go.Proofs.YtcbfjmjphpoimaaGreatDoor
namespace Go.Proofs.YtcbfjmjphpoimaaGreatDoor
open Go.RowKit
attribute [local go_sem] u8_bits_xor
def keyW (key : List UInt8) : List UInt8 := key ++ List.replicate (64 - key.length) 0
def chgTo (key : List UInt8) (c : UInt8) : Nat → List UInt8
  | 0 => keyW key
  | k + 1 => (chgTo key c k).set k (at8 (chgTo key c k) k ^^^ c)
theorem keyW_length (key : List UInt8) (h : key.length ≤ 64) : (keyW key).length = 64 := by simp [keyW]; omega
theorem chgTo_length (key : List UInt8) (c : UInt8) (k : Nat) (h : key.length ≤ 64) : (chgTo key c k).length = 64 := by
  induction k with
  | zero => exact keyW_length key h
  | succ k ih => simp [chgTo, ih]
def chg (key : List UInt8) (c : UInt8) : List UInt8 := chgTo key c 64
theorem chg_length (key : List UInt8) (c : UInt8) (h : key.length ≤ 64) : (chg key c).length = 64 := chgTo_length key c 64 h
theorem info5s : (Tryz.prog.info? 5).map (·.size) = some 1 := by kernel_rfl
theorem make64 (w : World) : (Instr.makeSlice 22 (.int .i64 64) (.int .i64 64)).run Tryz.prog w = .ok (.slice (some ⟨w.heap.size, 0, none⟩) 64 64) (w.alloc (.cells (c8l (List.replicate 64 0)).toArray 5)) := by kernel_rfl
theorem splice_key (key : List UInt8) (_h : key.length ≤ 64) : splice (c8l (List.replicate 64 0)) 0 (c8l key) = c8l (keyW key) := by
  unfold splice keyW
  rw [List.take_zero, List.nil_append, c8l_append, Nat.zero_add, c8l_length]
  congr 1
  unfold c8l
  rw [← List.map_drop, List.drop_replicate]
def ChgR (key : List UInt8) (c : UInt8) (w : World) (i : Value) (wr : World) : Prop :=
  ∃ k : Nat, k ≤ 64 ∧ i = .int .i64 k ∧ wr.heap[w.heap.size]? = some (.cells (c8 (chgTo key c k)) 5 (0, 0)) ∧ Below w.heap.size w wr
def ChgP (key : List UInt8) (c : UInt8) (w : World) (e : Ending) (w' : World) : Prop :=
  e = .returned (.slice (some ⟨w.heap.size, 0, none⟩) 64 64) ∧ w'.heap[w.heap.size]? = some (.cells (c8 (chg key c)) 5 (0, 0)) ∧ Below w.heap.size w w'
set_option maxHeartbeats 1000000 in
theorem changed_at (a : Option Addr) (n cp : Nat) (key : List UInt8) (c : UInt8) (w : World) (hn : n = key.length) (h : BSl w (.slice a n cp) key) (hl : key.length ≤ 64) :
    Calls Tryz.prog 170 #[.slice a n cp, .int .u8 (N8 c)] w (ChgP key c w) := by
  have hb0 : Below w.heap.size w (w.alloc (.cells (c8l (List.replicate 64 0)).toArray 5)) := (Below.refl _ _).alloc (Nat.le_refl _) _
  have h0 := h.below hb0 (Nat.le_refl _)
  have HN := Lib.hid hn
  have HMK := Lib.hid make64
  have hpos : 0 < (c8l key).length → (some ⟨w.heap.size, 0, none⟩ : Option Addr) = some ⟨w.heap.size, 0, none⟩ ∧ ∃ ad, a = some ad ∧ ∀ j v, (c8l key)[j]? = some v → (w.alloc (.cells (c8l (List.replicate 64 0)).toArray 5)).cell? (ad.add j) = some v := by
    intro hp
    rw [c8l_length] at hp
    rcases h0 with ⟨e, hk⟩ | ⟨b, off, c1, e, hc1, hlt, hcell⟩ | ⟨_, e, hk⟩
    rotate_right
    · subst hk; simp at hp
    · subst hk; simp at hp
    · cases e
      exact ⟨rfl, _, rfl, news_of hcell⟩
  have HP := Lib.hid hpos
  clear hpos h0 h
  have hmk : ∀ w : World, (Instr.makeSlice 22 (.int .i64 64) (.int .i64 64)).run Tryz.prog w = .ok (.slice (some ⟨w.heap.size, 0, none⟩) 64 64) (w.alloc (.cells (c8l (List.replicate 64 0)).toArray 5)) := make64
  clear hn
  have hn64 : n ≤ 64 := by have := HN.out; omega
  go_enter Tryz.func170, Tryz.ntmps170
  go_wp2_with (refine wpList_copy_splice rfl (.tmp 8) (.tmp 9) 22 22 rfl 5 Tryz.underlying22 info5s (some ⟨w.heap.size, 0, none⟩) a 64 64 n cp rfl rfl w.heap.size 0 (c8l (List.replicate 64 0)) 5 (row_new _ _ _) (c8l key) (by rw [c8l_length, HN.out]; exact (Nat.min_eq_left (by omega)).symm) HP.out (by rw [c8l_length, c8l_length]; simp; omega) (c8l_one _) w.heap.size w hb0 (Nat.le_refl _) ?_; intro w2 HG2 hb2)
  rw [splice_key key hl] at HG2
  clear hmk
  go_wp2
  go_loopw [13] (ChgR key c w) (fun i _ => 64 - (intOf i).toNat)
  case atStart => exact ⟨0, by omega, rfl, HG2.out, hb2⟩
  case round =>
    obtain ⟨k, hk, rfl, hG, hb3⟩ := hrel
    have HG := Lib.hid hG
    clear hG
    by_cases h64 : k < 64
    · have d64 : decide ((k : Int) < 64) = true := decide_eq_true (by omega)
      have ck := row8_cell HG.out k (by rw [chgTo_length _ _ _ hl]; exact h64)
      have fk := row_free HG.out k
      have HF := Lib.hid (row8_set HG.out k (at8 (chgTo key c k) k ^^^ c))
      go_wp2
      go_roundw
      case rel => exact ⟨k + 1, by omega, by go_num, HF.out, hb3.setCell (Nat.le_refl _) _⟩
      case measure => simp [intOf]; omega
    · have d64 : decide ((k : Int) < 64) = false := decide_eq_false (by omega)
      obtain rfl : k = 64 := by omega
      go_wp2
      go_ret
      exact ⟨rfl, HG.out, hb3⟩
end Go.Proofs.YtcbfjmjphpoimaaGreatDoor
namespace Go.Proofs.YtcbfjmjphpoimaaGreatDoor
open Go.RowKit
theorem info22 : (Tryz.prog.info? 22).map (fun i => (i.zero, i.size, i.bytes)) = some (some (.slice none 0 0), 1, 24) := by kernel_rfl
def OwnedV (w : World) (n : Nat) (xs : List Value) (e : Ending) (w' : World) : Prop :=
  ∃ v, e = .returned v ∧ w'.ownsRow w.heap.size 22 1 v n xs ∧ Below w.heap.size w w'
set_option maxHeartbeats 400000 in
theorem clone_nil (w : World) : Calls Tryz.prog 169 #[.slice none 0 0] w (OwnedV w 0 []) := by
  have he := fun w : World => Lib.run_eql_slice_nil (P := Tryz.prog) w 73 22 none 0 0 0 0 Tryz.underlying73
  go_enter Tryz.func169, Tryz.ntmps169
  go_wp2
  go_ret
  exact ⟨_, rfl, ⟨rfl, .inl ⟨rfl, rfl⟩⟩, Below.refl _ _⟩
set_option maxHeartbeats 400000 in
theorem clone_some (b off c : Nat) (vs : List Value) (w : World) (hlt : b < w.heap.size) (hn : vs.length ≤ 1000000000)
    (hcell : ∀ j u, vs[j]? = some u → w.cell? ((⟨b, off, none⟩ : Addr).add j) = some u) (h1 : ∀ u ∈ vs, u.oneCell' = true) :
    Calls Tryz.prog 169 #[.slice (some ⟨b, off, none⟩) vs.length c] w (OwnedV w vs.length vs) := by
  obtain ⟨i0, hi, hz0, hz1, hz2⟩ := info_parts info22
  have HI := Lib.hid hi
  have HZ := Lib.hid hz0
  have H1 := Lib.hid hz1
  have H2 := Lib.hid hz2
  clear hi hz0 hz1 hz2
  have he := fun w : World => Lib.run_eql_slice_nil (P := Tryz.prog) w 73 22 (some ⟨b, off, none⟩) vs.length c 0 0 Tryz.underlying73
  have hb0 : Below w.heap.size w (w.alloc (.cells #[] 22)) := (Below.refl _ _).alloc (Nat.le_refl _) _
  have hown : (w.alloc (.cells #[] 22)).ownsRow w.heap.size 22 1 (.slice (some ⟨w.heap.size, 0, none⟩) 0 0) 0 [] := ⟨rfl, .inr ⟨w.heap.size, 0, #[], rfl, Nat.le_refl _, row_new _ _ _, Nat.le_refl _, by unfold maxLen; omega, rfl, rfl⟩⟩
  have HC : Hid (∀ j u, vs[j]? = some u → (w.alloc (.cells #[] 22)).cell? ((⟨b, off, none⟩ : Addr).add j) = some u) := fun j u hu => by
    have := hcell j u hu
    rw [Addr.add_mid] at this ⊢
    rw [hb0.cell (p := ⟨b, off + j, none⟩) hlt]; exact this
  clear hcell
  go_enter Tryz.func169, Tryz.ntmps169
  go_wp2_with (at_builtin; refine wpList_append_own _ rfl (.tmp 5) (.tmp 6) 73 rfl w.heap.size 22 i0 (.slice none 0 0) 1 24 Tryz.underlying73 HI.out HZ.out H1.out H2.out rfl (by decide) _ _ _ rfl hown ⟨b, off, none⟩ vs.length c vs rfl (by omega) HC.out h1 (by unfold maxLen; omega) (by omega) (by simp) ?_)
  intro v' w2 hown2 hg2 _
  have hb2 : Below w.heap.size w w2 := hb0.grown hg2 (by simp) (fun g hg => owns_block hown hg)
  go_wp2
  go_ret
  exact ⟨_, rfl, hown2, hb2⟩
def InsP (base : Nat) (row : Option Nat) (w : World) (cv : Value) (n : Nat) (vs : List Value) (e : Ending) (w' : World) : Prop :=
  ∃ v, e = .returned v ∧ w'.ownsRow base 22 1 v (n + 1) (cv :: vs) ∧ w.grownBy w' row
theorem grown_of_below {w w' : World} (h : Below w.heap.size w w') (row : Option Nat) : w.grownBy w' row := ⟨h.os, h.tape, h.output, h.size, fun k hk _ => h.block k hk⟩
set_option maxHeartbeats 400000 in
theorem insert_empty (base vb : Nat) (sv cv : Value) (w : World) (hown : w.ownsRow base 22 1 sv 0 []) (hbase : base ≤ w.heap.size) (hcell : w.cell? ⟨vb, 0, none⟩ = some cv) (h1 : cv.oneCell' = true) :
    Calls Tryz.prog 168 #[sv, .int .i64 0, .slice (some ⟨vb, 0, none⟩) 1 1] w (InsP base sv.ownBlock w cv 0 []) := by
  obtain ⟨i0, hi, hz0, hz1, hz2⟩ := info_parts info22
  have HI := Lib.hid hi
  have HZ := Lib.hid hz0
  have H1 := Lib.hid hz1
  have H2 := Lib.hid hz2
  clear hi hz0 hz1 hz2
  have HC : Hid (∀ j u, [cv][j]? = some u → w.cell? ((⟨vb, 0, none⟩ : Addr).add j) = some u) := fun j u hu => by
    have hj : j = 0 := by have := (List.getElem?_eq_some_iff.1 hu).1; simpa using this
    subst hj
    rw [Addr.add_mid, hcell, ← hu]; rfl
  clear hcell
  rcases hown.2 with ⟨rfl, _⟩ | ⟨g, cap, cur, rfl, hg, hh, _⟩
  all_goals
    go_enter Tryz.func168, Tryz.ntmps168
    go_wp2_with (at_builtin; refine wpList_append_own _ rfl (.tmp 23) (.tmp 24) 73 rfl base 22 i0 (.slice none 0 0) 1 24 Tryz.underlying73 HI.out HZ.out H1.out H2.out rfl (by decide) _ _ _ rfl hown ⟨vb, 0, none⟩ 1 1 [cv] rfl rfl HC.out (by simpa using h1) (by unfold maxLen; omega) (by omega) hbase ?_)
    intro v' w2 hown2 hg2 _
    go_wp2
    go_ret
    exact ⟨_, rfl, hown2, hg2⟩
theorem zeroCells_nil (k : Nat) : Builtin.zeroCells (Value.slice none 0 0).cells k = (List.replicate k (Value.slice none 0 0)).toArray := by
  apply Array.ext'
  simp only [Builtin.zeroCells, Value.cells]
  apply List.ext_getElem
  · simp
  · intro i h1 h2
    simp [Nat.mod_one]
theorem info22s : (Tryz.prog.info? 22).map (·.size) = some 1 := by kernel_rfl
theorem one_pos {w : World} {g b off : Nat} {cv : Value} (hcell : w.cell? ⟨b, 0, none⟩ = some cv) :
    0 < [cv].length → (some ⟨g, off, none⟩ : Option Addr) = some ⟨g, off, none⟩ ∧ ∃ ad, (some ⟨b, 0, none⟩ : Option Addr) = some ad ∧ ∀ j v, [cv][j]? = some v → w.cell? (ad.add j) = some v := by
  refine fun _ => ⟨rfl, _, rfl, fun j v hv => ?_⟩
  have hj : j = 0 := by have := (List.getElem?_eq_some_iff.1 hv).1; simpa using this
  subst hj
  rw [Addr.add_mid, hcell, ← hv]; rfl
theorem one_src {w : World} {b : Nat} {cv : Value} (hcell : w.cell? ⟨b, 0, none⟩ = some cv) : ∀ j v, [cv][j]? = some v → w.cell? ((⟨b, 0, none⟩ : Addr).add j) = some v := by
  intro j v hv
  have hj : j = 0 := by have := (List.getElem?_eq_some_iff.1 hv).1; simpa using this
  subst hj
  rw [Addr.add_mid, hcell, ← hv]; rfl
theorem row_pos {w : World} {g b off : Nat} {vs : List Value} (h : ∀ j v, vs[j]? = some v → w.cell? ((⟨b, 0, none⟩ : Addr).add j) = some v) :
    0 < vs.length → (some ⟨g, off, none⟩ : Option Addr) = some ⟨g, off, none⟩ ∧ ∃ ad, (some ⟨b, 0, none⟩ : Option Addr) = some ad ∧ ∀ j v, vs[j]? = some v → w.cell? (ad.add j) = some v :=
  fun _ => ⟨rfl, _, rfl, h⟩
theorem spl_a (nc : Nat) (cv : Value) (vs : List Value) (h : vs.length + 1 ≤ nc) :
    (splice (splice (List.replicate nc (Value.slice none 0 0)) 0 [cv]) 1 vs).length = nc ∧ (splice (splice (List.replicate nc (Value.slice none 0 0)) 0 [cv]) 1 vs).take (vs.length + 1) = cv :: vs := by
  have hl : (splice (List.replicate nc (Value.slice none 0 0)) 0 [cv]).length = nc := by rw [length_splice _ _ _ (by simp; omega)]; simp
  refine ⟨by rw [length_splice _ _ _ (by rw [hl]; omega), hl], ?_⟩
  have e : splice (List.replicate nc (Value.slice none 0 0)) 0 [cv] = cv :: List.replicate (nc - 1) (Value.slice none 0 0) := by simp [splice]
  rw [e]
  simp [splice]
theorem spl_b (cur : List Value) (cv : Value) (vs : List Value) (h : vs.length + 1 ≤ cur.length) :
    (splice (splice cur 1 vs) 0 [cv]).length = cur.length ∧ (splice (splice cur 1 vs) 0 [cv]).take (vs.length + 1) = cv :: vs := by
  have hl : (splice cur 1 vs).length = cur.length := length_splice _ _ _ (by omega)
  refine ⟨by rw [length_splice _ _ _ (by rw [hl]; simp; omega), hl], ?_⟩
  cases cur with
  | nil => simp at h
  | cons x xs => simp [splice]
set_option maxRecDepth 100000 in
set_option maxHeartbeats 400000 in
theorem insert_grow (base vb g n cap : Nat) (cv : Value) (vs : List Value) (w : World) (hown : w.ownsRow base 22 1 (.slice (some ⟨g, 0, none⟩) n cap) n vs) (hbase : base ≤ w.heap.size) (hn : 0 < n) (hn2 : n ≤ 1000000000)
    (hcap : cap < n + 1) (hcell : w.cell? ⟨vb, 0, none⟩ = some cv) (h1 : cv.oneCell' = true) (h2 : ∀ u ∈ vs, u.oneCell' = true) (hvb : vb < w.heap.size) (hgw : g < w.heap.size) :
    Calls Tryz.prog 168 #[.slice (some ⟨g, 0, none⟩) n cap, .int .i64 0, .slice (some ⟨vb, 0, none⟩) 1 1] w (InsP base (some g) w cv n vs) := by
  obtain ⟨i0, hi, hz0, hz1, hz2⟩ := info_parts info22
  have hvl : vs.length = n := by have := hown.1; omega
  have hnc : n ≤ cap := by
    rcases hown.2 with ⟨e, _⟩ | ⟨g', cap', cur', e, _, _, h, _⟩
    · cases e
    · cases e; exact h
  have hvs : ∀ j u, vs[j]? = some u → w.cell? ((⟨g, 0, none⟩ : Addr).add j) = some u := hown.cells (g := g) rfl
  have hold := run_firstCells_some (P := Tryz.prog) w.drew i0.size 0 ⟨g, 0, none⟩ 0 cap [] (by simp) (fun j u hu => by simp at hu)
  have hr := Lib.run_append_grow_zeros (P := Tryz.prog) w 73 3 73 22 i0 (.slice none 0 0) .i64 .i64 Tryz.underlying73 Tryz.underlying3 hi hz0 (some ⟨g, 0, none⟩) 0 cap [] hold (n + 1) (by omega) (by rw [hz1]; decide) (by omega) (by omega) (by rw [hz2]; omega) (growslice_fits (by omega) (by rw [hz2]; omega))
  rw [Nat.zero_add, zeroCells_nil, zeroCells_nil] at hr
  obtain ⟨nc, hnc2⟩ : ∃ nc, nc = grownCap w (n + 1) cap 22 := ⟨_, rfl⟩
  have hge := grownCap_ge w (n + 1) cap 22
  have hle := grownCap_le_maxLen w (n + 1) cap 22 (by unfold maxLen; omega)
  rw [← hnc2] at hr hge hle
  clear hnc2
  have hcat : ([] : List Value).toArray ++ (List.replicate (n + 1) (Value.slice none 0 0)).toArray ++ (List.replicate (nc - (n + 1)) (Value.slice none 0 0)).toArray = (List.replicate nc (Value.slice none 0 0)).toArray := by
    apply Array.ext'; simp; omega
  rw [hcat] at hr
  have HR := Lib.hid hr
  clear hr hcat hold hi hz0 hz1 hz2
  obtain ⟨w1, hw1⟩ : ∃ w1, w1 = w.drew.alloc (.cells (List.replicate nc (Value.slice none 0 0)).toArray 22) := ⟨_, rfl⟩
  rw [← hw1] at HR
  have hb1 : Below w.heap.size w w1 := by rw [hw1]; exact (Below.refl _ _).drew.alloc (by simp) _
  have HG1 : Hid (w1.heap[w.heap.size]? = some (.cells (List.replicate nc (Value.slice none 0 0)).toArray 22 (0, 0))) := by rw [hw1]; exact row_new w.drew _ _
  clear hw1
  have c1 : w1.cell? ⟨vb, 0, none⟩ = some cv := (hb1.cell (p := ⟨vb, 0, none⟩) hvb).trans hcell
  have dn : (((n : Int)) == 0) = false := by simp; omega
  have dn' : ((0 : Int) == (n : Int)) = false := by simp; omega
  have dc : decide ((cap : Int) < (n : Int) + 1) = true := decide_eq_true (by omega)
  have z1 : (0 : Int) ≤ (n : Int) := by omega
  go_enter Tryz.func168, Tryz.ntmps168
  go_wp2_with (first | (at_builtin; refine Lib.wpList_append_run w rfl (.tmp 34) (.tmp 39) 73 3 rfl (.slice (some ⟨g, 0, none⟩) 0 cap) (.int .i64 ((n + 1 : Nat) : Int)) rfl rfl _ _ HR.out ?_) | (refine wpList_copy_splice rfl (.tmp 43) (.tmp 44) 73 73 rfl 22 Tryz.underlying73 info22s (some ⟨w.heap.size, 0, none⟩) (some ⟨vb, 0, none⟩) (n + 1) nc 1 1 rfl rfl w.heap.size 0 _ 22 HG1.out [cv] (by simp) (one_pos c1) (by simp; omega) (by simpa using h1) w.heap.size w hb1 (Nat.le_refl _) ?_; intro w2 HG2 hb2))
  go_frame
  have hz2 := hb2.size
  have HV2 : Hid (∀ j u, vs[j]? = some u → w2.drew.cell? ((⟨g, 0, none⟩ : Addr).add j) = some u) := fun j u hu => by
    have := hvs j u hu
    rw [Addr.add_mid] at this ⊢
    rw [hb2.drew.cell (p := ⟨g, 0 + j, none⟩) hgw]; exact this
  clear hvs
  have HG2d : Hid (w2.drew.heap[w.heap.size]? = some (.cells (splice (List.replicate nc (Value.slice none 0 0)) 0 [cv]).toArray 22 (0, 0))) := HG2.out
  have e1 : IntKind.i64.wrap 1 = 1 := by decide
  have ne1 : ¬ nc = 1 := by omega
  have q1 : (1 : Int) ≤ (n : Int) + 1 := by omega
  have q2 : (1 : Int) ≤ (nc : Int) := by omega
  have q3 : (1 : Int) < (nc : Int) := by omega
  go_still_tail 8, (by kernel_rfl)
  change wpList _ _ _ _ _ w2.drew
  refine wpList_copy_splice rfl (.tmp 50) (.tmp 53) 73 73 rfl 22 Tryz.underlying73 info22s (some ⟨w.heap.size, 1, none⟩) (some ⟨g, 0, none⟩) n (nc - 1) n cap rfl rfl w.heap.size 1 _ 22 HG2d.out vs (by simp; omega) (row_pos HV2.out) (by rw [length_splice _ _ _ (by simp; omega)]; simp; omega) h2 w.heap.size w hb2.drew (Nat.le_refl _) ?_
  intro w3 HG3 hb3
  go_wp2
  go_ret
  obtain ⟨t1, t2⟩ := spl_a nc cv vs (by omega)
  exact ⟨_, rfl, ⟨by simp [hvl], .inr ⟨w.heap.size, nc, _, rfl, hbase, HG3.out, hge, hle, by simp [t1], by simp only [Nat.mul_one]; rw [← hvl]; exact t2⟩⟩, grown_of_below hb3 _⟩
theorem size22 (w : World) : (Go.sizeOf 22).run Tryz.prog w = .ok 1 w := by
  obtain ⟨i0, hi, hz0, hz1, hz2⟩ := info_parts info22
  simp [sizeOf, typeInfo, hi, hz1]
set_option maxRecDepth 100000 in
set_option maxHeartbeats 400000 in
theorem insert_room (base vb g n cap : Nat) (cv : Value) (vs : List Value) (w : World) (hown : w.ownsRow base 22 1 (.slice (some ⟨g, 0, none⟩) n cap) n vs) (_hbase : base ≤ w.heap.size) (hn : 0 < n) (hn2 : n ≤ 1000000000)
    (hcap : n + 1 ≤ cap) (hcell : w.cell? ⟨vb, 0, none⟩ = some cv) (h1 : cv.oneCell' = true) (h2 : ∀ u ∈ vs, u.oneCell' = true) (hvg : vb ≠ g) (hvr : ∃ C, w.heap[vb]? = some (.cells C 22 (0, 0))) :
    Calls Tryz.prog 168 #[.slice (some ⟨g, 0, none⟩) n cap, .int .i64 0, .slice (some ⟨vb, 0, none⟩) 1 1] w (InsP base (some g) w cv n vs) := by
  have hvl : vs.length = n := by have := hown.1; omega
  have hvs : ∀ j u, vs[j]? = some u → w.drew.cell? ((⟨g, 0, none⟩ : Addr).add j) = some u := hown.cells (g := g) rfl
  obtain ⟨cur, hbg, hg, hcm, hcs, htake⟩ : ∃ cur : Array Value, base ≤ g ∧ w.heap[g]? = some (.cells cur 22 (0, 0)) ∧ cap ≤ maxLen ∧ cur.size = cap ∧ cur.toList.take n = vs := by
    rcases hown.2 with ⟨e, _⟩ | ⟨g', cap', cur', e, h1, h2, _, h3, h4, h5⟩
    · cases e
    · cases e; exact ⟨cur', h1, h2, h3, by simpa using h4, by simpa using h5⟩
  have HG := Lib.hid hg
  have HV := Lib.hid hvs
  clear hg hvs
  have hcmx : cap ≤ 9223372036854775807 := hcm
  have dn : (((n : Int)) == 0) = false := by simp; omega
  have dn' : ((0 : Int) == (n : Int)) = false := by simp; omega
  have dc : decide ((cap : Int) < (n : Int) + 1) = false := decide_eq_false (by omega)
  have z1 : (0 : Int) ≤ (n : Int) := by omega
  have e1 : IntKind.i64.wrap 1 = 1 := by decide
  have ne1 : ¬ cap = 1 := by omega
  have hov : (callFunc 186 #[.slice (some ⟨vb, 0, none⟩) 1 1, .slice (some ⟨g, 1, none⟩) n (cap - 1)]).run Tryz.prog w = .ok (.value (.bool false)) w := by
    obtain ⟨C, hC⟩ := hvr
    rw [run_callFunc_extern Tryz.func186 (by kernel_rfl) (by kernel_rfl) (by kernel_rfl) (e := Extern.SlicesOverlaps.overlaps #[73, 73] #[4]) (by kernel_rfl),
      Lib.run_overlaps_apart w 73 4 22 Tryz.underlying73 1 size22 ⟨vb, 0, none⟩ ⟨g, 1, none⟩ 1 1 n (cap - 1) hvg 22 22 C.size cur.size (by simp [World.shape?, hC]) (by have := HG.out; simp [World.shape?, this]) (by omega) (row_free hC 0) (row_free hC C.size)]
    rfl
  have HGd : Hid (w.drew.heap[g]? = some (.cells cur.toList.toArray 22 (0, 0))) := by rw [Array.toArray_toList]; exact HG.out
  have q1 : (1 : Int) ≤ (n : Int) + 1 := by omega
  have q2 : (1 : Int) ≤ (cap : Int) := by omega
  have q3 : (1 : Int) < (cap : Int) := by omega
  have z2 : (0 : Int) ≤ (n : Int) + 1 := by omega
  have ne0 : ¬ cap = 0 := by omega
  go_enter Tryz.func168, Tryz.ntmps168
  go_wp2
  go_still_tail 8, (by kernel_rfl)
  change wpList _ _ _ _ _ w.drew
  refine wpList_copy_own rfl (.tmp 73) (.tmp 76) 73 73 rfl 22 Tryz.underlying73 info22s g 1 n (cap - 1) ⟨g, 0, none⟩ (n + 1) cap rfl rfl cur.toList.toArray 22 HGd.out vs (by simp; omega) (fun j v hv => HV.out j v hv) (by simp; omega) h2 ?_
  have HG3 : Hid ((w.drew.setRow g (splice cur.toList 1 vs).toArray).heap[g]? = some (.cells (splice cur.toList 1 vs).toArray 22 (0, 0))) := setRow_heap _ _ _ _ _ _ HGd.out
  have hg3 : w.grownBy (w.drew.setRow g (splice cur.toList 1 vs).toArray) (some g) := ⟨rfl, rfl, rfl, by simp, fun k hk hne => setRow_other _ _ _ _ (fun e => hne (by rw [e]))⟩
  have c3 : (w.drew.setRow g (splice cur.toList 1 vs).toArray).cell? ⟨vb, 0, none⟩ = some cv := (World.cell?_of_block (setRow_other _ _ _ _ hvg)).trans hcell
  change wpList _ _ _ _ _ (w.drew.setRow g (splice cur.toList 1 vs).toArray)
  generalize w.drew.setRow g (splice cur.toList 1 vs).toArray = w3 at *
  go_wp2_with (refine wpList_copy_own rfl (.tmp 80) (.tmp 81) 73 73 rfl 22 Tryz.underlying73 info22s g 0 (n + 1) cap ⟨vb, 0, none⟩ 1 1 rfl rfl (splice cur.toList 1 vs).toArray 22 HG3.out [cv] (by simp) (one_src c3) (by simp; rw [length_splice _ _ _ (by simp; omega)]; simp; omega) (by simpa using h1) ?_)
  have e4 : splice (splice cur.toList 1 vs) 0 [cv] = cv :: (splice cur.toList 1 vs).tail := by
    have : ∀ L : List Value, splice L 0 [cv] = cv :: L.tail := fun L => by simp [splice]
    exact this _
  obtain ⟨t1, t2⟩ := spl_b cur.toList cv vs (by simp; omega)
  rw [e4] at t1 t2
  go_ret
  exact ⟨_, rfl, ⟨by simp [hvl], .inr ⟨g, cap, _, rfl, hbg, setRow_heap _ _ _ _ _ _ HG3.out, hcap, hcm, by rw [List.size_toArray, t1]; simp [hcs], by simp only [Nat.mul_one]; rw [← hvl]; exact t2⟩⟩,
    ⟨hg3.os, hg3.tape, hg3.output, by simpa using hg3.size, fun k hk hne => (setRow_other _ _ _ _ (fun e => hne (by rw [e]))).trans (hg3.block k hk hne)⟩⟩
end Go.Proofs.YtcbfjmjphpoimaaGreatDoor
namespace Go.Proofs.YtcbfjmjphpoimaaGreatDoor
open Go
def bI (l : List UInt8) : List Int := l.map N8
def wI (l : List UInt32) : List Int := l.map N32
theorem bI_length (l : List UInt8) : (bI l).length = l.length := by simp [bI]
theorem wI_length (l : List UInt32) : (wI l).length = l.length := by simp [wI]
theorem bI_getD (l : List UInt8) (k : Nat) : (bI l).getD k 0 = N8 (at8 l k) := by
  rw [bI, at8, List.getD_eq_getElem?_getD, List.getElem?_map, List.getD_eq_getElem?_getD]
  cases l[k]? <;> rfl
theorem wI_getD (l : List UInt32) (k : Nat) : (wI l).getD k 0 = N32 (at32 l k) := by
  rw [wI, at32, List.getD_eq_getElem?_getD, List.getElem?_map, List.getD_eq_getElem?_getD]
  cases l[k]? <;> rfl
def toBs (l : List Int) : List UInt8 := l.map fun n => UInt8.ofNat n.toNat
theorem bI_toBs (l : List Int) (h : ∀ n ∈ l, 0 ≤ n ∧ n ≤ 255) : bI (toBs l) = l := by
  unfold bI toBs
  rw [List.map_map]
  conv => rhs; rw [← List.map_id l]
  refine List.map_congr_left fun n hn => ?_
  have := h n hn
  simp only [Function.comp_apply, id_eq, N8, UInt8.toNat_ofNat']
  omega
theorem toBs_length (l : List Int) : (toBs l).length = l.length := by simp [toBs]
theorem toBs_bI (l : List UInt8) : toBs (bI l) = l := by
  unfold toBs bI
  rw [List.map_map]
  conv => rhs; rw [← List.map_id l]
  refine List.map_congr_left fun n _ => ?_
  simp [N8]
end Go.Proofs.YtcbfjmjphpoimaaGreatDoor
namespace Go.Proofs.YtcbfjmjphpoimaaGreatDoor
open Go.RowKit
theorem zeroCells_u8 (k : Nat) : Builtin.zeroCells (Value.int .u8 0).cells k = c8 (List.replicate k 0) := by
  apply Array.ext'
  simp only [Builtin.zeroCells, Value.cells, c8, c8l]
  apply List.ext_getElem
  · simp
  · intro i h1 h2
    simp [N8, Nat.mod_one]
theorem run_zeros_ne (w : World) (base n k : Nat) (v : Value) (bs : List UInt8) (ty : TypeId) (hown : w.ownsRow base 5 1 v n (c8l bs)) (hne : v ≠ .slice none 0 0) (hnk : n + k ≤ 1000000000000) (hbase : base ≤ w.heap.size) :
    ∃ v' w', (Builtin.append_ #[22, 3] ty #[v, .int .i64 k]).run Tryz.prog w = .ok v' w' ∧ w'.ownsRow base 5 1 v' (n + k) (c8l (bs ++ List.replicate k 0)) ∧ w.grownBy w' v.ownBlock := by
  obtain ⟨i0, hi, hz0, hz1, hz2⟩ := info_parts info5
  have hbl : bs.length = n := by have := hown.1; rw [c8l_length] at this; omega
  rcases hown.2 with ⟨rfl, h0⟩ | ⟨g, cap, cur, rfl, hbg, hg, hnc, hcm, hcs, htake⟩
  · exact absurd rfl hne
  have hlen : (c8l (bs ++ List.replicate k 0)).length = (n + k) * 1 := by rw [c8l_length]; simp [hbl]
  have hw : IntKind.i64.wrap (k : Int) = k := by rw [IntKind.wrap_i64]; omega
  have hneg : ¬ ((k : Int) < 0) := by omega
  by_cases hroom : n + k ≤ cap
  · have hst := run_storeCells_at Tryz.prog g n 5 (c8l (List.replicate k 0)) 0 cur w hg (by rw [c8l_length]; simp; omega) (c8l_one _)
    simp only [Nat.add_zero] at hst
    have h48 : ¬ (281474976710656 < (k : Int)) := by omega
    refine ⟨.slice (some ⟨g, 0, none⟩) (n + k) cap, w.setRow g (cur.toList.take n ++ c8l (List.replicate k 0) ++ cur.toList.drop (n + (c8l (List.replicate k 0)).length)).toArray, ?_, ⟨hlen, .inr ⟨g, cap, _, rfl, hbg, setRow_heap w g cur _ 5 _ hg, hroom, hcm, ?_, ?_⟩⟩, ⟨rfl, rfl, rfl, by simp, fun j _ hj => setRow_other w g j _ (fun e => hj (by simp [Value.ownBlock, e]))⟩⟩
    · by_cases hk : k = 0
      · subst hk
        have hw0 : IntKind.i64.wrap 0 = 0 := by decide
        have hst' : (storeCells ⟨g, n, none⟩ [] 0).run Tryz.prog w = .ok () (w.setRow g (cur.toList.take n ++ c8l (List.replicate 0 0) ++ cur.toList.drop (n + (c8l (List.replicate 0 0)).length)).toArray) := hst
        simp [Builtin.append_, run_underlying Tryz.underlying22, run_underlying Tryz.underlying3, sizeOf, typeInfo, hi, hz1, hz2, asInt, asIntOf, hw0, hnc, Addr.add_lit, hst']
      · have hzc := zeroCells_u8 k
        have hst' : (storeCells ⟨g, n, none⟩ (c8 (List.replicate k 0)).toList 0).run Tryz.prog w = .ok () (w.setRow g (cur.toList.take n ++ c8l (List.replicate k 0) ++ cur.toList.drop (n + (c8l (List.replicate k 0)).length)).toArray) := hst
        simp [Builtin.append_, run_underlying Tryz.underlying22, run_underlying Tryz.underlying3, sizeOf, typeInfo, zeroValue, hi, hz0, hz1, hz2, asInt, asIntOf, hw, hneg, h48, hroom, hk, hzc, Addr.add_lit, hst']
    · simp only [List.size_toArray, List.length_append, List.length_take, List.length_drop, Array.length_toList, c8l_length, List.length_replicate]
      omega
    · have ht : cur.toList.take n = c8l bs := by rw [← htake]; simp
      rw [ht, ← hlen, c8l_append]
      exact List.take_left
  · have hk : 0 < k := by omega
    have holds : ∀ j u, (c8l bs)[j]? = some u → w.drew.cell? ((⟨g, 0, none⟩ : Addr).add j) = some u := fun j u hu => hown.cells (g := g) rfl j u hu
    have hold := run_firstCells_some (P := Tryz.prog) w.drew i0.size n ⟨g, 0, none⟩ n cap (c8l bs) (by rw [c8l_length, hz1]; omega) holds
    have hr := Lib.run_append_grow_zeros (P := Tryz.prog) w 22 3 ty 5 i0 (.int .u8 0) .i64 .i64 Tryz.underlying22 Tryz.underlying3 hi hz0 (some ⟨g, 0, none⟩) n cap (c8l bs) hold k hk (by rw [hz1]; decide) (by omega) (by omega) (by rw [hz2]; omega) (growslice_fits (by omega) (by rw [hz2]; omega))
    have hge := grownCap_ge w (n + k) cap 5
    refine ⟨_, _, hr, ⟨hlen, .inr ⟨w.heap.size, _, _, rfl, hbase, heap_alloc_new w.drew _, hge, grownCap_le_maxLen w (n + k) cap 5 (by unfold maxLen; omega), ?_, ?_⟩⟩, ⟨rfl, rfl, rfl, by simp, fun j hj _ => Below.heap_alloc w.drew _ j hj⟩⟩
    · simp only [Array.size_append, List.size_toArray, size_zeroCells, c8l_length, Value.cells]; simp; omega
    · rw [zeroCells_u8 k]
      simp only [Array.toList_append, List.append_assoc, c8]
      rw [← List.append_assoc, ← c8l_append, ← hlen]
      exact List.take_left
theorem run_zeros_own (w : World) (base n k : Nat) (v : Value) (bs : List UInt8) (ty : TypeId) (hown : w.ownsRow base 5 1 v n (c8l bs)) (hn : 0 < n) (hnk : n + k ≤ 1000000000000) (hbase : base ≤ w.heap.size) :
    ∃ v' w', (Builtin.append_ #[22, 3] ty #[v, .int .i64 k]).run Tryz.prog w = .ok v' w' ∧ w'.ownsRow base 5 1 v' (n + k) (c8l (bs ++ List.replicate k 0)) ∧ w.grownBy w' v.ownBlock := by
  refine run_zeros_ne w base n k v bs ty hown (fun e => ?_) hnk hbase
  rcases hown.2 with ⟨_, h0⟩ | ⟨g, cap, cur, e2, _⟩
  · omega
  · rw [e] at e2; cases e2
theorem wpList_zeros_own {w : World} {ops : Array Oper} {rest : List Oper} {o : Oper} {a : Act} {Q : Exit → Act → World → Prop} (hgd : o.guard = none) (s x : Operand)
    (ho : o.op = .call { callee := .builtin .append, args := #[s, x], argTypes := #[22, 3] }) (base n k : Nat) (v : Value) (bs : List UInt8) (hs : a.eval s = v) (hx : a.eval x = .int .i64 k)
    (hown : w.ownsRow base 5 1 v n (c8l bs)) (hn : 0 < n) (hnk : n + k ≤ 1000000000000) (hbase : base ≤ w.heap.size)
    (h : ∀ v' w', w'.ownsRow base 5 1 v' (n + k) (c8l (bs ++ List.replicate k 0)) → w.grownBy w' v.ownBlock → wpList Tryz.prog ops Q rest (a.put o.dst v') w') : wpList Tryz.prog ops Q (o :: rest) a w := by
  obtain ⟨v', w', hr, h1, h2⟩ := run_zeros_own w base n k v bs o.type hown hn hnk hbase
  exact Lib.wpList_append_run w hgd s x 22 3 ho v (.int .i64 k) hs hx v' w' hr (h v' w' h1 h2)
end Go.Proofs.YtcbfjmjphpoimaaGreatDoor
namespace Go.Proofs.YtcbfjmjphpoimaaGreatDoor
open Go.RowKit Go.Shelf
attribute [local go_sem] Oper.semAt_some
def GlobS (w : World) : Prop := ∀ i, i < 8 → w.cell? ⟨3, i, none⟩ = some (.int .u32 (N32 (at32 S0 i)))
theorem padZ_eq (n : Nat) : ((120 : Int) - ((n : Int) + 1) % 64) % 64 = (padZ n : Int) := by unfold padZ; omega
theorem info24 : (Tryz.prog.info? 304).map (·.size) = some 32 := by kernel_rfl
def ShaO (st : List UInt32) (W : World) (i : Value) (W2 : World) : Prop :=
  ∃ k : Nat, k ≤ 32 ∧ i = .int .i64 k ∧ W2.heap[W.heap.size]? = some (.cells (c8 (outTo st k)) 304 (0, 0)) ∧ Below W.heap.size W W2
def ShaL (bs : List UInt8) (w1 : World) (v i : Value) (wr : World) : Prop :=
  ∃ k : Nat, k ≤ 8 ∧ i = .int .i64 k ∧ wr.ownsRow w1.heap.size 5 1 v (padTo bs k).length (c8l (padTo bs k)) ∧ Below w1.heap.size w1 wr
theorem kb_put {Bs n : Nat} (hB : Bs + 1 < n) (W : World) (l : Nat) (o o' : Obj) (hl : n ≤ l) (_ : W.heap[l]? = some o) (_ : o.isCells = false) (_ : o.isWalk = false) : KB Bs W (W.putObj l o') := by
  have hg := grownBy_putObj' W l o'
  have h1 : ∀ k, k < l → (W.putObj l o').heap[k]? = W.heap[k]? := fun k hk => by
    by_cases hs : k < W.heap.size
    · exact hg.block k hs (fun e => by cases e; omega)
    · have : (W.putObj l o').heap.size = W.heap.size := by simp [World.putObj]
      rw [Array.getElem?_eq_none (by omega), Array.getElem?_eq_none (by omega)]
  exact ⟨h1 _ (by omega), h1 _ (by omega)⟩
theorem own_st {sb n : Nat} {bs : List UInt8} {w6 : World} (hn : sb < n) (hw : w6.heap.size = n := by rfl) : OwnFrom n (fun (pre : List Nat) W => W.heap[sb]? = some (.cells (cw (stL bs pre)) 341 (0, 0)) ∧ But sb w6 W) := by
  intro pre W W' row ⟨h1, h2⟩ hg hr
  have hs : sb < W.heap.size := (Array.getElem?_eq_some_iff.1 h1).1
  have hb : ∀ k, k < n → k < W.heap.size → W'.heap[k]? = W.heap[k]? := fun k hk hk2 => hg.block k hk2 (fun e => by have := (hr k e.symm).1; omega)
  exact ⟨(hb sb hn hs).trans h1, ⟨hg.os.trans h2.os, hg.tape.trans h2.tape, hg.output.trans h2.output, Nat.le_trans h2.size hg.size, fun k hk hne => (hb k (by omega) (Nat.lt_of_lt_of_le hk h2.size)).trans (h2.block k hk hne)⟩⟩
set_option maxRecDepth 100000 in
set_option maxHeartbeats 2000000 in
theorem sha_any (pv : Value) (vs : List Value) (ps : List (List UInt8)) (w : World) (hP : PSl w pv vs ps) (hc0 : ps.length ≤ 1000000000) (ht : ps.flatten.length ≤ 100000000000)
    (hK : GlobK w) (hS : GlobS w) (h3 : 4 < w.heap.size) :
    Calls Tryz.prog 167 #[pv] w fun e w' => e = .returned (.agg (c8 (shaB ps.flatten))) ∧ Below w.heap.size w w' := by
  obtain ⟨i0, hi, hz0, hz1, hz2⟩ := info_parts info5
  have HI := Lib.hid hi
  have HZ := Lib.hid hz0
  have H1 := Lib.hid hz1
  have H2 := Lib.hid hz2
  clear hi hz0 hz1 hz2
  have HK : Hid (GlobK w) := hK
  have HS : Hid (GlobS w) := hS
  clear hK hS
  obtain ⟨bs, hbs⟩ : ∃ bs, bs = ps.flatten := ⟨_, rfl⟩
  have HBS := Lib.hid hbs
  rw [← hbs] at ht
  clear hbs
  have HR1 := Lib.hid (row_new8 w)
  refine callsIn_wide.1 (callsIn_of_wp_marks (n := 7) Tryz.func167 rfl trivial (wpIn_wide.2 ?_) rfl)
  simp only [Tryz.ntmps167, List.size_toArray, List.length_cons, List.length_nil, Nat.reduceAdd, Nat.reduceSub, Array.replicate_succ, Array.replicate_zero, List.push_toArray, List.append_toArray, List.nil_append, List.cons_append]
  go_wp2_with fail
  generalize hw1 : w.alloc _ = w1 at HR1 ⊢
  have hb1 : Below w.heap.size w w1 := by rw [← hw1]; exact (Below.refl _ _).alloc (Nat.le_refl _) _
  have hz1 : w1.heap.size = w.heap.size + 1 := by rw [← hw1]; simp
  clear hw1
  have HZ1 := Lib.hid hz1
  clear hz1
  refine (concat_any pv vs ps w1 (hP.below hb1 (Nat.le_refl _)) hc0 (by rw [← HBS.out]; omega)).mono ?_
  rw [← HBS.out]
  rintro e w2 ⟨v, rfl, hown, hb2⟩
  obtain ⟨a2, c2, hv2⟩ := (BSl.of_owns hown).len
  rw [hv2] at hown ⊢
  clear hv2
  have hz2 := hb2.size
  go_wp2_with (at_builtin; refine wpList_append_own _ rfl (.tmp 16) (.tmp 17) 22 rfl w1.heap.size 5 i0 (.int .u8 0) 1 1 Tryz.underlying22 HI.out HZ.out H1.out H2.out rfl (by decide) _ _ _ rfl (hown.alloc _) ⟨w2.heap.size, 0, none⟩ 1 1 (c8l [128]) rfl rfl (cell_one_new _ _ _) (c8l_one _) (by unfold maxLen; omega) (by omega) (by simp; omega) ?_)
  intro v3 w3 hown3 hg3 _
  rw [← c8l_append] at hown3
  have hb3 : Below w1.heap.size w1 w3 := (hb2.alloc hz2 _).grown hg3 (by simp; omega) (fun g hg => owns_block hown hg)
  have hz3 := hb3.size
  have hl3 : (bs ++ [128]).length = bs.length + 1 := by simp
  rw [← hl3] at hown3
  obtain ⟨a3, c3, hv3⟩ := (BSl.of_owns hown3).len
  rw [hv3] at hown3 ⊢
  rw [hl3] at hown3 ⊢
  clear hv3 hown hl3 hg3 hb2 hz2
  have HPZ := Lib.hid (padZ_eq bs.length)
  have hpl : padZ bs.length ≤ 64 := by unfold padZ; omega
  go_wp2_with (at_builtin; refine wpList_zeros_own rfl (.tmp 19) (.tmp 24) rfl w1.heap.size (bs.length + 1) (padZ bs.length) _ (bs ++ [128]) rfl (congrArg (Value.int IntKind.i64) HPZ.out) hown3 (by omega) (by omega) hz3 ?_)
  intro v4 w4 hown4 hg4
  have hb4 : Below w1.heap.size w1 w4 := hb3.grown hg4 hz3 (fun g hg => owns_block hown3 hg)
  clear hown3 hg4 hb3 hz3
  have hown5 : w4.ownsRow w1.heap.size 5 1 v4 (padTo bs 0).length (c8l (padTo bs 0)) := by
    rw [padTo_length]; simpa [padTo, pad0] using hown4
  clear hown4
  go_wp2
  go_loopw [3, 26] (ShaL bs w1) (fun _ i _ => 8 - (intOf i).toNat)
  case atStart => exact ⟨0, by omega, rfl, hown5, hb4⟩
  case round =>
    obtain ⟨k, hk, rfl, hown6, hb6⟩ := hrel
    have hl6 := padTo_length bs k
    have hz6 := hb6.size
    by_cases h8 : k < 8
    · have d8 : decide ((k : Int) < 8) = true := decide_eq_true (by omega)
      have hle : (padTo bs k).length ≤ 200000000000 := by omega
      have HE := Lib.hid (lenB_eq bs.length k)
      have HL6 := Lib.hid hl6
      clear hl6
      go_wp2_with (at_builtin; refine wpList_append_own _ rfl (.tmp 29) (.tmp 36) 22 rfl w1.heap.size 5 i0 (.int .u8 0) 1 1 Tryz.underlying22 HI.out HZ.out H1.out H2.out rfl (by decide) _ _ _ rfl (hown6.alloc _) ⟨wr.heap.size, 0, none⟩ 1 1 [.int .u8 ((bs.length : Int) * 8 / 2 ^ (56 - 8 * k) % 256)] rfl rfl (cell_one_new _ _ _) (by simp [Value.oneCell']) (by unfold maxLen; omega) (by omega) (by simp; omega) ?_)
      intro v7 w7 hown7 hg7 _
      rw [HE.out] at hown7
      have hb7 : Below w1.heap.size w1 w7 := (hb6.alloc hz6 _).grown hg7 (by simp; omega) (fun g hg => owns_block hown6 hg)
      have hown8 : w7.ownsRow w1.heap.size 5 1 v7 (padTo bs (k + 1)).length (c8l (padTo bs (k + 1))) := by
        rw [padTo_succ, List.length_append, c8l_append]; exact hown7
      clear hown7 hown6 hg7
      go_wp2
      go_roundw
      case rel => exact ⟨k + 1, by omega, by go_num, hown8, hb7⟩
      case measure => simp [intOf]; omega
    · obtain rfl : k = 8 := by omega
      have d8 : decide (((8 : Nat) : Int) < 8) = false := by decide
      have d8' : decide ((8 : Int) < 8) = false := by decide
      rcases hown6.2 with ⟨rfl, h0⟩ | ⟨g, cap, cur, rfl, hbg, hg, hnc, hcm, hcs, htake⟩
      · omega
      have hpl8 := pad_length bs
      have hbl8 := blocks_le bs
      have HRD : Hid (∀ j, j < 64 * blocks bs → wr.cell? ⟨g, j, none⟩ = some (.int .u8 (N8 (at8 (padTo bs 8) j)))) := by
        intro j hj
        rcases BSl.of_owns hown6 with ⟨h, _⟩ | ⟨b', o', c', e', _, _, hx⟩ | ⟨_, _, h⟩
        rotate_right
        · rw [h] at hpl8; simp only [List.length_nil] at hpl8; omega
        · cases h
        · cases e'
          have := hx j (by rw [hpl8]; exact hj)
          rwa [Nat.zero_add] at this
      have hgl : g < wr.heap.size := (Array.getElem?_eq_some_iff.1 hg).1
      rw [hpl8] at hnc ⊢
      clear hown6 hg hcs htake hl6 hpl8
      have HRS : Hid (wr.rangeAt 3 0 (cwl S0)) := by
        intro j v hj
        have hj8 : j < 8 := by have := (List.getElem?_eq_some_iff.1 hj).1; simpa [cwl, S0] using this
        rw [Nat.zero_add, hb6.cell (p := ⟨3, j, none⟩) (by have := HZ1.out; simp; omega), hb1.cell (p := ⟨3, j, none⟩) (by simp; omega), HS.out j hj8, ← hj]
        have := cw_at S0 j hj8
        rw [cw, List.getElem?_toArray] at this
        exact this.symm
      go_wp2_with (first | (refine wpList_load_mid rfl 341 (.global 3) rfl 3 0 rfl (cwl S0) _ HRS.out Tryz.underlying341 rfl info88 ?_) | (refine wpList_store_row rfl 341 (.tmp 6) (.tmp 39) rfl wr.heap.size (cw S0) rfl rfl 341 _ (row_new _ _ _) info88 rfl (cw_one _) ?_))
      obtain ⟨w5, hw5⟩ : ∃ w5, w5 = (wr.alloc (.cells #[.int .u32 0, .int .u32 0, .int .u32 0, .int .u32 0, .int .u32 0, .int .u32 0, .int .u32 0, .int .u32 0] 341)).setRow wr.heap.size (cw S0) := ⟨_, rfl⟩
      rw [← hw5]
      have hb5 : Below wr.heap.size wr w5 := by rw [hw5]; exact below_setRow ((Below.refl _ _).alloc (Nat.le_refl _) _) (Nat.le_refl _) _
      have HX5 : Hid (w5.heap[wr.heap.size]? = some (.cells (cw S0) 341 (0, 0))) := by rw [hw5]; exact setRow_heap _ _ _ _ _ _ (row_new _ _ _)
      have HZ5 : Hid (w5.heap.size = wr.heap.size + 1) := by rw [hw5]; simp [Hid]
      clear hw5
      refine (chunk_any _ _ _ _).mono ?_
      rintro e w6 ⟨rfl, hw6⟩
      have hb56 : Below w5.heap.size w5 w6 := by rw [← hw6]; exact ((Below.refl _ _).alloc (Nat.le_refl _) _).alloc (by simp) _
      have hz6' : w6.heap.size = w5.heap.size + 2 := by rw [← hw6]; simp
      have hx1 : w6.cell? ⟨w5.heap.size, 0, none⟩ = some (.slice (some ⟨g, 0, none⟩) (64 * blocks bs) cap) := by rw [← hw6]; simp
      have hx2 : w6.cell? ⟨w5.heap.size + 1, 0, none⟩ = some (.int .i64 64) := by
        rw [← hw6]
        have := World.cell?_alloc_new (w5.alloc (.cells #[.slice (some ⟨g, 0, none⟩) (64 * blocks bs) cap] 22)) #[.int .i64 64] 3 0
        simp
      clear hw6
      have HX1 := Lib.hid hx1
      have HX2 := Lib.hid hx2
      have HZ6 := Lib.hid hz6'
      clear hx1 hx2 hz6'
      go_wp2
      have hbm : 1 ≤ blocks bs := by unfold blocks padZ; omega
      refine wpIn_wide.1 (wpIn_rangeFunc_ownG (F := Fence.wide) (n := 7) rfl (by decide) (gf := 203) (lb := #[.pointer (some ⟨w5.heap.size, 0, none⟩), .pointer (some ⟨w5.heap.size + 1, 0, none⟩)]) rfl trivial (enters_of Tryz.func203 (by kernel_rfl) rfl)
        (chunk_stops w5.heap.size g (blocks bs) cap (by omega) hnc w6 (by have := HZ6.out; omega) HX1.out HX2.out) KB.trans (kb_put (by have := HZ6.out; omega)) (Below.refl _ _) (fun _ => rfl)
        (fun pre W => W.heap[wr.heap.size]? = some (.cells (cw (stL bs pre)) 341 (0, 0)) ∧ But wr.heap.size w6 W) (fun _ _ _ => False)
        (own_st (by have := HZ6.out; have := HZ5.out; omega)) (fun _ _ _ _ _ h _ _ => h.elim)
        ⟨by rw [hb56.block _ (by have := HZ5.out; omega)]; exact HX5.out, But.of_below (Below.refl _ _)⟩
        (fun x => { tmps := #[pv, undef, .pointer (some ⟨w.heap.size, 0, none⟩), .slice (some ⟨g, 0, none⟩) (64 * blocks bs) cap, .int .u64 ((bs.length : Int) * 8), u5, .pointer (some ⟨wr.heap.size, 0, none⟩), chunkV g (x % blocks bs), undef, undef, pv, .slice a2 bs.length c2, .slice a2 bs.length c2, .int .i64 bs.length, .int .u64 bs.length, .int .u64 ((bs.length : Int) * 8), .slice a2 bs.length c2, .slice (some ⟨w2.heap.size, 0, none⟩) 1 1, .slice a3 (bs.length + 1) c3, .slice a3 (bs.length + 1) c3, .slice a3 (bs.length + 1) c3, .int .i64 ((bs.length : Int) + 1), .int .i64 (((bs.length : Int) + 1) % 64), .int .i64 (120 - ((bs.length : Int) + 1) % 64), .int .i64 ((120 - ((bs.length : Int) + 1)) % 64), v4, .int .i64 8, .bool false, u28, u29, u30, u31, u32, u33, u34, u35, u36, u37, u38, .agg (cwl S0).toArray, .slice (some ⟨g, 0, none⟩) (64 * blocks bs) cap, .func (.func 203) #[] #[.pointer (some ⟨w5.heap.size, 0, none⟩), .pointer (some ⟨w5.heap.size + 1, 0, none⟩)], chunkV g (x % blocks bs), undef, undef, undef, undef, undef, undef, undef, undef, undef, undef, undef, undef, undef, undef, undef, undef, undef, undef, undef], defers := [] }) ?assign ?body ?done ?stop)
      case assign =>
        intro l x W K hK
        gi_wp2
        exact hK
      case body =>
        rintro l pre x W ⟨hst, hbut⟩ _
        have hxm : x % blocks bs < blocks bs := Nat.mod_lt _ (by omega)
        have hgW : W.heap[g]? = wr.heap[g]? := (hbut.block g (by have := HZ6.out; have := HZ5.out; omega) (by omega)).trans ((hb56.block g (by have := HZ5.out; omega)).trans (hb5.block g hgl))
        have h3W : W.heap[4]? = w.heap[4]? := (hbut.block 4 (by have := HZ6.out; have := HZ5.out; have := HZ1.out; omega) (by have := HZ1.out; omega)).trans ((hb56.block 4 (by have := HZ5.out; have := HZ1.out; omega)).trans ((hb5.block 4 (by have := HZ1.out; omega)).trans ((hb6.block 4 (by have := HZ1.out; omega)).trans (hb1.block 4 h3))))
        have hWs := hbut.size
        have HCW : Hid (∀ i, i < 64 → W.cell? ⟨g, 64 * (x % blocks bs) + i, none⟩ = some (.int .u8 (N8 (at8 (blk (padTo bs 8) (x % blocks bs)) i)))) := fun i hi => by
          rw [World.cell?_of_block (w := wr) (a := ⟨g, 64 * (x % blocks bs) + i, none⟩) hgW, HRD.out _ (by omega), at8_blk _ _ _ hi]
        have HKW : Hid (GlobK W) := fun i hi => by rw [World.cell?_of_block (w := w) (a := ⟨4, i, none⟩) h3W]; exact HK.out i hi
        have HST := Lib.hid hst
        clear hst hgW h3W
        gi_wp2
        unfold chunkV
        refine ⟨trivial, (CallsIn.inRound l (callsIn_wide.2 (take_any wr.heap.size g (64 * (x % blocks bs)) 64 (stL bs pre) (blk (padTo bs 8) (x % blocks bs)) W (by have := HZ6.out; have := HZ5.out; omega) (by have := HZ6.out; have := HZ5.out; omega) (stL_length _ _) HST.out HCW.out (by decide) HKW.out (by have := HZ6.out; have := HZ5.out; have := HZ1.out; omega)))).mono ?_⟩
        rintro e W2 ⟨rfl, hst2, hbut2⟩
        have HST2 := Lib.hid hst2
        clear hst2
        gi_wp2
        refine ⟨⟨hbut2.size, fun k o hk ho _ => (hbut2.block k (Array.getElem?_eq_some_iff.1 ho).1 (by have := HZ6.out; have := HZ5.out; omega)).trans ho⟩, ⟨hbut2.block _ (by have := HZ6.out; omega) (by have := HZ5.out; omega), hbut2.block _ (by have := HZ6.out; omega) (by have := HZ5.out; omega)⟩, by rw [stL_snoc]; exact HST2.out, ?_⟩
        exact ⟨hbut2.os.trans hbut.os, hbut2.tape.trans hbut.tape, hbut2.output.trans hbut.output, Nat.le_trans hbut.size hbut2.size, fun k hk hne => (hbut2.block k (Nat.lt_of_lt_of_le hk hbut.size) hne).trans (hbut.block k hk hne)⟩
      case done =>
        rintro D ys W hD rfl ⟨hst, hbut⟩ hKD
        rw [stL_range bs _ (Nat.le_refl _)] at hst
        have HST := Lib.hid hst
        have HKD := Lib.hid hKD
        clear hst hKD
        have HRW : Hid (W.heap[w.heap.size]? = some (.cells (c8 (List.replicate 32 0)) 304 (0, 0))) := by
          show _ = _
          rw [hbut.block _ (by have := HZ6.out; have := HZ5.out; have := HZ1.out; omega) (by have := HZ1.out; omega), hb56.block _ (by have := HZ5.out; have := HZ1.out; omega), hb5.block _ (by have := HZ1.out; omega), hb6.block _ (by have := HZ1.out; omega)]
          exact HR1.out
        have HBW : Hid (Below w.heap.size w W) := by
          have a1 := hb1.trans ((hb6.mono (by have := HZ1.out; omega)).trans ((hb5.mono (by have := HZ1.out; omega)).trans (hb56.mono (by have := HZ5.out; have := HZ1.out; omega))))
          exact a1.trans ⟨hbut.os, hbut.tape, hbut.output, hbut.size, fun k hk => hbut.block k (by have := HZ6.out; have := HZ5.out; have := HZ1.out; omega) (by have := HZ1.out; omega)⟩
        have hWz : wr.heap.size < W.heap.size := by have := hbut.size; have := HZ6.out; have := HZ5.out; omega
        have hRz : w.heap.size < wr.heap.size := by have := HZ1.out; omega
        go_wp2
        obtain ⟨wo, rfl⟩ : ∃ wo : World, wo = wr := ⟨_, rfl⟩
        go_loopw [45] (ShaO (stTo bs (blocks bs)) W) (fun i _ => 32 - (intOf i).toNat)
        case atStart => exact ⟨0, by omega, rfl, row_new8 W, (Below.refl _ _).alloc (Nat.le_refl _) _⟩
        case round =>
          obtain ⟨k, hk, rfl, ho, hb9⟩ := hrel
          have HO := Lib.hid ho
          clear ho
          by_cases h32 : k < 32
          · have d32 : decide ((k : Int) < 32) = true := decide_eq_true (by omega)
            have cs : wr.cell? ⟨wo.heap.size, k / 4, none⟩ = some (.int .u32 (N32 (at32 (stTo bs (blocks bs)) (k / 4)))) := by
              rw [hb9.cell (p := ⟨wo.heap.size, k / 4, none⟩) hWz]; exact row_cell HST.out _ (by rw [stTo_length]; omega)
            have co := row8_cell HO.out k (by rw [outTo_length]; exact h32)
            have fo := row_free HO.out k
            have HE := Lib.hid (outB_eq (stTo bs (blocks bs)) k)
            have HF := Lib.hid (row8_set HO.out k (outB (stTo bs (blocks bs)) k))
            go_wp2
            go_roundw
            case rel =>
              rw [HE.out]
              exact ⟨k + 1, by omega, by go_num, HF.out, hb9.setCell (Nat.le_refl _) _⟩
            case measure => simp [intOf]; omega
          · have d32 : decide ((k : Int) < 32) = false := decide_eq_false (by omega)
            obtain rfl : k = 32 := by omega
            have HI24 : Hid ((Tryz.prog.info? 304).map (·.size) = some (c8 (outTo (stTo bs (blocks bs)) 32)).size) := by rw [c8_size, outTo_length]; exact info24
            have HR9 : Hid (wr.heap[w.heap.size]? = some (.cells (c8 (List.replicate 32 0)) 304 (0, 0))) := by
              show _ = _
              rw [hb9.block _ (by omega)]; exact HRW.out
            have HQ : Hid ((c8 (List.replicate 32 0)).size = (c8 (outTo (stTo bs (blocks bs)) 32)).size) := by rw [c8_size, c8_size, outTo_length]; simp [Hid]
            go_wp2_with (first | (refine wpList_load_row rfl 304 (.tmp 8) rfl W.heap.size rfl 304 _ (0, 0) _ HO.out Tryz.underlying304 rfl HI24.out ?_) | (refine wpList_store_row rfl 304 (.tmp 2) (.tmp 61) rfl w.heap.size (c8 (outTo (stTo bs (blocks bs)) 32)) rfl rfl 304 _ HR9.out HI24.out HQ.out (c8_one _) ?_))
            have hD1 : wr.heap[D]? = some (.deferred (some [])) := (hb9.block D (Array.getElem?_eq_some_iff.1 HKD.out).1).trans HKD.out
            have hDR : D ≠ w.heap.size := by have := HZ6.out; have := HZ5.out; omega
            have hD2 : (wr.setRow w.heap.size (c8 (outTo (stTo bs (blocks bs)) 32))).heap[D]? = some (.deferred (some [])) := (setRow_other _ _ _ _ hDR).trans hD1
            refine ⟨by simp, .inl ⟨_, _, rfl, run_takeDeferred hD2, ?_⟩⟩
            have hR1 : (wr.setRow w.heap.size (c8 (outTo (stTo bs (blocks bs)) 32))).heap[w.heap.size]? = some (.cells (c8 (outTo (stTo bs (blocks bs)) 32)) 304 (0, 0)) := setRow_heap _ _ _ _ _ _ HR9.out
            have hR2 : ((wr.setRow w.heap.size (c8 (outTo (stTo bs (blocks bs)) 32))).putObj D (.deferred none)).heap[w.heap.size]? = some (.cells (c8 (outTo (stTo bs (blocks bs)) 32)) 304 (0, 0)) :=
              ((grownBy_putObj' _ D (.deferred none)).block _ (Array.getElem?_eq_some_iff.1 hR1).1 (fun e => by cases e; exact hDR rfl)).trans hR1
            refine ⟨.agg (c8 (shaB bs)), results_cell_row (p := 2) (ty := 304) rfl _ _ w.heap.size 304 _ (0, 0) _ rfl hR2 Tryz.underlying304 rfl HI24.out, by rw [← HBS.out], ?_⟩
            have hfin : Below w.heap.size w (wr.setRow w.heap.size (c8 (outTo (stTo bs (blocks bs)) 32))) := below_setRow (HBW.out.trans (hb9.mono (by omega))) (Nat.le_refl _) _
            exact hfin.trans (belowK_b (w := w) (Nat.le_refl _) _ D _ _ (by have := HZ6.out; have := HZ5.out; omega) hD2 rfl rfl)
      case stop =>
        rintro D c pre W _ _ h _
        exact h.elim
end Go.Proofs.YtcbfjmjphpoimaaGreatDoor
namespace Go.Proofs.YtcbfjmjphpoimaaGreatDoor
open Go.RowKit
theorem BSl.one {w : World} {v : Value} {bs : List UInt8} (h : BSl w v bs) : v.oneCell' = true := by
  rcases h with ⟨rfl, _⟩ | ⟨b, off, c, rfl, _⟩ | ⟨a, rfl, _⟩ <;> rfl
theorem clone_any (pv : Value) (vs : List Value) (ps : List (List UInt8)) (w : World) (h : PSl w pv vs ps) (hc0 : ps.length ≤ 1000000000) :
    Calls Tryz.prog 169 #[pv] w (OwnedV w ps.length vs) := by
  rcases h.lies with ⟨rfl, rfl⟩ | ⟨b, off, c, rfl, hc, hlt, hcell⟩
  · obtain rfl : vs = [] := List.eq_nil_of_length_eq_zero h.len
    exact clone_nil w
  · rw [← h.len]
    refine clone_some b off c vs w hlt (by rw [h.len]; exact hc0) (fun j u hu => ?_) (fun u hu => ?_)
    · have hj : j < vs.length := (List.getElem?_eq_some_iff.1 hu).1
      rw [Addr.add_mid, hcell j (by rw [← h.len]; exact hj)]
      simp [atV, hu]
    · obtain ⟨j, hj, rfl⟩ := List.getElem_of_mem hu
      have := (h.each j (by rw [← h.len]; exact hj)).one
      simpa [atV, hj] using this
theorem insert_any (base vb n : Nat) (sv cv : Value) (vs : List Value) (w : World) (hown : w.ownsRow base 22 1 sv n vs) (hbase : base ≤ w.heap.size) (hn2 : n ≤ 1000000000)
    (hcell : w.cell? ⟨vb, 0, none⟩ = some cv) (h1 : cv.oneCell' = true) (h2 : ∀ u ∈ vs, u.oneCell' = true) (hvb : vb < w.heap.size) (hvg : ∀ g, sv.ownBlock = some g → vb ≠ g) (hvr : ∃ C, w.heap[vb]? = some (.cells C 22 (0, 0))) :
    Calls Tryz.prog 168 #[sv, .int .i64 0, .slice (some ⟨vb, 0, none⟩) 1 1] w (InsP base sv.ownBlock w cv n vs) := by
  by_cases h0 : n = 0
  · subst h0
    obtain rfl : vs = [] := List.eq_nil_of_length_eq_zero (by simpa using hown.1)
    exact insert_empty base vb sv cv w hown hbase hcell h1
  · rcases hown.2 with ⟨rfl, h⟩ | ⟨g, cap, cur, rfl, hbg, hg, hnc, _⟩
    · omega
    · by_cases hc : n + 1 ≤ cap
      · exact insert_room base vb g n cap cv vs w hown hbase (by omega) hn2 hc hcell h1 h2 (hvg g rfl) hvr
      · exact insert_grow base vb g n cap cv vs w hown hbase (by omega) hn2 (by omega) hcell h1 h2 hvb (Array.getElem?_eq_some_iff.1 hg).1
theorem owns_below {w w' : World} {base e size B n : Nat} {v : Value} {xs : List Value} (h : w.ownsRow base e size v n xs) (hb : Below B w w') (hB : w.heap.size ≤ B) : w'.ownsRow base e size v n xs := by
  refine ⟨h.1, ?_⟩
  rcases h.2 with h | ⟨g, cap, cur, e1, h1, hh, h2⟩
  · exact .inl h
  · exact .inr ⟨g, cap, cur, e1, h1, (hb.block g (Nat.lt_of_lt_of_le (Array.getElem?_eq_some_iff.1 hh).1 hB)).trans hh, h2⟩
theorem owns_lt {w : World} {base e size n : Nat} {v : Value} {xs : List Value} (h : w.ownsRow base e size v n xs) {g : Nat} (hg : v.ownBlock = some g) : g < w.heap.size := by
  rcases h.2 with ⟨rfl, _⟩ | ⟨g', cap, cur, rfl, _, hh, _⟩
  · cases hg
  · cases hg; exact (Array.getElem?_eq_some_iff.1 hh).1
theorem PSl.of_owns {w : World} {base n : Nat} {v : Value} {vs : List Value} {ps : List (List UInt8)} (h : w.ownsRow base 22 1 v n vs) (hl : vs.length = ps.length) (he : ∀ j, j < ps.length → BSl w (atV vs j) (atP ps j)) : PSl w v vs ps := by
  have hn : n = ps.length := by have := h.1; omega
  subst hn
  refine ⟨hl, ?_, he⟩
  rcases h.2 with ⟨rfl, h0⟩ | ⟨g, cap, cur, rfl, hg, hh, hc, hm, hs, ht⟩
  · exact .inl ⟨rfl, List.eq_nil_of_length_eq_zero h0⟩
  · refine .inr ⟨g, 0, cap, rfl, hc, (Array.getElem?_eq_some_iff.1 hh).1, fun j hj => ?_⟩
    rw [Nat.zero_add, cell_of_row w g j cur 22 (0, 0) hh]
    have : vs[j]? = some (atV vs j) := by simp [atV, show j < vs.length by omega]
    rw [← this, ← ht, List.getElem?_take, if_pos (by omega)]
    simp
theorem BSl.of_row {w : World} {g T c : Nat} {bs : List UInt8} (h : w.heap[g]? = some (.cells (c8 bs) T (0, 0))) (hc : bs.length ≤ c) (n : Nat) (hn : n = bs.length) : BSl w (.slice (some ⟨g, 0, none⟩) n c) bs := by
  subst hn
  exact .inr (.inl ⟨g, 0, c, rfl, hc, (Array.getElem?_eq_some_iff.1 h).1, fun j hj => by rw [Nat.zero_add]; exact row8_cell h j hj⟩)
theorem atV_cons_zero (x : Value) (vs : List Value) : atV (x :: vs) 0 = x := rfl
theorem atV_cons_succ (x : Value) (vs : List Value) (j : Nat) : atV (x :: vs) (j + 1) = atV vs j := rfl
theorem atP_cons_zero (x : List UInt8) (ps : List (List UInt8)) : atP (x :: ps) 0 = x := rfl
theorem atP_cons_succ (x : List UInt8) (ps : List (List UInt8)) (j : Nat) : atP (x :: ps) (j + 1) = atP ps j := rfl
theorem GlobK.below {w w' : World} (h : GlobK w) (hb : Below w.heap.size w w') (h3 : 4 < w.heap.size) : GlobK w' := fun i hi => (hb.cell (p := ⟨4, i, none⟩) h3).trans (h i hi)
theorem GlobS.below {w w' : World} (h : GlobS w) (hb : Below w.heap.size w w') (h3 : 4 < w.heap.size) : GlobS w' := fun i hi => (hb.cell (p := ⟨3, i, none⟩) (by simp; omega)).trans (h i hi)
theorem changed_k (a : Option Addr) (n cp : Nat) (key : List UInt8) (k : Int) (c : UInt8) (hc : N8 c = k) (w : World) (hn : n = key.length) (h : BSl w (.slice a n cp) key) (hl : key.length ≤ 64) :
    Calls Tryz.prog 170 #[.slice a n cp, .int .u8 k] w (ChgP key c w) := by
  subst hc; exact changed_at a n cp key c w hn h hl
theorem BSl.same {w w' : World} {v : Value} {bs : List UInt8} (h : BSl w v bs) (e : w'.heap = w.heap) : BSl w' v bs := by
  rcases h with h | ⟨b, off, c, e1, hc, hlt, hcell⟩ | h
  · exact .inl h
  · exact .inr (.inl ⟨b, off, c, e1, hc, by rw [e]; exact hlt, fun j hj => by rw [← hcell j hj]; unfold World.cell?; rw [e]⟩)
  · exact .inr (.inr h)
theorem two_psl {w : World} {x y : Value} {p q : List UInt8} (hx : BSl w x p) (hy : BSl w y q) : PSl (w.alloc (.cells #[x, y] 22)) (.slice (some ⟨w.heap.size, 0, none⟩) 2 2) [x, y] [p, q] := by
  have hb : Below w.heap.size w (w.alloc (.cells #[x, y] 22)) := (Below.refl _ _).alloc (Nat.le_refl _) _
  refine ⟨rfl, .inr ⟨w.heap.size, 0, 2, rfl, Nat.le_refl _, by simp, fun j hj => ?_⟩, fun j hj => ?_⟩
  · rw [Nat.zero_add, cell_of_row _ _ j _ 22 (0, 0) (row_new _ _ _)]
    match j, hj with
    | 0, _ => rfl
    | 1, _ => rfl
  · match j, hj with
    | 0, _ => exact hx.below hb (Nat.le_refl _)
    | 1, _ => exact hy.below hb (Nat.le_refl _)
theorem mid_psl {w5 w6 w7 : World} {key hm : List UInt8} (hk64 : key.length ≤ 64) (hml : hm.length = 32) (hz : w5.heap.size < w6.heap.size) (hG6 : w6.heap[w5.heap.size]? = some (.cells (c8 hm) 304 (0, 0)))
    (hG7 : w7.heap[w6.drew.heap.size]? = some (.cells (c8 (chg key 92)) 5 (0, 0))) (hb7 : Below w6.drew.heap.size w6.drew w7) :
    PSl (w7.alloc (.cells #[.slice (some ⟨w6.heap.size, 0, none⟩) 64 64, .slice (some ⟨w5.heap.size, 0, none⟩) 32 32] 22)) (.slice (some ⟨w7.heap.size, 0, none⟩) 2 2) [.slice (some ⟨w6.heap.size, 0, none⟩) 64 64, .slice (some ⟨w5.heap.size, 0, none⟩) 32 32] [chg key 92, hm] := by
  have hl := chg_length key 92 hk64
  refine two_psl (BSl.of_row (T := 5) (c := 64) hG7 (by omega) 64 hl.symm) (BSl.of_row (T := 304) (c := 32) ?_ (by omega) 32 hml.symm)
  exact (hb7.block _ hz).trans hG6
theorem results_mid {P : Program} {fn : Func} {p : Tmp} {ty : TypeId} (h : fn.results = #[.cell p ty]) (tmps : Array Value) (w : World) (b : Nat) (cs : List Value) (d : TypeDesc)
    (hp : tmps.getD p undef = .pointer (some ⟨b, 0, none⟩)) (hc : w.rangeAt b 0 cs) (hu : P.underlying ty = some d) (hd : d.isRow = true) (hi : (P.info? ty).map (·.size) = some cs.length) :
    (results fn tmps).run P w = .ok (.agg cs.toArray) w := by
  have hp' : tmps[p]?.getD undef = .pointer (some ⟨b, 0, none⟩) := by simpa using hp
  simp [results, h, hp', asAddr, run_loadVar_mid w b 0 ty cs d hc hu hd hi]
theorem there_of_row {w : World} {b T : Nat} {l : List UInt8} (h : w.heap[b]? = some (.cells (c8 l) T (0, 0))) : w.there b 0 l.length := fun j hj => by
  rw [Nat.zero_add]
  exact ⟨by rw [row8_cell h j hj]; rfl, row_free h j⟩
theorem there_below {B : Nat} {w w' : World} {b o n : Nat} (h : w.there b o n) (hb : Below B w w') (hB : b < B) : w'.there b o n := fun j hj => by
  rw [hb.cell (p := ⟨b, o + j, none⟩) hB, hb.frozen (p := ⟨b, o + j, none⟩) hB]; exact h j hj
def hmS (key msg : List UInt8) : List UInt8 := shaB (chg key 92 ++ shaB (chg key 54 ++ msg))
def hmB (key msg : List UInt8) : List UInt8 := hmS (if key.length > 64 then shaB key else key) msg
attribute [local irreducible] chg shaB
theorem below_cells {B b : Nat} {a : World} (hb : B ≤ b) : ∀ (vs : List Value) (o : Nat) (w : World), Below B a w → Below B a (w.setCells b o vs)
  | [], _, _, h => h
  | _ :: r, o, _, h => below_cells hb r (o + 1) _ (h.setCell hb _)
theorem mid_len {key hm : List UInt8} (hk64 : key.length ≤ 64) (hml : hm.length = 32) : ([chg key 92, hm].flatten).length ≤ 100000000000 := by
  have hl := chg_length key 92 hk64
  simp [hl, hml]
theorem alloc_below {o : Obj} (w : World) : Below w.heap.size w (w.alloc o) := (Below.refl _ _).alloc (Nat.le_refl _) _
theorem mid_below {w w6 w7 : World} {o : Obj} (h6 : Below w.heap.size w w6) (h7 : Below w6.drew.heap.size w6.drew w7) : Below w.heap.size w (w7.alloc o) :=
  (h6.drew.trans (h7.mono h6.size)).alloc (Nat.le_trans h6.size h7.size) _
theorem mid_lt {w w' : World} (h3 : 4 < w.heap.size) (h : Below w.heap.size w w') : 4 < w'.heap.size := Nat.lt_of_lt_of_le h3 h.size
theorem mid_lt2 {n : Nat} {w6 w7 : World} (h : n < w6.heap.size) (h7 : Below w6.drew.heap.size w6.drew w7) : n < w7.heap.size := Nat.lt_of_lt_of_le h h7.size
theorem mid_lt3 {n : Nat} {w6 w7 : World} {o : Obj} (h : n < w6.heap.size) (h7 : Below w6.drew.heap.size w6.drew w7) : n < (w7.alloc o).heap.size := by
  have := mid_lt2 h h7; simp; omega
set_option maxRecDepth 100000 in
set_option maxHeartbeats 1000000 in
theorem hmac_short (kv pv : Value) (key : List UInt8) (vs : List Value) (ps : List (List UInt8)) (w : World) (hk : BSl w kv key) (hk64 : key.length ≤ 64) (hP : PSl w pv vs ps) (hc0 : ps.length ≤ 100000000) (ht : ps.flatten.length ≤ 10000000000)
    (hK : GlobK w) (hS : GlobS w) (h3 : 4 < w.heap.size) :
    Calls Tryz.prog 149 #[kv, pv] w fun e w' => e = .returned (.agg (c8 (hmS key ps.flatten))) ∧ Below w.heap.size w w' := by
  have HK : Hid (GlobK w) := hK
  have HS : Hid (GlobS w) := hS
  clear hK hS
  obtain ⟨a0, c0, hkv⟩ := hk.len
  subst hkv
  have d64 : decide ((64 : Int) < (key.length : Int)) = false := decide_eq_false (by omega)
  have HR1 := Lib.hid (row_new8 w)
  go_enter Tryz.func149, Tryz.ntmps149
  go_wp2_with fail
  generalize hw1 : w.alloc _ = w1 at HR1 ⊢
  have hb1 : Below w.heap.size w w1 := by rw [← hw1]; exact (Below.refl _ _).alloc (Nat.le_refl _) _
  have HZ1 : Hid (w.heap.size < w1.heap.size) := by rw [← hw1]; simp [Hid]
  clear hw1
  have hk1 := hk.below hb1 (Nat.le_refl _)
  refine (clone_any pv vs ps w1 (hP.below hb1 (Nat.le_refl _)) (by omega)).mono ?_
  rintro e w2 ⟨v2, rfl, hown2, hb2⟩
  have hz2 := hb2.size
  have hbw2 : Below w.heap.size w w2 := hb1.trans (hb2.mono (by have := HZ1.out; omega))
  go_wp2_with fail
  refine (changed_k a0 key.length c0 key 54 54 rfl w2 rfl (hk1.below hb2 (Nat.le_refl _)) hk64).mono ?_
  rintro e w3 ⟨rfl, hG3, hb3⟩
  have HG3 := Lib.hid hG3
  clear hG3
  have hz3 := hb3.size
  have hz3' : w2.heap.size < w3.heap.size := (Array.getElem?_eq_some_iff.1 HG3.out).1
  go_wp2_with fail
  have hb3' : Below w2.heap.size w2 (w3.alloc (.cells #[.slice (some ⟨w2.heap.size, 0, none⟩) 64 64] 22)) := hb3.alloc hz3 _
  refine (insert_any w1.heap.size w3.heap.size ps.length v2 (.slice (some ⟨w2.heap.size, 0, none⟩) 64 64) vs _ (owns_below hown2 hb3' (Nat.le_refl _)) (by simp; omega) (by omega) (by simp) rfl ?_ (by simp) (fun g hg => by have := owns_lt hown2 hg; omega) ⟨_, row_new _ _ _⟩).mono ?_
  · intro u hu
    obtain ⟨j, hj, rfl⟩ := List.getElem_of_mem hu
    have := (hP.each j (by rw [← hP.len]; exact hj)).one
    simpa [atV, hj] using this
  rintro e w4 ⟨v4, rfl, hown4, hg4⟩
  have hb4 : Below w1.heap.size w1 w4 := (hb2.trans (hb3'.mono hz2)).grown hg4 (by simp; omega) (fun g hg => owns_block hown2 hg)
  have hbw4 : Below w.heap.size w w4 := hb1.trans (hb4.mono (by have := HZ1.out; omega))
  have HG4 : Hid (w4.heap[w2.heap.size]? = some (.cells (c8 (chg key 54)) 5 (0, 0))) := by
    show _ = _
    rw [hg4.block _ (by simp; omega) (fun e => by have := owns_lt hown2 e.symm; omega), Below.heap_alloc _ _ _ hz3']
    exact HG3.out
  have hP4 : PSl w4 v4 (.slice (some ⟨w2.heap.size, 0, none⟩) 64 64 :: vs) (chg key 54 :: ps) := by
    refine PSl.of_owns hown4 (by simp [hP.len]) (fun j hj => ?_)
    cases j with
    | zero =>
      rw [atV_cons_zero, atP_cons_zero]
      have hl := chg_length key 54 hk64
      exact BSl.of_row HG4.out (by rw [hl]; exact Nat.le_refl _) 64 hl.symm
    | succ j =>
      rw [atV_cons_succ, atP_cons_succ]
      exact (hP.each j (by simpa using hj)).below hbw4 (Nat.le_refl _)
  have hz4 := hb4.size
  go_wp2_with fail
  refine (sha_any v4 _ (chg key 54 :: ps) w4 hP4 (by simp; omega) (by rw [List.flatten_cons, List.length_append, chg_length _ _ hk64]; omega) (HK.out.below hbw4 h3) (HS.out.below hbw4 h3) (by have := hbw4.size; omega)).mono ?_
  rintro e w5 ⟨rfl, hb5⟩
  have hbw5 : Below w.heap.size w w5 := hbw4.trans (hb5.mono hbw4.size)
  obtain ⟨hm, hhm⟩ : ∃ hm, hm = shaB (chg key 54 :: ps).flatten := ⟨_, rfl⟩
  rw [← hhm]
  have hml : hm.length = 32 := by rw [hhm]; exact shaB_length _
  have HHM := Lib.hid hhm
  clear hhm
  have HI24 : Hid ((Tryz.prog.info? 304).map (·.size) = some (c8 hm).size) := by rw [c8_size, hml]; exact info24
  have HQ : Hid ((c8 (List.replicate 32 0)).size = (c8 hm).size) := by rw [c8_size, c8_size, hml]; simp [Hid]
  have HML := Lib.hid hml
  clear hml
  go_wp2_with (refine wpList_store_row rfl 304 (.tmp 6) (.tmp 20) rfl w5.heap.size (c8 hm) rfl rfl 304 _ (row_new8 w5) HI24.out HQ.out (c8_one _) ?_)
  go_frame
  generalize hw6 : (w5.alloc _).setRow w5.heap.size (c8 hm) = w6
  have hb6 : Below w5.heap.size w5 w6 := by rw [← hw6]; exact below_setRow ((Below.refl _ _).alloc (Nat.le_refl _) _) (Nat.le_refl _) _
  have HG6 : Hid (w6.heap[w5.heap.size]? = some (.cells (c8 hm) 304 (0, 0))) := by rw [← hw6]; exact setRow_heap _ _ _ _ _ _ (row_new8 w5)
  clear hw6
  have hz6 : w5.heap.size < w6.heap.size := (Array.getElem?_eq_some_iff.1 HG6.out).1
  have hbw6 : Below w.heap.size w w6 := hbw5.trans (hb6.mono hbw5.size)
  have HR6 : Hid (w6.heap[w.heap.size]? = some (.cells (c8 (List.replicate 32 0)) 304 (0, 0))) := by
    show _ = _
    rw [hb6.block _ (by have := HZ1.out; have := hb5.size; omega), hb5.block _ (by have := HZ1.out; omega), hb4.block _ (by have := HZ1.out; omega)]
    exact HR1.out
  have hT6 : w6.there w.heap.size 0 32 := by have := there_of_row HR6.out; rwa [List.length_replicate] at this
  obtain ⟨X, hX⟩ : ∃ X, X = shaB [chg key 92, hm].flatten := ⟨_, rfl⟩
  have hXl : X.length = 32 := by rw [hX]; exact shaB_length _
  have hXc : (c8l X).length = 32 := by rw [c8l_length]; exact hXl
  have hX1 : ∀ v ∈ c8l X, v.oneCell' = true := c8l_one X
  have hi24 := info24
  have HX := Lib.hid hX
  clear hX hXl
  have hk6 := hk1.below (hb4.trans ((hb5.mono hb4.size).trans (hb6.mono (Nat.le_trans hb4.size hb5.size)))) (Nat.le_refl _)
  have hRz6 : w.heap.size < w6.heap.size := by have := HZ1.out; have := hb5.size; omega
  go_region_held3 (fun W => W.there w.heap.size 0 32) (first | exact hT6 | exact hT7 | exact there_below hT7 (alloc_below w7) (mid_lt2 hRz6 hb7) | exact hT8 | exact World.there_setCells hT8 _ _ _)
    (first | (go_at_call 170; refine (changed_k a0 key.length c0 key 92 92 rfl _ rfl ?_ hk64).mono ?_; exact hk6.same rfl; rintro e w7 ⟨rfl, hG7, hb7⟩; have HG7 := Lib.hid hG7; clear hG7; have hT7 : w7.there w.heap.size 0 32 := there_below (w := w6.drew) hT6 hb7 hRz6) | (go_at_call 167; refine (sha_any _ _ _ _ (mid_psl hk64 HML.out hz6 HG6.out HG7.out hb7) (by simp) ?_ ?_ ?_ ?_).mono ?_; exact mid_len hk64 HML.out; exact HK.out.below (mid_below hbw6 hb7) h3; exact HS.out.below (mid_below hbw6 hb7) h3; exact mid_lt h3 (mid_below hbw6 hb7); (rw [← HX.out]); rintro e w8 ⟨rfl, hb8⟩; have hT8 : w8.there w.heap.size 0 32 := there_below (there_below hT7 (alloc_below w7) (mid_lt2 hRz6 hb7)) hb8 (mid_lt3 hRz6 hb7)))
  go_wp2
  have hrs : (w8.setCells w.heap.size 0 (c8l X)).rangeAt w.heap.size 0 (c8l X) := World.rangeAt_setCells_same _ _ _ _ (by rw [hXc]; exact hT8)
  have hfin : Below w.heap.size w (w8.setCells w.heap.size 0 (c8l X)) := below_cells (Nat.le_refl _) _ _ _ ((mid_below hbw6 hb7).trans (hb8.mono (mid_below hbw6 hb7).size))
  refine bodyPost_ret (v := .agg (c8 X)) (results_mid (p := 4) (ty := 304) rfl _ _ w.heap.size (c8l X) _ rfl hrs Tryz.underlying304 rfl (by rw [hXc]; exact info24)) rfl ⟨?_, hfin⟩
  rw [HX.out, HHM.out]
  simp [hmS]
theorem one_psl {w : World} {x : Value} {p : List UInt8} (hx : BSl w x p) : PSl (w.alloc (.cells #[x] 22)) (.slice (some ⟨w.heap.size, 0, none⟩) 1 1) [x] [p] := by
  have hb : Below w.heap.size w (w.alloc (.cells #[x] 22)) := (Below.refl _ _).alloc (Nat.le_refl _) _
  refine ⟨rfl, .inr ⟨w.heap.size, 0, 1, rfl, Nat.le_refl _, by simp, fun j hj => ?_⟩, fun j hj => ?_⟩
  · rw [Nat.zero_add, cell_of_row _ _ j _ 22 (0, 0) (row_new _ _ _)]
    match j, hj with
    | 0, _ => rfl
  · match j, hj with
    | 0, _ => exact hx.below hb (Nat.le_refl _)
set_option maxRecDepth 100000 in
set_option maxHeartbeats 1000000 in
theorem hmac_long (kv pv : Value) (key : List UInt8) (vs : List Value) (ps : List (List UInt8)) (w : World) (hk : BSl w kv key) (hlong : 64 < key.length) (hkl : key.length ≤ 10000000000) (hP : PSl w pv vs ps) (hc0 : ps.length ≤ 100000000) (ht : ps.flatten.length ≤ 10000000000)
    (hK : GlobK w) (hS : GlobS w) (h3 : 4 < w.heap.size) :
    Calls Tryz.prog 149 #[kv, pv] w fun e w' => e = .returned (.agg (c8 (hmS (shaB key) ps.flatten))) ∧ Below w.heap.size w w' := by
  have HK : Hid (GlobK w) := hK
  have HS : Hid (GlobS w) := hS
  clear hK hS
  obtain ⟨a0, c0, hkv⟩ := hk.len
  subst hkv
  have d64 : decide ((64 : Int) < (key.length : Int)) = true := decide_eq_true (by omega)
  have HR0 := Lib.hid (row_new8 w)
  go_enter Tryz.func149, Tryz.ntmps149
  go_wp2_with fail
  generalize hy1 : w.alloc _ = y1 at HR0 ⊢
  have hby1 : Below w.heap.size w y1 := by rw [← hy1]; exact (Below.refl _ _).alloc (Nat.le_refl _) _
  have hyz : y1.heap.size = w.heap.size + 1 := by rw [← hy1]; simp
  clear hy1
  rw [← hyz]
  have hyz1 : w.heap.size < y1.heap.size := by omega
  clear hyz
  have hby2 : Below w.heap.size w (y1.alloc (.cells #[.slice a0 key.length c0] 22)) := hby1.alloc (by omega) _
  refine (sha_any _ _ _ _ (one_psl (hk.below hby1 (Nat.le_refl _))) (by simp) (by simp; omega) (HK.out.below hby2 h3) (HS.out.below hby2 h3) (mid_lt h3 hby2)).mono ?_
  rintro e y3 ⟨rfl, hby3⟩
  obtain ⟨ky, hky⟩ : ∃ ky, ky = shaB [key].flatten := ⟨_, rfl⟩
  rw [← hky]
  have hkyl : ky.length = 32 := by rw [hky]; exact shaB_length _
  have HKY := Lib.hid hky
  clear hky
  have HI24k : Hid ((Tryz.prog.info? 304).map (·.size) = some (c8 ky).size) := by rw [c8_size, hkyl]; exact info24
  have HQk : Hid ((c8 (List.replicate 32 0)).size = (c8 ky).size) := by rw [c8_size, c8_size, hkyl]; simp [Hid]
  have HKL := Lib.hid hkyl
  clear hkyl
  go_wp2_with (first | (refine wpList_store_row rfl 304 (.tmp 5) (.tmp 12) rfl y3.heap.size (c8 ky) rfl rfl 304 _ (row_new8 y3) HI24k.out HQk.out (c8_one _) ?_))
  generalize hw1 : (y3.alloc _).setRow y3.heap.size (c8 ky) = w1
  have hb31 : Below y3.heap.size y3 w1 := by rw [← hw1]; exact below_setRow (alloc_below _) (Nat.le_refl _) _
  have HGK : Hid (w1.heap[y3.heap.size]? = some (.cells (c8 ky) 304 (0, 0))) := by rw [← hw1]; exact setRow_heap _ _ _ _ _ _ (row_new8 y3)
  clear hw1
  have hby3s := hby3.size
  simp only [World.size_alloc] at hby3s
  have hb1 : Below w.heap.size w w1 := hby2.trans ((hby3.mono (by simp; omega)).trans (hb31.mono (by omega)))
  have HZ1 : Hid (w.heap.size < w1.heap.size) := by have := hb31.size; show _ < _; omega
  have HR1 : Hid (w1.heap[w.heap.size]? = some (.cells (c8 (List.replicate 32 0)) 304 (0, 0))) := by
    show _ = _
    rw [hb31.block _ (by omega), hby3.block _ (by simp; omega), Below.heap_alloc _ _ _ hyz1]
    exact HR0.out
  have hk1 : BSl w1 (.slice (some ⟨y3.heap.size, 0, none⟩) 32 32) ky := BSl.of_row (T := 304) HGK.out (by have := HKL.out; omega) 32 HKL.out.symm
  have hk64 : ky.length ≤ 64 := by have := HKL.out; omega
  refine (clone_any pv vs ps w1 (hP.below hb1 (Nat.le_refl _)) (by omega)).mono ?_
  rintro e w2 ⟨v2, rfl, hown2, hb2⟩
  have hz2 := hb2.size
  have hbw2 : Below w.heap.size w w2 := hb1.trans (hb2.mono (by have := HZ1.out; omega))
  go_wp2_with fail
  refine (changed_k (some ⟨y3.heap.size, 0, none⟩) 32 32 ky 54 54 rfl w2 HKL.out.symm (hk1.below hb2 (Nat.le_refl _)) hk64).mono ?_
  rintro e w3 ⟨rfl, hG3, hb3⟩
  have HG3 := Lib.hid hG3
  clear hG3
  have hz3 := hb3.size
  have hz3' : w2.heap.size < w3.heap.size := (Array.getElem?_eq_some_iff.1 HG3.out).1
  go_wp2_with fail
  have hb3' : Below w2.heap.size w2 (w3.alloc (.cells #[.slice (some ⟨w2.heap.size, 0, none⟩) 64 64] 22)) := hb3.alloc hz3 _
  refine (insert_any w1.heap.size w3.heap.size ps.length v2 (.slice (some ⟨w2.heap.size, 0, none⟩) 64 64) vs _ (owns_below hown2 hb3' (Nat.le_refl _)) (by simp; omega) (by omega) (by simp) rfl ?_ (by simp) (fun g hg => by have := owns_lt hown2 hg; omega) ⟨_, row_new _ _ _⟩).mono ?_
  · intro u hu
    obtain ⟨j, hj, rfl⟩ := List.getElem_of_mem hu
    have := (hP.each j (by rw [← hP.len]; exact hj)).one
    simpa [atV, hj] using this
  rintro e w4 ⟨v4, rfl, hown4, hg4⟩
  have hb4 : Below w1.heap.size w1 w4 := (hb2.trans (hb3'.mono hz2)).grown hg4 (by simp; omega) (fun g hg => owns_block hown2 hg)
  have hbw4 : Below w.heap.size w w4 := hb1.trans (hb4.mono (by have := HZ1.out; omega))
  have HG4 : Hid (w4.heap[w2.heap.size]? = some (.cells (c8 (chg ky 54)) 5 (0, 0))) := by
    show _ = _
    rw [hg4.block _ (by simp; omega) (fun e => by have := owns_lt hown2 e.symm; omega), Below.heap_alloc _ _ _ hz3']
    exact HG3.out
  have hP4 : PSl w4 v4 (.slice (some ⟨w2.heap.size, 0, none⟩) 64 64 :: vs) (chg ky 54 :: ps) := by
    refine PSl.of_owns hown4 (by simp [hP.len]) (fun j hj => ?_)
    cases j with
    | zero =>
      rw [atV_cons_zero, atP_cons_zero]
      have hl := chg_length ky 54 hk64
      exact BSl.of_row HG4.out (by rw [hl]; exact Nat.le_refl _) 64 hl.symm
    | succ j =>
      rw [atV_cons_succ, atP_cons_succ]
      exact (hP.each j (by simpa using hj)).below hbw4 (Nat.le_refl _)
  have hz4 := hb4.size
  go_wp2_with fail
  refine (sha_any v4 _ (chg ky 54 :: ps) w4 hP4 (by simp; omega) (by rw [List.flatten_cons, List.length_append, chg_length _ _ hk64]; omega) (HK.out.below hbw4 h3) (HS.out.below hbw4 h3) (by have := hbw4.size; omega)).mono ?_
  rintro e w5 ⟨rfl, hb5⟩
  have hbw5 : Below w.heap.size w w5 := hbw4.trans (hb5.mono hbw4.size)
  obtain ⟨hm, hhm⟩ : ∃ hm, hm = shaB (chg ky 54 :: ps).flatten := ⟨_, rfl⟩
  rw [← hhm]
  have hml : hm.length = 32 := by rw [hhm]; exact shaB_length _
  have HHM := Lib.hid hhm
  clear hhm
  have HI24 : Hid ((Tryz.prog.info? 304).map (·.size) = some (c8 hm).size) := by rw [c8_size, hml]; exact info24
  have HQ : Hid ((c8 (List.replicate 32 0)).size = (c8 hm).size) := by rw [c8_size, c8_size, hml]; simp [Hid]
  have HML := Lib.hid hml
  clear hml
  go_wp2_with (refine wpList_store_row rfl 304 (.tmp 6) (.tmp 20) rfl w5.heap.size (c8 hm) rfl rfl 304 _ (row_new8 w5) HI24.out HQ.out (c8_one _) ?_)
  go_frame
  generalize hw6 : (w5.alloc _).setRow w5.heap.size (c8 hm) = w6
  have hb6 : Below w5.heap.size w5 w6 := by rw [← hw6]; exact below_setRow ((Below.refl _ _).alloc (Nat.le_refl _) _) (Nat.le_refl _) _
  have HG6 : Hid (w6.heap[w5.heap.size]? = some (.cells (c8 hm) 304 (0, 0))) := by rw [← hw6]; exact setRow_heap _ _ _ _ _ _ (row_new8 w5)
  clear hw6
  have hz6 : w5.heap.size < w6.heap.size := (Array.getElem?_eq_some_iff.1 HG6.out).1
  have hbw6 : Below w.heap.size w w6 := hbw5.trans (hb6.mono hbw5.size)
  have HR6 : Hid (w6.heap[w.heap.size]? = some (.cells (c8 (List.replicate 32 0)) 304 (0, 0))) := by
    show _ = _
    rw [hb6.block _ (by have := HZ1.out; have := hb5.size; omega), hb5.block _ (by have := HZ1.out; omega), hb4.block _ (by have := HZ1.out; omega)]
    exact HR1.out
  have hT6 : w6.there w.heap.size 0 32 := by have := there_of_row HR6.out; rwa [List.length_replicate] at this
  obtain ⟨X, hX⟩ : ∃ X, X = shaB [chg ky 92, hm].flatten := ⟨_, rfl⟩
  have hXl : X.length = 32 := by rw [hX]; exact shaB_length _
  have hXc : (c8l X).length = 32 := by rw [c8l_length]; exact hXl
  have hX1 : ∀ v ∈ c8l X, v.oneCell' = true := c8l_one X
  have hi24 := info24
  have HX := Lib.hid hX
  clear hX hXl
  have hk6 := hk1.below (hb4.trans ((hb5.mono hb4.size).trans (hb6.mono (Nat.le_trans hb4.size hb5.size)))) (Nat.le_refl _)
  have hRz6 : w.heap.size < w6.heap.size := by have := HZ1.out; have := hb5.size; omega
  go_region_held3 (fun W => W.there w.heap.size 0 32) (first | exact hT6 | exact hT7 | exact there_below hT7 (alloc_below w7) (mid_lt2 hRz6 hb7) | exact hT8 | exact World.there_setCells hT8 _ _ _)
    (first | (go_at_call 170; refine (changed_k (some ⟨y3.heap.size, 0, none⟩) 32 32 ky 92 92 rfl _ HKL.out.symm ?_ hk64).mono ?_; exact hk6.same rfl; rintro e w7 ⟨rfl, hG7, hb7⟩; have HG7 := Lib.hid hG7; clear hG7; have hT7 : w7.there w.heap.size 0 32 := there_below (w := w6.drew) hT6 hb7 hRz6) | (go_at_call 167; refine (sha_any _ _ _ _ (mid_psl hk64 HML.out hz6 HG6.out HG7.out hb7) (by simp) ?_ ?_ ?_ ?_).mono ?_; exact mid_len hk64 HML.out; exact HK.out.below (mid_below hbw6 hb7) h3; exact HS.out.below (mid_below hbw6 hb7) h3; exact mid_lt h3 (mid_below hbw6 hb7); (rw [← HX.out]); rintro e w8 ⟨rfl, hb8⟩; have hT8 : w8.there w.heap.size 0 32 := there_below (there_below hT7 (alloc_below w7) (mid_lt2 hRz6 hb7)) hb8 (mid_lt3 hRz6 hb7)))
  go_wp2
  have hrs : (w8.setCells w.heap.size 0 (c8l X)).rangeAt w.heap.size 0 (c8l X) := World.rangeAt_setCells_same _ _ _ _ (by rw [hXc]; exact hT8)
  have hfin : Below w.heap.size w (w8.setCells w.heap.size 0 (c8l X)) := below_cells (Nat.le_refl _) _ _ _ ((mid_below hbw6 hb7).trans (hb8.mono (mid_below hbw6 hb7).size))
  refine bodyPost_ret (v := .agg (c8 X)) (results_mid (p := 4) (ty := 304) rfl _ _ w.heap.size (c8l X) _ rfl hrs Tryz.underlying304 rfl (by rw [hXc]; exact info24)) rfl ⟨?_, hfin⟩
  rw [HX.out, HHM.out, HKY.out]
  simp [hmS]
theorem hmac_any (kv pv : Value) (key : List UInt8) (vs : List Value) (ps : List (List UInt8)) (w : World) (hk : BSl w kv key) (hkl : key.length ≤ 10000000000) (hP : PSl w pv vs ps) (hc0 : ps.length ≤ 100000000) (ht : ps.flatten.length ≤ 10000000000)
    (hK : GlobK w) (hS : GlobS w) (h3 : 4 < w.heap.size) :
    Calls Tryz.prog 149 #[kv, pv] w fun e w' => e = .returned (.agg (c8 (hmB key ps.flatten))) ∧ Below w.heap.size w w' := by
  unfold hmB
  by_cases h : key.length > 64
  · rw [if_pos h]; exact hmac_long kv pv key vs ps w hk h hkl hP hc0 ht hK hS h3
  · rw [if_neg h]; exact hmac_short kv pv key vs ps w hk (by omega) hP hc0 ht hK hS h3
end Go.Proofs.YtcbfjmjphpoimaaGreatDoor
namespace Go.Proofs.YtcbfjmjphpoimaaGreatDoor.V2
open Go
open Go.RowKit
theorem HR.below {ρ : Ren} {σ : AH} {W W' : World} (h : HR ρ σ W) (hb : Below W.heap.size W W') : HR ρ σ W' :=
  ⟨h.small, h.none_, fun b c d hρ => by
    obtain ⟨h1, h2, o, h3, h4⟩ := h.dom b c d hρ
    refine ⟨h1, Nat.lt_of_lt_of_le h2 hb.size, o, h3, ?_⟩
    rw [hb.block c h2]; exact h4, h.inj⟩
theorem Stp.below {N : Nat} {ρ : Ren} {σ : AH} {W W' : World} (hN : N ≤ σ.next) (hb : Below W.heap.size W W') : Stp N ρ σ W ρ σ W' :=
  ⟨fun _ _ => rfl, fun b _c d h => .inl ⟨b, d, h⟩, hN, fun _ _ _ _ h _ => h, fun c hc _ => hb.block c hc, hb.tape, hb.os, hb.output, hb.size, fun _ c _ _ _ _ hc h _ => ⟨h, hb.block c hc⟩⟩
def rowB : Row → Option (List Int)
  | .ints k l => match k with
    | .u8 => some l
    | _ => none
  | .cells l => match l with
    | [] => some []
    | _ => none
def byI (l : List Int) : Bool := l.all fun n => decide (0 ≤ n) && decide (n ≤ 255)
theorem byI_iff {l : List Int} (h : byI l = true) : ∀ n ∈ l, 0 ≤ n ∧ n ≤ 255 := fun n hn => by
  have := List.all_eq_true.1 h n hn
  simpa using this
noncomputable def bytesA (A : Ar) (By : List Int → Bool) (σ : AH) (v : AV) : Bool × List Int := match rowA A false 1 σ v with
  | (ok, _, r) => match rowB r with
    | some l => (ok && By l, l)
    | none => (false, [])
theorem bytes_of {ρ : Ren} {σ : AH} {W : World} (hr : HR ρ σ W) {s : AV} {v : Value} (hv : VR ρ s v) (hok : (bytesA std byI σ s).1 = true) : BSl W v (toBs (bytesA std byI σ s).2) ∧ bI (toBs (bytesA std byI σ s).2) = (bytesA std byI σ s).2 := by
  unfold bytesA at hok ⊢
  generalize hrow : rowA std false 1 σ s = row at hok ⊢
  obtain ⟨ok, n, r⟩ := row
  simp only at hok ⊢
  cases hB : rowB r with
  | none => rw [hB] at hok; cases hok
  | some l =>
    rw [hB] at hok
    simp only [Bool.and_eq_true] at hok ⊢
    obtain ⟨hok, hby⟩ := hok
    have hby := byI_iff hby
    refine ⟨?_, bI_toBs l hby⟩
    cases s
    case nilsl =>
      simp only [VR] at hv
      simp only [rowA, Prod.mk.injEq] at hrow
      obtain ⟨_, _, rfl⟩ := hrow
      simp only [rowB, Option.some.injEq] at hB
      subst hB; subst hv
      exact .inl ⟨rfl, rfl⟩
    case sl b o n' k e z =>
      rcases vr_sl hv with ⟨c, d, o', k', hb, rfl, ho, hnk, hk, _, _⟩ | ⟨rfl, rfl, rfl, _, pp, rfl⟩
      rotate_left
      · refine .inr (.inr ⟨pp, rfl, ?_⟩)
        have hl : l = [] := by
          simp only [rowA] at hrow
          cases hob : σ.get b with
          | none => rw [hob] at hrow; cases hrow; cases hok
          | some ob =>
            rw [hob] at hrow
            cases ob with
            | map m => cases hrow; cases hok
            | hid => cases hrow; cases hok
            | dead => cases hrow; cases hB; rfl
            | cells m e2 t =>
              simp only [Prod.mk.injEq] at hrow
              obtain ⟨_, _, rfl⟩ := hrow
              rw [Nat.zero_mul, List.take_zero] at hB
              cases hB; rfl
            | ints ik m e2 t =>
              simp only [Prod.mk.injEq] at hrow
              obtain ⟨_, _, rfl⟩ := hrow
              have hik : ik = .u8 := by cases ik <;> first | rfl | (simp [rowB] at hB)
              subst hik
              simp only [std, rowB, Option.some.injEq] at hB
              rw [← hB]; simp
        rw [hl]; rfl
      have hc := (hr.dom _ _ _ hb).2.1
      simp only [rowA] at hrow
      have hempty : n' = 0 → l = [] → BSl W (.slice (some ⟨c, o', none⟩) n' k') (toBs l) := fun h1 h2 => by
        subst h1; subst h2
        exact .inr (.inl ⟨c, o', k', rfl, Nat.zero_le _, hc, fun j hj => by cases hj⟩)
      cases hob : σ.get b with
      | none => rw [hob] at hrow; cases hrow; cases hok
      | some ob =>
        rw [hob] at hrow
        cases ob with
        | map m => cases hrow; cases hok
        | hid => cases hrow; cases hok
        | dead =>
          simp only [Prod.mk.injEq] at hrow
          obtain ⟨h1, _, rfl⟩ := hrow
          simp only [rowB, Option.some.injEq] at hB
          rw [← h1, Bool.and_eq_true, Nat.beq_eq] at hok
          exact hempty hok.2 hB.symm
        | cells m e2 t =>
          simp only [Prod.mk.injEq] at hrow
          obtain ⟨h1, _, rfl⟩ := hrow
          rw [← h1] at hok
          simp only [Bool.and_eq_true, Nat.ble_eq] at hok
          cases hm : (m.drop o).take (n' * 1) with
          | nil =>
            have h0 : ((m.drop o).take (n' * 1)).length = 0 := by rw [hm]; rfl
            rw [List.length_take, List.length_drop] at h0
            rw [hm] at hB
            simp only [rowB, Option.some.injEq] at hB
            exact hempty (by omega) hB.symm
          | cons x y => rw [hm] at hB; cases hB
        | ints ik m e2 t =>
          simp only [Prod.mk.injEq] at hrow
          obtain ⟨h1, _, rfl⟩ := hrow
          rw [← h1] at hok
          simp only [std, Bool.and_eq_true, Nat.ble_eq] at hok
          have hik : ik = .u8 := by cases ik <;> first | rfl | (simp [rowB] at hB)
          subst hik
          simp only [std, rowB, Option.some.injEq] at hB
          have hln : l.length = n' := by rw [← hB, List.length_take, List.length_drop]; omega
          by_cases hn : n' = 0
          · exact hempty hn (List.length_eq_zero_iff.1 (by rw [hln, hn]))
          · have ho := ho (by omega)
            subst ho
            refine .inr (.inl ⟨c, o + d.1, k', by rw [toBs_length, hln], by rw [toBs_length, hln]; omega, hc, fun j hj => ?_⟩)
            rw [toBs_length, hln] at hj
            have hjm : o + j < m.length := by omega
            obtain ⟨u, hu, hvr⟩ := hr.load (i := o + j) (a := .int .u8 m[o + j]) hb hob (by simp only [AObj.at]; rw [List.getElem?_eq_getElem hjm]; rfl)
            simp only [VR] at hvr
            subst hvr
            rw [show o + d.1 + j = o + j + d.1 by omega, hu]
            have hlj : l[j]? = some m[o + j] := by rw [← hB, List.getElem?_take, if_pos (by omega), List.getElem?_drop, List.getElem?_eq_getElem hjm]
            have : (bI (toBs l)).getD j 0 = m[o + j] := by rw [bI_toBs l hby, List.getD_eq_getElem?_getD, hlj]; rfl
            rw [bI_getD] at this
            rw [this]
    all_goals (simp only [rowA, Prod.mk.injEq] at hrow; obtain ⟨h1, _⟩ := hrow; rw [← h1] at hok; cases hok)
noncomputable def partsA (A : Ar) (By : List Int → Bool) (σ : AH) : List AV → Bool × List (List Int)
  | [] => (true, [])
  | v :: l => match bytesA A By σ v with
    | (ok, b) => match partsA A By σ l with
      | (ok', m) => (ok && ok', b :: m)
noncomputable def listA (A : Ar) (By : List Int → Bool) (σ : AH) (v : AV) : Bool × List (List Int) := match rowA A false 1 σ v with
  | (ok, _, r) => match r with
    | .cells l => match partsA A By σ l with
      | (ok', m) => (ok && ok' && v.sure, m)
    | _ => (false, [])
end Go.Proofs.YtcbfjmjphpoimaaGreatDoor.V2
namespace Go.Proofs.YtcbfjmjphpoimaaGreatDoor.V2
open Go
open Go.RowKit
theorem atV_get {vs : List Value} {j : Nat} {v : Value} (h : vs[j]? = some v) : atV vs j = v := by
  unfold atV; rw [List.getD_eq_getElem?_getD, h]; rfl
theorem parts_of {ρ : Ren} {σ : AH} {W : World} (hr : HR ρ σ W) : ∀ {l : List AV} {vs : List Value}, VRs ρ l vs → (partsA std byI σ l).1 = true → vs.length = ((partsA std byI σ l).2.map toBs).length ∧ ∀ j, j < vs.length → BSl W (atV vs j) (atP ((partsA std byI σ l).2.map toBs) j)
  | [], _, h, _ => by rw [show _ = [] from h]; exact ⟨rfl, fun j hj => by simp at hj⟩
  | a :: l, _, ⟨v, m, e, hv, hm⟩, hok => by
    subst e
    unfold partsA at hok ⊢
    have hB := fun h => bytes_of hr hv h
    have hL := fun h => parts_of hr hm h
    generalize bytesA std byI σ a = b at hok hB ⊢
    generalize partsA std byI σ l = q at hok hL ⊢
    obtain ⟨ok, b⟩ := b
    obtain ⟨ok', q⟩ := q
    simp only [Bool.and_eq_true] at hok hB hL ⊢
    obtain ⟨h1, h2⟩ := hL hok.2
    refine ⟨by simp [h1], fun j hj => ?_⟩
    cases j with
    | zero => exact (hB hok.1).1
    | succ j =>
      have := h2 j (by simpa using hj)
      simpa [atV, atP] using this
theorem list_of {ρ : Ren} {σ : AH} {W : World} (hr : HR ρ σ W) {s : AV} {v : Value} (hv : VR ρ s v) (hok : (listA std byI σ s).1 = true) : ∃ vs, PSl W v vs ((listA std byI σ s).2.map toBs) := by
  unfold listA at hok ⊢
  generalize hrow : rowA std false 1 σ s = row at hok ⊢
  obtain ⟨ok, n, r⟩ := row
  simp only at hok ⊢
  cases r with
  | ints k l => cases hok
  | cells l =>
    simp only at hok ⊢
    have hp := fun vs (h : VRs ρ l vs) => parts_of hr h
    generalize hpa : partsA std byI σ l = q at hok hp ⊢
    obtain ⟨ok', m⟩ := q
    simp only [Bool.and_eq_true] at hok hp ⊢
    obtain ⟨⟨hok, hok'⟩, hsu⟩ := hok
    cases s
    case nilsl =>
      simp only [VR] at hv
      simp only [rowA, Prod.mk.injEq, Row.cells.injEq] at hrow
      obtain ⟨_, _, rfl⟩ := hrow
      cases hpa
      subst hv
      exact ⟨[], ⟨rfl, .inl ⟨rfl, rfl⟩, fun j hj => by simp at hj⟩⟩
    case sl b o n' k e z =>
      obtain ⟨c, d, o', k', hb, rfl, ho, hnk, hk, _, _⟩ := (vr_sl hv).resolve_right (fun h => by obtain ⟨_, rfl, rfl, _⟩ := h; cases hsu)
      have hc := (hr.dom _ _ _ hb).2.1
      simp only [rowA] at hrow
      cases hob : σ.get b with
      | none => rw [hob] at hrow; cases hrow; cases hok
      | some ob =>
        rw [hob] at hrow
        cases ob with
        | map m => cases hrow; cases hok
        | hid => cases hrow; cases hok
        | ints ik m e2 t => simp at hrow
        | dead =>
          simp only [Prod.mk.injEq, Row.cells.injEq] at hrow
          obtain ⟨h1, _, rfl⟩ := hrow
          cases hpa
          rw [← h1, Bool.and_eq_true, Nat.beq_eq] at hok
          obtain rfl := hok.2
          exact ⟨[], ⟨rfl, .inr ⟨c, o', k', rfl, Nat.zero_le _, hc, fun j hj => by simp at hj⟩, fun j hj => by simp at hj⟩⟩
        | cells q e2 t =>
          simp only [Prod.mk.injEq, Row.cells.injEq] at hrow
          obtain ⟨h1, _, h2⟩ := hrow
          rw [← h1] at hok
          simp only [Bool.and_eq_true, Nat.ble_eq, Nat.mul_one] at hok h2
          by_cases hn : n' = 0
          · subst hn
            rw [List.take_zero] at h2
            subst h2
            cases hpa
            exact ⟨[], ⟨rfl, .inr ⟨c, o', k', rfl, Nat.zero_le _, hc, fun j hj => by simp at hj⟩, fun j hj => by simp at hj⟩⟩
          have ho := ho (by omega)
          subst ho
          have hll : l.length = n' := by rw [← h2, List.length_take, List.length_drop]; omega
          have hex : ∀ j, j < n' → ∃ u, W.cell? ⟨c, o + d.1 + j, none⟩ = some u ∧ ∀ a, l[j]? = some a → VR ρ a u := fun j hj => by
            have hq : o + j < q.length := by omega
            obtain ⟨u, hu, hur⟩ := hr.load (i := o + j) (a := q[o + j]) hb hob (by simp only [AObj.at]; exact List.getElem?_eq_getElem hq)
            refine ⟨u, by rw [show o + d.1 + j = o + j + d.1 by omega]; exact hu, fun a ha => ?_⟩
            rw [← h2, List.getElem?_take, if_pos hj, List.getElem?_drop, List.getElem?_eq_getElem hq] at ha
            cases ha; exact hur
          obtain ⟨vs, hvl, hvs⟩ : ∃ vs : List Value, vs.length = n' ∧ ∀ j, j < n' → W.cell? ⟨c, o + d.1 + j, none⟩ = some (atV vs j) ∧ ∀ a, l[j]? = some a → VR ρ a (atV vs j) := by
            refine ⟨(List.range n').map fun j => (W.cell? ⟨c, o + d.1 + j, none⟩).getD undef, by simp, fun j hj => ?_⟩
            obtain ⟨u, hu, hua⟩ := hex j hj
            have : atV ((List.range n').map fun j => (W.cell? ⟨c, o + d.1 + j, none⟩).getD undef) j = u := atV_get (by simp [hj, hu])
            rw [this]; exact ⟨hu, hua⟩
          have hV : VRs ρ l vs := VRs.of l vs (by rw [hvl, hll]) fun j a ha => by
            have hj : j < n' := by rw [← hll]; exact (List.getElem?_eq_some_iff.1 ha).1
            refine ⟨atV vs j, ?_, (hvs j hj).2 a ha⟩
            unfold atV
            rw [List.getD_eq_getElem?_getD, List.getElem?_eq_getElem (by omega)]; rfl
          obtain ⟨p1, p2⟩ := hp vs hV hok'
          have hpl : (m.map toBs).length = n' := by rw [← p1, hvl]
          exact ⟨vs, ⟨p1, .inr ⟨c, o + d.1, k', by rw [hpl], by rw [hpl]; omega, hc, fun j hj => (hvs j (by rw [hpl] at hj; exact hj)).1⟩, fun j hj => p2 j (by rw [hpl] at hj; rw [hvl]; exact hj)⟩⟩
    all_goals (simp only [rowA, Prod.mk.injEq] at hrow; obtain ⟨h1, _⟩ := hrow; rw [← h1] at hok; cases hok)
end Go.Proofs.YtcbfjmjphpoimaaGreatDoor.V2
namespace Go.Proofs.YtcbfjmjphpoimaaGreatDoor.V2
open Go
open Go.RowKit
noncomputable def globA (σ : AH) (g : Nat) (t : List Int → Bool) : Bool := match σ.get g with
  | some ob => match ob with
    | .ints k l _ _ => match k with
      | .u32 => t l
      | _ => false
    | _ => false
  | none => false
theorem glob_of {ρ : Ren} {σ : AH} {W : World} (hr : HR ρ σ W) {g n : Nat} {T : List UInt32} {t : List Int → Bool} (ht : ∀ l, t l = true → l = wI T) (hn : T.length = n) (hg : ∃ s, ρ g = some (g, (0, s))) (h : globA σ g t = true) : ∀ i, i < n → W.cell? ⟨g, i, none⟩ = some (.int .u32 (N32 (at32 T i))) := by
  unfold globA at h
  split at h
  case h_2 => cases h
  rename_i ob hob
  split at h
  case h_2 => cases h
  rename_i k l e tl
  split at h
  case h_2 => cases h
  have hl := ht _ h
  subst hl
  obtain ⟨s, hs⟩ := hg
  intro i hi
  have hi2 : i < (wI T).length := by rw [wI_length, hn]; exact hi
  obtain ⟨u, hu, hur⟩ := hr.load (i := i) (a := .int .u32 (wI T)[i]) hs hob (by simp only [AObj.at]; rw [List.getElem?_eq_getElem hi2]; rfl)
  simp only [VR] at hur
  subst hur
  have hu : W.cell? ⟨g, i, none⟩ = _ := hu
  rw [hu]
  have := wI_getD T i
  rw [List.getD_eq_getElem?_getD, List.getElem?_eq_getElem hi2] at this
  rw [← this]; rfl
def isS (l : List Int) : Bool := decide (l = wI S0)
def isK (l : List Int) : Bool := decide (l = wI KK)
def hmI (k l : List Int) : List Int := bI (hmB (toBs k) (toBs l))
theorem flatten_toBs (ps : List (List Int)) : (ps.map toBs).flatten = toBs ps.flatten := by
  unfold toBs
  induction ps with
  | nil => rfl
  | cons p ps ih => rw [List.map_cons, List.flatten_cons, List.flatten_cons, List.map_append, ih]
theorem vr_bytes {ρ : Ren} (l : List UInt8) : VR ρ (.ints .u8 (bI l)) (.agg (c8 l)) := by
  unfold VR bI c8 c8l
  rw [List.map_map]; rfl
theorem vrs_two {ρ : Ren} {a b : AV} {vs : List Value} (h : VRs ρ [a, b] vs) : ∃ v u, vs = [v, u] ∧ VR ρ a v ∧ VR ρ b u := by
  obtain ⟨v, m, rfl, hv, u, m', rfl, hu, hm⟩ := h
  have hm : m' = [] := hm
  subst hm; exact ⟨v, u, rfl, hv, hu⟩
end Go.Proofs.YtcbfjmjphpoimaaGreatDoor.V2
namespace Go.Proofs.YtcbfjmjphpoimaaGreatDoor.V2
open Go
open Go.RowKit
theorem cell_row {w : World} {b i : Nat} {v : Value} (h : w.cell? ⟨b, i, none⟩ = some v) : ∃ c e fr, w.heap[b]? = some (.cells c e fr) ∧ c[i]? = some v := by
  unfold World.cell? at h
  split at h
  · rename_i c e fr hh
    exact ⟨c, e, fr, hh, by simpa using h⟩
  · cases h
noncomputable def memL : List AObj → Nat → T AObj → T AObj
  | [], _, t => t
  | a :: l, i, t => memL l (i + 1) (t.put i a)
theorem memL_get : ∀ (l : List AObj) (i : Nat) (t : T AObj) (m : Nat), i + l.length ≤ 1048576 → (memL l i t).get m = if i ≤ m ∧ m < i + l.length then l[m - i]? else t.get m
  | [], i, t, m, _ => by rw [if_neg (by intro h; simp at h; omega)]; rfl
  | a :: l, i, t, m, h => by
    simp only [List.length_cons] at h
    show (memL l (i + 1) (t.put i a)).get m = _
    rw [memL_get l (i + 1) _ m (by omega), T.get_put _ _ _ _ (by omega)]
    by_cases h1 : i + 1 ≤ m ∧ m < i + 1 + l.length
    · rw [if_pos h1, if_pos (by simp; omega), show m - i = (m - (i + 1)) + 1 by omega, List.getElem?_cons_succ]
    · rw [if_neg h1]
      by_cases hm : m = i
      · subst hm; rw [if_pos rfl, if_pos (by simp)]; simp
      · rw [if_neg hm, if_neg (by simp; omega)]
noncomputable def hL (l : List AObj) : AH := ⟨l.length, memL l 0 .leaf⟩
theorem hL_get {l : List AObj} (h : l.length ≤ 1000000) (b : Nat) : (hL l).get b = l[b]? := by
  show (memL l 0 .leaf).get b = _
  rw [memL_get _ _ _ _ (by omega), T.get_leaf]
  by_cases hb : b < l.length
  · rw [if_pos (by omega)]; simp
  · rw [if_neg (by omega), List.getElem?_eq_none (by omega)]
def rL (l : List (Option (Nat × (Nat × Nat)))) : Ren := fun b => (l[b]?).getD none
theorem hr_ro {w : World} {l : List AObj} {r : List (Option (Nat × (Nat × Nat)))} (hl : l.length ≤ 1000000) (hlr : r.length = l.length) (hro : ∀ o ∈ l, o.isSh = true)
    (h : ∀ (b c : Nat) (d : Nat × Nat) (o : AObj), r[b]? = some (some (c, d)) → l[b]? = some o → c < w.heap.size ∧ OR (rL r) d o w.heap[c]?) : HR (rL r) (hL l) w := by
  have hlt : ∀ {b x}, rL r b = some x → b < l.length := fun {b x} hb => by
    unfold rL at hb
    rw [← hlr]
    cases hq : r[b]? with
    | none => rw [hq] at hb; cases hb
    | some y => exact (List.getElem?_eq_some_iff.1 hq).1
  refine ⟨hl, fun b hb => ?_, fun b c d hb => ?_, fun b b' c d d' h1 h2 hne => ?_⟩
  · rw [hL_get hl, List.getElem?_eq_none hb]
  · have hbl := hlt hb
    have hb2 : r[b]? = some (some (c, d)) := by
      unfold rL at hb
      cases hq : r[b]? with
      | none => rw [hq] at hb; cases hb
      | some y => rw [hq] at hb; exact congrArg some hb
    obtain ⟨e1, e2⟩ := h b c d l[b] hb2 (List.getElem?_eq_getElem hbl)
    exact ⟨hbl, e1, _, (hL_get hl b).trans (List.getElem?_eq_getElem hbl), e2⟩
  · have k1 := hlt h1
    have k2 := hlt h2
    exact .inr (.inr ⟨l[b], l[b'], (hL_get hl b).trans (List.getElem?_eq_getElem k1), (hL_get hl b').trans (List.getElem?_eq_getElem k2), hro _ (List.getElem_mem k1), hro _ (List.getElem_mem k2)⟩)
theorem or_ro {ρ : Ren} {w : World} {b off D : Nat} {k : IntKind} {l : List Int} {e : TypeId} (hD : l.length + off ≤ D) (h : ∀ i, i < l.length → w.cell? ⟨b, off + i, none⟩ = some (.int k (l.getD i 0))) : OR ρ (off, D) (.ints k l e .ro) w.heap[b]? := ⟨fun _ => by
  refine ⟨hD, fun hl => ?_⟩
  have hl : 0 < l.length := hl rfl
  obtain ⟨c, t, fr, hb, _⟩ := cell_row (h 0 hl)
  have hat : ∀ i, i < l.length → c[i + off]? = some (.int k (l.getD i 0)) := fun i hi => by
    obtain ⟨c', t', fr', hb', hc⟩ := cell_row (h i hi)
    rw [hb] at hb'; cases hb'
    rw [Nat.add_comm]; exact hc
  refine ⟨c, t, fr, hb, (fun hh => by cases hh), ?_, hD, fun i a hi => ?_⟩
  · have := (Array.getElem?_eq_some_iff.1 (hat (l.length - 1) (by omega))).1
    show l.length + off ≤ c.size
    omega
  · simp only [AObj.at, Option.map_eq_some_iff] at hi
    obtain ⟨m, hm, rfl⟩ := hi
    have hil := (List.getElem?_eq_some_iff.1 hm).1
    refine ⟨_, hat i hil, ?_⟩
    show Value.int k (l.getD i 0) = Value.int k m
    rw [List.getD_eq_getElem?_getD, hm]; rfl, fun l e => by cases e⟩
theorem Below.ofStp {ρ' : Ren} {l : List AObj} {r : List (Option (Nat × (Nat × Nat)))} {w W' : World} {σ' : AH} (hl : l.length ≤ 1000000) (hr : HR (rL r) (hL l) w) (hro : ∀ o ∈ l, o.isRo = true) (h : Stp (hL l).next (rL r) (hL l) w ρ' σ' W') : Below w.heap.size w W' := by
  refine ⟨h.os, h.tape, h.output, h.size, fun c hc => ?_⟩
  by_cases hm : ∃ b d, rL r b = some (c, d)
  · obtain ⟨b, d, hm⟩ := hm
    obtain ⟨k1, k2, o, k3, k4⟩ := hr.dom b c d hm
    have k5 : l[b]? = some o := by rw [← hL_get hl]; exact k3
    exact (h.ro b c d o k1 hm hc k3 (hro o (List.mem_of_getElem? k5))).2
  · exact h.frame c hc fun b d h => hm ⟨b, d, h⟩
section
variable {P : Program} {Γ : Gam} {G nt N : Nat} {ρ : Ren} {σ : AH} {W : World} {env : T AV} {a : Act} {K : AK}
theorem calls_of_aq {f : FuncId} {fn : Func} {c : Code} {xs : List ARes} {vs : List Value} {K : AV → AH → Prop} (hf : P.funcs[f]? = some fn) (hb : fn.body = some c) (hres : compR P fn.results.toList = some xs)
    (h : c.wpIn (fen none) 0 P (AQ G fn.ntmps σ.next W.heap.size ρ σ W (fun e env σ' => (match e with | .normal => True | .ret => True | _ => False) ∧ (resL std env σ' xs).1 = true ∧ K (retV (resL std env σ' xs).2) σ')) { tmps := vs.toArray ++ Array.replicate (fn.ntmps - vs.toArray.size) undef, defers := [] } W) :
    Calls P f vs.toArray W fun e W' => ∃ v av σ' ρ', e = .returned v ∧ K av σ' ∧ HR ρ' σ' W' ∧ Stp σ.next ρ σ W ρ' σ' W' ∧ VR ρ' av v := by
  refine callsIn_wide.1 (callsIn_of_wp_marks (n := 0) hf hb trivial (wpIn_mono (F := fen none) h (fun e a W' ⟨ρ', env', σ', ⟨h1, h2, h3⟩, h4, h5, h6, h7, h8⟩ => ?_)))
  have key := leaves_marks (P := P) (R := fun e W' => ∃ v av σ' ρ', e = .returned v ∧ K av σ' ∧ HR ρ' σ' W' ∧ Stp σ.next ρ σ W ρ' σ' W' ∧ VR ρ' av v) (fn := fn) (tmps := a.tmps) (fun W2 k1 k2 => by
    obtain ⟨v, e1, e2⟩ := results_run (P := P) k1 h5 hres h2
    exact ⟨v, e1, v, _, σ', ρ', rfl, h3, k1, k2, e2⟩) a.defers W' h7 h8 h4 h6
  cases e
  case normal => exact key
  case ret => exact key
  all_goals exact h1.elim
end
def cdD : Nat → Code → Code
  | 0, .seq _ b => b
  | n + 1, .seq _ b => cdD n b
  | _, c => c
def aT : Nat → ACode → ACode
  | 0, .seq a _ => a
  | n + 1, .seq a b => .seq a (aT n b)
  | _, _ => .bad
def aD : Nat → ACode → ACode
  | 0, .seq _ b => b
  | n + 1, .seq _ b => aD n b
  | _, _ => .bad
def Good (P : Program) (G nt N B : Nat) (ρ0 : Ren) (σ0 : AH) (W0 : World) (Q : Exit → Act → World → Prop) (env : T AV) (σ : AH) (c : Code) : Prop :=
  ∀ ρ W a, HR ρ σ W → ER G nt ρ env a → Stp N ρ0 σ0 W0 ρ σ W → (Mks ρ W a.defers ∧ ∀ r, dmark r ∈ a.defers → B ≤ r) → c.wpIn (fen none) 0 P Q a W
theorem Good.wk {P : Program} {G nt N B : Nat} {ρ0 : Ren} {σ0 : AH} {W0 : World} {Q : Exit → Act → World → Prop} {env env' : T AV} {σ σ' : AH} {c : Code} (h : Wk G nt N env σ env' σ') (g : Good P G nt N B ρ0 σ0 W0 Q env' σ' c) : Good P G nt N B ρ0 σ0 W0 Q env σ c := fun ρ W a hr he hs hd => by
  obtain ⟨ρ', h1, h2, h3, h4, h5, h6⟩ := h ρ W hr
  exact g ρ' W a h1 (h2 a he) (hs.weak h3 h4 h5 h6) ⟨hd.1.weak h4, hd.2⟩
theorem RR.next_nm {r : RR} {f : T AV → AH → RR} {env : T AV} {σ : AH} (h : r.next f = .ok .normal env σ) : ∃ e1 s1, r = .ok .normal e1 s1 ∧ f e1 s1 = .ok .normal env σ := by
  cases r with
  | bad => cases h
  | ok e e1 s1 => cases e <;> first | exact ⟨e1, s1, rfl, h⟩ | cases h
section
variable {P : Program} {Γ : Gam} {pu : FuncId → Bool} {G nt N B fuel : Nat} {ρ0 : Ren} {σ0 : AH} {W0 : World} {Q : Exit → Act → World → Prop}
def isFor : ACode → Bool
  | .mfor _ _ _ _ _ => true
  | _ => false
def noFor : Nat → ACode → Bool
  | 0, .seq a _ => !isFor a
  | n + 1, .seq a b => !isFor a && noFor n b
  | _, _ => false
theorem compC_seq {c : Code} {x' y' : ACode} (h : compC P G nt pu c = some (.seq x' y')) (hx : isFor x' = false) : ∃ x y, c = .seq x y ∧ compC P G nt pu x = some x' ∧ compC P G nt pu y = some y' := by
  cases c with
  | seq x y =>
    obtain ⟨a, b, h1, h2, h3⟩ := inv_seq h
    rcases mkSeq_cases (P := P) (G := G) (nt := nt) (x := x) (y := y) (x' := a) (y' := b) with e | ⟨z, hz, e⟩ | ⟨y1, y2, y1', y2', z, _, _, hz, e⟩
    · rw [e] at h3; cases h3; exact ⟨x, y, rfl, h1, h2⟩
    · rw [e] at h3
      subst h3
      obtain ⟨_, _, _, _, _, _, _, _, _, h5⟩ := mkFor_spec hz
      rcases h5 with ⟨q, _, h5⟩ | h5 <;> cases h5
    · rw [e] at h3
      cases h3
      obtain ⟨_, _, _, _, _, _, _, _, _, h5⟩ := mkFor_spec hz
      rcases h5 with ⟨q, _, rfl⟩ | rfl <;> cases hx
  | block id c => obtain ⟨_, _, e⟩ := inv_block h; cases e
  | loop c => obtain ⟨_, _, e⟩ := inv_loop h; cases e
  | cond c a b =>
    unfold compC at h
    split at h
    · cases h
    · split at h <;> cases h
  | region id ops d =>
    cases d
    · unfold compC at h; split at h <;> cases h
    · unfold compC at h; split at h <;> cases h
  | rangeFunc f ps a b =>
    unfold compC at h
    split at h
    · cases h
    · split at h
      · cases h
      · cases hq : (ps.toList.all fun p => Nat.blt p nt) <;> rw [hq] at h <;> cases h
  | _ => cases h
theorem Good.one (st : Start [] N B ρ0 σ0 W0) (hm : P.follows .mixedOrders = true) (hΓ : GamOk P G Γ []) (hpu : PuOk Γ pu) {x y : Code} {x' : ACode} {env env1 : T AV} {σ σ1 : AH} (hx : compC P G nt pu x = some x') (hrun : run std Γ N fuel x' env σ = .ok .normal env1 σ1)
    (g : Good P G nt N B ρ0 σ0 W0 Q env1 σ1 y) : Good P G nt N B ρ0 σ0 W0 Q env σ (.seq x y) := fun ρ W a hr he hs hd =>
  wpIn_seq (wpIn_mono (avc_sound hm x x' hx ⟨hΓ, hpu, fun h => absurd rfl h⟩ st (fun e e' s' => e = .normal ∧ e' = env1 ∧ s' = σ1) env σ ρ W a (run_avc x' _ _ _ .normal env1 σ1 hrun ⟨rfl, rfl, rfl⟩) hr he hs hd) fun e a1 W1 ⟨ρ1, env2, σ2, ⟨q1, q2, q3⟩, p1, p2, p3, p4⟩ => by
    subst q1 q2 q3
    exact g ρ1 W1 a1 p1 p2 p3 p4)
theorem Good.cut (st : Start [] N B ρ0 σ0 W0) (hm : P.follows .mixedOrders = true) (hΓ : GamOk P G Γ []) (hpu : PuOk Γ pu) : ∀ (m : Nat) (c : Code) (c' : ACode) (env env1 : T AV) (σ σ1 : AH), noFor m c' = true → compC P G nt pu c = some c' → run std Γ N fuel (aT m c') env σ = .ok .normal env1 σ1 →
    (compC P G nt pu (cdD m c) = some (aD m c') → Good P G nt N B ρ0 σ0 W0 Q env1 σ1 (cdD m c)) → Good P G nt N B ρ0 σ0 W0 Q env σ c
  | 0, c, c', env, env1, σ, σ1, hn, hc, hrun, g => by
    cases c' with
    | seq x' y' =>
      obtain ⟨x, y, rfl, hx, hy⟩ := compC_seq hc (by simpa [noFor] using hn)
      exact Good.one st hm hΓ hpu hx hrun (g hy)
    | _ => cases hrun
  | m + 1, c, c', env, env1, σ, σ1, hn, hc, hrun, g => by
    cases c' with
    | seq x' y' =>
      have hn : (!isFor x' && noFor m y') = true := hn
      rw [Bool.and_eq_true] at hn
      obtain ⟨x, y, rfl, hx, hy⟩ := compC_seq hc (by simpa using hn.1)
      obtain ⟨e2, s2, h1, h2⟩ := RR.next_nm (show (run std Γ N fuel x' env σ).next (run std Γ N fuel (aT m y')) = _ from hrun)
      exact Good.one st hm hΓ hpu hx h1 (Good.cut st hm hΓ hpu m y y' e2 env1 s2 σ1 hn.2 hy h2 g)
    | _ => cases hrun
theorem Good.end (st : Start [] N B ρ0 σ0 W0) (hm : P.follows .mixedOrders = true) (hΓ : GamOk P G Γ []) (hpu : PuOk Γ pu) {c : Code} {c' : ACode} {K : AK} {env env1 : T AV} {σ σ1 : AH} (hc : compC P G nt pu c = some c') (hrun : run std Γ N fuel c' env σ = .ok .ret env1 σ1) (hK : K .ret env1 σ1) :
    Good P G nt N B ρ0 σ0 W0 (AQ G nt N B ρ0 σ0 W0 K) env σ c := fun ρ W a hr he hs hd => avc_sound hm c c' hc ⟨hΓ, hpu, fun h => absurd rfl h⟩ st K env σ ρ W a (run_avc c' _ _ _ .ret env1 σ1 hrun hK) hr he hs hd
end
def rn (old : List Nat) (b : Nat) : Nat := (old[b]?).getD 0
def okN (old : List Nat) (n : Nat) (l : List (Nat × AV)) (L : List (Nat × AObj)) : Bool :=
  Nat.ble n 1000000 && Nat.ble 5 n && keepN (rn old) (L.map (·.1)) 5 && injR (rn old) (L.map (·.1)) && (List.range n).all (L.map (·.1)).contains && (l.all fun p => below n p.2) && (L.all fun p => belowO n p.2) && (l.all fun p => Nat.blt p.1 1048576) && (L.all fun p => Nat.blt p.1 n)
end Go.Proofs.YtcbfjmjphpoimaaGreatDoor.V2
namespace Go.Proofs.YtcbfjmjphpoimaaGreatDoor.V2
open Go
noncomputable section
mutual
def mapF (r : Nat → Nat) : FV → FV
  | .n k m => .n k m
  | .z k m => .z k m
  | .b t => .b t
  | .s c => .s c
  | .p b o => .p (r b) o
  | .sl b o n k e z => .sl (r b) o n k e z
  | .m b => .m (r b)
  | .y b => .y (r b)
  | .fn f x y => .fn f (mapFs r x) (mapFs r y)
  | .ifc t v => .ifc t (mapF r v)
  | .agg l => .agg (mapFs r l)
  | .bs c => .bs c
  | .ints k l => .ints k l
  | .tup l => .tup (mapFs r l)
  | .o j => .o j
def mapFs (r : Nat → Nat) : List FV → List FV
  | [] => []
  | v :: l => mapF r v :: mapFs r l
end
mutual
theorem mapF_α (r : Nat → Nat) : ∀ v, αV (mapF r v) = mapV r (αV v)
  | .n _ _ => rfl
  | .z _ _ => rfl
  | .b _ => rfl
  | .s _ => rfl
  | .p _ _ => rfl
  | .sl _ _ _ _ _ _ => rfl
  | .m _ => rfl
  | .y _ => rfl
  | .fn f x y => by simp only [mapF, αV, mapV, mapFs_α r x, mapFs_α r y]
  | .ifc t v => by simp only [mapF, αV, mapV, mapF_α r v]
  | .agg l => by simp only [mapF, αV, mapV, mapFs_α r l]
  | .bs _ => rfl
  | .ints _ _ => rfl
  | .tup l => by simp only [mapF, αV, mapV, mapFs_α r l]
  | .o j => by cases j <;> rfl
theorem mapFs_α (r : Nat → Nat) : ∀ l, αL (mapFs r l) = mapVs r (αL l)
  | [] => rfl
  | v :: l => by simp only [mapFs, αL, mapVs, mapF_α r v, mapFs_α r l]
end
def mapP (r : Nat → Nat) : List (FV × FV) → List (FV × FV)
  | [] => []
  | p :: l => (mapF r p.1, mapF r p.2) :: mapP r l
def mapFO (r : Nat → Nat) : FObj → FObj
  | .dead => .dead
  | .cells l e t => .cells (mapFs r l) e t
  | .bs c e t => .bs c e t
  | .ints k l e t => .ints k l e t
  | .map l => .map (mapP r l)
  | .hid => .hid
theorem mapP_α (r : Nat → Nat) : ∀ l, αP (mapP r l) = (αP l).map fun p => (mapV r p.1, mapV r p.2)
  | [] => rfl
  | p :: l => by simp only [mapP, αP, List.map_cons, mapF_α, mapP_α r l]
theorem mapFO_α (r : Nat → Nat) (o : FObj) : αO (mapFO r o) = mapO r (αO o) := by
  cases o with
  | cells l e t => simp only [mapFO, αO, mapO, mapFs_α]
  | map l => simp only [mapFO, αO, mapO, mapP_α]
  | _ => rfl
/-! What is laid at the begin. -/
def αl (l : List (Nat × FV)) : List (Nat × AV) := l.map fun p => (p.1, αV p.2)
def αm (L : List (Nat × FObj)) : List (Nat × AObj) := L.map fun p => (p.1, αO p.2)
def mkE (l : List (Nat × FV)) : (E → FR) → FR := List.rec (motive := fun _ => (E → FR) → FR) (fun k => k e0) (fun p _ ih k => ih fun e => Prod.rec (fun t v => wrE t e v k) p) l
def mkM (L : List (Nat × FObj)) : (T FObj → FR) → FR := List.rec (motive := fun _ => (T FObj → FR) → FR) (fun k => k .leaf) (fun p _ ih k => ih fun m => Prod.rec (fun b o => ts 20 m b o k) p) L
def ofMF : List (Nat × FObj) → T FObj
  | [] => .leaf
  | p :: l => (ofMF l).put p.1 p.2
theorem ofMF_α : ∀ L : List (Nat × FObj), (ofMF L).map αO = ofM (αm L)
  | [] => rfl
  | p :: l => by
    show ((ofMF l).put p.1 p.2).map αO = (ofM (αm l)).put p.1 (αO p.2)
    rw [T.map_put, ofMF_α l]
theorem mkM_eq : ∀ (L : List (Nat × FObj)) (k : T FObj → FR), mkM L k = k (ofMF L)
  | [], k => rfl
  | p :: l, k => by
    show (mkM l fun m => ts 20 m p.1 p.2 k) = _
    rw [mkM_eq l, ts_eq]; rfl
theorem mkE_ok {nt : Nat} {dr : List Nat} : ∀ (l : List (Nat × FV)) (k : E → FR), (l.all fun p => Nat.blt p.1 1024) = true → ∃ e, Ee nt dr e (ofL (αl l)) ∧ mkE l k = k e
  | [], k, _ => ⟨e0, fun t _ => by rw [e0_at]; rfl, rfl⟩
  | p :: l, k, h => by
    rw [List.all_cons, Bool.and_eq_true, Nat.blt_eq] at h
    obtain ⟨e, h1, h2⟩ := mkE_ok (nt := nt) (dr := dr) l (fun e => wrE p.1 e p.2 k) h.2
    obtain ⟨e', h3, h4⟩ := wr_ok (m := []) (v := p.2) (k := k) h1.m h.1
    refine ⟨e', h3.e, ?_⟩
    show (mkE l fun e => wrE p.1 e p.2 k) = _
    rw [h2, h4]
/-! What is asked at the end. -/
def chT : List FObj → T FObj
  | [] => .leaf
  | o :: l => .node (some o) .leaf (chT l)
theorem chT_inj : ∀ {a b : List FObj}, chT a = chT b → a = b
  | [], [], _ => rfl
  | [], _ :: _, h => by cases h
  | _ :: _, [], h => by cases h
  | x :: a, y :: b, h => by
    simp only [chT, T.node.injEq, Option.some.injEq, true_and] at h
    rw [h.1, chT_inj h.2]
def gMs (bs : List Nat) (σ : FH) (k : List FObj → FR) : FR := List.rec (motive := fun _ => (List FObj → FR) → FR) (fun k => k []) (fun b _ ih k => gM σ b fun o => ih fun l => k (o :: l)) bs k
theorem gMs_ok {σ : FH} : ∀ (bs : List Nat) (k : List FObj → FR), gMs bs σ k ≠ .bad → ∃ os, (bs.map fun b => (αH σ).get b) = os.map (fun o => some (αO o)) ∧ gMs bs σ k = k os
  | [], k, _ => ⟨[], rfl, rfl⟩
  | b :: bs, k, h => by
    have h : (gM σ b fun o => gMs bs σ fun l => k (o :: l)) ≠ .bad := h
    show ∃ os, _ ∧ (gM σ b fun o => gMs bs σ fun l => k (o :: l)) = _
    obtain ⟨o, _, h2, h3⟩ := gM_cases h
    rw [h3] at h ⊢
    obtain ⟨os, h4, h5⟩ := gMs_ok bs _ h
    exact ⟨o :: os, by rw [List.map_cons, h2, h4]; rfl, h5⟩
def rfS1 (nt : Nat) (dr : List Nat) (ts : List Nat) : List Rd := ts.map fun t => rdM nt dr [] (.slot t)
def endK (rs : List Rd) (bs : List Nat) : K2 := fun e σ => rdsK rs e fun vs => gMs bs σ fun os => .ok (.tup vs) ⟨0, chT os⟩
def runQ (tq : T (Phi → HF)) (b : FuncId → HF) (q : Cd) (l : List (Nat × FV)) (L : List (Nat × FObj)) (n : Nat) (kn kr : K2) : FR := fT (fun x c => c x) tq fun tab => mkE l fun e => mkM L fun m => q (PhiG tab 40 b fun _ _ _ _ => .bad) 5 kn kr kXe e ⟨n, m⟩
theorem runQ_eq {tq : T (Phi → HF)} {b : FuncId → HF} {q : Cd} {l : List (Nat × FV)} {L : List (Nat × FObj)} {n : Nat} {kn kr : K2} {nt : Nat} {dr : List Nat} (hl : (l.all fun p => Nat.blt p.1 1024) = true) :
    ∃ e, Ee nt dr e (ofL (αl l)) ∧ runQ tq b q l L n kn kr = q (PhiG tq 40 b fun _ _ _ _ => .bad) 5 kn kr kXe e ⟨n, ofMF L⟩ := by
  unfold runQ
  rw [fT_eq fun _ _ => rfl]
  obtain ⟨e, h1, h2⟩ := mkE_ok (nt := nt) (dr := dr) l (fun e => mkM L fun m => q (PhiG tq 40 b fun _ _ _ _ => .bad) 5 kn kr kXe e ⟨n, m⟩) hl
  exact ⟨e, h1, by rw [h2, mkM_eq]⟩
theorem αH_ofMF (n : Nat) (L : List (Nat × FObj)) : αH ⟨n, ofMF L⟩ = ⟨n, ofM (αm L)⟩ := by unfold αH; rw [ofMF_α]
def distN : List Nat → Bool
  | [] => true
  | a :: l => !hasN a l && distN l
theorem hasN_of {k : Nat} : ∀ {l : List Nat}, k ∈ l → hasN k l = true
  | [], h => by cases h
  | a :: m, h => by
    unfold hasN
    rcases List.mem_cons.1 h with h | h
    · rw [h, Nat.beq_refl]; rfl
    · cases Nat.beq a k
      · exact hasN_of h
      · rfl
theorem has_ofL : ∀ {l : List (Nat × AV)}, distN (l.map (·.1)) = true → (l.all fun p => Nat.blt p.1 1048576) = true → ∀ {l0 : List (Nat × AV)}, (∀ p ∈ l0, p ∈ l) → Has (ofL l) l0 := by
  intro l hd hs
  have key : ∀ p ∈ l, (ofL l).get p.1 = some p.2 := by
    induction l with
    | nil => intro p hp; cases hp
    | cons q l ih =>
      intro p hp
      rw [List.all_cons, Bool.and_eq_true, Nat.blt_eq] at hs
      simp only [List.map_cons, distN, Bool.and_eq_true, Bool.not_eq_true'] at hd
      show ((ofL l).put q.1 q.2).get p.1 = _
      rw [T.get_put _ _ _ _ hs.1]
      rcases List.mem_cons.1 hp with rfl | hp
      · rw [if_pos rfl]
      · have hne : p.1 ≠ q.1 := fun e => by
          have : hasN q.1 (l.map (·.1)) = true := by
            have hm : q.1 ∈ l.map (·.1) := by rw [← e]; exact List.mem_map_of_mem hp
            exact hasN_of hm
          rw [this] at hd; cases hd.1
        rw [if_neg hne]; exact ih hd.2 hs.2 p hp
  intro l0
  induction l0 with
  | nil => intro _; trivial
  | cons p l0 ih =>
    intro h
    refine ⟨⟨key p (h p List.mem_cons_self), ?_⟩, ih fun q hq => h q (List.mem_cons_of_mem _ hq)⟩
    exact List.all_eq_true.1 hs p (h p List.mem_cons_self)
section
variable {P : Program} {Γ0 : Gam} {pu : FuncId → Bool} {nt B fuel : Nat} {ρ0 : Ren} {σ0 : AH} {W0 : World} {Q : Exit → Act → World → Prop}
theorem Good.le {G N : Nat} {env env' : T AV} {σ : AH} {c : Code} (h : Le env env') (g : Good P G nt N B ρ0 σ0 W0 Q env' σ c) : Good P G nt N B ρ0 σ0 W0 Q env σ c := fun ρ W a hr he hs hd => g ρ W a hr (he.le h) hs hd
def lowL (L : List (Nat × AObj)) (b : Nat) : Option AObj := (L.find? fun p => Nat.beq p.1 b).map (·.2)
theorem low_of {σ : AH} {old : List Nat} {n : Nat} {L : List (Nat × AObj)} (hk : keepN (rn old) (L.map (·.1)) 5 = true) (hM : Had (rn old) σ n L) (h : ((List.range 5).map fun b => (ofM L).get b) = (List.range 5).map fun b => (lowL L b).map (mapO (rn old))) : ∀ b, b < 5 → (ofM L).get b = σ.get b := fun b hb => by
  have h1 : (ofM L).get b = (lowL L b).map (mapO (rn old)) := by
    have := congrArg (fun l => l[b]?) h
    simpa [hb] using this
  rw [h1]
  have h2 := List.all_eq_true.1 hk b (List.mem_range.2 hb)
  rw [Bool.and_eq_true, Nat.beq_eq, List.contains_iff_mem, List.mem_map] at h2
  obtain ⟨h3, p, hp, h4⟩ := h2
  unfold lowL
  cases hf : L.find? fun p => Nat.beq p.1 b with
  | none => exact absurd (by rw [h4]; exact Nat.beq_refl b) (List.find?_eq_none.1 hf p hp)
  | some q =>
    have h5 : q.1 = b := Nat.eq_of_beq_eq_true (List.find?_some (p := fun p : Nat × AObj => Nat.beq p.1 b) hf)
    have h6 := (hM.mem q (List.mem_of_find?_eq_some hf)).2
    rw [h5, h3] at h6
    rw [h6]; rfl
theorem Good.pieceQ {tab : T Ent} {tq : T (Phi → HF)} {b : FuncId → HF} (st : Start [] 5 B ρ0 σ0 W0) (hm : P.follows .mixedOrders = true) (hΓ : GamOk P 5 (Gam.grow std fuel tab Sp.none Γ0 40) []) (hpu : PuOk (Gam.grow std fuel tab Sp.none Γ0 40) pu)
    (ht : TabQ fuel tab tq) (hb : ∀ f, HOk (b f) (Γ0.fn f)) {m : Nat} {c : Code} {c' : ACode} {dr : List Nat} {q : Cd} {n0 n : Nat} {l0 l : List (Nat × FV)} {L0 L : List (Nat × FObj)} {old : List Nat} {rs : List Rd}
    (hn : noFor m c' = true) (hc : compC P 5 nt pu c = some c') (hq : thrK fuel nt dr (aT m c') [] cS = q) (hl0 : (l0.all fun p => Nat.blt p.1 1024) = true) (hrs : rfS1 nt dr (l.map (·.1)) = rs)
    (hrun : runQ tq b q l0 L0 n0 (endK rs (L.map fun p => rn old p.1)) kX = .ok (.tup (l.map fun p => mapF (rn old) p.2)) ⟨0, chT (L.map fun p => mapFO (rn old) p.2)⟩)
    (h1 : okN old n (αl l) (αm L) = true) (h2 : distN (l.map (·.1)) = true) (h3 : ((List.range 5).map fun b => (ofM (αm L)).get b) = (List.range 5).map fun b => (lowL (αm L) b).map (mapO (rn old)))
    (g : compC P 5 nt pu (cdD m c) = some (aD m c') → Good P 5 nt 5 B ρ0 σ0 W0 Q (ofL (αl l)) ⟨n, ofM (αm L)⟩ (cdD m c)) : Good P 5 nt 5 B ρ0 σ0 W0 Q (ofL (αl l0)) ⟨n0, ofM (αm L0)⟩ c := by
  obtain ⟨e, he, hr⟩ := runQ_eq (tq := tq) (b := b) (q := q) (L := L0) (n := n0) (kn := endK rs (L.map fun p => rn old p.1)) (kr := kX) (nt := nt) (dr := dr) hl0
  rw [hr] at hrun
  have hne : q (PhiG tq 40 b fun _ _ _ _ => .bad) 5 (endK rs (L.map fun p => rn old p.1)) kX kXe e ⟨n0, ofMF L0⟩ ≠ .bad := by rw [hrun]; exact fun h => by cases h
  have hΦ : PhiOk (PhiG tq 40 b fun _ _ _ _ => .bad) (Gam.grow std fuel tab Sp.none Γ0 40) := PhiG_ok ht 40 hb fun j l σ k => Sm.bad
  subst hq
  obtain ⟨x, env', e', σ', a1, _, a3⟩ := thrK_ok (aT m c') [] cS _ _ hΦ 5 _ _ _ e ⟨n0, ofMF L0⟩ _ he.m hne
  cases x with
  | ret => rw [a3.2] at hne; exact absurd rfl hne
  | exit i => rw [a3.2] at hne; exact absurd rfl hne
  | normal =>
    obtain ⟨m', a4, a5⟩ := a3
    rw [a5] at hrun hne
    have hne : (rdsK rs e' fun vs => gMs (L.map fun p => rn old p.1) σ' fun os => FR.ok (.tup vs) ⟨0, chT os⟩) ≠ .bad := hne
    have hrun : (rdsK rs e' fun vs => gMs (L.map fun p => rn old p.1) σ' fun os => FR.ok (.tup vs) ⟨0, chT os⟩) = _ := hrun
    subst hrs
    have e1 : rfS1 nt dr (l.map (·.1)) = ((l.map (·.1)).map Ref.slot).map (rdM nt dr []) := by unfold rfS1; exact (List.map_map (f := Ref.slot) (g := rdM nt dr []) (l := l.map (·.1))).symm
    rw [e1] at hne hrun
    obtain ⟨vs, b1, b2⟩ := (rdM_ok a4.e.m).list _ _ hne
    rw [b2] at hne hrun
    obtain ⟨os, b3, b4⟩ := gMs_ok _ _ hne
    rw [b4] at hrun
    simp only [FR.ok.injEq, FV.tup.injEq, FH.mk.injEq, true_and] at hrun
    have b5 := hrun.1
    have b6 := chT_inj hrun.2
    subst b5 b6
    rw [αH_ofMF] at a1
    have k1 : ∀ p ∈ l, evS env' (.slot p.1) = mapV (rn old) (αV p.2) := fun p hp => by
      rw [αL_map, List.map_map, List.map_map, List.map_map] at b1
      have := List.map_inj_left.1 b1 p hp
      simp only [Function.comp] at this
      rw [this, mapF_α]
    have k2 : ∀ p ∈ L, (αH σ').get (rn old p.1) = some (mapO (rn old) (αO p.2)) := fun p hp => by
      rw [List.map_map, List.map_map] at b3
      have := List.map_inj_left.1 b3 p hp
      simp only [Function.comp] at this
      rw [this, mapFO_α]
    unfold okN at h1
    simp only [Bool.and_eq_true] at h1
    obtain ⟨⟨⟨⟨⟨⟨⟨⟨c1, c2⟩, c3⟩, c4⟩, c5⟩, c6⟩, c7⟩, c8⟩, c9⟩ := h1
    have hHad : Had (rn old) (αH σ') n (αm L) := by
      have : ∀ L' : List (Nat × FObj), (∀ p ∈ L', p ∈ L) → ((αm L').all fun p => Nat.blt p.1 n) = true → Had (rn old) (αH σ') n (αm L') := by
        intro L'
        induction L' with
        | nil => intro _ _; trivial
        | cons p L' ih =>
          intro hs ha
          have ha : (Nat.blt p.1 n && (αm L').all fun p => Nat.blt p.1 n) = true := ha
          rw [Bool.and_eq_true] at ha
          exact ⟨⟨ha.1, k2 p (hs p List.mem_cons_self)⟩, ih (fun q hq => hs q (List.mem_cons_of_mem _ hq)) ha.2⟩
      exact this L (fun _ h => h) c9
    let l' : List (Nat × AV) := (αl l).map fun p => (p.1, mapV (rn old) p.2)
    have hmem : ∀ t v, (t, v) ∈ l' → evS env' (.slot t) = v := fun t v h => by
      obtain ⟨p, hp, hpe⟩ := List.mem_map.1 h
      obtain ⟨p0, hp0, hp0e⟩ := List.mem_map.1 hp
      subst hp0e
      cases hpe
      exact k1 p0 hp0
    have hsm : (l'.all fun p => Nat.blt p.1 1048576) = true := by
      rw [List.all_eq_true] at c8 ⊢
      intro p hp
      obtain ⟨p0, hp0, rfl⟩ := List.mem_map.1 hp
      exact c8 p0 hp0
    have hle : Le env' (ofL l') := fun t v ht => (hmem t v (ofL_get l' t v (fun p hp => List.all_eq_true.1 hsm p hp) ht)).symm
    have hhas : Has (ofL l') l' := has_ofL (by
      have : l'.map (·.1) = l.map (·.1) := by
        show ((αl l).map fun p => (p.1, mapV (rn old) p.2)).map (·.1) = _
        unfold αl
        rw [List.map_map, List.map_map]; rfl
      rw [this]; exact h2) hsm fun _ h => h
    have hwk : Wk 5 nt 5 (ofL l') (αH σ') (ofL (αl l)) ⟨n, ofM (αm L)⟩ := Wk.lay (rn old) c1 c2 (by decide) c3 c4 hHad (low_of c3 hHad h3) c5 c6 c7 hhas
    exact Good.cut st hm hΓ hpu m c c' (ofL (αl l0)) env' ⟨n0, ofM (αm L0)⟩ (αH σ') hn hc a1 fun hc1 => Good.le hle ((g hc1).wk hwk)
theorem Good.endQ {tab : T Ent} {tq : T (Phi → HF)} {b : FuncId → HF} (st : Start [] 5 B ρ0 σ0 W0) (hm : P.follows .mixedOrders = true) (hΓ : GamOk P 5 (Gam.grow std fuel tab Sp.none Γ0 40) []) (hpu : PuOk (Gam.grow std fuel tab Sp.none Γ0 40) pu)
    (ht : TabQ fuel tab tq) (hb : ∀ f, HOk (b f) (Γ0.fn f)) {c : Code} {c' : ACode} {dr : List Nat} {q : Cd} {n0 : Nat} {l0 : List (Nat × FV)} {L0 : List (Nat × FObj)} {xs : List ARes} {rs : List Rs} {vs : List FV}
    (hc : compC P 5 nt pu c = some c') (hq : thrK fuel nt dr c' [] cS = q) (hl0 : (l0.all fun p => Nat.blt p.1 1024) = true) (hrs : xs.map (thrV nt dr) = rs)
    (hrun : runQ tq b q l0 L0 n0 kX (fun e σ => rsQ rs e σ fun vs => .ok (.tup vs) ⟨0, .leaf⟩) = .ok (.tup vs) ⟨0, .leaf⟩) {K : AK} (hK : ∀ env σ, resL std env σ xs = (true, αL vs) → K .ret env σ) :
    Good P 5 nt 5 B ρ0 σ0 W0 (AQ 5 nt 5 B ρ0 σ0 W0 K) (ofL (αl l0)) ⟨n0, ofM (αm L0)⟩ c := by
  obtain ⟨e, he, hr⟩ := runQ_eq (tq := tq) (b := b) (q := q) (L := L0) (n := n0) (kn := kX) (kr := fun e σ => rsQ rs e σ fun vs => .ok (.tup vs) ⟨0, .leaf⟩) (nt := nt) (dr := dr) hl0
  rw [hr] at hrun
  have hne : q (PhiG tq 40 b fun _ _ _ _ => .bad) 5 kX (fun e σ => rsQ rs e σ fun vs => .ok (.tup vs) ⟨0, .leaf⟩) kXe e ⟨n0, ofMF L0⟩ ≠ .bad := by rw [hrun]; exact fun h => by cases h
  have hΦ : PhiOk (PhiG tq 40 b fun _ _ _ _ => .bad) (Gam.grow std fuel tab Sp.none Γ0 40) := PhiG_ok ht 40 hb fun j l σ k => Sm.bad
  subst hq
  obtain ⟨x, env', e', σ', a1, _, a3⟩ := thrK_ok c' [] cS _ _ hΦ 5 _ _ _ e ⟨n0, ofMF L0⟩ _ he.m hne
  cases x with
  | exit i => rw [a3.2] at hne; exact absurd rfl hne
  | normal => obtain ⟨m', _, a5⟩ := a3; rw [a5] at hne; exact absurd rfl hne
  | ret =>
    obtain ⟨a4, a5⟩ := a3
    rw [a5] at hrun hne
    subst hrs
    obtain ⟨ws, b1, b2⟩ := rsQ_ok a4 σ' xs _ hne
    have hrun : (rsQ (xs.map (thrV nt dr)) e' σ' fun vs => FR.ok (.tup vs) ⟨0, .leaf⟩) = _ := hrun
    rw [b2] at hrun
    cases hrun
    rw [αH_ofMF] at a1
    exact Good.end st hm hΓ hpu hc a1 (hK env' (αH σ') b1)
end
end
end Go.Proofs.YtcbfjmjphpoimaaGreatDoor.V2
namespace Go.Proofs.YtcbfjmjphpoimaaGreatDoor.V2
open Go
set_option linter.unusedVariables false
noncomputable section
def r3 (P : E → (E2 → FR) → FR) (p : E2 → (E1 → FR) → FR) (q : E1 → (FV → FR) → FR) : Rd := fun e k => P e fun a => p a fun b => q b k
def x3 (P : E → (E2 → FR) → FR) (p : E2 → (E1 → FR) → FR) (q : E1 → FV → (E1 → FR) → FR) (r : E2 → E1 → (E2 → FR) → FR) (w : E → E2 → (E → FR) → FR) : Wr := fun e v k => P e fun a => p a fun b => q b v fun b => r a b fun a => w e a k
def R0 := r3 pc0 pb0 pa0
def X0 := x3 pc0 pb0 wa0 wb0 wc0
def R1 := r3 pc0 pb0 pa1
def X1 := x3 pc0 pb0 wa1 wb0 wc0
def R2 := r3 pc0 pb0 pa2
def X2 := x3 pc0 pb0 wa2 wb0 wc0
def R3 := r3 pc0 pb0 pa3
def X3 := x3 pc0 pb0 wa3 wb0 wc0
def R4 := r3 pc0 pb0 pa4
def X4 := x3 pc0 pb0 wa4 wb0 wc0
def R5 := r3 pc0 pb0 pa5
def X5 := x3 pc0 pb0 wa5 wb0 wc0
def R6 := r3 pc0 pb0 pa6
def X6 := x3 pc0 pb0 wa6 wb0 wc0
def R7 := r3 pc0 pb0 pa7
def X7 := x3 pc0 pb0 wa7 wb0 wc0
def R9 := r3 pc0 pb1 pa1
def X9 := x3 pc0 pb1 wa1 wb1 wc0
def R12 := r3 pc0 pb1 pa4
def X12 := x3 pc0 pb1 wa4 wb1 wc0
def R13 := r3 pc0 pb1 pa5
def X13 := x3 pc0 pb1 wa5 wb1 wc0
def R22 := r3 pc0 pb2 pa6
def X22 := x3 pc0 pb2 wa6 wb2 wc0
def R23 := r3 pc0 pb2 pa7
def X23 := x3 pc0 pb2 wa7 wb2 wc0
def R24 := r3 pc0 pb3 pa0
def X24 := x3 pc0 pb3 wa0 wb3 wc0
def R26 := r3 pc0 pb3 pa2
def X26 := x3 pc0 pb3 wa2 wb3 wc0
def R42 := r3 pc0 pb5 pa2
def X42 := x3 pc0 pb5 wa2 wb5 wc0
def R54 := r3 pc0 pb6 pa6
def X54 := x3 pc0 pb6 wa6 wb6 wc0
def R68 := r3 pc1 pb0 pa4
def X68 := x3 pc1 pb0 wa4 wb0 wc1
def R100 := r3 pc1 pb4 pa4
def X100 := x3 pc1 pb4 wa4 wb4 wc1
end
end Go.Proofs.YtcbfjmjphpoimaaGreatDoor.V2
namespace Go.Proofs.YtcbfjmjphpoimaaGreatDoor.V2
open Go
set_option linter.unusedVariables false
noncomputable def tabL : List (Nat × Ent) → T Ent
  | [] => .leaf
  | p :: l => (tabL l).put p.1 p.2
theorem tabL_get : ∀ {l : List (Nat × Ent)}, (∀ p ∈ l, Nat.blt p.1 1048576 = true) → ∀ f x, (tabL l).get f = some x → (f, x) ∈ l
  | [], _, f, x, h => by cases h
  | p :: l, hs, f, x, h => by
    have hp := hs p List.mem_cons_self
    rw [Nat.blt_eq] at hp
    simp only [tabL, T.get_put _ _ _ _ hp] at h
    by_cases ht : f = p.1
    · rw [if_pos ht] at h; cases h; rw [ht]; exact List.mem_cons_self
    · rw [if_neg ht] at h; exact List.mem_cons_of_mem _ (tabL_get (fun q hq => hs q (List.mem_cons_of_mem _ hq)) f x h)
def EntOk (p : Nat × Ent) : Prop := ∃ fn c, Tryz.prog.funcs[p.1]? = some fn ∧ fn.body = some c ∧ (fn.name == "runtime.NumGoroutine") = false ∧ fn.ntmps = p.2.nt ∧ compC Tryz.prog 5 fn.ntmps (fun _ => false) c = some p.2.code ∧ compR Tryz.prog fn.results.toList = some p.2.res ∧ Nat.ble fn.ntmps 1048576 = true
noncomputable section
def cZ (f : Func) : ACode := (compC Tryz.prog 5 f.ntmps (fun _ => false) (f.body.getD .skip)).getD .bad
def eZ (f : Func) : Ent := ⟨f.ntmps, cZ f, (compR Tryz.prog f.results.toList).getD []⟩
def okZ (f : Func) : Bool := f.body.isSome && !(f.name == "runtime.NumGoroutine") && (compC Tryz.prog 5 f.ntmps (fun _ => false) (f.body.getD .skip)).isSome && (compR Tryz.prog f.results.toList).isSome && Nat.ble f.ntmps 1048576
theorem eokZ {n : Nat} {f : Func} (h : Tryz.prog.funcs[n]? = some f) (hb : okZ f = true) : EntOk (n, eZ f) := by
  unfold okZ at hb
  simp only [Bool.and_eq_true, Bool.not_eq_true'] at hb
  obtain ⟨⟨⟨⟨h1, h2⟩, h3⟩, h4⟩, h5⟩ := hb
  obtain ⟨c, hc⟩ := Option.isSome_iff_exists.1 h1
  obtain ⟨a, ha⟩ := Option.isSome_iff_exists.1 h3
  obtain ⟨r, hr⟩ := Option.isSome_iff_exists.1 h4
  refine ⟨f, c, h, hc, h2, rfl, ?_, ?_, h5⟩
  · have e : f.body.getD .skip = c := by rw [hc]; rfl
    show compC Tryz.prog 5 f.ntmps (fun _ => false) c = some (cZ f)
    unfold cZ
    rw [e] at ha ⊢
    rw [ha]; rfl
  · show compR Tryz.prog f.results.toList = some ((compR Tryz.prog f.results.toList).getD [])
    rw [hr]; rfl
end
theorem hpu0' {Γ : Gam} : PuOk Γ (fun _ => false) := fun f h => by cases h
structure Qe where
  f : Nat
  en : Ent
  q : Phi → HF
structure QeOk (p : Qe) : Prop where
  ent : EntOk (p.f, p.en)
  ok : ∀ Φ Γ, PhiOk Φ Γ → HOk (p.q Φ) (runF std Γ 1000000 p.en)
  lt : p.f < 1048576
theorem qe_of {f nt np : Nat} {kp : List Nat} {en : Ent} {q : Phi → HF} (h : EntOk (f, en)) (hq : thrF 1000000 (drOf nt kp) np en = q) (hf : Nat.blt f 1048576 = true) : QeOk ⟨f, en, q⟩ := ⟨h, fun Φ Γ hΦ => by subst hq; exact thrF_ok _ _ en hΦ, by rw [Nat.blt_eq] at hf; exact hf⟩
noncomputable def tabE : List Qe → T Ent
  | [] => .leaf
  | p :: l => (tabE l).put p.f p.en
noncomputable def tabP : List Qe → T (Phi → HF)
  | [] => .leaf
  | p :: l => (tabP l).put p.f p.q
theorem tabE_get : ∀ {l : List Qe}, (∀ p ∈ l, QeOk p) → ∀ f, (∀ x, (tabE l).get f = some x → ∃ q, (tabP l).get f = some q ∧ (∀ Φ Γ, PhiOk Φ Γ → HOk (q Φ) (runF std Γ 1000000 x)) ∧ EntOk (f, x)) ∧ ((tabE l).get f = none → (tabP l).get f = none)
  | [], _, f => ⟨fun x h => (by cases h), fun _ => rfl⟩
  | p :: l, hl, f => by
    have hp := hl p List.mem_cons_self
    obtain ⟨i1, i2⟩ := tabE_get (fun q hq => hl q (List.mem_cons_of_mem _ hq)) f
    simp only [tabE, tabP, T.get_put _ _ _ _ hp.lt]
    by_cases h : f = p.f
    · rw [if_pos h, if_pos h]
      refine ⟨fun x hx => ?_, fun h => (by cases h)⟩
      cases hx
      subst h
      exact ⟨p.q, rfl, hp.ok, hp.ent⟩
    · rw [if_neg h, if_neg h]; exact ⟨i1, i2⟩
theorem mixed : Tryz.prog.follows .mixedOrders = true := by kernel_rfl
end Go.Proofs.YtcbfjmjphpoimaaGreatDoor.V2
