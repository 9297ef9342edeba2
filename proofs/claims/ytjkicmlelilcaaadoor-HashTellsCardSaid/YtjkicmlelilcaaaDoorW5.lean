/- The walks over slices.Chunk at bytes. -/
import Derived.Test.YtjkicmlelilcaaaDoorBytes
import Derived.WalkSpells
import Derived.WalkLawsBesides
import Derived.Lib.Hide
import Derived.Deep.QuietTactic
import Derived.BigQuiet
import Derived.RangeFuncBox
import Derived.RangeFuncLeaves
import Derived.OwnWalkIn
import Derived.TacticsInMore
import Derived.LoopNIn
import Derived.LoopIn
import Derived.RangeFuncWrites
namespace Go.Proofs.YtjkicmlelilcaaaDoor
open Go.RowKit

set_option maxHeartbeats 400000 in
theorem chunk_any (a : Option Addr) (n c : Nat) (w : World) :
    Calls Tryd.prog 48 #[.slice a n c, .int .i64 64] w fun e w' => e = .returned (.func (.func 73) #[] #[.pointer (some ⟨w.heap.size, 0, none⟩), .pointer (some ⟨w.heap.size + 1, 0, none⟩)]) ∧ (w.alloc (.cells #[.slice a n c] 22)).alloc (.cells #[.int .i64 64] 3) = w' := by
  go_enter Tryd.func48, Tryd.ntmps48
  go_wp2
  go_ret
  exact ⟨rfl, rfl⟩

attribute [local go_sem] Oper.semAt_some
/-- The chunks of a row of m times 64 bytes, by their numbers. -/
def chunkV (g : Nat) (k : Nat) : Value := .slice (some ⟨g, 64 * k, none⟩) 64 64

/-- The two boxes that the iterator reads are as they were. -/
def KB (Bs : Nat) (W W' : World) : Prop := W'.heap[Bs]? = W.heap[Bs]? ∧ W'.heap[Bs + 1]? = W.heap[Bs + 1]?
theorem KB.refl (Bs : Nat) (W : World) : KB Bs W W := ⟨rfl, rfl⟩
theorem KB.trans {Bs : Nat} {A B C : World} (h : KB Bs A B) (k : KB Bs B C) : KB Bs A C := ⟨k.1.trans h.1, k.2.trans h.2⟩
theorem KB.drewN {Bs n : Nat} {A B : World} (h : KB Bs A B) : KB Bs A (B.drewN n) := h
theorem KB.c0 {Bs : Nat} {A B : World} (h : KB Bs A B) : B.cell? ⟨Bs, 0, none⟩ = A.cell? ⟨Bs, 0, none⟩ := World.cell?_of_block h.1
theorem KB.c1 {Bs : Nat} {A B : World} (h : KB Bs A B) : B.cell? ⟨Bs + 1, 0, none⟩ = A.cell? ⟨Bs + 1, 0, none⟩ := World.cell?_of_block h.2

set_option maxRecDepth 100000 in
set_option maxHeartbeats 2000000 in
theorem chunk1_in (l Bs g m cap : Nat) (hm : m ≤ 100000000000) (hcap : 64 * m ≤ cap) (J Jx : List Nat → World → Prop) (hJ : ∀ s W n, J s W → J s (W.drewN n))
    (hY : ∀ pre x W, J pre W → pre.length < m → YieldAt Fence.wide 5 Tryd.prog l #[chunkV g (x % m)] W fun e W' =>
      (e = .returned (.bool true) ∧ J (pre ++ [x]) W' ∧ KB Bs W W') ∨ (e = .returned (.bool false) ∧ Jx (pre ++ [x]) W'))
    (W : World) (h1 : W.cell? ⟨Bs, 0, none⟩ = some (.slice (some ⟨g, 0, none⟩) (64 * m) cap)) (h2 : W.cell? ⟨Bs + 1, 0, none⟩ = some (.int .i64 64)) (h0 : J [] W) :
    CallsIn Fence.wide 6 Tryd.prog 73 #[.func (.yield l) #[] #[], .pointer (some ⟨Bs, 0, none⟩), .pointer (some ⟨Bs + 1, 0, none⟩)] W fun e W' => (∃ v, e = .returned v) ∧
      ((∃ ys, ys = List.range m ∧ J ys W') ∨ (∃ pre, (∃ k, k ≤ m ∧ pre = List.range k) ∧ Jx pre W')) := by
  refine callsIn_of_wp Tryd.func73 rfl trivial ?_ rfl
  simp only [Tryd.ntmps73, List.size_toArray, List.length_cons, List.length_nil, Nat.reduceAdd, Nat.reduceSub, Array.replicate_succ, Array.replicate_zero, List.push_toArray, List.append_toArray, List.nil_append, List.cons_append]
  have HY := Lib.hid hY
  have HJ := Lib.hid hJ
  clear hY hJ
  gi_wp2
  gi_loopw [4] (fun i wr => ∃ k : Nat, k ≤ m ∧ i = .int .i64 (64 * k : Nat) ∧ J (List.range k) wr ∧ KB Bs W wr)
    (fun i _ => 64 * m + 1 - (intOf i).toNat)
  case atStart => exact ⟨0, Nat.zero_le _, rfl, by simpa using h0, KB.refl _ _⟩
  case round =>
    obtain ⟨k, hk, rfl, hJs, hnx⟩ := hrel
    have g1 : wr.cell? ⟨Bs, 0, none⟩ = some (.slice (some ⟨g, 0, none⟩) (64 * m) cap) := hnx.c0.trans h1
    have g2 : wr.cell? ⟨Bs + 1, 0, none⟩ = some (.int .i64 64) := hnx.c1.trans h2
    by_cases hlt : k < m
    · have d1 : decide (((64 * k : Nat) : Int) < ((64 * m : Nat) : Int)) = true := decide_eq_true (by omega)
      have z0 : (0 : Int) ≤ ((64 * k : Nat) : Int) := by omega
      have z1 : ((64 * k : Nat) : Int) ≤ ((64 * m : Nat) : Int) := by omega
      have z2 : ((64 * k : Nat) : Int) ≤ (cap : Int) := by omega
      have z3 : ((64 * k : Nat) : Int) < (cap : Int) := by omega
      gi_wp2
      refine wpIn_wide.2 ?_
      go_quiet (fail)
      have hJ2 := HJ.out _ _ nq hJs
      have hnx2 := hnx.drewN (n := nq)
      obtain ⟨fn, tmps, assign, body, hy, hR⟩ := HY.out _ k _ hJ2 (by simpa using hlt)
      have HR := Lib.hid hR
      clear hR
      rw [Nat.mod_eq_of_lt hlt] at hy
      unfold chunkV at hy
      have e1 : IntKind.i64.wrap (((64 * k : Nat) : Int) + 64) = ((64 * k : Nat) : Int) + 64 := IntWalk.i64_in _ (by omega)
      gi_wp2
      refine HR.out.mono ?_
      rintro e W3 (⟨rfl, hJ3, hk3⟩ | ⟨rfl, hJx3⟩)
      · have g3 : W3.cell? ⟨Bs + 1, 0, none⟩ = some (.int .i64 64) := hk3.c1.trans g2
        gi_wp2
        go_roundw
        case rel => exact ⟨k + 1, by omega, by simp; omega, by rw [List.range_succ]; exact hJ3, hnx2.trans hk3⟩
        case measure => simp [intOf]; omega
      · gi_wp2
        refine bodyPost_ret (results_none rfl _ _ _) rfl ?_
        exact ⟨⟨_, rfl⟩, .inr ⟨_, ⟨k + 1, by omega, List.range_succ.symm⟩, hJx3⟩⟩
    · obtain rfl : k = m := by omega
      have d1 : decide (((64 * k : Nat) : Int) < ((64 * k : Nat) : Int)) = false := decide_eq_false (by omega)
      gi_wp2
      go_end0
      exact ⟨⟨_, rfl⟩, .inl ⟨_, rfl, hJs⟩⟩

theorem chunk_stops (Bs g m cap : Nat) (hm : m ≤ 100000000000) (hcap : 64 * m ≤ cap) (w : World) (hB : Bs + 1 < w.heap.size)
    (h1 : w.cell? ⟨Bs, 0, none⟩ = some (.slice (some ⟨g, 0, none⟩) (64 * m) cap)) (h2 : w.cell? ⟨Bs + 1, 0, none⟩ = some (.int .i64 64)) :
    SeqStopsK Fence.wide 6 Tryd.prog 73 #[.pointer (some ⟨Bs, 0, none⟩), .pointer (some ⟨Bs + 1, 0, none⟩)] (fun x : Nat => #[chunkV g (x % m)]) (KB Bs)
      (fun ys => ys = List.range m) (fun pre => ∃ k, k ≤ m ∧ pre = List.range k) m w := fun l J Jx W hW hA _ hY h0 =>
  chunk1_in l Bs g m cap hm hcap J Jx (fun s W n hs => hA s W _ none hs ⟨rfl, rfl, rfl, Nat.le_refl _, fun _ _ _ => rfl⟩ (fun r e => by cases e)) hY W
    ((hW.cell (p := ⟨Bs, 0, none⟩) (by simp; omega)).trans h1) ((hW.cell (p := ⟨Bs + 1, 0, none⟩) (by simp; omega)).trans h2) h0
end Go.Proofs.YtjkicmlelilcaaaDoor
