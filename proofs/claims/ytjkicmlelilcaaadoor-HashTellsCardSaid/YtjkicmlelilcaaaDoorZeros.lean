/- A law of the walk: zero bytes appended to a row of bytes that the call owns (append of make). -/
import Derived.Test.YtjkicmlelilcaaaDoorW4
import Derived.Lib.AppendZerosOnto
namespace Go.Proofs.YtjkicmlelilcaaaDoor
open Go.RowKit

theorem zeroCells_u8 (k : Nat) : Builtin.zeroCells (Value.int .u8 0).cells k = c8 (List.replicate k 0) := by
  apply Array.ext'
  simp only [Builtin.zeroCells, Value.cells, c8, c8l]
  apply List.ext_getElem
  · simp
  · intro i h1 h2
    simp [N8, Nat.mod_one]

theorem run_zeros_ne (w : World) (base n k : Nat) (v : Value) (bs : List UInt8) (ty : TypeId) (hown : w.ownsRow base 5 1 v n (c8l bs)) (hne : v ≠ .slice none 0 0) (hnk : n + k ≤ 1000000000000) (hbase : base ≤ w.heap.size) :
    ∃ v' w', (Builtin.append_ #[22, 3] ty #[v, .int .i64 k]).run Tryd.prog w = .ok v' w' ∧ w'.ownsRow base 5 1 v' (n + k) (c8l (bs ++ List.replicate k 0)) ∧ w.grownBy w' v.ownBlock := by
  obtain ⟨i0, hi, hz0, hz1, hz2⟩ := info_parts info5
  have hbl : bs.length = n := by have := hown.1; rw [c8l_length] at this; omega
  rcases hown.2 with ⟨rfl, h0⟩ | ⟨g, cap, cur, rfl, hbg, hg, hnc, hcm, hcs, htake⟩
  · exact absurd rfl hne
  have hlen : (c8l (bs ++ List.replicate k 0)).length = (n + k) * 1 := by rw [c8l_length]; simp [hbl]
  have hw : IntKind.i64.wrap (k : Int) = k := by rw [IntKind.wrap_i64]; omega
  have hneg : ¬ ((k : Int) < 0) := by omega
  by_cases hroom : n + k ≤ cap
  · have hst := run_storeCells_at Tryd.prog g n 5 (c8l (List.replicate k 0)) 0 cur w hg (by rw [c8l_length]; simp; omega) (c8l_one _)
    simp only [Nat.add_zero] at hst
    have h48 : ¬ (281474976710656 < (k : Int)) := by omega
    refine ⟨.slice (some ⟨g, 0, none⟩) (n + k) cap, w.setRow g (cur.toList.take n ++ c8l (List.replicate k 0) ++ cur.toList.drop (n + (c8l (List.replicate k 0)).length)).toArray, ?_, ⟨hlen, .inr ⟨g, cap, _, rfl, hbg, setRow_heap w g cur _ 5 _ hg, hroom, hcm, ?_, ?_⟩⟩, ⟨rfl, rfl, rfl, by simp, fun j _ hj => setRow_other w g j _ (fun e => hj (by simp [Value.ownBlock, e]))⟩⟩
    · by_cases hk : k = 0
      · subst hk
        have hw0 : IntKind.i64.wrap 0 = 0 := by decide
        have hst' : (storeCells ⟨g, n, none⟩ [] 0).run Tryd.prog w = .ok () (w.setRow g (cur.toList.take n ++ c8l (List.replicate 0 0) ++ cur.toList.drop (n + (c8l (List.replicate 0 0)).length)).toArray) := hst
        simp [Builtin.append_, run_underlying Tryd.underlying22, run_underlying Tryd.underlying3, sizeOf, typeInfo, hi, hz1, hz2, asInt, asIntOf, hw0, hnc, Addr.add_lit, hst']
      · have hzc := zeroCells_u8 k
        have hst' : (storeCells ⟨g, n, none⟩ (c8 (List.replicate k 0)).toList 0).run Tryd.prog w = .ok () (w.setRow g (cur.toList.take n ++ c8l (List.replicate k 0) ++ cur.toList.drop (n + (c8l (List.replicate k 0)).length)).toArray) := hst
        simp [Builtin.append_, run_underlying Tryd.underlying22, run_underlying Tryd.underlying3, sizeOf, typeInfo, zeroValue, hi, hz0, hz1, hz2, asInt, asIntOf, hw, hneg, h48, hroom, hk, hzc, Addr.add_lit, hst']
    · simp only [List.size_toArray, List.length_append, List.length_take, List.length_drop, Array.length_toList, c8l_length, List.length_replicate]
      omega
    · have ht : cur.toList.take n = c8l bs := by rw [← htake]; simp
      rw [ht, ← hlen, c8l_append]
      exact List.take_left
  · have hk : 0 < k := by omega
    have holds : ∀ j u, (c8l bs)[j]? = some u → w.drew.cell? ((⟨g, 0, none⟩ : Addr).add j) = some u := fun j u hu => hown.cells (g := g) rfl j u hu
    have hold := run_firstCells_some (P := Tryd.prog) w.drew i0.size n ⟨g, 0, none⟩ n cap (c8l bs) (by rw [c8l_length, hz1]; omega) holds
    have hr := Lib.run_append_grow_zeros (P := Tryd.prog) w 22 3 ty 5 i0 (.int .u8 0) .i64 .i64 Tryd.underlying22 Tryd.underlying3 hi hz0 (some ⟨g, 0, none⟩) n cap (c8l bs) hold k hk (by rw [hz1]; decide) (by omega) (by omega) (by rw [hz2]; omega) (growslice_fits (by omega) (by rw [hz2]; omega))
    have hge := grownCap_ge w (n + k) cap 5
    refine ⟨_, _, hr, ⟨hlen, .inr ⟨w.heap.size, _, _, rfl, hbase, heap_alloc_new w.drew _, hge, grownCap_le_maxLen w (n + k) cap 5 (by unfold maxLen; omega), ?_, ?_⟩⟩, ⟨rfl, rfl, rfl, by simp, fun j hj _ => Below.heap_alloc w.drew _ j hj⟩⟩
    · simp only [Array.size_append, List.size_toArray, size_zeroCells, c8l_length, Value.cells]; simp; omega
    · rw [zeroCells_u8 k]
      simp only [Array.toList_append, List.append_assoc, c8]
      rw [← List.append_assoc, ← c8l_append, ← hlen]
      exact List.take_left

theorem run_zeros_own (w : World) (base n k : Nat) (v : Value) (bs : List UInt8) (ty : TypeId) (hown : w.ownsRow base 5 1 v n (c8l bs)) (hn : 0 < n) (hnk : n + k ≤ 1000000000000) (hbase : base ≤ w.heap.size) :
    ∃ v' w', (Builtin.append_ #[22, 3] ty #[v, .int .i64 k]).run Tryd.prog w = .ok v' w' ∧ w'.ownsRow base 5 1 v' (n + k) (c8l (bs ++ List.replicate k 0)) ∧ w.grownBy w' v.ownBlock := by
  refine run_zeros_ne w base n k v bs ty hown (fun e => ?_) hnk hbase
  rcases hown.2 with ⟨_, h0⟩ | ⟨g, cap, cur, e2, _⟩
  · omega
  · rw [e] at e2; cases e2
theorem wpList_zeros_own {w : World} {ops : Array Oper} {rest : List Oper} {o : Oper} {a : Act} {Q : Exit → Act → World → Prop} (hgd : o.guard = none) (s x : Operand)
    (ho : o.op = .call { callee := .builtin .append, args := #[s, x], argTypes := #[22, 3] }) (base n k : Nat) (v : Value) (bs : List UInt8) (hs : a.eval s = v) (hx : a.eval x = .int .i64 k)
    (hown : w.ownsRow base 5 1 v n (c8l bs)) (hn : 0 < n) (hnk : n + k ≤ 1000000000000) (hbase : base ≤ w.heap.size)
    (h : ∀ v' w', w'.ownsRow base 5 1 v' (n + k) (c8l (bs ++ List.replicate k 0)) → w.grownBy w' v.ownBlock → wpList Tryd.prog ops Q rest (a.put o.dst v') w') : wpList Tryd.prog ops Q (o :: rest) a w := by
  obtain ⟨v', w', hr, h1, h2⟩ := run_zeros_own w base n k v bs o.type hown hn hnk hbase
  exact Lib.wpList_append_run w hgd s x 22 3 ho v (.int .i64 k) hs hx v' w' hr (h v' w' h1 h2)
end Go.Proofs.YtjkicmlelilcaaaDoor
