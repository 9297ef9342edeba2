/- The walks over the reference's right and shift; plain facts for the reference's hash. -/
import Derived.Test.YtjkicmlelilcaaaDoorW10
namespace Go.Proofs.YtjkicmlelilcaaaDoor
open Go.RowKit
/-- A word turned right by one, by k. -/
def r1 (m : UInt32) : UInt32 := UInt32.ofNat (m.toNat / 2 + m.toNat % 2 * 2147483648)
def rTo (n : UInt32) : Nat → UInt32
  | 0 => n
  | k + 1 => r1 (rTo n k)
theorem r1_nat (m : UInt32) : (r1 m).toNat = m.toNat / 2 + m.toNat % 2 * 2147483648 := by
  have := m.toNat_lt
  unfold r1; rw [UInt32.toNat_ofNat']; omega
theorem rTo_nat (n : UInt32) (k : Nat) (h : k ≤ 32) : (rTo n k).toNat = n.toNat / 2 ^ k + n.toNat % 2 ^ k * 2 ^ (32 - k) := by
  induction k with
  | zero => simp [rTo, Nat.mod_one]
  | succ k ih =>
    have ih := ih (by omega)
    rw [rTo, r1_nat, ih]
    have e1 : 2 ^ (32 - k) = 2 * 2 ^ (32 - (k + 1)) := by rw [show 32 - k = (32 - (k + 1)) + 1 by omega, Nat.pow_succ]; omega
    have e2 : 2 ^ k * 2 ^ (32 - (k + 1)) = 2147483648 := by rw [← Nat.pow_add, show k + (32 - (k + 1)) = 31 by omega]
    have e3 : n.toNat / 2 ^ (k + 1) = n.toNat / 2 ^ k / 2 := by rw [Nat.pow_succ, Nat.div_div_eq_div_mul]
    have e4 : n.toNat % 2 ^ (k + 1) = n.toNat % 2 ^ k + 2 ^ k * (n.toNat / 2 ^ k % 2) := by rw [Nat.pow_succ, Nat.mod_mul]
    rw [e3, e4, e1]
    generalize n.toNat / 2 ^ k = a
    generalize n.toNat % 2 ^ k = b
    generalize hp : 2 ^ (32 - (k + 1)) = p at *
    have e5 : (a + b * (2 * p)) = a + 2 * (b * p) := by rw [← Nat.mul_assoc, Nat.mul_comm b 2, Nat.mul_assoc]
    have e6 : (b + 2 ^ k * (a % 2)) * p = b * p + a % 2 * 2147483648 := by rw [Nat.add_mul, ← e2, Nat.mul_right_comm, Nat.mul_comm (2 ^ k * p) (a % 2)]
    rw [e5, e6]
    omega
theorem ror_rTo (n : UInt32) (x : Nat) (h : x < 32) : rTo n x = ror n x := by
  apply UInt32.toNat_inj.1
  rw [rTo_nat n x (by omega)]
  unfold ror
  rw [UInt32.toNat_or, UInt32.toNat_ofNat', UInt32.toNat_ofNat']
  have hn := n.toNat_lt
  have hp : 2 ^ x * 2 ^ (32 - x) = 2 ^ 32 := by rw [← Nat.pow_add, show x + (32 - x) = 32 by omega]
  have h1 : n.toNat / 2 ^ x < 2 ^ (32 - x) := by rw [Nat.div_lt_iff_lt_mul (Nat.two_pow_pos x), Nat.mul_comm, hp]; omega
  have h2 : n.toNat * 2 ^ (32 - x) % 2 ^ 32 = 2 ^ (32 - x) * (n.toNat % 2 ^ x) := by rw [← hp, Nat.mul_mod_mul_right, Nat.mul_comm]
  have h3 : n.toNat / 2 ^ x % 2 ^ 32 = n.toNat / 2 ^ x := Nat.mod_eq_of_lt (Nat.lt_of_le_of_lt (Nat.div_le_self _ _) hn)
  rw [h2, h3, ← Nat.two_pow_add_eq_or_of_lt h1, Nat.add_comm, Nat.mul_comm]
theorem sror_succ (n : UInt32) (k : Nat) : N32 (sror n k) / 2 = N32 (sror n (k + 1)) := by
  rw [← sror_eq, ← sror_eq, Int.ediv_ediv_of_nonneg (by exact Int.pow_nonneg (by decide)), Int.pow_succ]
theorem r1_int (m : UInt32) : N32 m / 2 + N32 m % 2 * 2147483648 = N32 (r1 m) := by
  unfold N32; rw [r1_nat]; omega
def RtR (n : UInt32) (x : Nat) (v i : Value) : Prop := ∃ k : Nat, k ≤ x ∧ i = .int .i64 k ∧ v = .int .u32 (N32 (rTo n k))
def ShR (n : UInt32) (x : Nat) (v i : Value) : Prop := ∃ k : Nat, k ≤ x ∧ i = .int .i64 k ∧ v = .int .u32 (N32 (sror n k))
theorem sror_zero (n : UInt32) : sror n 0 = n := by unfold sror; simp
set_option maxHeartbeats 400000 in
theorem right_any (n : UInt32) (x : Nat) (w : World) (hx : x < 32) : Calls Tryd.prog 50 #[.int .u32 (N32 n), .int .i64 x] w fun e w' => e = .returned (.int .u32 (N32 (ror n x))) ∧ w = w' := by
  rw [← ror_rTo n x hx]
  go_enter Tryd.func50, Tryd.ntmps50
  go_wp2
  go_loop [0, 5] (RtR n x) (fun _ i => x - (intOf i).toNat)
  case atStart => exact ⟨0, by omega, rfl, rfl⟩
  case round =>
    obtain ⟨k, hk, rfl, rfl⟩ := hrel
    by_cases hlt : k < x
    · have d1 : decide ((k : Int) < (x : Int)) = true := decide_eq_true (by omega)
      have hb := N32_bd (rTo n k)
      have HE := Lib.hid (r1_int (rTo n k))
      go_wp2
      go_round
      case rel => exact ⟨k + 1, by omega, by go_num, by rw [rTo, ← HE.out]⟩
      case measure => simp [intOf]; omega
    · have d1 : decide ((k : Int) < (x : Int)) = false := decide_eq_false (by omega)
      obtain rfl : k = x := by omega
      go_wp2
      go_ret
      exact ⟨rfl, rfl⟩
set_option maxHeartbeats 400000 in
theorem shift_any (n : UInt32) (x : Nat) (w : World) (hx : x < 32) : Calls Tryd.prog 51 #[.int .u32 (N32 n), .int .i64 x] w fun e w' => e = .returned (.int .u32 (N32 (sror n x))) ∧ w = w' := by
  go_enter Tryd.func51, Tryd.ntmps51
  go_wp2
  go_loop [0, 5] (ShR n x) (fun _ i => x - (intOf i).toNat)
  case atStart => exact ⟨0, by omega, rfl, by rw [sror_zero]⟩
  case round =>
    obtain ⟨k, hk, rfl, rfl⟩ := hrel
    by_cases hlt : k < x
    · have d1 : decide ((k : Int) < (x : Int)) = true := decide_eq_true (by omega)
      have hb := N32_bd (sror n k)
      have HE := Lib.hid (sror_succ n k)
      go_wp2
      go_round
      case rel => exact ⟨k + 1, by omega, by go_num, by rw [← HE.out]⟩
      case measure => simp [intOf]; omega
    · have d1 : decide ((k : Int) < (x : Int)) = false := decide_eq_false (by omega)
      obtain rfl : k = x := by omega
      go_wp2
      go_ret
      exact ⟨rfl, rfl⟩
/-- An append to a row of the call's own, as one step of a region that draws its order. -/
theorem step_append_own {P : Program} {ops : Array Oper} {o : Oper} {a : Act} {w : World} {K : Act → World → Prop} {Q : Exit → Act → World → Prop} {E : Prop}
    (hg : o.guard = none) (s x : Operand) (t : TypeId) (hop : o.op = Op.call { callee := Callee.builtin Builtin.append, args := #[s, x], argTypes := #[t, t] })
    (base : Nat) (e : TypeId) (i : TypeInfo) (z : Value) (size bytes : Nat) (h1 : P.underlying t = some (.slice e)) (h2 : P.info? e = some i) (h3 : i.zero = some z) (h4 : i.size = size) (h5 : i.bytes = bytes) (h6 : z.cells.size = size) (h7 : 0 < size)
    (v : Value) (n : Nat) (xs : List Value) (hs : a.eval s = v) (hown : w.ownsRow base e size v n xs)
    (ad : Addr) (m c : Nat) (news : List Value) (hx : a.eval x = .slice (some ad) m c) (hn : news.length = m * size) (hc : ∀ j u, news[j]? = some u → w.cell? (ad.add j) = some u) (h1c : ∀ u ∈ news, u.oneCell' = true)
    (b1 : n + m ≤ maxLen) (b2 : (n + m) * bytes ≤ 140737488355328) (hb : base ≤ w.heap.size)
    (hK : ∀ v' w', w'.ownsRow base e size v' (n + m) (xs ++ news) → w.grownBy w' v.ownBlock → K (a.put o.dst v') w') :
    if Region.wanted o (yielded ops a.tmps) = true then Oper.wp P o a w K Q else E := by
  have hw : Region.wanted o (yielded ops a.tmps) = true := by simp [Region.wanted, hg]
  rw [if_pos hw]
  obtain ⟨v', w', hrun, r1, r2, _⟩ := run_append_own (P := P) w base t o.type e i z size bytes h1 h2 h3 h4 h5 h6 h7 v n xs hown ad m c news hn hc h1c b1 b2 hb
  unfold Oper.wp
  simp [execOp, hop, resolve, invoke, builtin, hs, hx, hrun, Result.andThen]
  exact hK v' w' r1 r2
end Go.Proofs.YtjkicmlelilcaaaDoor
