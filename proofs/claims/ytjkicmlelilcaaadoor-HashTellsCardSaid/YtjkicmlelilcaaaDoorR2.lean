/- Laws and plain facts for the reference's hash. -/
import Derived.Test.YtjkicmlelilcaaaDoorR1
import Derived.Test.YtjkicmlelilcaaaDoorS1
namespace Go.Proofs.YtjkicmlelilcaaaDoor
open Go.RowKit
/-- An append of any bytes to a row of bytes of the call's own. -/
theorem wpList_append_bsl {w : World} {ops : Array Oper} {rest : List Oper} {o : Oper} {a : Act} {Q : Exit → Act → World → Prop} (hgd : o.guard = none) (s x : Operand)
    (ho : o.op = .call { callee := .builtin .append, args := #[s, x], argTypes := #[22, 22] }) (base : Nat) (v : Value) (xs : List UInt8) (hs : a.eval s = v) (hown : w.ownsRow base 5 1 v xs.length (c8l xs))
    (lv : Value) (l : List UInt8) (hx : a.eval x = lv) (hl : BSl w lv l) (hn : xs.length + l.length ≤ 1000000000000) (hb : base ≤ w.heap.size)
    (h : ∀ v' w', w'.ownsRow base 5 1 v' (xs ++ l).length (c8l (xs ++ l)) → Below base w w' → wpList Tryd.prog ops Q rest (a.put o.dst v') w') : wpList Tryd.prog ops Q (o :: rest) a w := by
  obtain ⟨i0, hi, hz0, hz1, hz2⟩ := info_parts info5
  rcases hl with ⟨rfl, rfl⟩ | ⟨b1, o1, c1, rfl, hc1, hl1, hx1⟩ | ⟨a1, rfl, rfl⟩
  · refine wpList_append_own_none hgd s x 22 ho base 5 i0 1 Tryd.underlying22 hi _ _ _ hs hown hx ?_
    exact h _ _ (by rw [List.append_nil]; exact hown) (Below.refl _ _)
  · refine wpList_append_own _ hgd s x 22 ho base 5 i0 (.int .u8 0) 1 1 Tryd.underlying22 hi hz0 hz1 hz2 rfl (by decide) _ _ _ hs hown ⟨b1, o1, none⟩ l.length c1 (c8l l) hx (by rw [c8l_length]; omega) (news_of hx1) (c8l_one _) (by unfold maxLen; omega) (by omega) hb ?_
    intro v' w2 hown2 hg2 _
    exact h v' w2 (by rw [List.length_append, c8l_append]; exact hown2) ((Below.refl _ _).grown hg2 hb (fun g hg => owns_block hown hg))
  · refine wpList_append_own _ hgd s x 22 ho base 5 i0 (.int .u8 0) 1 1 Tryd.underlying22 hi hz0 hz1 hz2 rfl (by decide) _ _ _ hs hown a1 0 0 [] hx rfl (fun j u hu => by simp at hu) (fun u hu => by simp at hu) (by unfold maxLen; omega) (by omega) hb ?_
    intro v' w2 hown2 hg2 _
    exact h v' w2 (by rw [List.append_nil] at hown2 ⊢; exact hown2) ((Below.refl _ _).grown hg2 hb (fun g hg => owns_block hown hg))
def lenV : Value → Nat
  | .slice _ n _ => n
  | _ => 0
theorem putB_nat (x : UInt32) (c : UInt8) (h : x.toNat < 16777216) : (putB x c).toNat = x.toNat * 256 + c.toNat := by
  have hc := c.toNat_lt
  unfold putB
  rw [UInt32.toNat_or, UInt32.toNat_ofNat', UInt32.toNat_ofNat', Nat.mod_eq_of_lt (by omega), Nat.mod_eq_of_lt (by omega)]
  have := Nat.two_pow_add_eq_or_of_lt (i := 8) (b := c.toNat) (by omega) x.toNat
  rw [show x.toNat * 256 = 2 ^ 8 * x.toNat by omega, ← this]
theorem word_nat (bs : List UInt8) (t : Nat) : (wordTo bs t 4).toNat = (at8 bs (4 * t)).toNat * 16777216 + (at8 bs (4 * t + 1)).toNat * 65536 + (at8 bs (4 * t + 2)).toNat * 256 + (at8 bs (4 * t + 3)).toNat := by
  have h0 := (at8 bs (4 * t)).toNat_lt
  have h1 := (at8 bs (4 * t + 1)).toNat_lt
  have h2 := (at8 bs (4 * t + 2)).toNat_lt
  have e0 : (wordTo bs t 1).toNat = (at8 bs (4 * t)).toNat := by
    show (putB 0 (at8 bs (4 * t + 0))).toNat = _
    rw [putB_nat _ _ (by decide)]; simp
  have e1 : (wordTo bs t 2).toNat = (at8 bs (4 * t)).toNat * 256 + (at8 bs (4 * t + 1)).toNat := by
    rw [wordTo, putB_nat _ _ (by omega), e0]
  have e2 : (wordTo bs t 3).toNat = (at8 bs (4 * t)).toNat * 65536 + (at8 bs (4 * t + 1)).toNat * 256 + (at8 bs (4 * t + 2)).toNat := by
    rw [wordTo, putB_nat _ _ (by omega), e1]; omega
  rw [wordTo, putB_nat _ _ (by omega), e2]; omega
theorem word_int (bs : List UInt8) (t : Nat) : N8 (at8 bs (4 * t)) * 16777216 + N8 (at8 bs (4 * t + 1)) * 65536 + N8 (at8 bs (4 * t + 2)) * 256 + N8 (at8 bs (4 * t + 3)) = N32 (wordTo bs t 4) := by
  unfold N8 N32; rw [word_nat]; omega
theorem not_int (x : UInt32) : 4294967295 - N32 x = N32 (~~~ x) := by
  unfold N32
  have := x.toNat_lt
  have e : (~~~ x).toNat = 4294967295 - x.toNat := by rw [UInt32.toNat_not]; rfl
  rw [e]; omega
/-- The schedule's first t words. -/
def schT (bs : List UInt8) (t : Nat) : List UInt32 := (schedTo bs t).take t
theorem schT_length (bs : List UInt8) (t : Nat) (h : t ≤ 64) : (schT bs t).length = t := by simp [schT, schedTo_length]; omega
theorem schT_succ (bs : List UInt8) (t : Nat) (h : t < 64) : schT bs (t + 1) = schT bs t ++ [if t < 16 then wordTo bs t 4 else nextW (schedTo bs t) t] := by
  unfold schT
  rw [schedTo, List.take_succ_eq_append_getElem (by simp [schedTo_length]; omega), List.take_set_of_le (by omega)]
  simp
theorem schT_at (bs : List UInt8) (t i : Nat) (h : i < t) : at32 (schT bs t) i = at32 (schedTo bs t) i := by
  unfold schT at32
  rw [List.getD_eq_getElem?_getD, List.getElem?_take, if_pos h, List.getD_eq_getElem?_getD]
theorem schT_all (bs : List UInt8) : schT bs 64 = schedTo bs 64 := by
  unfold schT; exact List.take_of_length_le (by rw [schedTo_length]; omega)
/-- Zeros laid one by one. -/
def zerTo (bs : List UInt8) (j : Nat) : List UInt8 := bs ++ [128] ++ List.replicate j 0
theorem zerTo_length (bs : List UInt8) (j : Nat) : (zerTo bs j).length = bs.length + 1 + j := by simp [zerTo]; omega
theorem zerTo_succ (bs : List UInt8) (j : Nat) : zerTo bs j ++ [0] = zerTo bs (j + 1) := by
  unfold zerTo; rw [List.append_assoc, List.replicate_succ']
theorem padZ_lt (n : Nat) : padZ n < 64 := by unfold padZ; omega
theorem padZ_stop (n j : Nat) (h : j < padZ n) : (n + 1 + j) % 64 ≠ 56 := by unfold padZ at h; omega
theorem padZ_end (n : Nat) : (n + 1 + padZ n) % 64 = 56 := by unfold padZ; omega
/-- A table of words that a package-level variable leads to. -/
def Tab (w : World) (g : Nat) (l : List UInt32) : Prop :=
  ∃ b off c, w.cell? ⟨g, 0, none⟩ = some (.slice (some ⟨b, off, none⟩) l.length c) ∧ b < w.heap.size ∧ g < w.heap.size ∧ ∀ i, i < l.length → w.cell? ⟨b, off + i, none⟩ = some (.int .u32 (N32 (at32 l i)))
theorem Tab.below {w w' : World} {g : Nat} {l : List UInt32} (h : Tab w g l) (hb : Below w.heap.size w w') : Tab w' g l := by
  obtain ⟨b, off, c, h1, h2, h3, h4⟩ := h
  exact ⟨b, off, c, (hb.cell (p := ⟨g, 0, none⟩) h3).trans h1, Nat.lt_of_lt_of_le h2 hb.size, Nat.lt_of_lt_of_le h3 hb.size, fun i hi => (hb.cell (p := ⟨b, off + i, none⟩) h2).trans (h4 i hi)⟩
end Go.Proofs.YtjkicmlelilcaaaDoor
