/- Plain facts and laws of the walk for HashKeys: zero bytes behind a key; slices.Clone at bytes. -/
import Derived.Test.YtjkicmlelilcaaaDoorW10
import Derived.Test.YtjkicmlelilcaaaDoorEq
namespace Go.Proofs.YtjkicmlelilcaaaDoor
open Go.RowKit

/-- Bytes that the call may append to: a row of its own, or a full slice. -/
def Mine (B : Nat) (w : World) (v : Value) (bs : List UInt8) : Prop :=
  w.ownsRow B 5 1 v bs.length (c8l bs) ∨ ∃ g, v = .slice (some ⟨g, 0, none⟩) bs.length bs.length ∧ 0 < bs.length ∧ BSl w v bs
theorem Mine.bsl {B : Nat} {w : World} {v : Value} {bs : List UInt8} (h : Mine B w v bs) : BSl w v bs := by
  rcases h with h | ⟨g, rfl, _, h⟩
  · exact BSl.of_owns h
  · exact h
theorem Mine.below {B B' : Nat} {w w' : World} {v : Value} {bs : List UInt8} (h : Mine B w v bs) (hb : Below B' w w') (hB : w.heap.size ≤ B') : Mine B w' v bs := by
  rcases h with h | ⟨g, e, h0, h⟩
  · exact .inl (owns_below h hb hB)
  · exact .inr ⟨g, e, h0, h.below hb hB⟩
theorem run_zeros_nil (w : World) (B k : Nat) (ty : TypeId) (hk : k ≤ 1000000000) (hB : B ≤ w.heap.size) :
    ∃ v' w', (Builtin.append_ #[22, 3] ty #[.slice none 0 0, .int .i64 k]).run Tryd.prog w = .ok v' w' ∧ w'.ownsRow B 5 1 v' k (c8l (List.replicate k 0)) ∧ Below B w w' := by
  obtain ⟨i0, hi, hz0, hz1, hz2⟩ := info_parts info5
  by_cases h0 : k = 0
  · subst h0
    refine ⟨.slice none 0 0, w, ?_, ⟨rfl, .inl ⟨rfl, rfl⟩⟩, Below.refl _ _⟩
    have hw0 : IntKind.i64.wrap 0 = 0 := by decide
    simp [Builtin.append_, run_underlying Tryd.underlying22, run_underlying Tryd.underlying3, sizeOf, typeInfo, hi, asInt, asIntOf, hw0]
  · have hr := Lib.run_append_nil_zeros (P := Tryd.prog) w 22 3 ty 5 i0 (.int .u8 0) .i64 .i64 Tryd.underlying22 Tryd.underlying3 hi hz0 k (by omega) (by rw [hz1]; decide) (by omega) (by rw [hz2]; omega)
    have hge := grownCap_ge w k 0 5
    refine ⟨_, _, hr, ⟨by simp [c8l], .inr ⟨w.heap.size, _, _, rfl, hB, heap_alloc_new w.drew _, hge, grownCap_le_maxLen _ _ _ _ (by unfold maxLen; omega), ?_, ?_⟩⟩, (Below.refl _ _).drew.alloc (by simpa using hB) _⟩
    · simp [size_zeroCells, Value.cells]; omega
    · rw [zeroCells_u8 k]
      simp only [Array.toList_append, c8]
      have : k * 1 = (c8l (List.replicate k 0)).length := by rw [c8l_length]; simp
      rw [this]
      exact List.take_left
theorem run_zeros_full (w : World) (g k : Nat) (bs : List UInt8) (ty : TypeId) (h : BSl w (.slice (some ⟨g, 0, none⟩) bs.length bs.length) bs) (h0 : 0 < bs.length) (hk : bs.length + k ≤ 1000000000) (hk0 : 0 < k) (B : Nat) (hB : B ≤ w.heap.size) :
    ∃ v' w', (Builtin.append_ #[22, 3] ty #[.slice (some ⟨g, 0, none⟩) bs.length bs.length, .int .i64 k]).run Tryd.prog w = .ok v' w' ∧ w'.ownsRow B 5 1 v' (bs.length + k) (c8l (bs ++ List.replicate k 0)) ∧ Below B w w' := by
  obtain ⟨i0, hi, hz0, hz1, hz2⟩ := info_parts info5
  have holds : ∀ j u, (c8l bs)[j]? = some u → w.drew.cell? ((⟨g, 0, none⟩ : Addr).add j) = some u := by
    rcases h with ⟨e, _⟩ | ⟨b, off, c, e, _, _, hc⟩ | ⟨a, e, hb⟩
    · cases e
    · cases e
      exact news_of hc
    · subst hb; simp at h0
  have hold := run_firstCells_some (P := Tryd.prog) w.drew i0.size bs.length ⟨g, 0, none⟩ bs.length bs.length (c8l bs) (by rw [c8l_length, hz1]; omega) holds
  have hr := Lib.run_append_grow_zeros (P := Tryd.prog) w 22 3 ty 5 i0 (.int .u8 0) .i64 .i64 Tryd.underlying22 Tryd.underlying3 hi hz0 (some ⟨g, 0, none⟩) bs.length bs.length (c8l bs) hold k hk0 (by rw [hz1]; decide) (by omega) (by omega) (by rw [hz2]; omega) (growslice_fits (by omega) (by rw [hz2]; omega))
  have hge := grownCap_ge w (bs.length + k) bs.length 5
  have hlen : (c8l (bs ++ List.replicate k 0)).length = (bs.length + k) * 1 := by rw [c8l_length]; simp
  refine ⟨_, _, hr, ⟨hlen, .inr ⟨w.heap.size, _, _, rfl, hB, heap_alloc_new w.drew _, hge, grownCap_le_maxLen w (bs.length + k) bs.length 5 (by unfold maxLen; omega), ?_, ?_⟩⟩, (Below.refl _ _).drew.alloc (by simpa using hB) _⟩
  · simp only [Array.size_append, List.size_toArray, size_zeroCells, c8l_length, Value.cells]; simp; omega
  · rw [zeroCells_u8 k]
    simp only [Array.toList_append, List.append_assoc, c8]
    rw [← List.append_assoc, ← c8l_append, ← hlen]
    exact List.take_left
theorem run_zeros_mine (w : World) (B k : Nat) (v : Value) (bs : List UInt8) (ty : TypeId) (h : Mine B w v bs) (hk : bs.length + k ≤ 1000000000) (hB : B ≤ w.heap.size) :
    ∃ v' w', (Builtin.append_ #[22, 3] ty #[v, .int .i64 k]).run Tryd.prog w = .ok v' w' ∧ Mine B w' v' (bs ++ List.replicate k 0) ∧ Below B w w' := by
  have hl : (bs ++ List.replicate k (0 : UInt8)).length = bs.length + k := by simp
  rcases h with h | ⟨g, rfl, h0, h⟩
  · by_cases h0 : 0 < bs.length
    · obtain ⟨v', w', hr, h1, h2⟩ := run_zeros_own w B bs.length k v bs ty h h0 (by omega) hB
      exact ⟨v', w', hr, .inl (by rw [hl]; exact h1), (Below.refl _ _).grown h2 hB (fun g hg => owns_block h hg)⟩
    · obtain rfl : bs = [] := List.eq_nil_of_length_eq_zero (by omega)
      rcases h.2 with ⟨rfl, _⟩ | ⟨g, cap, cur, rfl, hbg, hg, hnc, hcm, hcs, ht⟩
      · obtain ⟨v', w', hr, h1, h2⟩ := run_zeros_nil w B k ty (by omega) hB
        exact ⟨v', w', hr, .inl (by rw [hl]; simpa using h1), h2⟩
      · obtain ⟨v', w', hr, h1, h2⟩ := run_zeros_ne w B 0 k (.slice (some ⟨g, 0, none⟩) 0 cap) [] ty h (fun e => by cases e) (by omega) hB
        exact ⟨v', w', hr, .inl (by rw [hl]; exact h1), (Below.refl _ _).grown h2 hB (fun g hg => owns_block h hg)⟩
  · by_cases hk0 : k = 0
    · subst hk0
      refine ⟨.slice (some ⟨g, 0, none⟩) bs.length bs.length, w, ?_, .inr ⟨g, by simp, by simpa using h0, by simpa using h⟩, Below.refl _ _⟩
      obtain ⟨i0, hi, hz0, hz1, hz2⟩ := info_parts info5
      have hw0 : IntKind.i64.wrap 0 = 0 := by decide
      simp [Builtin.append_, run_underlying Tryd.underlying22, run_underlying Tryd.underlying3, sizeOf, typeInfo, hi, hz2, asInt, asIntOf, hw0, storeCells]
    · obtain ⟨v', w', hr, h1, h2⟩ := run_zeros_full w g k bs ty h h0 hk (by omega) B hB
      exact ⟨v', w', hr, .inl (by rw [hl]; exact h1), h2⟩
theorem wpList_zeros_mine {w : World} {ops : Array Oper} {rest : List Oper} {o : Oper} {a : Act} {Q : Exit → Act → World → Prop} (hgd : o.guard = none) (s x : Operand)
    (ho : o.op = .call { callee := .builtin .append, args := #[s, x], argTypes := #[22, 3] }) (B k : Nat) (v : Value) (bs : List UInt8) (hs : a.eval s = v) (hx : a.eval x = .int .i64 k)
    (hown : Mine B w v bs) (hnk : bs.length + k ≤ 1000000000) (hbase : B ≤ w.heap.size)
    (h : ∀ v' w', Mine B w' v' (bs ++ List.replicate k 0) → Below B w w' → wpList Tryd.prog ops Q rest (a.put o.dst v') w') : wpList Tryd.prog ops Q (o :: rest) a w := by
  obtain ⟨v', w', hr, h1, h2⟩ := run_zeros_mine w B k v bs o.type hown hnk hbase
  exact Lib.wpList_append_run w hgd s x 22 3 ho v (.int .i64 k) hs hx v' w' hr (h v' w' h1 h2)

set_option maxHeartbeats 400000 in
theorem clone8_nil (w : World) : Calls Tryd.prog 18 #[.slice none 0 0] w (Owned w 0 []) := by
  have he := fun w : World => Lib.run_eql_slice_nil (P := Tryd.prog) w 22 5 none 0 0 0 0 Tryd.underlying22
  go_enter Tryd.func18, Tryd.ntmps18
  go_wp2
  go_ret
  exact ⟨_, rfl, ⟨rfl, .inl ⟨rfl, rfl⟩⟩, Below.refl _ _⟩
set_option maxHeartbeats 400000 in
theorem clone8_some (ad : Addr) (c : Nat) (bs : List UInt8) (w : World) (hn : bs.length ≤ 1000000000)
    (hcell : ∀ j u, (c8l bs)[j]? = some u → (w.alloc (.cells #[] 5)).cell? (ad.add j) = some u) :
    Calls Tryd.prog 18 #[.slice (some ad) bs.length c] w (Owned w bs.length bs) := by
  obtain ⟨i0, hi, hz0, hz1, hz2⟩ := info_parts info5
  have HI := Lib.hid hi
  have HZ := Lib.hid hz0
  have H1 := Lib.hid hz1
  have H2 := Lib.hid hz2
  clear hi hz0 hz1 hz2
  have he := fun w : World => Lib.run_eql_slice_nil (P := Tryd.prog) w 22 5 (some ad) bs.length c 0 0 Tryd.underlying22
  have hb0 : Below w.heap.size w (w.alloc (.cells #[] 5)) := (Below.refl _ _).alloc (Nat.le_refl _) _
  have hown : (w.alloc (.cells #[] 5)).ownsRow w.heap.size 5 1 (.slice (some ⟨w.heap.size, 0, none⟩) 0 0) 0 [] := ⟨rfl, .inr ⟨w.heap.size, 0, #[], rfl, Nat.le_refl _, row_new _ _ _, Nat.le_refl _, by unfold maxLen; omega, rfl, rfl⟩⟩
  have HC := Lib.hid hcell
  clear hcell
  go_enter Tryd.func18, Tryd.ntmps18
  go_wp2_with (at_builtin; refine wpList_append_own _ rfl (.tmp 5) (.tmp 6) 22 rfl w.heap.size 5 i0 (.int .u8 0) 1 1 Tryd.underlying22 HI.out HZ.out H1.out H2.out rfl (by decide) _ _ _ rfl hown ad bs.length c (c8l bs) rfl (by rw [c8l_length]; omega) HC.out (c8l_one _) (by unfold maxLen; omega) (by omega) (by simp) ?_)
  intro v' w2 hown2 hg2 _
  have hb2 : Below w.heap.size w w2 := hb0.grown hg2 (by simp) (fun g hg => owns_block hown hg)
  go_wp2
  go_ret
  exact ⟨_, rfl, by simpa using hown2, hb2⟩
/-- slices.Clone of bytes. -/
theorem clone8_any (kv : Value) (bs : List UInt8) (w : World) (h : BSl w kv bs) (hn : bs.length ≤ 1000000000) : Calls Tryd.prog 18 #[kv] w (Owned w bs.length bs) := by
  rcases h with ⟨rfl, rfl⟩ | ⟨b, off, c, rfl, hc, hlt, hcell⟩ | ⟨a, rfl, rfl⟩
  · exact clone8_nil w
  · refine clone8_some ⟨b, off, none⟩ c bs w hn (fun j u hu => ?_)
    have := news_of hcell j u hu
    rw [Addr.add_mid] at this ⊢
    rw [(alloc_below w).cell (p := ⟨b, off + j, none⟩) hlt]; exact this
  · exact clone8_some a 0 [] w hn (fun j u hu => by simp [c8l] at hu)

/-! The plain law. -/
theorem at8_set_self {l : List UInt8} {i : Nat} {x : UInt8} (h : i < l.length) : at8 (l.set i x) i = x := by
  unfold at8; rw [List.getD_eq_getElem?_getD, List.getElem?_set_self h]; rfl
theorem at8_set_ne {l : List UInt8} {i j : Nat} {x : UInt8} (h : i ≠ j) : at8 (l.set i x) j = at8 l j := by
  unfold at8; rw [List.getD_eq_getElem?_getD, List.getElem?_set_ne h, List.getD_eq_getElem?_getD]
theorem keyW_zeros (key : List UInt8) (k : Nat) (h : key.length + k ≤ 64) : keyW (key ++ List.replicate k 0) = keyW key := by
  unfold keyW
  rw [List.append_assoc, List.length_append, List.length_replicate, List.replicate_append_replicate]
  congr 2; omega
theorem chgTo_zeros (key : List UInt8) (c : UInt8) (k : Nat) (h : key.length + k ≤ 64) (n : Nat) : chgTo (key ++ List.replicate k 0) c n = chgTo key c n := by
  induction n with
  | zero => exact keyW_zeros key k h
  | succ n ih => simp only [chgTo, ih]
theorem chg_zeros (key : List UInt8) (c : UInt8) (k : Nat) (h : key.length + k ≤ 64) : chg (key ++ List.replicate k 0) c = chg key c := chgTo_zeros key c k h 64
/-- The key that is used for a key. -/
def useK (key : List UInt8) : List UInt8 := if key.length > 64 then shaB key else key
theorem useK_length (key : List UInt8) : (useK key).length ≤ 64 := by
  unfold useK; split
  · rw [shaB_length]; omega
  · omega
theorem hmB_use (key msg : List UInt8) : hmB key msg = hmS (useK key) msg := rfl
theorem hmS_zeros (key msg : List UInt8) (k : Nat) (h : key.length + k ≤ 64) : hmS (key ++ List.replicate k 0) msg = hmS key msg := by
  unfold hmS; rw [chg_zeros key _ k h, chg_zeros key _ k h]
theorem hmB_zeros (key msg : List UInt8) (k : Nat) (h : (useK key).length + k ≤ 64) : hmB (useK key ++ List.replicate k 0) msg = hmB key msg := by
  rw [hmB_use, hmB_use, ← hmS_zeros (useK key) msg k h]
  congr 1
  unfold useK
  rw [if_neg]
  have : ((if key.length > 64 then shaB key else key) ++ List.replicate k (0 : UInt8)).length = (useK key).length + k := by simp [useK]
  omega
/-- What the law lays byte by byte. -/
def xin (l : List UInt8) (c : UInt8) : Nat → List UInt8
  | 0 => List.replicate 64 0
  | k + 1 => (xin l c k).set k (at8 l k ^^^ c)
theorem xin_length (l : List UInt8) (c : UInt8) (k : Nat) : (xin l c k).length = 64 := by
  induction k with
  | zero => simp [xin]
  | succ k ih => simp [xin, ih]
theorem xin_at (l : List UInt8) (c : UInt8) (n i : Nat) (hi : i < 64) : at8 (xin l c n) i = if i < n then at8 l i ^^^ c else 0 := by
  induction n with
  | zero =>
    rw [if_neg (by omega)]
    show (List.replicate 64 (0 : UInt8)).getD i 0 = 0
    rw [List.getD_eq_getElem?_getD, List.getElem?_replicate, if_pos hi]; rfl
  | succ n ih =>
    by_cases h : n = i
    · subst h; rw [xin, at8_set_self (by rw [xin_length]; exact hi), if_pos (by omega)]
    · rw [xin, at8_set_ne h, ih]
      by_cases h2 : i < n
      · rw [if_pos h2, if_pos (by omega)]
      · rw [if_neg h2, if_neg (by omega)]
theorem chgTo_at (key : List UInt8) (c : UInt8) (hk : key.length ≤ 64) (n i : Nat) (hi : i < 64) : at8 (chgTo key c n) i = if i < n then at8 (keyW key) i ^^^ c else at8 (keyW key) i := by
  induction n generalizing i with
  | zero => simp [chgTo]
  | succ n ih =>
    by_cases h : n = i
    · subst h; rw [chgTo, at8_set_self (by rw [chgTo_length _ _ _ hk]; exact hi), if_pos (by omega), ih n hi, if_neg (by omega)]
    · rw [chgTo, at8_set_ne h, ih i hi]
      by_cases h2 : i < n
      · rw [if_pos h2, if_pos (by omega)]
      · rw [if_neg h2, if_neg (by omega)]
theorem ext8 {a b : List UInt8} (hl : a.length = b.length) (h : ∀ i, i < a.length → at8 a i = at8 b i) : a = b := by
  apply List.ext_getElem hl
  intro i h1 h2
  have := h i h1
  simpa [at8, h1, h2] using this
theorem xin_chg (key : List UInt8) (c : UInt8) (hk : key.length ≤ 64) : xin (keyW key) c 64 = chg key c := by
  refine ext8 (by rw [xin_length, chg_length _ _ hk]) (fun i hi => ?_)
  rw [xin_length] at hi
  unfold chg
  rw [xin_at _ _ _ _ hi, chgTo_at _ _ hk _ _ hi, if_pos hi, if_pos hi]
/-- The law's last word: the two hashes. -/
theorem hm_two (key msg : List UInt8) : shaB (chg (useK key) 92 ++ shaB (chg (useK key) 54 ++ msg)) = hmB key msg := rfl
end Go.Proofs.YtjkicmlelilcaaaDoor
