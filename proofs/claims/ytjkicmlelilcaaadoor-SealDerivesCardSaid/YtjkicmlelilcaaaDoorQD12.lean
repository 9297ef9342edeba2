/- Part 12 of the proof: texts of the proof. -/
import Derived.Test.YtjkicmlelilcaaaDoorQD11
import Derived.Deep.DeepCutAuto
namespace Go.Proofs.YtjkicmlelilcaaaDoor.V2
open Go
open Go.RowKit
/-- A row of bytes that may be appended to: its block is its own. -/
inductive IsA (N : Nat) (σ : AH) : AV → List Int → Prop
  | nil : IsA N σ .nilsl []
  | sl (b c : Nat) (ex : Bool) (l : List Int) (tl : Tl) (hN : N ≤ b) (hb : b < σ.next) (hg : σ.get b = some (.ints .u8 l 5 tl)) (ht : tl.isRo = false) (hk : l.length ≤ c) : IsA N σ (.sl b 0 l.length c ex 1) l
theorem IsA.isB {N : Nat} {σ : AH} {v : AV} {l : List Int} (h : IsA N σ v l) : IsB σ v l := by
  cases h with
  | nil => exact .nil
  | sl b c ex l tl hN hb hg ht hk => exact .sl b 0 l.length c ex l l 5 tl hb hg (by omega) hk (by simp)
theorem IsA.mono {N : Nat} {σ σ' : AH} {v : AV} {l : List Int} (h : IsA N σ v l) (g : Grown σ σ') : IsA N σ' v l := by
  cases h with
  | nil => exact .nil
  | sl b c ex l tl hN hb hg ht hk => exact .sl b c ex l tl hN (Nat.lt_of_lt_of_le hb g.next) (by rw [g.get b hb]; exact hg) ht hk
theorem killA_next (A : Ar) (σ : AH) (n : Nat) (v : AV) : (killA A σ n v).next = σ.next := by
  unfold killA
  repeat' split
  all_goals first
    | rfl
    | (cases A.ltN _ _ <;> rfl)
theorem killA_get (A : Ar) (σ : AH) (n b o k c z : Nat) (e : Bool) (hb : b < 1000000) (m : Nat) (hm : m ≠ b) : (killA A σ n (.sl b o k c e z)).get m = σ.get m := by
  have hp : (σ.put b .dead).get m = σ.get m := by rw [get_put hb, if_neg hm]
  cases e
  · exact hp
  · show (bif A.ltN c n then σ else σ.put b .dead).get m = _
    cases A.ltN c n
    · exact hp
    · rfl
theorem IsA.app {N : Nat} {σ : AH} {v x : AV} {l m : List Int} {str : Bool} {r : Row} (h : IsA N σ v l) (hs : σ.next < 1000000) (hN : N ≤ σ.next) (hx : rowA std str 1 σ x = (true, m.length, r)) (hr : r = .ints .u8 m ∨ r = .cells [] ∧ m = []) (hl : l.length + m.length ≤ 1000000000000) :
    ∃ v' σ', xstep std σ (.append 5 str 1) [v, x] = (true, v', σ') ∧ IsA N σ' v' (l ++ m) ∧ (∀ b, b < N → σ'.get b = σ.get b) ∧ σ.next ≤ σ'.next ∧ σ'.next ≤ σ.next + 1 := by
  have hsl : isSl 1 v = true := by cases h <;> rfl
  simp only [xstep, hx]
  by_cases h0 : m.length = 0
  · have : m = [] := List.length_eq_zero_iff.1 h0
    subst this
    refine ⟨v, σ, ?_, by rw [List.append_nil]; exact h, fun _ _ => rfl, Nat.le_refl _, Nat.le_succ _⟩
    have : std.eqN ([] : List Int).length 0 = true := rfl
    simp only [this, hsl, Bool.and_true, cond_true]
  · have hz : std.eqN m.length 0 = false := by
      show Nat.beq m.length 0 = false
      exact T.beq_f h0
    have hr : r = .ints .u8 m := hr.resolve_right fun h => h0 (by rw [h.2]; rfl)
    subst hr
    have h6 : Nat.blt σ.next 1000000 = true := by rw [Nat.blt_eq]; exact hs
    cases h with
    | nil =>
      have hl2 : m.length ≤ 1000000000000 := by simp at hl; exact hl
      refine ⟨.sl σ.next 0 m.length m.length false 1, σ.new (.ints .u8 m 5 .more), ?_, .sl _ _ _ _ .more hN (Nat.lt_succ_self _) (get_new hs) rfl (Nat.le_refl _), fun b hb => (Grown.new hs).get b (by omega), Nat.le_succ _, Nat.le_refl _⟩
      have h8 : rowA std false 1 σ .nilsl = (true, 0, .cells []) := rfl
      have h9 : std.addN 0 m.length = m.length := Nat.zero_add _
      have h10 : std.leN m.length 1000000000000 = true := le_std hl2
      simp only [hz, Bool.false_and, cond_false, appN, hx, h8, catA, baseOk, killA, h9, h10, h6, Bool.and_true, Bool.not_false]
    | sl b c ex l tl hNb hb hg ht hk =>
      have h8 : rowA std false 1 σ (.sl b 0 l.length c ex 1) = (true, l.length, .ints .u8 l) := by
        simp [rowA, hg, std]
      have h9 : std.addN l.length m.length = l.length + m.length := rfl
      have h10 : std.leN (l.length + m.length) 1000000000000 = true := le_std hl
      have h11 : baseOk std σ 5 (l.length + m.length) (.sl b 0 l.length c ex 1) = true := by
        simp [baseOk, hg, AObj.cellsy, AObj.elem, AObj.isRo, ht]
      have hb6 : b < 1000000 := by omega
      have hkn := killA_next std σ (l.length + m.length) (.sl b 0 l.length c ex 1)
      have hkg := killA_get std σ (l.length + m.length) b 0 l.length c 1 ex hb6
      generalize hσk : killA std σ (l.length + m.length) (.sl b 0 l.length c ex 1) = σk at hkn hkg
      have hnew : (σk.new (.ints .u8 (l ++ m) 5 .more)).get σk.next = some (.ints .u8 (l ++ m) 5 .more) := get_new (by omega)
      refine ⟨.sl σ.next 0 (l.length + m.length) (l.length + m.length) false 1, σk.new (.ints .u8 (l ++ m) 5 .more), ?_, ?_, fun k hk2 => ?_, by show σ.next ≤ σk.next + 1; omega, by show σk.next + 1 ≤ _; omega⟩
      · have h12 : std.app l m = l ++ m := rfl
        have h13 : decide (IntKind.u8 = IntKind.u8) = true := rfl
        simp only [hz, Bool.false_and, cond_false, appN, hx, h8, catA, h9, h10, h11, h12, h13, h6, hσk, decide_true, Bool.and_true, Bool.not_false]
      · rw [← List.length_append]
        exact .sl _ _ _ _ .more hN (by show _ < σk.next + 1; omega) (by rw [← hkn]; exact hnew) rfl (Nat.le_refl _)
      · rw [(Grown.new (o := .ints .u8 (l ++ m) 5 .more) (by omega : σk.next < 1000000)).get k (by omega)]
        exact hkg k (by omega)
theorem row_str (σ : AH) (s : List UInt8) : rowA std true 1 σ (.str s) = (true, (bI s).length, .ints .u8 (bI s)) := by
  rw [bI_length]; rfl
section
variable {a b : Int} {k : IntKind}
theorem b_ge (h : b ≤ a) : binI std .geq k a b = (true, .bool true) := by simp only [binI, std, h, decide_true]
theorem b_ge' (h : ¬b ≤ a) : binI std .geq k a b = (true, .bool false) := by simp only [binI, std, h, decide_false]
theorem b_gt' (h : ¬b < a) : binI std .gtr k a b = (true, .bool false) := by simp only [binI, std, h, decide_false]
theorem b_ne' (h : a = b) : binI std .neq k a b = (true, .bool false) := by simp only [binI, std, h, decide_true, Bool.not_true]
theorem b_add {c : Int} (h : wr k (a + b) = c) : binI std .add k a b = (true, .int k c) := by subst h; rfl
end
theorem wr_u64 {n : Nat} (h : n < 18446744073709551616) : wr .u64 n = n := by show (n : Int) % 18446744073709551616 = n; omega
theorem wr_i64 {n : Nat} (h : n < 9223372036854775808) : wr .i64 n = n := by show ((n : Int) + 9223372036854775808) % 18446744073709551616 - 9223372036854775808 = n; omega
/-- What Number is known to do. -/
def Has61 (Γ : Gam) : Prop := ∀ (n m : Nat) (σ : AH), n < 18446744073709551616 → m ≤ 8 → σ.next ≤ 990000 → Γ 61 [.int .u64 n, .int .i64 m] σ = (true, .sl σ.next 0 m m true 1, σ.new (.ints .u8 (bI (numL n m)) 5 .exact))
def c38 : ACode := (.seq (.reg [⟨(.aop (.mov (.lit (.bool false)))), (some 2), none⟩]) (.seq (.reg [⟨(.aop (.mov (.slot 0))), (some 3), none⟩, ⟨(.aop (.lenSl (.slot 3))), (some 4), none⟩, ⟨(.aop (.bin .geq (.slot 4) (.lit (.int .i64 (1))))), (some 5), none⟩, ⟨(.aop (.mov (.slot 5))), (some 6), none⟩, ⟨(.aop (.mov (.slot 0))), (some 7), (some ((.slot 6), true))⟩, ⟨(.aop (.lenSl (.slot 7))), (some 8), (some ((.slot 6), true))⟩, ⟨(.aop (.bin .leq (.slot 8) (.lit (.int .i64 (64))))), (some 9), (some ((.slot 6), true))⟩, ⟨(.aop (.pick (.slot 6) (.slot 9) (.lit (.bool false)))), (some 10), none⟩, ⟨(.aop (.mov (.slot 10))), (some 2), none⟩]) .ret))
theorem comp38 : (V2.compC Tryd.prog 4 Tryd.f38.ntmps (fun _ => false) (Tryd.f38.body.getD .skip), V2.compR Tryd.prog Tryd.f38.results.toList) = (some c38, some [(.tmp 2)]) := by kernel_rfl
theorem body38 : Tryd.f38.body = some (Tryd.f38.body.getD .skip) := by kernel_rfl
theorem cc38 : V2.compC Tryd.prog 4 Tryd.f38.ntmps (fun _ => false) (Tryd.f38.body.getD .skip) = some c38 := (Prod.mk.inj comp38).1
theorem cr38 : V2.compR Tryd.prog Tryd.f38.results.toList = some [(.tmp 2)] := (Prod.mk.inj comp38).2
def S38 (args : List AV) (σ : AH) (v : AV) : Prop := ∃ k bs, args = [k] ∧ IsB σ k (bI bs) ∧ v = .bool (decide (0 < bs.length) && decide (bs.length ≤ 64))
theorem walk38 {Γ : Gam} {σ : AH} {k : AV} {bs : List UInt8} (hk : IsB σ k (bI bs)) {K : AV → AH → Prop} (hK : K (.bool (decide (0 < bs.length) && decide (bs.length ≤ 64))) σ) :
    avc std Γ 4 11 σ.next c38 (fun e env σ' => (match e with | .normal => True | .ret => True | _ => False) ∧ (resL std env σ' [.tmp 2]).1 = true ∧ K (retV (resL std env σ' [.tmp 2]).2) σ') (envOf [k] 0 .leaf) σ := by
  unfold c38
  have hl : (bI bs).length = bs.length := bI_length bs
  by_cases h1 : 0 < bs.length
  · refine mv (v := .bool false) (by kernel_rfl) ?_
    refine avc_reg_nil ?_
    refine mv (v := k) (by kernel_rfl) ?_
    refine avc_reg_cons (g_lenb (v := k) (by kernel_rfl) hk) ?_
    refine avc_reg_cons (g_bin (op := .geq) (k := .i64) (k' := .i64) (a := ((bI bs).length : Nat)) (b := 1) (v := .bool true) (by kernel_rfl) (by kernel_rfl) rfl (b_ge (by rw [hl]; omega))) ?_
    refine mv (v := .bool true) (by kernel_rfl) ?_
    refine avc_reg_cons (g_if (by kernel_rfl) (g_mov (v := k) (by kernel_rfl))) ?_
    refine avc_reg_cons (g_if (by kernel_rfl) (g_lenb (v := k) (by kernel_rfl) hk)) ?_
    refine avc_reg_cons (g_if (by kernel_rfl) (g_bin (op := .leq) (k := .i64) (k' := .i64) (a := ((bI bs).length : Nat)) (b := 64) (v := .bool (decide (((bI bs).length : Int) ≤ 64))) (by kernel_rfl) (by kernel_rfl) rfl (rfl))) ?_
    refine avc_reg_cons (g_pick (v := .bool (decide (((bI bs).length : Int) ≤ 64))) (by kernel_rfl) (by kernel_rfl)) ?_
    refine mv (v := .bool (decide (((bI bs).length : Int) ≤ 64))) (by kernel_rfl) ?_
    refine avc_reg_nil ?_
    refine fin_ok (vs := [.bool (decide (((bI bs).length : Int) ≤ 64))]) (by kernel_rfl) ?_
    have e : decide (((bI bs).length : Int) ≤ 64) = (decide (0 < bs.length) && decide (bs.length ≤ 64)) := by rw [hl, decide_eq_true h1, Bool.true_and]; exact decide_eq_decide.2 (by omega)
    show K (.bool (decide (((bI bs).length : Int) ≤ 64))) σ
    rw [e]; exact hK
  · refine mv (v := .bool false) (by kernel_rfl) ?_
    refine avc_reg_nil ?_
    refine mv (v := k) (by kernel_rfl) ?_
    refine avc_reg_cons (g_lenb (v := k) (by kernel_rfl) hk) ?_
    refine avc_reg_cons (g_bin (op := .geq) (k := .i64) (k' := .i64) (a := ((bI bs).length : Nat)) (b := 1) (v := .bool false) (by kernel_rfl) (by kernel_rfl) rfl (b_ge' (by rw [hl]; omega))) ?_
    refine mv (v := .bool false) (by kernel_rfl) ?_
    refine avc_reg_cons (g_skip (by kernel_rfl)) ?_
    refine avc_reg_cons (g_skip (by kernel_rfl)) ?_
    refine avc_reg_cons (g_skip (by kernel_rfl)) ?_
    refine avc_reg_cons (g_pickf (v := .bool false) (by kernel_rfl) (by kernel_rfl)) ?_
    refine mv (v := .bool false) (by kernel_rfl) ?_
    refine avc_reg_nil ?_
    refine fin_ok (vs := [.bool false]) (by kernel_rfl) ?_
    rw [decide_eq_false h1, Bool.false_and] at hK; exact hK
theorem ok38 {Γ : Gam} (hΓ : GamOk Tryd.prog 4 Γ) : SOk Tryd.prog 4 38 (fun args σ v σ' => S38 args σ v ∧ σ' = σ) := by
  refine sok_pure hΓ Tryd.func38 body38 cc38 cr38 (by kernel_rfl) (by kernel_rfl) ?_
  rintro args σ v ⟨k, bs, rfl, hk, rfl⟩
  exact ⟨by kernel_rfl, rfl, walk38 (K := fun av σ' => av = .bool (decide (0 < bs.length) && decide (bs.length ≤ 64)) ∧ Grown σ σ') hk ⟨rfl, Grown.refl _⟩⟩
/-- What May is known to do. -/
def Has38 (Γ : Gam) : Prop := ∀ (k : AV) (bs : List UInt8) (σ : AH), IsB σ k (bI bs) → Γ 38 [k] σ = (true, .bool (decide (0 < bs.length) && decide (bs.length ≤ 64)), σ)
def c60 : ACode := (.seq (.reg [⟨(.aop (.mov (.lit .nilsl))), (some 2), none⟩, ⟨(.aop (.mov (.lit (.int .i64 (0))))), (some 3), none⟩]) (.seq (.seq (.reg [⟨(.aop (.mov (.slot 0))), (some 4), none⟩, ⟨(.aop (.lenStr (.slot 4))), (some 5), none⟩, ⟨(.aop (.bin .gtr (.slot 5) (.lit (.int .i64 (65535))))), (some 6), none⟩]) (.cond (.slot 6) (.seq (.reg [⟨(.aop (.mov (.lit .nilsl))), (some 2), none⟩, ⟨(.aop (.mov (.lit (.int .i64 (3))))), (some 3), none⟩]) .ret) .skip)) (.seq (.reg [⟨(.aop (.mov (.slot 0))), (some 7), none⟩, ⟨(.aop (.lenStr (.slot 7))), (some 8), none⟩, ⟨(.aop (.conv .u64 (.slot 8))), (some 9), none⟩, ⟨(.call (.lit (.fn (.func 61) [] [])) [(.slot 9), (.lit (.int .i64 (2)))]), (some 10), none⟩, ⟨(.aop (.mov (.slot 0))), (some 11), none⟩, ⟨(.aop (.ext (.append 5 true 1) [(.slot 10), (.slot 11)])), (some 12), none⟩, ⟨(.aop (.mov (.slot 12))), (some 2), none⟩, ⟨(.aop (.mov (.lit (.int .i64 (0))))), (some 3), none⟩]) .ret)))
theorem comp60 : (V2.compC Tryd.prog 4 Tryd.f60.ntmps (fun _ => false) (Tryd.f60.body.getD .skip), V2.compR Tryd.prog Tryd.f60.results.toList) = (some c60, some [(.tmp 2), (.tmp 3)]) := by kernel_rfl
theorem body60 : Tryd.f60.body = some (Tryd.f60.body.getD .skip) := by kernel_rfl
theorem cc60 : V2.compC Tryd.prog 4 Tryd.f60.ntmps (fun _ => false) (Tryd.f60.body.getD .skip) = some c60 := (Prod.mk.inj comp60).1
theorem cr60 : V2.compR Tryd.prog Tryd.f60.results.toList = some [(.tmp 2), (.tmp 3)] := (Prod.mk.inj comp60).2
/-- The contract of Text. -/
def S60 (args : List AV) (σ : AH) (v : AV) (σ' : AH) : Prop := ∃ (s : List UInt8) (w : AV), args = [.str s] ∧ s.length ≤ 65535 ∧ σ.next ≤ 980000 ∧ v = .tup [w, .int .i64 0] ∧ xstep std (σ.new (.ints .u8 (bI (numL s.length 2)) 5 .exact)) (.append 5 true 1) [.sl σ.next 0 2 2 true 1, .str s] = (true, w, σ')
theorem S60.uniq {args : List AV} {σ σ' σ1 : AH} {v v1 : AV} (h : S60 args σ v σ') (h' : S60 args σ v1 σ1) : v1 = v ∧ σ1 = σ' := by
  obtain ⟨s, w, rfl, _, _, rfl, h⟩ := h
  obtain ⟨s', w', e, _, _, rfl, h'⟩ := h'
  simp only [List.cons.injEq, AV.str.injEq, and_true] at e
  subst e
  rw [h] at h'
  simp only [Prod.mk.injEq, true_and] at h'
  obtain ⟨rfl, rfl⟩ := h'
  exact ⟨rfl, rfl⟩
theorem walk60 {Γ : Gam} (h61 : Has61 Γ) {σ σ' : AH} {s : List UInt8} {u : AV} (hs : s.length ≤ 65535) (hn : σ.next ≤ 980000) (hx : xstep std (σ.new (.ints .u8 (bI (numL s.length 2)) 5 .exact)) (.append 5 true 1) [.sl σ.next 0 2 2 true 1, .str s] = (true, u, σ')) {K : AV → AH → Prop} (hK : K (.tup [u, .int .i64 0]) σ') :
    avc std Γ 4 13 σ.next c60 (fun e env σ' => (match e with | .normal => True | .ret => True | _ => False) ∧ (resL std env σ' [.tmp 2, .tmp 3]).1 = true ∧ K (retV (resL std env σ' [.tmp 2, .tmp 3]).2) σ') (envOf [.str s] 0 .leaf) σ := by
  unfold c60
  refine mv (v := .nilsl) (by kernel_rfl) ?_
  refine mv (v := .int .i64 0) (by kernel_rfl) ?_
  refine avc_reg_nil ?_
  refine avc_seq_seq ?_
  refine mv (v := .str s) (by kernel_rfl) ?_
  refine avc_reg_cons (g_lenS (l := s) (by kernel_rfl)) ?_
  refine avc_reg_cons (g_bin (op := .gtr) (k := .i64) (k' := .i64) (a := (s.length : Nat)) (b := 65535) (v := .bool false) (by kernel_rfl) (by kernel_rfl) rfl (b_gt' (by omega))) ?_
  refine avc_reg_nil ?_
  refine avc_seq_cond (t := false) (by kernel_rfl) (fun h => by cases h) (fun _ => avc_seq_skip ?_)
  refine mv (v := .str s) (by kernel_rfl) ?_
  refine avc_reg_cons (g_lenS (l := s) (by kernel_rfl)) ?_
  refine avc_reg_cons (g_conv (k := .u64) (k' := .i64) (n := (s.length : Nat)) (m := (s.length : Nat)) (by kernel_rfl) (wr_u64 (by omega))) ?_
  refine avc_reg_cons (g_call (n := 61) (vs := [.int .u64 (s.length : Nat), .int .i64 2]) (by kernel_rfl) (by kernel_rfl) (h61 _ 2 _ (by omega) (by omega) (by omega))) ?_
  refine mv (v := .str s) (by kernel_rfl) ?_
  refine avc_reg_cons (g_ext (vs := [.sl σ.next 0 2 2 true 1, .str s]) (by kernel_rfl) hx) ?_
  refine mv (v := u) (by kernel_rfl) ?_
  refine mv (v := .int .i64 0) (by kernel_rfl) ?_
  refine avc_reg_nil ?_
  refine fin_ok (vs := [u, .int .i64 0]) (by kernel_rfl) hK
theorem ok60 {Γ : Gam} (hΓ : GamOk Tryd.prog 4 Γ) (h61 : Has61 Γ) : SOk Tryd.prog 4 60 S60 := by
  refine sok_same hΓ Tryd.func60 body60 cc60 cr60 (by kernel_rfl) (by kernel_rfl) ?_
  rintro args σ v σ1 ⟨s, w, rfl, hs, hn, rfl, hx⟩
  exact ⟨by kernel_rfl, fun _ => walk60 (K := fun av σ' => av = .tup [w, .int .i64 0] ∧ σ1.next = σ'.next ∧ ∀ b, σ1.get b = σ'.get b) h61 hs hn hx ⟨rfl, rfl, fun _ => rfl⟩⟩
/-- What Text is known to do. -/
def Has60 (Γ : Gam) : Prop := ∀ (s : List UInt8) (σ : AH), s.length ≤ 65535 → σ.next ≤ 980000 → ∃ w σ', Γ 60 [.str s] σ = (true, .tup [w, .int .i64 0], σ') ∧ IsA σ.next σ' w (bI (be2 s.length ++ s)) ∧ Grown σ σ' ∧ σ'.next ≤ σ.next + 2
theorem has60 {Γ : Gam} (h : ∀ args σ v σ', S60 args σ v σ' → Γ 60 args σ = (true, v, σ')) : Has60 Γ := by
  intro s σ hs hn
  have hA : IsA σ.next (σ.new (.ints .u8 (bI (numL s.length 2)) 5 .exact)) (.sl σ.next 0 2 2 true 1) (bI (numL s.length 2)) := .sl σ.next 2 true (bI (numL s.length 2)) .exact (Nat.le_refl _) (Nat.lt_succ_self _) (get_new (by omega)) rfl (by show 2 ≤ 2; omega)
  obtain ⟨w, σ', e1, e2, e3, e4, e5⟩ := hA.app (str := true) (x := .str s) (m := bI s) (r := .ints .u8 (bI s)) (by show σ.next + 1 < _; omega) (Nat.le_succ _) (row_str _ s) (.inl rfl) (by rw [bI_length, bI_length]; have := numL_length s.length 2; omega)
  refine ⟨w, σ', h _ _ _ _ ⟨s, w, rfl, hs, hn, rfl, e1⟩, ?_, ⟨Nat.le_trans (Nat.le_succ _) e4, fun b hb => (e3 b hb).trans ((Grown.new (by omega)).get b hb)⟩, e5⟩
  rw [numL2] at e2
  have : bI (be2 s.length ++ s) = bI (be2 s.length) ++ bI s := by unfold bI; rw [List.map_append]
  rw [this]; exact e2
end Go.Proofs.YtjkicmlelilcaaaDoor.V2
namespace Go.Proofs.YtjkicmlelilcaaaDoor.V2
open Go
open Go.RowKit
/-- What the reference's Hmac is known to do. -/
def Has15 (Γ : Gam) : Prop := ∀ (σ : AH) (k v : AV) (kl l : List UInt8), Tabs σ → IsB σ k (bI kl) → IsB σ v (bI l) → kl.length ≤ 10000000000 → l.length ≤ 10000000000 → Γ 15 [k, v] σ = (true, .ints .u8 (bI (hmB kl l)), σ)
theorem allInt_map (k : IntKind) (l : List Int) : allInt k (l.map (AV.int k)) = some l := by
  induction l with
  | nil => rfl
  | cons a l ih => simp [allInt, ih]
theorem of_ints (k : IntKind) (l : List Int) (e : TypeId) (t : Tl) (h : l ≠ []) : AObj.of (l.map (AV.int k)) e t = .ints k l e t := by
  cases l with
  | nil => exact absurd rfl h
  | cons a l => simp [AObj.of, allInt_map]
theorem lay_all (l m : List Int) (h : m.length = l.length) : std.lay l 0 m = m := by
  show l.take 0 ++ m ++ l.drop (0 + m.length) = m
  rw [h, Nat.zero_add, List.drop_length, List.take_zero, List.nil_append, List.append_nil]
/-- A block of bytes is laid anew. -/
theorem g_storeAll {Γ : Gam} {σ : AH} {ev : Ref → AV} {d : Option Nat} {p x : Ref} {b : Nat} {l m : List Int} {e : TypeId} {n : Nat} (hp : ev p = .ptr b 0) (hx : ev x = .ints .u8 m) (hg : σ.get b = some (.ints .u8 l e .exact)) (hl : l.length = n) (hm : m.length = n) : gstep std Γ ev σ ⟨.aop (.store n p x), d, none⟩ = (true, .tup [], σ.put b (.ints .u8 m e .exact)) := by
  have h := g_store (Γ := Γ) (d := d) hp hx hg (by
    have : Nat.ble (0 + m.length) l.length = true := by rw [Nat.ble_eq]; omega
    simp [AObj.writeOk, Tl.isRo, std]; omega) (show (AV.ints .u8 m).size std = n from hm)
  rw [h]
  show (true, AV.tup [], σ.put b (.ints .u8 (std.lay l 0 m) e .exact)) = _
  rw [lay_all l m (by omega)]
theorem num_step {H : List UInt8} {k : Nat} (hk : k < 8) : wr .u64 (wr .u64 (256 * ((num H k : Nat) : Int)) + N8 (at8 H k)) = ((num H (k + 1) : Nat) : Int) := by
  have h1 := num_small H k hk
  have h2 := (at8 H k).toNat_lt
  have e1 : wr .u64 (256 * ((num H k : Nat) : Int)) = ((num H k * 256 : Nat) : Int) := by
    show (256 * ((num H k : Nat) : Int)) % 18446744073709551616 = _; omega
  rw [e1]
  show (((num H k * 256 : Nat) : Int) + ((at8 H k).toNat : Int)) % 18446744073709551616 = ((num H k * 256 + (at8 H k).toNat : Nat) : Int)
  omega
def c26 : ACode := (.seq (.reg [⟨(.aop (.box 23 (.slot 0))), (some 2), none⟩, ⟨(.aop (.mov (.lit (.int .u64 (0))))), (some 4), none⟩]) (.seq (.reg [⟨(.aop (.slArr 32 1 (.slot 2) none none none)), (some 8), none⟩, ⟨(.aop (.mov (.slot 1))), (some 9), none⟩, ⟨(.call (.lit (.fn (.func 15) [] [])) [(.slot 8), (.slot 9)]), (some 10), none⟩, ⟨(.aop (.alloc 23 [(.int .u8 (0)), (.int .u8 (0)), (.int .u8 (0)), (.int .u8 (0)), (.int .u8 (0)), (.int .u8 (0)), (.int .u8 (0)), (.int .u8 (0)), (.int .u8 (0)), (.int .u8 (0)), (.int .u8 (0)), (.int .u8 (0)), (.int .u8 (0)), (.int .u8 (0)), (.int .u8 (0)), (.int .u8 (0)), (.int .u8 (0)), (.int .u8 (0)), (.int .u8 (0)), (.int .u8 (0)), (.int .u8 (0)), (.int .u8 (0)), (.int .u8 (0)), (.int .u8 (0)), (.int .u8 (0)), (.int .u8 (0)), (.int .u8 (0)), (.int .u8 (0)), (.int .u8 (0)), (.int .u8 (0)), (.int .u8 (0)), (.int .u8 (0))])), (some 5), none⟩, ⟨(.aop (.store 32 (.slot 5) (.slot 10))), none, none⟩]) (.seq (.reg [⟨(.aop (.mov (.lit (.int .u64 (0))))), (some 6), none⟩]) (.seq (.seq (.reg [⟨(.aop (.mov (.lit (.int .i64 (0))))), (some 7), none⟩]) (.block 0 (.loop (.seq (.seq (.reg [⟨(.aop (.mov (.slot 7))), (some 11), none⟩, ⟨(.aop (.bin .lss (.slot 11) (.lit (.int .i64 (8))))), (some 12), none⟩]) (.cond (.slot 12) .skip (.exit 0))) (.seq (.block 1 (.reg [⟨(.aop (.mov (.slot 6))), (some 15), none⟩, ⟨(.aop (.bin .mul (.lit (.int .u64 (256))) (.slot 15))), (some 16), none⟩, ⟨(.aop (.mov (.slot 7))), (some 17), none⟩, ⟨(.aop (.idxArr 32 1 (.slot 5) (.slot 17))), (some 18), none⟩, ⟨(.aop (.load1 (.slot 18))), (some 19), none⟩, ⟨(.aop (.conv .u64 (.slot 19))), (some 20), none⟩, ⟨(.aop (.bin .add (.slot 16) (.slot 20))), (some 21), none⟩, ⟨(.aop (.mov (.slot 21))), (some 6), none⟩])) (.reg [⟨(.aop (.mov (.slot 7))), (some 13), none⟩, ⟨(.aop (.bin .add (.slot 13) (.lit (.int .i64 (1))))), (some 14), none⟩, ⟨(.aop (.mov (.slot 14))), (some 7), none⟩])))))) (.seq (.reg [⟨(.aop (.mov (.slot 6))), (some 22), none⟩, ⟨(.aop (.mov (.slot 22))), (some 4), none⟩]) .ret)))))
theorem comp26 : (V2.compC Tryd.prog 4 Tryd.f26.ntmps (fun _ => false) (Tryd.f26.body.getD .skip), V2.compR Tryd.prog Tryd.f26.results.toList) = (some c26, some [(.tmp 4)]) := by kernel_rfl
theorem body26 : Tryd.f26.body = some (Tryd.f26.body.getD .skip) := by kernel_rfl
theorem cc26 : V2.compC Tryd.prog 4 Tryd.f26.ntmps (fun _ => false) (Tryd.f26.body.getD .skip) = some c26 := (Prod.mk.inj comp26).1
theorem cr26 : V2.compR Tryd.prog Tryd.f26.results.toList = some [(.tmp 4)] := (Prod.mk.inj comp26).2
theorem wr_n8 (b : UInt8) : wr .u64 (N8 b) = N8 b := by
  have h := b.toNat_lt
  show ((b.toNat : Nat) : Int) % 18446744073709551616 = ((b.toNat : Nat) : Int); omega
def S26 (args : List AV) (σ : AH) (v : AV) : Prop := ∃ (k bs : List UInt8) (b : AV), args = [.ints .u8 (bI k), b] ∧ k.length = 32 ∧ IsB σ b (bI bs) ∧ bs.length ≤ 1000000000 ∧ Tabs σ ∧ σ.next ≤ 980000 ∧ v = .int .u64 (num (hmB k bs) 8 : Nat)
set_option maxHeartbeats 400000 in
theorem walk26 {Γ : Gam} (h15 : Has15 Γ) {σ : AH} {k bs : List UInt8} {b : AV} (hk : k.length = 32) (hb : IsB σ b (bI bs)) (hbl : bs.length ≤ 1000000000) (hT : Tabs σ) (hs : σ.next ≤ 980000) {K : AV → AH → Prop} (hK : ∀ σ', Grown σ σ' → K (.int .u64 (num (hmB k bs) 8 : Nat)) σ') :
    avc std Γ 4 23 σ.next c26 (fun e env σ' => (match e with | .normal => True | .ret => True | _ => False) ∧ (resL std env σ' [.tmp 4]).1 = true ∧ K (retV (resL std env σ' [.tmp 4]).2) σ') (envOf [.ints .u8 (bI k), b] 0 .leaf) σ := by
  have hT' := hT.n
  obtain ⟨H, hH⟩ : ∃ H, H = hmB k bs := ⟨_, rfl⟩
  have hHl : H.length = 32 := by rw [hH]; exact hmB_length _ _
  rw [← hH] at hK
  have hkl : (bI k).length = 32 := by rw [bI_length]; exact hk
  have hHI : (bI H).length = 32 := by rw [bI_length]; exact hHl
  unfold c26
  refine avc_reg_cons (g_box (v := .ints .u8 (bI k)) (by kernel_rfl) rfl (of_ints .u8 (bI k) 23 .exact (by intro h; rw [h] at hkl; cases hkl)) (by omega)) ?_
  dsimp only
  have gr1 : Grown σ (σ.new (.ints .u8 (bI k) 23 .exact)) := Grown.new (by omega)
  have hg1 : (σ.new (.ints .u8 (bI k) 23 .exact)).get σ.next = some (.ints .u8 (bI k) 23 .exact) := get_new (by omega)
  have hx1 : (σ.new (.ints .u8 (bI k) 23 .exact)).next = σ.next + 1 := rfl
  generalize σ.new (.ints .u8 (bI k) 23 .exact) = σ1 at gr1 hg1 hx1 ⊢
  refine mv (v := .int .u64 0) (by kernel_rfl) ?_
  refine avc_reg_nil ?_
  refine avc_reg_cons (g_slArr (b := σ.next) (o := 0) (ob := .ints .u8 (bI k) 23 .exact) (by kernel_rfl) hg1 (by show Nat.ble (0 + 32 * 1) (bI k).length = true; rw [hkl]; rfl)) ?_
  have hkB : IsB σ1 (.sl σ.next 0 32 32 true 1) (bI k) := .sl σ.next 0 32 32 true (bI k) (bI k) 23 .exact (by omega) hg1 (by omega) (by omega) (by rw [List.drop_zero, ← hkl, List.take_length])
  refine mv (v := b) (by kernel_rfl) ?_
  refine avc_reg_cons (g_call (n := 15) (vs := [.sl σ.next 0 32 32 true 1, b]) (by kernel_rfl) (by kernel_rfl) (h15 σ1 _ _ k bs (hT.mono gr1) hkB (hb.mono gr1) (by omega) (by omega))) ?_
  refine avc_reg_cons (g_alloc (o := .ints .u8 Z32 23 .exact) (by kernel_rfl) (by omega)) ?_
  dsimp only
  rw [← hH]
  have gr2 : Grown σ1 (σ1.new (.ints .u8 Z32 23 .exact)) := Grown.new (by omega)
  have hg2 : (σ1.new (.ints .u8 Z32 23 .exact)).get σ1.next = some (.ints .u8 Z32 23 .exact) := get_new (by omega)
  have hx2 : (σ1.new (.ints .u8 Z32 23 .exact)).next = σ1.next + 1 := rfl
  generalize σ1.new (.ints .u8 Z32 23 .exact) = σ2 at gr2 hg2 hx2 ⊢
  refine avc_reg_cons (g_storeAll (b := σ1.next) (m := bI H) (by kernel_rfl) (by kernel_rfl) hg2 rfl hHI) ?_
  dsimp only
  have gr3 : Grown σ (σ2.put σ1.next (.ints .u8 (bI H) 23 .exact)) := (gr1.trans gr2).put (by omega) (by omega)
  have hg3 : (σ2.put σ1.next (.ints .u8 (bI H) 23 .exact)).get σ1.next = some (.ints .u8 (bI H) 23 .exact) := by rw [get_put (by omega), if_pos rfl]
  have hx3 : (σ2.put σ1.next (.ints .u8 (bI H) 23 .exact)).next = σ2.next := rfl
  generalize σ2.put σ1.next (.ints .u8 (bI H) 23 .exact) = σ3 at gr3 hg3 hx3 ⊢
  refine avc_reg_nil ?_
  refine mv (v := .int .u64 0) (by kernel_rfl) ?_
  refine avc_reg_nil ?_
  refine avc_seq_seq ?_
  refine mv (v := .int .i64 0) (by kernel_rfl) ?_
  refine avc_reg_nil ?_
  refine avc_seq_block (avc_loop (fun env σ' => ∃ k : Nat, k ≤ 8 ∧ env = ofL [(5, .ptr σ1.next 0), (6, .int .u64 (num H k : Nat)), (7, .int .i64 (k : Nat))] ∧ σ' = σ3) (fun env _ => (8 - intAt env 7).toNat)
    (Wk.env (l := [(5, .ptr σ1.next 0), (6, .int .u64 (num H 0 : Nat)), (7, .int .i64 (0 : Nat))]) ⟨⟨by kernel_rfl, rfl⟩, ⟨by kernel_rfl, rfl⟩, ⟨by kernel_rfl, rfl⟩, trivial⟩ (by omega)) ⟨0, by omega, rfl, rfl⟩ ?_)
  rintro env σ' ⟨k, hk8, rfl, rfl⟩
  refine avc_seq_seq ?_
  refine mv (v := .int .i64 (k : Nat)) (by kernel_rfl) ?_
  refine avc_reg_cons (g_bin (op := .lss) (k := .i64) (k' := .i64) (a := (k : Nat)) (b := 8) (v := .bool (decide ((k : Int) < 8))) (by kernel_rfl) (by kernel_rfl) rfl (rfl)) ?_
  refine avc_reg_nil ?_
  refine avc_seq_cond (t := decide ((k : Int) < 8)) (by kernel_rfl) (fun ht => ?_) (fun ht => ?_)
  · have hk7 : k < 8 := by simp at ht; omega
    refine avc_seq_skip (avc_seq_block ?_)
    refine mv1 (v := .int .u64 ((num H k : Nat) : Int)) (by kernel_rfl) ?_
    refine avc_one_cons (g_bin (op := .mul) (k := .u64) (k' := .u64) (a := 256) (b := ((num H k : Nat) : Int)) (v := .int .u64 (wr .u64 (256 * ((num H k : Nat) : Int)))) (by kernel_rfl) (by kernel_rfl) rfl (rfl)) ?_
    refine mv1 (v := .int .i64 (k : Nat)) (by kernel_rfl) ?_
    refine avc_one_cons (g_idxArr (b := σ1.next) (o := 0) (k := .i64) (m := k) (by kernel_rfl) (by kernel_rfl) (by omega)) ?_
    refine avc_one_cons (g_load1 (b := σ1.next) (off := 0 + k * 1) (v := .int .u8 (N8 (at8 H k))) (by kernel_rfl) hg3 (by show Nat.blt (0 + k * 1) (bI H).length = true; rw [Nat.blt_eq]; omega) (by show AV.int .u8 ((bI H).getD (0 + k * 1) 0) = _; rw [show 0 + k * 1 = k by omega, bI_getD])) ?_
    refine avc_one_cons (g_conv (k := .u64) (k' := .u8) (n := N8 (at8 H k)) (m := N8 (at8 H k)) (by kernel_rfl) (wr_n8 _)) ?_
    refine avc_one_cons (g_bin (op := .add) (k := .u64) (k' := .u64) (a := (wr .u64 (256 * ((num H k : Nat) : Int)))) (b := (N8 (at8 H k))) (v := .int .u64 ((num H (k + 1) : Nat) : Int)) (by kernel_rfl) (by kernel_rfl) rfl (b_add (num_step hk7))) ?_
    refine mv1 (v := .int .u64 ((num H (k + 1) : Nat) : Int)) (by kernel_rfl) ?_
    refine avc_one_nil ?_
    refine k_bseq ?_
    refine mv1 (v := .int .i64 (k : Nat)) (by kernel_rfl) ?_
    refine avc_one_cons (g_bin (op := .add) (k := .i64) (k' := .i64) (a := (k : Nat)) (b := 1) (v := .int .i64 ((k + 1 : Nat) : Int)) (by kernel_rfl) (by kernel_rfl) rfl (b_add (wr_i64 (n := k + 1) (by omega)))) ?_
    refine mv1 (v := .int .i64 ((k + 1 : Nat) : Int)) (by kernel_rfl) ?_
    refine avc_one_nil ?_
    refine ⟨_, _, Wk.env (l := [(5, .ptr σ1.next 0), (6, .int .u64 (num H (k + 1) : Nat)), (7, .int .i64 ((k + 1) : Nat))]) ⟨⟨by kernel_rfl, rfl⟩, ⟨by kernel_rfl, rfl⟩, ⟨by kernel_rfl, rfl⟩, trivial⟩ (by have := gr3.next; omega), ⟨k + 1, hk7, rfl, rfl⟩, ?_⟩
    rw [intAt_of (k := .i64) (n := ((k + 1 : Nat) : Int)) (by kernel_rfl), intAt_of (k := .i64) (n := (k : Int)) (by kernel_rfl)]
    omega
  · have hk7 : k = 8 := by simp at ht; omega
    subst hk7
    refine avc_seq_exit (k_sexit (k_exit ?_))
    refine mv (v := .int .u64 (num H 8 : Nat)) (by kernel_rfl) ?_
    refine mv (v := .int .u64 (num H 8 : Nat)) (by kernel_rfl) ?_
    refine avc_reg_nil ?_
    refine fin_ok (vs := [.int .u64 (num H 8 : Nat)]) (by kernel_rfl) (hK _ gr3)
theorem ok26 {Γ : Gam} (hΓ : GamOk Tryd.prog 4 Γ) (h15 : Has15 Γ) : SOk Tryd.prog 4 26 (fun args σ v σ' => S26 args σ v ∧ σ' = σ) := by
  refine sok_pure hΓ Tryd.func26 body26 cc26 cr26 (by kernel_rfl) (by kernel_rfl) ?_
  rintro args σ v ⟨k, bs, b, rfl, hk, hb, hl, hT, hs, rfl⟩
  exact ⟨by kernel_rfl, rfl, walk26 (K := fun av σ' => av = .int .u64 (num (hmB k bs) 8 : Nat) ∧ Grown σ σ') h15 hk hb hl hT hs fun σ' h => ⟨rfl, h⟩⟩
/-- What the reference's Tag is known to do. -/
def Has26 (Γ : Gam) : Prop := ∀ (k bs : List UInt8) (b : AV) (σ : AH), k.length = 32 → IsB σ b (bI bs) → bs.length ≤ 1000000000 → Tabs σ → σ.next ≤ 980000 → Γ 26 [.ints .u8 (bI k), b] σ = (true, .int .u64 (num (hmB k bs) 8 : Nat), σ)
end Go.Proofs.YtjkicmlelilcaaaDoor.V2
namespace Go.Proofs.YtjkicmlelilcaaaDoor.V2
open Go
open Go.RowKit
/-- A slice of slices of bytes. -/
inductive IsP (σ : AH) : AV → List (List UInt8) → Prop
  | nil : IsP σ .nilsl []
  | sl (b o n c : Nat) (ex : Bool) (m : List AV) (e : TypeId) (tl : Tl) (ps : List (List UInt8)) (hb : b < σ.next) (hg : σ.get b = some (.cells m e tl)) (hn : o + n ≤ m.length) (hk : n ≤ c) (h1 : m.all AV.one = true) (hl : ps.length = n) (he : ∀ j, j < n → ∃ a, m[o + j]? = some a ∧ IsB σ a (bI (atP ps j))) : IsP σ (.sl b o n c ex 1) ps
theorem IsP.mono {σ σ' : AH} {v : AV} {ps : List (List UInt8)} (h : IsP σ v ps) (g : Grown σ σ') : IsP σ' v ps := by
  cases h with
  | nil => exact .nil
  | sl b o n c ex m e tl ps hb hg hn hk h1 hl he => exact .sl b o n c ex m e tl ps (Nat.lt_of_lt_of_le hb g.next) (by rw [g.get b hb]; exact hg) hn hk h1 hl fun j hj => by obtain ⟨a, h1, h2⟩ := he j hj; exact ⟨a, h1, h2.mono g⟩
theorem IsP.at {σ : AH} {v : AV} {ps : List (List UInt8)} (h : IsP σ v ps) {i : Nat} (hi : i < ps.length) : ∃ b o n c ex m e tl a, v = .sl b o n c ex 1 ∧ i < n ∧ σ.get b = some (.cells m e tl) ∧ o + i * 1 < m.length ∧ m.getD (o + i * 1) .top = a ∧ IsB σ a (bI (atP ps i)) := by
  cases h with
  | nil => cases hi
  | sl b o n c ex m e tl ps hb hg hn hk h1 hl he =>
    obtain ⟨a, h2, h3⟩ := he i (by omega)
    refine ⟨b, o, n, c, ex, m, e, tl, a, rfl, by omega, hg, by omega, ?_, h3⟩
    rw [Nat.mul_one, List.getD_eq_getElem?_getD, h2]; rfl
theorem g_lenP {A : Ar} {Γ : Gam} {σ : AH} {ev : Ref → AV} {d : Option Nat} {x : Ref} {v : AV} {ps : List (List UInt8)} (h : ev x = v) (hv : IsP σ v ps) : gstep A Γ ev σ ⟨.aop (.lenSl x), d, none⟩ = (true, .int .i64 ps.length, σ) := by
  have e : gstep A Γ ev σ ⟨.aop (.lenSl x), d, none⟩ = (match ev x with | .sl _ _ n _ _ _ => (true, .int .i64 n, σ) | .nilsl => (true, .int .i64 0, σ) | _ => bad σ) := rfl
  rw [e, h]
  cases hv with
  | nil => rfl
  | sl b o n c ex m e tl ps hb hg hn hk h1 hl he => simp only [hl]
theorem resV_cell {env : T AV} {σ : AH} {a b n : Nat} {k : IntKind} {l : List Int} {e : TypeId} {t : Tl} (he : evS env (.slot a) = .ptr b 0) (hg : σ.get b = some (.ints k l e t)) (hl : l.length = n) : resV std env σ (.cellN a n) = (true, .ints k l) := by
  subst hl
  have h1 : std.leN (std.addN 0 l.length) (std.len l) = true := le_std (by show 0 + l.length ≤ l.length; omega)
  have h2 : std.part l 0 l.length = l := by show (l.drop 0).take l.length = l; simp
  simp only [resV, oLoadN, he, hg, AObj.readOk, AObj.read, h1, h2]
theorem resL2 {env : T AV} {σ : AH} {r r' : ARes} {v v' : AV} (h : resV std env σ r = (true, v)) (h' : resV std env σ r' = (true, v')) : resL std env σ [r, r'] = (true, [v, v']) := by simp [resL, h, h']
/-- May a secret be? -/
def mayB (key : List UInt8) : Bool := decide (0 < key.length) && decide (key.length ≤ 64)
def c24 : ACode := (.seq (.reg [⟨(.aop (.alloc 23 [(.int .u8 (0)), (.int .u8 (0)), (.int .u8 (0)), (.int .u8 (0)), (.int .u8 (0)), (.int .u8 (0)), (.int .u8 (0)), (.int .u8 (0)), (.int .u8 (0)), (.int .u8 (0)), (.int .u8 (0)), (.int .u8 (0)), (.int .u8 (0)), (.int .u8 (0)), (.int .u8 (0)), (.int .u8 (0)), (.int .u8 (0)), (.int .u8 (0)), (.int .u8 (0)), (.int .u8 (0)), (.int .u8 (0)), (.int .u8 (0)), (.int .u8 (0)), (.int .u8 (0)), (.int .u8 (0)), (.int .u8 (0)), (.int .u8 (0)), (.int .u8 (0)), (.int .u8 (0)), (.int .u8 (0)), (.int .u8 (0)), (.int .u8 (0))])), (some 6), none⟩, ⟨(.aop (.mov (.lit (.int .i64 (0))))), (some 7), none⟩]) (.seq (.reg [⟨(.aop (.mov (.slot 1))), (some 12), none⟩, ⟨(.call (.lit (.fn (.func 60) [] [])) [(.slot 12)]), (some 13), none⟩, ⟨(.aop (.mov (.slot 13))), (some 11), none⟩, ⟨(.aop (.extract (.slot 11) 0)), (some 14), none⟩, ⟨(.aop (.extract (.slot 11) 1)), (some 15), none⟩, ⟨(.aop (.mov (.slot 14))), (some 8), none⟩, ⟨(.aop (.mov (.slot 15))), (some 9), none⟩]) (.seq (.seq (.reg [⟨(.aop (.mov (.slot 0))), (some 16), none⟩, ⟨(.call (.lit (.fn (.func 38) [] [])) [(.slot 16)]), (some 17), none⟩, ⟨(.aop (.un .not (.slot 17))), (some 18), none⟩, ⟨(.aop (.mov (.slot 18))), (some 19), none⟩, ⟨(.aop (.mov (.slot 9))), (some 20), (some ((.slot 19), false))⟩, ⟨(.aop (.bin .neq (.slot 20) (.lit (.int .i64 (0))))), (some 21), (some ((.slot 19), false))⟩, ⟨(.aop (.pick (.slot 19) (.lit (.bool true)) (.slot 21))), (some 22), none⟩]) (.cond (.slot 22) (.seq (.reg [⟨(.aop (.pur (.build [(.int .u8 (0)), (.int .u8 (0)), (.int .u8 (0)), (.int .u8 (0)), (.int .u8 (0)), (.int .u8 (0)), (.int .u8 (0)), (.int .u8 (0)), (.int .u8 (0)), (.int .u8 (0)), (.int .u8 (0)), (.int .u8 (0)), (.int .u8 (0)), (.int .u8 (0)), (.int .u8 (0)), (.int .u8 (0)), (.int .u8 (0)), (.int .u8 (0)), (.int .u8 (0)), (.int .u8 (0)), (.int .u8 (0)), (.int .u8 (0)), (.int .u8 (0)), (.int .u8 (0)), (.int .u8 (0)), (.int .u8 (0)), (.int .u8 (0)), (.int .u8 (0)), (.int .u8 (0)), (.int .u8 (0)), (.int .u8 (0)), (.int .u8 (0))] []) [])), (some 23), none⟩, ⟨(.aop (.store 32 (.slot 6) (.slot 23))), none, none⟩, ⟨(.aop (.mov (.lit (.int .i64 (1))))), (some 7), none⟩]) .ret) .skip)) (.seq (.seq (.reg [⟨(.aop (.mov (.lit (.int .i64 (0))))), (some 10), none⟩]) (.block 0 (.loop (.seq (.seq (.reg [⟨(.aop (.mov (.slot 10))), (some 24), none⟩, ⟨(.aop (.mov (.slot 2))), (some 25), none⟩, ⟨(.aop (.lenSl (.slot 25))), (some 26), none⟩, ⟨(.aop (.bin .lss (.slot 24) (.slot 26))), (some 27), none⟩]) (.cond (.slot 27) .skip (.exit 0))) (.seq (.block 1 (.seq (.reg [⟨(.aop (.mov (.slot 8))), (some 30), none⟩, ⟨(.aop (.mov (.slot 2))), (some 31), none⟩, ⟨(.aop (.mov (.slot 10))), (some 32), none⟩, ⟨(.aop (.idxSl 1 (.slot 31) (.slot 32))), (some 33), none⟩, ⟨(.aop (.load1 (.slot 33))), (some 34), none⟩, ⟨(.aop (.lenSl (.slot 34))), (some 35), none⟩, ⟨(.aop (.conv .u64 (.slot 35))), (some 36), none⟩, ⟨(.call (.lit (.fn (.func 61) [] [])) [(.slot 36), (.lit (.int .i64 (4)))]), (some 37), none⟩, ⟨(.aop (.ext (.append 5 false 1) [(.slot 30), (.slot 37)])), (some 38), none⟩, ⟨(.aop (.mov (.slot 38))), (some 8), none⟩]) (.reg [⟨(.aop (.mov (.slot 8))), (some 39), none⟩, ⟨(.aop (.mov (.slot 2))), (some 40), none⟩, ⟨(.aop (.mov (.slot 10))), (some 41), none⟩, ⟨(.aop (.idxSl 1 (.slot 40) (.slot 41))), (some 42), none⟩, ⟨(.aop (.load1 (.slot 42))), (some 43), none⟩, ⟨(.aop (.ext (.append 5 false 1) [(.slot 39), (.slot 43)])), (some 44), none⟩, ⟨(.aop (.mov (.slot 44))), (some 8), none⟩]))) (.reg [⟨(.aop (.mov (.slot 10))), (some 28), none⟩, ⟨(.aop (.bin .add (.slot 28) (.lit (.int .i64 (1))))), (some 29), none⟩, ⟨(.aop (.mov (.slot 29))), (some 10), none⟩])))))) (.seq (.reg [⟨(.aop (.mov (.slot 0))), (some 45), none⟩, ⟨(.aop (.mov (.slot 8))), (some 46), none⟩, ⟨(.call (.lit (.fn (.func 15) [] [])) [(.slot 45), (.slot 46)]), (some 47), none⟩, ⟨(.aop (.store 32 (.slot 6) (.slot 47))), none, none⟩, ⟨(.aop (.mov (.lit (.int .i64 (0))))), (some 7), none⟩]) .ret)))))
theorem comp24 : (V2.compC Tryd.prog 4 Tryd.f24.ntmps (fun _ => false) (Tryd.f24.body.getD .skip), V2.compR Tryd.prog Tryd.f24.results.toList) = (some c24, some [(.cellN 6 32), (.tmp 7)]) := by kernel_rfl
theorem body24 : Tryd.f24.body = some (Tryd.f24.body.getD .skip) := by kernel_rfl
theorem cc24 : V2.compC Tryd.prog 4 Tryd.f24.ntmps (fun _ => false) (Tryd.f24.body.getD .skip) = some c24 := (Prod.mk.inj comp24).1
theorem cr24 : V2.compR Tryd.prog Tryd.f24.results.toList = some [(.cellN 6 32), (.tmp 7)] := (Prod.mk.inj comp24).2
def derV (key s : List UInt8) (ps : List (List UInt8)) : AV := bif mayB key then .tup [.ints .u8 (bI (hmB key (layB s ps))), .int .i64 0] else .tup [.ints .u8 Z32, .int .i64 1]
def S24 (args : List AV) (σ : AH) (v : AV) : Prop := ∃ (key s : List UInt8) (ps : List (List UInt8)) (k p : AV), args = [k, .str s, p] ∧ IsB σ k (bI key) ∧ IsP σ p ps ∧ key.length ≤ 1000000000 ∧ s.length ≤ 65535 ∧ ps.length ≤ 1000 ∧ ps.flatten.length ≤ 100000000 ∧ Tabs σ ∧ σ.next ≤ 960000 ∧ v = derV key s ps
set_option maxHeartbeats 1000000 in
theorem walk24 {Γ : Gam} (h15 : Has15 Γ) (h38 : Has38 Γ) (h60 : Has60 Γ) (h61 : Has61 Γ) {σ : AH} {key s : List UInt8} {ps : List (List UInt8)} {k p : AV} (hk : IsB σ k (bI key)) (hp : IsP σ p ps) (hkl : key.length ≤ 1000000000) (hsl : s.length ≤ 65535) (hpl : ps.length ≤ 1000) (hpf : ps.flatten.length ≤ 100000000) (hT : Tabs σ) (hs : σ.next ≤ 960000)
    {K : AV → AH → Prop} (hK : ∀ σ', Grown σ σ' → K (derV key s ps) σ') :
    avc std Γ 4 48 σ.next c24 (fun e env σ' => (match e with | .normal => True | .ret => True | _ => False) ∧ (resL std env σ' [.cellN 6 32, .tmp 7]).1 = true ∧ K (retV (resL std env σ' [.cellN 6 32, .tmp 7]).2) σ') (envOf [k, .str s, p] 0 .leaf) σ := by
  have hT' := hT.n
  unfold c24
  refine avc_reg_cons (g_alloc (o := .ints .u8 Z32 23 .exact) (by kernel_rfl) (by omega)) ?_
  dsimp only
  have gr1 : Grown σ (σ.new (.ints .u8 Z32 23 .exact)) := Grown.new (by omega)
  have hg1 : (σ.new (.ints .u8 Z32 23 .exact)).get σ.next = some (.ints .u8 Z32 23 .exact) := get_new (by omega)
  have hx1 : (σ.new (.ints .u8 Z32 23 .exact)).next = σ.next + 1 := rfl
  generalize σ.new (.ints .u8 Z32 23 .exact) = σ1 at gr1 hg1 hx1 ⊢
  refine mv (v := .int .i64 0) (by kernel_rfl) ?_
  refine avc_reg_nil ?_
  refine mv (v := .str s) (by kernel_rfl) ?_
  obtain ⟨bv, σ2, e60, hA2, gr2, hx2⟩ := h60 s σ1 hsl (by omega)
  rw [hx1] at hA2
  refine avc_reg_cons (g_call (n := 60) (vs := [.str s]) (by kernel_rfl) (by kernel_rfl) e60) ?_
  refine mv (v := .tup [bv, .int .i64 0]) (by kernel_rfl) ?_
  refine avc_reg_cons (g_ext1 (l := [bv, .int .i64 0]) (v := bv) (by kernel_rfl) rfl) ?_
  refine avc_reg_cons (g_ext1 (l := [bv, .int .i64 0]) (v := .int .i64 0) (by kernel_rfl) rfl) ?_
  refine mv (v := bv) (by kernel_rfl) ?_
  refine mv (v := .int .i64 0) (by kernel_rfl) ?_
  refine avc_reg_nil ?_
  have hg2 : σ2.get σ.next = some (.ints .u8 Z32 23 .exact) := by rw [gr2.get σ.next (by omega)]; exact hg1
  refine avc_seq_seq ?_
  cases hmay : mayB key
  · refine mv (v := k) (by kernel_rfl) ?_
    refine avc_reg_cons (g_call (n := 38) (vs := [k]) (by kernel_rfl) (by kernel_rfl) ((h38 k key σ2 (hk.mono (gr1.trans gr2))).trans (by rw [show (decide (0 < key.length) && decide (key.length ≤ 64)) = mayB key from rfl, hmay]))) ?_
    refine avc_reg_cons (g_not (b := false) (c := true) (by kernel_rfl) rfl) ?_
    refine mv (v := .bool true) (by kernel_rfl) ?_
    refine avc_reg_cons (g_skip (by kernel_rfl)) ?_
    refine avc_reg_cons (g_skip (by kernel_rfl)) ?_
    refine avc_reg_cons (g_pick (v := .bool true) (by kernel_rfl) (by kernel_rfl)) ?_
    refine avc_reg_nil ?_
    refine avc_seq_cond (t := true) (by kernel_rfl) (fun _ => avc_seq_seq ?_) (fun h => by cases h)
    refine avc_reg_cons (g_pur (vs := []) (v := .ints .u8 Z32) (by kernel_rfl) (by kernel_rfl)) ?_
    refine avc_reg_cons (g_storeAll (b := σ.next) (m := Z32) (by kernel_rfl) (by kernel_rfl) hg2 rfl rfl) ?_
    dsimp only
    have gr3 : Grown σ (σ2.put σ.next (.ints .u8 Z32 23 .exact)) := (gr1.trans gr2).put (by omega) (by omega)
    have hg3 : (σ2.put σ.next (.ints .u8 Z32 23 .exact)).get σ.next = some (.ints .u8 Z32 23 .exact) := by rw [get_put (by omega), if_pos rfl]
    generalize σ2.put σ.next (.ints .u8 Z32 23 .exact) = σ3 at gr3 hg3 ⊢
    refine mv (v := .int .i64 1) (by kernel_rfl) ?_
    refine avc_reg_nil ?_
    have hfin := hK σ3 gr3
    rw [derV, hmay, cond_false] at hfin
    refine avc_seq_ret (fin_ok (vs := [.ints .u8 Z32, .int .i64 1]) (resL2 (resV_cell (b := σ.next) (by kernel_rfl) hg3 rfl) (by kernel_rfl)) hfin)
  · have gr12 := gr1.trans gr2
    refine mv (v := k) (by kernel_rfl) ?_
    refine avc_reg_cons (g_call (n := 38) (vs := [k]) (by kernel_rfl) (by kernel_rfl) ((h38 k key σ2 (hk.mono (gr1.trans gr2))).trans (by rw [show (decide (0 < key.length) && decide (key.length ≤ 64)) = mayB key from rfl, hmay]))) ?_
    refine avc_reg_cons (g_not (b := true) (c := false) (by kernel_rfl) rfl) ?_
    refine mv (v := .bool false) (by kernel_rfl) ?_
    refine avc_reg_cons (g_if (by kernel_rfl) (g_mov (v := .int .i64 0) (by kernel_rfl))) ?_
    refine avc_reg_cons (g_if (by kernel_rfl) (g_bin (op := .neq) (k := .i64) (k' := .i64) (a := 0) (b := 0) (v := .bool false) (by kernel_rfl) (by kernel_rfl) rfl (b_ne' rfl))) ?_
    refine avc_reg_cons (g_pickf (v := .bool false) (by kernel_rfl) (by kernel_rfl)) ?_
    refine avc_reg_nil ?_
    refine avc_seq_cond (t := false) (by kernel_rfl) (fun h => by cases h) (fun _ => avc_seq_skip (avc_seq_seq ?_))
    refine mv (v := .int .i64 0) (by kernel_rfl) ?_
    refine avc_reg_nil ?_
    refine avc_seq_block (avc_loop (fun env σ' => ∃ (i : Nat) (bw : AV), i ≤ ps.length ∧ env = ofL [(0, k), (2, p), (6, .ptr σ.next 0), (8, bw), (10, .int .i64 (i : Nat))] ∧ IsA (σ.next + 1) σ' bw (bI (layTo s ps i)) ∧ Grown σ σ' ∧ σ'.get σ.next = some (.ints .u8 Z32 23 .exact) ∧ σ.next + 1 ≤ σ'.next ∧ σ'.next ≤ σ.next + 3 + 3 * i) (fun env _ => (ps.length - intAt env 10).toNat)
      (Wk.env (l := [(0, k), (2, p), (6, .ptr σ.next 0), (8, bv), (10, .int .i64 (0 : Nat))]) ⟨⟨by kernel_rfl, rfl⟩, ⟨by kernel_rfl, rfl⟩, ⟨by kernel_rfl, rfl⟩, ⟨by kernel_rfl, rfl⟩, ⟨by kernel_rfl, rfl⟩, trivial⟩ (by have := gr12.next; omega)) ⟨0, bv, Nat.zero_le _, rfl, by unfold layTo; exact hA2, gr12, hg2, by have := gr2.next; omega, by omega⟩ ?_)
    rintro env σ4 ⟨i, bw, hi, rfl, hA4, gr4, hg4, hx4, hy4⟩
    have hlay := layTo_le s ps i hi
    have hcat := catTo_le ps i
    refine avc_seq_seq ?_
    refine mv (v := .int .i64 (i : Nat)) (by kernel_rfl) ?_
    refine mv (v := p) (by kernel_rfl) ?_
    refine avc_reg_cons (g_lenP (v := p) (by kernel_rfl) (hp.mono gr4)) ?_
    refine avc_reg_cons (g_bin (op := .lss) (k := .i64) (k' := .i64) (a := (i : Nat)) (b := (ps.length : Nat)) (v := .bool (decide ((i : Int) < (ps.length : Nat)))) (by kernel_rfl) (by kernel_rfl) rfl (rfl)) ?_
    refine avc_reg_nil ?_
    refine avc_seq_cond (t := decide ((i : Int) < (ps.length : Nat))) (by kernel_rfl) (fun ht => ?_) (fun ht => ?_)
    · have hil : i < ps.length := by simp at ht; omega
      have hpart := catTo_part ps i hil
      refine avc_seq_skip (avc_seq_block ?_)
      refine mv (v := bw) (by kernel_rfl) ?_
      refine mv (v := p) (by kernel_rfl) ?_
      refine mv (v := .int .i64 (i : Nat)) (by kernel_rfl) ?_
      obtain ⟨b4, o4, n4, c4, x4, m4, e4, t4, a, q4, l4, g4, u4, d4, hBa⟩ := (hp.mono gr4).at (i := i) (by omega)
      refine avc_reg_cons (g_idxSl (b := b4) (o := o4) (n := n4) (c := c4) (e := x4) (z := 1) (k := .i64) (m := i) (Eq.trans (b := p) (by kernel_rfl) q4) (by kernel_rfl) l4) ?_
      refine avc_reg_cons (g_load1 (b := b4) (off := o4 + i * 1) (v := a) (o := .cells m4 e4 t4) (by kernel_rfl) g4 (by show Nat.blt (o4 + i * 1) m4.length = true; rw [Nat.blt_eq]; exact u4) d4) ?_
      refine avc_reg_cons (g_lenb (v := a) (by kernel_rfl) hBa) ?_
      refine avc_reg_cons (g_conv (k := .u64) (k' := .i64) (n := ((bI (atP ps i)).length : Nat)) (m := ((atP ps i).length : Nat)) (by kernel_rfl) (by rw [bI_length]; exact wr_u64 (by omega))) ?_
      refine avc_reg_cons (g_call (n := 61) (vs := [.int .u64 ((atP ps i).length : Nat), .int .i64 4]) (by kernel_rfl) (by kernel_rfl) (h61 _ 4 σ4 (by omega) (by omega) (by omega))) ?_
      dsimp only
      have grn : Grown σ4 (σ4.new (.ints .u8 (bI (numL (atP ps i).length 4)) 5 .exact)) := Grown.new (by omega)
      have hgn : (σ4.new (.ints .u8 (bI (numL (atP ps i).length 4)) 5 .exact)).get σ4.next = some (.ints .u8 (bI (numL (atP ps i).length 4)) 5 .exact) := get_new (by omega)
      have hxn : (σ4.new (.ints .u8 (bI (numL (atP ps i).length 4)) 5 .exact)).next = σ4.next + 1 := rfl
      generalize σ4.new (.ints .u8 (bI (numL (atP ps i).length 4)) 5 .exact) = σ5 at grn hgn hxn ⊢
      have hnl : (bI (numL (atP ps i).length 4)).length = 4 := by rw [bI_length, numL_length]
      have hBn : IsB σ5 (.sl σ4.next 0 4 4 true 1) (bI (numL (atP ps i).length 4)) := .sl _ 0 4 4 true _ (bI (numL (atP ps i).length 4)) 5 .exact (by omega) hgn (by omega) (by omega) (by rw [List.drop_zero]; exact (List.take_of_length_le (by omega)).symm)
      obtain ⟨rn, hrn, _, hrn3⟩ := hBn.row
      obtain ⟨bx, σ6, x6, hA6, kp6, nx6, ny6⟩ := (hA4.mono grn).app (str := false) (x := .sl σ4.next 0 4 4 true 1) (m := bI (numL (atP ps i).length 4)) (r := rn) (by omega) (by omega) hrn hrn3 (by rw [bI_length]; omega)
      have gr6 : Grown σ σ6 := ⟨by omega, fun b hb => by rw [kp6 b (by omega), grn.get b (by omega)]; exact gr4.get b hb⟩
      have hg6 : σ6.get σ.next = some (.ints .u8 Z32 23 .exact) := by rw [kp6 _ (by omega), grn.get _ (by omega)]; exact hg4
      refine avc_reg_cons (g_ext (vs := [bw, .sl σ4.next 0 4 4 true 1]) (by kernel_rfl) x6) ?_
      refine mv (v := bx) (by kernel_rfl) ?_
      refine avc_reg_nil ?_
      refine mv1 (v := bx) (by kernel_rfl) ?_
      refine mv1 (v := p) (by kernel_rfl) ?_
      refine mv1 (v := .int .i64 (i : Nat)) (by kernel_rfl) ?_
      obtain ⟨b6, o6, n6, c6, x6, m6, e6, t6, a2, q6, l6, g6, u6, d6, hBa2⟩ := (hp.mono gr6).at (i := i) (by omega)
      refine avc_one_cons (g_idxSl (b := b6) (o := o6) (n := n6) (c := c6) (e := x6) (z := 1) (k := .i64) (m := i) (Eq.trans (b := p) (by kernel_rfl) q6) (by kernel_rfl) l6) ?_
      refine avc_one_cons (g_load1 (b := b6) (off := o6 + i * 1) (v := a2) (o := .cells m6 e6 t6) (by kernel_rfl) g6 (by show Nat.blt (o6 + i * 1) m6.length = true; rw [Nat.blt_eq]; exact u6) d6) ?_
      obtain ⟨ra, hra, _, hra3⟩ := hBa2.row
      obtain ⟨by_, σ7, x7, hA7, kp7, nx7, ny7⟩ := hA6.app (str := false) (x := a2) (m := bI (atP ps i)) (r := ra) (by omega) (by omega) hra hra3 (by rw [List.length_append, bI_length, bI_length, bI_length, numL_length]; omega)
      have gr7 : Grown σ σ7 := ⟨by omega, fun b hb => by rw [kp7 b (by omega)]; exact gr6.get b hb⟩
      have hg7 : σ7.get σ.next = some (.ints .u8 Z32 23 .exact) := by rw [kp7 _ (by omega)]; exact hg6
      refine avc_one_cons (g_ext (vs := [bx, a2]) (by kernel_rfl) x7) ?_
      refine mv1 (v := by_) (by kernel_rfl) ?_
      refine avc_one_nil ?_
      refine k_bseq ?_
      refine mv1 (v := .int .i64 (i : Nat)) (by kernel_rfl) ?_
      refine avc_one_cons (g_bin (op := .add) (k := .i64) (k' := .i64) (a := (i : Nat)) (b := 1) (v := .int .i64 ((i + 1 : Nat) : Int)) (by kernel_rfl) (by kernel_rfl) rfl (b_add (wr_i64 (n := i + 1) (by omega)))) ?_
      refine mv1 (v := .int .i64 ((i + 1 : Nat) : Int)) (by kernel_rfl) ?_
      refine avc_one_nil ?_
      refine ⟨_, _, Wk.env (l := [(0, k), (2, p), (6, .ptr σ.next 0), (8, by_), (10, .int .i64 ((i + 1) : Nat))]) ⟨⟨by kernel_rfl, rfl⟩, ⟨by kernel_rfl, rfl⟩, ⟨by kernel_rfl, rfl⟩, ⟨by kernel_rfl, rfl⟩, ⟨by kernel_rfl, rfl⟩, trivial⟩ (by have := gr7.next; omega), ⟨i + 1, by_, hil, rfl, ?_, gr7, hg7, by omega, by omega⟩, ?_⟩
      · have e : bI (layTo s ps (i + 1)) = bI (layTo s ps i) ++ bI (numL (atP ps i).length 4) ++ bI (atP ps i) := by
          rw [layTo, numL4]; unfold bI; rw [List.map_append, List.map_append, List.append_assoc]
        rw [e]; exact hA7
      · rw [intAt_of (k := .i64) (n := ((i + 1 : Nat) : Int)) (by kernel_rfl), intAt_of (k := .i64) (n := (i : Int)) (by kernel_rfl)]
        omega
    · have hil : i = ps.length := by simp at ht; omega
      subst hil
      have hM : layTo s ps ps.length = layB s ps := rfl
      rw [hM] at hA4 hlay
      obtain ⟨H, hH⟩ : ∃ H, H = hmB key (layB s ps) := ⟨_, rfl⟩
      have hHI : (bI H).length = 32 := by rw [bI_length, hH]; exact hmB_length _ _
      refine avc_seq_exit (k_sexit (k_exit ?_))
      refine mv (v := k) (by kernel_rfl) ?_
      refine mv (v := bw) (by kernel_rfl) ?_
      refine avc_reg_cons (g_call (n := 15) (vs := [k, bw]) (by kernel_rfl) (by kernel_rfl) ((h15 σ4 _ _ key (layB s ps) (hT.mono gr4) (hk.mono gr4) hA4.isB (by omega) (by omega)).trans (by rw [← hH]))) ?_
      refine avc_reg_cons (g_storeAll (b := σ.next) (m := bI H) (by kernel_rfl) (by kernel_rfl) hg4 rfl hHI) ?_
      dsimp only
      have gr8 : Grown σ (σ4.put σ.next (.ints .u8 (bI H) 23 .exact)) := gr4.put (by omega) (by omega)
      have hg8 : (σ4.put σ.next (.ints .u8 (bI H) 23 .exact)).get σ.next = some (.ints .u8 (bI H) 23 .exact) := by rw [get_put (by omega), if_pos rfl]
      generalize σ4.put σ.next (.ints .u8 (bI H) 23 .exact) = σ8 at gr8 hg8 ⊢
      refine mv (v := .int .i64 0) (by kernel_rfl) ?_
      refine avc_reg_nil ?_
      have hfin := hK σ8 gr8
      rw [derV, hmay, cond_true, ← hH] at hfin
      refine fin_ok (vs := [.ints .u8 (bI H), .int .i64 0]) (resL2 (resV_cell (b := σ.next) (by kernel_rfl) hg8 hHI) (by kernel_rfl)) hfin
theorem ok24 {Γ : Gam} (hΓ : GamOk Tryd.prog 4 Γ) (h15 : Has15 Γ) (h38 : Has38 Γ) (h60 : Has60 Γ) (h61 : Has61 Γ) : SOk Tryd.prog 4 24 (fun args σ v σ' => S24 args σ v ∧ σ' = σ) := by
  refine sok_pure hΓ Tryd.func24 body24 cc24 cr24 (by kernel_rfl) (by kernel_rfl) ?_
  rintro args σ v ⟨key, s, ps, k, p, rfl, hk, hp, h1, h2, h3, h4, hT, hs, rfl⟩
  exact ⟨by kernel_rfl, by unfold derV; cases mayB key <;> rfl, walk24 (K := fun av σ' => av = derV key s ps ∧ Grown σ σ') h15 h38 h60 h61 hk hp h1 h2 h3 h4 hT hs fun σ' h => ⟨rfl, h⟩⟩
/-- What the reference's Derive is known to do. -/
def Has24 (Γ : Gam) : Prop := ∀ (key s : List UInt8) (ps : List (List UInt8)) (k p : AV) (σ : AH), IsB σ k (bI key) → IsP σ p ps → key.length ≤ 1000000000 → s.length ≤ 65535 → ps.length ≤ 1000 → ps.flatten.length ≤ 100000000 → Tabs σ → σ.next ≤ 960000 → Γ 24 [k, .str s, p] σ = (true, derV key s ps, σ)
end Go.Proofs.YtjkicmlelilcaaaDoor.V2
namespace Go.Proofs.YtjkicmlelilcaaaDoor.V2
open Go
open Go.RowKit
section
variable {A : Ar} {Γ : Gam} {G nt N : Nat}
theorem AK.seq_mono {f f' : T AV → AH → Prop} {K K' : AK} (hf : ∀ env σ, f env σ → f' env σ) (hk : ∀ e env σ, K e env σ → K' e env σ) : ∀ e env σ, AK.seq f K e env σ → AK.seq f' K' e env σ := fun e env σ h => by
  cases e <;> first | exact hf _ _ h | exact hk _ _ _ h
theorem AK.block_mono {id : Nat} {K K' : AK} (hk : ∀ e env σ, K e env σ → K' e env σ) : ∀ e env σ, AK.block id K e env σ → AK.block id K' e env σ := fun e env σ h => by
  cases e
  case exit i =>
    simp only [AK.block] at h ⊢
    split at h
    · rename_i hi; rw [if_pos hi]; exact hk _ _ _ h
    · rename_i hi; rw [if_neg hi]; exact hk _ _ _ h
  all_goals exact hk _ _ _ h
theorem avc_mono : ∀ (a : ACode) (K K' : AK), (∀ e env σ, K e env σ → K' e env σ) → ∀ env σ, avc A Γ G nt N a K env σ → avc A Γ G nt N a K' env σ := by
  intro a
  induction a with
  | skip => intro K K' hk env σ h; exact hk _ _ _ h
  | ret => intro K K' hk env σ h; exact hk _ _ _ h
  | exit id => intro K K' hk env σ h; exact hk _ _ _ h
  | seq a b iha ihb => intro K K' hk env σ h; exact iha _ _ (AK.seq_mono (ihb _ _ hk) hk) _ _ h
  | cond c a b iha ihb =>
    intro K K' hk env σ h
    unfold avc at h ⊢
    cases hc : evS env c <;> rw [hc] at h <;> try exact h.elim
    exact ⟨fun ht => iha _ _ hk _ _ (h.1 ht), fun ht => ihb _ _ hk _ _ (h.2 ht)⟩
  | block id a ih => intro K K' hk env σ h; exact ih _ _ (AK.block_mono hk) _ _ h
  | loop a ih =>
    intro K K' hk env σ h
    obtain ⟨I, μ, h0, hr⟩ := h
    exact ⟨I, μ, h0, fun env σ hI => ih _ _ (AK.seq_mono (fun _ _ h => h) hk) _ _ (hr env σ hI)⟩
  | reg rows => intro K K' hk env σ h; exact ⟨h.1, hk _ _ _ h.2⟩
  | regd st rcs ds => intro K K' hk env σ h; exact ⟨h.1, hk _ _ _ h.2⟩
  | bad => intro K K' hk env σ h; exact h
  | rfun f ps a b _ _ => intro K K' hk env σ h; exact h.elim
/-- One way to end. -/
def one (e : Exit) (env : T AV) (σ : AH) : AK := fun e1 env1 σ1 => e1 = e ∧ env1 = env ∧ σ1 = σ
theorem one_seq {f : T AV → AH → Prop} {K : AK} {e : Exit} {env : T AV} {σ : AH} (h : AK.seq f K e env σ) : ∀ e1 env1 σ1, one e env σ e1 env1 σ1 → AK.seq f K e1 env1 σ1 := by
  rintro _ _ _ ⟨rfl, rfl, rfl⟩; exact h
/-- The rounds of a loop. -/
inductive Rounds (A : Ar) (Γ : Gam) (G nt N : Nat) (c : ACode) (e : Exit) (envo : T AV) (σo : AH) : Nat → T AV → AH → Prop
  | last {env : T AV} {σ : AH} (he : e ≠ .normal) (h : avc A Γ G nt N c (one e envo σo) env σ) : Rounds A Γ G nt N c e envo σo 0 env σ
  | next {n : Nat} {env : T AV} {σ : AH} {env1 : T AV} {σ1 : AH} {env2 : T AV} {σ2 : AH} (h : avc A Γ G nt N c (one .normal env1 σ1) env σ) (hw : Wk G nt N env1 σ1 env2 σ2) (hr : Rounds A Γ G nt N c e envo σo n env2 σ2) : Rounds A Γ G nt N c e envo σo (n + 1) env σ
theorem Rounds.loop {c : ACode} {e : Exit} {envo env0 env : T AV} {σo σ0 σ : AH} {n : Nat} (h : Rounds A Γ G nt N c e envo σo n env σ) (hw : Wk G nt N env0 σ0 env σ) : avc A Γ G nt N (.loop c) (one e envo σo) env0 σ0 := by
  refine ⟨fun env σ => ∃ n, Rounds A Γ G nt N c e envo σo n env σ, fun env σ => leastD fun n => Rounds A Γ G nt N c e envo σo n env σ, ⟨env, σ, hw, n, h⟩, ?_⟩
  rintro env σ ⟨n, hn⟩
  have hm := leastD_mem (p := fun n => Rounds A Γ G nt N c e envo σo n env σ) hn
  generalize hmm : leastD (fun n => Rounds A Γ G nt N c e envo σo n env σ) = m at hm
  cases hm with
  | last he h =>
    refine avc_mono _ _ _ (fun e1 env1 σ1 h1 => ?_) _ _ h
    obtain ⟨rfl, rfl, rfl⟩ := h1
    cases e1 with
    | normal => exact absurd rfl he
    | _ => exact ⟨rfl, rfl, rfl⟩
  | next h hw hr =>
    refine avc_mono _ _ _ (fun e1 env1 σ1 h1 => ?_) _ _ h
    obtain ⟨rfl, rfl, rfl⟩ := h1
    refine ⟨_, _, hw, ⟨_, hr⟩, ?_⟩
    show leastD _ < leastD _
    rw [hmm]
    exact Nat.lt_succ_of_le (leastD_le hr)
theorem avc_exact : ∀ (c : ACode) (K : AK) (env : T AV) (σ : AH), avc A Γ G nt N c K env σ → ∃ e env' σ', K e env' σ' ∧ avc A Γ G nt N c (one e env' σ') env σ := by
  intro c
  induction c with
  | skip => intro K env σ h; exact ⟨_, _, _, h, rfl, rfl, rfl⟩
  | ret => intro K env σ h; exact ⟨_, _, _, h, rfl, rfl, rfl⟩
  | exit id => intro K env σ h; exact ⟨_, _, _, h, rfl, rfl, rfl⟩
  | seq a b iha ihb =>
    intro K env σ h
    obtain ⟨e, env1, σ1, h1, h2⟩ := iha _ _ _ h
    cases e with
    | normal =>
      obtain ⟨e', env', σ', h3, h4⟩ := ihb _ _ _ h1
      exact ⟨e', env', σ', h3, avc_mono a _ _ (one_seq (f := avc A Γ G nt N b (one e' env' σ')) (K := one e' env' σ') (e := .normal) (env := env1) (σ := σ1) h4) _ _ h2⟩
    | _ => exact ⟨_, env1, σ1, h1, avc_mono a _ _ (by rintro _ _ _ ⟨rfl, rfl, rfl⟩; exact ⟨rfl, rfl, rfl⟩) _ _ h2⟩
  | cond c a b iha ihb =>
    intro K env σ h
    unfold avc at h
    cases hc : evS env c <;> rw [hc] at h <;> try exact h.elim
    rename_i t
    cases t
    · obtain ⟨e, env', σ', h1, h2⟩ := ihb _ _ _ (h.2 rfl)
      exact ⟨e, env', σ', h1, avc_cond hc (fun h => by cases h) fun _ => h2⟩
    · obtain ⟨e, env', σ', h1, h2⟩ := iha _ _ _ (h.1 rfl)
      exact ⟨e, env', σ', h1, avc_cond hc (fun _ => h2) fun h => by cases h⟩
  | block id a ih =>
    intro K env σ h
    obtain ⟨e, env', σ', h1, h2⟩ := ih _ _ _ h
    cases e with
    | exit i =>
      by_cases hi : i = id
      · subst hi
        have h1 : (if i = i then K .normal env' σ' else K (.exit i) env' σ') := h1
        rw [if_pos rfl] at h1
        refine ⟨.normal, env', σ', h1, avc_mono a _ _ ?_ _ _ h2⟩
        rintro _ _ _ ⟨rfl, rfl, rfl⟩
        show (if i = i then _ else _)
        rw [if_pos rfl]; exact ⟨rfl, rfl, rfl⟩
      · have h1 : (if i = id then K .normal env' σ' else K (.exit i) env' σ') := h1
        rw [if_neg hi] at h1
        refine ⟨.exit i, env', σ', h1, avc_mono a _ _ ?_ _ _ h2⟩
        rintro _ _ _ ⟨rfl, rfl, rfl⟩
        show (if i = id then _ else _)
        rw [if_neg hi]; exact ⟨rfl, rfl, rfl⟩
    | _ =>
      refine ⟨_, env', σ', h1, avc_mono a _ _ ?_ _ _ h2⟩
      rintro _ _ _ ⟨rfl, rfl, rfl⟩
      exact ⟨rfl, rfl, rfl⟩
  | loop a ih =>
    intro K env σ h
    obtain ⟨I, μ, ⟨env1, σ1, hw, hI⟩, hr⟩ := h
    have key : ∀ n env σ, I env σ → μ env σ ≤ n → ∃ e env' σ' m, K e env' σ' ∧ Rounds A Γ G nt N a e env' σ' m env σ := by
      intro n
      induction n with
      | zero =>
        intro env σ hI hn
        obtain ⟨e, env', σ', h1, h2⟩ := ih _ _ _ (hr env σ hI)
        cases e with
        | normal => obtain ⟨_, _, _, _, hlt⟩ := h1; omega
        | _ => exact ⟨_, env', σ', 0, h1, .last (by simp) h2⟩
      | succ n ihn =>
        intro env σ hI hn
        obtain ⟨e, env', σ', h1, h2⟩ := ih _ _ _ (hr env σ hI)
        cases e with
        | normal =>
          obtain ⟨env2, σ2, hw, hI2, hlt⟩ := h1
          obtain ⟨e, enve, σe, m, k1, k2⟩ := ihn env2 σ2 hI2 (by omega)
          exact ⟨e, enve, σe, m + 1, k1, .next h2 hw k2⟩
        | _ => exact ⟨_, env', σ', 0, h1, .last (by simp) h2⟩
    obtain ⟨e, env', σ', m, k1, k2⟩ := key _ env1 σ1 hI (Nat.le_refl _)
    exact ⟨e, env', σ', k1, k2.loop hw⟩
  | reg rows => intro K env σ h; exact ⟨_, _, _, h.2, h.1, rfl, rfl, rfl⟩
  | regd st rcs ds => intro K env σ h; exact ⟨_, _, _, h.2, h.1, rfl, rfl, rfl⟩
  | bad => intro K env σ h; exact h.elim
  | rfun f ps a b _ _ => intro K env σ h; exact h.elim
end
/-- A contract: what is wanted, and that the code does just this. -/
def SX (Γ : Gam) (nt : Nat) (c : ACode) (xs : List ARes) (S : List AV → AH → AV → AH → Prop) (args : List AV) (σ : AH) (v : AV) (σ' : AH) : Prop :=
  S args σ v σ' ∧ Nat.ble args.length nt = true ∧ avc std Γ 4 nt σ.next c (fun e env σ1 => (match e with | .normal => True | .ret => True | _ => False) ∧ (resL std env σ1 xs).1 = true ∧ (retV (resL std env σ1 xs).2 = v ∧ σ1 = σ')) (envOf args 0 .leaf) σ
section
variable {Γ : Gam} {f : FuncId} {fn : Func} {c : Code} {c' : ACode} {xs : List ARes} {S : List AV → AH → AV → AH → Prop}
theorem sx_ok (hΓ : GamOk Tryd.prog 4 Γ) (hf : Tryd.prog.funcs[f]? = some fn) (hb : fn.body = some c) (hc : compC Tryd.prog 4 fn.ntmps (fun _ => false) c = some c') (hres : compR Tryd.prog fn.results.toList = some xs) (hnt : Nat.ble fn.ntmps 1048576 = true) (hname : (fn.name == "runtime.NumGoroutine") = false) :
    SOk Tryd.prog 4 f (SX Γ fn.ntmps c' xs S) := by
  refine ⟨⟨fn, hf, by rw [hb]; rfl, hname⟩, ?_⟩
  rintro args σ v σ1 ⟨_, h1, h3⟩ ρ W vs hG hr hvs
  refine (call_sound (K := fun av σ' => av = v ∧ σ' = σ1) (pu := fun _ => false) mixed hΓ (fun f h => by cases h) hf hb hc hres hnt h1 h3 hG hr hvs).mono fun e W' ⟨u, av, σ', ρ', e1, ⟨e2, e3⟩, e4, e5, e6⟩ => ?_
  subst e1 e2 e3
  exact ⟨u, ρ', rfl, e4, e5, e6⟩
/-- A call of what is proved. -/
theorem sx_call {Γ' : Gam} {nt : Nat} {args : List AV} {σ : AH} (hn : Nat.ble args.length nt = true)
    (h : avc std Γ 4 nt σ.next c' (fun e env σ1 => (match e with | .normal => True | .ret => True | _ => False) ∧ (resL std env σ1 xs).1 = true ∧ S args σ (retV (resL std env σ1 xs).2) σ1) (envOf args 0 .leaf) σ) :
    ∃ v σ', Γ'.rel f (SX Γ nt c' xs S) f args σ = (true, v, σ') ∧ S args σ v σ' := by
  obtain ⟨e, env', σ', ⟨k1, k2, k3⟩, k4⟩ := avc_exact _ _ _ _ h
  have hx : SX Γ nt c' xs S args σ (retV (resL std env' σ' xs).2) σ' := ⟨k3, hn, avc_mono _ _ _ (by rintro _ _ _ ⟨rfl, rfl, rfl⟩; exact ⟨k1, k2, rfl, rfl⟩) _ _ k4⟩
  have hg : (relG (SX Γ nt c' xs S) args σ).1 = true := by
    unfold relG
    rw [dif_pos ⟨(_, _), hx⟩]
  refine ⟨(relG (SX Γ nt c' xs S) args σ).2.1, (relG (SX Γ nt c' xs S) args σ).2.2, ?_, (relG_ok hg).1⟩
  rw [Gam.rel_self]
  conv => rhs; rw [← hg]
end
end Go.Proofs.YtjkicmlelilcaaaDoor.V2
namespace Go.Proofs.YtjkicmlelilcaaaDoor
open Go.RowKit
/-- The first six parts, each of at most 80 bytes. -/
def fewP (ps : List (List UInt8)) : List (List UInt8) := (List.range (min ps.length 6)).map fun j => (atP ps j).take 80
theorem fewP_length (ps : List (List UInt8)) : (fewP ps).length = min ps.length 6 := by simp [fewP]
theorem fewP_le (ps : List (List UInt8)) : (fewP ps).length ≤ 6 := by rw [fewP_length]; omega
theorem fewP_at (ps : List (List UInt8)) (j : Nat) (h : j < min ps.length 6) : atP (fewP ps) j = (atP ps j).take 80 := by
  unfold fewP
  show ((List.range _).map _).getD j [] = _
  rw [List.getD_eq_getElem?_getD, List.getElem?_map, List.getElem?_range h]; rfl
theorem fewP_mem (ps : List (List UInt8)) : ∀ p ∈ fewP ps, p.length ≤ 80 := by
  intro p hp
  simp only [fewP, List.mem_map] at hp
  obtain ⟨j, _, rfl⟩ := hp
  rw [List.length_take]; omega
theorem fewP_flat (ps : List (List UInt8)) : (fewP ps).flatten.length ≤ 480 := by
  have : ∀ l : List (List UInt8), (∀ p ∈ l, p.length ≤ 80) → l.flatten.length ≤ 80 * l.length := by
    intro l
    induction l with
    | nil => intro _; simp
    | cons p l ih =>
      intro h
      have h1 := h p List.mem_cons_self
      have h2 := ih fun q hq => h q (List.mem_cons_of_mem _ hq)
      rw [List.flatten_cons, List.length_append, List.length_cons]; omega
  have h1 := this _ (fewP_mem ps)
  have h2 := fewP_le ps
  omega
attribute [local irreducible] be2 be4 layTo chg shaB hmB
end Go.Proofs.YtjkicmlelilcaaaDoor
namespace Go.Proofs.YtjkicmlelilcaaaDoor.V2
open Go
open Go.RowKit
/-- A slice of slices, of which the first six are said. -/
inductive IsQ (σ : AH) : AV → List (List UInt8) → Prop
  | nil : IsQ σ .nilsl []
  | sl (b o n c : Nat) (ex : Bool) (m : List AV) (e : TypeId) (tl : Tl) (ps : List (List UInt8)) (hb : b < σ.next) (hg : σ.get b = some (.cells m e tl)) (hn : o + n ≤ m.length) (hk : n ≤ c) (hl : ps.length = n) (he : ∀ j, j < n → j < 6 → ∃ a, m[o + j]? = some a ∧ IsB σ a (bI (atP ps j))) : IsQ σ (.sl b o n c ex 1) ps
theorem IsQ.at {σ : AH} {v : AV} {ps : List (List UInt8)} (h : IsQ σ v ps) {i : Nat} (hi : i < ps.length) : ∃ b o n c ex m e tl a, v = .sl b o n c ex 1 ∧ i < n ∧ b < σ.next ∧ σ.get b = some (.cells m e tl) ∧ o + i * 1 < m.length ∧ m.getD (o + i * 1) .top = a ∧ (i < 6 → IsB σ a (bI (atP ps i))) := by
  cases h with
  | nil => cases hi
  | sl b o n c ex m e tl ps hb hg hn hk hl he =>
    refine ⟨b, o, n, c, ex, m, e, tl, _, rfl, by omega, hb, hg, by omega, rfl, fun h6 => ?_⟩
    obtain ⟨a, h2, h3⟩ := he i (by omega) h6
    rw [Nat.mul_one, List.getD_eq_getElem?_getD, h2]; exact h3
theorem g_lenQ {A : Ar} {Γ : Gam} {σ σ' : AH} {ev : Ref → AV} {d : Option Nat} {x : Ref} {v : AV} {ps : List (List UInt8)} (h : ev x = v) (hv : IsQ σ v ps) : gstep A Γ ev σ' ⟨.aop (.lenSl x), d, none⟩ = (true, .int .i64 ps.length, σ') := by
  have e : gstep A Γ ev σ' ⟨.aop (.lenSl x), d, none⟩ = (match ev x with | .sl _ _ n _ _ _ => (true, .int .i64 n, σ') | .nilsl => (true, .int .i64 0, σ') | _ => bad σ') := rfl
  rw [e, h]
  cases hv with
  | nil => rfl
  | sl b o n c ex m e tl ps hb hg hn hk hl he => simp only [hl]
/-- Slices that are appended to a row of one's own. -/
inductive IsC (N : Nat) (σ : AH) : AV → List AV → Prop
  | nil : IsC N σ .nilsl []
  | sl (b c : Nat) (ex : Bool) (l : List AV) (tl : Tl) (hN : N ≤ b) (hb : b < σ.next) (hg : σ.get b = some (.cells l 22 tl)) (ht : tl.isRo = false) (hk : l.length ≤ c) (h1 : l.all (isSl 1) = true) (h0 : 0 < l.length) : IsC N σ (.sl b 0 l.length c ex 1) l
theorem IsC.mono {N : Nat} {σ σ' : AH} {v : AV} {l : List AV} (h : IsC N σ v l) (g : Grown σ σ') : IsC N σ' v l := by
  cases h with
  | nil => exact .nil
  | sl b c ex l tl hN hb hg ht hk h1 h0 => exact .sl b c ex l tl hN (Nat.lt_of_lt_of_le hb g.next) (by rw [g.get b hb]; exact hg) ht hk h1 h0
theorem of_sls {l : List AV} {e : TypeId} {t : Tl} (h : l.all (isSl 1) = true) : AObj.of l e t = .cells l e t := by
  cases l with
  | nil => rfl
  | cons a l =>
    rw [List.all_cons, Bool.and_eq_true] at h
    cases a <;> first | rfl | (simp [isSl] at h)
theorem one_sls {l : List AV} (h : l.all (isSl 1) = true) : l.all AV.one = true := by
  rw [List.all_eq_true] at h ⊢
  intro a ha
  have := h a ha
  cases a <;> first | rfl | (simp [isSl] at this)
theorem IsC.app' {N : Nat} {σ : AH} {v a : AV} {l : List AV} {d : Nat} (h : IsC N σ v l) (hs : σ.next < 1000000) (hN : N ≤ σ.next) (ha : isSl 1 a = true) (hd : σ.get d = some (.cells [a] 22 .exact)) (hl : l.length ≤ 1000000) :
    ∃ σ', xstep std σ (.append 22 false 1) [v, .sl d 0 1 1 true 1] = (true, .sl σ.next 0 (l.length + 1) (l.length + 1) false 1, σ') ∧ IsC N σ' (.sl σ.next 0 (l.length + 1) (l.length + 1) false 1) (l ++ [a]) ∧ (∀ b, b < N → σ'.get b = σ.get b) ∧ σ'.next = σ.next + 1 ∧ ∀ b, b < σ.next → (∀ o n c e z, v ≠ .sl b o n c e z) → σ'.get b = σ.get b := by
  have h1a : [a].all (isSl 1) = true := by rw [List.all_cons, ha]; rfl
  have hx : rowA std false 1 σ (.sl d 0 1 1 true 1) = (true, 1, .cells [a]) := by
    simp only [rowA, hd, one_sls h1a]; rfl
  have hz : std.eqN 1 0 = false := rfl
  simp only [xstep, hx]
  have h6 : Nat.blt σ.next 1000000 = true := by rw [Nat.blt_eq]; exact hs
  cases h with
  | nil =>
    refine ⟨σ.new (.cells [a] 22 .more), ?_, .sl σ.next 1 false [a] .more hN (Nat.lt_succ_self _) (get_new hs) rfl (Nat.le_refl _) h1a (Nat.zero_lt_one), fun b hb => (Grown.new hs).get b (by omega), rfl, fun b hb _ => (Grown.new hs).get b hb⟩
    have h8 : rowA std false 1 σ .nilsl = (true, 0, .cells []) := rfl
    have h9 : std.addN 0 1 = 1 := rfl
    have h10 : std.leN 1 1000000000000 = true := rfl
    have ho : AObj.of ([] ++ [a]) 22 .more = .cells [a] 22 .more := of_sls h1a
    simp only [hz, Bool.false_and, cond_false, appN, hx, h8, catA, ho, baseOk, killA, h9, h10, h6, Bool.and_true, Bool.not_false]
    rfl
  | sl b c ex l tl hNb hb hg ht hk h1 _ =>
    have h8 : rowA std false 1 σ (.sl b 0 l.length c ex 1) = (true, l.length, .cells l) := by
      have : Nat.ble (0 + l.length) l.length = true := by rw [Nat.ble_eq]; omega
      simp only [rowA, hg, one_sls h1, List.drop_zero, Nat.mul_one, this, List.take_length]; rfl
    have h9 : std.addN l.length 1 = l.length + 1 := rfl
    have h10 : std.leN (l.length + 1) 1000000000000 = true := le_std (by omega)
    have h11 : baseOk std σ 22 (l.length + 1) (.sl b 0 l.length c ex 1) = true := by
      simp [baseOk, hg, AObj.cellsy, AObj.elem, AObj.isRo, ht]
    have hall : (l ++ [a]).all (isSl 1) = true := by rw [List.all_append, h1, h1a]; rfl
    have ho : AObj.of (l ++ [a]) 22 .more = .cells (l ++ [a]) 22 .more := of_sls hall
    have hb6 : b < 1000000 := by omega
    have hkn := killA_next std σ (l.length + 1) (.sl b 0 l.length c ex 1)
    have hkg := killA_get std σ (l.length + 1) b 0 l.length c 1 ex hb6
    generalize hσk : killA std σ (l.length + 1) (.sl b 0 l.length c ex 1) = σk at hkn hkg
    have hnew : (σk.new (.cells (l ++ [a]) 22 .more)).get σk.next = some (.cells (l ++ [a]) 22 .more) := get_new (by omega)
    refine ⟨σk.new (.cells (l ++ [a]) 22 .more), ?_, ?_, fun k hk2 => ?_, by show σk.next + 1 = _; omega, fun k hk2 hv => ?_⟩
    · simp only [hz, Bool.false_and, cond_false, appN, hx, h8, catA, ho, h9, h10, h11, h6, hσk, Bool.and_true, Bool.not_false]
    · have e : l.length + 1 = (l ++ [a]).length := by rw [List.length_append]; rfl
      rw [e]
      exact .sl _ _ _ _ .more hN (by show _ < σk.next + 1; omega) (by rw [← hkn]; exact hnew) rfl (Nat.le_refl _) hall (by omega)
    · rw [(Grown.new (o := .cells (l ++ [a]) 22 .more) (by omega : σk.next < 1000000)).get k (by omega)]
      exact hkg k (by omega)
    · rw [(Grown.new (o := .cells (l ++ [a]) 22 .more) (by omega : σk.next < 1000000)).get k (by omega)]
      exact hkg k fun h => hv 0 l.length c ex 1 (by rw [h])
theorem IsC.app {N : Nat} {σ : AH} {v a : AV} {l : List AV} {d : Nat} (h : IsC N σ v l) (hs : σ.next < 1000000) (hN : N ≤ σ.next) (ha : isSl 1 a = true) (hd : σ.get d = some (.cells [a] 22 .exact)) (hl : l.length ≤ 1000000) :
    ∃ v' σ', xstep std σ (.append 22 false 1) [v, .sl d 0 1 1 true 1] = (true, v', σ') ∧ IsC N σ' v' (l ++ [a]) ∧ (∀ b, b < N → σ'.get b = σ.get b) ∧ σ.next ≤ σ'.next ∧ σ'.next ≤ σ.next + 1 := by
  obtain ⟨σ', x, c, kp, nx, _⟩ := h.app' hs hN ha hd hl
  exact ⟨_, σ', x, c, kp, by omega, by omega⟩
theorem IsC.sure {N : Nat} {σ : AH} {v : AV} {l : List AV} (h : IsC N σ v l) : v.sure = true := by
  cases h with
  | nil => rfl
  | sl b c ex l tl hN hb hg ht hk h1 h0 =>
    cases c with
    | zero => omega
    | succ c => rfl
theorem IsC.isP {N : Nat} {σ : AH} {v : AV} {l : List AV} {ps : List (List UInt8)} (h : IsC N σ v l) (hl : l.length = ps.length) (he : ∀ j, j < ps.length → ∃ a, l[j]? = some a ∧ IsB σ a (bI (atP ps j))) : IsP σ v ps := by
  cases h with
  | nil =>
    have : ps = [] := List.length_eq_zero_iff.1 hl.symm
    subst this; exact .nil
  | sl b c ex l tl hN hb hg ht hk h1 _ => exact .sl b 0 l.length c ex l 22 tl ps hb hg (by omega) hk (one_sls h1) hl.symm fun j hj => by rw [Nat.zero_add]; exact he j (by omega)
theorem min_nat (n c : Nat) : pstep std .minI [.int .i64 n, .int .i64 c] = (true, .int .i64 (min (n : Int) c)) := by
  show minL std false .i64 n [.int .i64 c] = _
  have : (bif std.lt (c : Int) (n : Int) then (c : Int) else n) = min (n : Int) c := by
    show (bif decide ((c : Int) < n) then (c : Int) else n) = _
    by_cases h : (c : Int) < n
    · simp only [h, decide_true, cond_true]; omega
    · simp only [h, decide_false, cond_false]; omega
  simp only [minL, cond_false, this]; rfl
/-- A slice is cut whatever the memory holds. -/
theorem cut_mem {σ σ' : AH} {v v' : AV} {l : List Int} {n : Int} (_hv : IsB σ v l) (h : oSlSl std 1 v none (some (.int .i64 n)) none σ = (true, v', σ)) : oSlSl std 1 v none (some (.int .i64 n)) none σ' = (true, v', σ') := by
  cases _hv with
  | nil => simp only [oSlSl, Prod.mk.injEq, and_true] at h ⊢; exact h
  | sl b o k c ex l m e tl hb hg hn hk hl => simp only [oSlSl, Prod.mk.injEq, and_true] at h ⊢; exact h
theorem bI_take (l : List UInt8) (n : Nat) : (bI l).take n = bI (l.take n) := by unfold bI; rw [List.map_take]
theorem avc_skip {A : Ar} {Γ : Gam} {G nt N : Nat} {K : AK} {env : T AV} {σ : AH} (h : K .normal env σ) : avc A Γ G nt N .skip K env σ := h
def c22 : ACode := (.seq (.reg [⟨(.aop (.mov (.lit .nilsl))), (some 2), none⟩]) (.seq (.reg [⟨(.aop (.mov (.lit .nilsl))), (some 3), none⟩]) (.seq (.seq (.reg [⟨(.aop (.mov (.slot 0))), (some 6), none⟩, ⟨(.aop (.lenSl (.slot 6))), (some 7), none⟩, ⟨(.aop (.mov (.lit (.int .i64 (0))))), (some 8), none⟩]) (.block 0 (.loop (.seq (.reg [⟨(.aop (.bin .lss (.slot 8) (.slot 7))), (some 9), none⟩]) (.seq (.cond (.slot 9) .skip (.exit 0)) (.seq (.block 1 (.seq (.reg [⟨(.aop (.mov (.slot 8))), (some 10), none⟩, ⟨(.aop (.idxSl 1 (.slot 6) (.slot 8))), (some 11), none⟩, ⟨(.aop (.load1 (.slot 11))), (some 12), none⟩, ⟨(.aop (.mov (.slot 10))), (some 4), none⟩, ⟨(.aop (.mov (.slot 12))), (some 5), none⟩]) (.seq (.reg [⟨(.aop (.mov (.slot 4))), (some 13), none⟩, ⟨(.aop (.bin .lss (.slot 13) (.lit (.int .i64 (6))))), (some 14), none⟩]) (.cond (.slot 14) (.reg [⟨(.aop (.mov (.slot 3))), (some 15), none⟩, ⟨(.aop (.mov (.slot 5))), (some 16), none⟩, ⟨(.aop (.mov (.slot 5))), (some 17), none⟩, ⟨(.aop (.lenSl (.slot 17))), (some 18), none⟩, ⟨(.aop (.pur .minI [(.slot 18), (.lit (.int .i64 (80)))])), (some 19), none⟩, ⟨(.aop (.slSl 1 (.slot 16) none (some (.slot 19)) none)), (some 20), none⟩, ⟨(.aop (.mk (.bslice 22 1 1) [(.slot 20)])), (some 21), none⟩, ⟨(.aop (.ext (.append 22 false 1) [(.slot 15), (.slot 21)])), (some 22), none⟩, ⟨(.aop (.mov (.slot 22))), (some 3), none⟩]) .skip)))) (.reg [⟨(.aop (.bin .add (.slot 8) (.lit (.int .i64 (1))))), (some 23), none⟩, ⟨(.aop (.mov (.slot 23))), (some 8), none⟩]))))))) (.seq (.reg [⟨(.aop (.mov (.slot 3))), (some 24), none⟩, ⟨(.aop (.mov (.slot 24))), (some 2), none⟩]) .ret))))
theorem comp22 : (V2.compC Tryd.prog 4 Tryd.f22.ntmps (fun _ => false) (Tryd.f22.body.getD .skip), V2.compR Tryd.prog Tryd.f22.results.toList) = (some c22, some [(.tmp 2)]) := by kernel_rfl
theorem body22 : Tryd.f22.body = some (Tryd.f22.body.getD .skip) := by kernel_rfl
theorem cc22 : V2.compC Tryd.prog 4 Tryd.f22.ntmps (fun _ => false) (Tryd.f22.body.getD .skip) = some c22 := (Prod.mk.inj comp22).1
theorem cr22 : V2.compR Tryd.prog Tryd.f22.results.toList = some [(.tmp 2)] := (Prod.mk.inj comp22).2
def S22 (args : List AV) (σ : AH) (v : AV) (σ' : AH) : Prop := ∀ p ps, args = [p] → IsQ σ p ps → IsP σ' v (fewP ps) ∧ Grown σ σ' ∧ σ'.next ≤ σ.next + 12 ∧ v.sure = true
set_option maxHeartbeats 1000000 in
theorem walk22 {Γ : Gam} {σ : AH} {p : AV} {ps : List (List UInt8)} (hp : IsQ σ p ps) (hpl : ps.length ≤ 9223372036854775807) (hs : σ.next ≤ 970000) {K : AV → AH → Prop} (hK : ∀ v σ', IsP σ' v (fewP ps) → Grown σ σ' → σ'.next ≤ σ.next + 12 → v.sure = true → K v σ') :
    avc std Γ 4 25 σ.next c22 (fun e env σ' => (match e with | .normal => True | .ret => True | _ => False) ∧ (resL std env σ' [.tmp 2]).1 = true ∧ K (retV (resL std env σ' [.tmp 2]).2) σ') (envOf [p] 0 .leaf) σ := by
  unfold c22
  refine mv (v := .nilsl) (by kernel_rfl) ?_
  refine avc_reg_nil ?_
  refine mv (v := .nilsl) (by kernel_rfl) ?_
  refine avc_reg_nil ?_
  refine avc_seq_seq ?_
  refine mv (v := p) (by kernel_rfl) ?_
  refine avc_reg_cons (g_lenQ (v := p) (by kernel_rfl) hp) ?_
  refine mv (v := .int .i64 0) (by kernel_rfl) ?_
  refine avc_reg_nil ?_
  refine avc_seq_block (avc_loop (fun env σ' => ∃ (i : Nat) (ow : AV) (l : List AV), i ≤ ps.length ∧ env = ofL [(3, ow), (6, p), (7, .int .i64 (ps.length : Nat)), (8, .int .i64 (i : Nat))] ∧ IsC σ.next σ' ow l ∧ l.length = min i 6 ∧ (∀ j, j < min i 6 → ∃ a, l[j]? = some a ∧ IsB σ a (bI ((atP ps j).take 80))) ∧ Grown σ σ' ∧ σ'.next ≤ σ.next + 2 * min i 6) (fun env _ => (ps.length - intAt env 8).toNat)
    (Wk.env (l := [(3, .nilsl), (6, p), (7, .int .i64 (ps.length : Nat)), (8, .int .i64 (0 : Nat))]) ⟨⟨by kernel_rfl, rfl⟩, ⟨by kernel_rfl, rfl⟩, ⟨by kernel_rfl, rfl⟩, ⟨by kernel_rfl, rfl⟩, trivial⟩ (Nat.le_refl _)) ⟨0, .nilsl, [], Nat.zero_le _, rfl, .nil, by simp, fun j hj => by simp at hj, Grown.refl _, by simp⟩ ?_)
  rintro env σ4 ⟨i, ow, l, hi, rfl, hC, hll, hle, gr4, hx4⟩
  refine avc_reg_cons (g_bin (op := .lss) (k := .i64) (k' := .i64) (a := (i : Nat)) (b := (ps.length : Nat)) (v := .bool (decide ((i : Int) < (ps.length : Nat)))) (by kernel_rfl) (by kernel_rfl) rfl (rfl)) ?_
  refine avc_reg_nil ?_
  refine avc_seq_cond (t := decide ((i : Int) < (ps.length : Nat))) (by kernel_rfl) (fun ht => ?_) (fun ht => ?_)
  · have hil : i < ps.length := by simp at ht; omega
    refine avc_seq_skip (avc_seq_block ?_)
    refine mv (v := .int .i64 (i : Nat)) (by kernel_rfl) ?_
    obtain ⟨b4, o4, n4, c4, x4, m4, e4, t4, a, q4, l4, r4, g4, u4, d4, hBa⟩ := hp.at (i := i) hil
    have g4 := (gr4.get b4 r4).trans g4
    refine avc_reg_cons (g_idxSl (b := b4) (o := o4) (n := n4) (c := c4) (e := x4) (z := 1) (k := .i64) (m := i) (Eq.trans (b := p) (by kernel_rfl) q4) (by kernel_rfl) l4) ?_
    refine avc_reg_cons (g_load1 (b := b4) (off := o4 + i * 1) (v := a) (o := .cells m4 e4 t4) (by kernel_rfl) g4 (by show Nat.blt (o4 + i * 1) m4.length = true; rw [Nat.blt_eq]; exact u4) d4) ?_
    refine mv (v := .int .i64 (i : Nat)) (by kernel_rfl) ?_
    refine mv (v := a) (by kernel_rfl) ?_
    refine avc_reg_nil ?_
    refine mv (v := .int .i64 (i : Nat)) (by kernel_rfl) ?_
    refine avc_reg_cons (g_bin (op := .lss) (k := .i64) (k' := .i64) (a := (i : Nat)) (b := 6) (v := .bool (decide ((i : Int) < 6))) (by kernel_rfl) (by kernel_rfl) rfl (rfl)) ?_
    refine avc_reg_nil ?_
    refine avc_cond (t := decide ((i : Int) < 6)) (by kernel_rfl) (fun h6 => ?_) (fun h6 => ?_)
    · have h6 : i < 6 := by simp at h6; omega
      have hB := hBa h6
      refine mv1 (v := ow) (by kernel_rfl) ?_
      refine mv1 (v := a) (by kernel_rfl) ?_
      refine mv1 (v := a) (by kernel_rfl) ?_
      refine avc_one_cons (g_lenb (v := a) (by kernel_rfl) (hB.mono gr4)) ?_
      refine avc_one_cons (g_pur (vs := [.int .i64 ((bI (atP ps i)).length : Nat), .int .i64 80]) (v := .int .i64 (min ((bI (atP ps i)).length : Int) 80)) (by kernel_rfl) (min_nat _ 80)) ?_
      obtain ⟨a2, ek, hB2⟩ := hB.cut 80
      have ek : oSlSl std 1 a none (some (.int .i64 (min ((bI (atP ps i)).length : Int) 80))) none σ4 = (true, a2, σ4) := (cut_mem hB ek)
      rw [bI_take] at hB2
      refine avc_one_cons (g_cut (v := a) (n := min ((bI (atP ps i)).length : Int) 80) (by kernel_rfl) (by kernel_rfl) ek) ?_
      refine avc_one_cons (g_mk (vs := [a2]) (by kernel_rfl) (hB2.block 22) (by omega)) ?_
      dsimp only
      have grn : Grown σ4 (σ4.new (.cells [a2] 22 .exact)) := Grown.new (by omega)
      have hgn : (σ4.new (.cells [a2] 22 .exact)).get σ4.next = some (.cells [a2] 22 .exact) := get_new (by omega)
      have hxn : (σ4.new (.cells [a2] 22 .exact)).next = σ4.next + 1 := rfl
      generalize σ4.new (.cells [a2] 22 .exact) = σ5 at grn hgn hxn ⊢
      have hq4 := gr4.next
      obtain ⟨oy, σ6, x6, hC6, kp6, nx6, ny6⟩ := (hC.mono grn).app (by omega) (by omega) hB2.isSl hgn (by omega)
      have gr6 : Grown σ σ6 := ⟨by omega, fun b hb => by rw [kp6 b hb, grn.get b (by omega)]; exact gr4.get b hb⟩
      refine avc_one_cons (g_ext (vs := [ow, .sl σ4.next 0 1 1 true 1]) (by kernel_rfl) x6) ?_
      refine mv1 (v := oy) (by kernel_rfl) ?_
      refine avc_one_nil ?_
      refine k_bseq ?_
      refine avc_one_cons (g_bin (op := .add) (k := .i64) (k' := .i64) (a := (i : Nat)) (b := 1) (v := .int .i64 ((i + 1 : Nat) : Int)) (by kernel_rfl) (by kernel_rfl) rfl (b_add (wr_i64 (n := i + 1) (by omega)))) ?_
      refine mv1 (v := .int .i64 ((i + 1 : Nat) : Int)) (by kernel_rfl) ?_
      refine avc_one_nil ?_
      refine ⟨_, _, Wk.env (l := [(3, oy), (6, p), (7, .int .i64 (ps.length : Nat)), (8, .int .i64 ((i + 1) : Nat))]) ⟨⟨by kernel_rfl, rfl⟩, ⟨by kernel_rfl, rfl⟩, ⟨by kernel_rfl, rfl⟩, ⟨by kernel_rfl, rfl⟩, trivial⟩ (by have := gr6.next; omega), ⟨i + 1, oy, l ++ [a2], hil, rfl, hC6, by rw [List.length_append, hll, List.length_singleton]; omega, fun j hj => ?_, gr6, by omega⟩, ?_⟩
      · by_cases hji : j < i
        · obtain ⟨a', h1, h2⟩ := hle j (by omega)
          exact ⟨a', by rw [List.getElem?_append_left (by omega)]; exact h1, h2⟩
        · obtain rfl : j = i := by omega
          exact ⟨a2, by rw [List.getElem?_append_right (by omega), hll, show j - min j 6 = 0 by omega]; rfl, hB2⟩
      · rw [intAt_of (k := .i64) (n := ((i + 1 : Nat) : Int)) (by kernel_rfl), intAt_of (k := .i64) (n := (i : Int)) (by kernel_rfl)]
        omega
    · have h6 : ¬i < 6 := by simp at h6; omega
      refine avc_skip (k_bseq ?_)
      refine avc_one_cons (g_bin (op := .add) (k := .i64) (k' := .i64) (a := (i : Nat)) (b := 1) (v := .int .i64 ((i + 1 : Nat) : Int)) (by kernel_rfl) (by kernel_rfl) rfl (b_add (wr_i64 (n := i + 1) (by omega)))) ?_
      refine mv1 (v := .int .i64 ((i + 1 : Nat) : Int)) (by kernel_rfl) ?_
      refine avc_one_nil ?_
      refine ⟨_, _, Wk.env (l := [(3, ow), (6, p), (7, .int .i64 (ps.length : Nat)), (8, .int .i64 ((i + 1) : Nat))]) ⟨⟨by kernel_rfl, rfl⟩, ⟨by kernel_rfl, rfl⟩, ⟨by kernel_rfl, rfl⟩, ⟨by kernel_rfl, rfl⟩, trivial⟩ (by have := gr4.next; omega), ⟨i + 1, ow, l, hil, rfl, hC, by omega, fun j hj => hle j (by omega), gr4, by omega⟩, ?_⟩
      rw [intAt_of (k := .i64) (n := ((i + 1 : Nat) : Int)) (by kernel_rfl), intAt_of (k := .i64) (n := (i : Int)) (by kernel_rfl)]
      omega
  · have hil : i = ps.length := by simp at ht; omega
    subst hil
    refine avc_seq_exit (k_sexit (k_exit ?_))
    refine mv (v := ow) (by kernel_rfl) ?_
    refine mv (v := ow) (by kernel_rfl) ?_
    refine avc_reg_nil ?_
    refine fin_ok (vs := [ow]) (by kernel_rfl) (hK ow σ4 (hC.isP (by rw [fewP_length]; exact hll) fun j hj => ?_) gr4 (by omega) hC.sure)
    rw [fewP_length] at hj
    obtain ⟨a, h1, h2⟩ := hle j hj
    exact ⟨a, h1, by rw [fewP_at ps j hj]; exact h2.mono gr4⟩
theorem ok22 {Γ : Gam} (hΓ : GamOk Tryd.prog 4 Γ) : SOk Tryd.prog 4 22 (SX Γ Tryd.f22.ntmps c22 [.tmp 2] S22) := sx_ok hΓ Tryd.func22 body22 cc22 cr22 (by kernel_rfl) (by kernel_rfl)
theorem IsQ.uniq6 {σ : AH} {v : AV} {ps ps' : List (List UInt8)} (h : IsQ σ v ps) (h' : IsQ σ v ps') : fewP ps = fewP ps' := by
  cases h with
  | nil => cases h'; rfl
  | sl b o n c ex m e tl ps hb hg hn hk hl he =>
    cases h' with
    | sl b o n c ex m' e' tl' ps' hb' hg' hn' hk' hl' he' =>
      rw [hg] at hg'
      cases hg'
      unfold fewP
      rw [hl, hl']
      refine List.map_congr_left fun j hj => ?_
      rw [List.mem_range] at hj
      obtain ⟨a, h1, h2⟩ := he j (by omega) (by omega)
      obtain ⟨a', h1', h2'⟩ := he' j (by omega) (by omega)
      rw [h1] at h1'
      cases h1'
      rw [h2.uniqB h2']
/-- What few is known to do. -/
def Has22 (Γ : Gam) : Prop := ∀ (p : AV) (ps : List (List UInt8)) (σ : AH), IsQ σ p ps → ps.length ≤ 9223372036854775807 → σ.next ≤ 970000 → ∃ v σ', Γ 22 [p] σ = (true, v, σ') ∧ IsP σ' v (fewP ps) ∧ Grown σ σ' ∧ σ'.next ≤ σ.next + 12 ∧ v.sure = true
theorem has22 {Γ Γ' : Gam} (h : Γ' 22 = (Γ.rel 22 (SX Γ Tryd.f22.ntmps c22 [.tmp 2] S22)) 22) : Has22 Γ' := by
  intro p ps σ hp hl hs
  obtain ⟨v, σ', e1, e2⟩ := sx_call (Γ := Γ) (Γ' := Γ) (f := 22) (nt := Tryd.f22.ntmps) (c' := c22) (xs := [.tmp 2]) (S := S22) (args := [p]) (σ := σ) (by kernel_rfl) (walk22 (K := fun v σ' => S22 [p] σ v σ') hp hl hs fun v σ' h1 h2 h3 h4 p' ps' e hp' => by
    cases e
    rw [hp'.uniq6 hp]; exact ⟨h1, h2, h3, h4⟩)
  obtain ⟨k1, k2, k3, k4⟩ := e2 p ps rfl hp
  exact ⟨v, σ', by rw [h]; exact e1, k1, k2, k3, k4⟩
end Go.Proofs.YtjkicmlelilcaaaDoor.V2
namespace Go.Proofs.YtjkicmlelilcaaaDoor.V2
open Go
open Go.RowKit
/-- Slices of bytes, in the world. -/
theorem isB_world {ρ : Ren} {σ : AH} {W : World} (hr : HR ρ σ W) {a : AV} {v : Value} (hv : VR ρ a v) {bs : List UInt8} (h : IsB σ a (bI bs)) : BSl W v bs := by
  have h1 := h.bytes (byI_bI bs)
  have h2 := (bytes_of hr hv (by rw [h1])).1
  rw [h1] at h2
  simp only [toBs_bI] at h2
  exact h2
def Has57 (Γ : Gam) : Prop := ∀ (k : AV) (bs : List UInt8) (σ : AH), IsB σ k (bI bs) → Γ 57 [k] σ = (true, .bool (mayB bs), σ)
def S57 (args : List AV) (σ : AH) (v : AV) : Prop := ∃ k bs, args = [k] ∧ IsB σ k (bI bs) ∧ v = .bool (mayB bs)
theorem ok57 : SOk Tryd.prog 4 57 (fun args σ v σ' => S57 args σ v ∧ σ' = σ) := by
  refine sok_below Tryd.func57 (by kernel_rfl) (by kernel_rfl) ?_
  rintro args σ v ⟨k, bs, rfl, hk, rfl⟩ ρ W vs hG hr hvs
  obtain ⟨u, rfl, hu⟩ := vrs_one hvs
  refine (may_any u bs W (isB_world hr hu hk)).mono fun e W' ⟨e1, e2⟩ => ?_
  subst e2
  exact ⟨_, e1, Below.refl _ _, by unfold VR; rfl⟩
end Go.Proofs.YtjkicmlelilcaaaDoor.V2
namespace Go.Proofs.YtjkicmlelilcaaaDoor.V2
open Go
open Go.RowKit
theorem isS_eq : ∀ l, isS l = true → l = wI S0 := fun l h => by simpa [isS] using h
theorem isK_eq : ∀ l, isK l = true → l = wI KK := fun l h => by simpa [isK] using h
theorem tabs_world {ρ : Ren} {σ : AH} {W : World} (hr : HR ρ σ W) (hG : ∀ g, g < 4 → ∃ s, ρ g = some (g, (0, s))) (hT : Tabs σ) : GlobK W ∧ GlobS W ∧ 3 < W.heap.size := by
  obtain ⟨s3, hs3⟩ := hG 3 (by decide)
  exact ⟨glob_of hr isK_eq rfl (hG 3 (by decide)) hT.g3, glob_of hr isS_eq rfl (hG 0 (by decide)) hT.g0, (hr.dom _ _ _ hs3).2.1⟩
theorem vr_c8 {ρ : Ren} {l : List UInt8} {v : Value} (h : VR ρ (.ints .u8 (bI l)) v) : v = .agg (c8 l) := by
  unfold VR at h
  rw [h]
  unfold bI c8 c8l
  rw [List.map_map]; rfl
theorem mayB_iff {key : List UInt8} : mayB key = true ↔ 0 < key.length ∧ key.length ≤ 64 := by
  unfold mayB
  rw [Bool.and_eq_true, decide_eq_true_eq, decide_eq_true_eq]
theorem vrs_cons {ρ : Ren} {a : AV} {l : List AV} {vs : List Value} (h : VRs ρ (a :: l) vs) : ∃ v m, vs = v :: m ∧ VR ρ a v ∧ VRs ρ l m := h
def S27 (args : List AV) (σ : AH) (v : AV) : Prop := args = [] ∧ Tabs σ ∧ v = .bool true
theorem ok27 : SOk Tryd.prog 4 27 (fun args σ v σ' => S27 args σ v ∧ σ' = σ) := by
  refine sok_below Tryd.func27 (by kernel_rfl) (by kernel_rfl) ?_
  rintro args σ v ⟨rfl, hT, rfl⟩ ρ W vs hG hr hvs
  rw [show vs = [] from hvs]
  obtain ⟨k1, k2, k3⟩ := tabs_world hr hG hT
  exact (wakes_any W k1 k2 k3).mono fun e W' ⟨e1, e2⟩ => ⟨_, e1, e2, by unfold VR; rfl⟩
def Has27 (Γ : Gam) : Prop := ∀ σ, Tabs σ → Γ 27 [] σ = (true, .bool true, σ)
end Go.Proofs.YtjkicmlelilcaaaDoor.V2
namespace Go.Proofs.YtjkicmlelilcaaaDoor.V2
open Go
open Go.RowKit
section
variable {A : Ar} {Γ : Gam} {G nt N : Nat} {K : AK} {env vals : T AV} {σ σ' σ'' : AH} {all l : List (Nat × CRow)} {rc : Nat → List Nat} {Q : T AV → AH → Prop}
/-- A drawn region, operation by operation. -/
def EvG (A : Ar) (Γ : Gam) (env : T AV) (all : List (Nat × CRow)) (rc : Nat → List Nat) (l : List (Nat × CRow)) (vals : T AV) (σ : AH) (Q : T AV → AH → Prop) : Prop := ∃ r : T AV × AH, evD A Γ env all rc l vals σ = (true, r) ∧ Q r.1 r.2
theorem evg_nil (h : Q vals σ) : EvG A Γ env all rc [] vals σ Q := ⟨(vals, σ), rfl, h⟩
theorem evg_cons {p : Nat × CRow} {v : AV} (h : gstep A Γ (evR env vals) σ p.2 = (true, v, σ')) (hr : rechk A Γ env all (vals.put p.1 v) σ' (rc p.1) = true) (h2 : EvG A Γ env all rc l (vals.put p.1 v) σ' Q) : EvG A Γ env all rc (p :: l) vals σ Q := by
  obtain ⟨r, e, q⟩ := h2
  exact ⟨r, evD_step h hr e, q⟩
theorem avc_evg {st : List (Nat × CRow)} {rcs : List (Nat × List Nat)} {ds : List (Option Nat)} {b : ACode} (h : EvG A Γ env st (rcGet rcs) st .leaf σ fun vals σ' => avc A Γ G nt N b K (putAll vals ds 0 env) σ') : avc A Γ G nt N (.seq (.regd st rcs ds) b) K env σ := by
  obtain ⟨r, e, q⟩ := h
  exact avc_seq_evD e q
theorem rechk_cons {k : Nat} {ks : List Nat} {q : Nat × CRow} {v : AV} (hf : all.find? (fun p => Nat.beq p.1 k) = some q) (hg : gstep A Γ (evR env vals) σ q.2 = (true, v, σ'')) (hv : valD vals k = v) (hs : same A v v = true) (h : rechk A Γ env all vals σ ks = true) : rechk A Γ env all vals σ (k :: ks) = true := by
  unfold rechk
  rw [hf]
  simp only [hg, hv, hs, h]; rfl
/-- Numbers and rows of numbers. -/
def AV.numb : AV → Bool
  | .int _ _ | .ints _ _ => true
  | _ => false
theorem same_refl {v : AV} (h : v.numb = true) : same std v v = true := by
  cases v <;> simp only [AV.numb, Bool.false_eq_true] at h <;> simp [same, std]
end
theorem g_loadAll {Γ : Gam} {σ : AH} {ev : Ref → AV} {d : Option Nat} {n : Nat} {x : Ref} {b : Nat} {k : IntKind} {l : List Int} {e : TypeId} {t : Tl} (hx : ev x = .ptr b 0) (hg : σ.get b = some (.ints k l e t)) (hl : l.length = n) : gstep std Γ ev σ ⟨.aop (.loadN n x), d, none⟩ = (true, .ints k l, σ) := by
  subst hl
  have h1 : std.leN (std.addN 0 l.length) (std.len l) = true := le_std (by show 0 + l.length ≤ l.length; omega)
  have h2 : std.part l 0 l.length = l := by show (l.drop 0).take l.length = l; simp
  exact g_loadN hx hg h1 (by show AV.ints k (std.part l 0 l.length) = _; rw [h2])
theorem z32_eq : Z32 = bI zer32 := by decide
end Go.Proofs.YtjkicmlelilcaaaDoor.V2
namespace Go.Proofs.YtjkicmlelilcaaaDoor.V2
open Go
open Go.RowKit
theorem IsP.uniq {σ : AH} {v : AV} {ps ps' : List (List UInt8)} (h : IsP σ v ps) (h' : IsP σ v ps') : ps = ps' := by
  cases h with
  | nil => cases h'; rfl
  | sl b o n c ex m e tl ps hb hg hn hk h1 hl he =>
    cases h' with
    | sl b o n c ex m' e' tl' ps' hb' hg' hn' hk' h1' hl' he' =>
      rw [hg] at hg'
      cases hg'
      refine List.ext_getElem (by omega) fun j hj hj' => ?_
      obtain ⟨a, k1, k2⟩ := he j (by omega)
      obtain ⟨a', k1', k2'⟩ := he' j (by omega)
      rw [k1] at k1'
      cases k1'
      have := k2.uniqB k2'
      rw [atP_get (List.getElem?_eq_getElem hj), atP_get (List.getElem?_eq_getElem hj')] at this
      exact this
section
variable {Γ : Gam} {f : FuncId}
theorem pure_call {S : List AV → AH → AV → Prop} {args : List AV} {σ : AH} {v : AV} (h : Γ f = relG fun args σ v σ' => S args σ v ∧ σ' = σ) (hs : S args σ v) (hu : ∀ v1, S args σ v1 → v1 = v) : Γ f args σ = (true, v, σ) := by
  rw [h]
  exact relG_eq ⟨hs, rfl⟩ fun v1 σ1 ⟨h1, h2⟩ => ⟨hu v1 h1, h2⟩
theorem has61_of (h : Γ 61 = relG S61) : Has61 Γ := fun n m σ h1 h2 h3 => by
  rw [h]
  have hs : S61 [.int .u64 n, .int .i64 m] σ (.sl σ.next 0 m m true 1) (σ.new (.ints .u8 (bI (numL n m)) 5 .exact)) := ⟨n, m, rfl, h1, h2, h3, rfl, rfl⟩
  exact relG_eq hs fun v1 σ1 h' => hs.uniq h'
theorem has60_of (h : Γ 60 = relG S60) : Has60 Γ := has60 fun args σ v σ' hs => by
  rw [h]; exact relG_eq hs fun v1 σ1 h' => hs.uniq h'
theorem has38_of (h : Γ 38 = relG fun args σ v σ' => S38 args σ v ∧ σ' = σ) : Has38 Γ := fun k bs σ hk => pure_call h ⟨k, bs, rfl, hk, rfl⟩ fun v1 ⟨k', bs', e, hk', e'⟩ => by
  cases e
  rw [e', hk.uniqB hk']
theorem has57_of (h : Γ 57 = relG fun args σ v σ' => S57 args σ v ∧ σ' = σ) : Has57 Γ := fun k bs σ hk => pure_call h ⟨k, bs, rfl, hk, rfl⟩ fun v1 ⟨k', bs', e, hk', e'⟩ => by
  cases e
  rw [e', hk.uniqB hk']
theorem has24_of (h : Γ 24 = relG fun args σ v σ' => S24 args σ v ∧ σ' = σ) : Has24 Γ := fun key s ps k p σ h1 h2 h3 h4 h5 h6 h7 h8 => pure_call h ⟨key, s, ps, k, p, rfl, h1, h2, h3, h4, h5, h6, h7, h8, rfl⟩ fun v1 ⟨key', s', ps', k', p', e, h1', h2', _, _, _, _, _, _, e'⟩ => by
  cases e
  rw [e', h1.uniqB h1', h2.uniq h2']
theorem has26_of (h : Γ 26 = relG fun args σ v σ' => S26 args σ v ∧ σ' = σ) : Has26 Γ := fun k bs b σ h1 h2 h3 h4 h5 => pure_call h ⟨k, bs, b, rfl, h1, h2, h3, h4, h5, rfl⟩ fun v1 ⟨k', bs', b', e, _, h2', _, _, _, e'⟩ => by
  simp only [List.cons.injEq, AV.ints.injEq, true_and, and_true] at e
  obtain ⟨e1, rfl⟩ := e
  rw [e', h2.uniqB h2', bI_inj e1]
theorem has27_of (h : Γ 27 = relG fun args σ v σ' => S27 args σ v ∧ σ' = σ) : Has27 Γ := fun σ hT => pure_call h ⟨rfl, hT, rfl⟩ fun v1 ⟨_, _, e⟩ => e
theorem has15_of (h : Γ 15 = Γ3 std shaI hmI byI isS isK 15) : Has15 Γ := fun σ k v kl l hT hk hv h1 h2 => by
  rw [h, g3_15 hT (hk.bytes (byI_bI kl)) (hv.bytes (byI_bI l)) (by rw [bI_length]; exact h1) (by rw [bI_length]; exact h2), hmI, toBs_bI, toBs_bI]
end
noncomputable def Γb : Gam := (((Γ3 std shaI hmI byI isS isK).rel 61 S61).rel 60 S60).rel 38 fun args σ v σ' => S38 args σ v ∧ σ' = σ
theorem gamb_ok : GamOk Tryd.prog 4 Γb :=
  have h1 := Gam.rel_ok gam3_ok (ok61 gam3_ok)
  have h2 := Gam.rel_ok h1 (ok60 h1 (has61_of (by rfl)))
  Gam.rel_ok h2 (ok38 h2)
noncomputable def Γc : Gam := (Γb.rel 24 fun args σ v σ' => S24 args σ v ∧ σ' = σ).rel 26 fun args σ v σ' => S26 args σ v ∧ σ' = σ
theorem gamc_ok : GamOk Tryd.prog 4 Γc :=
  have h1 := Gam.rel_ok gamb_ok (ok24 gamb_ok (has15_of (by rfl)) (has38_of (by rfl)) (has60_of (by rfl)) (has61_of (by rfl)))
  Gam.rel_ok h1 (ok26 h1 (has15_of (by rfl)))
end Go.Proofs.YtjkicmlelilcaaaDoor.V2
namespace Go.Proofs.YtjkicmlelilcaaaDoor.V2
open Go
open Go.RowKit
theorem isP_world {ρ : Ren} {σ : AH} {W : World} (hr : HR ρ σ W) {a : AV} {v : Value} (hv : VR ρ a v) {ps : List (List UInt8)} (h : IsP σ a ps) (hs : a.sure = true) : ∃ vs, PSl W v vs ps := by
  cases h with
  | nil =>
    simp only [VR] at hv
    exact ⟨[], rfl, .inl ⟨hv, rfl⟩, fun j hj => absurd hj (Nat.not_lt_zero j)⟩
  | sl b o n c ex m e tl ps hb hg hn hk h1 hl he =>
    obtain ⟨c', d, o', k', hρ, rfl, ho, hnk, hkk, _, _⟩ := (vr_sl hv).resolve_right (fun h => by obtain ⟨_, rfl, rfl, _⟩ := h; cases hs)
    have h2 : ∀ j, ∃ u, j < n → W.cell? ⟨c', o' + j, none⟩ = some u ∧ BSl W u (atP ps j) := fun j => by
      by_cases hj : j < n
      · obtain ⟨x, hx, hB⟩ := he j hj
        obtain ⟨u, hu, hur⟩ := hr.load (i := o + j) (a := x) hρ hg hx
        exact ⟨u, fun _ => ⟨by rw [ho (by omega), show o + d.1 + j = o + j + d.1 by omega]; exact hu, isB_world hr hur hB⟩⟩
      · exact ⟨.bool true, fun h => absurd h hj⟩
    obtain ⟨f, hf⟩ := Classical.axiomOfChoice h2
    have hat : ∀ j, j < n → atV ((List.range n).map f) j = f j := fun j hj => by simp [atV, hj]
    refine ⟨(List.range n).map f, by simp [hl], .inr ⟨c', o', k', by rw [hl], by omega, (hr.dom _ _ _ hρ).2.1, fun j hj => ?_⟩, fun j hj => ?_⟩
    · rw [hat j (by omega)]; exact (hf j (by omega)).1
    · rw [hat j (by omega)]; exact (hf j (by omega)).2
def c23 : ACode := (.seq (.reg [⟨(.aop (.alloc 43 [(.int .u8 (0)), (.int .u8 (0)), (.int .u8 (0)), (.int .u8 (0)), (.int .u8 (0)), (.int .u8 (0)), (.int .u8 (0)), (.int .u8 (0)), (.int .u8 (0)), (.int .u8 (0)), (.int .u8 (0)), (.int .u8 (0)), (.int .u8 (0)), (.int .u8 (0)), (.int .u8 (0)), (.int .u8 (0)), (.int .u8 (0)), (.int .u8 (0)), (.int .u8 (0)), (.int .u8 (0)), (.int .u8 (0)), (.int .u8 (0)), (.int .u8 (0)), (.int .u8 (0)), (.int .u8 (0)), (.int .u8 (0)), (.int .u8 (0)), (.int .u8 (0)), (.int .u8 (0)), (.int .u8 (0)), (.int .u8 (0)), (.int .u8 (0))])), (some 6), none⟩, ⟨(.aop (.mov (.lit (.int .i64 (0))))), (some 7), none⟩]) (.seq (.seq (.reg [⟨(.aop (.mov (.slot 0))), (some 13), none⟩, ⟨(.call (.lit (.fn (.func 57) [] [])) [(.slot 13)]), (some 14), none⟩, ⟨(.aop (.un .not (.slot 14))), (some 15), none⟩, ⟨(.aop (.mov (.slot 15))), (some 16), none⟩, ⟨(.aop (.mov (.slot 1))), (some 17), (some ((.slot 16), false))⟩, ⟨(.aop (.lenStr (.slot 17))), (some 18), (some ((.slot 16), false))⟩, ⟨(.aop (.bin .gtr (.slot 18) (.lit (.int .i64 (65535))))), (some 19), (some ((.slot 16), false))⟩, ⟨(.aop (.pick (.slot 16) (.lit (.bool true)) (.slot 19))), (some 20), none⟩]) (.cond (.slot 20) (.seq (.reg [⟨(.aop (.pur (.build [(.int .u8 (0)), (.int .u8 (0)), (.int .u8 (0)), (.int .u8 (0)), (.int .u8 (0)), (.int .u8 (0)), (.int .u8 (0)), (.int .u8 (0)), (.int .u8 (0)), (.int .u8 (0)), (.int .u8 (0)), (.int .u8 (0)), (.int .u8 (0)), (.int .u8 (0)), (.int .u8 (0)), (.int .u8 (0)), (.int .u8 (0)), (.int .u8 (0)), (.int .u8 (0)), (.int .u8 (0)), (.int .u8 (0)), (.int .u8 (0)), (.int .u8 (0)), (.int .u8 (0)), (.int .u8 (0)), (.int .u8 (0)), (.int .u8 (0)), (.int .u8 (0)), (.int .u8 (0)), (.int .u8 (0)), (.int .u8 (0)), (.int .u8 (0))] []) [])), (some 21), none⟩, ⟨(.aop (.store 32 (.slot 6) (.slot 21))), none, none⟩, ⟨(.aop (.mov (.lit (.int .i64 (1))))), (some 7), none⟩]) .ret) .skip)) (.seq (.reg [⟨(.aop (.alloc 80 [.nilsl, (.int .i64 (0))])), (some 8), none⟩]) (.seq (.reg [⟨(.aop (.mov (.slot 1))), (some 22), none⟩, ⟨(.call (.lit (.fn (.func 58) [] [])) [(.slot 8), (.slot 22)]), (some 23), none⟩]) (.seq (.seq (.reg [⟨(.aop (.mov (.slot 2))), (some 24), none⟩, ⟨(.aop (.lenSl (.slot 24))), (some 25), none⟩, ⟨(.aop (.mov (.lit (.int .i64 (0))))), (some 26), none⟩]) (.block 0 (.loop (.seq (.reg [⟨(.aop (.bin .lss (.slot 26) (.slot 25))), (some 27), none⟩]) (.seq (.cond (.slot 27) .skip (.exit 0)) (.seq (.block 1 (.seq (.reg [⟨(.aop (.idxSl 1 (.slot 24) (.slot 26))), (some 28), none⟩, ⟨(.aop (.load1 (.slot 28))), (some 29), none⟩, ⟨(.aop (.mov (.slot 29))), (some 10), none⟩]) (.reg [⟨(.aop (.mov (.slot 10))), (some 30), none⟩, ⟨(.aop (.lenSl (.slot 30))), (some 31), none⟩, ⟨(.aop (.conv .u32 (.slot 31))), (some 32), none⟩, ⟨(.call (.lit (.fn (.func 45) [] [])) [(.slot 8), (.slot 32)]), (some 33), none⟩, ⟨(.aop (.mov (.slot 10))), (some 34), none⟩, ⟨(.call (.lit (.fn (.func 59) [] [])) [(.slot 33), (.slot 34)]), (some 35), none⟩]))) (.reg [⟨(.aop (.bin .add (.slot 26) (.lit (.int .i64 (1))))), (some 36), none⟩, ⟨(.aop (.mov (.slot 36))), (some 26), none⟩]))))))) (.seq (.reg [⟨(.call (.lit (.fn (.func 46) [] [])) [(.slot 8)]), (some 38), none⟩, ⟨(.aop (.mov (.slot 38))), (some 37), none⟩, ⟨(.aop (.extract (.slot 37) 0)), (some 39), none⟩, ⟨(.aop (.extract (.slot 37) 1)), (some 40), none⟩, ⟨(.aop (.mov (.slot 39))), (some 11), none⟩, ⟨(.aop (.mov (.slot 40))), (some 12), none⟩]) (.seq (.reg [⟨(.aop (.mov (.slot 0))), (some 41), none⟩, ⟨(.aop (.mov (.slot 11))), (some 42), none⟩, ⟨(.aop (.mk (.bslice 22 1 1) [(.slot 42)])), (some 43), none⟩, ⟨(.call (.lit (.fn (.func 14) [] [])) [(.slot 41), (.slot 43)]), (some 44), none⟩, ⟨(.aop (.store 32 (.slot 6) (.slot 44))), none, none⟩, ⟨(.aop (.mov (.lit (.int .i64 (0))))), (some 7), none⟩]) .ret)))))))
theorem comp23 : (V2.compC Tryd.prog 4 Tryd.f23.ntmps (fun _ => false) (Tryd.f23.body.getD .skip), V2.compR Tryd.prog Tryd.f23.results.toList) = (some c23, some [(.cellN 6 32), (.tmp 7)]) := by kernel_rfl
theorem body23 : Tryd.f23.body = some (Tryd.f23.body.getD .skip) := by kernel_rfl
theorem cc23 : V2.compC Tryd.prog 4 Tryd.f23.ntmps (fun _ => false) (Tryd.f23.body.getD .skip) = some c23 := (Prod.mk.inj comp23).1
theorem cr23 : V2.compR Tryd.prog Tryd.f23.results.toList = some [(.cellN 6 32), (.tmp 7)] := (Prod.mk.inj comp23).2
def S23 (args : List AV) (σ : AH) (v : AV) : Prop := ∃ (key s : List UInt8) (ps : List (List UInt8)) (k p : AV), args = [k, .str s, p] ∧ IsB σ k (bI key) ∧ IsP σ p ps ∧ p.sure = true ∧ s.length ≤ 65535 ∧ ps.length ≤ 1000 ∧ ps.flatten.length ≤ 100000000 ∧ Tabs σ ∧ σ.next ≤ 960000 ∧ v = derV key s ps
set_option maxHeartbeats 1000000 in
theorem walk23 {Γ : Gam} (h57 : Has57 Γ) {σ : AH} {key s : List UInt8} {ps : List (List UInt8)} {k p : AV} (hk : IsB σ k (bI key)) (hmay : mayB key = false) (hs : σ.next ≤ 960000)
    {K : AV → AH → Prop} (hK : ∀ σ', Grown σ σ' → K (derV key s ps) σ') :
    avc std Γ 4 45 σ.next c23 (fun e env σ' => (match e with | .normal => True | .ret => True | _ => False) ∧ (resL std env σ' [.cellN 6 32, .tmp 7]).1 = true ∧ K (retV (resL std env σ' [.cellN 6 32, .tmp 7]).2) σ') (envOf [k, .str s, p] 0 .leaf) σ := by
  unfold c23
  refine avc_reg_cons (g_alloc (o := .ints .u8 Z32 43 .exact) (by kernel_rfl) (by omega)) ?_
  dsimp only
  have gr1 : Grown σ (σ.new (.ints .u8 Z32 43 .exact)) := Grown.new (by omega)
  have hg1 : (σ.new (.ints .u8 Z32 43 .exact)).get σ.next = some (.ints .u8 Z32 43 .exact) := get_new (by omega)
  have hx1 : (σ.new (.ints .u8 Z32 43 .exact)).next = σ.next + 1 := rfl
  generalize σ.new (.ints .u8 Z32 43 .exact) = σ1 at gr1 hg1 hx1 ⊢
  refine mv (v := .int .i64 0) (by kernel_rfl) ?_
  refine avc_reg_nil ?_
  refine avc_seq_seq ?_
  refine mv (v := k) (by kernel_rfl) ?_
  refine avc_reg_cons (g_call (n := 57) (vs := [k]) (by kernel_rfl) (by kernel_rfl) ((h57 k key σ1 (hk.mono gr1)).trans (by rw [hmay]))) ?_
  refine avc_reg_cons (g_not (b := false) (c := true) (by kernel_rfl) rfl) ?_
  refine mv (v := .bool true) (by kernel_rfl) ?_
  refine avc_reg_cons (g_skip (by kernel_rfl)) ?_
  refine avc_reg_cons (g_skip (by kernel_rfl)) ?_
  refine avc_reg_cons (g_skip (by kernel_rfl)) ?_
  refine avc_reg_cons (g_pick (v := .bool true) (by kernel_rfl) (by kernel_rfl)) ?_
  refine avc_reg_nil ?_
  refine avc_seq_cond (t := true) (by kernel_rfl) (fun _ => avc_seq_seq ?_) (fun h => by cases h)
  refine avc_reg_cons (g_pur (vs := []) (v := .ints .u8 Z32) (by kernel_rfl) (by kernel_rfl)) ?_
  refine avc_reg_cons (g_storeAll (b := σ.next) (m := Z32) (by kernel_rfl) (by kernel_rfl) hg1 rfl rfl) ?_
  dsimp only
  have gr3 : Grown σ (σ1.put σ.next (.ints .u8 Z32 43 .exact)) := gr1.put (by omega) (by omega)
  have hg3 : (σ1.put σ.next (.ints .u8 Z32 43 .exact)).get σ.next = some (.ints .u8 Z32 43 .exact) := by rw [get_put (by omega), if_pos rfl]
  generalize σ1.put σ.next (.ints .u8 Z32 43 .exact) = σ3 at gr3 hg3 ⊢
  refine mv (v := .int .i64 1) (by kernel_rfl) ?_
  refine avc_reg_nil ?_
  have hfin := hK σ3 gr3
  rw [derV, hmay, cond_false] at hfin
  refine avc_seq_ret (fin_ok (vs := [.ints .u8 Z32, .int .i64 1]) (resL2 (resV_cell (b := σ.next) (by kernel_rfl) hg3 rfl) (by kernel_rfl)) hfin)
theorem ok23 {Γ : Gam} (hΓ : GamOk Tryd.prog 4 Γ) (h57 : Has57 Γ) : SOk Tryd.prog 4 23 (fun args σ v σ' => S23 args σ v ∧ σ' = σ) := by
  have hT : SOk Tryd.prog 4 23 (fun args σ v σ' => (∃ (key s : List UInt8) (ps : List (List UInt8)) (k p : AV), args = [k, .str s, p] ∧ IsB σ k (bI key) ∧ IsP σ p ps ∧ p.sure = true ∧ s.length ≤ 65535 ∧ ps.length ≤ 1000 ∧ ps.flatten.length ≤ 100000000 ∧ Tabs σ ∧ mayB key = true ∧ v = .tup [.ints .u8 (bI (hmB key (layB s ps))), .int .i64 0]) ∧ σ' = σ) := by
    refine sok_below Tryd.func23 (by kernel_rfl) (by kernel_rfl) ?_
    rintro args σ v ⟨key, s, ps, k, p, rfl, hk, hp, hsu, hsl, hpl, hpf, hT, hm, rfl⟩ ρ W vs hG hr hvs
    obtain ⟨u0, l0, rfl, h0, hvs⟩ := vrs_cons hvs
    obtain ⟨u1, l1, rfl, h1, hvs⟩ := vrs_cons hvs
    obtain ⟨u2, rfl, h2⟩ := vrs_one hvs
    obtain ⟨k1, k2, k3⟩ := tabs_world hr hG hT
    obtain ⟨m1, m2⟩ := mayB_iff.1 hm
    obtain ⟨qs, hP⟩ := isP_world hr h2 hp hsu
    have e1 : u1 = .string ⟨s.toArray⟩ := by unfold VR at h1; exact h1
    rw [e1]
    refine (derive_any u0 u2 key s qs ps W (isB_world hr h0 hk) hP m1 m2 hsl (by omega) hpf k1 k2 k3).mono fun e W' ⟨e1, e2⟩ => ⟨_, e1, e2, ?_⟩
    unfold VR
    exact ⟨[.agg (c8 (hmB key (layB s ps))), .int .i64 0], rfl, _, _, rfl, vr_bytes _, _, _, rfl, by unfold VR; rfl, rfl⟩
  have hF : SOk Tryd.prog 4 23 (fun args σ v σ' => (∃ (key s : List UInt8) (ps : List (List UInt8)) (k p : AV), args = [k, .str s, p] ∧ IsB σ k (bI key) ∧ mayB key = false ∧ σ.next ≤ 960000 ∧ v = derV key s ps) ∧ σ' = σ) := by
    refine sok_pure hΓ Tryd.func23 body23 cc23 cr23 (by kernel_rfl) (by kernel_rfl) ?_
    rintro args σ v ⟨key, s, ps, k, p, rfl, hk, hm, hn, rfl⟩
    exact ⟨by kernel_rfl, by rw [derV, hm]; rfl, walk23 (K := fun av σ' => av = derV key s ps ∧ Grown σ σ') h57 hk hm hn fun σ' h => ⟨rfl, h⟩⟩
  refine ⟨hT.1, ?_⟩
  rintro args σ v σ' ⟨⟨key, s, ps, k, p, rfl, hk, hp, hsu, hsl, hpl, hpf, hTb, hn, rfl⟩, rfl⟩
  cases hm : mayB key with
  | true => exact hT.2 _ _ _ _ ⟨⟨key, s, ps, k, p, rfl, hk, hp, hsu, hsl, hpl, hpf, hTb, hm, by rw [derV, hm]; rfl⟩, rfl⟩
  | false => exact hF.2 _ _ _ _ ⟨⟨key, s, ps, k, p, rfl, hk, hm, hn, rfl⟩, rfl⟩
def Has23 (Γ : Gam) : Prop := ∀ (key s : List UInt8) (ps : List (List UInt8)) (k p : AV) (σ : AH), IsB σ k (bI key) → IsP σ p ps → p.sure = true → s.length ≤ 65535 → ps.length ≤ 1000 → ps.flatten.length ≤ 100000000 → Tabs σ → σ.next ≤ 960000 → Γ 23 [k, .str s, p] σ = (true, derV key s ps, σ)
theorem has23_of {Γ : Gam} (h : Γ 23 = relG fun args σ v σ' => S23 args σ v ∧ σ' = σ) : Has23 Γ := fun key s ps k p σ h1 h2 h3 h4 h5 h6 h7 h8 => pure_call h ⟨key, s, ps, k, p, rfl, h1, h2, h3, h4, h5, h6, h7, h8, rfl⟩ fun v1 ⟨key', s', ps', k', p', e, h1', h2', _, _, _, _, _, _, e'⟩ => by
  cases e
  rw [e', h1.uniqB h1', h2.uniq h2']
theorem ok25 : SOk Tryd.prog 4 25 (fun args σ v σ' => S26 args σ v ∧ σ' = σ) := by
  refine sok_below Tryd.func25 (by kernel_rfl) (by kernel_rfl) ?_
  rintro args σ v ⟨k, bs, b, rfl, hk, hb, hl, hT, _, rfl⟩ ρ W vs hG hr hvs
  obtain ⟨u0, l0, rfl, h0, hvs⟩ := vrs_cons hvs
  obtain ⟨u1, rfl, h1⟩ := vrs_one hvs
  obtain ⟨k1, k2, k3⟩ := tabs_world hr hG hT
  rw [vr_c8 h0]
  exact (tag_any k bs u1 W hk (isB_world hr h1 hb) hl k1 k2 k3).mono fun e W' ⟨e1, e2⟩ => ⟨_, e1, e2, by unfold VR; rfl⟩
def Has25 (Γ : Gam) : Prop := ∀ (k bs : List UInt8) (b : AV) (σ : AH), k.length = 32 → IsB σ b (bI bs) → bs.length ≤ 1000000000 → Tabs σ → σ.next ≤ 980000 → Γ 25 [.ints .u8 (bI k), b] σ = (true, .int .u64 (num (hmB k bs) 8 : Nat), σ)
theorem has25_of {Γ : Gam} (h : Γ 25 = relG fun args σ v σ' => S26 args σ v ∧ σ' = σ) : Has25 Γ := fun k bs b σ h1 h2 h3 h4 h5 => pure_call h ⟨k, bs, b, rfl, h1, h2, h3, h4, h5, rfl⟩ fun v1 ⟨k', bs', b', e, _, h2', _, _, _, e'⟩ => by
  simp only [List.cons.injEq, AV.ints.injEq, true_and, and_true] at e
  obtain ⟨e1, rfl⟩ := e
  rw [e', h2.uniqB h2', bI_inj e1]
end Go.Proofs.YtjkicmlelilcaaaDoor.V2
