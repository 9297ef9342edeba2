/- Part 12 of the proof: texts of the proof. -/
import Derived.Test.YtjkicmlelilcaaaDoorQR11
import Derived.Deep.DeepCutAuto
namespace Go.Proofs.YtjkicmlelilcaaaDoor.V2
open Go
open Go.RowKit
def c61 : ACode := (.seq (.reg [⟨(.aop (.mov (.lit .nilsl))), (some 4), none⟩]) (.seq (.reg [⟨(.aop (.mov (.slot 1))), (some 7), none⟩, ⟨(.aop (.mk (.makeSl 5 1 [(.int .u8 (0))]) [(.slot 7), (.slot 7)])), (some 8), none⟩, ⟨(.aop (.mov (.slot 8))), (some 5), none⟩]) (.seq (.seq (.reg [⟨(.aop (.mov (.slot 1))), (some 9), none⟩, ⟨(.aop (.bin .sub (.slot 9) (.lit (.int .i64 (1))))), (some 10), none⟩, ⟨(.aop (.mov (.slot 10))), (some 6), none⟩]) (.block 0 (.loop (.seq (.seq (.reg [⟨(.aop (.mov (.slot 6))), (some 11), none⟩, ⟨(.aop (.bin .geq (.slot 11) (.lit (.int .i64 (0))))), (some 12), none⟩]) (.cond (.slot 12) .skip (.exit 0))) (.seq (.block 1 (.seq (.reg [⟨(.aop (.mov (.slot 5))), (some 15), none⟩, ⟨(.aop (.mov (.slot 6))), (some 16), none⟩, ⟨(.aop (.mov (.slot 0))), (some 17), none⟩, ⟨(.aop (.bin .rem (.slot 17) (.lit (.int .u64 (256))))), (some 18), none⟩, ⟨(.aop (.conv .u8 (.slot 18))), (some 19), none⟩, ⟨(.aop (.idxSl 1 (.slot 15) (.slot 16))), (some 20), none⟩, ⟨(.aop (.store 1 (.slot 20) (.slot 19))), none, none⟩]) (.reg [⟨(.aop (.mov (.slot 0))), (some 21), none⟩, ⟨(.aop (.bin .quo (.slot 21) (.lit (.int .u64 (256))))), (some 22), none⟩, ⟨(.aop (.mov (.slot 22))), (some 0), none⟩]))) (.reg [⟨(.aop (.mov (.slot 6))), (some 13), none⟩, ⟨(.aop (.bin .sub (.slot 13) (.lit (.int .i64 (1))))), (some 14), none⟩, ⟨(.aop (.mov (.slot 14))), (some 6), none⟩])))))) (.seq (.reg [⟨(.aop (.mov (.slot 5))), (some 23), none⟩, ⟨(.aop (.mov (.slot 23))), (some 4), none⟩]) .ret))))
theorem comp61 : (V2.compC Tryd.prog 4 Tryd.f61.ntmps (fun _ => false) (Tryd.f61.body.getD .skip), V2.compR Tryd.prog Tryd.f61.results.toList) = (some c61, some [(.tmp 4)]) := by kernel_rfl
theorem body61 : Tryd.f61.body = some (Tryd.f61.body.getD .skip) := by kernel_rfl
theorem cc61 : V2.compC Tryd.prog 4 Tryd.f61.ntmps (fun _ => false) (Tryd.f61.body.getD .skip) = some c61 := (Prod.mk.inj comp61).1
theorem cr61 : V2.compR Tryd.prog Tryd.f61.results.toList = some [(.tmp 4)] := (Prod.mk.inj comp61).2
theorem num_set (n m k : Nat) (h : k < m) : (List.replicate (m - k) (0 : Int) ++ bI (numL n k)).set (m - 1 - k) (N8 (UInt8.ofNat (n / 256 ^ k))) = List.replicate (m - (k + 1)) 0 ++ bI (numL n (k + 1)) := by
  rw [show m - k = (m - (k + 1)) + 1 by omega, List.replicate_succ', List.append_assoc, List.set_append_right _ _ (by simp; omega)]
  congr 1
  rw [List.length_replicate, show m - 1 - k - (m - (k + 1)) = 0 by omega]
  rfl
theorem n8_of' (n : Nat) : N8 (UInt8.ofNat n) = ((n % 256 : Nat) : Int) := by rw [n8_of]; omega
theorem tm256 (q : Nat) : Int.tmod (q : Int) 256 = ((q % 256 : Nat) : Int) := by rw [Int.tmod_eq_emod_of_nonneg (by omega)]; omega
theorem td256 {q : Nat} (h : q < 18446744073709551616) : wr .u64 (Int.tdiv (q : Int) 256) = ((q / 256 : Nat) : Int) := by
  rw [Int.tdiv_eq_ediv_of_nonneg (by omega)]
  show (q : Int) / 256 % 18446744073709551616 = _
  omega
theorem fin_ok {env : T AV} {σ : AH} {xs : List ARes} {vs : List AV} {K : AV → AH → Prop} (h : resL std env σ xs = (true, vs)) (hK : K (retV vs) σ) : (match Exit.ret with | .normal => True | .ret => True | _ => False) ∧ (resL std env σ xs).1 = true ∧ K (retV (resL std env σ xs).2) σ := by
  rw [h]; exact ⟨trivial, rfl, hK⟩
def S61 (args : List AV) (σ : AH) (v : AV) (σ' : AH) : Prop := ∃ n m : Nat, args = [.int .u64 n, .int .i64 m] ∧ n < 18446744073709551616 ∧ m ≤ 8 ∧ σ.next ≤ 990000 ∧ v = .sl σ.next 0 m m true 1 ∧ σ' = σ.new (.ints .u8 (bI (numL n m)) 5 .exact)
theorem S61.uniq {args : List AV} {σ σ' σ1 : AH} {v v1 : AV} (h : S61 args σ v σ') (h' : S61 args σ v1 σ1) : v1 = v ∧ σ1 = σ' := by
  obtain ⟨n, m, rfl, _, _, _, rfl, rfl⟩ := h
  obtain ⟨n', m', e, _, _, _, rfl, rfl⟩ := h'
  simp only [List.cons.injEq, AV.int.injEq, and_true, true_and] at e
  obtain ⟨e1, e2⟩ := e
  have e1 : n = n' := by omega
  have e2 : m = m' := by omega
  subst e1 e2
  exact ⟨rfl, rfl⟩
theorem walk61 {Γ : Gam} {σ : AH} {n m : Nat} (hn : n < 18446744073709551616) (hm : m ≤ 8) (hs : σ.next ≤ 990000) (h0 : ∀ b, σ.next ≤ b → σ.get b = none) {K : AV → AH → Prop} (hK : ∀ σ', σ'.next = σ.next + 1 → (∀ b, σ'.get b = (σ.new (.ints .u8 (bI (numL n m)) 5 .exact)).get b) → K (.sl σ.next 0 m m true 1) σ') :
    avc std Γ 4 24 σ.next c61 (fun e env σ' => (match e with | .normal => True | .ret => True | _ => False) ∧ (resL std env σ' [.tmp 4]).1 = true ∧ K (retV (resL std env σ' [.tmp 4]).2) σ') (envOf [.int .u64 n, .int .i64 m] 0 .leaf) σ := by
  unfold c61
  refine avc_reg_cons (g_mov (v := .nilsl) (by kernel_rfl)) (avc_reg_nil ?_)
  refine avc_reg_cons (g_mov (v := .int .i64 m) (by kernel_rfl)) ?_
  refine avc_reg_cons (g_mk (vs := [.int .i64 m, .int .i64 m]) (v := fun b => .sl b 0 m m true 1) (o := .ints .u8 (List.replicate m 0) 5 .exact) (by kernel_rfl) ?_ (by omega)) ?_
  · have h1 : decide ((0 : Int) ≤ (m : Int)) = true := by rw [decide_eq_true_eq]; omega
    have h2 : Nat.ble m 1000000 = true := by rw [Nat.ble_eq]; omega
    have h3 : ((m : Int)).toNat = m := rfl
    simp [nstep, std, newCells, h1, h2, h3]
  dsimp only
  have gr : Grown σ (σ.new (.ints .u8 (List.replicate m 0) 5 .exact)) := Grown.new (by omega)
  have hg : (σ.new (.ints .u8 (List.replicate m 0) 5 .exact)).get σ.next = some (.ints .u8 (List.replicate m 0) 5 .exact) := get_new (by omega)
  have hx : (σ.new (.ints .u8 (List.replicate m 0) 5 .exact)).next = σ.next + 1 := rfl
  have hgr : ∀ b, b ≠ σ.next → (σ.new (.ints .u8 (List.replicate m 0) 5 .exact)).get b = σ.get b := fun b hb => by
    show ((σ.mem.put σ.next _).get b) = σ.mem.get b
    rw [T.get_put _ _ _ _ (by omega), if_neg hb]
  generalize σ.new (.ints .u8 (List.replicate m 0) 5 .exact) = σ1 at gr hg hx hgr ⊢
  refine avc_reg_cons (g_mov (v := .sl σ.next 0 m m true 1) (by kernel_rfl)) (avc_reg_nil ?_)
  refine avc_seq (avc_seq (avc_one_cons (g_mov (v := .int .i64 m) (by kernel_rfl)) (avc_one_cons (g_bin (op := .sub) (k := .i64) (k' := .i64) (a := m) (b := 1) (v := .int .i64 ((m : Int) - 1 - (0 : Nat))) (by kernel_rfl) (by kernel_rfl) rfl ?_) (avc_one_cons (g_mov (v := .int .i64 ((m : Int) - 1 - (0 : Nat))) (by kernel_rfl)) (avc_one_nil ?_)))))
  · simp only [binI, std, wr]
    congr 2; omega
  refine avc_block (avc_loop (fun env σ' => ∃ k : Nat, k ≤ m ∧ env = ofL [(0, .int .u64 ((n / 256 ^ k : Nat) : Int)), (5, .sl σ.next 0 m m true 1), (6, .int .i64 ((m : Int) - 1 - (k : Nat)))] ∧ σ'.next = σ.next + 1 ∧ σ'.get σ.next = some (.ints .u8 (List.replicate (m - k) 0 ++ bI (numL n k)) 5 .exact) ∧ ∀ b, b ≠ σ.next → σ'.get b = σ.get b)
    (fun env _ => (intAt env 6 + 1).toNat)
    (Wk.env (l := [(0, .int .u64 ((n / 256 ^ 0 : Nat) : Int)), (5, .sl σ.next 0 m m true 1), (6, .int .i64 ((m : Int) - 1 - (0 : Nat)))]) ⟨⟨?_, rfl⟩, ⟨by kernel_rfl, rfl⟩, ⟨by kernel_rfl, rfl⟩, trivial⟩ (by omega)) ⟨0, Nat.zero_le _, rfl, hx, by rw [hg]; simp [numL, bI], hgr⟩ ?_)
  · rw [Nat.pow_zero, Nat.div_one]; kernel_rfl
  rintro env σ' ⟨k, hk, rfl, hx', hg', hgr'⟩
  refine avc_seq_seq (avc_reg_cons (g_mov (v := .int .i64 ((m : Int) - 1 - (k : Nat))) (by kernel_rfl)) ?_)
  refine avc_reg_cons (g_bin (op := .geq) (k := .i64) (k' := .i64) (a := (m : Int) - 1 - (k : Nat)) (b := 0) (v := .bool (decide (0 ≤ (m : Int) - 1 - (k : Nat)))) (by kernel_rfl) (by kernel_rfl) rfl (by simp only [binI, std])) (avc_reg_nil ?_)
  refine avc_seq_cond (t := decide (0 ≤ (m : Int) - 1 - (k : Nat))) (by kernel_rfl) (fun ht => ?_) (fun ht => ?_)
  · have hkm : k < m := by simp at ht; omega
    have hi : (m : Int) - 1 - (k : Nat) = ((m - 1 - k : Nat) : Int) := by omega
    have hq : n / 256 ^ k < 18446744073709551616 := Nat.lt_of_le_of_lt (Nat.div_le_self _ _) hn
    refine avc_seq_skip (avc_seq_block ?_)
    refine avc_reg_cons (g_mov (v := .sl σ.next 0 m m true 1) (by kernel_rfl)) ?_
    refine avc_reg_cons (g_mov (v := .int .i64 ((m : Int) - 1 - (k : Nat))) (by kernel_rfl)) ?_
    refine avc_reg_cons (g_mov (v := .int .u64 ((n / 256 ^ k : Nat) : Int)) (by kernel_rfl)) ?_
    refine avc_reg_cons (g_bin (op := .rem) (k := .u64) (k' := .u64) (a := ((n / 256 ^ k : Nat) : Int)) (b := 256) (v := .int .u64 ((n / 256 ^ k % 256 : Nat) : Int)) (by kernel_rfl) (by kernel_rfl) rfl ?_) ?_
    · simp only [binI, std, Prod.mk.injEq, AV.int.injEq, true_and]
      exact ⟨rfl, tm256 _⟩
    refine avc_reg_cons (g_conv (k := .u8) (k' := .u64) (n := ((n / 256 ^ k % 256 : Nat) : Int)) (m := N8 (UInt8.ofNat (n / 256 ^ k))) (by kernel_rfl) ?_) ?_
    · rw [n8_of']; show ((n / 256 ^ k % 256 : Nat) : Int) % 256 = _; omega
    refine avc_reg_cons (g_idxSl (b := σ.next) (o := 0) (n := m) (c := m) (e := true) (z := 1) (k := .i64) (m := m - 1 - k) (by kernel_rfl) (by rw [← hi]; kernel_rfl) (by omega)) ?_
    refine avc_reg_cons (g_store (b := σ.next) (off := 0 + (m - 1 - k) * 1) (v := .int .u8 (N8 (UInt8.ofNat (n / 256 ^ k)))) (by kernel_rfl) (by kernel_rfl) hg' ?_ rfl) (avc_reg_nil ?_)
    · have : Nat.blt (0 + (m - 1 - k) * 1) (m - k + k) = true := by rw [Nat.blt_eq]; omega
      simp [AObj.writeOk, Tl.isRo, std, bI_length, numL_length]; omega
    refine avc_one_cons (g_mov (v := .int .u64 ((n / 256 ^ k : Nat) : Int)) (by kernel_rfl)) ?_
    refine avc_one_cons (g_bin (op := .quo) (k := .u64) (k' := .u64) (a := ((n / 256 ^ k : Nat) : Int)) (b := 256) (v := .int .u64 ((n / 256 ^ (k + 1) : Nat) : Int)) (by kernel_rfl) (by kernel_rfl) rfl ?_) ?_
    · simp only [binI, std, Prod.mk.injEq, AV.int.injEq, true_and]
      rw [Nat.pow_succ, ← Nat.div_div_eq_div_mul]
      exact ⟨rfl, td256 hq⟩
    refine avc_one_cons (g_mov (v := .int .u64 ((n / 256 ^ (k + 1) : Nat) : Int)) (by kernel_rfl)) (avc_one_nil (k_bseq ?_))
    refine avc_one_cons (g_mov (v := .int .i64 ((m : Int) - 1 - (k : Nat))) (by kernel_rfl)) ?_
    refine avc_one_cons (g_bin (op := .sub) (k := .i64) (k' := .i64) (a := (m : Int) - 1 - (k : Nat)) (b := 1) (v := .int .i64 ((m : Int) - 1 - ((k + 1 : Nat) : Int))) (by kernel_rfl) (by kernel_rfl) rfl ?_) ?_
    · simp only [binI, std, wr]
      congr 2; omega
    refine avc_one_cons (g_mov (v := .int .i64 ((m : Int) - 1 - ((k + 1 : Nat) : Int))) (by kernel_rfl)) (avc_one_nil ?_)
    have hlt : σ.next < 1000000 := by omega
    refine ⟨_, _, Wk.env (l := [(0, .int .u64 ((n / 256 ^ (k + 1) : Nat) : Int)), (5, .sl σ.next 0 m m true 1), (6, .int .i64 ((m : Int) - 1 - ((k + 1 : Nat) : Int)))]) ⟨⟨by kernel_rfl, rfl⟩, ⟨by kernel_rfl, rfl⟩, ⟨by kernel_rfl, rfl⟩, trivial⟩ (by show σ.next ≤ σ'.next; omega), ⟨k + 1, hkm, rfl, hx', ?_, fun b hb => ?_⟩, ?_⟩
    · rw [get_put hlt, if_pos rfl]
      show some (AObj.ints .u8 (List.set _ (0 + (m - 1 - k) * 1) _) 5 .exact) = _
      rw [show 0 + (m - 1 - k) * 1 = m - 1 - k by omega, num_set n m k hkm]
    · rw [get_put hlt, if_neg hb]; exact hgr' b hb
    · rw [intAt_of (k := .i64) (n := (m : Int) - 1 - ((k + 1 : Nat) : Int)) (by kernel_rfl), intAt_of (k := .i64) (n := (m : Int) - 1 - (k : Nat)) (by kernel_rfl)]
      omega
  · have hkm : k = m := by simp at ht; omega
    subst hkm
    refine avc_seq_exit (k_sexit (k_exit ?_))
    refine avc_reg_cons (g_mov (v := .sl σ.next 0 k k true 1) (by kernel_rfl)) ?_
    refine avc_reg_cons (g_mov (v := .sl σ.next 0 k k true 1) (by kernel_rfl)) (avc_reg_nil ?_)
    have hr : resL std (putD (putD (putD (putD (ofL [(0, .int .u64 ((n / 256 ^ k : Nat) : Int)), (5, .sl σ.next 0 k k true 1), (6, .int .i64 ((k : Int) - 1 - (k : Nat)))]) (some 11) (.int .i64 ((k : Int) - 1 - (k : Nat)))) (some 12) (.bool (decide (0 ≤ (k : Int) - 1 - (k : Nat))))) (some 23) (.sl σ.next 0 k k true 1)) (some 4) (.sl σ.next 0 k k true 1)) σ' [.tmp 4] = (true, [.sl σ.next 0 k k true 1]) := by kernel_rfl
    refine fin_ok hr ?_
    refine hK σ' hx' fun b => ?_
    by_cases hb : b = σ.next
    · subst hb
      rw [hg', get_new (by omega)]; simp
    · rw [hgr' b hb]
      show _ = ((σ.mem.put σ.next _).get b)
      rw [T.get_put _ _ _ _ (by omega), if_neg hb]; rfl
theorem ok61 {Γ : Gam} (hΓ : GamOk Tryd.prog 4 Γ) : SOk Tryd.prog 4 61 S61 := by
  refine sok_same hΓ Tryd.func61 body61 cc61 cr61 (by kernel_rfl) (by kernel_rfl) ?_
  rintro args σ v σ1 ⟨n, m, rfl, hn, hm, hs, rfl, rfl⟩
  exact ⟨by kernel_rfl, fun h0 => walk61 (K := fun av σ' => av = .sl σ.next 0 m m true 1 ∧ (σ.new (.ints .u8 (bI (numL n m)) 5 .exact)).next = σ'.next ∧ ∀ b, (σ.new (.ints .u8 (bI (numL n m)) 5 .exact)).get b = σ'.get b) hn hm hs h0 fun σ' h1 h2 => ⟨rfl, h1.symm, fun b => (h2 b).symm⟩⟩
end Go.Proofs.YtjkicmlelilcaaaDoor.V2
namespace Go.Proofs.YtjkicmlelilcaaaDoor.V2
open Go
open Go.RowKit
inductive IsA (N : Nat) (σ : AH) : AV → List Int → Prop
  | nil : IsA N σ .nilsl []
  | sl (b c : Nat) (ex : Bool) (l : List Int) (tl : Tl) (hN : N ≤ b) (hb : b < σ.next) (hg : σ.get b = some (.ints .u8 l 5 tl)) (ht : tl.isRo = false) (hk : l.length ≤ c) : IsA N σ (.sl b 0 l.length c ex 1) l
theorem IsA.isB {N : Nat} {σ : AH} {v : AV} {l : List Int} (h : IsA N σ v l) : IsB σ v l := by
  cases h with
  | nil => exact .nil
  | sl b c ex l tl hN hb hg ht hk => exact .sl b 0 l.length c ex l l 5 tl hb hg (by omega) hk (by simp)
theorem IsA.mono {N : Nat} {σ σ' : AH} {v : AV} {l : List Int} (h : IsA N σ v l) (g : Grown σ σ') : IsA N σ' v l := by
  cases h with
  | nil => exact .nil
  | sl b c ex l tl hN hb hg ht hk => exact .sl b c ex l tl hN (Nat.lt_of_lt_of_le hb g.next) (by rw [g.get b hb]; exact hg) ht hk
theorem killA_next (A : Ar) (σ : AH) (n : Nat) (v : AV) : (killA A σ n v).next = σ.next := by
  unfold killA
  repeat' split
  all_goals first
    | rfl
    | (cases A.ltN _ _ <;> rfl)
theorem killA_get (A : Ar) (σ : AH) (n b o k c z : Nat) (e : Bool) (hb : b < 1000000) (m : Nat) (hm : m ≠ b) : (killA A σ n (.sl b o k c e z)).get m = σ.get m := by
  have hp : (σ.put b .dead).get m = σ.get m := by rw [get_put hb, if_neg hm]
  cases e
  · exact hp
  · show (bif A.ltN c n then σ else σ.put b .dead).get m = _
    cases A.ltN c n
    · exact hp
    · rfl
theorem IsA.app {N : Nat} {σ : AH} {v x : AV} {l m : List Int} {str : Bool} {r : Row} (h : IsA N σ v l) (hs : σ.next < 1000000) (hN : N ≤ σ.next) (hx : rowA std str 1 σ x = (true, m.length, r)) (hr : r = .ints .u8 m ∨ r = .cells [] ∧ m = []) (hl : l.length + m.length ≤ 1000000000000) :
    ∃ v' σ', xstep std σ (.append 5 str 1) [v, x] = (true, v', σ') ∧ IsA N σ' v' (l ++ m) ∧ (∀ b, b < N → σ'.get b = σ.get b) ∧ σ.next ≤ σ'.next ∧ σ'.next ≤ σ.next + 1 := by
  have hsl : isSl 1 v = true := by cases h <;> rfl
  simp only [xstep, hx]
  by_cases h0 : m.length = 0
  · have : m = [] := List.length_eq_zero_iff.1 h0
    subst this
    refine ⟨v, σ, ?_, by rw [List.append_nil]; exact h, fun _ _ => rfl, Nat.le_refl _, Nat.le_succ _⟩
    have : std.eqN ([] : List Int).length 0 = true := rfl
    simp only [this, hsl, Bool.and_true, cond_true]
  · have hz : std.eqN m.length 0 = false := by
      show Nat.beq m.length 0 = false
      exact T.beq_f h0
    have hr : r = .ints .u8 m := hr.resolve_right fun h => h0 (by rw [h.2]; rfl)
    subst hr
    have h6 : Nat.blt σ.next 1000000 = true := by rw [Nat.blt_eq]; exact hs
    cases h with
    | nil =>
      have hl2 : m.length ≤ 1000000000000 := by simp at hl; exact hl
      refine ⟨.sl σ.next 0 m.length m.length false 1, σ.new (.ints .u8 m 5 .more), ?_, .sl _ _ _ _ .more hN (Nat.lt_succ_self _) (get_new hs) rfl (Nat.le_refl _), fun b hb => (Grown.new hs).get b (by omega), Nat.le_succ _, Nat.le_refl _⟩
      have h8 : rowA std false 1 σ .nilsl = (true, 0, .cells []) := rfl
      have h9 : std.addN 0 m.length = m.length := Nat.zero_add _
      have h10 : std.leN m.length 1000000000000 = true := le_std hl2
      simp only [hz, Bool.false_and, cond_false, appN, hx, h8, catA, baseOk, killA, h9, h10, h6, Bool.and_true, Bool.not_false]
    | sl b c ex l tl hNb hb hg ht hk =>
      have h8 : rowA std false 1 σ (.sl b 0 l.length c ex 1) = (true, l.length, .ints .u8 l) := by
        simp [rowA, hg, std]
      have h9 : std.addN l.length m.length = l.length + m.length := rfl
      have h10 : std.leN (l.length + m.length) 1000000000000 = true := le_std hl
      have h11 : baseOk std σ 5 (l.length + m.length) (.sl b 0 l.length c ex 1) = true := by
        simp [baseOk, hg, AObj.cellsy, AObj.elem, AObj.isRo, ht]
      have hb6 : b < 1000000 := by omega
      have hkn := killA_next std σ (l.length + m.length) (.sl b 0 l.length c ex 1)
      have hkg := killA_get std σ (l.length + m.length) b 0 l.length c 1 ex hb6
      generalize hσk : killA std σ (l.length + m.length) (.sl b 0 l.length c ex 1) = σk at hkn hkg
      have hnew : (σk.new (.ints .u8 (l ++ m) 5 .more)).get σk.next = some (.ints .u8 (l ++ m) 5 .more) := get_new (by omega)
      refine ⟨.sl σ.next 0 (l.length + m.length) (l.length + m.length) false 1, σk.new (.ints .u8 (l ++ m) 5 .more), ?_, ?_, fun k hk2 => ?_, by show σ.next ≤ σk.next + 1; omega, by show σk.next + 1 ≤ _; omega⟩
      · have h12 : std.app l m = l ++ m := rfl
        have h13 : decide (IntKind.u8 = IntKind.u8) = true := rfl
        simp only [hz, Bool.false_and, cond_false, appN, hx, h8, catA, h9, h10, h11, h12, h13, h6, hσk, decide_true, Bool.and_true, Bool.not_false]
      · rw [← List.length_append]
        exact .sl _ _ _ _ .more hN (by show _ < σk.next + 1; omega) (by rw [← hkn]; exact hnew) rfl (Nat.le_refl _)
      · rw [(Grown.new (o := .ints .u8 (l ++ m) 5 .more) (by omega : σk.next < 1000000)).get k (by omega)]
        exact hkg k (by omega)
theorem row_str (σ : AH) (s : List UInt8) : rowA std true 1 σ (.str s) = (true, (bI s).length, .ints .u8 (bI s)) := by
  rw [bI_length]; rfl
section
variable {a b : Int} {k : IntKind}
theorem b_ge (h : b ≤ a) : binI std .geq k a b = (true, .bool true) := by simp only [binI, std, h, decide_true]
theorem b_ge' (h : ¬b ≤ a) : binI std .geq k a b = (true, .bool false) := by simp only [binI, std, h, decide_false]
theorem b_lt (h : a < b) : binI std .lss k a b = (true, .bool true) := by simp only [binI, std, h, decide_true]
theorem b_lt' (h : ¬a < b) : binI std .lss k a b = (true, .bool false) := by simp only [binI, std, h, decide_false]
theorem b_gt (h : b < a) : binI std .gtr k a b = (true, .bool true) := by simp only [binI, std, h, decide_true]
theorem b_gt' (h : ¬b < a) : binI std .gtr k a b = (true, .bool false) := by simp only [binI, std, h, decide_false]
theorem b_eq (h : a = b) : binI std .eql k a b = (true, .bool true) := by simp only [binI, std, h, decide_true]
theorem b_ne' (h : a = b) : binI std .neq k a b = (true, .bool false) := by simp only [binI, std, h, decide_true, Bool.not_true]
theorem b_add {c : Int} (h : wr k (a + b) = c) : binI std .add k a b = (true, .int k c) := by subst h; rfl
end
theorem wr_u64 {n : Nat} (h : n < 18446744073709551616) : wr .u64 n = n := by show (n : Int) % 18446744073709551616 = n; omega
theorem wr_i64 {n : Nat} (h : n < 9223372036854775808) : wr .i64 n = n := by show ((n : Int) + 9223372036854775808) % 18446744073709551616 - 9223372036854775808 = n; omega
def Has61 (Γ : Gam) : Prop := ∀ (n m : Nat) (σ : AH), n < 18446744073709551616 → m ≤ 8 → σ.next ≤ 990000 → Γ 61 [.int .u64 n, .int .i64 m] σ = (true, .sl σ.next 0 m m true 1, σ.new (.ints .u8 (bI (numL n m)) 5 .exact))
def c38 : ACode := (.seq (.reg [⟨(.aop (.mov (.lit (.bool false)))), (some 2), none⟩]) (.seq (.reg [⟨(.aop (.mov (.slot 0))), (some 3), none⟩, ⟨(.aop (.lenSl (.slot 3))), (some 4), none⟩, ⟨(.aop (.bin .geq (.slot 4) (.lit (.int .i64 (1))))), (some 5), none⟩, ⟨(.aop (.mov (.slot 5))), (some 6), none⟩, ⟨(.aop (.mov (.slot 0))), (some 7), (some ((.slot 6), true))⟩, ⟨(.aop (.lenSl (.slot 7))), (some 8), (some ((.slot 6), true))⟩, ⟨(.aop (.bin .leq (.slot 8) (.lit (.int .i64 (64))))), (some 9), (some ((.slot 6), true))⟩, ⟨(.aop (.pick (.slot 6) (.slot 9) (.lit (.bool false)))), (some 10), none⟩, ⟨(.aop (.mov (.slot 10))), (some 2), none⟩]) .ret))
theorem comp38 : (V2.compC Tryd.prog 4 Tryd.f38.ntmps (fun _ => false) (Tryd.f38.body.getD .skip), V2.compR Tryd.prog Tryd.f38.results.toList) = (some c38, some [(.tmp 2)]) := by kernel_rfl
theorem body38 : Tryd.f38.body = some (Tryd.f38.body.getD .skip) := by kernel_rfl
theorem cc38 : V2.compC Tryd.prog 4 Tryd.f38.ntmps (fun _ => false) (Tryd.f38.body.getD .skip) = some c38 := (Prod.mk.inj comp38).1
theorem cr38 : V2.compR Tryd.prog Tryd.f38.results.toList = some [(.tmp 2)] := (Prod.mk.inj comp38).2
def S38 (args : List AV) (σ : AH) (v : AV) : Prop := ∃ k bs, args = [k] ∧ IsB σ k (bI bs) ∧ v = .bool (decide (0 < bs.length) && decide (bs.length ≤ 64))
theorem walk38 {Γ : Gam} {σ : AH} {k : AV} {bs : List UInt8} (hk : IsB σ k (bI bs)) {K : AV → AH → Prop} (hK : K (.bool (decide (0 < bs.length) && decide (bs.length ≤ 64))) σ) :
    avc std Γ 4 11 σ.next c38 (fun e env σ' => (match e with | .normal => True | .ret => True | _ => False) ∧ (resL std env σ' [.tmp 2]).1 = true ∧ K (retV (resL std env σ' [.tmp 2]).2) σ') (envOf [k] 0 .leaf) σ := by
  unfold c38
  have hl : (bI bs).length = bs.length := bI_length bs
  by_cases h1 : 0 < bs.length
  · refine mv (v := .bool false) (by kernel_rfl) ?_
    refine avc_reg_nil ?_
    refine mv (v := k) (by kernel_rfl) ?_
    refine avc_reg_cons (g_lenb (v := k) (by kernel_rfl) hk) ?_
    refine avc_reg_cons (g_bin (op := .geq) (k := .i64) (k' := .i64) (a := ((bI bs).length : Nat)) (b := 1) (v := .bool true) (by kernel_rfl) (by kernel_rfl) rfl (b_ge (by rw [hl]; omega))) ?_
    refine mv (v := .bool true) (by kernel_rfl) ?_
    refine avc_reg_cons (g_if (by kernel_rfl) (g_mov (v := k) (by kernel_rfl))) ?_
    refine avc_reg_cons (g_if (by kernel_rfl) (g_lenb (v := k) (by kernel_rfl) hk)) ?_
    refine avc_reg_cons (g_if (by kernel_rfl) (g_bin (op := .leq) (k := .i64) (k' := .i64) (a := ((bI bs).length : Nat)) (b := 64) (v := .bool (decide (((bI bs).length : Int) ≤ 64))) (by kernel_rfl) (by kernel_rfl) rfl (rfl))) ?_
    refine avc_reg_cons (g_pick (v := .bool (decide (((bI bs).length : Int) ≤ 64))) (by kernel_rfl) (by kernel_rfl)) ?_
    refine mv (v := .bool (decide (((bI bs).length : Int) ≤ 64))) (by kernel_rfl) ?_
    refine avc_reg_nil ?_
    refine fin_ok (vs := [.bool (decide (((bI bs).length : Int) ≤ 64))]) (by kernel_rfl) ?_
    have e : decide (((bI bs).length : Int) ≤ 64) = (decide (0 < bs.length) && decide (bs.length ≤ 64)) := by rw [hl, decide_eq_true h1, Bool.true_and]; exact decide_eq_decide.2 (by omega)
    show K (.bool (decide (((bI bs).length : Int) ≤ 64))) σ
    rw [e]; exact hK
  · refine mv (v := .bool false) (by kernel_rfl) ?_
    refine avc_reg_nil ?_
    refine mv (v := k) (by kernel_rfl) ?_
    refine avc_reg_cons (g_lenb (v := k) (by kernel_rfl) hk) ?_
    refine avc_reg_cons (g_bin (op := .geq) (k := .i64) (k' := .i64) (a := ((bI bs).length : Nat)) (b := 1) (v := .bool false) (by kernel_rfl) (by kernel_rfl) rfl (b_ge' (by rw [hl]; omega))) ?_
    refine mv (v := .bool false) (by kernel_rfl) ?_
    refine avc_reg_cons (g_skip (by kernel_rfl)) ?_
    refine avc_reg_cons (g_skip (by kernel_rfl)) ?_
    refine avc_reg_cons (g_skip (by kernel_rfl)) ?_
    refine avc_reg_cons (g_pickf (v := .bool false) (by kernel_rfl) (by kernel_rfl)) ?_
    refine mv (v := .bool false) (by kernel_rfl) ?_
    refine avc_reg_nil ?_
    refine fin_ok (vs := [.bool false]) (by kernel_rfl) ?_
    rw [decide_eq_false h1, Bool.false_and] at hK; exact hK
theorem ok38 {Γ : Gam} (hΓ : GamOk Tryd.prog 4 Γ) : SOk Tryd.prog 4 38 (fun args σ v σ' => S38 args σ v ∧ σ' = σ) := by
  refine sok_pure hΓ Tryd.func38 body38 cc38 cr38 (by kernel_rfl) (by kernel_rfl) ?_
  rintro args σ v ⟨k, bs, rfl, hk, rfl⟩
  exact ⟨by kernel_rfl, rfl, walk38 (K := fun av σ' => av = .bool (decide (0 < bs.length) && decide (bs.length ≤ 64)) ∧ Grown σ σ') hk ⟨rfl, Grown.refl _⟩⟩
def Has38 (Γ : Gam) : Prop := ∀ (k : AV) (bs : List UInt8) (σ : AH), IsB σ k (bI bs) → Γ 38 [k] σ = (true, .bool (decide (0 < bs.length) && decide (bs.length ≤ 64)), σ)
def c60 : ACode := (.seq (.reg [⟨(.aop (.mov (.lit .nilsl))), (some 2), none⟩, ⟨(.aop (.mov (.lit (.int .i64 (0))))), (some 3), none⟩]) (.seq (.seq (.reg [⟨(.aop (.mov (.slot 0))), (some 4), none⟩, ⟨(.aop (.lenStr (.slot 4))), (some 5), none⟩, ⟨(.aop (.bin .gtr (.slot 5) (.lit (.int .i64 (65535))))), (some 6), none⟩]) (.cond (.slot 6) (.seq (.reg [⟨(.aop (.mov (.lit .nilsl))), (some 2), none⟩, ⟨(.aop (.mov (.lit (.int .i64 (3))))), (some 3), none⟩]) .ret) .skip)) (.seq (.reg [⟨(.aop (.mov (.slot 0))), (some 7), none⟩, ⟨(.aop (.lenStr (.slot 7))), (some 8), none⟩, ⟨(.aop (.conv .u64 (.slot 8))), (some 9), none⟩, ⟨(.call (.lit (.fn (.func 61) [] [])) [(.slot 9), (.lit (.int .i64 (2)))]), (some 10), none⟩, ⟨(.aop (.mov (.slot 0))), (some 11), none⟩, ⟨(.aop (.ext (.append 5 true 1) [(.slot 10), (.slot 11)])), (some 12), none⟩, ⟨(.aop (.mov (.slot 12))), (some 2), none⟩, ⟨(.aop (.mov (.lit (.int .i64 (0))))), (some 3), none⟩]) .ret)))
theorem comp60 : (V2.compC Tryd.prog 4 Tryd.f60.ntmps (fun _ => false) (Tryd.f60.body.getD .skip), V2.compR Tryd.prog Tryd.f60.results.toList) = (some c60, some [(.tmp 2), (.tmp 3)]) := by kernel_rfl
theorem body60 : Tryd.f60.body = some (Tryd.f60.body.getD .skip) := by kernel_rfl
theorem cc60 : V2.compC Tryd.prog 4 Tryd.f60.ntmps (fun _ => false) (Tryd.f60.body.getD .skip) = some c60 := (Prod.mk.inj comp60).1
theorem cr60 : V2.compR Tryd.prog Tryd.f60.results.toList = some [(.tmp 2), (.tmp 3)] := (Prod.mk.inj comp60).2
def S60 (args : List AV) (σ : AH) (v : AV) (σ' : AH) : Prop := ∃ (s : List UInt8) (w : AV), args = [.str s] ∧ s.length ≤ 65535 ∧ σ.next ≤ 980000 ∧ v = .tup [w, .int .i64 0] ∧ xstep std (σ.new (.ints .u8 (bI (numL s.length 2)) 5 .exact)) (.append 5 true 1) [.sl σ.next 0 2 2 true 1, .str s] = (true, w, σ')
theorem S60.uniq {args : List AV} {σ σ' σ1 : AH} {v v1 : AV} (h : S60 args σ v σ') (h' : S60 args σ v1 σ1) : v1 = v ∧ σ1 = σ' := by
  obtain ⟨s, w, rfl, _, _, rfl, h⟩ := h
  obtain ⟨s', w', e, _, _, rfl, h'⟩ := h'
  simp only [List.cons.injEq, AV.str.injEq, and_true] at e
  subst e
  rw [h] at h'
  simp only [Prod.mk.injEq, true_and] at h'
  obtain ⟨rfl, rfl⟩ := h'
  exact ⟨rfl, rfl⟩
theorem walk60 {Γ : Gam} (h61 : Has61 Γ) {σ σ' : AH} {s : List UInt8} {u : AV} (hs : s.length ≤ 65535) (hn : σ.next ≤ 980000) (hx : xstep std (σ.new (.ints .u8 (bI (numL s.length 2)) 5 .exact)) (.append 5 true 1) [.sl σ.next 0 2 2 true 1, .str s] = (true, u, σ')) {K : AV → AH → Prop} (hK : K (.tup [u, .int .i64 0]) σ') :
    avc std Γ 4 13 σ.next c60 (fun e env σ' => (match e with | .normal => True | .ret => True | _ => False) ∧ (resL std env σ' [.tmp 2, .tmp 3]).1 = true ∧ K (retV (resL std env σ' [.tmp 2, .tmp 3]).2) σ') (envOf [.str s] 0 .leaf) σ := by
  unfold c60
  refine mv (v := .nilsl) (by kernel_rfl) ?_
  refine mv (v := .int .i64 0) (by kernel_rfl) ?_
  refine avc_reg_nil ?_
  refine avc_seq_seq ?_
  refine mv (v := .str s) (by kernel_rfl) ?_
  refine avc_reg_cons (g_lenS (l := s) (by kernel_rfl)) ?_
  refine avc_reg_cons (g_bin (op := .gtr) (k := .i64) (k' := .i64) (a := (s.length : Nat)) (b := 65535) (v := .bool false) (by kernel_rfl) (by kernel_rfl) rfl (b_gt' (by omega))) ?_
  refine avc_reg_nil ?_
  refine avc_seq_cond (t := false) (by kernel_rfl) (fun h => by cases h) (fun _ => avc_seq_skip ?_)
  refine mv (v := .str s) (by kernel_rfl) ?_
  refine avc_reg_cons (g_lenS (l := s) (by kernel_rfl)) ?_
  refine avc_reg_cons (g_conv (k := .u64) (k' := .i64) (n := (s.length : Nat)) (m := (s.length : Nat)) (by kernel_rfl) (wr_u64 (by omega))) ?_
  refine avc_reg_cons (g_call (n := 61) (vs := [.int .u64 (s.length : Nat), .int .i64 2]) (by kernel_rfl) (by kernel_rfl) (h61 _ 2 _ (by omega) (by omega) (by omega))) ?_
  refine mv (v := .str s) (by kernel_rfl) ?_
  refine avc_reg_cons (g_ext (vs := [.sl σ.next 0 2 2 true 1, .str s]) (by kernel_rfl) hx) ?_
  refine mv (v := u) (by kernel_rfl) ?_
  refine mv (v := .int .i64 0) (by kernel_rfl) ?_
  refine avc_reg_nil ?_
  refine fin_ok (vs := [u, .int .i64 0]) (by kernel_rfl) hK
theorem ok60 {Γ : Gam} (hΓ : GamOk Tryd.prog 4 Γ) (h61 : Has61 Γ) : SOk Tryd.prog 4 60 S60 := by
  refine sok_same hΓ Tryd.func60 body60 cc60 cr60 (by kernel_rfl) (by kernel_rfl) ?_
  rintro args σ v σ1 ⟨s, w, rfl, hs, hn, rfl, hx⟩
  exact ⟨by kernel_rfl, fun _ => walk60 (K := fun av σ' => av = .tup [w, .int .i64 0] ∧ σ1.next = σ'.next ∧ ∀ b, σ1.get b = σ'.get b) h61 hs hn hx ⟨rfl, rfl, fun _ => rfl⟩⟩
def Has60 (Γ : Gam) : Prop := ∀ (s : List UInt8) (σ : AH), s.length ≤ 65535 → σ.next ≤ 980000 → ∃ w σ', Γ 60 [.str s] σ = (true, .tup [w, .int .i64 0], σ') ∧ IsA σ.next σ' w (bI (be2 s.length ++ s)) ∧ Grown σ σ' ∧ σ'.next ≤ σ.next + 2
theorem has60 {Γ : Gam} (h : ∀ args σ v σ', S60 args σ v σ' → Γ 60 args σ = (true, v, σ')) : Has60 Γ := by
  intro s σ hs hn
  have hA : IsA σ.next (σ.new (.ints .u8 (bI (numL s.length 2)) 5 .exact)) (.sl σ.next 0 2 2 true 1) (bI (numL s.length 2)) := .sl σ.next 2 true (bI (numL s.length 2)) .exact (Nat.le_refl _) (Nat.lt_succ_self _) (get_new (by omega)) rfl (by show 2 ≤ 2; omega)
  obtain ⟨w, σ', e1, e2, e3, e4, e5⟩ := hA.app (str := true) (x := .str s) (m := bI s) (r := .ints .u8 (bI s)) (by show σ.next + 1 < _; omega) (Nat.le_succ _) (row_str _ s) (.inl rfl) (by rw [bI_length, bI_length]; have := numL_length s.length 2; omega)
  refine ⟨w, σ', h _ _ _ _ ⟨s, w, rfl, hs, hn, rfl, e1⟩, ?_, ⟨Nat.le_trans (Nat.le_succ _) e4, fun b hb => (e3 b hb).trans ((Grown.new (by omega)).get b hb)⟩, e5⟩
  rw [numL2] at e2
  have : bI (be2 s.length ++ s) = bI (be2 s.length) ++ bI s := by unfold bI; rw [List.map_append]
  rw [this]; exact e2
end Go.Proofs.YtjkicmlelilcaaaDoor.V2
namespace Go.Proofs.YtjkicmlelilcaaaDoor.V2
open Go
open Go.RowKit
def Has15 (Γ : Gam) : Prop := ∀ (σ : AH) (k v : AV) (kl l : List UInt8), Tabs σ → IsB σ k (bI kl) → IsB σ v (bI l) → kl.length ≤ 10000000000 → l.length ≤ 10000000000 → Γ 15 [k, v] σ = (true, .ints .u8 (bI (hmB kl l)), σ)
theorem allInt_map (k : IntKind) (l : List Int) : allInt k (l.map (AV.int k)) = some l := by
  induction l with
  | nil => rfl
  | cons a l ih => simp [allInt, ih]
theorem of_ints (k : IntKind) (l : List Int) (e : TypeId) (t : Tl) (h : l ≠ []) : AObj.of (l.map (AV.int k)) e t = .ints k l e t := by
  cases l with
  | nil => exact absurd rfl h
  | cons a l => simp [AObj.of, allInt_map]
theorem lay_all (l m : List Int) (h : m.length = l.length) : std.lay l 0 m = m := by
  show l.take 0 ++ m ++ l.drop (0 + m.length) = m
  rw [h, Nat.zero_add, List.drop_length, List.take_zero, List.nil_append, List.append_nil]
theorem g_storeAll {Γ : Gam} {σ : AH} {ev : Ref → AV} {d : Option Nat} {p x : Ref} {b : Nat} {l m : List Int} {e : TypeId} {n : Nat} (hp : ev p = .ptr b 0) (hx : ev x = .ints .u8 m) (hg : σ.get b = some (.ints .u8 l e .exact)) (hl : l.length = n) (hm : m.length = n) : gstep std Γ ev σ ⟨.aop (.store n p x), d, none⟩ = (true, .tup [], σ.put b (.ints .u8 m e .exact)) := by
  have h := g_store (Γ := Γ) (d := d) hp hx hg (by
    have : Nat.ble (0 + m.length) l.length = true := by rw [Nat.ble_eq]; omega
    simp [AObj.writeOk, Tl.isRo, std]; omega) (show (AV.ints .u8 m).size std = n from hm)
  rw [h]
  show (true, AV.tup [], σ.put b (.ints .u8 (std.lay l 0 m) e .exact)) = _
  rw [lay_all l m (by omega)]
theorem num_step {H : List UInt8} {k : Nat} (hk : k < 8) : wr .u64 (wr .u64 (256 * ((num H k : Nat) : Int)) + N8 (at8 H k)) = ((num H (k + 1) : Nat) : Int) := by
  have h1 := num_small H k hk
  have h2 := (at8 H k).toNat_lt
  have e1 : wr .u64 (256 * ((num H k : Nat) : Int)) = ((num H k * 256 : Nat) : Int) := by
    show (256 * ((num H k : Nat) : Int)) % 18446744073709551616 = _; omega
  rw [e1]
  show (((num H k * 256 : Nat) : Int) + ((at8 H k).toNat : Int)) % 18446744073709551616 = ((num H k * 256 + (at8 H k).toNat : Nat) : Int)
  omega
def c26 : ACode := (.seq (.reg [⟨(.aop (.box 23 (.slot 0))), (some 2), none⟩, ⟨(.aop (.mov (.lit (.int .u64 (0))))), (some 4), none⟩]) (.seq (.reg [⟨(.aop (.slArr 32 1 (.slot 2) none none none)), (some 8), none⟩, ⟨(.aop (.mov (.slot 1))), (some 9), none⟩, ⟨(.call (.lit (.fn (.func 15) [] [])) [(.slot 8), (.slot 9)]), (some 10), none⟩, ⟨(.aop (.alloc 23 [(.int .u8 (0)), (.int .u8 (0)), (.int .u8 (0)), (.int .u8 (0)), (.int .u8 (0)), (.int .u8 (0)), (.int .u8 (0)), (.int .u8 (0)), (.int .u8 (0)), (.int .u8 (0)), (.int .u8 (0)), (.int .u8 (0)), (.int .u8 (0)), (.int .u8 (0)), (.int .u8 (0)), (.int .u8 (0)), (.int .u8 (0)), (.int .u8 (0)), (.int .u8 (0)), (.int .u8 (0)), (.int .u8 (0)), (.int .u8 (0)), (.int .u8 (0)), (.int .u8 (0)), (.int .u8 (0)), (.int .u8 (0)), (.int .u8 (0)), (.int .u8 (0)), (.int .u8 (0)), (.int .u8 (0)), (.int .u8 (0)), (.int .u8 (0))])), (some 5), none⟩, ⟨(.aop (.store 32 (.slot 5) (.slot 10))), none, none⟩]) (.seq (.reg [⟨(.aop (.mov (.lit (.int .u64 (0))))), (some 6), none⟩]) (.seq (.seq (.reg [⟨(.aop (.mov (.lit (.int .i64 (0))))), (some 7), none⟩]) (.block 0 (.loop (.seq (.seq (.reg [⟨(.aop (.mov (.slot 7))), (some 11), none⟩, ⟨(.aop (.bin .lss (.slot 11) (.lit (.int .i64 (8))))), (some 12), none⟩]) (.cond (.slot 12) .skip (.exit 0))) (.seq (.block 1 (.reg [⟨(.aop (.mov (.slot 6))), (some 15), none⟩, ⟨(.aop (.bin .mul (.lit (.int .u64 (256))) (.slot 15))), (some 16), none⟩, ⟨(.aop (.mov (.slot 7))), (some 17), none⟩, ⟨(.aop (.idxArr 32 1 (.slot 5) (.slot 17))), (some 18), none⟩, ⟨(.aop (.load1 (.slot 18))), (some 19), none⟩, ⟨(.aop (.conv .u64 (.slot 19))), (some 20), none⟩, ⟨(.aop (.bin .add (.slot 16) (.slot 20))), (some 21), none⟩, ⟨(.aop (.mov (.slot 21))), (some 6), none⟩])) (.reg [⟨(.aop (.mov (.slot 7))), (some 13), none⟩, ⟨(.aop (.bin .add (.slot 13) (.lit (.int .i64 (1))))), (some 14), none⟩, ⟨(.aop (.mov (.slot 14))), (some 7), none⟩])))))) (.seq (.reg [⟨(.aop (.mov (.slot 6))), (some 22), none⟩, ⟨(.aop (.mov (.slot 22))), (some 4), none⟩]) .ret)))))
theorem comp26 : (V2.compC Tryd.prog 4 Tryd.f26.ntmps (fun _ => false) (Tryd.f26.body.getD .skip), V2.compR Tryd.prog Tryd.f26.results.toList) = (some c26, some [(.tmp 4)]) := by kernel_rfl
theorem body26 : Tryd.f26.body = some (Tryd.f26.body.getD .skip) := by kernel_rfl
theorem cc26 : V2.compC Tryd.prog 4 Tryd.f26.ntmps (fun _ => false) (Tryd.f26.body.getD .skip) = some c26 := (Prod.mk.inj comp26).1
theorem cr26 : V2.compR Tryd.prog Tryd.f26.results.toList = some [(.tmp 4)] := (Prod.mk.inj comp26).2
theorem wr_n8 (b : UInt8) : wr .u64 (N8 b) = N8 b := by
  have h := b.toNat_lt
  show ((b.toNat : Nat) : Int) % 18446744073709551616 = ((b.toNat : Nat) : Int); omega
def S26 (args : List AV) (σ : AH) (v : AV) : Prop := ∃ (k bs : List UInt8) (b : AV), args = [.ints .u8 (bI k), b] ∧ k.length = 32 ∧ IsB σ b (bI bs) ∧ bs.length ≤ 1000000000 ∧ Tabs σ ∧ σ.next ≤ 980000 ∧ v = .int .u64 (num (hmB k bs) 8 : Nat)
set_option maxHeartbeats 400000 in
theorem walk26 {Γ : Gam} (h15 : Has15 Γ) {σ : AH} {k bs : List UInt8} {b : AV} (hk : k.length = 32) (hb : IsB σ b (bI bs)) (hbl : bs.length ≤ 1000000000) (hT : Tabs σ) (hs : σ.next ≤ 980000) {K : AV → AH → Prop} (hK : ∀ σ', Grown σ σ' → K (.int .u64 (num (hmB k bs) 8 : Nat)) σ') :
    avc std Γ 4 23 σ.next c26 (fun e env σ' => (match e with | .normal => True | .ret => True | _ => False) ∧ (resL std env σ' [.tmp 4]).1 = true ∧ K (retV (resL std env σ' [.tmp 4]).2) σ') (envOf [.ints .u8 (bI k), b] 0 .leaf) σ := by
  have hT' := hT.n
  obtain ⟨H, hH⟩ : ∃ H, H = hmB k bs := ⟨_, rfl⟩
  have hHl : H.length = 32 := by rw [hH]; exact hmB_length _ _
  rw [← hH] at hK
  have hkl : (bI k).length = 32 := by rw [bI_length]; exact hk
  have hHI : (bI H).length = 32 := by rw [bI_length]; exact hHl
  unfold c26
  refine avc_reg_cons (g_box (v := .ints .u8 (bI k)) (by kernel_rfl) rfl (of_ints .u8 (bI k) 23 .exact (by intro h; rw [h] at hkl; cases hkl)) (by omega)) ?_
  dsimp only
  have gr1 : Grown σ (σ.new (.ints .u8 (bI k) 23 .exact)) := Grown.new (by omega)
  have hg1 : (σ.new (.ints .u8 (bI k) 23 .exact)).get σ.next = some (.ints .u8 (bI k) 23 .exact) := get_new (by omega)
  have hx1 : (σ.new (.ints .u8 (bI k) 23 .exact)).next = σ.next + 1 := rfl
  generalize σ.new (.ints .u8 (bI k) 23 .exact) = σ1 at gr1 hg1 hx1 ⊢
  refine mv (v := .int .u64 0) (by kernel_rfl) ?_
  refine avc_reg_nil ?_
  refine avc_reg_cons (g_slArr (b := σ.next) (o := 0) (ob := .ints .u8 (bI k) 23 .exact) (by kernel_rfl) hg1 (by show Nat.ble (0 + 32 * 1) (bI k).length = true; rw [hkl]; rfl)) ?_
  have hkB : IsB σ1 (.sl σ.next 0 32 32 true 1) (bI k) := .sl σ.next 0 32 32 true (bI k) (bI k) 23 .exact (by omega) hg1 (by omega) (by omega) (by rw [List.drop_zero, ← hkl, List.take_length])
  refine mv (v := b) (by kernel_rfl) ?_
  refine avc_reg_cons (g_call (n := 15) (vs := [.sl σ.next 0 32 32 true 1, b]) (by kernel_rfl) (by kernel_rfl) (h15 σ1 _ _ k bs (hT.mono gr1) hkB (hb.mono gr1) (by omega) (by omega))) ?_
  refine avc_reg_cons (g_alloc (o := .ints .u8 Z32 23 .exact) (by kernel_rfl) (by omega)) ?_
  dsimp only
  rw [← hH]
  have gr2 : Grown σ1 (σ1.new (.ints .u8 Z32 23 .exact)) := Grown.new (by omega)
  have hg2 : (σ1.new (.ints .u8 Z32 23 .exact)).get σ1.next = some (.ints .u8 Z32 23 .exact) := get_new (by omega)
  have hx2 : (σ1.new (.ints .u8 Z32 23 .exact)).next = σ1.next + 1 := rfl
  generalize σ1.new (.ints .u8 Z32 23 .exact) = σ2 at gr2 hg2 hx2 ⊢
  refine avc_reg_cons (g_storeAll (b := σ1.next) (m := bI H) (by kernel_rfl) (by kernel_rfl) hg2 rfl hHI) ?_
  dsimp only
  have gr3 : Grown σ (σ2.put σ1.next (.ints .u8 (bI H) 23 .exact)) := (gr1.trans gr2).put (by omega) (by omega)
  have hg3 : (σ2.put σ1.next (.ints .u8 (bI H) 23 .exact)).get σ1.next = some (.ints .u8 (bI H) 23 .exact) := by rw [get_put (by omega), if_pos rfl]
  have hx3 : (σ2.put σ1.next (.ints .u8 (bI H) 23 .exact)).next = σ2.next := rfl
  generalize σ2.put σ1.next (.ints .u8 (bI H) 23 .exact) = σ3 at gr3 hg3 hx3 ⊢
  refine avc_reg_nil ?_
  refine mv (v := .int .u64 0) (by kernel_rfl) ?_
  refine avc_reg_nil ?_
  refine avc_seq_seq ?_
  refine mv (v := .int .i64 0) (by kernel_rfl) ?_
  refine avc_reg_nil ?_
  refine avc_seq_block (avc_loop (fun env σ' => ∃ k : Nat, k ≤ 8 ∧ env = ofL [(5, .ptr σ1.next 0), (6, .int .u64 (num H k : Nat)), (7, .int .i64 (k : Nat))] ∧ σ' = σ3) (fun env _ => (8 - intAt env 7).toNat)
    (Wk.env (l := [(5, .ptr σ1.next 0), (6, .int .u64 (num H 0 : Nat)), (7, .int .i64 (0 : Nat))]) ⟨⟨by kernel_rfl, rfl⟩, ⟨by kernel_rfl, rfl⟩, ⟨by kernel_rfl, rfl⟩, trivial⟩ (by omega)) ⟨0, by omega, rfl, rfl⟩ ?_)
  rintro env σ' ⟨k, hk8, rfl, rfl⟩
  refine avc_seq_seq ?_
  refine mv (v := .int .i64 (k : Nat)) (by kernel_rfl) ?_
  refine avc_reg_cons (g_bin (op := .lss) (k := .i64) (k' := .i64) (a := (k : Nat)) (b := 8) (v := .bool (decide ((k : Int) < 8))) (by kernel_rfl) (by kernel_rfl) rfl (rfl)) ?_
  refine avc_reg_nil ?_
  refine avc_seq_cond (t := decide ((k : Int) < 8)) (by kernel_rfl) (fun ht => ?_) (fun ht => ?_)
  · have hk7 : k < 8 := by simp at ht; omega
    refine avc_seq_skip (avc_seq_block ?_)
    refine mv1 (v := .int .u64 ((num H k : Nat) : Int)) (by kernel_rfl) ?_
    refine avc_one_cons (g_bin (op := .mul) (k := .u64) (k' := .u64) (a := 256) (b := ((num H k : Nat) : Int)) (v := .int .u64 (wr .u64 (256 * ((num H k : Nat) : Int)))) (by kernel_rfl) (by kernel_rfl) rfl (rfl)) ?_
    refine mv1 (v := .int .i64 (k : Nat)) (by kernel_rfl) ?_
    refine avc_one_cons (g_idxArr (b := σ1.next) (o := 0) (k := .i64) (m := k) (by kernel_rfl) (by kernel_rfl) (by omega)) ?_
    refine avc_one_cons (g_load1 (b := σ1.next) (off := 0 + k * 1) (v := .int .u8 (N8 (at8 H k))) (by kernel_rfl) hg3 (by show Nat.blt (0 + k * 1) (bI H).length = true; rw [Nat.blt_eq]; omega) (by show AV.int .u8 ((bI H).getD (0 + k * 1) 0) = _; rw [show 0 + k * 1 = k by omega, bI_getD])) ?_
    refine avc_one_cons (g_conv (k := .u64) (k' := .u8) (n := N8 (at8 H k)) (m := N8 (at8 H k)) (by kernel_rfl) (wr_n8 _)) ?_
    refine avc_one_cons (g_bin (op := .add) (k := .u64) (k' := .u64) (a := (wr .u64 (256 * ((num H k : Nat) : Int)))) (b := (N8 (at8 H k))) (v := .int .u64 ((num H (k + 1) : Nat) : Int)) (by kernel_rfl) (by kernel_rfl) rfl (b_add (num_step hk7))) ?_
    refine mv1 (v := .int .u64 ((num H (k + 1) : Nat) : Int)) (by kernel_rfl) ?_
    refine avc_one_nil ?_
    refine k_bseq ?_
    refine mv1 (v := .int .i64 (k : Nat)) (by kernel_rfl) ?_
    refine avc_one_cons (g_bin (op := .add) (k := .i64) (k' := .i64) (a := (k : Nat)) (b := 1) (v := .int .i64 ((k + 1 : Nat) : Int)) (by kernel_rfl) (by kernel_rfl) rfl (b_add (wr_i64 (n := k + 1) (by omega)))) ?_
    refine mv1 (v := .int .i64 ((k + 1 : Nat) : Int)) (by kernel_rfl) ?_
    refine avc_one_nil ?_
    refine ⟨_, _, Wk.env (l := [(5, .ptr σ1.next 0), (6, .int .u64 (num H (k + 1) : Nat)), (7, .int .i64 ((k + 1) : Nat))]) ⟨⟨by kernel_rfl, rfl⟩, ⟨by kernel_rfl, rfl⟩, ⟨by kernel_rfl, rfl⟩, trivial⟩ (by have := gr3.next; omega), ⟨k + 1, hk7, rfl, rfl⟩, ?_⟩
    rw [intAt_of (k := .i64) (n := ((k + 1 : Nat) : Int)) (by kernel_rfl), intAt_of (k := .i64) (n := (k : Int)) (by kernel_rfl)]
    omega
  · have hk7 : k = 8 := by simp at ht; omega
    subst hk7
    refine avc_seq_exit (k_sexit (k_exit ?_))
    refine mv (v := .int .u64 (num H 8 : Nat)) (by kernel_rfl) ?_
    refine mv (v := .int .u64 (num H 8 : Nat)) (by kernel_rfl) ?_
    refine avc_reg_nil ?_
    refine fin_ok (vs := [.int .u64 (num H 8 : Nat)]) (by kernel_rfl) (hK _ gr3)
theorem ok26 {Γ : Gam} (hΓ : GamOk Tryd.prog 4 Γ) (h15 : Has15 Γ) : SOk Tryd.prog 4 26 (fun args σ v σ' => S26 args σ v ∧ σ' = σ) := by
  refine sok_pure hΓ Tryd.func26 body26 cc26 cr26 (by kernel_rfl) (by kernel_rfl) ?_
  rintro args σ v ⟨k, bs, b, rfl, hk, hb, hl, hT, hs, rfl⟩
  exact ⟨by kernel_rfl, rfl, walk26 (K := fun av σ' => av = .int .u64 (num (hmB k bs) 8 : Nat) ∧ Grown σ σ') h15 hk hb hl hT hs fun σ' h => ⟨rfl, h⟩⟩
def Has26 (Γ : Gam) : Prop := ∀ (k bs : List UInt8) (b : AV) (σ : AH), k.length = 32 → IsB σ b (bI bs) → bs.length ≤ 1000000000 → Tabs σ → σ.next ≤ 980000 → Γ 26 [.ints .u8 (bI k), b] σ = (true, .int .u64 (num (hmB k bs) 8 : Nat), σ)
end Go.Proofs.YtjkicmlelilcaaaDoor.V2
namespace Go.Proofs.YtjkicmlelilcaaaDoor.V2
open Go
open Go.RowKit
inductive IsP (σ : AH) : AV → List (List UInt8) → Prop
  | nil : IsP σ .nilsl []
  | sl (b o n c : Nat) (ex : Bool) (m : List AV) (e : TypeId) (tl : Tl) (ps : List (List UInt8)) (hb : b < σ.next) (hg : σ.get b = some (.cells m e tl)) (hn : o + n ≤ m.length) (hk : n ≤ c) (h1 : m.all AV.one = true) (hl : ps.length = n) (he : ∀ j, j < n → ∃ a, m[o + j]? = some a ∧ IsB σ a (bI (atP ps j))) : IsP σ (.sl b o n c ex 1) ps
theorem IsP.mono {σ σ' : AH} {v : AV} {ps : List (List UInt8)} (h : IsP σ v ps) (g : Grown σ σ') : IsP σ' v ps := by
  cases h with
  | nil => exact .nil
  | sl b o n c ex m e tl ps hb hg hn hk h1 hl he => exact .sl b o n c ex m e tl ps (Nat.lt_of_lt_of_le hb g.next) (by rw [g.get b hb]; exact hg) hn hk h1 hl fun j hj => by obtain ⟨a, h1, h2⟩ := he j hj; exact ⟨a, h1, h2.mono g⟩
theorem IsP.at {σ : AH} {v : AV} {ps : List (List UInt8)} (h : IsP σ v ps) {i : Nat} (hi : i < ps.length) : ∃ b o n c ex m e tl a, v = .sl b o n c ex 1 ∧ i < n ∧ σ.get b = some (.cells m e tl) ∧ o + i * 1 < m.length ∧ m.getD (o + i * 1) .top = a ∧ IsB σ a (bI (atP ps i)) := by
  cases h with
  | nil => cases hi
  | sl b o n c ex m e tl ps hb hg hn hk h1 hl he =>
    obtain ⟨a, h2, h3⟩ := he i (by omega)
    refine ⟨b, o, n, c, ex, m, e, tl, a, rfl, by omega, hg, by omega, ?_, h3⟩
    rw [Nat.mul_one, List.getD_eq_getElem?_getD, h2]; rfl
theorem g_lenP {A : Ar} {Γ : Gam} {σ : AH} {ev : Ref → AV} {d : Option Nat} {x : Ref} {v : AV} {ps : List (List UInt8)} (h : ev x = v) (hv : IsP σ v ps) : gstep A Γ ev σ ⟨.aop (.lenSl x), d, none⟩ = (true, .int .i64 ps.length, σ) := by
  have e : gstep A Γ ev σ ⟨.aop (.lenSl x), d, none⟩ = (match ev x with | .sl _ _ n _ _ _ => (true, .int .i64 n, σ) | .nilsl => (true, .int .i64 0, σ) | _ => bad σ) := rfl
  rw [e, h]
  cases hv with
  | nil => rfl
  | sl b o n c ex m e tl ps hb hg hn hk h1 hl he => simp only [hl]
theorem resV_cell {env : T AV} {σ : AH} {a b n : Nat} {k : IntKind} {l : List Int} {e : TypeId} {t : Tl} (he : evS env (.slot a) = .ptr b 0) (hg : σ.get b = some (.ints k l e t)) (hl : l.length = n) : resV std env σ (.cellN a n) = (true, .ints k l) := by
  subst hl
  have h1 : std.leN (std.addN 0 l.length) (std.len l) = true := le_std (by show 0 + l.length ≤ l.length; omega)
  have h2 : std.part l 0 l.length = l := by show (l.drop 0).take l.length = l; simp
  simp only [resV, oLoadN, he, hg, AObj.readOk, AObj.read, h1, h2]
theorem resL1 {env : T AV} {σ : AH} {r : ARes} {v : AV} (h : resV std env σ r = (true, v)) : resL std env σ [r] = (true, [v]) := by simp [resL, h]
theorem resL2 {env : T AV} {σ : AH} {r r' : ARes} {v v' : AV} (h : resV std env σ r = (true, v)) (h' : resV std env σ r' = (true, v')) : resL std env σ [r, r'] = (true, [v, v']) := by simp [resL, h, h']
def mayB (key : List UInt8) : Bool := decide (0 < key.length) && decide (key.length ≤ 64)
def c24 : ACode := (.seq (.reg [⟨(.aop (.alloc 23 [(.int .u8 (0)), (.int .u8 (0)), (.int .u8 (0)), (.int .u8 (0)), (.int .u8 (0)), (.int .u8 (0)), (.int .u8 (0)), (.int .u8 (0)), (.int .u8 (0)), (.int .u8 (0)), (.int .u8 (0)), (.int .u8 (0)), (.int .u8 (0)), (.int .u8 (0)), (.int .u8 (0)), (.int .u8 (0)), (.int .u8 (0)), (.int .u8 (0)), (.int .u8 (0)), (.int .u8 (0)), (.int .u8 (0)), (.int .u8 (0)), (.int .u8 (0)), (.int .u8 (0)), (.int .u8 (0)), (.int .u8 (0)), (.int .u8 (0)), (.int .u8 (0)), (.int .u8 (0)), (.int .u8 (0)), (.int .u8 (0)), (.int .u8 (0))])), (some 6), none⟩, ⟨(.aop (.mov (.lit (.int .i64 (0))))), (some 7), none⟩]) (.seq (.reg [⟨(.aop (.mov (.slot 1))), (some 12), none⟩, ⟨(.call (.lit (.fn (.func 60) [] [])) [(.slot 12)]), (some 13), none⟩, ⟨(.aop (.mov (.slot 13))), (some 11), none⟩, ⟨(.aop (.extract (.slot 11) 0)), (some 14), none⟩, ⟨(.aop (.extract (.slot 11) 1)), (some 15), none⟩, ⟨(.aop (.mov (.slot 14))), (some 8), none⟩, ⟨(.aop (.mov (.slot 15))), (some 9), none⟩]) (.seq (.seq (.reg [⟨(.aop (.mov (.slot 0))), (some 16), none⟩, ⟨(.call (.lit (.fn (.func 38) [] [])) [(.slot 16)]), (some 17), none⟩, ⟨(.aop (.un .not (.slot 17))), (some 18), none⟩, ⟨(.aop (.mov (.slot 18))), (some 19), none⟩, ⟨(.aop (.mov (.slot 9))), (some 20), (some ((.slot 19), false))⟩, ⟨(.aop (.bin .neq (.slot 20) (.lit (.int .i64 (0))))), (some 21), (some ((.slot 19), false))⟩, ⟨(.aop (.pick (.slot 19) (.lit (.bool true)) (.slot 21))), (some 22), none⟩]) (.cond (.slot 22) (.seq (.reg [⟨(.aop (.pur (.build [(.int .u8 (0)), (.int .u8 (0)), (.int .u8 (0)), (.int .u8 (0)), (.int .u8 (0)), (.int .u8 (0)), (.int .u8 (0)), (.int .u8 (0)), (.int .u8 (0)), (.int .u8 (0)), (.int .u8 (0)), (.int .u8 (0)), (.int .u8 (0)), (.int .u8 (0)), (.int .u8 (0)), (.int .u8 (0)), (.int .u8 (0)), (.int .u8 (0)), (.int .u8 (0)), (.int .u8 (0)), (.int .u8 (0)), (.int .u8 (0)), (.int .u8 (0)), (.int .u8 (0)), (.int .u8 (0)), (.int .u8 (0)), (.int .u8 (0)), (.int .u8 (0)), (.int .u8 (0)), (.int .u8 (0)), (.int .u8 (0)), (.int .u8 (0))] []) [])), (some 23), none⟩, ⟨(.aop (.store 32 (.slot 6) (.slot 23))), none, none⟩, ⟨(.aop (.mov (.lit (.int .i64 (1))))), (some 7), none⟩]) .ret) .skip)) (.seq (.seq (.reg [⟨(.aop (.mov (.lit (.int .i64 (0))))), (some 10), none⟩]) (.block 0 (.loop (.seq (.seq (.reg [⟨(.aop (.mov (.slot 10))), (some 24), none⟩, ⟨(.aop (.mov (.slot 2))), (some 25), none⟩, ⟨(.aop (.lenSl (.slot 25))), (some 26), none⟩, ⟨(.aop (.bin .lss (.slot 24) (.slot 26))), (some 27), none⟩]) (.cond (.slot 27) .skip (.exit 0))) (.seq (.block 1 (.seq (.reg [⟨(.aop (.mov (.slot 8))), (some 30), none⟩, ⟨(.aop (.mov (.slot 2))), (some 31), none⟩, ⟨(.aop (.mov (.slot 10))), (some 32), none⟩, ⟨(.aop (.idxSl 1 (.slot 31) (.slot 32))), (some 33), none⟩, ⟨(.aop (.load1 (.slot 33))), (some 34), none⟩, ⟨(.aop (.lenSl (.slot 34))), (some 35), none⟩, ⟨(.aop (.conv .u64 (.slot 35))), (some 36), none⟩, ⟨(.call (.lit (.fn (.func 61) [] [])) [(.slot 36), (.lit (.int .i64 (4)))]), (some 37), none⟩, ⟨(.aop (.ext (.append 5 false 1) [(.slot 30), (.slot 37)])), (some 38), none⟩, ⟨(.aop (.mov (.slot 38))), (some 8), none⟩]) (.reg [⟨(.aop (.mov (.slot 8))), (some 39), none⟩, ⟨(.aop (.mov (.slot 2))), (some 40), none⟩, ⟨(.aop (.mov (.slot 10))), (some 41), none⟩, ⟨(.aop (.idxSl 1 (.slot 40) (.slot 41))), (some 42), none⟩, ⟨(.aop (.load1 (.slot 42))), (some 43), none⟩, ⟨(.aop (.ext (.append 5 false 1) [(.slot 39), (.slot 43)])), (some 44), none⟩, ⟨(.aop (.mov (.slot 44))), (some 8), none⟩]))) (.reg [⟨(.aop (.mov (.slot 10))), (some 28), none⟩, ⟨(.aop (.bin .add (.slot 28) (.lit (.int .i64 (1))))), (some 29), none⟩, ⟨(.aop (.mov (.slot 29))), (some 10), none⟩])))))) (.seq (.reg [⟨(.aop (.mov (.slot 0))), (some 45), none⟩, ⟨(.aop (.mov (.slot 8))), (some 46), none⟩, ⟨(.call (.lit (.fn (.func 15) [] [])) [(.slot 45), (.slot 46)]), (some 47), none⟩, ⟨(.aop (.store 32 (.slot 6) (.slot 47))), none, none⟩, ⟨(.aop (.mov (.lit (.int .i64 (0))))), (some 7), none⟩]) .ret)))))
theorem comp24 : (V2.compC Tryd.prog 4 Tryd.f24.ntmps (fun _ => false) (Tryd.f24.body.getD .skip), V2.compR Tryd.prog Tryd.f24.results.toList) = (some c24, some [(.cellN 6 32), (.tmp 7)]) := by kernel_rfl
theorem body24 : Tryd.f24.body = some (Tryd.f24.body.getD .skip) := by kernel_rfl
theorem cc24 : V2.compC Tryd.prog 4 Tryd.f24.ntmps (fun _ => false) (Tryd.f24.body.getD .skip) = some c24 := (Prod.mk.inj comp24).1
theorem cr24 : V2.compR Tryd.prog Tryd.f24.results.toList = some [(.cellN 6 32), (.tmp 7)] := (Prod.mk.inj comp24).2
def derV (key s : List UInt8) (ps : List (List UInt8)) : AV := bif mayB key then .tup [.ints .u8 (bI (hmB key (layB s ps))), .int .i64 0] else .tup [.ints .u8 Z32, .int .i64 1]
def S24 (args : List AV) (σ : AH) (v : AV) : Prop := ∃ (key s : List UInt8) (ps : List (List UInt8)) (k p : AV), args = [k, .str s, p] ∧ IsB σ k (bI key) ∧ IsP σ p ps ∧ key.length ≤ 1000000000 ∧ s.length ≤ 65535 ∧ ps.length ≤ 1000 ∧ ps.flatten.length ≤ 100000000 ∧ Tabs σ ∧ σ.next ≤ 960000 ∧ v = derV key s ps
set_option maxHeartbeats 1000000 in
theorem walk24 {Γ : Gam} (h15 : Has15 Γ) (h38 : Has38 Γ) (h60 : Has60 Γ) (h61 : Has61 Γ) {σ : AH} {key s : List UInt8} {ps : List (List UInt8)} {k p : AV} (hk : IsB σ k (bI key)) (hp : IsP σ p ps) (hkl : key.length ≤ 1000000000) (hsl : s.length ≤ 65535) (hpl : ps.length ≤ 1000) (hpf : ps.flatten.length ≤ 100000000) (hT : Tabs σ) (hs : σ.next ≤ 960000)
    {K : AV → AH → Prop} (hK : ∀ σ', Grown σ σ' → K (derV key s ps) σ') :
    avc std Γ 4 48 σ.next c24 (fun e env σ' => (match e with | .normal => True | .ret => True | _ => False) ∧ (resL std env σ' [.cellN 6 32, .tmp 7]).1 = true ∧ K (retV (resL std env σ' [.cellN 6 32, .tmp 7]).2) σ') (envOf [k, .str s, p] 0 .leaf) σ := by
  have hT' := hT.n
  unfold c24
  refine avc_reg_cons (g_alloc (o := .ints .u8 Z32 23 .exact) (by kernel_rfl) (by omega)) ?_
  dsimp only
  have gr1 : Grown σ (σ.new (.ints .u8 Z32 23 .exact)) := Grown.new (by omega)
  have hg1 : (σ.new (.ints .u8 Z32 23 .exact)).get σ.next = some (.ints .u8 Z32 23 .exact) := get_new (by omega)
  have hx1 : (σ.new (.ints .u8 Z32 23 .exact)).next = σ.next + 1 := rfl
  generalize σ.new (.ints .u8 Z32 23 .exact) = σ1 at gr1 hg1 hx1 ⊢
  refine mv (v := .int .i64 0) (by kernel_rfl) ?_
  refine avc_reg_nil ?_
  refine mv (v := .str s) (by kernel_rfl) ?_
  obtain ⟨bv, σ2, e60, hA2, gr2, hx2⟩ := h60 s σ1 hsl (by omega)
  rw [hx1] at hA2
  refine avc_reg_cons (g_call (n := 60) (vs := [.str s]) (by kernel_rfl) (by kernel_rfl) e60) ?_
  refine mv (v := .tup [bv, .int .i64 0]) (by kernel_rfl) ?_
  refine avc_reg_cons (g_ext1 (l := [bv, .int .i64 0]) (v := bv) (by kernel_rfl) rfl) ?_
  refine avc_reg_cons (g_ext1 (l := [bv, .int .i64 0]) (v := .int .i64 0) (by kernel_rfl) rfl) ?_
  refine mv (v := bv) (by kernel_rfl) ?_
  refine mv (v := .int .i64 0) (by kernel_rfl) ?_
  refine avc_reg_nil ?_
  have hg2 : σ2.get σ.next = some (.ints .u8 Z32 23 .exact) := by rw [gr2.get σ.next (by omega)]; exact hg1
  refine avc_seq_seq ?_
  cases hmay : mayB key
  · refine mv (v := k) (by kernel_rfl) ?_
    refine avc_reg_cons (g_call (n := 38) (vs := [k]) (by kernel_rfl) (by kernel_rfl) ((h38 k key σ2 (hk.mono (gr1.trans gr2))).trans (by rw [show (decide (0 < key.length) && decide (key.length ≤ 64)) = mayB key from rfl, hmay]))) ?_
    refine avc_reg_cons (g_not (b := false) (c := true) (by kernel_rfl) rfl) ?_
    refine mv (v := .bool true) (by kernel_rfl) ?_
    refine avc_reg_cons (g_skip (by kernel_rfl)) ?_
    refine avc_reg_cons (g_skip (by kernel_rfl)) ?_
    refine avc_reg_cons (g_pick (v := .bool true) (by kernel_rfl) (by kernel_rfl)) ?_
    refine avc_reg_nil ?_
    refine avc_seq_cond (t := true) (by kernel_rfl) (fun _ => avc_seq_seq ?_) (fun h => by cases h)
    refine avc_reg_cons (g_pur (vs := []) (v := .ints .u8 Z32) (by kernel_rfl) (by kernel_rfl)) ?_
    refine avc_reg_cons (g_storeAll (b := σ.next) (m := Z32) (by kernel_rfl) (by kernel_rfl) hg2 rfl rfl) ?_
    dsimp only
    have gr3 : Grown σ (σ2.put σ.next (.ints .u8 Z32 23 .exact)) := (gr1.trans gr2).put (by omega) (by omega)
    have hg3 : (σ2.put σ.next (.ints .u8 Z32 23 .exact)).get σ.next = some (.ints .u8 Z32 23 .exact) := by rw [get_put (by omega), if_pos rfl]
    generalize σ2.put σ.next (.ints .u8 Z32 23 .exact) = σ3 at gr3 hg3 ⊢
    refine mv (v := .int .i64 1) (by kernel_rfl) ?_
    refine avc_reg_nil ?_
    have hfin := hK σ3 gr3
    rw [derV, hmay, cond_false] at hfin
    refine avc_seq_ret (fin_ok (vs := [.ints .u8 Z32, .int .i64 1]) (resL2 (resV_cell (b := σ.next) (by kernel_rfl) hg3 rfl) (by kernel_rfl)) hfin)
  · have gr12 := gr1.trans gr2
    refine mv (v := k) (by kernel_rfl) ?_
    refine avc_reg_cons (g_call (n := 38) (vs := [k]) (by kernel_rfl) (by kernel_rfl) ((h38 k key σ2 (hk.mono (gr1.trans gr2))).trans (by rw [show (decide (0 < key.length) && decide (key.length ≤ 64)) = mayB key from rfl, hmay]))) ?_
    refine avc_reg_cons (g_not (b := true) (c := false) (by kernel_rfl) rfl) ?_
    refine mv (v := .bool false) (by kernel_rfl) ?_
    refine avc_reg_cons (g_if (by kernel_rfl) (g_mov (v := .int .i64 0) (by kernel_rfl))) ?_
    refine avc_reg_cons (g_if (by kernel_rfl) (g_bin (op := .neq) (k := .i64) (k' := .i64) (a := 0) (b := 0) (v := .bool false) (by kernel_rfl) (by kernel_rfl) rfl (b_ne' rfl))) ?_
    refine avc_reg_cons (g_pickf (v := .bool false) (by kernel_rfl) (by kernel_rfl)) ?_
    refine avc_reg_nil ?_
    refine avc_seq_cond (t := false) (by kernel_rfl) (fun h => by cases h) (fun _ => avc_seq_skip (avc_seq_seq ?_))
    refine mv (v := .int .i64 0) (by kernel_rfl) ?_
    refine avc_reg_nil ?_
    refine avc_seq_block (avc_loop (fun env σ' => ∃ (i : Nat) (bw : AV), i ≤ ps.length ∧ env = ofL [(0, k), (2, p), (6, .ptr σ.next 0), (8, bw), (10, .int .i64 (i : Nat))] ∧ IsA (σ.next + 1) σ' bw (bI (layTo s ps i)) ∧ Grown σ σ' ∧ σ'.get σ.next = some (.ints .u8 Z32 23 .exact) ∧ σ.next + 1 ≤ σ'.next ∧ σ'.next ≤ σ.next + 3 + 3 * i) (fun env _ => (ps.length - intAt env 10).toNat)
      (Wk.env (l := [(0, k), (2, p), (6, .ptr σ.next 0), (8, bv), (10, .int .i64 (0 : Nat))]) ⟨⟨by kernel_rfl, rfl⟩, ⟨by kernel_rfl, rfl⟩, ⟨by kernel_rfl, rfl⟩, ⟨by kernel_rfl, rfl⟩, ⟨by kernel_rfl, rfl⟩, trivial⟩ (by have := gr12.next; omega)) ⟨0, bv, Nat.zero_le _, rfl, by unfold layTo; exact hA2, gr12, hg2, by have := gr2.next; omega, by omega⟩ ?_)
    rintro env σ4 ⟨i, bw, hi, rfl, hA4, gr4, hg4, hx4, hy4⟩
    have hlay := layTo_le s ps i hi
    have hcat := catTo_le ps i
    refine avc_seq_seq ?_
    refine mv (v := .int .i64 (i : Nat)) (by kernel_rfl) ?_
    refine mv (v := p) (by kernel_rfl) ?_
    refine avc_reg_cons (g_lenP (v := p) (by kernel_rfl) (hp.mono gr4)) ?_
    refine avc_reg_cons (g_bin (op := .lss) (k := .i64) (k' := .i64) (a := (i : Nat)) (b := (ps.length : Nat)) (v := .bool (decide ((i : Int) < (ps.length : Nat)))) (by kernel_rfl) (by kernel_rfl) rfl (rfl)) ?_
    refine avc_reg_nil ?_
    refine avc_seq_cond (t := decide ((i : Int) < (ps.length : Nat))) (by kernel_rfl) (fun ht => ?_) (fun ht => ?_)
    · have hil : i < ps.length := by simp at ht; omega
      have hpart := catTo_part ps i hil
      refine avc_seq_skip (avc_seq_block ?_)
      refine mv (v := bw) (by kernel_rfl) ?_
      refine mv (v := p) (by kernel_rfl) ?_
      refine mv (v := .int .i64 (i : Nat)) (by kernel_rfl) ?_
      obtain ⟨b4, o4, n4, c4, x4, m4, e4, t4, a, q4, l4, g4, u4, d4, hBa⟩ := (hp.mono gr4).at (i := i) (by omega)
      refine avc_reg_cons (g_idxSl (b := b4) (o := o4) (n := n4) (c := c4) (e := x4) (z := 1) (k := .i64) (m := i) (Eq.trans (b := p) (by kernel_rfl) q4) (by kernel_rfl) l4) ?_
      refine avc_reg_cons (g_load1 (b := b4) (off := o4 + i * 1) (v := a) (o := .cells m4 e4 t4) (by kernel_rfl) g4 (by show Nat.blt (o4 + i * 1) m4.length = true; rw [Nat.blt_eq]; exact u4) d4) ?_
      refine avc_reg_cons (g_lenb (v := a) (by kernel_rfl) hBa) ?_
      refine avc_reg_cons (g_conv (k := .u64) (k' := .i64) (n := ((bI (atP ps i)).length : Nat)) (m := ((atP ps i).length : Nat)) (by kernel_rfl) (by rw [bI_length]; exact wr_u64 (by omega))) ?_
      refine avc_reg_cons (g_call (n := 61) (vs := [.int .u64 ((atP ps i).length : Nat), .int .i64 4]) (by kernel_rfl) (by kernel_rfl) (h61 _ 4 σ4 (by omega) (by omega) (by omega))) ?_
      dsimp only
      have grn : Grown σ4 (σ4.new (.ints .u8 (bI (numL (atP ps i).length 4)) 5 .exact)) := Grown.new (by omega)
      have hgn : (σ4.new (.ints .u8 (bI (numL (atP ps i).length 4)) 5 .exact)).get σ4.next = some (.ints .u8 (bI (numL (atP ps i).length 4)) 5 .exact) := get_new (by omega)
      have hxn : (σ4.new (.ints .u8 (bI (numL (atP ps i).length 4)) 5 .exact)).next = σ4.next + 1 := rfl
      generalize σ4.new (.ints .u8 (bI (numL (atP ps i).length 4)) 5 .exact) = σ5 at grn hgn hxn ⊢
      have hnl : (bI (numL (atP ps i).length 4)).length = 4 := by rw [bI_length, numL_length]
      have hBn : IsB σ5 (.sl σ4.next 0 4 4 true 1) (bI (numL (atP ps i).length 4)) := .sl _ 0 4 4 true _ (bI (numL (atP ps i).length 4)) 5 .exact (by omega) hgn (by omega) (by omega) (by rw [List.drop_zero]; exact (List.take_of_length_le (by omega)).symm)
      obtain ⟨rn, hrn, _, hrn3⟩ := hBn.row
      obtain ⟨bx, σ6, x6, hA6, kp6, nx6, ny6⟩ := (hA4.mono grn).app (str := false) (x := .sl σ4.next 0 4 4 true 1) (m := bI (numL (atP ps i).length 4)) (r := rn) (by omega) (by omega) hrn hrn3 (by rw [bI_length]; omega)
      have gr6 : Grown σ σ6 := ⟨by omega, fun b hb => by rw [kp6 b (by omega), grn.get b (by omega)]; exact gr4.get b hb⟩
      have hg6 : σ6.get σ.next = some (.ints .u8 Z32 23 .exact) := by rw [kp6 _ (by omega), grn.get _ (by omega)]; exact hg4
      refine avc_reg_cons (g_ext (vs := [bw, .sl σ4.next 0 4 4 true 1]) (by kernel_rfl) x6) ?_
      refine mv (v := bx) (by kernel_rfl) ?_
      refine avc_reg_nil ?_
      refine mv1 (v := bx) (by kernel_rfl) ?_
      refine mv1 (v := p) (by kernel_rfl) ?_
      refine mv1 (v := .int .i64 (i : Nat)) (by kernel_rfl) ?_
      obtain ⟨b6, o6, n6, c6, x6, m6, e6, t6, a2, q6, l6, g6, u6, d6, hBa2⟩ := (hp.mono gr6).at (i := i) (by omega)
      refine avc_one_cons (g_idxSl (b := b6) (o := o6) (n := n6) (c := c6) (e := x6) (z := 1) (k := .i64) (m := i) (Eq.trans (b := p) (by kernel_rfl) q6) (by kernel_rfl) l6) ?_
      refine avc_one_cons (g_load1 (b := b6) (off := o6 + i * 1) (v := a2) (o := .cells m6 e6 t6) (by kernel_rfl) g6 (by show Nat.blt (o6 + i * 1) m6.length = true; rw [Nat.blt_eq]; exact u6) d6) ?_
      obtain ⟨ra, hra, _, hra3⟩ := hBa2.row
      obtain ⟨by_, σ7, x7, hA7, kp7, nx7, ny7⟩ := hA6.app (str := false) (x := a2) (m := bI (atP ps i)) (r := ra) (by omega) (by omega) hra hra3 (by rw [List.length_append, bI_length, bI_length, bI_length, numL_length]; omega)
      have gr7 : Grown σ σ7 := ⟨by omega, fun b hb => by rw [kp7 b (by omega)]; exact gr6.get b hb⟩
      have hg7 : σ7.get σ.next = some (.ints .u8 Z32 23 .exact) := by rw [kp7 _ (by omega)]; exact hg6
      refine avc_one_cons (g_ext (vs := [bx, a2]) (by kernel_rfl) x7) ?_
      refine mv1 (v := by_) (by kernel_rfl) ?_
      refine avc_one_nil ?_
      refine k_bseq ?_
      refine mv1 (v := .int .i64 (i : Nat)) (by kernel_rfl) ?_
      refine avc_one_cons (g_bin (op := .add) (k := .i64) (k' := .i64) (a := (i : Nat)) (b := 1) (v := .int .i64 ((i + 1 : Nat) : Int)) (by kernel_rfl) (by kernel_rfl) rfl (b_add (wr_i64 (n := i + 1) (by omega)))) ?_
      refine mv1 (v := .int .i64 ((i + 1 : Nat) : Int)) (by kernel_rfl) ?_
      refine avc_one_nil ?_
      refine ⟨_, _, Wk.env (l := [(0, k), (2, p), (6, .ptr σ.next 0), (8, by_), (10, .int .i64 ((i + 1) : Nat))]) ⟨⟨by kernel_rfl, rfl⟩, ⟨by kernel_rfl, rfl⟩, ⟨by kernel_rfl, rfl⟩, ⟨by kernel_rfl, rfl⟩, ⟨by kernel_rfl, rfl⟩, trivial⟩ (by have := gr7.next; omega), ⟨i + 1, by_, hil, rfl, ?_, gr7, hg7, by omega, by omega⟩, ?_⟩
      · have e : bI (layTo s ps (i + 1)) = bI (layTo s ps i) ++ bI (numL (atP ps i).length 4) ++ bI (atP ps i) := by
          rw [layTo, numL4]; unfold bI; rw [List.map_append, List.map_append, List.append_assoc]
        rw [e]; exact hA7
      · rw [intAt_of (k := .i64) (n := ((i + 1 : Nat) : Int)) (by kernel_rfl), intAt_of (k := .i64) (n := (i : Int)) (by kernel_rfl)]
        omega
    · have hil : i = ps.length := by simp at ht; omega
      subst hil
      have hM : layTo s ps ps.length = layB s ps := rfl
      rw [hM] at hA4 hlay
      obtain ⟨H, hH⟩ : ∃ H, H = hmB key (layB s ps) := ⟨_, rfl⟩
      have hHI : (bI H).length = 32 := by rw [bI_length, hH]; exact hmB_length _ _
      refine avc_seq_exit (k_sexit (k_exit ?_))
      refine mv (v := k) (by kernel_rfl) ?_
      refine mv (v := bw) (by kernel_rfl) ?_
      refine avc_reg_cons (g_call (n := 15) (vs := [k, bw]) (by kernel_rfl) (by kernel_rfl) ((h15 σ4 _ _ key (layB s ps) (hT.mono gr4) (hk.mono gr4) hA4.isB (by omega) (by omega)).trans (by rw [← hH]))) ?_
      refine avc_reg_cons (g_storeAll (b := σ.next) (m := bI H) (by kernel_rfl) (by kernel_rfl) hg4 rfl hHI) ?_
      dsimp only
      have gr8 : Grown σ (σ4.put σ.next (.ints .u8 (bI H) 23 .exact)) := gr4.put (by omega) (by omega)
      have hg8 : (σ4.put σ.next (.ints .u8 (bI H) 23 .exact)).get σ.next = some (.ints .u8 (bI H) 23 .exact) := by rw [get_put (by omega), if_pos rfl]
      generalize σ4.put σ.next (.ints .u8 (bI H) 23 .exact) = σ8 at gr8 hg8 ⊢
      refine mv (v := .int .i64 0) (by kernel_rfl) ?_
      refine avc_reg_nil ?_
      have hfin := hK σ8 gr8
      rw [derV, hmay, cond_true, ← hH] at hfin
      refine fin_ok (vs := [.ints .u8 (bI H), .int .i64 0]) (resL2 (resV_cell (b := σ.next) (by kernel_rfl) hg8 hHI) (by kernel_rfl)) hfin
theorem ok24 {Γ : Gam} (hΓ : GamOk Tryd.prog 4 Γ) (h15 : Has15 Γ) (h38 : Has38 Γ) (h60 : Has60 Γ) (h61 : Has61 Γ) : SOk Tryd.prog 4 24 (fun args σ v σ' => S24 args σ v ∧ σ' = σ) := by
  refine sok_pure hΓ Tryd.func24 body24 cc24 cr24 (by kernel_rfl) (by kernel_rfl) ?_
  rintro args σ v ⟨key, s, ps, k, p, rfl, hk, hp, h1, h2, h3, h4, hT, hs, rfl⟩
  exact ⟨by kernel_rfl, by unfold derV; cases mayB key <;> rfl, walk24 (K := fun av σ' => av = derV key s ps ∧ Grown σ σ') h15 h38 h60 h61 hk hp h1 h2 h3 h4 hT hs fun σ' h => ⟨rfl, h⟩⟩
def Has24 (Γ : Gam) : Prop := ∀ (key s : List UInt8) (ps : List (List UInt8)) (k p : AV) (σ : AH), IsB σ k (bI key) → IsP σ p ps → key.length ≤ 1000000000 → s.length ≤ 65535 → ps.length ≤ 1000 → ps.flatten.length ≤ 100000000 → Tabs σ → σ.next ≤ 960000 → Γ 24 [k, .str s, p] σ = (true, derV key s ps, σ)
end Go.Proofs.YtjkicmlelilcaaaDoor.V2
namespace Go.Proofs.YtjkicmlelilcaaaDoor.V2
open Go
open Go.RowKit
section
variable {A : Ar} {Γ : Gam} {G nt N : Nat}
theorem AK.seq_mono {f f' : T AV → AH → Prop} {K K' : AK} (hf : ∀ env σ, f env σ → f' env σ) (hk : ∀ e env σ, K e env σ → K' e env σ) : ∀ e env σ, AK.seq f K e env σ → AK.seq f' K' e env σ := fun e env σ h => by
  cases e <;> first | exact hf _ _ h | exact hk _ _ _ h
theorem AK.block_mono {id : Nat} {K K' : AK} (hk : ∀ e env σ, K e env σ → K' e env σ) : ∀ e env σ, AK.block id K e env σ → AK.block id K' e env σ := fun e env σ h => by
  cases e
  case exit i =>
    simp only [AK.block] at h ⊢
    split at h
    · rename_i hi; rw [if_pos hi]; exact hk _ _ _ h
    · rename_i hi; rw [if_neg hi]; exact hk _ _ _ h
  all_goals exact hk _ _ _ h
theorem avc_mono : ∀ (a : ACode) (K K' : AK), (∀ e env σ, K e env σ → K' e env σ) → ∀ env σ, avc A Γ G nt N a K env σ → avc A Γ G nt N a K' env σ := by
  intro a
  induction a with
  | skip => intro K K' hk env σ h; exact hk _ _ _ h
  | ret => intro K K' hk env σ h; exact hk _ _ _ h
  | exit id => intro K K' hk env σ h; exact hk _ _ _ h
  | seq a b iha ihb => intro K K' hk env σ h; exact iha _ _ (AK.seq_mono (ihb _ _ hk) hk) _ _ h
  | cond c a b iha ihb =>
    intro K K' hk env σ h
    unfold avc at h ⊢
    cases hc : evS env c <;> rw [hc] at h <;> try exact h.elim
    exact ⟨fun ht => iha _ _ hk _ _ (h.1 ht), fun ht => ihb _ _ hk _ _ (h.2 ht)⟩
  | block id a ih => intro K K' hk env σ h; exact ih _ _ (AK.block_mono hk) _ _ h
  | loop a ih =>
    intro K K' hk env σ h
    obtain ⟨I, μ, h0, hr⟩ := h
    exact ⟨I, μ, h0, fun env σ hI => ih _ _ (AK.seq_mono (fun _ _ h => h) hk) _ _ (hr env σ hI)⟩
  | reg rows => intro K K' hk env σ h; exact ⟨h.1, hk _ _ _ h.2⟩
  | regd st rcs ds => intro K K' hk env σ h; exact ⟨h.1, hk _ _ _ h.2⟩
  | bad => intro K K' hk env σ h; exact h
  | rfun f ps a b _ _ => intro K K' hk env σ h; exact h.elim
def one (e : Exit) (env : T AV) (σ : AH) : AK := fun e1 env1 σ1 => e1 = e ∧ env1 = env ∧ σ1 = σ
theorem one_seq {f : T AV → AH → Prop} {K : AK} {e : Exit} {env : T AV} {σ : AH} (h : AK.seq f K e env σ) : ∀ e1 env1 σ1, one e env σ e1 env1 σ1 → AK.seq f K e1 env1 σ1 := by
  rintro _ _ _ ⟨rfl, rfl, rfl⟩; exact h
inductive Rounds (A : Ar) (Γ : Gam) (G nt N : Nat) (c : ACode) (e : Exit) (envo : T AV) (σo : AH) : Nat → T AV → AH → Prop
  | last {env : T AV} {σ : AH} (he : e ≠ .normal) (h : avc A Γ G nt N c (one e envo σo) env σ) : Rounds A Γ G nt N c e envo σo 0 env σ
  | next {n : Nat} {env : T AV} {σ : AH} {env1 : T AV} {σ1 : AH} {env2 : T AV} {σ2 : AH} (h : avc A Γ G nt N c (one .normal env1 σ1) env σ) (hw : Wk G nt N env1 σ1 env2 σ2) (hr : Rounds A Γ G nt N c e envo σo n env2 σ2) : Rounds A Γ G nt N c e envo σo (n + 1) env σ
theorem Rounds.loop {c : ACode} {e : Exit} {envo env0 env : T AV} {σo σ0 σ : AH} {n : Nat} (h : Rounds A Γ G nt N c e envo σo n env σ) (hw : Wk G nt N env0 σ0 env σ) : avc A Γ G nt N (.loop c) (one e envo σo) env0 σ0 := by
  refine ⟨fun env σ => ∃ n, Rounds A Γ G nt N c e envo σo n env σ, fun env σ => leastD fun n => Rounds A Γ G nt N c e envo σo n env σ, ⟨env, σ, hw, n, h⟩, ?_⟩
  rintro env σ ⟨n, hn⟩
  have hm := leastD_mem (p := fun n => Rounds A Γ G nt N c e envo σo n env σ) hn
  generalize hmm : leastD (fun n => Rounds A Γ G nt N c e envo σo n env σ) = m at hm
  cases hm with
  | last he h =>
    refine avc_mono _ _ _ (fun e1 env1 σ1 h1 => ?_) _ _ h
    obtain ⟨rfl, rfl, rfl⟩ := h1
    cases e1 with
    | normal => exact absurd rfl he
    | _ => exact ⟨rfl, rfl, rfl⟩
  | next h hw hr =>
    refine avc_mono _ _ _ (fun e1 env1 σ1 h1 => ?_) _ _ h
    obtain ⟨rfl, rfl, rfl⟩ := h1
    refine ⟨_, _, hw, ⟨_, hr⟩, ?_⟩
    show leastD _ < leastD _
    rw [hmm]
    exact Nat.lt_succ_of_le (leastD_le hr)
theorem avc_exact : ∀ (c : ACode) (K : AK) (env : T AV) (σ : AH), avc A Γ G nt N c K env σ → ∃ e env' σ', K e env' σ' ∧ avc A Γ G nt N c (one e env' σ') env σ := by
  intro c
  induction c with
  | skip => intro K env σ h; exact ⟨_, _, _, h, rfl, rfl, rfl⟩
  | ret => intro K env σ h; exact ⟨_, _, _, h, rfl, rfl, rfl⟩
  | exit id => intro K env σ h; exact ⟨_, _, _, h, rfl, rfl, rfl⟩
  | seq a b iha ihb =>
    intro K env σ h
    obtain ⟨e, env1, σ1, h1, h2⟩ := iha _ _ _ h
    cases e with
    | normal =>
      obtain ⟨e', env', σ', h3, h4⟩ := ihb _ _ _ h1
      exact ⟨e', env', σ', h3, avc_mono a _ _ (one_seq (f := avc A Γ G nt N b (one e' env' σ')) (K := one e' env' σ') (e := .normal) (env := env1) (σ := σ1) h4) _ _ h2⟩
    | _ => exact ⟨_, env1, σ1, h1, avc_mono a _ _ (by rintro _ _ _ ⟨rfl, rfl, rfl⟩; exact ⟨rfl, rfl, rfl⟩) _ _ h2⟩
  | cond c a b iha ihb =>
    intro K env σ h
    unfold avc at h
    cases hc : evS env c <;> rw [hc] at h <;> try exact h.elim
    rename_i t
    cases t
    · obtain ⟨e, env', σ', h1, h2⟩ := ihb _ _ _ (h.2 rfl)
      exact ⟨e, env', σ', h1, avc_cond hc (fun h => by cases h) fun _ => h2⟩
    · obtain ⟨e, env', σ', h1, h2⟩ := iha _ _ _ (h.1 rfl)
      exact ⟨e, env', σ', h1, avc_cond hc (fun _ => h2) fun h => by cases h⟩
  | block id a ih =>
    intro K env σ h
    obtain ⟨e, env', σ', h1, h2⟩ := ih _ _ _ h
    cases e with
    | exit i =>
      by_cases hi : i = id
      · subst hi
        have h1 : (if i = i then K .normal env' σ' else K (.exit i) env' σ') := h1
        rw [if_pos rfl] at h1
        refine ⟨.normal, env', σ', h1, avc_mono a _ _ ?_ _ _ h2⟩
        rintro _ _ _ ⟨rfl, rfl, rfl⟩
        show (if i = i then _ else _)
        rw [if_pos rfl]; exact ⟨rfl, rfl, rfl⟩
      · have h1 : (if i = id then K .normal env' σ' else K (.exit i) env' σ') := h1
        rw [if_neg hi] at h1
        refine ⟨.exit i, env', σ', h1, avc_mono a _ _ ?_ _ _ h2⟩
        rintro _ _ _ ⟨rfl, rfl, rfl⟩
        show (if i = id then _ else _)
        rw [if_neg hi]; exact ⟨rfl, rfl, rfl⟩
    | _ =>
      refine ⟨_, env', σ', h1, avc_mono a _ _ ?_ _ _ h2⟩
      rintro _ _ _ ⟨rfl, rfl, rfl⟩
      exact ⟨rfl, rfl, rfl⟩
  | loop a ih =>
    intro K env σ h
    obtain ⟨I, μ, ⟨env1, σ1, hw, hI⟩, hr⟩ := h
    have key : ∀ n env σ, I env σ → μ env σ ≤ n → ∃ e env' σ' m, K e env' σ' ∧ Rounds A Γ G nt N a e env' σ' m env σ := by
      intro n
      induction n with
      | zero =>
        intro env σ hI hn
        obtain ⟨e, env', σ', h1, h2⟩ := ih _ _ _ (hr env σ hI)
        cases e with
        | normal => obtain ⟨_, _, _, _, hlt⟩ := h1; omega
        | _ => exact ⟨_, env', σ', 0, h1, .last (by simp) h2⟩
      | succ n ihn =>
        intro env σ hI hn
        obtain ⟨e, env', σ', h1, h2⟩ := ih _ _ _ (hr env σ hI)
        cases e with
        | normal =>
          obtain ⟨env2, σ2, hw, hI2, hlt⟩ := h1
          obtain ⟨e, enve, σe, m, k1, k2⟩ := ihn env2 σ2 hI2 (by omega)
          exact ⟨e, enve, σe, m + 1, k1, .next h2 hw k2⟩
        | _ => exact ⟨_, env', σ', 0, h1, .last (by simp) h2⟩
    obtain ⟨e, env', σ', m, k1, k2⟩ := key _ env1 σ1 hI (Nat.le_refl _)
    exact ⟨e, env', σ', k1, k2.loop hw⟩
  | reg rows => intro K env σ h; exact ⟨_, _, _, h.2, h.1, rfl, rfl, rfl⟩
  | regd st rcs ds => intro K env σ h; exact ⟨_, _, _, h.2, h.1, rfl, rfl, rfl⟩
  | bad => intro K env σ h; exact h.elim
  | rfun f ps a b _ _ => intro K env σ h; exact h.elim
end
def SX (Γ : Gam) (nt : Nat) (c : ACode) (xs : List ARes) (S : List AV → AH → AV → AH → Prop) (args : List AV) (σ : AH) (v : AV) (σ' : AH) : Prop :=
  S args σ v σ' ∧ Nat.ble args.length nt = true ∧ avc std Γ 4 nt σ.next c (fun e env σ1 => (match e with | .normal => True | .ret => True | _ => False) ∧ (resL std env σ1 xs).1 = true ∧ (retV (resL std env σ1 xs).2 = v ∧ σ1 = σ')) (envOf args 0 .leaf) σ
section
variable {Γ : Gam} {f : FuncId} {fn : Func} {c : Code} {c' : ACode} {xs : List ARes} {S : List AV → AH → AV → AH → Prop}
theorem sx_ok (hΓ : GamOk Tryd.prog 4 Γ) (hf : Tryd.prog.funcs[f]? = some fn) (hb : fn.body = some c) (hc : compC Tryd.prog 4 fn.ntmps (fun _ => false) c = some c') (hres : compR Tryd.prog fn.results.toList = some xs) (hnt : Nat.ble fn.ntmps 1048576 = true) (hname : (fn.name == "runtime.NumGoroutine") = false) :
    SOk Tryd.prog 4 f (SX Γ fn.ntmps c' xs S) := by
  refine ⟨⟨fn, hf, by rw [hb]; rfl, hname⟩, ?_⟩
  rintro args σ v σ1 ⟨_, h1, h3⟩ ρ W vs hG hr hvs
  refine (call_sound (K := fun av σ' => av = v ∧ σ' = σ1) (pu := fun _ => false) mixed hΓ (fun f h => by cases h) hf hb hc hres hnt h1 h3 hG hr hvs).mono fun e W' ⟨u, av, σ', ρ', e1, ⟨e2, e3⟩, e4, e5, e6⟩ => ?_
  subst e1 e2 e3
  exact ⟨u, ρ', rfl, e4, e5, e6⟩
theorem sx_call {Γ' : Gam} {nt : Nat} {args : List AV} {σ : AH} (hn : Nat.ble args.length nt = true)
    (h : avc std Γ 4 nt σ.next c' (fun e env σ1 => (match e with | .normal => True | .ret => True | _ => False) ∧ (resL std env σ1 xs).1 = true ∧ S args σ (retV (resL std env σ1 xs).2) σ1) (envOf args 0 .leaf) σ) :
    ∃ v σ', Γ'.rel f (SX Γ nt c' xs S) f args σ = (true, v, σ') ∧ S args σ v σ' := by
  obtain ⟨e, env', σ', ⟨k1, k2, k3⟩, k4⟩ := avc_exact _ _ _ _ h
  have hx : SX Γ nt c' xs S args σ (retV (resL std env' σ' xs).2) σ' := ⟨k3, hn, avc_mono _ _ _ (by rintro _ _ _ ⟨rfl, rfl, rfl⟩; exact ⟨k1, k2, rfl, rfl⟩) _ _ k4⟩
  have hg : (relG (SX Γ nt c' xs S) args σ).1 = true := by
    unfold relG
    rw [dif_pos ⟨(_, _), hx⟩]
  refine ⟨(relG (SX Γ nt c' xs S) args σ).2.1, (relG (SX Γ nt c' xs S) args σ).2.2, ?_, (relG_ok hg).1⟩
  rw [Gam.rel_self]
  conv => rhs; rw [← hg]
end
end Go.Proofs.YtjkicmlelilcaaaDoor.V2
namespace Go.Proofs.YtjkicmlelilcaaaDoor.V2
open Go
open Go.RowKit
inductive IsC (N : Nat) (σ : AH) : AV → List AV → Prop
  | nil : IsC N σ .nilsl []
  | sl (b c : Nat) (ex : Bool) (l : List AV) (tl : Tl) (hN : N ≤ b) (hb : b < σ.next) (hg : σ.get b = some (.cells l 22 tl)) (ht : tl.isRo = false) (hk : l.length ≤ c) (h1 : l.all (isSl 1) = true) (h0 : 0 < l.length) : IsC N σ (.sl b 0 l.length c ex 1) l
theorem IsC.mono {N : Nat} {σ σ' : AH} {v : AV} {l : List AV} (h : IsC N σ v l) (g : Grown σ σ') : IsC N σ' v l := by
  cases h with
  | nil => exact .nil
  | sl b c ex l tl hN hb hg ht hk h1 h0 => exact .sl b c ex l tl hN (Nat.lt_of_lt_of_le hb g.next) (by rw [g.get b hb]; exact hg) ht hk h1 h0
theorem of_sls {l : List AV} {e : TypeId} {t : Tl} (h : l.all (isSl 1) = true) : AObj.of l e t = .cells l e t := by
  cases l with
  | nil => rfl
  | cons a l =>
    rw [List.all_cons, Bool.and_eq_true] at h
    cases a <;> first | rfl | (simp [isSl] at h)
theorem one_sls {l : List AV} (h : l.all (isSl 1) = true) : l.all AV.one = true := by
  rw [List.all_eq_true] at h ⊢
  intro a ha
  have := h a ha
  cases a <;> first | rfl | (simp [isSl] at this)
theorem IsC.app' {N : Nat} {σ : AH} {v a : AV} {l : List AV} {d : Nat} (h : IsC N σ v l) (hs : σ.next < 1000000) (hN : N ≤ σ.next) (ha : isSl 1 a = true) (hd : σ.get d = some (.cells [a] 22 .exact)) (hl : l.length ≤ 1000000) :
    ∃ σ', xstep std σ (.append 22 false 1) [v, .sl d 0 1 1 true 1] = (true, .sl σ.next 0 (l.length + 1) (l.length + 1) false 1, σ') ∧ IsC N σ' (.sl σ.next 0 (l.length + 1) (l.length + 1) false 1) (l ++ [a]) ∧ (∀ b, b < N → σ'.get b = σ.get b) ∧ σ'.next = σ.next + 1 ∧ ∀ b, b < σ.next → (∀ o n c e z, v ≠ .sl b o n c e z) → σ'.get b = σ.get b := by
  have h1a : [a].all (isSl 1) = true := by rw [List.all_cons, ha]; rfl
  have hx : rowA std false 1 σ (.sl d 0 1 1 true 1) = (true, 1, .cells [a]) := by
    simp only [rowA, hd, one_sls h1a]; rfl
  have hz : std.eqN 1 0 = false := rfl
  simp only [xstep, hx]
  have h6 : Nat.blt σ.next 1000000 = true := by rw [Nat.blt_eq]; exact hs
  cases h with
  | nil =>
    refine ⟨σ.new (.cells [a] 22 .more), ?_, .sl σ.next 1 false [a] .more hN (Nat.lt_succ_self _) (get_new hs) rfl (Nat.le_refl _) h1a (Nat.zero_lt_one), fun b hb => (Grown.new hs).get b (by omega), rfl, fun b hb _ => (Grown.new hs).get b hb⟩
    have h8 : rowA std false 1 σ .nilsl = (true, 0, .cells []) := rfl
    have h9 : std.addN 0 1 = 1 := rfl
    have h10 : std.leN 1 1000000000000 = true := rfl
    have ho : AObj.of ([] ++ [a]) 22 .more = .cells [a] 22 .more := of_sls h1a
    simp only [hz, Bool.false_and, cond_false, appN, hx, h8, catA, ho, baseOk, killA, h9, h10, h6, Bool.and_true, Bool.not_false]
    rfl
  | sl b c ex l tl hNb hb hg ht hk h1 _ =>
    have h8 : rowA std false 1 σ (.sl b 0 l.length c ex 1) = (true, l.length, .cells l) := by
      have : Nat.ble (0 + l.length) l.length = true := by rw [Nat.ble_eq]; omega
      simp only [rowA, hg, one_sls h1, List.drop_zero, Nat.mul_one, this, List.take_length]; rfl
    have h9 : std.addN l.length 1 = l.length + 1 := rfl
    have h10 : std.leN (l.length + 1) 1000000000000 = true := le_std (by omega)
    have h11 : baseOk std σ 22 (l.length + 1) (.sl b 0 l.length c ex 1) = true := by
      simp [baseOk, hg, AObj.cellsy, AObj.elem, AObj.isRo, ht]
    have hall : (l ++ [a]).all (isSl 1) = true := by rw [List.all_append, h1, h1a]; rfl
    have ho : AObj.of (l ++ [a]) 22 .more = .cells (l ++ [a]) 22 .more := of_sls hall
    have hb6 : b < 1000000 := by omega
    have hkn := killA_next std σ (l.length + 1) (.sl b 0 l.length c ex 1)
    have hkg := killA_get std σ (l.length + 1) b 0 l.length c 1 ex hb6
    generalize hσk : killA std σ (l.length + 1) (.sl b 0 l.length c ex 1) = σk at hkn hkg
    have hnew : (σk.new (.cells (l ++ [a]) 22 .more)).get σk.next = some (.cells (l ++ [a]) 22 .more) := get_new (by omega)
    refine ⟨σk.new (.cells (l ++ [a]) 22 .more), ?_, ?_, fun k hk2 => ?_, by show σk.next + 1 = _; omega, fun k hk2 hv => ?_⟩
    · simp only [hz, Bool.false_and, cond_false, appN, hx, h8, catA, ho, h9, h10, h11, h6, hσk, Bool.and_true, Bool.not_false]
    · have e : l.length + 1 = (l ++ [a]).length := by rw [List.length_append]; rfl
      rw [e]
      exact .sl _ _ _ _ .more hN (by show _ < σk.next + 1; omega) (by rw [← hkn]; exact hnew) rfl (Nat.le_refl _) hall (by omega)
    · rw [(Grown.new (o := .cells (l ++ [a]) 22 .more) (by omega : σk.next < 1000000)).get k (by omega)]
      exact hkg k (by omega)
    · rw [(Grown.new (o := .cells (l ++ [a]) 22 .more) (by omega : σk.next < 1000000)).get k (by omega)]
      exact hkg k fun h => hv 0 l.length c ex 1 (by rw [h])
theorem IsC.isP {N : Nat} {σ : AH} {v : AV} {l : List AV} {ps : List (List UInt8)} (h : IsC N σ v l) (hl : l.length = ps.length) (he : ∀ j, j < ps.length → ∃ a, l[j]? = some a ∧ IsB σ a (bI (atP ps j))) : IsP σ v ps := by
  cases h with
  | nil =>
    have : ps = [] := List.length_eq_zero_iff.1 hl.symm
    subst this; exact .nil
  | sl b c ex l tl hN hb hg ht hk h1 _ => exact .sl b 0 l.length c ex l 22 tl ps hb hg (by omega) hk (one_sls h1) hl.symm fun j hj => by rw [Nat.zero_add]; exact he j (by omega)
theorem min_nat (n c : Nat) : pstep std .minI [.int .i64 n, .int .i64 c] = (true, .int .i64 (min (n : Int) c)) := by
  show minL std false .i64 n [.int .i64 c] = _
  have : (bif std.lt (c : Int) (n : Int) then (c : Int) else n) = min (n : Int) c := by
    show (bif decide ((c : Int) < n) then (c : Int) else n) = _
    by_cases h : (c : Int) < n
    · simp only [h, decide_true, cond_true]; omega
    · simp only [h, decide_false, cond_false]; omega
  simp only [minL, cond_false, this]; rfl
theorem bI_take (l : List UInt8) (n : Nat) : (bI l).take n = bI (l.take n) := by unfold bI; rw [List.map_take]
end Go.Proofs.YtjkicmlelilcaaaDoor.V2
namespace Go.Proofs.YtjkicmlelilcaaaDoor.V2
open Go
open Go.RowKit
theorem HR.adopt {ρ : Ren} {σ : AH} {W W' : World} (h : HR ρ σ W) (hb : Below W.heap.size W W') {g s : Nat} (hg : W.heap.size ≤ g) (hg' : g < W'.heap.size) (hs : σ.next < 1000000) {o : AObj} (hO : OR ρ (0, s) o W'.heap[g]?) :
    ∃ ρ', ρ' σ.next = some (g, (0, s)) ∧ Sub ρ ρ' ∧ HR ρ' (σ.new o) W' ∧ Stp σ.next ρ σ W ρ' (σ.new o) W' := by
  have hn : ρ σ.next = none := by
    cases hc : ρ σ.next with
    | none => rfl
    | some c => have := (h.dom _ c.1 c.2 hc).1; omega
  have hget : ∀ m, (σ.new o).get m = if m = σ.next then some o else σ.get m := fun m => T.get_put _ _ _ _ (by omega)
  have hsub : Sub ρ (fun b => if b = σ.next then some (g, (0, s)) else ρ b) := fun b x hc => by
    have hne : b ≠ σ.next := by rintro rfl; rw [hn] at hc; cases hc
    simp only [if_neg hne]; exact hc
  refine ⟨fun b => if b = σ.next then some (g, (0, s)) else ρ b, if_pos rfl, hsub, ⟨by show σ.next + 1 ≤ _; omega, fun m hm => by have hm : σ.next + 1 ≤ m := hm; rw [hget, if_neg (by omega)]; exact h.none_ m (by omega), fun b c d hc => ?_, fun b b' c d d' h1 h2 hne => ?_⟩, ⟨fun b hb => if_neg (by omega), fun b c d hc => ?_, by show σ.next ≤ σ.next + 1; omega, fun b ob hb _ ho' _ => ?_, fun c hc _ => hb.block c hc, hb.tape, hb.os, hb.output, hb.size, fun b c d ob hb' _ hc ho' _ => ⟨by rw [hget, if_neg (by omega)]; exact ho', hb.block c hc⟩⟩⟩
  · rw [hget]
    by_cases hbn : b = σ.next
    · subst hbn
      simp only [if_true, Option.some.injEq, Prod.mk.injEq] at hc
      obtain ⟨rfl, rfl⟩ := hc
      exact ⟨Nat.lt_succ_self _, hg', o, if_pos rfl, hO.mono hsub⟩
    · simp only [if_neg hbn] at hc ⊢
      obtain ⟨h1, h2, o2, h3, h4⟩ := h.dom b c d hc
      refine ⟨by show b < σ.next + 1; omega, Nat.lt_of_lt_of_le h2 hb.size, o2, h3, ?_⟩
      rw [hb.block c h2]
      exact h4.mono hsub
  · by_cases e1 : b = σ.next
    · subst e1
      simp only [if_true, Option.some.injEq, Prod.mk.injEq] at h1
      obtain ⟨rfl, rfl⟩ := h1
      simp only [if_neg (Ne.symm hne)] at h2
      have := (h.dom _ _ _ h2).2.1
      omega
    · by_cases e2 : b' = σ.next
      · subst e2
        simp only [if_true, Option.some.injEq, Prod.mk.injEq] at h2
        obtain ⟨rfl, rfl⟩ := h2
        simp only [if_neg e1] at h1
        have := (h.dom _ _ _ h1).2.1
        omega
      · simp only [if_neg e1, if_neg e2] at h1 h2
        exact (h.inj b b' c d d' h1 h2 hne).congr (by rw [hget, if_neg e1]) (by rw [hget, if_neg e2])
  · by_cases hb : b = σ.next
    · subst hb
      simp only [if_true, Option.some.injEq, Prod.mk.injEq] at hc
      exact .inr (by omega)
    · simp only [if_neg hb] at hc
      exact .inl ⟨b, d, hc⟩
  · rw [hget, if_neg (by omega)]; exact ho'
theorem adopt_row {ρ : Ren} {σ : AH} {W W' : World} (h : HR ρ σ W) (hb : Below W.heap.size W W') (hs : σ.next < 1000000) {u : Value} {bs : List UInt8} (hne : bs ≠ []) (ho : W'.ownsRow W.heap.size 5 1 u bs.length (c8l bs)) :
    ∃ ρ', HR ρ' (σ.new (.ints .u8 (bI bs) 5 .more)) W' ∧ Stp σ.next ρ σ W ρ' (σ.new (.ints .u8 (bI bs) 5 .more)) W' ∧ VR ρ' (.sl σ.next 0 bs.length bs.length false 1) u := by
  have hl : 0 < bs.length := List.length_pos_iff.2 hne
  obtain ⟨_, ⟨_, h0⟩ | ⟨g, cap, cur, rfl, hg, hrow, hn, hcap, hsz, htk⟩⟩ := ho
  · omega
  have hg' : g < W'.heap.size := (Array.getElem?_eq_some_iff.1 hrow).1
  have hO : OR ρ (0, cap) (.ints .u8 (bI bs) 5 .more) W'.heap[g]? := by
    rw [hrow]
    refine OR.mk' rfl ⟨cur, 5, (0, 0), rfl, fun _ => ⟨rfl, .inl rfl, by rw [hsz, Nat.mul_one]⟩, by show (bI bs).length + 0 ≤ _; rw [bI_length]; omega, by show (bI bs).length + 0 ≤ cap; rw [bI_length]; omega, fun i a hi => ?_⟩
    simp only [AObj.at, Option.map_eq_some_iff] at hi
    obtain ⟨m, hm, rfl⟩ := hi
    have hil := (List.getElem?_eq_some_iff.1 hm).1
    rw [bI_length] at hil
    refine ⟨.int .u8 m, ?_, rfl⟩
    have e1 : (cur.toList.take (bs.length * 1))[i]? = (c8l bs)[i]? := by rw [htk]
    rw [List.getElem?_take, if_pos (by omega), Array.getElem?_toList] at e1
    rw [Nat.add_zero, e1]
    unfold bI at hm
    unfold c8l
    rw [List.getElem?_map] at hm ⊢
    obtain ⟨b, hb, rfl⟩ := Option.map_eq_some_iff.1 hm
    rw [hb]; rfl
  obtain ⟨ρ', k1, _, k3, k4⟩ := h.adopt hb hg hg' hs hO
  refine ⟨ρ', k3, k4, ?_⟩
  unfold VR
  exact .inl ⟨g, (0, cap), 0, cap, k1, rfl, fun _ => rfl, Nat.le_refl _, hn, fun h => (by cases h), by show 0 + cap * 1 ≤ cap; omega⟩
theorem isB_world {ρ : Ren} {σ : AH} {W : World} (hr : HR ρ σ W) {a : AV} {v : Value} (hv : VR ρ a v) {bs : List UInt8} (h : IsB σ a (bI bs)) : BSl W v bs := by
  have h1 := h.bytes (byI_bI bs)
  have h2 := (bytes_of hr hv (by rw [h1])).1
  rw [h1] at h2
  simp only [toBs_bI] at h2
  exact h2
def S18 (args : List AV) (σ : AH) (v : AV) (σ' : AH) : Prop := ∃ k bs, args = [k] ∧ bs ≠ [] ∧ IsB σ k (bI bs) ∧ bs.length ≤ 1000000000 ∧ σ.next ≤ 970000 ∧ v = .sl σ.next 0 bs.length bs.length false 1 ∧ σ' = σ.new (.ints .u8 (bI bs) 5 .more)
theorem ok18 : SOk Tryd.prog 4 18 S18 := by
  refine ⟨⟨_, Tryd.func18, by kernel_rfl, by kernel_rfl⟩, ?_⟩
  rintro args σ v σ' ⟨k, bs, rfl, hne, hk, hl, hs, rfl, rfl⟩ ρ W vs hG hr hvs
  obtain ⟨u, rfl, hu⟩ := vrs_one hvs
  refine (clone8_any u bs W (isB_world hr hu hk) hl).mono fun e W' ⟨x, e1, e2, e3⟩ => ?_
  obtain ⟨ρ', k1, k2, k3⟩ := adopt_row hr e3 (by omega) hne e2
  exact ⟨x, ρ', e1, k1, k2, k3⟩
theorem S18.uniq {args : List AV} {σ σ' σ1 : AH} {v v1 : AV} (h : S18 args σ v σ') (h' : S18 args σ v1 σ1) : v1 = v ∧ σ1 = σ' := by
  obtain ⟨k, bs, rfl, _, hk, _, _, rfl, rfl⟩ := h
  obtain ⟨k', bs', e, _, hk', _, _, rfl, rfl⟩ := h'
  simp only [List.cons.injEq, and_true] at e
  subst e
  rw [hk.uniqB hk']; exact ⟨rfl, rfl⟩
def Has18 (Γ : Gam) : Prop := ∀ (k : AV) (bs : List UInt8) (σ : AH), bs ≠ [] → IsB σ k (bI bs) → bs.length ≤ 1000000000 → σ.next ≤ 970000 → Γ 18 [k] σ = (true, .sl σ.next 0 bs.length bs.length false 1, σ.new (.ints .u8 (bI bs) 5 .more))
def Has57 (Γ : Gam) : Prop := ∀ (k : AV) (bs : List UInt8) (σ : AH), IsB σ k (bI bs) → Γ 57 [k] σ = (true, .bool (mayB bs), σ)
def S57 (args : List AV) (σ : AH) (v : AV) : Prop := ∃ k bs, args = [k] ∧ IsB σ k (bI bs) ∧ v = .bool (mayB bs)
theorem ok57 : SOk Tryd.prog 4 57 (fun args σ v σ' => S57 args σ v ∧ σ' = σ) := by
  refine sok_below Tryd.func57 (by kernel_rfl) (by kernel_rfl) ?_
  rintro args σ v ⟨k, bs, rfl, hk, rfl⟩ ρ W vs hG hr hvs
  obtain ⟨u, rfl, hu⟩ := vrs_one hvs
  refine (may_any u bs W (isB_world hr hu hk)).mono fun e W' ⟨e1, e2⟩ => ?_
  subst e2
  exact ⟨_, e1, Below.refl _ _, by unfold VR; rfl⟩
def c37 : ACode := (.seq (.reg [⟨(.aop (.mov (.lit .nilptr))), (some 2), none⟩, ⟨(.aop (.mov (.lit (.int .i64 (0))))), (some 3), none⟩]) (.seq (.seq (.reg [⟨(.aop (.mov (.slot 0))), (some 4), none⟩, ⟨(.call (.lit (.fn (.func 57) [] [])) [(.slot 4)]), (some 5), none⟩, ⟨(.aop (.un .not (.slot 5))), (some 6), none⟩]) (.cond (.slot 6) (.seq (.reg [⟨(.aop (.mov (.lit .nilptr))), (some 2), none⟩, ⟨(.aop (.mov (.lit (.int .i64 (1))))), (some 3), none⟩]) .ret) .skip)) (.seq (.reg [⟨(.aop (.mov (.slot 0))), (some 7), none⟩, ⟨(.call (.lit (.fn (.func 18) [] [])) [(.slot 7)]), (some 8), none⟩, ⟨(.aop (.pur (.build [.nilsl] [(0, 1)]) [(.slot 8)])), (some 9), none⟩, ⟨(.aop (.box 112 (.slot 9))), (some 10), none⟩, ⟨(.aop (.mov (.slot 10))), (some 2), none⟩, ⟨(.aop (.mov (.lit (.int .i64 (0))))), (some 3), none⟩]) .ret)))
theorem comp37 : (V2.compC Tryd.prog 4 Tryd.f37.ntmps (fun _ => false) (Tryd.f37.body.getD .skip), V2.compR Tryd.prog Tryd.f37.results.toList) = (some c37, some [(.tmp 2), (.tmp 3)]) := by kernel_rfl
theorem body37 : Tryd.f37.body = some (Tryd.f37.body.getD .skip) := by kernel_rfl
theorem cc37 : V2.compC Tryd.prog 4 Tryd.f37.ntmps (fun _ => false) (Tryd.f37.body.getD .skip) = some c37 := (Prod.mk.inj comp37).1
theorem cr37 : V2.compR Tryd.prog Tryd.f37.results.toList = some [(.tmp 2), (.tmp 3)] := (Prod.mk.inj comp37).2
def S37 (args : List AV) (σ : AH) (v : AV) (σ' : AH) : Prop := ∀ k key, args = [k] → IsB σ k (bI key) → Grown σ σ' ∧ σ'.next ≤ σ.next + 2 ∧ (mayB key = false → v = .tup [.nilptr, .int .i64 1]) ∧
  (mayB key = true → ∃ r kb, v = .tup [.ptr r 0, .int .i64 0] ∧ σ'.get r = some (.cells [kb] 112 .exact) ∧ σ.next ≤ r ∧ r < σ'.next ∧ IsA σ.next σ' kb (bI key))
theorem walk37 {Γ : Gam} (h57 : Has57 Γ) (h18 : Has18 Γ) {σ : AH} {key : List UInt8} {k : AV} (hk : IsB σ k (bI key)) (hs : σ.next ≤ 960000) {K : AV → AH → Prop}
    (hK0 : mayB key = false → K (.tup [.nilptr, .int .i64 1]) σ) (hK1 : mayB key = true → ∀ r kb σ', σ'.get r = some (.cells [kb] 112 .exact) → σ.next ≤ r → r < σ'.next → IsA σ.next σ' kb (bI key) → Grown σ σ' → σ'.next ≤ σ.next + 2 → K (.tup [.ptr r 0, .int .i64 0]) σ') :
    avc std Γ 4 11 σ.next c37 (fun e env σ' => (match e with | .normal => True | .ret => True | _ => False) ∧ (resL std env σ' [.tmp 2, .tmp 3]).1 = true ∧ K (retV (resL std env σ' [.tmp 2, .tmp 3]).2) σ') (envOf [k] 0 .leaf) σ := by
  unfold c37
  refine mv (v := .nilptr) (by kernel_rfl) ?_
  refine mv (v := .int .i64 0) (by kernel_rfl) ?_
  refine avc_reg_nil ?_
  refine avc_seq_seq ?_
  cases hmay : mayB key
  · refine mv (v := k) (by kernel_rfl) ?_
    refine avc_reg_cons (g_call (n := 57) (vs := [k]) (by kernel_rfl) (by kernel_rfl) ((h57 k key σ hk).trans (by rw [hmay]))) ?_
    refine avc_reg_cons (g_not (b := false) (c := true) (by kernel_rfl) rfl) ?_
    refine avc_reg_nil ?_
    refine avc_seq_cond (t := true) (by kernel_rfl) (fun _ => avc_seq_seq ?_) (fun h => by cases h)
    refine mv (v := .nilptr) (by kernel_rfl) ?_
    refine mv (v := .int .i64 1) (by kernel_rfl) ?_
    refine avc_reg_nil ?_
    refine avc_seq_ret (fin_ok (vs := [.nilptr, .int .i64 1]) (by kernel_rfl) (hK0 hmay))
  · refine mv (v := k) (by kernel_rfl) ?_
    refine avc_reg_cons (g_call (n := 57) (vs := [k]) (by kernel_rfl) (by kernel_rfl) ((h57 k key σ hk).trans (by rw [hmay]))) ?_
    refine avc_reg_cons (g_not (b := true) (c := false) (by kernel_rfl) rfl) ?_
    refine avc_reg_nil ?_
    refine avc_seq_cond (t := false) (by kernel_rfl) (fun h => by cases h) (fun _ => avc_seq_skip ?_)
    have hkl : 0 < key.length ∧ key.length ≤ 64 := by
      unfold mayB at hmay
      rw [Bool.and_eq_true, decide_eq_true_eq, decide_eq_true_eq] at hmay; exact hmay
    have hlk : (bI key).length = key.length := bI_length key
    refine mv (v := k) (by kernel_rfl) ?_
    refine avc_reg_cons (g_call (n := 18) (vs := [k]) (by kernel_rfl) (by kernel_rfl) (h18 k key σ (by intro h; rw [h] at hkl; simp at hkl) hk (by omega) (by omega))) ?_
    dsimp only
    have gr1 : Grown σ (σ.new (.ints .u8 (bI key) 5 .more)) := Grown.new (by omega)
    have hg1 : (σ.new (.ints .u8 (bI key) 5 .more)).get σ.next = some (.ints .u8 (bI key) 5 .more) := get_new (by omega)
    have hx1 : (σ.new (.ints .u8 (bI key) 5 .more)).next = σ.next + 1 := rfl
    generalize σ.new (.ints .u8 (bI key) 5 .more) = σ1 at gr1 hg1 hx1 ⊢
    refine avc_reg_cons (g_pur (vs := [.sl σ.next 0 key.length key.length false 1]) (v := .agg [.sl σ.next 0 key.length key.length false 1]) (by kernel_rfl) (by kernel_rfl)) ?_
    refine avc_reg_cons (g_box (v := .agg [.sl σ.next 0 key.length key.length false 1]) (o := .cells [.sl σ.next 0 key.length key.length false 1] 112 .exact) (by kernel_rfl) rfl rfl (by omega)) ?_
    dsimp only
    have gr2 : Grown σ1 (σ1.new (.cells [.sl σ.next 0 key.length key.length false 1] 112 .exact)) := Grown.new (by omega)
    have hg2 : (σ1.new (.cells [.sl σ.next 0 key.length key.length false 1] 112 .exact)).get σ1.next = some (.cells [.sl σ.next 0 key.length key.length false 1] 112 .exact) := get_new (by omega)
    have hx2 : (σ1.new (.cells [.sl σ.next 0 key.length key.length false 1] 112 .exact)).next = σ1.next + 1 := rfl
    generalize σ1.new (.cells [.sl σ.next 0 key.length key.length false 1] 112 .exact) = σ2 at gr2 hg2 hx2 ⊢
    refine mv (v := .ptr σ1.next 0) (by kernel_rfl) ?_
    refine mv (v := .int .i64 0) (by kernel_rfl) ?_
    refine avc_reg_nil ?_
    refine fin_ok (vs := [.ptr σ1.next 0, .int .i64 0]) (by kernel_rfl) (hK1 hmay σ1.next _ σ2 hg2 (by omega) (by omega) ?_ (gr1.trans gr2) (by omega))
    rw [← hlk]
    exact .sl σ.next _ false (bI key) .more (Nat.le_refl _) (by omega) (by rw [gr2.get σ.next (by omega)]; exact hg1) rfl (Nat.le_refl _)
theorem ok37 {Γ : Gam} (hΓ : GamOk Tryd.prog 4 Γ) : SOk Tryd.prog 4 37 (SX Γ Tryd.f37.ntmps c37 [.tmp 2, .tmp 3] S37) := sx_ok hΓ Tryd.func37 body37 cc37 cr37 (by kernel_rfl) (by kernel_rfl)
def Has37 (Γ : Gam) : Prop := ∀ (k : AV) (key : List UInt8) (σ : AH), IsB σ k (bI key) → σ.next ≤ 960000 → ∃ v σ', Γ 37 [k] σ = (true, v, σ') ∧ Grown σ σ' ∧ σ'.next ≤ σ.next + 2 ∧ (mayB key = false → v = .tup [.nilptr, .int .i64 1]) ∧
  (mayB key = true → ∃ r kb, v = .tup [.ptr r 0, .int .i64 0] ∧ σ'.get r = some (.cells [kb] 112 .exact) ∧ σ.next ≤ r ∧ r < σ'.next ∧ IsA σ.next σ' kb (bI key))
theorem has37 {Γ Γ' : Gam} (h57 : Has57 Γ) (h18 : Has18 Γ) (h : Γ' 37 = (Γ.rel 37 (SX Γ Tryd.f37.ntmps c37 [.tmp 2, .tmp 3] S37)) 37) : Has37 Γ' := by
  intro k key σ hk hs
  obtain ⟨v, σ', e1, e2⟩ := sx_call (Γ := Γ) (Γ' := Γ) (f := 37) (nt := Tryd.f37.ntmps) (c' := c37) (xs := [.tmp 2, .tmp 3]) (S := S37) (args := [k]) (σ := σ) (by kernel_rfl) (walk37 (K := fun v σ' => S37 [k] σ v σ') h57 h18 hk hs
    (fun hm k' key' e hk' => by
      cases e
      have := hk'.uniqB hk
      subst this
      exact ⟨Grown.refl _, by omega, fun _ => rfl, fun h => by rw [hm] at h; cases h⟩)
    (fun hm r kb σ' h1 h2 h3 h4 h5 h6 k' key' e hk' => by
      cases e
      have := hk'.uniqB hk
      subst this
      exact ⟨h5, h6, fun h => (by rw [hm] at h; cases h), fun _ => ⟨r, kb, rfl, h1, h2, h3, h4⟩⟩))
  exact ⟨v, σ', by rw [h]; exact e1, e2 k key rfl hk⟩
end Go.Proofs.YtjkicmlelilcaaaDoor.V2
namespace Go.Proofs.YtjkicmlelilcaaaDoor.U
open Go.RowKit
attribute [local irreducible] be2 be4 be8 layTo layB chg shaB hmB
def RingO (r o : Nat) (key : List UInt8) (w : World) : Prop := ∃ v, r < w.heap.size ∧ w.cell? ⟨r, o, none⟩ = some v ∧ BSl w v key
theorem RingO.below {r o B : Nat} {key : List UInt8} {w w' : World} (h : RingO r o key w) (hb : Below B w w') (hB : w.heap.size ≤ B) : RingO r o key w' := by
  obtain ⟨v, h0, h1, h2⟩ := h
  exact ⟨v, Nat.lt_of_lt_of_le h0 hb.size, by rw [hb.cell (p := ⟨r, o, none⟩) (Nat.lt_of_lt_of_le h0 hB)]; exact h1, h2.below hb hB⟩
theorem RingO.lt {r o : Nat} {key : List UInt8} {w : World} (h : RingO r o key w) : r < w.heap.size := by
  obtain ⟨v, h0, _⟩ := h
  exact h0
set_option maxRecDepth 100000 in
set_option maxHeartbeats 1000000 in
theorem key_any (r o : Nat) (pv : Value) (key s : List UInt8) (vs : List Value) (ps : List (List UInt8)) (w : World) (hR : RingO r o key w) (hP : PSl w pv vs ps) (hk0 : 0 < key.length) (hk1 : key.length ≤ 64) (hs : s.length ≤ 65535)
    (hc0 : ps.length ≤ 1000000) (ht : ps.flatten.length ≤ 100000000) (hK : GlobK w) (hS : GlobS w) (h3 : 3 < w.heap.size) :
    Calls Tryd.prog 65 #[.pointer (some ⟨r, o, none⟩), .string ⟨s.toArray⟩, pv] w fun e w' => e = .returned (.agg (c8 (hmB key (layB s ps)))) ∧ Below w.heap.size w w' := by
  have HK : Hid (GlobK w) := hK
  have HS : Hid (GlobS w) := hS
  clear hK hS
  have hrl := hR.lt
  obtain ⟨v, _, hr, hB⟩ := hR
  obtain ⟨ka, kc, rfl⟩ := hB.len
  obtain ⟨pa, pc, rfl, _⟩ := psl_form hP
  obtain ⟨S, hSt⟩ : ∃ S : ByteArray, S = ⟨s.toArray⟩ := ⟨_, rfl⟩
  rw [← hSt]
  have HSt := Lib.hid hSt
  clear hSt
  obtain ⟨Y, hY⟩ : ∃ Y, Y = hmB key (layB s ps) := ⟨_, rfl⟩
  have HYL : Hid (Y.length = 32) := by rw [hY]; exact hmB_length _ _
  rw [← hY]
  have HY := Lib.hid hY
  clear hY
  have HR0 := Lib.hid (zer43 w)
  have HC := Lib.hid hr
  clear hr
  go_enter Tryd.func65, Tryd.ntmps65
  have c0 : (w.alloc (.cells #[.int .u8 0, .int .u8 0, .int .u8 0, .int .u8 0, .int .u8 0, .int .u8 0, .int .u8 0, .int .u8 0, .int .u8 0, .int .u8 0, .int .u8 0, .int .u8 0, .int .u8 0, .int .u8 0, .int .u8 0, .int .u8 0, .int .u8 0, .int .u8 0, .int .u8 0, .int .u8 0, .int .u8 0, .int .u8 0, .int .u8 0, .int .u8 0, .int .u8 0, .int .u8 0, .int .u8 0, .int .u8 0, .int .u8 0, .int .u8 0, .int .u8 0, .int .u8 0] 43)).cell? ⟨r, o, none⟩ = some (.slice ka key.length kc) := ((alloc_below w).cell (p := ⟨r, o, none⟩) hrl).trans HC.out
  go_wp2_with fail
  generalize hw1 : w.alloc _ = w1 at HR0 c0 ⊢
  have hb1 : Below w.heap.size w w1 := by rw [← hw1]; exact alloc_below w
  have hz1 : w.heap.size < w1.heap.size := by rw [← hw1]; simp
  clear hw1
  rw [HSt.out]
  refine (derive_any _ _ key s vs ps w1 (hB.below hb1 (Nat.le_refl _)) (hP.below hb1 (Nat.le_refl _)) hk0 hk1 hs hc0 ht (HK.out.below hb1 h3) (HS.out.below hb1 h3) (mid_lt h3 hb1)).mono ?_
  rintro e w2 ⟨rfl, hb2⟩
  rw [← HY.out]
  have hb12 : Below w.heap.size w w2 := hb1.trans (hb2.mono hb1.size)
  have HR2 : Hid (w2.heap[w.heap.size]? = some (.cells (c8 zer32) 43 (0, 0))) := (hb2.block _ hz1).trans HR0.out
  have HI43 : Hid ((Tryd.prog.info? 43).map (·.size) = some (c8 Y).size) := by rw [c8_size, HYL.out]; exact info43
  have HQ : Hid ((c8 zer32).size = (c8 Y).size) := by rw [c8_size, c8_size, HYL.out]; simp [Hid, zer32]
  go_wp2_with (refine wpList_store_new43 (o := { dst := none, op := .store 43 (.tmp 7) (.tmp 20), type := _, pos := _, after := _, guard := none }) rfl (.tmp 7) (.tmp 20) rfl Y HYL.out rfl rfl ?_)
  intro w3 hb3 HG3 HZ3
  have hb13 : Below w.heap.size w w3 := hb12.trans (hb3.mono hb12.size)
  have HR3 : Hid (w3.heap[w.heap.size]? = some (.cells (c8 zer32) 43 (0, 0))) := (hb3.block _ (Nat.lt_of_lt_of_le hz1 hb2.size)).trans HR2.out
  go_wp2_with (first | (refine wpList_load_row (o := { dst := some 22, op := .load 43 (.tmp 7), type := _, pos := _, after := _, guard := none }) rfl 43 (.tmp 7) rfl w2.heap.size rfl 43 (c8 Y) (0, 0) _ HG3.out Tryd.underlying43 rfl HI43.out ?_) | (refine wpList_store_row (o := { dst := none, op := .store 43 (.tmp 6) (.tmp 22), type := _, pos := _, after := _, guard := none }) rfl 43 (.tmp 6) (.tmp 22) rfl w.heap.size (c8 Y) rfl rfl 43 _ HR3.out HI43.out HQ.out (c8_one _) ?_))
  refine bodyPost_ret (results_row (p := 6) (ty := 43) rfl _ _ w.heap.size 43 _ (0, 0) _ rfl (setRow_heap _ _ _ _ _ _ HR3.out) Tryd.underlying43 rfl HI43.out) rfl ?_
  exact ⟨rfl, below_setRow hb13 (Nat.le_refl _) _⟩
set_option maxRecDepth 100000 in
set_option maxHeartbeats 1000000 in
theorem hello_any (r o : Nat) (key : List UInt8) (w : World) (hR : RingO r o key w) (hk0 : 0 < key.length) (hk1 : key.length ≤ 64) (hK : GlobK w) (hS : GlobS w) (h3 : 3 < w.heap.size) :
    Calls Tryd.prog 39 #[.pointer (some ⟨r, o, none⟩)] w fun e w' => e = .returned (.agg (c8 (hmB key (layB helloB [])))) ∧ Below w.heap.size w w' := by
  have HK : Hid (GlobK w) := hK
  have HS : Hid (GlobS w) := hS
  clear hK hS
  have HR0 := Lib.hid (zer43 w)
  obtain ⟨Y, hY⟩ : ∃ Y, Y = hmB key (layB helloB []) := ⟨_, rfl⟩
  have HYL : Hid (Y.length = 32) := by rw [hY]; exact hmB_length _ _
  rw [← hY]
  have HY := Lib.hid hY
  clear hY
  go_enter Tryd.func39, Tryd.ntmps39
  go_wp2_with fail
  generalize hw1 : w.alloc _ = w1 at HR0 ⊢
  have hb1 : Below w.heap.size w w1 := by rw [← hw1]; exact alloc_below w
  have hz1 : w.heap.size < w1.heap.size := by rw [← hw1]; simp
  clear hw1
  refine (key_any r o _ key helloB [] [] w1 (hR.below hb1 (Nat.le_refl _)) ⟨rfl, .inl ⟨rfl, rfl⟩, fun j hj => by simp at hj⟩ hk0 hk1 (by decide) (by simp) (by simp) (HK.out.below hb1 h3) (HS.out.below hb1 h3) (mid_lt h3 hb1)).mono ?_
  rintro e w2 ⟨rfl, hb2⟩
  rw [← HY.out]
  have hb12 : Below w.heap.size w w2 := hb1.trans (hb2.mono hb1.size)
  have HR2 : Hid (w2.heap[w.heap.size]? = some (.cells (c8 zer32) 43 (0, 0))) := (hb2.block _ hz1).trans HR0.out
  go_wp2_with (refine wpList_store_row (o := { dst := none, op := .store 43 (.tmp 2) (.tmp 4), type := _, pos := _, after := _, guard := none }) rfl 43 (.tmp 2) (.tmp 4) rfl w.heap.size (c8 Y) rfl rfl 43 _ HR2.out (HI43' HYL.out) (HQ' HYL.out) (c8_one _) ?_)
  refine bodyPost_ret (results_row (p := 2) (ty := 43) rfl _ _ w.heap.size 43 _ (0, 0) _ rfl (setRow_heap _ _ _ _ _ _ HR2.out) Tryd.underlying43 rfl (HI43' HYL.out)) rfl ?_
  exact ⟨rfl, below_setRow hb12 (Nat.le_refl _) _⟩
set_option maxRecDepth 100000 in
set_option maxHeartbeats 1000000 in
theorem token_any (r o s p : Nat) (key : List UInt8) (w : World) (hR : RingO r o key w) (hk0 : 0 < key.length) (hk1 : key.length ≤ 64) (hs : s < 4294967296) (hp : p < 4294967296) (hK : GlobK w) (hS : GlobS w) (h3 : 3 < w.heap.size) :
    Calls Tryd.prog 42 #[.pointer (some ⟨r, o, none⟩), .int .u32 s, .int .u32 p] w fun e w' => e = .returned (.int .u64 (num (hmB (hmB key (layB tokenB [])) (be4 s ++ be4 p)) 8)) ∧ Below w.heap.size w w' := by
  have HK : Hid (GlobK w) := hK
  have HS : Hid (GlobS w) := hS
  clear hK hS
  have d0 : decide (0 < key.length) = true := decide_eq_true hk0
  have d1 : decide (key.length ≤ 64) = true := decide_eq_true hk1
  obtain ⟨Y, hY⟩ : ∃ Y, Y = hmB key (layB tokenB []) := ⟨_, rfl⟩
  have HYL : Hid (Y.length = 32) := by rw [hY]; exact hmB_length _ _
  rw [← hY]
  have HY := Lib.hid hY
  clear hY
  obtain ⟨M, hM⟩ : ∃ M, M = be4 s ++ be4 p := ⟨_, rfl⟩
  have hML : M.length ≤ 8 := by rw [hM, List.length_append, be4_length, be4_length]; decide
  rw [← hM]
  have HM := Lib.hid hM
  clear hM
  have hrl := hR.lt
  have HRR := Lib.hid hR
  obtain ⟨v, _, hr, hB⟩ := hR
  obtain ⟨ka, kc, rfl⟩ := hB.len
  have c0 := hr
  clear hr
  go_enter Tryd.func42, Tryd.ntmps42
  go_wp2_with fail
  refine (may_any _ key w hB).mono ?_
  rintro e w1 ⟨rfl, rfl⟩
  rw [d0, d1]
  go_wp2_with fail
  refine (four_any w.heap.size s [] _ (wr_new w) (by simp) hs).mono ?_
  rintro e w2 ⟨rfl, hw2, hb2⟩
  rw [List.nil_append] at hw2
  go_wp2_with fail
  refine (four_any w.heap.size p (be4 s) w2 hw2 (by rw [be4_length]; omega) hp).mono ?_
  rintro e w3 ⟨rfl, hw3, hb3⟩
  go_wp2_with fail
  rw [← HM.out] at hw3
  refine (done_any w.heap.size M w3 hw3 (by omega)).mono ?_
  rintro e w4 ⟨v4, rfl, hown4, hb4⟩
  have hB4 := BSl.of_owns hown4
  have hbw4 : Below w.heap.size w w4 := (alloc_below w).trans (hb2.trans (hb3.trans hb4))
  obtain ⟨a4, c4, rfl⟩ := owns_form hown4
  go_wp2_with fail
  refine (key_any r o _ key tokenB [] [] w4 (HRR.out.below hbw4 (Nat.le_refl _)) ⟨rfl, .inl ⟨rfl, rfl⟩, fun j hj => by simp at hj⟩ hk0 hk1 (by decide) (by simp) (by simp) (HK.out.below hbw4 h3) (HS.out.below hbw4 h3) (mid_lt h3 hbw4)).mono ?_
  rintro e w5 ⟨rfl, hb5⟩
  rw [← HY.out]
  have hbw5 : Below w.heap.size w w5 := hbw4.trans (hb5.mono hbw4.size)
  go_wp2_with fail
  refine (tag_any Y M _ w5 HYL.out (hB4.below hb5 (Nat.le_refl _)) (by omega) (HK.out.below hbw5 h3) (HS.out.below hbw5 h3) (mid_lt h3 hbw5)).mono ?_
  rintro e w6 ⟨rfl, hb6⟩
  go_wp2
  go_ret
  exact ⟨rfl, hbw5.trans (hb6.mono hbw5.size)⟩
set_option maxRecDepth 100000 in
set_option maxHeartbeats 2000000 in
theorem way_any (r o way s p c d : Nat) (key : List UInt8) (w : World) (hR : RingO r o key w) (hk0 : 0 < key.length) (hk1 : key.length ≤ 64) (hway : way ≤ 1) (hs : s < 4294967296) (hp : p < 4294967296) (hc : c < 18446744073709551616) (hd : d < 18446744073709551616)
    (hK : GlobK w) (hS : GlobS w) (h3 : 3 < w.heap.size) :
    Calls Tryd.prog 40 #[.pointer (some ⟨r, o, none⟩), .int .i64 way, .int .u32 s, .int .u32 p, .int .u64 c, .int .u64 d] w fun e w' => e = .returned (.agg (c8 (hmB key (layB wayB (wayP way s p c d))))) ∧ Below w.heap.size w w' := by
  have HK : Hid (GlobK w) := hK
  have HS : Hid (GlobS w) := hS
  clear hK hS
  obtain ⟨Y, hY⟩ : ∃ Y, Y = hmB key (layB wayB (wayP way s p c d)) := ⟨_, rfl⟩
  have HYL : Hid (Y.length = 32) := by rw [hY]; exact hmB_length _ _
  rw [← hY]
  have HY := Lib.hid hY
  clear hY
  have hWB := Lib.hid (way_byte way hway)
  obtain ⟨W, hWe, hbW, hzW, k0, k1, k2, k3, k4, k5⟩ := six_w w (.cells #[.int .u32 s] 62) (.cells #[.int .u32 p] 62) (.cells #[.int .u64 c] 49) (.cells #[.int .u64 d] 49) (.cells #[.int .u8 0, .int .u8 0, .int .u8 0, .int .u8 0, .int .u8 0, .int .u8 0, .int .u8 0, .int .u8 0, .int .u8 0, .int .u8 0, .int .u8 0, .int .u8 0, .int .u8 0, .int .u8 0, .int .u8 0, .int .u8 0, .int .u8 0, .int .u8 0, .int .u8 0, .int .u8 0, .int .u8 0, .int .u8 0, .int .u8 0, .int .u8 0, .int .u8 0, .int .u8 0, .int .u8 0, .int .u8 0, .int .u8 0, .int .u8 0, .int .u8 0, .int .u8 0] 43) (.cells #[.int .u8 way] 5)
  have HB0 := Lib.hid (cell_of_row W _ 0 _ 62 (0, 0) k0)
  have HB1 := Lib.hid (cell_of_row W _ 0 _ 62 (0, 0) k1)
  have HB2 := Lib.hid (cell_of_row W _ 0 _ 49 (0, 0) k2)
  have HB3 := Lib.hid (cell_of_row W _ 0 _ 49 (0, 0) k3)
  have HB4 : Hid (W.heap[w.heap.size + 4]? = some (.cells (c8 zer32) 43 (0, 0))) := k4
  have HB5 : Hid (BSl W (.slice (some ⟨w.heap.size + 5, 0, none⟩) 1 1) [UInt8.ofNat way]) := BSl.of_row (bs := [UInt8.ofNat way]) (T := 5) (by rw [k5]; unfold c8 c8l; simp only [List.map_cons, List.map_nil]; rw [way_byte way hway]) (Nat.le_refl _) 1 rfl
  clear k0 k1 k2 k3 k4 k5
  have HWE := Lib.hid hWe
  have HZW := Lib.hid hzW
  clear hWe hzW
  go_enter Tryd.func40, Tryd.ntmps40
  rcases (by omega : way = 0 ∨ way = 1) with rfl | rfl
  all_goals
    go_wp2_with fail
    generalize hG : World.alloc _ _ = G
    obtain rfl : G = W := hG.symm.trans HWE.out.symm
    clear hG
    have z0 := HZW.out
    have HZ0 := Lib.hid z0
    have l0 : w.heap.size + 5 < G.heap.size := by omega
    clear z0
    refine (part_67 w.heap.size s G HB0.out (by omega) hs).mono ?_
    rintro e w1 ⟨v1, rfl, hown1, hb1⟩
    have hB1 := BSl.of_owns hown1
    obtain ⟨a1, c1, rfl⟩ := owns_form hown1
    have l1 : w.heap.size + 5 < w1.heap.size := by have := hb1.size; omega
    go_wp2_with fail
    refine (part_68 (w.heap.size + 1) p w1 ((hb1.cell (p := ⟨w.heap.size + 1, 0, none⟩) (by simp; omega)).trans HB1.out) (by omega) hp).mono ?_
    rintro e w2 ⟨v2, rfl, hown2, hb2⟩
    have hB2 := BSl.of_owns hown2
    obtain ⟨a2, c2, rfl⟩ := owns_form hown2
    have hb02 : Below G.heap.size G w2 := hb1.trans (hb2.mono hb1.size)
    have l2 : w.heap.size + 5 < w2.heap.size := by have := hb2.size; omega
    go_wp2_with fail
    refine (part_69 (w.heap.size + 2) c w2 ((hb02.cell (p := ⟨w.heap.size + 2, 0, none⟩) (by simp; omega)).trans HB2.out) (by omega) hc).mono ?_
    rintro e w3 ⟨v3, rfl, hown3, hb3⟩
    have hB3 := BSl.of_owns hown3
    obtain ⟨a3, c3, rfl⟩ := owns_form hown3
    have hb03 : Below G.heap.size G w3 := hb02.trans (hb3.mono hb02.size)
    have l3 : w.heap.size + 5 < w3.heap.size := by have := hb3.size; omega
    go_wp2_with fail
    refine (part_71 (w.heap.size + 3) d w3 ((hb03.cell (p := ⟨w.heap.size + 3, 0, none⟩) (by simp; omega)).trans HB3.out) (by omega) hd).mono ?_
    rintro e w4 ⟨v4, rfl, hown4, hb4⟩
    have hB4 := BSl.of_owns hown4
    obtain ⟨a4, c4, rfl⟩ := owns_form hown4
    have hb04 : Below G.heap.size G w4 := hb03.trans (hb4.mono hb03.size)
    have l4 : w.heap.size + 5 < w4.heap.size := by have := hb4.size; omega
    have hb34 := hb3.trans (hb4.mono hb3.size)
    have hb24 := hb2.trans (hb34.mono hb2.size)
    have HP5 := Lib.hid (psl_five (HB5.out.below hb04 (Nat.le_refl _)) (hB1.below hb24 (Nat.le_refl _)) (hB2.below hb34 (Nat.le_refl _)) (hB3.below hb4 (Nat.le_refl _)) hB4)
    have hbw4 : Below w.heap.size w w4 := hbW.trans (hb04.mono (by omega))
    have hbw5 : Below w.heap.size w (w4.alloc (.cells #[.slice (some ⟨w.heap.size + 5, 0, none⟩) 1 1, .slice a1 (be4 s).length c1, .slice a2 (be4 p).length c2, .slice a3 (be8 c).length c3, .slice a4 (be8 d).length c4] 22)) := hbw4.alloc hbw4.size _
    go_wp2_with fail
    refine (key_any r o _ key wayB _ _ _ (hR.below hbw5 (Nat.le_refl _)) HP5.out hk0 hk1 (by decide) (by simp) (by simp [be4_length, be8_length]) (HK.out.below hbw5 h3) (HS.out.below hbw5 h3) (mid_lt h3 hbw5)).mono ?_
    rintro e w6 ⟨rfl, hb6⟩
    have HY' := HY.out
    unfold wayP at HY'
    rw [← HY']
    clear HY'
    have hbw6 : Below w.heap.size w w6 := hbw5.trans (hb6.mono hbw5.size)
    have HR6 : Hid (w6.heap[w.heap.size + 4]? = some (.cells (c8 zer32) 43 (0, 0))) := by
      have h46 : Below w4.heap.size w4 w6 := (alloc_below w4).trans (hb6.mono (by simp))
      exact ((hb04.trans (h46.mono hb04.size)).block _ (by omega)).trans HB4.out
    go_wp2_with (refine wpList_store_row (o := { dst := none, op := .store 43 (.tmp 12) (.tmp 38), type := _, pos := _, after := _, guard := none }) rfl 43 (.tmp 12) (.tmp 38) rfl (w.heap.size + 4) (c8 Y) rfl rfl 43 _ HR6.out (HI43' HYL.out) (HQ' HYL.out) (c8_one _) ?_)
    refine bodyPost_ret (results_row (p := 12) (ty := 43) rfl _ _ (w.heap.size + 4) 43 _ (0, 0) _ rfl (setRow_heap _ _ _ _ _ _ HR6.out) Tryd.underlying43 rfl (HI43' HYL.out)) rfl ?_
    exact ⟨rfl, below_setRow hbw6 (by omega) _⟩
set_option maxRecDepth 100000 in
set_option maxHeartbeats 1000000 in
theorem way_none (rv : Value) (way : Int) (s p c d : Nat) (w : World) (hway : way < 0 ∨ 1 < way) :
    Calls Tryd.prog 40 #[rv, .int .i64 way, .int .u32 s, .int .u32 p, .int .u64 c, .int .u64 d] w fun e w' => e = .returned (.agg (c8 zer32)) ∧ Below w.heap.size w w' := by
  obtain ⟨W, hWe, hbW, hzW, _, _, _, _, k4⟩ := five_w w (.cells #[.int .u32 s] 62) (.cells #[.int .u32 p] 62) (.cells #[.int .u64 c] 49) (.cells #[.int .u64 d] 49) (.cells #[.int .u8 0, .int .u8 0, .int .u8 0, .int .u8 0, .int .u8 0, .int .u8 0, .int .u8 0, .int .u8 0, .int .u8 0, .int .u8 0, .int .u8 0, .int .u8 0, .int .u8 0, .int .u8 0, .int .u8 0, .int .u8 0, .int .u8 0, .int .u8 0, .int .u8 0, .int .u8 0, .int .u8 0, .int .u8 0, .int .u8 0, .int .u8 0, .int .u8 0, .int .u8 0, .int .u8 0, .int .u8 0, .int .u8 0, .int .u8 0, .int .u8 0, .int .u8 0] 43)
  have HB4 : Hid (W.heap[w.heap.size + 4]? = some (.cells (c8 zer32) 43 (0, 0))) := k4
  have HWE := Lib.hid hWe
  clear hWe k4
  have d0 : (way != 0) = true := bne_iff_ne.2 (by omega)
  have d1 : (way != 1) = true := bne_iff_ne.2 (by omega)
  · skip
    go_enter Tryd.func40, Tryd.ntmps40
    go_wp2_with (refine wpList_store_row (o := { dst := none, op := .store 43 (.tmp 12) (.tmp 20), type := _, pos := _, after := _, guard := none }) rfl 43 (.tmp 12) (.tmp 20) rfl (w.heap.size + 4) (c8 zer32) rfl rfl 43 (c8 zer32) (by rw [← HWE.out]; exact HB4.out) info43z rfl (c8_one _) ?_)
    rw [← HWE.out]
    refine bodyPost_ret (results_row (p := 12) (ty := 43) rfl _ _ (w.heap.size + 4) 43 _ (0, 0) _ rfl (setRow_heap _ _ _ _ _ _ HB4.out) Tryd.underlying43 rfl info43z) rfl ?_
    exact ⟨rfl, below_setRow hbW (by omega) _⟩
end Go.Proofs.YtjkicmlelilcaaaDoor.U
namespace Go.Proofs.YtjkicmlelilcaaaDoor.V2
open Go
open Go.RowKit
theorem isS_eq : ∀ l, isS l = true → l = wI S0 := fun l h => by simpa [isS] using h
theorem isK_eq : ∀ l, isK l = true → l = wI KK := fun l h => by simpa [isK] using h
theorem tabs_world {ρ : Ren} {σ : AH} {W : World} (hr : HR ρ σ W) (hG : ∀ g, g < 4 → ∃ s, ρ g = some (g, (0, s))) (hT : Tabs σ) : GlobK W ∧ GlobS W ∧ 3 < W.heap.size := by
  obtain ⟨s3, hs3⟩ := hG 3 (by decide)
  exact ⟨glob_of hr isK_eq rfl (hG 3 (by decide)) hT.g3, glob_of hr isS_eq rfl (hG 0 (by decide)) hT.g0, (hr.dom _ _ _ hs3).2.1⟩
theorem mayB_iff {key : List UInt8} : mayB key = true ↔ 0 < key.length ∧ key.length ≤ 64 := by
  unfold mayB
  rw [Bool.and_eq_true, decide_eq_true_eq, decide_eq_true_eq]
def RingV (σ : AH) (r : Nat) (key : List UInt8) : Prop := ∃ kb, σ.get r = some (.cells [kb] 112 .exact) ∧ IsB σ kb (bI key)
theorem RingV.mono {σ σ' : AH} {r : Nat} {key : List UInt8} (h : RingV σ r key) (hr : r < σ.next) (g : Grown σ σ') : RingV σ' r key := by
  obtain ⟨kb, h1, h2⟩ := h
  exact ⟨kb, by rw [g.get r hr]; exact h1, h2.mono g⟩
theorem RingV.uniq {σ : AH} {r : Nat} {key key' : List UInt8} (h : RingV σ r key) (h' : RingV σ r key') : key = key' := by
  obtain ⟨kb, h1, h2⟩ := h
  obtain ⟨kb', h1', h2'⟩ := h'
  rw [h1] at h1'
  simp only [Option.some.injEq, AObj.cells.injEq, List.cons.injEq, and_true] at h1'
  subst h1'
  exact h2.uniqB h2'
theorem ring_world {ρ : Ren} {σ : AH} {W : World} (hr : HR ρ σ W) {r : Nat} {v : Value} (hv : VR ρ (.ptr r 0) v) {key : List UInt8} (h : RingV σ r key) : ∃ c o, v = .pointer (some ⟨c, o, none⟩) ∧ U.RingO c o key W := by
  obtain ⟨kb, h1, h2⟩ := h
  unfold VR at hv
  obtain ⟨c, d, hc, rfl⟩ := hv
  obtain ⟨u, hu, hur⟩ := hr.load (i := 0) (a := kb) hc h1 rfl
  exact ⟨c, 0 + d.1, rfl, u, (hr.dom _ _ _ hc).2.1, hu, isB_world hr hur h2⟩
theorem vrs_cons {ρ : Ren} {a : AV} {l : List AV} {vs : List Value} (h : VRs ρ (a :: l) vs) : ∃ v m, vs = v :: m ∧ VR ρ a v ∧ VRs ρ l m := h
theorem vr_int {ρ : Ren} {k : IntKind} {n : Int} {v : Value} (h : VR ρ (.int k n) v) : v = .int k n := by unfold VR at h; exact h
def S27 (args : List AV) (σ : AH) (v : AV) : Prop := args = [] ∧ Tabs σ ∧ v = .bool true
theorem ok27 : SOk Tryd.prog 4 27 (fun args σ v σ' => S27 args σ v ∧ σ' = σ) := by
  refine sok_below Tryd.func27 (by kernel_rfl) (by kernel_rfl) ?_
  rintro args σ v ⟨rfl, hT, rfl⟩ ρ W vs hG hr hvs
  rw [show vs = [] from hvs]
  obtain ⟨k1, k2, k3⟩ := tabs_world hr hG hT
  exact (wakes_any W k1 k2 k3).mono fun e W' ⟨e1, e2⟩ => ⟨_, e1, e2, by unfold VR; rfl⟩
def Has27 (Γ : Gam) : Prop := ∀ σ, Tabs σ → Γ 27 [] σ = (true, .bool true, σ)
def helV (key : List UInt8) : AV := .ints .u8 (bI (hmB key (layB helloB [])))
def S39 (args : List AV) (σ : AH) (v : AV) : Prop := ∃ r key, args = [.ptr r 0] ∧ RingV σ r key ∧ mayB key = true ∧ Tabs σ ∧ v = helV key
theorem ok39 : SOk Tryd.prog 4 39 (fun args σ v σ' => S39 args σ v ∧ σ' = σ) := by
  refine sok_below Tryd.func39 (by kernel_rfl) (by kernel_rfl) ?_
  rintro args σ v ⟨r, key, rfl, hR, hm, hT, rfl⟩ ρ W vs hG hr hvs
  obtain ⟨u, rfl, hu⟩ := vrs_one hvs
  obtain ⟨c, o, rfl, hR⟩ := ring_world hr hu hR
  obtain ⟨k1, k2, k3⟩ := tabs_world hr hG hT
  obtain ⟨m1, m2⟩ := mayB_iff.1 hm
  exact (U.hello_any c o key W hR m1 m2 k1 k2 k3).mono fun e W' ⟨e1, e2⟩ => ⟨_, e1, e2, vr_bytes _⟩
def Has39 (Γ : Gam) : Prop := ∀ σ r key, RingV σ r key → mayB key = true → Tabs σ → Γ 39 [.ptr r 0] σ = (true, helV key, σ)
def wayV (key : List UInt8) (way : Int) (s p c q : Nat) : AV := bif decide (0 ≤ way) && decide (way ≤ 1) then .ints .u8 (bI (hmB key (layB wayB (wayP way.toNat s p c q)))) else .ints .u8 (bI zer32)
def S40 (args : List AV) (σ : AH) (v : AV) : Prop := ∃ (r : Nat) (way : Int) (s p c q : Nat) (key : List UInt8), args = [.ptr r 0, .int .i64 way, .int .u32 s, .int .u32 p, .int .u64 c, .int .u64 q] ∧ s < 4294967296 ∧ p < 4294967296 ∧ c < 18446744073709551616 ∧ q < 18446744073709551616 ∧ RingV σ r key ∧ mayB key = true ∧ Tabs σ ∧ v = wayV key way s p c q
theorem ok40 : SOk Tryd.prog 4 40 (fun args σ v σ' => S40 args σ v ∧ σ' = σ) := by
  refine sok_below Tryd.func40 (by kernel_rfl) (by kernel_rfl) ?_
  rintro args σ v ⟨r, way, s, p, c, q, key, rfl, hs, hp, hc, hq, hR, hm, hT, rfl⟩ ρ W vs hG hr hvs
  obtain ⟨u0, l0, rfl, h0, hvs⟩ := vrs_cons hvs
  obtain ⟨u1, l1, rfl, h1, hvs⟩ := vrs_cons hvs
  obtain ⟨u2, l2, rfl, h2, hvs⟩ := vrs_cons hvs
  obtain ⟨u3, l3, rfl, h3, hvs⟩ := vrs_cons hvs
  obtain ⟨u4, l4, rfl, h4, hvs⟩ := vrs_cons hvs
  obtain ⟨u5, rfl, h5⟩ := vrs_one hvs
  rw [vr_int h1, vr_int h2, vr_int h3, vr_int h4, vr_int h5]
  obtain ⟨k1, k2, k3⟩ := tabs_world hr hG hT
  obtain ⟨m1, m2⟩ := mayB_iff.1 hm
  cases hw : decide (0 ≤ way) && decide (way ≤ 1) with
  | true =>
    obtain ⟨b, o, rfl, hR⟩ := ring_world hr h0 hR
    rw [Bool.and_eq_true, decide_eq_true_eq, decide_eq_true_eq] at hw
    have e : way = (way.toNat : Int) := by omega
    unfold wayV
    rw [decide_eq_true hw.1, decide_eq_true hw.2, Bool.and_true, cond_true]
    generalize way.toNat = n at e
    subst e
    exact (U.way_any b o n s p c q key W hR m1 m2 (by omega) hs hp hc hq k1 k2 k3).mono fun e W' ⟨e1, e2⟩ => ⟨_, e1, e2, vr_bytes _⟩
  | false =>
    unfold wayV
    rw [hw, cond_false]
    refine (U.way_none u0 way s p c q W ?_).mono fun e W' ⟨e1, e2⟩ => ⟨_, e1, e2, vr_bytes _⟩
    rw [Bool.and_eq_false_iff, decide_eq_false_iff_not, decide_eq_false_iff_not] at hw
    omega
def Has40 (Γ : Gam) : Prop := ∀ (σ : AH) (r : Nat) (way : Int) (s p c q : Nat) (key : List UInt8), s < 4294967296 → p < 4294967296 → c < 18446744073709551616 → q < 18446744073709551616 → RingV σ r key → mayB key = true → Tabs σ → Γ 40 [.ptr r 0, .int .i64 way, .int .u32 s, .int .u32 p, .int .u64 c, .int .u64 q] σ = (true, wayV key way s p c q, σ)
def tokV (key : List UInt8) (s p : Nat) : AV := .int .u64 (num (hmB (hmB key (layB tokenB [])) (be4 s ++ be4 p)) 8 : Nat)
def S42 (args : List AV) (σ : AH) (v : AV) : Prop := ∃ (r s p : Nat) (key : List UInt8), args = [.ptr r 0, .int .u32 s, .int .u32 p] ∧ s < 4294967296 ∧ p < 4294967296 ∧ RingV σ r key ∧ mayB key = true ∧ Tabs σ ∧ v = tokV key s p
theorem ok42 : SOk Tryd.prog 4 42 (fun args σ v σ' => S42 args σ v ∧ σ' = σ) := by
  refine sok_below Tryd.func42 (by kernel_rfl) (by kernel_rfl) ?_
  rintro args σ v ⟨r, s, p, key, rfl, hs, hp, hR, hm, hT, rfl⟩ ρ W vs hG hr hvs
  obtain ⟨u0, l0, rfl, h0, hvs⟩ := vrs_cons hvs
  obtain ⟨u1, l1, rfl, h1, hvs⟩ := vrs_cons hvs
  obtain ⟨u2, rfl, h2⟩ := vrs_one hvs
  rw [vr_int h1, vr_int h2]
  obtain ⟨b, o, rfl, hR⟩ := ring_world hr h0 hR
  obtain ⟨k1, k2, k3⟩ := tabs_world hr hG hT
  obtain ⟨m1, m2⟩ := mayB_iff.1 hm
  exact (U.token_any b o s p key W hR m1 m2 hs hp k1 k2 k3).mono fun e W' ⟨e1, e2⟩ => ⟨_, e1, e2, by unfold tokV VR; rfl⟩
def Has42 (Γ : Gam) : Prop := ∀ (σ : AH) (r s p : Nat) (key : List UInt8), s < 4294967296 → p < 4294967296 → RingV σ r key → mayB key = true → Tabs σ → Γ 42 [.ptr r 0, .int .u32 s, .int .u32 p] σ = (true, tokV key s p, σ)
end Go.Proofs.YtjkicmlelilcaaaDoor.V2
