/- Part 9 of the proof: texts of the proof. -/
import Derived.Test.YtjkicmlelilcaaaDoorQK8
namespace Go.Proofs.YtjkicmlelilcaaaDoor
open Go
def dv (k : Nat) : Nat := 72057594037927936 / 256 ^ k
theorem dv_succ (k : Nat) : dv (k + 1) = dv k / 256 := by unfold dv; rw [Nat.pow_succ, Nat.div_div_eq_div_mul]
theorem dv_pow (k : Nat) (h : k < 8) : dv k = 2 ^ (56 - 8 * k) := by
  have : ∀ k : Fin 8, dv k.1 = 2 ^ (56 - 8 * k.1) := by decide
  exact this ⟨k, h⟩
theorem dv_le (k : Nat) : dv k ≤ 72057594037927936 := Nat.div_le_self _ _
theorem dv_pos (k : Nat) (h : k < 8) : 0 < dv k := by rw [dv_pow k h]; exact Nat.two_pow_pos _
theorem lenB_dv (n k : Nat) (h : k < 8) : ((n : Int) * 8) / (dv k : Int) % 256 = N8 (lenB n k) := by
  rw [dv_pow k h, ← lenB_eq n k]; simp
def sqTo : Nat → List UInt32
  | 0 => [0, 0, 0, 0, 0, 0, 0, 0]
  | k + 1 => (sqTo k).set k (at32 S0 k)
theorem sqTo_length (k : Nat) : (sqTo k).length = 8 := by
  induction k with
  | zero => rfl
  | succ k ih => simp [sqTo, ih]
theorem sqTo_all : sqTo 8 = S0 := by decide
theorem low_lay {S K B : List Int} {l : List (Nat × AObj)} {X : T AObj}
    (h0 : X.get 0 = some (.cells [] 62 .ro)) (h1 : X.get 1 = some (.cells [.sl 4 0 8 8 false 1] 62 .ro)) (h2 : X.get 2 = some (.cells [.sl 5 0 64 64 false 1] 62 .ro)) (h3 : X.get 3 = some (.cells [] 62 .ro))
    (h4 : X.get 4 = some (.ints .u32 S 62 .ro)) (h5 : X.get 5 = some (.ints .u32 K 62 .ro)) (h6 : X.get 6 = some (.ints .u8 B 5 .ro)) :
    ∀ b, b < 7 → (ofM (mem13 S K B l)).get b = X.get b := by
  have key : ∀ (o : AObj) (b : Nat) (l : List (Nat × AObj)), b < 1000000 → (ofM ((b, o) :: l)).get b = some o := fun o b l h => by simp only [ofM]; rw [T.get_put _ _ _ _ (by omega), if_pos rfl]
  have skip : ∀ (o : AObj) (b c : Nat) (l : List (Nat × AObj)), c < 1000000 → b ≠ c → (ofM ((c, o) :: l)).get b = (ofM l).get b := fun o b c l h hn => by simp only [ofM]; rw [T.get_put _ _ _ _ (by omega), if_neg hn]
  unfold mem13
  refine low7 ?_ ?_ ?_ ?_ ?_ ?_ ?_ <;> simp only [h0, h1, h2, h3, h4, h5, h6] <;> (repeat rw [skip _ _ _ _ (by omega) (by omega)]) <;> exact key _ _ _ (by omega)
theorem tmod64 (m : Nat) : ((m : Int).tmod 64) = ((m % 64 : Nat) : Int) := rfl
section
variable {A : Ar} {Γ : Gam} {nt : Nat} {K : AK} {env0 : T AV} {σ0 : AH} {LS LK LB : List Int}
theorem lp0 (hA : A = std) (bs : List UInt8) (hb : bs.length ≤ 100000000000) (n : Nat)
    (hw : ∀ m, m = bs.length + 1 → Wk 4 nt 7 env0 σ0 (ofL [(0, .sl 6 0 n n false 1), (2, .ptr 7 0), (3, .sl 8 0 m m false 1)]) ⟨9, ofM (mem13 LS LK LB [(8, .ints .u8 (bI (zerTo bs 0)) 5 .more)])⟩)
    (hK : ∀ a b c d m, m = bs.length + 1 + padZ bs.length → K .normal (ofL [(33, a), (34, b), (35, c), (36, d), (0, .sl 6 0 n n false 1), (2, .ptr 7 0), (3, .sl 8 0 m m false 1)]) ⟨9, ofM (mem13 LS LK LB [(8, .ints .u8 (bI (pad0 bs)) 5 .more)])⟩) :
    avc A Γ 4 nt 7 (.block 0 L0) K env0 σ0 := by
  unfold L0
  refine avc_block (avc_loop
    (fun env σ => ∃ j : Nat, j ≤ padZ bs.length ∧ ∃ m Lj, m = bs.length + 1 + j ∧ Lj = bI (zerTo bs j) ∧ env = ofL [(0, .sl 6 0 n n false 1), (2, .ptr 7 0), (3, .sl 8 0 m m false 1)] ∧ σ = ⟨9, ofM (mem13 LS LK LB [(8, .ints .u8 Lj 5 .more)])⟩)
    (fun env _ => match env.get 3 with | some (.sl _ _ m _ _ _) => bs.length + 1 + padZ bs.length - m | _ => 0)
    (hw _ rfl) ⟨0, by omega, _, _, rfl, rfl, rfl, rfl⟩ ?_)
  rintro env σ ⟨j, hj, m, Lj, hm, hLj, rfl, rfl⟩
  have hz := padZ_lt bs.length
  have hLl : Lj.length = m := by rw [hLj, bI_length, zerTo_length, hm]
  refine avc_seq_seq (avc_seq_reg (by cbv) ?_ (avc_seq_cond (t := !A.eq (A.tmod m 64) 56) (by cbv) (fun ht => ?_) (fun ht => ?_)))
  · subst hA; simp [std]
  · refine avc_seq_skip (avc_block (avc_reg (by cbv) ?_ ?_))
    · subst hA
      have q1 : Nat.ble m m = true := by rw [Nat.ble_eq]; omega
      have q2 : Nat.ble (m + 1) 1000000000000 = true := by rw [Nat.ble_eq]; omega
      simp [std, hLl, q1, q2]
    · have hlt : j < padZ bs.length := by
        subst hA
        rcases Nat.lt_or_ge j (padZ bs.length) with h | h
        · exact h
        · have e : j = padZ bs.length := by omega
          have := padZ_end bs.length
          rw [← e, ← hm] at this
          have e2 := tmod64 m
          simp [std] at ht
          omega
      obtain ⟨m1, hm1⟩ : ∃ m1, m1 = bs.length + 1 + (j + 1) := ⟨_, rfl⟩
      obtain ⟨L1, hL1⟩ : ∃ L1, L1 = bI (zerTo bs (j + 1)) := ⟨_, rfl⟩
      have e1 : A.addN m 1 = m1 := by subst hA; simp [std]; omega
      have e2 : A.app (A.part Lj 0 (A.mulN m 1)) (A.part [0] 0 (A.mulN 1 1)) = L1 := by
        subst hA; rw [hL1, ← zerTo_succ, bI, List.map_append, ← bI, ← hLj]
        simp [std, ← hLl]; rfl
      refine ⟨_, _, Wk.lay (ren 8 10) (l := [(0, .sl 6 0 n n false 1), (2, .ptr 7 0), (3, .sl 8 0 m1 m1 false 1)]) (L := mem13 LS LK LB [(8, .ints .u8 L1 5 .more)]) (n := 9) rfl rfl rfl (by cbv) (by cbv) ?_ ?_ (by cbv) (by cbv) (by cbv) ?_, ⟨j + 1, by omega, m1, L1, hm1, hL1, rfl, rfl⟩, ?_⟩
      · refine had_cons (by cbv) rfl (had_cons (by cbv) rfl (had_cons (by cbv) rfl (had_cons (by cbv) rfl (had_cons (by cbv) rfl (had_cons (by cbv) rfl (had_cons (by cbv) rfl (had_cons (by cbv) rfl (had_cons ?_ rfl had_nil))))))))
        conv => lhs; cbv
        conv at e2 => lhs; cbv
        rw [e2]; rfl
      · exact low_lay (by cbv) (by cbv) (by cbv) (by cbv) (by cbv) (by cbv) (by cbv)
      · refine has_cons (by cbv) rfl (has_cons (by cbv) rfl (has_cons ?_ rfl has_nil))
        conv => lhs; cbv
        conv at e1 => lhs; cbv
        rw [e1]; rfl
      · have g1 : (ofL [(0, AV.sl 6 0 n n false 1), (2, AV.ptr 7 0), (3, AV.sl 8 0 m1 m1 false 1)]).get 3 = some (.sl 8 0 m1 m1 false 1) := by cbv
        have g0 : (ofL [(0, AV.sl 6 0 n n false 1), (2, AV.ptr 7 0), (3, AV.sl 8 0 m m false 1)]).get 3 = some (.sl 8 0 m m false 1) := by cbv
        rw [g1, g0]
        show bs.length + 1 + padZ bs.length - m1 < bs.length + 1 + padZ bs.length - m
        omega
  · refine avc_seq_exit ?_
    have e : j = padZ bs.length := by
      subst hA
      rcases Nat.lt_or_ge j (padZ bs.length) with h | h
      · have := padZ_stop bs.length j h
        rw [← hm] at this
        have e2 := tmod64 m
        simp [std] at ht
        omega
      · omega
    have hh := hK (.sl 8 0 m m false 1) (.int .i64 m) (.int .i64 (A.tmod m 64)) (.bool (!A.eq (A.tmod m 64) 56)) m (by omega)
    have e3 : bI (pad0 bs) = Lj := by rw [hLj, e]; rfl
    rw [e3] at hh
    show K .normal _ _
    refine Eq.mp (congr (congrArg (K .normal) ?_) ?_) hh
    · cbv
    · cbv
theorem lp2 (hA : A = std) (n m : Nat) (nb : Int) (LP : List Int)
    (hw : ∀ (k0 : Int) (d0 : Int) (_ : k0 = ((0 : Nat) : Int)) (_ : d0 = ((256 ^ 0 : Nat) : Int)), Wk 4 nt 7 env0 σ0 (ofL [(0, .sl 6 0 n n false 1), (2, .ptr 7 0), (3, .sl 8 0 m m false 1), (4, .int .u64 nb), (5, .int .u64 d0), (6, .int .i64 k0)]) ⟨9, ofM (mem13 LS LK LB [(8, .ints .u8 LP 5 .more)])⟩)
    (hK : ∀ ta tb (k0 : Int) (d0 : Int) (_ : k0 = ((7 : Nat) : Int)) (_ : d0 = ((256 ^ 7 : Nat) : Int)), K .normal (ofL [(44, ta), (45, tb), (0, .sl 6 0 n n false 1), (2, .ptr 7 0), (3, .sl 8 0 m m false 1), (4, .int .u64 nb), (5, .int .u64 d0), (6, .int .i64 k0)]) ⟨9, ofM (mem13 LS LK LB [(8, .ints .u8 LP 5 .more)])⟩) :
    avc A Γ 4 nt 7 (.block 2 L2) K env0 σ0 := by
  unfold L2 B2
  refine avc_block (avc_loop
    (fun env σ => ∃ k : Nat, k ≤ 7 ∧ ∃ (k0 : Int) (d0 : Int), k0 = ((k : Nat) : Int) ∧ d0 = ((256 ^ k : Nat) : Int) ∧ env = ofL [(0, .sl 6 0 n n false 1), (2, .ptr 7 0), (3, .sl 8 0 m m false 1), (4, .int .u64 nb), (5, .int .u64 d0), (6, .int .i64 k0)] ∧ σ = ⟨9, ofM (mem13 LS LK LB [(8, .ints .u8 LP 5 .more)])⟩)
    (fun env _ => match env.get 6 with | some (.int _ k) => 7 - k.toNat | _ => 0)
    (hw _ _ rfl rfl) ⟨0, by omega, _, _, rfl, rfl, rfl, rfl⟩ ?_)
  rintro env σ ⟨k, hk, k0, d0, hk0, hd0, rfl, rfl⟩
  refine avc_seq_seq (avc_seq_reg (by cbv) rfl (avc_seq_cond (t := A.lt k0 7) (by cbv) (fun ht => ?_) (fun ht => ?_)))
  · have hlt : k < 7 := by subst hA; simp only [std, decide_eq_true_eq] at ht; omega
    refine avc_seq_skip (avc_seq_block (avc_reg (by cbv) rfl ?_))
    show avc A Γ 4 nt 7 _ _ _ _
    refine avc_reg (by cbv) rfl ?_
    obtain ⟨k1, hk1⟩ : ∃ k1 : Int, k1 = ((k + 1 : Nat) : Int) := ⟨_, rfl⟩
    obtain ⟨d1, hd1⟩ : ∃ d1 : Int, d1 = ((256 ^ (k + 1) : Nat) : Int) := ⟨_, rfl⟩
    have hp : (256 ^ k : Nat) ≤ 256 ^ 6 := Nat.pow_le_pow_right (by omega) (by omega)
    refine ⟨_, _, Wk.env (l := [(0, .sl 6 0 n n false 1), (2, .ptr 7 0), (3, .sl 8 0 m m false 1), (4, .int .u64 nb), (5, .int .u64 d1), (6, .int .i64 k1)]) (has_cons (by cbv) rfl (has_cons (by cbv) rfl (has_cons (by cbv) rfl (has_cons (by cbv) rfl (has_cons ?_ rfl (has_cons ?_ rfl has_nil)))))) (by show 7 ≤ 9; omega), ⟨k + 1, by omega, k1, d1, hk1, hd1, rfl, by cbv⟩, ?_⟩
    · conv => lhs; cbv
      subst hA
      simp only [std, wr]
      congr 2
      rw [Nat.pow_succ] at hd1
      omega
    · conv => lhs; cbv
      subst hA
      simp only [std, wr]
      congr 2; omega
    · have g1 : (ofL [(0, .sl 6 0 n n false 1), (2, .ptr 7 0), (3, .sl 8 0 m m false 1), (4, .int .u64 nb), (5, .int .u64 d1), (6, .int .i64 k1)]).get 6 = some (.int .i64 k1) := by cbv
      have g0 : (ofL [(0, .sl 6 0 n n false 1), (2, .ptr 7 0), (3, .sl 8 0 m m false 1), (4, .int .u64 nb), (5, .int .u64 d0), (6, .int .i64 k0)]).get 6 = some (.int .i64 k0) := by cbv
      rw [g1, g0]
      show 7 - k1.toNat < 7 - k0.toNat
      omega
  · refine avc_seq_exit ?_
    have e : k = 7 := by subst hA; simp only [std, decide_eq_false_iff_not] at ht; omega
    subst e
    have hh := hK (.int .i64 k0) (.bool (A.lt k0 7)) k0 d0 hk0 hd0
    show K .normal _ _
    refine Eq.mp (congr (congrArg (K .normal) ?_) ?_) hh
    · cbv
    · cbv
theorem lp4 (hA : A = std) (bs : List UInt8) (hb : bs.length ≤ 100000000000) (n : Nat) (nb : Int) (hnb : nb = (bs.length : Int) * 8)
    (hw : ∀ (k0 : Int) (d0 : Int) (m : Nat) (Lj : List Int) (_ : k0 = ((0 : Nat) : Int)) (_ : d0 = (dv 0 : Int)) (_ : m = bs.length + 1 + padZ bs.length + 0) (_ : Lj = bI (padTo bs 0)), Wk 4 nt 7 env0 σ0 (ofL [(0, .sl 6 0 n n false 1), (2, .ptr 7 0), (3, .sl 8 0 m m false 1), (4, .int .u64 nb), (5, .int .u64 d0), (7, .int .i64 k0)]) ⟨9, ofM (mem13 LS LK LB [(8, .ints .u8 Lj 5 .more)])⟩)
    (hK : ∀ ta tb (k0 : Int) (d0 : Int) (m : Nat) (Lj : List Int) (_ : k0 = ((8 : Nat) : Int)) (_ : d0 = (dv 8 : Int)) (_ : m = bs.length + 1 + padZ bs.length + 8) (_ : Lj = bI (padTo bs 8)), K .normal (ofL [(50, ta), (51, tb), (0, .sl 6 0 n n false 1), (2, .ptr 7 0), (3, .sl 8 0 m m false 1), (4, .int .u64 nb), (5, .int .u64 d0), (7, .int .i64 k0)]) ⟨9, ofM (mem13 LS LK LB [(8, .ints .u8 Lj 5 .more)])⟩) :
    avc A Γ 4 nt 7 (.block 4 L4) K env0 σ0 := by
  unfold L4 B4
  refine avc_block (avc_loop
    (fun env σ => ∃ k : Nat, k ≤ 8 ∧ ∃ (k0 : Int) (d0 : Int) (m : Nat) (Lj : List Int), k0 = ((k : Nat) : Int) ∧ d0 = (dv k : Int) ∧ m = bs.length + 1 + padZ bs.length + k ∧ Lj = bI (padTo bs k) ∧ env = ofL [(0, .sl 6 0 n n false 1), (2, .ptr 7 0), (3, .sl 8 0 m m false 1), (4, .int .u64 nb), (5, .int .u64 d0), (7, .int .i64 k0)] ∧ σ = ⟨9, ofM (mem13 LS LK LB [(8, .ints .u8 Lj 5 .more)])⟩)
    (fun env _ => match env.get 7 with | some (.int _ k) => 8 - k.toNat | _ => 0)
    (hw _ _ _ _ rfl rfl rfl rfl) ⟨0, by omega, _, _, _, _, rfl, rfl, rfl, rfl, rfl, rfl⟩ ?_)
  rintro env σ ⟨k, hk, k0, d0, m, Lj, hk0, hd0, hm, hLj, rfl, rfl⟩
  refine avc_seq_seq (avc_seq_reg (by cbv) rfl (avc_seq_cond (t := A.lt k0 8) (by cbv) (fun ht => ?_) (fun ht => ?_)))
  · have hlt : k < 8 := by subst hA; simp only [std, decide_eq_true_eq] at ht; omega
    have hz := padZ_lt bs.length
    have hLl : Lj.length = m := by rw [hLj, bI_length, padTo_length, hm]
    have hd0p : 0 < d0 := by have := dv_pos k (by omega); rw [hd0]; omega
    have hd0n : ¬ d0 = 0 := by omega
    have hd0l : d0 ≤ 72057594037927936 := by have := dv_le k; rw [hd0]; omega
    refine avc_seq_skip (avc_seq_block (avc_seq_reg (by cbv) ?_ (avc_reg (by cbv) ?_ ?_)))
    · have q1 : Nat.ble m m = true := by rw [Nat.ble_eq]; omega
      have q2 : Nat.ble (m + 1) 1000000000000 = true := by rw [Nat.ble_eq]; omega
      subst hA
      simp [std, hLl, q1, q2, hd0n]
    · subst hA
      simp [std]
    show avc A Γ 4 nt 7 _ _ _ _
    refine avc_reg (by cbv) rfl ?_
    obtain ⟨k1, hk1⟩ : ∃ k1 : Int, k1 = ((k + 1 : Nat) : Int) := ⟨_, rfl⟩
    obtain ⟨d1, hd1⟩ : ∃ d1 : Int, d1 = (dv (k + 1) : Int) := ⟨_, rfl⟩
    obtain ⟨m1, hm1⟩ : ∃ m1 : Nat, m1 = bs.length + 1 + padZ bs.length + (k + 1) := ⟨_, rfl⟩
    obtain ⟨L1, hL1⟩ : ∃ L1, L1 = bI (padTo bs (k + 1)) := ⟨_, rfl⟩
    refine ⟨_, _, Wk.lay (ren 8 10) (l := [(0, .sl 6 0 n n false 1), (2, .ptr 7 0), (3, .sl 8 0 m1 m1 false 1), (4, .int .u64 nb), (5, .int .u64 d1), (7, .int .i64 k1)]) (L := mem13 LS LK LB [(8, .ints .u8 L1 5 .more)]) (n := 9) rfl rfl rfl (by cbv) (by cbv) ?_ ?_ (by cbv) (by cbv) (by cbv) ?_, ⟨k + 1, by omega, k1, d1, m1, L1, hk1, hd1, hm1, hL1, rfl, rfl⟩, ?_⟩
    · refine had_cons (by cbv) rfl (had_cons (by cbv) rfl (had_cons (by cbv) rfl (had_cons (by cbv) rfl (had_cons (by cbv) rfl (had_cons (by cbv) rfl (had_cons (by cbv) rfl (had_cons (by cbv) rfl (had_cons ?_ rfl had_nil))))))))
      conv => lhs; cbv
      subst hA
      have e0 : nb.tdiv d0 = nb / d0 := Int.tdiv_eq_ediv_of_nonneg (by omega)
      have hq : 0 ≤ nb / d0 := Int.ediv_nonneg (by omega) (by omega)
      have hq1 : nb / d0 ≤ nb := Int.ediv_le_self _ (by omega)
      have hw1 : (nb / d0) % 18446744073709551616 = nb / d0 := by omega
      have e1 : (nb / d0).tmod 256 = nb / d0 % 256 := Int.tmod_eq_emod_of_nonneg hq
      have e2 : nb / d0 % 256 = N8 (lenB bs.length k) := by rw [hnb, hd0]; exact lenB_dv _ _ (by omega)
      have hw2 : N8 (lenB bs.length k) % 256 = N8 (lenB bs.length k) := by rw [← e2]; omega
      simp only [std, wr, e0, hw1, e1, e2, hw2]
      have e3 : List.take (m * 1) (List.drop 0 Lj) ++ List.take (1 * 1) (List.drop 0 [N8 (lenB bs.length k)]) = L1 := by
        rw [hL1, padTo_succ, bI, List.map_append, ← bI, ← hLj]
        simp [← hLl]
      rw [e3]; rfl
    · exact low_lay (by cbv) (by cbv) (by cbv) (by cbv) (by cbv) (by cbv) (by cbv)
    · refine has_cons (by cbv) rfl (has_cons (by cbv) rfl (has_cons ?_ rfl (has_cons (by cbv) rfl (has_cons ?_ rfl (has_cons ?_ rfl has_nil)))))
      · conv => lhs; cbv
        subst hA
        have : m + 1 = m1 := by omega
        simp only [std, this]; rfl
      · conv => lhs; cbv
        subst hA
        have e0 : d0.tdiv 256 = d0 / 256 := Int.tdiv_eq_ediv_of_nonneg (by omega)
        have e1 : d0 / 256 % 18446744073709551616 = d1 := by rw [hd1, hd0, dv_succ]; have := dv_le k; omega
        simp only [std, wr, e0]
        congr 2
      · conv => lhs; cbv
        subst hA
        simp only [std, wr]
        congr 2; omega
    · have g1 : (ofL [(0, .sl 6 0 n n false 1), (2, .ptr 7 0), (3, .sl 8 0 m1 m1 false 1), (4, .int .u64 nb), (5, .int .u64 d1), (7, .int .i64 k1)]).get 7 = some (.int .i64 k1) := by cbv
      have g0 : (ofL [(0, .sl 6 0 n n false 1), (2, .ptr 7 0), (3, .sl 8 0 m m false 1), (4, .int .u64 nb), (5, .int .u64 d0), (7, .int .i64 k0)]).get 7 = some (.int .i64 k0) := by cbv
      rw [g1, g0]
      show 8 - k1.toNat < 8 - k0.toNat
      omega
  · refine avc_seq_exit ?_
    have e : k = 8 := by subst hA; simp only [std, decide_eq_false_iff_not] at ht; omega
    subst e
    have hh := hK (.int .i64 k0) (.bool (A.lt k0 8)) k0 d0 m Lj hk0 hd0 hm hLj
    show K .normal _ _
    refine Eq.mp (congr (congrArg (K .normal) ?_) ?_) hh
    · cbv
    · cbv
theorem lp6 (hA : A = std) (m : Nat) (LP : List Int) (hLS : LS = wI S0)
    (hw : ∀ (k0 : Int) (Lq : List Int) (_ : k0 = ((0 : Nat) : Int)) (_ : Lq = wI (sqTo 0)), Wk 4 nt 7 env0 σ0 (ofL [(2, .ptr 7 0), (3, .sl 8 0 m m false 1), (8, .ptr 9 0), (9, .int .i64 k0)]) ⟨10, ofM (mem13 LS LK LB [(8, .ints .u8 LP 5 .more), (9, .ints .u32 Lq 87 .exact)])⟩)
    (hK : ∀ ta tb (k0 : Int) (Lq : List Int) (_ : k0 = ((8 : Nat) : Int)) (_ : Lq = wI (sqTo 8)), K .normal (ofL [(64, ta), (65, tb), (2, .ptr 7 0), (3, .sl 8 0 m m false 1), (8, .ptr 9 0), (9, .int .i64 k0)]) ⟨10, ofM (mem13 LS LK LB [(8, .ints .u8 LP 5 .more), (9, .ints .u32 Lq 87 .exact)])⟩) :
    avc A Γ 4 nt 7 (.block 6 L6) K env0 σ0 := by
  unfold L6 B6
  refine avc_block (avc_loop
    (fun env σ => ∃ k : Nat, k ≤ 8 ∧ ∃ (k0 : Int) (Lq : List Int), k0 = ((k : Nat) : Int) ∧ Lq = wI (sqTo k) ∧ env = ofL [(2, .ptr 7 0), (3, .sl 8 0 m m false 1), (8, .ptr 9 0), (9, .int .i64 k0)] ∧ σ = ⟨10, ofM (mem13 LS LK LB [(8, .ints .u8 LP 5 .more), (9, .ints .u32 Lq 87 .exact)])⟩)
    (fun env _ => match env.get 9 with | some (.int _ k) => 8 - k.toNat | _ => 0)
    (hw _ _ rfl rfl) ⟨0, by omega, _, _, rfl, rfl, rfl, rfl⟩ ?_)
  rintro env σ ⟨k, hk, k0, Lq, hk0, hLq, rfl, rfl⟩
  refine avc_seq_seq (avc_seq_reg (by cbv) rfl (avc_seq_cond (t := A.lt k0 8) (by cbv) (fun ht => ?_) (fun ht => ?_)))
  · have hlt : k < 8 := by subst hA; simp only [std, decide_eq_true_eq] at ht; omega
    have hLl : Lq.length = 8 := by rw [hLq, wI_length, sqTo_length]
    have hSl : LS.length = 8 := by rw [hLS, wI_length]; rfl
    refine avc_seq_skip (avc_seq_block (avc_reg (by cbv) ?_ ?_))
    · have q0 : k0.toNat = k := by omega
      have q1 : Nat.blt k 8 = true := by rw [Nat.blt_eq]; omega
      have q2 : (0 : Int) ≤ k0 := by omega
      subst hA
      simp [std, hLl, hSl, q0, q1, q2]
    show avc A Γ 4 nt 7 _ _ _ _
    refine avc_reg (by cbv) rfl ?_
    obtain ⟨k1, hk1⟩ : ∃ k1 : Int, k1 = ((k + 1 : Nat) : Int) := ⟨_, rfl⟩
    obtain ⟨L1, hL1⟩ : ∃ L1, L1 = wI (sqTo (k + 1)) := ⟨_, rfl⟩
    refine ⟨_, _, Wk.lay (ren 0 0) (l := [(2, .ptr 7 0), (3, .sl 8 0 m m false 1), (8, .ptr 9 0), (9, .int .i64 k1)]) (L := mem13 LS LK LB [(8, .ints .u8 LP 5 .more), (9, .ints .u32 L1 87 .exact)]) (n := 10) rfl rfl rfl (by cbv) (by cbv) ?_ ?_ (by cbv) (by cbv) (by cbv) ?_, ⟨k + 1, by omega, k1, L1, hk1, hL1, rfl, rfl⟩, ?_⟩
    · refine had_cons (by cbv) rfl (had_cons (by cbv) rfl (had_cons (by cbv) rfl (had_cons (by cbv) rfl (had_cons (by cbv) rfl (had_cons (by cbv) rfl (had_cons (by cbv) rfl (had_cons (by cbv) rfl (had_cons (by cbv) rfl (had_cons ?_ rfl had_nil)))))))))
      conv => lhs; cbv
      subst hA
      have q0 : k0.toNat = k := by omega
      have e3 : Lq.set k (LS.getD k 0) = L1 := by
        rw [hL1, hLq, hLS, sqTo, wI, wI, wI, List.map_set, at32]
        congr 1
        rw [List.getD_eq_getElem?_getD, List.getElem?_map, List.getD_eq_getElem?_getD]
        cases S0[k]? <;> rfl
      simp only [std, q0, Nat.zero_add, Nat.mul_one]
      rw [e3]; rfl
    · exact low_lay (by cbv) (by cbv) (by cbv) (by cbv) (by cbv) (by cbv) (by cbv)
    · refine has_cons (by cbv) rfl (has_cons (by cbv) rfl (has_cons (by cbv) rfl (has_cons ?_ rfl has_nil)))
      conv => lhs; cbv
      subst hA
      simp only [std, wr]
      congr 2; omega
    · have g1 : (ofL [(2, .ptr 7 0), (3, .sl 8 0 m m false 1), (8, .ptr 9 0), (9, .int .i64 k1)]).get 9 = some (.int .i64 k1) := by cbv
      have g0 : (ofL [(2, .ptr 7 0), (3, .sl 8 0 m m false 1), (8, .ptr 9 0), (9, .int .i64 k0)]).get 9 = some (.int .i64 k0) := by cbv
      rw [g1, g0]
      show 8 - k1.toNat < 8 - k0.toNat
      omega
  · refine avc_seq_exit ?_
    have e : k = 8 := by subst hA; simp only [std, decide_eq_false_iff_not] at ht; omega
    subst e
    have hh := hK (.int .i64 k0) (.bool (A.lt k0 8)) k0 Lq hk0 hLq
    show K .normal _ _
    refine Eq.mp (congr (congrArg (K .normal) ?_) ?_) hh
    · cbv
    · cbv
end
end Go.Proofs.YtjkicmlelilcaaaDoor
namespace Go.Proofs.YtjkicmlelilcaaaDoor
open Go
def cpTo (s : List UInt32) : Nat → List UInt32
  | 0 => [0, 0, 0, 0, 0, 0, 0, 0]
  | k + 1 => (cpTo s k).set k (at32 s k)
theorem cpTo_length (s : List UInt32) (k : Nat) : (cpTo s k).length = 8 := by
  induction k with
  | zero => rfl
  | succ k ih => simp [cpTo, ih]
theorem cpTo_all (s : List UInt32) (h : s.length = 8) : cpTo s 8 = s := by
  match s, h with
  | [a, b, c, d, e, f, g, x], _ => rfl
theorem wI_getD (l : List UInt32) (k : Nat) : (wI l).getD k 0 = N32 (at32 l k) := by
  rw [wI, at32, List.getD_eq_getElem?_getD, List.getElem?_map, List.getD_eq_getElem?_getD]
  cases l[k]? <;> rfl
theorem bI_getD (l : List UInt8) (k : Nat) : (bI l).getD k 0 = N8 (at8 l k) := by
  rw [bI, at8, List.getD_eq_getElem?_getD, List.getElem?_map, List.getD_eq_getElem?_getD]
  cases l[k]? <;> rfl
theorem wI_set (l : List UInt32) (k : Nat) (x : UInt32) : (wI l).set k (N32 x) = wI (l.set k x) := by rw [wI, wI, List.map_set]
theorem bI_set (l : List UInt8) (k : Nat) (x : UInt8) : (bI l).set k (N8 x) = bI (l.set k x) := by rw [bI, bI, List.map_set]
theorem N32_add (x y : UInt32) : (N32 x + N32 y) % 4294967296 = N32 (x + y) := by
  unfold N32
  have : (x + y).toNat = (x.toNat + y.toNat) % 4294967296 := by rw [UInt32.toNat_add]
  rw [this]; omega
section
variable {A : Ar} {Γ : Gam} {nt : Nat} {K : AK} {env0 : T AV} {σ0 : AH} {LS LK LB : List Int}
theorem lp12 (hA : A = std) (m : Nat) (b0 : Int) (LP Hq Wq : List Int) (s : List UInt32) (hs : s.length = 8) (hHq : Hq = wI s)
    (hw : ∀ (k0 : Int) (Vq : List Int) (_ : k0 = ((0 : Nat) : Int)) (_ : Vq = wI (cpTo s 0)), Wk 4 nt 7 env0 σ0 (ofL [(2, .ptr 7 0), (3, .sl 8 0 m m false 1), (8, .ptr 9 0), (10, .sl 5 0 64 64 false 1), (11, .int .i64 b0), (12, .sl 10 0 64 64 false 1), (17, .ptr 11 0), (18, .int .i64 k0)]) ⟨12, ofM (mem13 LS LK LB [(8, .ints .u8 LP 5 .more), (9, .ints .u32 Hq 87 .exact), (10, .ints .u32 Wq 62 .more), (11, .ints .u32 Vq 87 .exact)])⟩)
    (hK : ∀ ta tb (k0 : Int) (Vq : List Int) (_ : k0 = ((8 : Nat) : Int)) (_ : Vq = wI (cpTo s 8)), K .normal (ofL [(165, ta), (166, tb), (2, .ptr 7 0), (3, .sl 8 0 m m false 1), (8, .ptr 9 0), (10, .sl 5 0 64 64 false 1), (11, .int .i64 b0), (12, .sl 10 0 64 64 false 1), (17, .ptr 11 0), (18, .int .i64 k0)]) ⟨12, ofM (mem13 LS LK LB [(8, .ints .u8 LP 5 .more), (9, .ints .u32 Hq 87 .exact), (10, .ints .u32 Wq 62 .more), (11, .ints .u32 Vq 87 .exact)])⟩) :
    avc A Γ 4 nt 7 (.block 12 L12) K env0 σ0 := by
  unfold L12 B12
  refine avc_block (avc_loop
    (fun env σ => ∃ k : Nat, k ≤ 8 ∧ ∃ (k0 : Int) (Vq : List Int), k0 = ((k : Nat) : Int) ∧ Vq = wI (cpTo s k) ∧ env = ofL [(2, .ptr 7 0), (3, .sl 8 0 m m false 1), (8, .ptr 9 0), (10, .sl 5 0 64 64 false 1), (11, .int .i64 b0), (12, .sl 10 0 64 64 false 1), (17, .ptr 11 0), (18, .int .i64 k0)] ∧ σ = ⟨12, ofM (mem13 LS LK LB [(8, .ints .u8 LP 5 .more), (9, .ints .u32 Hq 87 .exact), (10, .ints .u32 Wq 62 .more), (11, .ints .u32 Vq 87 .exact)])⟩)
    (fun env _ => match env.get 18 with | some (.int _ k) => 8 - k.toNat | _ => 0)
    (hw _ _ rfl rfl) ⟨0, by omega, _, _, rfl, rfl, rfl, rfl⟩ ?_)
  rintro env σ ⟨k, hk, k0, Vq, hk0, hVq, rfl, rfl⟩
  refine avc_seq_seq (avc_seq_reg (by cbv) rfl (avc_seq_cond (t := A.lt k0 8) (by cbv) (fun ht => ?_) (fun ht => ?_)))
  · have hlt : k < 8 := by subst hA; simp only [std, decide_eq_true_eq] at ht; omega
    have hVl : Vq.length = 8 := by rw [hVq, wI_length, cpTo_length]
    have hHl : Hq.length = 8 := by rw [hHq, wI_length, hs]
    refine avc_seq_skip (avc_seq_block (avc_reg (by cbv) ?_ ?_))
    · have q0 : k0.toNat = k := by omega
      have q1 : Nat.blt k 8 = true := by rw [Nat.blt_eq]; omega
      have q2 : (0 : Int) ≤ k0 := by omega
      subst hA
      simp [std, hVl, hHl, q0, q1, q2]
    show avc A Γ 4 nt 7 _ _ _ _
    refine avc_reg (by cbv) rfl ?_
    obtain ⟨k1, hk1⟩ : ∃ k1 : Int, k1 = ((k + 1 : Nat) : Int) := ⟨_, rfl⟩
    obtain ⟨L1, hL1⟩ : ∃ L1, L1 = wI (cpTo s (k + 1)) := ⟨_, rfl⟩
    refine ⟨_, _, Wk.lay (ren 0 0) (l := [(2, .ptr 7 0), (3, .sl 8 0 m m false 1), (8, .ptr 9 0), (10, .sl 5 0 64 64 false 1), (11, .int .i64 b0), (12, .sl 10 0 64 64 false 1), (17, .ptr 11 0), (18, .int .i64 k1)]) (L := mem13 LS LK LB [(8, .ints .u8 LP 5 .more), (9, .ints .u32 Hq 87 .exact), (10, .ints .u32 Wq 62 .more), (11, .ints .u32 L1 87 .exact)]) (n := 12) rfl rfl rfl (by cbv) (by cbv) ?_ ?_ (by cbv) (by cbv) (by cbv) ?_, ⟨k + 1, by omega, k1, L1, hk1, hL1, rfl, rfl⟩, ?_⟩
    · refine had_cons (by cbv) rfl (had_cons (by cbv) rfl (had_cons (by cbv) rfl (had_cons (by cbv) rfl (had_cons (by cbv) rfl (had_cons (by cbv) rfl (had_cons (by cbv) rfl (had_cons (by cbv) rfl (had_cons (by cbv) rfl (had_cons (by cbv) rfl (had_cons (by cbv) rfl (had_cons ?_ rfl (had_nil))))))))))))
      conv => lhs; cbv
      subst hA
      have q0 : k0.toNat = k := by omega
      have e3 : Vq.set k (Hq.getD k 0) = L1 := by rw [hL1, hVq, hHq, wI_getD, wI_set, cpTo]
      simp only [std, q0, Nat.zero_add, Nat.mul_one]
      rw [e3]; rfl
    · exact low_lay (by cbv) (by cbv) (by cbv) (by cbv) (by cbv) (by cbv) (by cbv)
    · refine has_cons (by cbv) rfl (has_cons (by cbv) rfl (has_cons (by cbv) rfl (has_cons (by cbv) rfl (has_cons (by cbv) rfl (has_cons (by cbv) rfl (has_cons (by cbv) rfl (has_cons ?_ rfl (has_nil))))))))
      conv => lhs; cbv
      subst hA
      simp only [std, wr]
      congr 2; omega
    · have g1 : (ofL [(2, .ptr 7 0), (3, .sl 8 0 m m false 1), (8, .ptr 9 0), (10, .sl 5 0 64 64 false 1), (11, .int .i64 b0), (12, .sl 10 0 64 64 false 1), (17, .ptr 11 0), (18, .int .i64 k1)]).get 18 = some (.int .i64 k1) := by cbv
      have g0 : (ofL [(2, .ptr 7 0), (3, .sl 8 0 m m false 1), (8, .ptr 9 0), (10, .sl 5 0 64 64 false 1), (11, .int .i64 b0), (12, .sl 10 0 64 64 false 1), (17, .ptr 11 0), (18, .int .i64 k0)]).get 18 = some (.int .i64 k0) := by cbv
      rw [g1, g0]
      show 8 - k1.toNat < 8 - k0.toNat
      omega
  · refine avc_seq_exit ?_
    have e : k = 8 := by subst hA; simp only [std, decide_eq_false_iff_not] at ht; omega
    subst e
    have hh := hK (.int .i64 k0) (.bool (A.lt k0 8)) k0 Vq hk0 hVq
    show K .normal _ _
    refine Eq.mp (congr (congrArg (K .normal) ?_) ?_) hh
    · cbv
    · cbv
theorem lp16 (hA : A = std) (m : Nat) (b0 : Int) (LP Vq Wq : List Int) (s x : List UInt32) (hs : s.length = 8) (hx : x.length = 8) (hVq : Vq = wI x)
    (hw : ∀ (k0 : Int) (Hq : List Int) (_ : k0 = ((0 : Nat) : Int)) (_ : Hq = wI (sumTo s x 0)), Wk 4 nt 7 env0 σ0 (ofL [(2, .ptr 7 0), (3, .sl 8 0 m m false 1), (8, .ptr 9 0), (10, .sl 5 0 64 64 false 1), (11, .int .i64 b0), (17, .ptr 11 0), (24, .int .i64 k0)]) ⟨12, ofM (mem13 LS LK LB [(8, .ints .u8 LP 5 .more), (9, .ints .u32 Hq 87 .exact), (10, .ints .u32 Wq 62 .more), (11, .ints .u32 Vq 87 .exact)])⟩)
    (hK : ∀ ta tb (k0 : Int) (Hq : List Int) (_ : k0 = ((8 : Nat) : Int)) (_ : Hq = wI (sumTo s x 8)), K .normal (ofL [(263, ta), (264, tb), (2, .ptr 7 0), (3, .sl 8 0 m m false 1), (8, .ptr 9 0), (10, .sl 5 0 64 64 false 1), (11, .int .i64 b0), (17, .ptr 11 0), (24, .int .i64 k0)]) ⟨12, ofM (mem13 LS LK LB [(8, .ints .u8 LP 5 .more), (9, .ints .u32 Hq 87 .exact), (10, .ints .u32 Wq 62 .more), (11, .ints .u32 Vq 87 .exact)])⟩) :
    avc A Γ 4 nt 7 (.block 16 L16) K env0 σ0 := by
  unfold L16 B16
  refine avc_block (avc_loop
    (fun env σ => ∃ k : Nat, k ≤ 8 ∧ ∃ (k0 : Int) (Hq : List Int), k0 = ((k : Nat) : Int) ∧ Hq = wI (sumTo s x k) ∧ env = ofL [(2, .ptr 7 0), (3, .sl 8 0 m m false 1), (8, .ptr 9 0), (10, .sl 5 0 64 64 false 1), (11, .int .i64 b0), (17, .ptr 11 0), (24, .int .i64 k0)] ∧ σ = ⟨12, ofM (mem13 LS LK LB [(8, .ints .u8 LP 5 .more), (9, .ints .u32 Hq 87 .exact), (10, .ints .u32 Wq 62 .more), (11, .ints .u32 Vq 87 .exact)])⟩)
    (fun env _ => match env.get 24 with | some (.int _ k) => 8 - k.toNat | _ => 0)
    (hw _ _ rfl rfl) ⟨0, by omega, _, _, rfl, rfl, rfl, rfl⟩ ?_)
  rintro env σ ⟨k, hk, k0, Hq, hk0, hHq, rfl, rfl⟩
  refine avc_seq_seq (avc_seq_reg (by cbv) rfl (avc_seq_cond (t := A.lt k0 8) (by cbv) (fun ht => ?_) (fun ht => ?_)))
  · have hlt : k < 8 := by subst hA; simp only [std, decide_eq_true_eq] at ht; omega
    have hVl : Vq.length = 8 := by rw [hVq, wI_length, hx]
    have hHl : Hq.length = 8 := by rw [hHq, wI_length, sumTo_length, hs]
    refine avc_seq_skip (avc_seq_block (avc_regd (by cbv) ?_ ?_))
    · have q0 : k0.toNat = k := by omega
      have q1 : Nat.blt k 8 = true := by rw [Nat.blt_eq]; omega
      have q2 : (0 : Int) ≤ k0 := by omega
      subst hA
      simp [std, hVl, hHl, q0, q1, q2]
    show avc A Γ 4 nt 7 _ _ _ _
    refine avc_reg (by cbv) rfl ?_
    obtain ⟨k1, hk1⟩ : ∃ k1 : Int, k1 = ((k + 1 : Nat) : Int) := ⟨_, rfl⟩
    obtain ⟨L1, hL1⟩ : ∃ L1, L1 = wI (sumTo s x (k + 1)) := ⟨_, rfl⟩
    refine ⟨_, _, Wk.lay (ren 0 0) (l := [(2, .ptr 7 0), (3, .sl 8 0 m m false 1), (8, .ptr 9 0), (10, .sl 5 0 64 64 false 1), (11, .int .i64 b0), (17, .ptr 11 0), (24, .int .i64 k1)]) (L := mem13 LS LK LB [(8, .ints .u8 LP 5 .more), (9, .ints .u32 L1 87 .exact), (10, .ints .u32 Wq 62 .more), (11, .ints .u32 Vq 87 .exact)]) (n := 12) rfl rfl rfl (by cbv) (by cbv) ?_ ?_ (by cbv) (by cbv) (by cbv) ?_, ⟨k + 1, by omega, k1, L1, hk1, hL1, rfl, rfl⟩, ?_⟩
    · refine had_cons (by cbv) rfl (had_cons (by cbv) rfl (had_cons (by cbv) rfl (had_cons (by cbv) rfl (had_cons (by cbv) rfl (had_cons (by cbv) rfl (had_cons (by cbv) rfl (had_cons (by cbv) rfl (had_cons (by cbv) rfl (had_cons ?_ rfl (had_cons (by cbv) rfl (had_cons (by cbv) rfl (had_nil))))))))))))
      conv => lhs; cbv
      subst hA
      have q0 : k0.toNat = k := by omega
      have e3 : Hq.set k ((Hq.getD k 0 + Vq.getD k 0) % 4294967296) = L1 := by rw [hL1, hVq, hHq, wI_getD, wI_getD, N32_add, wI_set, sumTo]
      simp only [std, wr, q0, Nat.zero_add, Nat.mul_one]
      rw [e3]; rfl
    · exact low_lay (by cbv) (by cbv) (by cbv) (by cbv) (by cbv) (by cbv) (by cbv)
    · refine has_cons (by cbv) rfl (has_cons (by cbv) rfl (has_cons (by cbv) rfl (has_cons (by cbv) rfl (has_cons (by cbv) rfl (has_cons (by cbv) rfl (has_cons ?_ rfl (has_nil)))))))
      conv => lhs; cbv
      subst hA
      simp only [std, wr]
      congr 2; omega
    · have g1 : (ofL [(2, .ptr 7 0), (3, .sl 8 0 m m false 1), (8, .ptr 9 0), (10, .sl 5 0 64 64 false 1), (11, .int .i64 b0), (17, .ptr 11 0), (24, .int .i64 k1)]).get 24 = some (.int .i64 k1) := by cbv
      have g0 : (ofL [(2, .ptr 7 0), (3, .sl 8 0 m m false 1), (8, .ptr 9 0), (10, .sl 5 0 64 64 false 1), (11, .int .i64 b0), (17, .ptr 11 0), (24, .int .i64 k0)]).get 24 = some (.int .i64 k0) := by cbv
      rw [g1, g0]
      show 8 - k1.toNat < 8 - k0.toNat
      omega
  · refine avc_seq_exit ?_
    have e : k = 8 := by subst hA; simp only [std, decide_eq_false_iff_not] at ht; omega
    subst e
    have hh := hK (.int .i64 k0) (.bool (A.lt k0 8)) k0 Hq hk0 hHq
    show K .normal _ _
    refine Eq.mp (congr (congrArg (K .normal) ?_) ?_) hh
    · cbv
    · cbv
end
end Go.Proofs.YtjkicmlelilcaaaDoor
namespace Go.Proofs.YtjkicmlelilcaaaDoor
open Go
section
variable {A : Ar} {Γ : Gam} {nt : Nat} {K : AK} {env0 : T AV} {σ0 : AH} {LS LK LB : List Int}
theorem lp18 (hA : A = std) (LP : List Int) (s : List UInt32) (hs : s.length = 8) (Hq : List Int) (hHq : Hq = wI s)
    (hw : ∀ (k0 : Int) (Oq : List Int) (_ : k0 = ((0 : Nat) : Int)) (_ : Oq = bI (outTo s (4 * 0))), Wk 4 nt 7 env0 σ0 (ofL [(2, .ptr 7 0), (8, .ptr 9 0), (25, .ptr 10 0), (26, .int .i64 k0)]) ⟨11, ofM (mem13 LS LK LB [(8, .ints .u8 LP 5 .more), (9, .ints .u32 Hq 87 .exact), (10, .ints .u8 Oq 23 .exact)])⟩)
    (hK : ∀ ta tb (k0 : Int) (Oq : List Int) (_ : k0 = ((8 : Nat) : Int)) (_ : Oq = bI (outTo s (4 * 8))), K .normal (ofL [(276, ta), (277, tb), (2, .ptr 7 0), (8, .ptr 9 0), (25, .ptr 10 0), (26, .int .i64 k0)]) ⟨11, ofM (mem13 LS LK LB [(8, .ints .u8 LP 5 .more), (9, .ints .u32 Hq 87 .exact), (10, .ints .u8 Oq 23 .exact)])⟩) :
    avc A Γ 4 nt 7 (.block 18 L18) K env0 σ0 := by
  unfold L18 B18
  refine avc_block (avc_loop
    (fun env σ => ∃ k : Nat, k ≤ 8 ∧ ∃ (k0 : Int) (Oq : List Int), k0 = ((k : Nat) : Int) ∧ Oq = bI (outTo s (4 * k)) ∧ env = ofL [(2, .ptr 7 0), (8, .ptr 9 0), (25, .ptr 10 0), (26, .int .i64 k0)] ∧ σ = ⟨11, ofM (mem13 LS LK LB [(8, .ints .u8 LP 5 .more), (9, .ints .u32 Hq 87 .exact), (10, .ints .u8 Oq 23 .exact)])⟩)
    (fun env _ => match env.get 26 with | some (.int _ k) => 8 - k.toNat | _ => 0)
    (hw _ _ rfl rfl) ⟨0, by omega, _, _, rfl, rfl, rfl, rfl⟩ ?_)
  rintro env σ ⟨k, hk, k0, Oq, hk0, hOq, rfl, rfl⟩
  refine avc_seq_seq (avc_seq_reg (by cbv) rfl (avc_seq_cond (t := A.lt k0 8) (by cbv) (fun ht => ?_) (fun ht => ?_)))
  · have hlt : k < 8 := by subst hA; simp only [std, decide_eq_true_eq] at ht; omega
    have hOl : Oq.length = 32 := by rw [hOq, bI_length, outTo_length]
    have hHl : Hq.length = 8 := by rw [hHq, wI_length, hs]
    refine avc_seq_skip (avc_seq_block (avc_seq_reg (by cbv) ?_ (avc_seq_reg (by cbv) ?_ (avc_seq_reg (by cbv) ?_ (avc_reg (by cbv) ?_ ?_)))))
    · have q0 : k0.toNat = k := by omega
      have q1 : Nat.blt k 8 = true := by rw [Nat.blt_eq]; omega
      have q2 : (0 : Int) ≤ k0 := by omega
      subst hA
      have qv : wr .i64 (4 * k0) = 4 * k0 := by simp only [wr]; omega
      have qw : wr .i64 (4 * k0) = 4 * k0 := by simp only [wr]; omega
      have qn : (4 * k0).toNat = 4 * k := by omega
      have qb : Nat.blt (4 * k) 32 = true := by rw [Nat.blt_eq]; omega
      have qp : (0 : Int) ≤ 4 * k0 := by omega
      simp [std, hOl, hHl, q0, q1, q2, qv, qn, qb, qp]
    · have q0 : k0.toNat = k := by omega
      have q1 : Nat.blt k 8 = true := by rw [Nat.blt_eq]; omega
      have q2 : (0 : Int) ≤ k0 := by omega
      subst hA
      have qv : wr .i64 (4 * k0) = 4 * k0 := by simp only [wr]; omega
      have qw : wr .i64 (4 * k0 + 1) = 4 * k0 + 1 := by simp only [wr]; omega
      have qn : (4 * k0 + 1).toNat = 4 * k + 1 := by omega
      have qb : Nat.blt (4 * k + 1) 32 = true := by rw [Nat.blt_eq]; omega
      have qp : (0 : Int) ≤ 4 * k0 + 1 := by omega
      simp [std, hOl, hHl, q0, q1, q2, qv, qw, qn, qb, qp]
    · have q0 : k0.toNat = k := by omega
      have q1 : Nat.blt k 8 = true := by rw [Nat.blt_eq]; omega
      have q2 : (0 : Int) ≤ k0 := by omega
      subst hA
      have qv : wr .i64 (4 * k0) = 4 * k0 := by simp only [wr]; omega
      have qw : wr .i64 (4 * k0 + 2) = 4 * k0 + 2 := by simp only [wr]; omega
      have qn : (4 * k0 + 2).toNat = 4 * k + 2 := by omega
      have qb : Nat.blt (4 * k + 2) 32 = true := by rw [Nat.blt_eq]; omega
      have qp : (0 : Int) ≤ 4 * k0 + 2 := by omega
      simp [std, hOl, hHl, q0, q1, q2, qv, qw, qn, qb, qp]
    · have q0 : k0.toNat = k := by omega
      have q1 : Nat.blt k 8 = true := by rw [Nat.blt_eq]; omega
      have q2 : (0 : Int) ≤ k0 := by omega
      subst hA
      have qv : wr .i64 (4 * k0) = 4 * k0 := by simp only [wr]; omega
      have qw : wr .i64 (4 * k0 + 3) = 4 * k0 + 3 := by simp only [wr]; omega
      have qn : (4 * k0 + 3).toNat = 4 * k + 3 := by omega
      have qb : Nat.blt (4 * k + 3) 32 = true := by rw [Nat.blt_eq]; omega
      have qp : (0 : Int) ≤ 4 * k0 + 3 := by omega
      simp [std, hOl, hHl, q0, q1, q2, qv, qw, qn, qb, qp]
    show avc A Γ 4 nt 7 _ _ _ _
    refine avc_reg (by cbv) rfl ?_
    obtain ⟨k1, hk1⟩ : ∃ k1 : Int, k1 = ((k + 1 : Nat) : Int) := ⟨_, rfl⟩
    obtain ⟨L1, hL1⟩ : ∃ L1, L1 = bI (outTo s (4 * (k + 1))) := ⟨_, rfl⟩
    refine ⟨_, _, Wk.lay (ren 0 0) (l := [(2, .ptr 7 0), (8, .ptr 9 0), (25, .ptr 10 0), (26, .int .i64 k1)]) (L := mem13 LS LK LB [(8, .ints .u8 LP 5 .more), (9, .ints .u32 Hq 87 .exact), (10, .ints .u8 L1 23 .exact)]) (n := 11) rfl rfl rfl (by cbv) (by cbv) ?_ ?_ (by cbv) (by cbv) (by cbv) ?_, ⟨k + 1, by omega, k1, L1, hk1, hL1, rfl, rfl⟩, ?_⟩
    · refine had_cons (by cbv) rfl (had_cons (by cbv) rfl (had_cons (by cbv) rfl (had_cons (by cbv) rfl (had_cons (by cbv) rfl (had_cons (by cbv) rfl (had_cons (by cbv) rfl (had_cons (by cbv) rfl (had_cons (by cbv) rfl (had_cons (by cbv) rfl (had_cons ?_ rfl (had_nil)))))))))))
      conv => lhs; cbv
      subst hA
      have q0 : k0.toNat = k := by omega
      have q1 : wr .i64 (4 * k0) = 4 * k0 := by simp only [wr]; omega
      have q2 : wr .i64 (4 * k0 + 1) = 4 * k0 + 1 := by simp only [wr]; omega
      have q3 : wr .i64 (4 * k0 + 2) = 4 * k0 + 2 := by simp only [wr]; omega
      have q4 : wr .i64 (4 * k0 + 3) = 4 * k0 + 3 := by simp only [wr]; omega
      have n1 : (4 * k0).toNat = 4 * k := by omega
      have n2 : (4 * k0 + 1).toNat = 4 * k + 1 := by omega
      have n3 : (4 * k0 + 2).toNat = 4 * k + 2 := by omega
      have n4 : (4 * k0 + 3).toNat = 4 * k + 3 := by omega
      have hx : Hq.getD k 0 = N32 (at32 s k) := by rw [hHq, wI_getD]
      have v1 := outB_eq s (4 * k)
      have v2 := outB_eq s (4 * k + 1)
      have v3 := outB_eq s (4 * k + 2)
      have v4 := outB_eq s (4 * k + 3)
      rw [show 4 * k / 4 = k by omega, show 4 * k % 4 = 0 by omega] at v1
      rw [show (4 * k + 1) / 4 = k by omega, show (4 * k + 1) % 4 = 1 by omega] at v2
      rw [show (4 * k + 2) / 4 = k by omega, show (4 * k + 2) % 4 = 2 by omega] at v3
      rw [show (4 * k + 3) / 4 = k by omega, show (4 * k + 3) % 4 = 3 by omega] at v4
      have hb := N32_bd (at32 s k)
      obtain ⟨X, hX⟩ : ∃ X, X = N32 (at32 s k) := ⟨_, rfl⟩
      rw [← hX] at hx v1 v2 v3 v4 hb
      have t1 : X.tdiv 16777216 = X / 16777216 := Int.tdiv_eq_ediv_of_nonneg (by omega)
      have t2 : X.tdiv 65536 = X / 65536 := Int.tdiv_eq_ediv_of_nonneg (by omega)
      have t3 : X.tdiv 256 = X / 256 := Int.tdiv_eq_ediv_of_nonneg (by omega)
      have w1 : wr .u8 (wr .u32 (X / 16777216)) = N8 (outB s (4 * k)) := by rw [← v1]; simp only [wr]; omega
      have m2 : (wr .u32 (X / 65536)).tmod 256 = wr .u32 (X / 65536) % 256 := Int.tmod_eq_emod_of_nonneg (by simp only [wr]; omega)
      have m3 : (wr .u32 (X / 256)).tmod 256 = wr .u32 (X / 256) % 256 := Int.tmod_eq_emod_of_nonneg (by simp only [wr]; omega)
      have m4 : X.tmod 256 = X % 256 := Int.tmod_eq_emod_of_nonneg (by omega)
      have w2 : wr .u8 (wr .u32 (X / 65536) % 256) = N8 (outB s (4 * k + 1)) := by rw [← v2]; simp only [wr]; omega
      have w3 : wr .u8 (wr .u32 (X / 256) % 256) = N8 (outB s (4 * k + 2)) := by rw [← v3]; simp only [wr]; omega
      have w4 : wr .u8 (X % 256) = N8 (outB s (4 * k + 3)) := by rw [← v4]; simp only [wr]; omega
      have e3 : (((Oq.set (4 * k) (N8 (outB s (4 * k)))).set (4 * k + 1) (N8 (outB s (4 * k + 1)))).set (4 * k + 2) (N8 (outB s (4 * k + 2)))).set (4 * k + 3) (N8 (outB s (4 * k + 3))) = L1 := by
        rw [hL1, show 4 * (k + 1) = 4 * k + 1 + 1 + 1 + 1 from rfl, hOq]
        simp only [outTo, bI_set]
      simp only [std, q0, Nat.zero_add, Nat.mul_one, q1, q2, q3, q4, n1, n2, n3, n4, hx, t1, t2, t3, w1, m2, m3, m4, w2, w3, w4]
      rw [e3]; rfl
    · exact low_lay (by cbv) (by cbv) (by cbv) (by cbv) (by cbv) (by cbv) (by cbv)
    · refine has_cons (by cbv) rfl (has_cons (by cbv) rfl (has_cons (by cbv) rfl (has_cons ?_ rfl (has_nil))))
      conv => lhs; cbv
      subst hA
      simp only [std, wr]
      congr 2; omega
    · have g1 : (ofL [(2, .ptr 7 0), (8, .ptr 9 0), (25, .ptr 10 0), (26, .int .i64 k1)]).get 26 = some (.int .i64 k1) := by cbv
      have g0 : (ofL [(2, .ptr 7 0), (8, .ptr 9 0), (25, .ptr 10 0), (26, .int .i64 k0)]).get 26 = some (.int .i64 k0) := by cbv
      rw [g1, g0]
      show 8 - k1.toNat < 8 - k0.toNat
      omega
  · refine avc_seq_exit ?_
    have e : k = 8 := by subst hA; simp only [std, decide_eq_false_iff_not] at ht; omega
    subst e
    have hh := hK (.int .i64 k0) (.bool (A.lt k0 8)) k0 Oq hk0 hOq
    show K .normal _ _
    refine Eq.mp (congr (congrArg (K .normal) ?_) ?_) hh
    · cbv
    · cbv
end
end Go.Proofs.YtjkicmlelilcaaaDoor
namespace Go.Proofs.YtjkicmlelilcaaaDoor
open Go
theorem std_xor (x y : UInt32) : wr .u32 (stdBits .xor .u32 (N32 x) (N32 y)) = N32 (x ^^^ y) := by
  rw [← wr_eq]; exact u32_bits_xor x y
theorem std_and (x y : UInt32) : wr .u32 (stdBits .and .u32 (N32 x) (N32 y)) = N32 (x &&& y) := by
  rw [← wr_eq]; exact u32_bits_and x y
theorem w_add (x y : UInt32) : wr .u32 (N32 x + N32 y) = N32 (x + y) := by simp only [wr]; exact N32_add x y
theorem w_not (x : UInt32) : wr .u32 (4294967295 - N32 x) = N32 (~~~x) := by rw [not_int]; have := N32_bd (~~~x); simp only [wr]; omega
theorem rorI_N (x : UInt32) (c : Int) : rorI (N32 x) c = N32 (ror x c.toNat) := by
  unfold rorI
  have e : UInt32.ofNat (N32 x).toNat = x := by unfold N32; simp
  rw [e]
theorem srorI_N (x : UInt32) (c : Int) : srorI (N32 x) c = N32 (sror x c.toNat) := by
  unfold srorI
  have e : UInt32.ofNat (N32 x).toNat = x := by unfold N32; simp
  rw [e]
section
variable {A : Ar} {R S : Int → Int → Int} {nt : Nat} {K : AK} {env0 : T AV} {σ0 : AH} {LS LK LB : List Int}
set_option maxHeartbeats 2000000 in
theorem lp10 (hA : A = std) (hR : R = rorI) (hS : S = srorI) (m b : Nat) (P : List UInt8) (LP Hq : List Int) (b0 : Int) (hm : P.length = m) (hml : m ≤ 100000000100) (hLP : LP = bI P) (hbl : 64 * b + 64 ≤ m) (hb0 : b0 = ((64 * b : Nat) : Int))
    (hw : ∀ (k0 : Int) (t0 : Nat) (Wq : List Int) (_ : k0 = ((0 : Nat) : Int)) (_ : t0 = 0) (_ : Wq = wI (schT (blk P b) 0)), Wk 4 nt 7 env0 σ0 (ofL [(2, .ptr 7 0), (3, .sl 8 0 m m false 1), (8, .ptr 9 0), (10, .sl 5 0 64 64 false 1), (11, .int .i64 b0), (12, .sl 10 0 t0 t0 false 1), (13, .int .i64 k0)]) ⟨11, ofM (mem13 LS LK LB [(8, .ints .u8 LP 5 .more), (9, .ints .u32 Hq 87 .exact), (10, .ints .u32 Wq 62 .more)])⟩)
    (hK : ∀ ta tb (k0 : Int) (t0 : Nat) (Wq : List Int) (_ : k0 = ((64 : Nat) : Int)) (_ : t0 = 64) (_ : Wq = wI (schT (blk P b) 64)), K .normal (ofL [(81, ta), (82, tb), (2, .ptr 7 0), (3, .sl 8 0 m m false 1), (8, .ptr 9 0), (10, .sl 5 0 64 64 false 1), (11, .int .i64 b0), (12, .sl 10 0 t0 t0 false 1), (13, .int .i64 k0)]) ⟨11, ofM (mem13 LS LK LB [(8, .ints .u8 LP 5 .more), (9, .ints .u32 Hq 87 .exact), (10, .ints .u32 Wq 62 .more)])⟩) :
    avc A (Γ1 A R S) 4 nt 7 (.block 10 L10) K env0 σ0 := by
  unfold L10 B10
  refine avc_block (avc_loop
    (fun env σ => ∃ k : Nat, k ≤ 64 ∧ ∃ (k0 : Int) (t0 : Nat) (Wq : List Int), k0 = ((k : Nat) : Int) ∧ t0 = k ∧ Wq = wI (schT (blk P b) k) ∧ env = ofL [(2, .ptr 7 0), (3, .sl 8 0 m m false 1), (8, .ptr 9 0), (10, .sl 5 0 64 64 false 1), (11, .int .i64 b0), (12, .sl 10 0 t0 t0 false 1), (13, .int .i64 k0)] ∧ σ = ⟨11, ofM (mem13 LS LK LB [(8, .ints .u8 LP 5 .more), (9, .ints .u32 Hq 87 .exact), (10, .ints .u32 Wq 62 .more)])⟩)
    (fun env _ => match env.get 13 with | some (.int _ k) => 64 - k.toNat | _ => 0)
    (hw _ _ _ rfl rfl rfl) ⟨0, by omega, _, _, _, rfl, rfl, rfl, rfl, rfl⟩ ?_)
  rintro env σ ⟨k, hk, k0, t0, Wq, hk0, ht0, hWq, rfl, rfl⟩
  refine avc_seq_seq (avc_seq_reg (by cbv) rfl (avc_seq_cond (t := A.lt k0 64) (by cbv) (fun ht => ?_) (fun ht => ?_)))
  · have hlt : k < 64 := by subst hA; simp only [std, decide_eq_true_eq] at ht; omega
    have hWl : Wq.length = k := by rw [hWq, wI_length, schT_length _ _ (by omega)]
    have hPl : LP.length = m := by rw [hLP, bI_length, hm]
    refine avc_seq_skip (avc_seq_block (avc_seq_seq (avc_seq_reg (by cbv) rfl (avc_seq_cond (t := A.lt k0 16) (by cbv) (fun ht2 => ?_) (fun ht2 => ?_)))))
    · have hk16 : k < 16 := by subst hA; simp only [std, decide_eq_true_eq] at ht2; omega
      obtain ⟨i0, hi0⟩ : ∃ i0 : Int, i0 = ((64 * b + 4 * k : Nat) : Int) := ⟨_, rfl⟩
      have hi : A.wr .i64 (A.add b0 (A.wr .i64 (A.mul 4 k0))) = i0 := by subst hA; simp only [std, wr]; omega
      conv at hi => lhs; cbv
      refine avc_seq_seq (avc_seq_reg (by cbv) rfl ?_)
      simp only [hi]
      have wi1 : wr .i64 (i0 + 1) = i0 + 1 := by simp only [wr]; omega
      have wi2 : wr .i64 (i0 + 2) = i0 + 2 := by simp only [wr]; omega
      have wi3 : wr .i64 (i0 + 3) = i0 + 3 := by simp only [wr]; omega
      have ti0 : i0.toNat = 64 * b + 4 * k := by omega
      have ti1 : (i0 + 1).toNat = 64 * b + 4 * k + 1 := by omega
      have ti2 : (i0 + 2).toNat = 64 * b + 4 * k + 2 := by omega
      have ti3 : (i0 + 3).toNat = 64 * b + 4 * k + 3 := by omega
      refine avc_seq_seq (avc_seq_regd (by cbv) ?_ (avc_seq_exit ?_))
      · have qk : t0 = k := ht0
        have q1 : Nat.ble k k = true := by rw [Nat.ble_eq]; omega
        have q2 : Nat.ble (k + 1) 1000000000000 = true := by rw [Nat.ble_eq]; omega
        have z0 : Nat.blt (64 * b + 4 * k) m = true := by rw [Nat.blt_eq]; omega
        have z1 : Nat.blt (64 * b + 4 * k + 1) m = true := by rw [Nat.blt_eq]; omega
        have z2 : Nat.blt (64 * b + 4 * k + 2) m = true := by rw [Nat.blt_eq]; omega
        have z3 : Nat.blt (64 * b + 4 * k + 3) m = true := by rw [Nat.blt_eq]; omega
        have p0 : (0 : Int) ≤ i0 := by omega
        have p1 : (0 : Int) ≤ i0 + 1 := by omega
        have p2 : (0 : Int) ≤ i0 + 2 := by omega
        have p3 : (0 : Int) ≤ i0 + 3 := by omega
        subst hA
        simp [std, wi1, wi2, wi3, ti0, ti1, ti2, ti3, z0, z1, z2, z3, p0, p1, p2, p3, hPl, hWl, qk, q1, q2]
      show avc A (Γ1 A R S) 4 nt 7 _ _ _ _
      refine avc_reg (by cbv) rfl ?_
      obtain ⟨k1, hk1⟩ : ∃ k1 : Int, k1 = ((k + 1 : Nat) : Int) := ⟨_, rfl⟩
      obtain ⟨t1, ht1⟩ : ∃ t1 : Nat, t1 = k + 1 := ⟨_, rfl⟩
      obtain ⟨L1, hL1⟩ : ∃ L1, L1 = wI (schT (blk P b) (k + 1)) := ⟨_, rfl⟩
      refine ⟨_, _, Wk.lay (ren 10 12) (l := [(2, .ptr 7 0), (3, .sl 8 0 m m false 1), (8, .ptr 9 0), (10, .sl 5 0 64 64 false 1), (11, .int .i64 b0), (12, .sl 10 0 t1 t1 false 1), (13, .int .i64 k1)]) (L := mem13 LS LK LB [(8, .ints .u8 LP 5 .more), (9, .ints .u32 Hq 87 .exact), (10, .ints .u32 L1 62 .more)]) (n := 11) rfl rfl rfl (by cbv) (by cbv) ?_ ?_ (by cbv) (by cbv) (by cbv) ?_, ⟨k + 1, by omega, k1, t1, L1, hk1, ht1, hL1, rfl, rfl⟩, ?_⟩
      · refine had_cons (by cbv) rfl (had_cons (by cbv) rfl (had_cons (by cbv) rfl (had_cons (by cbv) rfl (had_cons (by cbv) rfl (had_cons (by cbv) rfl (had_cons (by cbv) rfl (had_cons (by cbv) rfl (had_cons (by cbv) rfl (had_cons (by cbv) rfl (had_cons ?_ rfl (had_nil)))))))))))
        conv => lhs; cbv
        subst hA
        have qk : t0 = k := ht0
        have g0 : LP.getD (64 * b + 4 * k) 0 = N8 (at8 (blk P b) (4 * k)) := by rw [hLP, bI_getD, at8_blk _ _ _ (by omega)]
        have g1 : LP.getD (64 * b + 4 * k + 1) 0 = N8 (at8 (blk P b) (4 * k + 1)) := by rw [hLP, bI_getD, at8_blk _ _ _ (by omega)]; rfl
        have g2 : LP.getD (64 * b + 4 * k + 2) 0 = N8 (at8 (blk P b) (4 * k + 2)) := by rw [hLP, bI_getD, at8_blk _ _ _ (by omega)]; rfl
        have g3 : LP.getD (64 * b + 4 * k + 3) 0 = N8 (at8 (blk P b) (4 * k + 3)) := by rw [hLP, bI_getD, at8_blk _ _ _ (by omega)]; rfl
        have hw4 := word_int (blk P b) k
        have bw := N32_bd (wordTo (blk P b) k 4)
        have bd0 := N8_bd (at8 (blk P b) (4 * k))
        have bd1 := N8_bd (at8 (blk P b) (4 * k + 1))
        have bd2 := N8_bd (at8 (blk P b) (4 * k + 2))
        have bd3 := N8_bd (at8 (blk P b) (4 * k + 3))
        simp only [std, wi1, wi2, wi3, ti0, ti1, ti2, ti3, Nat.zero_add, Nat.mul_one, g0, g1, g2, g3, qk]
        have e3 : List.take (k * 1) (List.drop 0 Wq) ++ List.take (1 * 1) (List.drop 0 [N32 (wordTo (blk P b) k 4)]) = L1 := by
          rw [hL1, schT_succ _ _ hlt, if_pos hk16, wI, List.map_append, ← wI, ← hWq]
          simp [← hWl]
        generalize N8 (at8 (blk P b) (4 * k)) = y0 at *
        generalize N8 (at8 (blk P b) (4 * k + 1)) = y1 at *
        generalize N8 (at8 (blk P b) (4 * k + 2)) = y2 at *
        generalize N8 (at8 (blk P b) (4 * k + 3)) = y3 at *
        have ev : wr .u32 (wr .u32 (wr .u32 (wr .u32 (wr .u32 y0 * 16777216) + wr .u32 (wr .u32 y1 * 65536)) + wr .u32 (wr .u32 y2 * 256)) + wr .u32 y3) = N32 (wordTo (blk P b) k 4) := by
          simp only [wr]; omega
        rw [ev]
        simp only [Nat.mul_one] at e3
        rw [e3]; rfl
      · exact low_lay (by cbv) (by cbv) (by cbv) (by cbv) (by cbv) (by cbv) (by cbv)
      · refine has_cons (by cbv) rfl (has_cons (by cbv) rfl (has_cons (by cbv) rfl (has_cons (by cbv) rfl (has_cons (by cbv) rfl (has_cons ?_ rfl (has_cons ?_ rfl (has_nil)))))))
        · conv => lhs; cbv
          subst hA
          have : t0 + 1 = t1 := by omega
          simp only [std, this]; rfl
        · conv => lhs; cbv
          subst hA
          simp only [std, wr]
          congr 2; omega
      · have g1 : (ofL [(2, .ptr 7 0), (3, .sl 8 0 m m false 1), (8, .ptr 9 0), (10, .sl 5 0 64 64 false 1), (11, .int .i64 b0), (12, .sl 10 0 t1 t1 false 1), (13, .int .i64 k1)]).get 13 = some (.int .i64 k1) := by cbv
        have g0 : (ofL [(2, .ptr 7 0), (3, .sl 8 0 m m false 1), (8, .ptr 9 0), (10, .sl 5 0 64 64 false 1), (11, .int .i64 b0), (12, .sl 10 0 t0 t0 false 1), (13, .int .i64 k0)]).get 13 = some (.int .i64 k0) := by cbv
        rw [g1, g0]
        show 64 - k1.toNat < 64 - k0.toNat
        omega
    · have hk16 : 16 ≤ k := by subst hA; simp only [std, decide_eq_false_iff_not] at ht2; omega
      have G : ∀ c, 1 ≤ c → c ≤ 16 → Wq.getD (k - c) 0 = N32 (at32 (schedTo (blk P b) k) (k - c)) := fun c h1 h2 => by rw [hWq, wI_getD, schT_at _ _ _ (by omega)]
      obtain ⟨x15, hx15⟩ : ∃ x, x = at32 (schedTo (blk P b) k) (k - 15) := ⟨_, rfl⟩
      obtain ⟨x2, hx2⟩ : ∃ x, x = at32 (schedTo (blk P b) k) (k - 2) := ⟨_, rfl⟩
      obtain ⟨x16, hx16⟩ : ∃ x, x = at32 (schedTo (blk P b) k) (k - 16) := ⟨_, rfl⟩
      obtain ⟨x7, hx7⟩ : ∃ x, x = at32 (schedTo (blk P b) k) (k - 7) := ⟨_, rfl⟩
      have G15 := G 15 (by omega) (by omega)
      have G2 := G 2 (by omega) (by omega)
      have G16 := G 16 (by omega) (by omega)
      have G7 := G 7 (by omega) (by omega)
      rw [← hx15] at G15
      rw [← hx2] at G2
      rw [← hx16] at G16
      rw [← hx7] at G7
      have bx15 := N32_bd x15
      have bx2 := N32_bd x2
      refine avc_seq_skip (avc_seq_reg (by cbv) ?_ (avc_seq_reg (by cbv) ?_ (avc_regd (by cbv) ?_ ?_)))
      · have qk : t0 = k := ht0
        have q1 : Nat.ble k k = true := by rw [Nat.ble_eq]; omega
        have q2 : Nat.ble (k + 1) 1000000000000 = true := by rw [Nat.ble_eq]; omega
        have i15 : wr .i64 (k0 - 15) = k0 - 15 := by simp only [wr]; omega
        have j15 : (k0 - 15).toNat = k - 15 := by omega
        have p15 : (0 : Int) ≤ k0 - 15 := by omega
        have b15 : Nat.blt (k - 15) k = true := by rw [Nat.blt_eq]; omega
        have r15 : (15 : Int) ≤ k0 := by omega
        subst hA
        simp [std, hWl, qk, i15, j15, b15, r15]
      · have qk : t0 = k := ht0
        have q1 : Nat.ble k k = true := by rw [Nat.ble_eq]; omega
        have q2 : Nat.ble (k + 1) 1000000000000 = true := by rw [Nat.ble_eq]; omega
        have i2 : wr .i64 (k0 - 2) = k0 - 2 := by simp only [wr]; omega
        have j2 : (k0 - 2).toNat = k - 2 := by omega
        have p2 : (0 : Int) ≤ k0 - 2 := by omega
        have b2 : Nat.blt (k - 2) k = true := by rw [Nat.blt_eq]; omega
        have r2 : (2 : Int) ≤ k0 := by omega
        subst hA
        simp [std, hWl, qk, i2, j2, b2, r2]
      · have qk : t0 = k := ht0
        have q1 : Nat.ble k k = true := by rw [Nat.ble_eq]; omega
        have q2 : Nat.ble (k + 1) 1000000000000 = true := by rw [Nat.ble_eq]; omega
        have i2 : wr .i64 (k0 - 2) = k0 - 2 := by simp only [wr]; omega
        have j2 : (k0 - 2).toNat = k - 2 := by omega
        have p2 : (0 : Int) ≤ k0 - 2 := by omega
        have b2 : Nat.blt (k - 2) k = true := by rw [Nat.blt_eq]; omega
        have r2 : (2 : Int) ≤ k0 := by omega
        have i7 : wr .i64 (k0 - 7) = k0 - 7 := by simp only [wr]; omega
        have j7 : (k0 - 7).toNat = k - 7 := by omega
        have p7 : (0 : Int) ≤ k0 - 7 := by omega
        have b7 : Nat.blt (k - 7) k = true := by rw [Nat.blt_eq]; omega
        have r7 : (7 : Int) ≤ k0 := by omega
        have i15 : wr .i64 (k0 - 15) = k0 - 15 := by simp only [wr]; omega
        have j15 : (k0 - 15).toNat = k - 15 := by omega
        have p15 : (0 : Int) ≤ k0 - 15 := by omega
        have b15 : Nat.blt (k - 15) k = true := by rw [Nat.blt_eq]; omega
        have r15 : (15 : Int) ≤ k0 := by omega
        have i16 : wr .i64 (k0 - 16) = k0 - 16 := by simp only [wr]; omega
        have j16 : (k0 - 16).toNat = k - 16 := by omega
        have p16 : (0 : Int) ≤ k0 - 16 := by omega
        have b16 : Nat.blt (k - 16) k = true := by rw [Nat.blt_eq]; omega
        have r16 : (16 : Int) ≤ k0 := by omega
        have c15 : 0 ≤ N32 x15 := by omega
        have d15 : N32 x15 ≤ 4294967295 := by omega
        have c2 : 0 ≤ N32 x2 := by omega
        have d2 : N32 x2 ≤ 4294967295 := by omega
        subst hA
        simp only [std, i15, j15, i2, j2, Nat.zero_add, Nat.mul_one, G15, G2, i16, j16, i7, j7, hWl, qk]
        simp [b7, r7, b16, r16, c15, d15, c2, d2, q1, q2]
      show avc A (Γ1 A R S) 4 nt 7 _ _ _ _
      refine avc_reg (by cbv) rfl ?_
      obtain ⟨k1, hk1⟩ : ∃ k1 : Int, k1 = ((k + 1 : Nat) : Int) := ⟨_, rfl⟩
      obtain ⟨t1, ht1⟩ : ∃ t1 : Nat, t1 = k + 1 := ⟨_, rfl⟩
      obtain ⟨L1, hL1⟩ : ∃ L1, L1 = wI (schT (blk P b) (k + 1)) := ⟨_, rfl⟩
      refine ⟨_, _, Wk.lay (ren 10 12) (l := [(2, .ptr 7 0), (3, .sl 8 0 m m false 1), (8, .ptr 9 0), (10, .sl 5 0 64 64 false 1), (11, .int .i64 b0), (12, .sl 10 0 t1 t1 false 1), (13, .int .i64 k1)]) (L := mem13 LS LK LB [(8, .ints .u8 LP 5 .more), (9, .ints .u32 Hq 87 .exact), (10, .ints .u32 L1 62 .more)]) (n := 11) rfl rfl rfl (by cbv) (by cbv) ?_ ?_ (by cbv) (by cbv) (by cbv) ?_, ⟨k + 1, by omega, k1, t1, L1, hk1, ht1, hL1, rfl, rfl⟩, ?_⟩
      · refine had_cons (by cbv) rfl (had_cons (by cbv) rfl (had_cons (by cbv) rfl (had_cons (by cbv) rfl (had_cons (by cbv) rfl (had_cons (by cbv) rfl (had_cons (by cbv) rfl (had_cons (by cbv) rfl (had_cons (by cbv) rfl (had_cons (by cbv) rfl (had_cons ?_ rfl (had_nil)))))))))))
        conv => lhs; cbv
        subst hA
        have qk : t0 = k := ht0
        have i2 : wr .i64 (k0 - 2) = k0 - 2 := by simp only [wr]; omega
        have j2 : (k0 - 2).toNat = k - 2 := by omega
        have p2 : (0 : Int) ≤ k0 - 2 := by omega
        have b2 : Nat.blt (k - 2) k = true := by rw [Nat.blt_eq]; omega
        have r2 : (2 : Int) ≤ k0 := by omega
        have i7 : wr .i64 (k0 - 7) = k0 - 7 := by simp only [wr]; omega
        have j7 : (k0 - 7).toNat = k - 7 := by omega
        have p7 : (0 : Int) ≤ k0 - 7 := by omega
        have b7 : Nat.blt (k - 7) k = true := by rw [Nat.blt_eq]; omega
        have r7 : (7 : Int) ≤ k0 := by omega
        have i15 : wr .i64 (k0 - 15) = k0 - 15 := by simp only [wr]; omega
        have j15 : (k0 - 15).toNat = k - 15 := by omega
        have p15 : (0 : Int) ≤ k0 - 15 := by omega
        have b15 : Nat.blt (k - 15) k = true := by rw [Nat.blt_eq]; omega
        have r15 : (15 : Int) ≤ k0 := by omega
        have i16 : wr .i64 (k0 - 16) = k0 - 16 := by simp only [wr]; omega
        have j16 : (k0 - 16).toNat = k - 16 := by omega
        have p16 : (0 : Int) ≤ k0 - 16 := by omega
        have b16 : Nat.blt (k - 16) k = true := by rw [Nat.blt_eq]; omega
        have r16 : (16 : Int) ≤ k0 := by omega
        simp only [std, i15, j15, i2, j2, i16, j16, i7, j7, Nat.zero_add, Nat.mul_one, G15, G2, G16, G7, qk, w_add]
        subst hR; subst hS
        simp only [rorI_N, srorI_N, std_xor, w_add]
        have e3 : List.take (k * 1) (List.drop 0 Wq) ++ List.take (1 * 1) (List.drop 0 [N32 (nextW (schedTo (blk P b) k) k)]) = L1 := by
          rw [hL1, schT_succ _ _ hlt, if_neg (by omega : ¬ k < 16), wI, List.map_append, ← wI, ← hWq]
          simp [← hWl]
        rw [nextW, ← hx15, ← hx2, ← hx16, ← hx7] at e3
        simp only [Nat.mul_one] at e3
        exact congrArg (fun l => some (AObj.ints .u32 l 62 .more)) e3
      · exact low_lay (by cbv) (by cbv) (by cbv) (by cbv) (by cbv) (by cbv) (by cbv)
      · refine has_cons (by cbv) rfl (has_cons (by cbv) rfl (has_cons (by cbv) rfl (has_cons (by cbv) rfl (has_cons (by cbv) rfl (has_cons ?_ rfl (has_cons ?_ rfl (has_nil)))))))
        · conv => lhs; cbv
          subst hA
          have : t0 + 1 = t1 := by omega
          simp only [std, this]; rfl
        · conv => lhs; cbv
          subst hA
          simp only [std, wr]
          congr 2; omega
      · have g1 : (ofL [(2, .ptr 7 0), (3, .sl 8 0 m m false 1), (8, .ptr 9 0), (10, .sl 5 0 64 64 false 1), (11, .int .i64 b0), (12, .sl 10 0 t1 t1 false 1), (13, .int .i64 k1)]).get 13 = some (.int .i64 k1) := by cbv
        have g0 : (ofL [(2, .ptr 7 0), (3, .sl 8 0 m m false 1), (8, .ptr 9 0), (10, .sl 5 0 64 64 false 1), (11, .int .i64 b0), (12, .sl 10 0 t0 t0 false 1), (13, .int .i64 k0)]).get 13 = some (.int .i64 k0) := by cbv
        rw [g1, g0]
        show 64 - k1.toNat < 64 - k0.toNat
        omega
  · refine avc_seq_exit ?_
    have e : k = 64 := by subst hA; simp only [std, decide_eq_false_iff_not] at ht; omega
    subst e
    have hh := hK (.int .i64 k0) (.bool (A.lt k0 64)) k0 t0 Wq hk0 ht0 hWq
    show K .normal _ _
    refine Eq.mp (congr (congrArg (K .normal) ?_) ?_) hh
    · cbv
    · cbv
end
end Go.Proofs.YtjkicmlelilcaaaDoor
namespace Go.Proofs.YtjkicmlelilcaaaDoor
open Go
theorem eight (l : List UInt32) (h : l.length = 8) : wI l = [N32 (at32 l 0), N32 (at32 l 1), N32 (at32 l 2), N32 (at32 l 3), N32 (at32 l 4), N32 (at32 l 5), N32 (at32 l 6), N32 (at32 l 7)] := by
  match l, h with
  | [a, b, c, d, e, f, g, x], _ => rfl
section
variable {A : Ar} {R S : Int → Int → Int} {nt : Nat} {K : AK} {env0 : T AV} {σ0 : AH} {LS LK LB : List Int}
set_option maxHeartbeats 2000000 in
theorem lp14 (hA : A = std) (hR : R = rorI) (_hS : S = srorI) (m : Nat) (b0 : Int) (LP Hq Wq : List Int) (s Ws : List UInt32) (hs : s.length = 8) (hWs : Ws.length = 64) (hWq : Wq = wI Ws) (hLK : LK = wI KK)
    (hw : ∀ (k0 : Int) (Vq : List Int) (_ : k0 = ((0 : Nat) : Int)) (_ : Vq = wI (rndTo s Ws 0)), Wk 4 nt 7 env0 σ0 (ofL [(2, .ptr 7 0), (3, .sl 8 0 m m false 1), (8, .ptr 9 0), (10, .sl 5 0 64 64 false 1), (11, .int .i64 b0), (12, .sl 10 0 64 64 false 1), (17, .ptr 11 0), (19, .int .i64 k0)]) ⟨12, ofM (mem13 LS LK LB [(8, .ints .u8 LP 5 .more), (9, .ints .u32 Hq 87 .exact), (10, .ints .u32 Wq 62 .more), (11, .ints .u32 Vq 87 .exact)])⟩)
    (hK : ∀ ta tb (k0 : Int) (Vq : List Int) (_ : k0 = ((64 : Nat) : Int)) (_ : Vq = wI (rndTo s Ws 64)), K .normal (ofL [(174, ta), (175, tb), (2, .ptr 7 0), (3, .sl 8 0 m m false 1), (8, .ptr 9 0), (10, .sl 5 0 64 64 false 1), (11, .int .i64 b0), (12, .sl 10 0 64 64 false 1), (17, .ptr 11 0), (19, .int .i64 k0)]) ⟨12, ofM (mem13 LS LK LB [(8, .ints .u8 LP 5 .more), (9, .ints .u32 Hq 87 .exact), (10, .ints .u32 Wq 62 .more), (11, .ints .u32 Vq 87 .exact)])⟩) :
    avc A (Γ1 A R S) 4 nt 7 (.block 14 L14) K env0 σ0 := by
  unfold L14 B14
  refine avc_block (avc_loop
    (fun env σ => ∃ k : Nat, k ≤ 64 ∧ ∃ (k0 : Int) (Vq : List Int), k0 = ((k : Nat) : Int) ∧ Vq = wI (rndTo s Ws k) ∧ env = ofL [(2, .ptr 7 0), (3, .sl 8 0 m m false 1), (8, .ptr 9 0), (10, .sl 5 0 64 64 false 1), (11, .int .i64 b0), (12, .sl 10 0 64 64 false 1), (17, .ptr 11 0), (19, .int .i64 k0)] ∧ σ = ⟨12, ofM (mem13 LS LK LB [(8, .ints .u8 LP 5 .more), (9, .ints .u32 Hq 87 .exact), (10, .ints .u32 Wq 62 .more), (11, .ints .u32 Vq 87 .exact)])⟩)
    (fun env _ => match env.get 19 with | some (.int _ k) => 64 - k.toNat | _ => 0)
    (hw _ _ rfl rfl) ⟨0, by omega, _, _, rfl, rfl, rfl, rfl⟩ ?_)
  rintro env σ ⟨k, hk, k0, Vq, hk0, hVq, rfl, rfl⟩
  refine avc_seq_seq (avc_seq_reg (by cbv) rfl (avc_seq_cond (t := A.lt k0 64) (by cbv) (fun ht => ?_) (fun ht => ?_)))
  · have hlt : k < 64 := by subst hA; simp only [std, decide_eq_true_eq] at ht; omega
    obtain ⟨x, hx⟩ : ∃ x, x = rndTo s Ws k := ⟨_, rfl⟩
    have hxl : x.length = 8 := by rw [hx]; exact rndTo_length _ _ _ hs
    rw [← hx, eight x hxl] at hVq
    obtain ⟨y0, hy0⟩ : ∃ y, y = N32 (at32 x 0) := ⟨_, rfl⟩
    have lo0 : 0 ≤ y0 := by have := N32_bd (at32 x 0); omega
    have hi0 : y0 ≤ 4294967295 := by have := N32_bd (at32 x 0); omega
    obtain ⟨y1, hy1⟩ : ∃ y, y = N32 (at32 x 1) := ⟨_, rfl⟩
    have lo1 : 0 ≤ y1 := by have := N32_bd (at32 x 1); omega
    have hi1 : y1 ≤ 4294967295 := by have := N32_bd (at32 x 1); omega
    obtain ⟨y2, hy2⟩ : ∃ y, y = N32 (at32 x 2) := ⟨_, rfl⟩
    have lo2 : 0 ≤ y2 := by have := N32_bd (at32 x 2); omega
    have hi2 : y2 ≤ 4294967295 := by have := N32_bd (at32 x 2); omega
    obtain ⟨y3, hy3⟩ : ∃ y, y = N32 (at32 x 3) := ⟨_, rfl⟩
    have lo3 : 0 ≤ y3 := by have := N32_bd (at32 x 3); omega
    have hi3 : y3 ≤ 4294967295 := by have := N32_bd (at32 x 3); omega
    obtain ⟨y4, hy4⟩ : ∃ y, y = N32 (at32 x 4) := ⟨_, rfl⟩
    have lo4 : 0 ≤ y4 := by have := N32_bd (at32 x 4); omega
    have hi4 : y4 ≤ 4294967295 := by have := N32_bd (at32 x 4); omega
    obtain ⟨y5, hy5⟩ : ∃ y, y = N32 (at32 x 5) := ⟨_, rfl⟩
    have lo5 : 0 ≤ y5 := by have := N32_bd (at32 x 5); omega
    have hi5 : y5 ≤ 4294967295 := by have := N32_bd (at32 x 5); omega
    obtain ⟨y6, hy6⟩ : ∃ y, y = N32 (at32 x 6) := ⟨_, rfl⟩
    have lo6 : 0 ≤ y6 := by have := N32_bd (at32 x 6); omega
    have hi6 : y6 ≤ 4294967295 := by have := N32_bd (at32 x 6); omega
    obtain ⟨y7, hy7⟩ : ∃ y, y = N32 (at32 x 7) := ⟨_, rfl⟩
    have lo7 : 0 ≤ y7 := by have := N32_bd (at32 x 7); omega
    have hi7 : y7 ≤ 4294967295 := by have := N32_bd (at32 x 7); omega
    rw [← hy0, ← hy1, ← hy2, ← hy3, ← hy4, ← hy5, ← hy6, ← hy7] at hVq
    subst hVq
    have hWl : Wq.length = 64 := by rw [hWq, wI_length, hWs]
    have hKl : LK.length = 64 := by rw [hLK, wI_length]; rfl
    have q0 : k0.toNat = k := by omega
    have q1 : Nat.blt k 64 = true := by rw [Nat.blt_eq]; omega
    have q2 : (0 : Int) ≤ k0 := by omega
    have gK : LK.getD k 0 = N32 (at32 KK k) := by rw [hLK, wI_getD]
    have gW : Wq.getD k 0 = N32 (at32 Ws k) := by rw [hWq, wI_getD]
    refine avc_seq_skip (avc_seq_block ?_)
    refine avc_seq_reg (by cbv) ?_ (avc_seq_reg (by cbv) ?_ (avc_seq_regd (by cbv) ?_ ?_))
    · subst hA
      simp [std] <;> rfl
    · subst hA
      simp [std] <;> rfl
    · subst hA
      simp [std, hWl, hKl, q0, q1, q2, lo4, hi4] <;> rfl
    refine avc_seq_regd (by cbv) ?_ ?_
    · subst hA
      simp [std, lo0, hi0] <;> rfl
    refine avc_seq_reg (by cbv) ?_ (avc_seq_reg (by cbv) ?_ (avc_seq_reg (by cbv) ?_ (avc_seq_reg (by cbv) ?_ ?_)))
    · subst hA
      simp [std] <;> rfl
    · subst hA
      simp [std] <;> rfl
    · subst hA
      simp [std] <;> rfl
    · subst hA
      simp [std] <;> rfl
    refine avc_seq_reg (by cbv) ?_ (avc_seq_reg (by cbv) ?_ (avc_seq_reg (by cbv) ?_ (avc_reg (by cbv) ?_ ?_)))
    · subst hA
      simp [std] <;> rfl
    · subst hA
      simp [std] <;> rfl
    · subst hA
      simp [std] <;> rfl
    · subst hA
      simp [std] <;> rfl
    show avc A (Γ1 A R S) 4 nt 7 _ _ _ _
    refine avc_reg (by cbv) rfl ?_
    obtain ⟨k1, hk1⟩ : ∃ k1 : Int, k1 = ((k + 1 : Nat) : Int) := ⟨_, rfl⟩
    obtain ⟨L1, hL1⟩ : ∃ L1, L1 = wI (rndTo s Ws (k + 1)) := ⟨_, rfl⟩
    refine ⟨_, _, Wk.lay (ren 0 0) (l := [(2, .ptr 7 0), (3, .sl 8 0 m m false 1), (8, .ptr 9 0), (10, .sl 5 0 64 64 false 1), (11, .int .i64 b0), (12, .sl 10 0 64 64 false 1), (17, .ptr 11 0), (19, .int .i64 k1)]) (L := mem13 LS LK LB [(8, .ints .u8 LP 5 .more), (9, .ints .u32 Hq 87 .exact), (10, .ints .u32 Wq 62 .more), (11, .ints .u32 L1 87 .exact)]) (n := 12) rfl rfl rfl (by cbv) (by cbv) ?_ ?_ (by cbv) (by cbv) (by cbv) ?_, ⟨k + 1, by omega, k1, L1, hk1, hL1, rfl, rfl⟩, ?_⟩
    · refine had_cons (by cbv) rfl (had_cons (by cbv) rfl (had_cons (by cbv) rfl (had_cons (by cbv) rfl (had_cons (by cbv) rfl (had_cons (by cbv) rfl (had_cons (by cbv) rfl (had_cons (by cbv) rfl (had_cons (by cbv) rfl (had_cons (by cbv) rfl (had_cons (by cbv) rfl (had_cons ?_ rfl (had_nil))))))))))))
      conv => lhs; cbv
      subst hA; subst hR; subst _hS
      have e3 : L1 = [N32 (oneW x (at32 KK k) (at32 Ws k) + twoW x), y0, y1, y2, N32 (at32 x 3 + oneW x (at32 KK k) (at32 Ws k)), y4, y5, y6] := by
        rw [hL1, rndTo, ← hx, hy0, hy1, hy2, hy4, hy5, hy6]; rfl
      rw [e3, oneW, twoW, turnW, turnW]
      simp only [std, q0, Nat.zero_add, Nat.mul_one, gK, gW]
      simp only [Int.reduceToNat, List.set_cons_succ, List.set_cons_zero, List.getD_cons_succ, List.getD_cons_zero]
      simp only [hy0, hy1, hy2, hy3, hy4, hy5, hy6, hy7, rorI_N, std_xor, std_and, w_add, w_not]
      rfl
    · exact low_lay (by cbv) (by cbv) (by cbv) (by cbv) (by cbv) (by cbv) (by cbv)
    · refine has_cons (by cbv) rfl (has_cons (by cbv) rfl (has_cons (by cbv) rfl (has_cons (by cbv) rfl (has_cons (by cbv) rfl (has_cons (by cbv) rfl (has_cons (by cbv) rfl (has_cons ?_ rfl (has_nil))))))))
      conv => lhs; cbv
      subst hA
      simp only [std, wr]
      congr 2; omega
    · have g1 : (ofL [(2, .ptr 7 0), (3, .sl 8 0 m m false 1), (8, .ptr 9 0), (10, .sl 5 0 64 64 false 1), (11, .int .i64 b0), (12, .sl 10 0 64 64 false 1), (17, .ptr 11 0), (19, .int .i64 k1)]).get 19 = some (.int .i64 k1) := by cbv
      have g0 : (ofL [(2, .ptr 7 0), (3, .sl 8 0 m m false 1), (8, .ptr 9 0), (10, .sl 5 0 64 64 false 1), (11, .int .i64 b0), (12, .sl 10 0 64 64 false 1), (17, .ptr 11 0), (19, .int .i64 k0)]).get 19 = some (.int .i64 k0) := by cbv
      rw [g1, g0]
      show 64 - k1.toNat < 64 - k0.toNat
      omega
  · refine avc_seq_exit ?_
    have e : k = 64 := by subst hA; simp only [std, decide_eq_false_iff_not] at ht; omega
    subst e
    have hh := hK (.int .i64 k0) (.bool (A.lt k0 64)) k0 Vq hk0 hVq
    show K .normal _ _
    refine Eq.mp (congr (congrArg (K .normal) ?_) ?_) hh
    · cbv
    · cbv
end
end Go.Proofs.YtjkicmlelilcaaaDoor
namespace Go.Proofs.YtjkicmlelilcaaaDoor
open Go
section
variable {A : Ar} {R S : Int → Int → Int} {nt : Nat} {K : AK} {env0 : T AV} {σ0 : AH} {LS LK LB : List Int}
set_option maxHeartbeats 2000000 in
theorem lp8 (hA : A = std) (hR : R = rorI) (hS : S = srorI) (bs : List UInt8) (hb : bs.length ≤ 100000000000) (m : Nat) (hm : m = 64 * blocks bs) (LP : List Int) (hLP : LP = bI (padTo bs 8)) (hLK : LK = wI KK)
    (hw : ∀ (b0 : Int) (Hq : List Int) (_ : b0 = (((64 * 0 : Nat) : Nat) : Int)) (_ : Hq = wI (stTo bs 0)), Wk 4 nt 7 env0 σ0 (ofL [(2, .ptr 7 0), (3, .sl 8 0 m m false 1), (8, .ptr 9 0), (10, .sl 5 0 64 64 false 1), (11, .int .i64 b0)]) ⟨10, ofM (mem13 LS LK LB [(8, .ints .u8 LP 5 .more), (9, .ints .u32 Hq 87 .exact)])⟩)
    (hK : ∀ ta tb tc td (b0 : Int) (Hq : List Int) (_ : Hq = wI (stTo bs (blocks bs))), K .normal (ofL [(75, ta), (76, tb), (77, tc), (78, td), (2, .ptr 7 0), (3, .sl 8 0 m m false 1), (8, .ptr 9 0), (10, .sl 5 0 64 64 false 1), (11, .int .i64 b0)]) ⟨10, ofM (mem13 LS LK LB [(8, .ints .u8 LP 5 .more), (9, .ints .u32 Hq 87 .exact)])⟩) :
    avc A (Γ1 A R S) 4 nt 7 (.block 8 L8) K env0 σ0 := by
  unfold L8 B8
  have hml := blocks_le bs
  have hPl : (padTo bs 8).length = m := by rw [hm]; exact pad_length bs
  refine avc_block (avc_loop
    (fun env σ => ∃ b : Nat, b ≤ blocks bs ∧ ∃ b0 Hq, b0 = ((64 * b : Nat) : Int) ∧ Hq = wI (stTo bs b) ∧ env = ofL [(2, .ptr 7 0), (3, .sl 8 0 m m false 1), (8, .ptr 9 0), (10, .sl 5 0 64 64 false 1), (11, .int .i64 b0)] ∧ σ = ⟨10, ofM (mem13 LS LK LB [(8, .ints .u8 LP 5 .more), (9, .ints .u32 Hq 87 .exact)])⟩)
    (fun env _ => match env.get 11 with | some (.int _ k) => m - k.toNat | _ => 0)
    (hw _ _ rfl rfl) ⟨0, by omega, _, _, rfl, rfl, rfl, rfl⟩ ?_)
  rintro env σ ⟨b, hbk, b0, Hq, hb0, hHq, rfl, rfl⟩
  have hsl := stTo_length bs b
  refine avc_seq_seq (avc_seq_reg (by cbv) rfl (avc_seq_cond (t := A.lt b0 (m : Int)) (by cbv) (fun ht => ?_) (fun ht => ?_)))
  · have hlt : b < blocks bs := by subst hA; simp only [std, decide_eq_true_eq] at ht; omega
    refine avc_seq_skip (avc_seq_block (avc_seq_reg (by cbv) rfl (avc_seq_seq (avc_seq_reg (by cbv) rfl (avc_seq (lp10 (LS := LS) (LK := LK) (LB := LB) hA hR hS m b (padTo bs 8) LP Hq b0 hPl (by omega) hLP (by omega) hb0 ?_ ?_))))))
    · intro k0 t0 Wq hk0 ht0 hWq
      have e : Wq = [] := by rw [hWq]; rfl
      subst hk0 ht0 e
      exact Wk.trans (Wk.nil 12 1 (.ints .u32 [] 62 .more) (by cbv) rfl rfl rfl) (Wk.lay (ren 0 0) rfl rfl rfl (by cbv) (by cbv) (had_cons (by cbv) rfl (had_cons (by cbv) rfl (had_cons (by cbv) rfl (had_cons (by cbv) rfl (had_cons (by cbv) rfl (had_cons (by cbv) rfl (had_cons (by cbv) rfl (had_cons (by cbv) rfl (had_cons (by cbv) rfl (had_cons (by cbv) rfl (had_cons (by cbv) rfl (had_nil)))))))))))) (low_lay (by cbv) (by cbv) (by cbv) (by cbv) (by cbv) (by cbv) (by cbv)) (by cbv) (by cbv) (by cbv) (has_cons (by cbv) rfl (has_cons (by cbv) rfl (has_cons (by cbv) rfl (has_cons (by cbv) rfl (has_cons (by cbv) rfl (has_cons (by cbv) rfl (has_cons (by cbv) rfl (has_nil)))))))))
    · intro ta tb k0 t0 Wq hk0 ht0 hWq
      rw [schT_all] at hWq
      subst ht0
      show avc A (Γ1 A R S) 4 nt 7 _ _ _ _
      refine avc_seq_reg (by cbv) rfl (avc_seq_seq (avc_seq_reg (by cbv) rfl (avc_seq (lp12 (LS := LS) (LK := LK) (LB := LB) hA m b0 LP Hq Wq (stTo bs b) hsl hHq ?_ ?_))))
      · intro k0 Vq hk0 hVq
        have e : Vq = [0, 0, 0, 0, 0, 0, 0, 0] := by rw [hVq]; rfl
        subst hk0 e
        exact Wk.lay (ren 0 0) rfl rfl rfl (by cbv) (by cbv) (had_cons (by cbv) rfl (had_cons (by cbv) rfl (had_cons (by cbv) rfl (had_cons (by cbv) rfl (had_cons (by cbv) rfl (had_cons (by cbv) rfl (had_cons (by cbv) rfl (had_cons (by cbv) rfl (had_cons (by cbv) rfl (had_cons (by cbv) rfl (had_cons (by cbv) rfl (had_cons (by cbv) rfl (had_nil))))))))))))) (low_lay (by cbv) (by cbv) (by cbv) (by cbv) (by cbv) (by cbv) (by cbv)) (by cbv) (by cbv) (by cbv) (has_cons (by cbv) rfl (has_cons (by cbv) rfl (has_cons (by cbv) rfl (has_cons (by cbv) rfl (has_cons (by cbv) rfl (has_cons (by cbv) rfl (has_cons (by cbv) rfl (has_cons (by cbv) rfl (has_nil)))))))))
      · intro ta tb k0 Vq hk0 hVq
        rw [cpTo_all _ hsl] at hVq
        show avc A (Γ1 A R S) 4 nt 7 _ _ _ _
        refine avc_seq_seq (avc_seq_reg (by cbv) rfl (avc_seq (lp14 (LS := LS) (LK := LK) (LB := LB) hA hR hS m b0 LP Hq Wq (stTo bs b) (schedTo (blk (padTo bs 8) b) 64) hsl (schedTo_length _ _) hWq hLK ?_ ?_)))
        · intro k0 Vq' hk0 hVq'
          have e : Vq' = Vq := by rw [hVq', hVq]; rfl
          subst hk0 e
          exact Wk.lay (ren 0 0) rfl rfl rfl (by cbv) (by cbv) (had_cons (by cbv) rfl (had_cons (by cbv) rfl (had_cons (by cbv) rfl (had_cons (by cbv) rfl (had_cons (by cbv) rfl (had_cons (by cbv) rfl (had_cons (by cbv) rfl (had_cons (by cbv) rfl (had_cons (by cbv) rfl (had_cons (by cbv) rfl (had_cons (by cbv) rfl (had_cons (by cbv) rfl (had_nil))))))))))))) (low_lay (by cbv) (by cbv) (by cbv) (by cbv) (by cbv) (by cbv) (by cbv)) (by cbv) (by cbv) (by cbv) (has_cons (by cbv) rfl (has_cons (by cbv) rfl (has_cons (by cbv) rfl (has_cons (by cbv) rfl (has_cons (by cbv) rfl (has_cons (by cbv) rfl (has_cons (by cbv) rfl (has_cons (by cbv) rfl (has_nil)))))))))
        · intro ta tb k0 Vq hk0 hVq
          show avc A (Γ1 A R S) 4 nt 7 _ _ _ _
          refine avc_seq_reg (by cbv) rfl (lp16 (LS := LS) (LK := LK) (LB := LB) hA m b0 LP Vq Wq (stTo bs b) _ hsl (rndTo_length _ _ _ hsl) hVq ?_ ?_)
          · intro k0 Hq' hk0 hHq'
            have e : Hq' = Hq := by rw [hHq', hHq]; rfl
            subst hk0 e
            exact Wk.lay (ren 0 0) rfl rfl rfl (by cbv) (by cbv) (had_cons (by cbv) rfl (had_cons (by cbv) rfl (had_cons (by cbv) rfl (had_cons (by cbv) rfl (had_cons (by cbv) rfl (had_cons (by cbv) rfl (had_cons (by cbv) rfl (had_cons (by cbv) rfl (had_cons (by cbv) rfl (had_cons (by cbv) rfl (had_cons (by cbv) rfl (had_cons (by cbv) rfl (had_nil))))))))))))) (low_lay (by cbv) (by cbv) (by cbv) (by cbv) (by cbv) (by cbv) (by cbv)) (by cbv) (by cbv) (by cbv) (has_cons (by cbv) rfl (has_cons (by cbv) rfl (has_cons (by cbv) rfl (has_cons (by cbv) rfl (has_cons (by cbv) rfl (has_cons (by cbv) rfl (has_cons (by cbv) rfl (has_nil))))))))
          · intro ta tb k0 H1 hk0 hH1
            show avc A (Γ1 A R S) 4 nt 7 _ _ _ _
            refine avc_reg (by cbv) rfl ?_
            obtain ⟨b1, hb1⟩ : ∃ b1 : Int, b1 = ((64 * (b + 1) : Nat) : Int) := ⟨_, rfl⟩
            refine ⟨_, _, Wk.lay (ren 0 0) (l := [(2, .ptr 7 0), (3, .sl 8 0 m m false 1), (8, .ptr 9 0), (10, .sl 5 0 64 64 false 1), (11, .int .i64 b1)]) rfl rfl rfl (by cbv) (by cbv) (had_cons (by cbv) rfl (had_cons (by cbv) rfl (had_cons (by cbv) rfl (had_cons (by cbv) rfl (had_cons (by cbv) rfl (had_cons (by cbv) rfl (had_cons (by cbv) rfl (had_cons (by cbv) rfl (had_cons (by cbv) rfl (had_cons (by cbv) rfl (had_nil))))))))))) (low_lay (by cbv) (by cbv) (by cbv) (by cbv) (by cbv) (by cbv) (by cbv)) (by cbv) (by cbv) (by cbv) ?_, ⟨b + 1, by omega, b1, H1, hb1, hH1, rfl, rfl⟩, ?_⟩
            · refine has_cons (by cbv) rfl (has_cons (by cbv) rfl (has_cons (by cbv) rfl (has_cons (by cbv) rfl (has_cons ?_ rfl (has_nil)))))
              conv => lhs; cbv
              subst hA
              simp only [std, wr]
              congr 2; omega
            · have g1 : (ofL [(2, .ptr 7 0), (3, .sl 8 0 m m false 1), (8, .ptr 9 0), (10, .sl 5 0 64 64 false 1), (11, .int .i64 b1)]).get 11 = some (.int .i64 b1) := by cbv
              have g0 : (ofL [(2, .ptr 7 0), (3, .sl 8 0 m m false 1), (8, .ptr 9 0), (10, .sl 5 0 64 64 false 1), (11, .int .i64 b0)]).get 11 = some (.int .i64 b0) := by cbv
              rw [g1, g0]
              show m - b1.toNat < m - b0.toNat
              omega
  · refine avc_seq_exit ?_
    have e : b = blocks bs := by subst hA; simp only [std, decide_eq_false_iff_not] at ht; omega
    subst e
    have hh := hK (.int .i64 b0) (.sl 8 0 m m false 1) (.int .i64 m) (.bool (A.lt b0 (m : Int))) b0 Hq hHq
    show K .normal _ _
    refine Eq.mp (congr (congrArg (K .normal) ?_) ?_) hh
    · cbv
    · cbv
end
end Go.Proofs.YtjkicmlelilcaaaDoor
namespace Go.Proofs.YtjkicmlelilcaaaDoor
open Go
def mem0 (S K B : List Int) : List (Nat × AObj) := [(0, .cells [] 62 .ro), (1, .cells [.sl 4 0 8 8 false 1] 62 .ro), (2, .cells [.sl 5 0 64 64 false 1] 62 .ro), (3, .cells [] 62 .ro), (4, .ints .u32 S 62 .ro), (5, .ints .u32 K 62 .ro), (6, .ints .u8 B 5 .ro)]
set_option maxHeartbeats 2000000 in
theorem rsha_avc (bs : List UInt8) (hb : bs.length ≤ 100000000000) (nt : Nat) :
    avc std (Γ1 std rorI srorI) 4 nt 7 c13 (fun e env σ' => (match e with | .normal => True | .ret => True | _ => False) ∧ (resL std env σ' [.cellN 2 32]).1 = true ∧ retV (resL std env σ' [.cellN 2 32]).2 = .ints .u8 (bI (shaB bs)))
      (envOf [.sl 6 0 bs.length bs.length false 1] 0 .leaf) ⟨7, ofM (mem0 (wI S0) (wI KK) (bI bs))⟩ := by
  obtain ⟨A, hA⟩ : ∃ A, A = std := ⟨_, rfl⟩
  obtain ⟨R, hR⟩ : ∃ R, R = rorI := ⟨_, rfl⟩
  obtain ⟨S, hS⟩ : ∃ S, S = srorI := ⟨_, rfl⟩
  rw [← hA, ← hR, ← hS]
  unfold c13
  obtain ⟨n, hn⟩ : ∃ n, n = bs.length := ⟨_, rfl⟩
  obtain ⟨LS, hLS⟩ : ∃ LS, LS = wI S0 := ⟨_, rfl⟩
  obtain ⟨LK, hLK⟩ : ∃ LK, LK = wI KK := ⟨_, rfl⟩
  obtain ⟨LB, hLB⟩ : ∃ LB, LB = bI bs := ⟨_, rfl⟩
  rw [← hn, ← hLS, ← hLK, ← hLB]
  have hBl : LB.length = n := by rw [hLB, bI_length, hn]
  have q1 : Nat.ble n n = true := by rw [Nat.ble_eq]; omega
  have q2 : Nat.ble n 1000000000000 = true := by rw [Nat.ble_eq]; omega
  have q3 : Nat.ble (n + 1) 1000000000000 = true := by rw [Nat.ble_eq]; omega
  refine avc_seq_reg (by cbv) rfl (avc_seq_reg (by cbv) rfl (avc_seq_reg (by cbv) ?_ (avc_seq_reg (by cbv) ?_ (avc_seq (lp0 hA bs hb n (LS := LS) (LK := LK) (LB := LB) ?_ ?_)))))
  · subst hA
    simp [std, hBl, q1, q2]
  · subst hA
    simp [std, hBl, q1, q3]
  · intro m hm
    refine Wk.lay (ren 8 10) rfl rfl rfl (by cbv) (by cbv) (had_cons (by cbv) rfl (had_cons (by cbv) rfl (had_cons (by cbv) rfl (had_cons (by cbv) rfl (had_cons (by cbv) rfl (had_cons (by cbv) rfl (had_cons (by cbv) rfl (had_cons (by cbv) rfl (had_cons ?_ rfl (had_nil)))))))))) (low_lay (by cbv) (by cbv) (by cbv) (by cbv) (by cbv) (by cbv) (by cbv)) (by cbv) (by cbv) (by cbv) (has_cons (by cbv) rfl (has_cons (by cbv) rfl (has_cons ?_ rfl (has_nil))))
    · conv => lhs; cbv
      subst hA
      have e3 : List.take (n * 1) (List.drop 0 LB) ++ [128] = bI (zerTo bs 0) := by
        rw [zerTo, bI, List.map_append, List.map_append, ← bI, ← hLB]; simp [← hBl]; rfl
      have e4 : List.take ((0 + n) * 1) (List.drop 0 (List.take (n * 1) (List.drop 0 LB))) ++ List.take (1 * 1) (List.drop 0 [128]) = bI (zerTo bs 0) := by
        rw [← e3]; simp [← hBl]
      simp only [std]
      rw [e4]; rfl
    · conv => lhs; cbv
      subst hA
      have : 0 + n + 1 = m := by omega
      simp only [std, this]; rfl
  intro a b c d m hm
  show avc A (Γ1 A R S) 4 nt 7 _ _ _ _
  have hz := padZ_lt bs.length
  obtain ⟨nb, hnb⟩ : ∃ nb : Int, nb = (bs.length : Int) * 8 := ⟨_, rfl⟩
  have hnb' : A.wr .u64 (A.mul (A.wr .u64 (n : Int)) 8) = nb := by subst hA; simp only [std, wr]; omega
  conv at hnb' => lhs; cbv
  refine avc_seq_reg (by cbv) rfl ?_
  simp only [hnb']
  refine avc_seq_reg (by cbv) rfl (avc_seq_seq (avc_seq_reg (by cbv) rfl (avc_seq (lp2 hA n m nb (bI (pad0 bs)) (LS := LS) (LK := LK) (LB := LB) ?_ ?_))))
  · intro k0 d0 hk0 hd0
    subst hk0 hd0
    exact Wk.lay (ren 0 0) rfl rfl rfl (by cbv) (by cbv) (had_cons (by cbv) rfl (had_cons (by cbv) rfl (had_cons (by cbv) rfl (had_cons (by cbv) rfl (had_cons (by cbv) rfl (had_cons (by cbv) rfl (had_cons (by cbv) rfl (had_cons (by cbv) rfl (had_cons (by cbv) rfl (had_nil)))))))))) (low_lay (by cbv) (by cbv) (by cbv) (by cbv) (by cbv) (by cbv) (by cbv)) (by cbv) (by cbv) (by cbv) (has_cons (by cbv) rfl (has_cons (by cbv) rfl (has_cons (by cbv) rfl (has_cons (by cbv) rfl (has_cons (by cbv) rfl (has_cons (by cbv) rfl (has_nil)))))))
  intro ta tb k0 d0 hk0 hd0
  show avc A (Γ1 A R S) 4 nt 7 _ _ _ _
  refine avc_seq_seq (avc_seq_reg (by cbv) rfl (avc_seq (lp4 hA bs hb n nb hnb (LS := LS) (LK := LK) (LB := LB) ?_ ?_)))
  · intro k1 d1 m1 Lj hk1 hd1 hm1 hLj
    have e1 : d1 = d0 := by rw [hd1, hd0]; rfl
    have e2 : m1 = m := by rw [hm1, hm]; rfl
    have e3 : Lj = bI (pad0 bs) := by rw [hLj, padTo]; simp
    subst hk1 e1 e2 e3
    exact Wk.lay (ren 0 0) rfl rfl rfl (by cbv) (by cbv) (had_cons (by cbv) rfl (had_cons (by cbv) rfl (had_cons (by cbv) rfl (had_cons (by cbv) rfl (had_cons (by cbv) rfl (had_cons (by cbv) rfl (had_cons (by cbv) rfl (had_cons (by cbv) rfl (had_cons (by cbv) rfl (had_nil)))))))))) (low_lay (by cbv) (by cbv) (by cbv) (by cbv) (by cbv) (by cbv) (by cbv)) (by cbv) (by cbv) (by cbv) (has_cons (by cbv) rfl (has_cons (by cbv) rfl (has_cons (by cbv) rfl (has_cons (by cbv) rfl (has_cons (by cbv) rfl (has_cons (by cbv) rfl (has_nil)))))))
  intro ta tb k1 d1 m1 Lj hk1 hd1 hm1 hLj
  show avc A (Γ1 A R S) 4 nt 7 _ _ _ _
  refine avc_seq_reg (by cbv) rfl (avc_seq_seq (avc_seq_reg (by cbv) rfl (avc_seq (lp6 hA m1 Lj hLS (LK := LK) (LB := LB) ?_ ?_))))
  · intro k2 Lq hk2 hLq
    have e : Lq = [0, 0, 0, 0, 0, 0, 0, 0] := by rw [hLq]; rfl
    subst hk2 e
    exact Wk.lay (ren 0 0) rfl rfl rfl (by cbv) (by cbv) (had_cons (by cbv) rfl (had_cons (by cbv) rfl (had_cons (by cbv) rfl (had_cons (by cbv) rfl (had_cons (by cbv) rfl (had_cons (by cbv) rfl (had_cons (by cbv) rfl (had_cons (by cbv) rfl (had_cons (by cbv) rfl (had_cons (by cbv) rfl (had_nil))))))))))) (low_lay (by cbv) (by cbv) (by cbv) (by cbv) (by cbv) (by cbv) (by cbv)) (by cbv) (by cbv) (by cbv) (has_cons (by cbv) rfl (has_cons (by cbv) rfl (has_cons (by cbv) rfl (has_cons (by cbv) rfl (has_nil)))))
  intro ta tb k2 Lq hk2 hLq
  rw [sqTo_all] at hLq
  have hm8 : m1 = 64 * blocks bs := by rw [← pad_length, padTo_length, hm1]
  show avc A (Γ1 A R S) 4 nt 7 _ _ _ _
  refine avc_seq_reg (by cbv) rfl (avc_seq_seq (avc_seq_reg (by cbv) rfl (avc_seq (lp8 hA hR hS bs hb m1 hm8 Lj hLj hLK (LS := LS) (LB := LB) ?_ ?_))))
  · intro b0 Hq hb0 hHq
    have e : Hq = Lq := by rw [hHq, hLq]; rfl
    subst hb0 e
    exact Wk.lay (ren 0 0) rfl rfl rfl (by cbv) (by cbv) (had_cons (by cbv) rfl (had_cons (by cbv) rfl (had_cons (by cbv) rfl (had_cons (by cbv) rfl (had_cons (by cbv) rfl (had_cons (by cbv) rfl (had_cons (by cbv) rfl (had_cons (by cbv) rfl (had_cons (by cbv) rfl (had_cons (by cbv) rfl (had_nil))))))))))) (low_lay (by cbv) (by cbv) (by cbv) (by cbv) (by cbv) (by cbv) (by cbv)) (by cbv) (by cbv) (by cbv) (has_cons (by cbv) rfl (has_cons (by cbv) rfl (has_cons (by cbv) rfl (has_cons (by cbv) rfl (has_cons (by cbv) rfl (has_nil))))))
  intro ta tb tc td b0 Hq hHq
  show avc A (Γ1 A R S) 4 nt 7 _ _ _ _
  refine avc_seq_reg (by cbv) rfl (avc_seq_seq (avc_seq_reg (by cbv) rfl (avc_seq (lp18 hA Lj (stTo bs (blocks bs)) (stTo_length _ _) Hq hHq (LS := LS) (LK := LK) (LB := LB) ?_ ?_))))
  · intro k3 Oq hk3 hOq
    have e : Oq = Z32 := by rw [hOq]; rfl
    subst hk3 e
    exact Wk.lay (ren 0 0) rfl rfl rfl (by cbv) (by cbv) (had_cons (by cbv) rfl (had_cons (by cbv) rfl (had_cons (by cbv) rfl (had_cons (by cbv) rfl (had_cons (by cbv) rfl (had_cons (by cbv) rfl (had_cons (by cbv) rfl (had_cons (by cbv) rfl (had_cons (by cbv) rfl (had_cons (by cbv) rfl (had_cons (by cbv) rfl (had_nil)))))))))))) (low_lay (by cbv) (by cbv) (by cbv) (by cbv) (by cbv) (by cbv) (by cbv)) (by cbv) (by cbv) (by cbv) (has_cons (by cbv) rfl (has_cons (by cbv) rfl (has_cons (by cbv) rfl (has_cons (by cbv) rfl (has_nil)))))
  intro ta tb k3 Oq hk3 hOq
  show avc A (Γ1 A R S) 4 nt 7 _ _ _ _
  have hOl : Oq.length = 32 := by rw [hOq, bI_length, outTo_length]
  refine avc_seq_reg (by cbv) ?_ ⟨trivial, ?_, ?_⟩
  · subst hA
    simp [std, hOl] <;> rfl
  · conv => lhs; cbv
    subst hA
    simp [std, hOl] <;> rfl
  · conv => lhs; cbv
    subst hA
    have e : Oq = bI (shaB bs) := by rw [hOq]; rfl
    have e2 : List.take 32 Oq = Oq := by rw [← hOl, List.take_length]
    simp [std, hOl, e2]
    exact e
end Go.Proofs.YtjkicmlelilcaaaDoor
namespace Go.Proofs.YtjkicmlelilcaaaDoor
open Go
open Go.RowKit
theorem body13 : Tryd.f13.body = some (Tryd.f13.body.getD .skip) := by kernel_rfl
/-- A table of words that a package-level variable leads to, of room enough. -/
def TabC (w : World) (g : Nat) (l : List UInt32) : Prop :=
  ∃ b off c, w.cell? ⟨g, 0, none⟩ = some (.slice (some ⟨b, off, none⟩) l.length c) ∧ l.length ≤ c ∧ b < w.heap.size ∧ ∀ i, i < l.length → w.cell? ⟨b, off + i, none⟩ = some (.int .u32 (N32 (at32 l i)))
theorem cell_row {w : World} {b i : Nat} {v : Value} (h : w.cell? ⟨b, i, none⟩ = some v) : ∃ c e fr, w.heap[b]? = some (.cells c e fr) ∧ c[i]? = some v := by
  unfold World.cell? at h
  split at h
  · rename_i c e fr hh
    exact ⟨c, e, fr, hh, by simpa using h⟩
  · cases h
/-- A row of words or bytes, read-only. -/
theorem or_ro {ρ : Ren} {w : World} {b off D : Nat} {k : IntKind} {l : List Int} {e : TypeId} (hD : l.length + off ≤ D) (h : ∀ i, i < l.length → w.cell? ⟨b, off + i, none⟩ = some (.int k (l.getD i 0))) : OR ρ (off, D) (.ints k l e .ro) w.heap[b]? := fun _ => by
  refine ⟨hD, fun hl => ?_⟩
  have hl : 0 < l.length := hl rfl
  obtain ⟨c, t, fr, hb, _⟩ := cell_row (h 0 hl)
  have hat : ∀ i, i < l.length → c[i + off]? = some (.int k (l.getD i 0)) := fun i hi => by
    obtain ⟨c', t', fr', hb', hc⟩ := cell_row (h i hi)
    rw [hb] at hb'; cases hb'
    rw [Nat.add_comm]; exact hc
  refine ⟨c, t, fr, hb, (fun hh => by cases hh), ?_, hD, fun i a hi => ?_⟩
  · have := (Array.getElem?_eq_some_iff.1 (hat (l.length - 1) (by omega))).1
    show l.length + off ≤ c.size
    omega
  · simp only [AObj.at, Option.map_eq_some_iff] at hi
    obtain ⟨m, hm, rfl⟩ := hi
    have hil := (List.getElem?_eq_some_iff.1 hm).1
    refine ⟨_, hat i hil, ?_⟩
    show Value.int k (l.getD i 0) = Value.int k m
    rw [List.getD_eq_getElem?_getD, hm]; rfl
end Go.Proofs.YtjkicmlelilcaaaDoor
namespace Go.Proofs.YtjkicmlelilcaaaDoor
open Go
open Go.RowKit
def ren13 (bS oS cS bK oK cK : Nat) (r6 : Option (Nat × (Nat × Nat))) : Ren
  | 0 => some (0, (0, 0))
  | 1 => some (1, (0, 1))
  | 2 => some (2, (0, 1))
  | 3 => some (3, (0, 0))
  | 4 => some (bS, (oS, oS + cS))
  | 5 => some (bK, (oK, oK + cK))
  | 6 => r6
  | _ => none
theorem mem0_get (S K B : List Int) : (ofM (mem0 S K B)).get 0 = some (.cells [] 62 .ro) ∧ (ofM (mem0 S K B)).get 1 = some (.cells [.sl 4 0 8 8 false 1] 62 .ro) ∧ (ofM (mem0 S K B)).get 2 = some (.cells [.sl 5 0 64 64 false 1] 62 .ro) ∧
    (ofM (mem0 S K B)).get 3 = some (.cells [] 62 .ro) ∧ (ofM (mem0 S K B)).get 4 = some (.ints .u32 S 62 .ro) ∧ (ofM (mem0 S K B)).get 5 = some (.ints .u32 K 62 .ro) ∧ (ofM (mem0 S K B)).get 6 = some (.ints .u8 B 5 .ro) :=
  ⟨by cbv, by cbv, by cbv, by cbv, by cbv, by cbv, by cbv⟩
theorem mem0_ro (S K B : List Int) (b : Nat) (h : b < 7) : ∃ o, (ofM (mem0 S K B)).get b = some o ∧ o.isRo = true := by
  obtain ⟨h0, h1, h2, h3, h4, h5, h6⟩ := mem0_get S K B
  match b, h with
  | 0, _ => exact ⟨_, h0, rfl⟩
  | 1, _ => exact ⟨_, h1, rfl⟩
  | 2, _ => exact ⟨_, h2, rfl⟩
  | 3, _ => exact ⟨_, h3, rfl⟩
  | 4, _ => exact ⟨_, h4, rfl⟩
  | 5, _ => exact ⟨_, h5, rfl⟩
  | 6, _ => exact ⟨_, h6, rfl⟩
theorem ren13_lt {bS oS cS bK oK cK : Nat} {r6 : Option (Nat × (Nat × Nat))} {b : Nat} {x : Nat × (Nat × Nat)} (h : ren13 bS oS cS bK oK cK r6 b = some x) : b < 7 := by
  unfold ren13 at h
  split at h <;> first | omega | cases h
theorem or_none {ρ : Ren} {x : Option Obj} {e : TypeId} : OR ρ (0, 0) (.cells [] e .ro) x := fun _ => ⟨Nat.le_refl _, fun h => absurd (h rfl) (Nat.lt_irrefl 0)⟩
theorem or_glob {ρ : Ren} {w : World} {g b off c n s e : Nat} (hc : w.cell? ⟨g, 0, none⟩ = some (.slice (some ⟨b, off, none⟩) n c)) (hn : n ≤ c) (hρ : ρ s = some (b, (off, off + c))) : OR ρ (0, 1) (.cells [.sl s 0 n n false 1] e .ro) w.heap[g]? := fun _ => by
  refine ⟨Nat.le_refl _, fun _ => ?_⟩
  obtain ⟨cs, t, fr, hb, h0⟩ := cell_row hc
  refine ⟨cs, t, fr, hb, (fun h => by cases h), ?_, Nat.le_refl _, fun i a hi => ?_⟩
  · have := (Array.getElem?_eq_some_iff.1 h0).1
    show 1 + 0 ≤ _; omega
  · match i, hi with
    | 0, hi =>
      simp only [AObj.at, List.getElem?_cons_zero, Option.some.injEq] at hi
      subst hi
      refine ⟨_, h0, ?_⟩
      unfold VR
      exact .inl ⟨b, (off, off + c), off, c, hρ, rfl, fun _ => (Nat.zero_add _).symm, Nat.le_refl _, hn, fun h => (by cases h), by show off + c * 1 ≤ off + c; omega⟩
    | i + 1, hi => simp [AObj.at] at hi
theorem hr13 {w : World} {bS oS cS bK oK cK : Nat} {r6 : Option (Nat × (Nat × Nat))} {bs : List UInt8} (h3 : 3 < w.heap.size)
    (k1 : w.cell? ⟨1, 0, none⟩ = some (.slice (some ⟨bS, oS, none⟩) 8 cS)) (k2 : 8 ≤ cS) (k3 : bS < w.heap.size) (k4 : ∀ i, i < 8 → w.cell? ⟨bS, oS + i, none⟩ = some (.int .u32 (N32 (at32 S0 i))))
    (s1 : w.cell? ⟨2, 0, none⟩ = some (.slice (some ⟨bK, oK, none⟩) 64 cK)) (s2 : 64 ≤ cK) (s3 : bK < w.heap.size) (s4 : ∀ i, i < 64 → w.cell? ⟨bK, oK + i, none⟩ = some (.int .u32 (N32 (at32 KK i))))
    (h6 : ∀ c d, r6 = some (c, d) → c < w.heap.size ∧ ∀ ρ, OR ρ d (.ints .u8 (bI bs) 5 .ro) w.heap[c]?) : HR (ren13 bS oS cS bK oK cK r6) ⟨7, ofM (mem0 (wI S0) (wI KK) (bI bs))⟩ w := by
  obtain ⟨g0, g1, g2, g3, g4, g5, g6⟩ := mem0_get (wI S0) (wI KK) (bI bs)
  refine ⟨by show 7 ≤ _; omega, fun b hb => ?_, fun b c d hb => ?_, fun b b' c d d' h1 h2 hne => ?_⟩
  · have hb : 7 ≤ b := hb
    show (ofM (mem0 (wI S0) (wI KK) (bI bs))).get b = none
    cases ho : (ofM (mem0 (wI S0) (wI KK) (bI bs))).get b with
    | none => rfl
    | some o =>
      have := ofM_get _ b o (fun p hp => by
        simp only [mem0, List.mem_cons, List.not_mem_nil, or_false] at hp
        rcases hp with rfl | rfl | rfl | rfl | rfl | rfl | rfl <;> (dsimp only; omega)) ho
      simp only [mem0, List.mem_cons, List.not_mem_nil, or_false, Prod.mk.injEq] at this
      omega
  · have hlt := ren13_lt hb
    refine ⟨hlt, ?_⟩
    match b, hlt with
    | 0, _ => cases hb; exact ⟨by omega, _, g0, or_none⟩
    | 1, _ => cases hb; exact ⟨by omega, _, g1, or_glob k1 k2 rfl⟩
    | 2, _ => cases hb; exact ⟨by omega, _, g2, or_glob s1 s2 rfl⟩
    | 3, _ => cases hb; exact ⟨by omega, _, g3, or_none⟩
    | 4, _ => cases hb; exact ⟨k3, _, g4, or_ro (by rw [wI_length]; show 8 + _ ≤ _; omega) fun i hi => by rw [wI_getD]; exact k4 i (by rw [wI_length] at hi; exact hi)⟩
    | 5, _ => cases hb; exact ⟨s3, _, g5, or_ro (by rw [wI_length]; show 64 + _ ≤ _; omega) fun i hi => by rw [wI_getD]; exact s4 i (by rw [wI_length] at hi; exact hi)⟩
    | 6, _ => obtain ⟨e1, e2⟩ := h6 c d hb; exact ⟨e1, _, g6, e2 _⟩
  · obtain ⟨o, e1, e2⟩ := mem0_ro (wI S0) (wI KK) (bI bs) b (ren13_lt h1)
    obtain ⟨o', e3, e4⟩ := mem0_ro (wI S0) (wI KK) (bI bs) b' (ren13_lt h2)
    exact .inr (.inr ⟨o, o', e1, e3, e2, e4⟩)
theorem rsha_any (v : Value) (bs : List UInt8) (w : World) (hB : BSl w v bs) (hl : bs.length ≤ 100000000000) (hS : TabC w 1 S0) (hK : TabC w 2 KK) (h3 : 3 < w.heap.size) :
    Calls Tryd.prog 13 #[v] w fun e w' => e = .returned (.agg (c8 (shaB bs))) ∧ Below w.heap.size w w' := by
  obtain ⟨bS, oS, cS, k1, k2, k3, k4⟩ := hS
  obtain ⟨bK, oK, cK, s1, s2, s3, s4⟩ := hK
  obtain ⟨r6, h6, hv⟩ : ∃ r6 : Option (Nat × (Nat × Nat)), (∀ c d, r6 = some (c, d) → c < w.heap.size ∧ ∀ ρ, OR ρ d (.ints .u8 (bI bs) 5 .ro) w.heap[c]?) ∧ VR (ren13 bS oS cS bK oK cK r6) (.sl 6 0 bs.length bs.length false 1) v := by
    rcases hB with ⟨rfl, rfl⟩ | ⟨b, off, c, rfl, hc, hb, hcell⟩ | ⟨a, rfl, rfl⟩
    · exact ⟨none, (fun c d h => by cases h), by unfold VR; exact .inr ⟨rfl, rfl, rfl, _, rfl⟩⟩
    · refine ⟨some (b, (off, off + c)), fun c' d h => ?_, ?_⟩
      · cases h
        exact ⟨hb, fun ρ => or_ro (by rw [bI_length]; omega) fun i hi => by rw [bI_getD]; exact hcell i (by rw [bI_length] at hi; exact hi)⟩
      · unfold VR
        exact .inl ⟨b, (off, off + c), off, c, rfl, rfl, fun _ => (Nat.zero_add _).symm, Nat.le_refl _, hc, fun h => (by cases h), by show off + c * 1 ≤ off + c; omega⟩
    · exact ⟨none, (fun c d h => by cases h), by unfold VR; exact .inr ⟨rfl, rfl, rfl, _, rfl⟩⟩
  have hr := hr13 (r6 := r6) h3 k1 k2 k3 k4 s1 s2 s3 s4 h6
  have hG : ∀ g, g < 4 → ∃ s, ren13 bS oS cS bK oK cK r6 g = some (g, (0, s)) := fun g hg => by
    match g, hg with
    | 0, _ => exact ⟨0, rfl⟩
    | 1, _ => exact ⟨1, rfl⟩
    | 2, _ => exact ⟨1, rfl⟩
    | 3, _ => exact ⟨0, rfl⟩
  refine (call_sound (xs := [.cellN 2 32]) (K := fun av _ => av = .ints .u8 (bI (shaB bs))) (vs := [v]) mixed gam1_ok pu1_ok Tryd.func13 body13 comp13 (by kernel_rfl) (by kernel_rfl) (by kernel_rfl) (rsha_avc bs hl _) hG hr ⟨v, [], rfl, hv, rfl⟩).mono fun e W' ⟨u, av, σ', ρ', e1, e2, e3, e4, e5⟩ => ?_
  subst e1 e2
  refine ⟨?_, e4.os, e4.tape, e4.output, e4.size, fun c hc => ?_⟩
  · unfold VR at e5
    rw [e5]
    simp [bI, c8, c8l]
  · by_cases hm : ∃ b d, ren13 bS oS cS bK oK cK r6 b = some (c, d)
    · obtain ⟨b, d, hm⟩ := hm
      obtain ⟨o, q1, q2⟩ := mem0_ro (wI S0) (wI KK) (bI bs) b (ren13_lt hm)
      exact (e4.ro b c d o (ren13_lt hm) hm hc q1 q2).2
    · exact e4.frame c hc fun b d h => hm ⟨b, d, h⟩
end Go.Proofs.YtjkicmlelilcaaaDoor
namespace Go.Proofs.YtjkicmlelilcaaaDoor
open Go
open Go.RowKit
theorem HR.below {ρ : Ren} {σ : AH} {W W' : World} (h : HR ρ σ W) (hb : Below W.heap.size W W') : HR ρ σ W' :=
  ⟨h.small, h.none_, fun b c d hρ => by
    obtain ⟨h1, h2, o, h3, h4⟩ := h.dom b c d hρ
    refine ⟨h1, Nat.lt_of_lt_of_le h2 hb.size, o, h3, ?_⟩
    rw [hb.block c h2]; exact h4, h.inj⟩
theorem Stp.below {N : Nat} {ρ : Ren} {σ : AH} {W W' : World} (hN : N ≤ σ.next) (hb : Below W.heap.size W W') : Stp N ρ σ W ρ σ W' :=
  ⟨fun _ _ => rfl, fun b _c d h => .inl ⟨b, d, h⟩, hN, fun _ _ _ _ h _ => h, fun c hc _ => hb.block c hc, hb.tape, hb.os, hb.output, hb.size, fun _ c _ _ _ _ hc h _ => ⟨h, hb.block c hc⟩⟩
/-- What is read of a slice of bytes. -/
def rowB : Row → Option (List Int)
  | .ints k l => match k with
    | .u8 => some l
    | _ => none
  | .cells l => match l with
    | [] => some []
    | _ => none
def toBs (l : List Int) : List UInt8 := l.map fun n => UInt8.ofNat n.toNat
theorem bI_toBs (l : List Int) (h : ∀ n ∈ l, 0 ≤ n ∧ n ≤ 255) : bI (toBs l) = l := by
  unfold bI toBs
  rw [List.map_map]
  conv => rhs; rw [← List.map_id l]
  refine List.map_congr_left fun n hn => ?_
  have := h n hn
  simp only [Function.comp_apply, id_eq, N8, UInt8.toNat_ofNat']
  omega
theorem toBs_length (l : List Int) : (toBs l).length = l.length := by simp [toBs]
theorem bsl_empty {ρ : Ren} {σ : AH} {W : World} (hr : HR ρ σ W) {b o k z : Nat} {e : Bool} {v : Value} (hv : VR ρ (.sl b o 0 k e z) v) : BSl W v [] := by
  rcases vr_sl hv with ⟨c, d, o', k', hb, rfl, _, _, _, _, _⟩ | ⟨_, _, _, p, rfl⟩
  · exact .inr (.inl ⟨c, o', k', rfl, Nat.zero_le _, (hr.dom _ _ _ hb).2.1, fun j hj => by cases hj⟩)
  · cases p with
    | none => exact .inl ⟨rfl, rfl⟩
    | some a => exact .inr (.inr ⟨a, rfl, rfl⟩)
theorem bsl_of_row {ρ : Ren} {σ : AH} {W : World} (hr : HR ρ σ W) {s : AV} {v : Value} (hv : VR ρ s v) (hok : (rowA std false 1 σ s).1 = true) {l : List Int} (hl : rowB (rowA std false 1 σ s).2.2 = some l) (hby : ∀ n ∈ l, 0 ≤ n ∧ n ≤ 255) : BSl W v (toBs l) := by
  cases s
  case nilsl =>
    unfold VR at hv
    simp only [rowA, rowB, Option.some.injEq] at hl
    subst hl hv
    exact .inl ⟨rfl, rfl⟩
  case sl b o n k e z =>
    simp only [rowA] at hok hl
    cases hob : σ.get b with
    | none => rw [hob] at hok; cases hok
    | some ob =>
      rw [hob] at hok hl
      cases ob with
      | dead =>
        simp only [rowB, Option.some.injEq] at hl
        subst hl
        simp only [Bool.and_eq_true, Nat.beq_eq] at hok
        obtain ⟨_, rfl⟩ := hok
        exact bsl_empty hr hv
      | cells m e2 t =>
        simp only [Bool.and_eq_true, Nat.ble_eq] at hok
        by_cases hn : n = 0
        · subst hn
          have : l = [] := by
            simp only [Nat.zero_mul, List.take_zero, rowB, Option.some.injEq] at hl
            exact hl.symm
          subst this
          exact bsl_empty hr hv
        · exfalso
          cases hm : (m.drop o).take (n * 1) with
          | nil =>
            have : ((m.drop o).take (n * 1)).length = 0 := by rw [hm]; rfl
            rw [List.length_take, List.length_drop] at this
            omega
          | cons x y => simp only [hm, rowB] at hl; cases hl
      | ints ik m e2 t =>
        simp only [std, Bool.and_eq_true, Nat.ble_eq] at hok
        by_cases hik : ik = .u8
        · subst hik
          simp only [std, rowB, Option.some.injEq] at hl
          have hln : l.length = n := by rw [← hl, List.length_take, List.length_drop]; omega
          by_cases hn : n = 0
          · have : l = [] := List.length_eq_zero_iff.1 (by rw [hln, hn])
            subst hn this
            exact bsl_empty hr hv
          · rcases vr_sl hv with ⟨c, d, o', k', hb, rfl, ho, hnk, hk, _, _⟩ | ⟨h0, _⟩
            · have ho := ho (by omega)
              subst ho
              refine .inr (.inl ⟨c, o + d.1, k', by rw [toBs_length, hln], by rw [toBs_length, hln]; omega, (hr.dom _ _ _ hb).2.1, fun j hj => ?_⟩)
              rw [toBs_length, hln] at hj
              have hjm : o + j < m.length := by omega
              obtain ⟨u, hu, hvr⟩ := hr.load (i := o + j) (a := .int .u8 m[o + j]) hb hob (by simp only [AObj.at]; rw [List.getElem?_eq_getElem hjm]; rfl)
              unfold VR at hvr
              subst hvr
              rw [show o + d.1 + j = o + j + d.1 by omega, hu]
              have hlj : l[j]? = some m[o + j] := by rw [← hl, List.getElem?_take, if_pos (by omega), List.getElem?_drop, List.getElem?_eq_getElem hjm]
              have hmem := hby _ (List.mem_of_getElem? hlj)
              have : (bI (toBs l)).getD j 0 = m[o + j] := by rw [bI_toBs l hby, List.getD_eq_getElem?_getD, hlj]; rfl
              rw [bI_getD] at this
              rw [this]
            · exact absurd h0 hn
        · cases ik <;> first | exact absurd rfl hik | (simp only [rowB] at hl; cases hl)
  all_goals (simp only [rowA] at hok; cases hok)
end Go.Proofs.YtjkicmlelilcaaaDoor
namespace Go.Proofs.YtjkicmlelilcaaaDoor
open Go
open Go.RowKit
noncomputable def tabA (σ : AH) (g n : Nat) (t : List Int → Bool) : Bool := match σ.get g with
  | some ob => match ob with
    | .cells l _ _ => match l with
      | [.sl b o m _ _ _] => Nat.beq o 0 && Nat.beq m n && match σ.get b with
        | some ob => match ob with
          | .ints k l _ _ => match k with
            | .u32 => t l
            | _ => false
          | _ => false
        | none => false
      | _ => false
    | _ => false
  | none => false
def shaI (l : List Int) : List Int := bI (shaB (toBs l))
def byI (l : List Int) : Bool := l.all fun n => decide (0 ≤ n) && decide (n ≤ 255)
def isS (l : List Int) : Bool := decide (l = wI S0)
def isK (l : List Int) : Bool := decide (l = wI KK)
theorem tab_of {ρ : Ren} {σ : AH} {W : World} (hr : HR ρ σ W) {g n : Nat} {T : List UInt32} {t : List Int → Bool} (ht : ∀ l, t l = true → l = wI T) (hn : T.length = n) (hn0 : 0 < n) (hg : ∃ s, ρ g = some (g, (0, s))) (h : tabA σ g n t = true) : TabC W g T := by
  unfold tabA at h
  split at h
  case h_2 => cases h
  rename_i ob hob
  split at h
  case h_2 => cases h
  rename_i l e2 t2
  split at h
  case h_2 => cases h
  rename_i b o m k e z
  rw [Bool.and_eq_true, Bool.and_eq_true, Nat.beq_eq, Nat.beq_eq] at h
  obtain ⟨⟨rfl, rfl⟩, h⟩ := h
  split at h
  case h_2 => cases h
  rename_i ob2 hob2
  split at h
  case h_2 => cases h
  rename_i kk l2 e3 t3
  split at h
  case h_2 => cases h
  have hl := ht _ h
  subst hl
  obtain ⟨s, hs⟩ := hg
  obtain ⟨v, hv, hvr⟩ := hr.load (i := 0) (a := .sl b 0 m k e z) hs hob rfl
  rcases vr_sl hvr with ⟨c, d, o', k', hb, rfl, ho, hnk, hk, _, _⟩ | ⟨h0, _⟩
  · have ho := ho (by omega)
    subst ho
    refine ⟨c, 0 + d.1, k', by rw [hn]; exact hv, by omega, (hr.dom _ _ _ hb).2.1, fun i hi => ?_⟩
    have hi2 : i < (wI T).length := by rw [wI_length]; exact hi
    obtain ⟨u, hu, hur⟩ := hr.load (i := i) (a := .int .u32 (wI T)[i]) hb hob2 (by simp only [AObj.at]; rw [List.getElem?_eq_getElem hi2]; rfl)
    unfold VR at hur
    subst hur
    rw [show 0 + d.1 + i = i + d.1 by omega, hu]
    have := wI_getD T i
    rw [List.getD_eq_getElem?_getD, List.getElem?_eq_getElem hi2] at this
    rw [← this]; rfl
  · omega
noncomputable def Γ2 (A : Ar) (Sh : List Int → List Int) (By tS tK : List Int → Bool) : Gam := fun f args σ => match args with
  | [s] => bif Nat.beq f 13 then (match rowA A false 1 σ s with
    | (ok, _, r) => match rowB r with
      | some l => (ok && A.leN (A.len l) 100000000000 && By l && tabA σ 1 8 tS && tabA σ 2 64 tK, .ints .u8 (Sh l), σ)
      | none => bad σ) else bad σ
  | _ => bad σ
theorem gam2_ok : GamOk Tryd.prog 4 (Γ2 std shaI byI isS isK) := by
  intro f args σ h
  unfold Γ2 at h ⊢
  split at h
  case h_2 => cases h
  rename_i s
  cases hf : Nat.beq f 13 <;> rw [hf] at h
  · cases h
  have e := Nat.eq_of_beq_eq_true hf
  subst e
  simp only [cond_true] at h ⊢
  generalize hrw : rowA std false 1 σ s = rr at h ⊢
  obtain ⟨ok, n, r⟩ := rr
  simp only at h ⊢
  cases hB : rowB r with
  | none => rw [hB] at h; cases h
  | some l =>
    rw [hB] at h
    simp only [Bool.and_eq_true, std, Nat.ble_eq] at h ⊢
    obtain ⟨⟨⟨⟨h1, h2⟩, h3⟩, h4⟩, h5⟩ := h
    have hby : ∀ n ∈ l, 0 ≤ n ∧ n ≤ 255 := fun n hn => by
      have := List.all_eq_true.1 h3 n hn
      simpa using this
    refine ⟨⟨_, Tryd.func13, by kernel_rfl, by kernel_rfl⟩, fun ρ W vs hG hr hvs => ?_⟩
    obtain ⟨v, m, rfl, hv, hm⟩ := hvs
    have hm : m = [] := hm
    subst hm
    have hbs := bsl_of_row hr hv (by rw [hrw]; exact h1) (l := l) (by rw [hrw]; exact hB) hby
    have hS := tab_of hr (T := S0) (fun l h => by simpa [isS] using h) rfl (by decide) (hG 1 (by decide)) h4
    have hK := tab_of hr (T := KK) (fun l h => by simpa [isK] using h) rfl (by decide) (hG 2 (by decide)) h5
    obtain ⟨s3, hs3⟩ := hG 3 (by decide)
    refine (rsha_any v (toBs l) W hbs (by rw [toBs_length]; exact h2) hS hK (hr.dom _ _ _ hs3).2.1).mono fun e W' ⟨e1, e2⟩ => ?_
    subst e1
    refine ⟨_, ρ, rfl, hr.below e2, Stp.below (Nat.le_refl _) e2, ?_⟩
    unfold VR
    simp [shaI, bI, c8, c8l]
end Go.Proofs.YtjkicmlelilcaaaDoor
namespace Go.Proofs.YtjkicmlelilcaaaDoor
open Go
def HB0 : ACode := (.reg [⟨(.aop (.mov (.slot 7))), (some 23), none⟩, ⟨(.aop (.mov (.slot 7))), (some 24), none⟩, ⟨(.aop (.idxArr 32 1 (.slot 6) (.slot 24))), (some 25), none⟩, ⟨(.aop (.load1 (.slot 25))), (some 26), none⟩, ⟨(.aop (.idxArr 64 1 (.slot 5) (.slot 23))), (some 27), none⟩, ⟨(.aop (.store 1 (.slot 27) (.slot 26))), none, none⟩])
def HL0 : ACode := (.loop (.seq (.seq (.reg [⟨(.aop (.mov (.slot 7))), (some 19), none⟩, ⟨(.aop (.bin .lss (.slot 19) (.lit (.int .i64 (32))))), (some 20), none⟩]) (.cond (.slot 20) .skip (.exit 0))) (.seq (.block 1 HB0) (.reg [⟨(.aop (.mov (.slot 7))), (some 21), none⟩, ⟨(.aop (.bin .add (.slot 21) (.lit (.int .i64 (1))))), (some 22), none⟩, ⟨(.aop (.mov (.slot 22))), (some 7), none⟩]))))
def HB2 : ACode := (.reg [⟨(.aop (.mov (.slot 8))), (some 34), none⟩, ⟨(.aop (.mov (.slot 0))), (some 35), none⟩, ⟨(.aop (.mov (.slot 8))), (some 36), none⟩, ⟨(.aop (.idxSl 1 (.slot 35) (.slot 36))), (some 37), none⟩, ⟨(.aop (.load1 (.slot 37))), (some 38), none⟩, ⟨(.aop (.idxArr 64 1 (.slot 5) (.slot 34))), (some 39), none⟩, ⟨(.aop (.store 1 (.slot 39) (.slot 38))), none, none⟩])
def HL2 : ACode := (.loop (.seq (.seq (.reg [⟨(.aop (.mov (.slot 8))), (some 28), none⟩, ⟨(.aop (.mov (.slot 0))), (some 29), none⟩, ⟨(.aop (.lenSl (.slot 29))), (some 30), none⟩, ⟨(.aop (.bin .lss (.slot 28) (.slot 30))), (some 31), none⟩]) (.cond (.slot 31) .skip (.exit 2))) (.seq (.block 3 HB2) (.reg [⟨(.aop (.mov (.slot 8))), (some 32), none⟩, ⟨(.aop (.bin .add (.slot 32) (.lit (.int .i64 (1))))), (some 33), none⟩, ⟨(.aop (.mov (.slot 33))), (some 8), none⟩]))))
def HB4 : ACode := (.seq (.reg [⟨(.aop (.mov (.slot 9))), (some 44), none⟩, ⟨(.aop (.mov (.slot 11))), (some 45), none⟩, ⟨(.aop (.idxArr 64 1 (.slot 5) (.slot 45))), (some 46), none⟩, ⟨(.aop (.load1 (.slot 46))), (some 47), none⟩, ⟨(.aop (.bin .xor (.slot 47) (.lit (.int .u8 (54))))), (some 48), none⟩, ⟨(.aop (.ext (.bslice 5 1 1) [(.slot 48)])), (some 49), none⟩, ⟨(.aop (.ext (.append 5 false 1) [(.slot 44), (.slot 49)])), (some 50), none⟩, ⟨(.aop (.mov (.slot 50))), (some 9), none⟩]) (.reg [⟨(.aop (.mov (.slot 10))), (some 51), none⟩, ⟨(.aop (.mov (.slot 11))), (some 52), none⟩, ⟨(.aop (.idxArr 64 1 (.slot 5) (.slot 52))), (some 53), none⟩, ⟨(.aop (.load1 (.slot 53))), (some 54), none⟩, ⟨(.aop (.bin .xor (.slot 54) (.lit (.int .u8 (92))))), (some 55), none⟩, ⟨(.aop (.ext (.bslice 5 1 1) [(.slot 55)])), (some 56), none⟩, ⟨(.aop (.ext (.append 5 false 1) [(.slot 51), (.slot 56)])), (some 57), none⟩, ⟨(.aop (.mov (.slot 57))), (some 10), none⟩]))
def HL4 : ACode := (.loop (.seq (.seq (.reg [⟨(.aop (.mov (.slot 11))), (some 40), none⟩, ⟨(.aop (.bin .lss (.slot 40) (.lit (.int .i64 (64))))), (some 41), none⟩]) (.cond (.slot 41) .skip (.exit 4))) (.seq (.block 5 HB4) (.reg [⟨(.aop (.mov (.slot 11))), (some 42), none⟩, ⟨(.aop (.bin .add (.slot 42) (.lit (.int .i64 (1))))), (some 43), none⟩, ⟨(.aop (.mov (.slot 43))), (some 11), none⟩]))))
def HB6 : ACode := (.reg [⟨(.aop (.mov (.slot 10))), (some 66), none⟩, ⟨(.aop (.mov (.slot 13))), (some 67), none⟩, ⟨(.aop (.idxArr 32 1 (.slot 12) (.slot 67))), (some 68), none⟩, ⟨(.aop (.load1 (.slot 68))), (some 69), none⟩, ⟨(.aop (.ext (.bslice 5 1 1) [(.slot 69)])), (some 70), none⟩, ⟨(.aop (.ext (.append 5 false 1) [(.slot 66), (.slot 70)])), (some 71), none⟩, ⟨(.aop (.mov (.slot 71))), (some 10), none⟩])
def HL6 : ACode := (.loop (.seq (.seq (.reg [⟨(.aop (.mov (.slot 13))), (some 62), none⟩, ⟨(.aop (.bin .lss (.slot 62) (.lit (.int .i64 (32))))), (some 63), none⟩]) (.cond (.slot 63) .skip (.exit 6))) (.seq (.block 7 HB6) (.reg [⟨(.aop (.mov (.slot 13))), (some 64), none⟩, ⟨(.aop (.bin .add (.slot 64) (.lit (.int .i64 (1))))), (some 65), none⟩, ⟨(.aop (.mov (.slot 65))), (some 13), none⟩]))))
def c15 : ACode := (.seq (.reg [⟨(.aop (.alloc 23 [(.int .u8 (0)), (.int .u8 (0)), (.int .u8 (0)), (.int .u8 (0)), (.int .u8 (0)), (.int .u8 (0)), (.int .u8 (0)), (.int .u8 (0)), (.int .u8 (0)), (.int .u8 (0)), (.int .u8 (0)), (.int .u8 (0)), (.int .u8 (0)), (.int .u8 (0)), (.int .u8 (0)), (.int .u8 (0)), (.int .u8 (0)), (.int .u8 (0)), (.int .u8 (0)), (.int .u8 (0)), (.int .u8 (0)), (.int .u8 (0)), (.int .u8 (0)), (.int .u8 (0)), (.int .u8 (0)), (.int .u8 (0)), (.int .u8 (0)), (.int .u8 (0)), (.int .u8 (0)), (.int .u8 (0)), (.int .u8 (0)), (.int .u8 (0))])), (some 4), none⟩]) (.seq (.reg [⟨(.aop (.alloc 97 [(.int .u8 (0)), (.int .u8 (0)), (.int .u8 (0)), (.int .u8 (0)), (.int .u8 (0)), (.int .u8 (0)), (.int .u8 (0)), (.int .u8 (0)), (.int .u8 (0)), (.int .u8 (0)), (.int .u8 (0)), (.int .u8 (0)), (.int .u8 (0)), (.int .u8 (0)), (.int .u8 (0)), (.int .u8 (0)), (.int .u8 (0)), (.int .u8 (0)), (.int .u8 (0)), (.int .u8 (0)), (.int .u8 (0)), (.int .u8 (0)), (.int .u8 (0)), (.int .u8 (0)), (.int .u8 (0)), (.int .u8 (0)), (.int .u8 (0)), (.int .u8 (0)), (.int .u8 (0)), (.int .u8 (0)), (.int .u8 (0)), (.int .u8 (0)), (.int .u8 (0)), (.int .u8 (0)), (.int .u8 (0)), (.int .u8 (0)), (.int .u8 (0)), (.int .u8 (0)), (.int .u8 (0)), (.int .u8 (0)), (.int .u8 (0)), (.int .u8 (0)), (.int .u8 (0)), (.int .u8 (0)), (.int .u8 (0)), (.int .u8 (0)), (.int .u8 (0)), (.int .u8 (0)), (.int .u8 (0)), (.int .u8 (0)), (.int .u8 (0)), (.int .u8 (0)), (.int .u8 (0)), (.int .u8 (0)), (.int .u8 (0)), (.int .u8 (0)), (.int .u8 (0)), (.int .u8 (0)), (.int .u8 (0)), (.int .u8 (0)), (.int .u8 (0)), (.int .u8 (0)), (.int .u8 (0)), (.int .u8 (0))])), (some 5), none⟩]) (.seq (.seq (.reg [⟨(.aop (.mov (.slot 0))), (some 14), none⟩, ⟨(.aop (.lenSl (.slot 14))), (some 15), none⟩, ⟨(.aop (.bin .gtr (.slot 15) (.lit (.int .i64 (64))))), (some 16), none⟩]) (.cond (.slot 16) (.seq (.reg [⟨(.aop (.mov (.slot 0))), (some 17), none⟩, ⟨(.call (.lit (.fn (.func 13) [] [])) [(.slot 17)]), (some 18), none⟩, ⟨(.aop (.alloc 23 [(.int .u8 (0)), (.int .u8 (0)), (.int .u8 (0)), (.int .u8 (0)), (.int .u8 (0)), (.int .u8 (0)), (.int .u8 (0)), (.int .u8 (0)), (.int .u8 (0)), (.int .u8 (0)), (.int .u8 (0)), (.int .u8 (0)), (.int .u8 (0)), (.int .u8 (0)), (.int .u8 (0)), (.int .u8 (0)), (.int .u8 (0)), (.int .u8 (0)), (.int .u8 (0)), (.int .u8 (0)), (.int .u8 (0)), (.int .u8 (0)), (.int .u8 (0)), (.int .u8 (0)), (.int .u8 (0)), (.int .u8 (0)), (.int .u8 (0)), (.int .u8 (0)), (.int .u8 (0)), (.int .u8 (0)), (.int .u8 (0)), (.int .u8 (0))])), (some 6), none⟩, ⟨(.aop (.store 32 (.slot 6) (.slot 18))), none, none⟩]) (.seq (.reg [⟨(.aop (.mov (.lit (.int .i64 (0))))), (some 7), none⟩]) (.block 0 HL0))) (.seq (.reg [⟨(.aop (.mov (.lit (.int .i64 (0))))), (some 8), none⟩]) (.block 2 HL2)))) (.seq (.reg [⟨(.aop (.mov (.lit .nilsl))), (some 9), none⟩, ⟨(.aop (.mov (.lit .nilsl))), (some 10), none⟩]) (.seq (.seq (.reg [⟨(.aop (.mov (.lit (.int .i64 (0))))), (some 11), none⟩]) (.block 4 HL4)) (.seq (.reg [⟨(.aop (.mov (.slot 9))), (some 58), none⟩, ⟨(.aop (.mov (.slot 1))), (some 59), none⟩, ⟨(.aop (.ext (.append 5 false 1) [(.slot 58), (.slot 59)])), (some 60), none⟩, ⟨(.call (.lit (.fn (.func 13) [] [])) [(.slot 60)]), (some 61), none⟩, ⟨(.aop (.alloc 23 [(.int .u8 (0)), (.int .u8 (0)), (.int .u8 (0)), (.int .u8 (0)), (.int .u8 (0)), (.int .u8 (0)), (.int .u8 (0)), (.int .u8 (0)), (.int .u8 (0)), (.int .u8 (0)), (.int .u8 (0)), (.int .u8 (0)), (.int .u8 (0)), (.int .u8 (0)), (.int .u8 (0)), (.int .u8 (0)), (.int .u8 (0)), (.int .u8 (0)), (.int .u8 (0)), (.int .u8 (0)), (.int .u8 (0)), (.int .u8 (0)), (.int .u8 (0)), (.int .u8 (0)), (.int .u8 (0)), (.int .u8 (0)), (.int .u8 (0)), (.int .u8 (0)), (.int .u8 (0)), (.int .u8 (0)), (.int .u8 (0)), (.int .u8 (0))])), (some 12), none⟩, ⟨(.aop (.store 32 (.slot 12) (.slot 61))), none, none⟩]) (.seq (.seq (.reg [⟨(.aop (.mov (.lit (.int .i64 (0))))), (some 13), none⟩]) (.block 6 HL6)) (.seq (.reg [⟨(.aop (.mov (.slot 10))), (some 72), none⟩, ⟨(.call (.lit (.fn (.func 13) [] [])) [(.slot 72)]), (some 73), none⟩, ⟨(.aop (.store 32 (.slot 4) (.slot 73))), none, none⟩]) .ret))))))))
theorem comp15 : compC Tryd.prog 4 Tryd.f15.ntmps (fun _ => false) (Tryd.f15.body.getD .skip) = some c15 := by kernel_rfl
theorem pu2_ok {A : Ar} {Sh : List Int → List Int} {By tS tK : List Int → Bool} : PuOk (Γ2 A Sh By tS tK) fun _ => false := fun f h => by cases h
def Z64 : List Int := Z32 ++ Z32
def mem15 (S K Bk Bb : List Int) (l : List (Nat × AObj)) : List (Nat × AObj) := (0, .cells [] 62 .ro) :: (1, .cells [.sl 4 0 8 8 false 1] 62 .ro) :: (2, .cells [.sl 5 0 64 64 false 1] 62 .ro) :: (3, .cells [] 62 .ro) :: (4, .ints .u32 S 62 .ro) :: (5, .ints .u32 K 62 .ro) :: (6, .ints .u8 Bk 5 .ro) :: (7, .ints .u8 Bb 5 .ro) :: (8, .ints .u8 Z32 23 .exact) :: l
theorem low_lay8 {S K Bk Bb : List Int} {l : List (Nat × AObj)} {X : T AObj}
    (h0 : X.get 0 = some (.cells [] 62 .ro)) (h1 : X.get 1 = some (.cells [.sl 4 0 8 8 false 1] 62 .ro)) (h2 : X.get 2 = some (.cells [.sl 5 0 64 64 false 1] 62 .ro)) (h3 : X.get 3 = some (.cells [] 62 .ro))
    (h4 : X.get 4 = some (.ints .u32 S 62 .ro)) (h5 : X.get 5 = some (.ints .u32 K 62 .ro)) (h6 : X.get 6 = some (.ints .u8 Bk 5 .ro)) (h7 : X.get 7 = some (.ints .u8 Bb 5 .ro)) :
    ∀ b, b < 8 → (ofM (mem15 S K Bk Bb l)).get b = X.get b := by
  have key : ∀ (o : AObj) (b : Nat) (l : List (Nat × AObj)), b < 1000000 → (ofM ((b, o) :: l)).get b = some o := fun o b l h => by simp only [ofM]; rw [T.get_put _ _ _ _ (by omega), if_pos rfl]
  have skip : ∀ (o : AObj) (b c : Nat) (l : List (Nat × AObj)), c < 1000000 → b ≠ c → (ofM ((c, o) :: l)).get b = (ofM l).get b := fun o b c l h hn => by simp only [ofM]; rw [T.get_put _ _ _ _ (by omega), if_neg hn]
  intro b hb
  unfold mem15
  match b, hb with
  | 0, _ => rw [h0]; exact key _ _ _ (by omega)
  | 1, _ => rw [h1]; repeat rw [skip _ _ _ _ (by omega) (by omega)]
            exact key _ _ _ (by omega)
  | 2, _ => rw [h2]; repeat rw [skip _ _ _ _ (by omega) (by omega)]
            exact key _ _ _ (by omega)
  | 3, _ => rw [h3]; repeat rw [skip _ _ _ _ (by omega) (by omega)]
            exact key _ _ _ (by omega)
  | 4, _ => rw [h4]; repeat rw [skip _ _ _ _ (by omega) (by omega)]
            exact key _ _ _ (by omega)
  | 5, _ => rw [h5]; repeat rw [skip _ _ _ _ (by omega) (by omega)]
            exact key _ _ _ (by omega)
  | 6, _ => rw [h6]; repeat rw [skip _ _ _ _ (by omega) (by omega)]
            exact key _ _ _ (by omega)
  | 7, _ => rw [h7]; repeat rw [skip _ _ _ _ (by omega) (by omega)]
            exact key _ _ _ (by omega)
end Go.Proofs.YtjkicmlelilcaaaDoor
