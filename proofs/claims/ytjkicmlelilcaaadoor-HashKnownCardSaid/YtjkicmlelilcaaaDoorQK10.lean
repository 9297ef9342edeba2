/- Part 10 of the proof: texts of the proof. -/
import Derived.Test.YtjkicmlelilcaaaDoorQK9
import Derived.ChangeKeysEq
import Derived.Laws.StructEq
import Derived.Lib.ConvBytes
import Derived.Below
import Derived.Outline
import Derived.Deep.MidRow
import Derived.Deep.DeepCutAuto
import Derived.Maps.RangeRun
namespace Go.Proofs.YtjkicmlelilcaaaDoor
open Go
/-- The key laid byte by byte into 64. -/
def kT (l : List UInt8) : Nat → List UInt8
  | 0 => List.replicate 64 0
  | k + 1 => (kT l k).set k (at8 l k)
theorem kT_length (l : List UInt8) (k : Nat) : (kT l k).length = 64 := by
  induction k with
  | zero => simp [kT]
  | succ k ih => simp [kT, ih]
def oT (o h : List UInt8) (k : Nat) : List UInt8 := o ++ h.take k
theorem oT_succ (o h : List UInt8) (k : Nat) (hk : k < h.length) : oT o h (k + 1) = oT o h k ++ [at8 h k] := by
  unfold oT
  rw [List.take_succ_eq_append_getElem hk, List.append_assoc, at8, List.getD_eq_getElem?_getD, List.getElem?_eq_getElem hk]
  rfl
section
variable {A : Ar} {Γ : Gam} {nt : Nat} {K : AK} {env0 : T AV} {σ0 : AH} {LS LK LB LM : List Int}
theorem hp0 (hA : A = std) (nk nb : Nat) (Hq : List Int) (s : List UInt8) (hs : s.length = 32) (hHq : Hq = bI s)
    (hw : ∀ (k0 : Int) (Kq : List Int) (_ : k0 = ((0 : Nat) : Int)) (_ : Kq = bI (kT s 0)), Wk 4 nt 8 env0 σ0 (ofL [(0, .sl 6 0 nk nk false 1), (1, .sl 7 0 nb nb false 1), (4, .ptr 8 0), (5, .ptr 9 0), (6, .ptr 10 0), (7, .int .i64 k0)]) ⟨11, ofM (mem15 LS LK LB LM [(9, .ints .u8 Kq 97 .exact), (10, .ints .u8 Hq 23 .exact)])⟩)
    (hK : ∀ ta tb (k0 : Int) (Kq : List Int) (_ : k0 = ((32 : Nat) : Int)) (_ : Kq = bI (kT s 32)), K .normal (ofL [(19, ta), (20, tb), (0, .sl 6 0 nk nk false 1), (1, .sl 7 0 nb nb false 1), (4, .ptr 8 0), (5, .ptr 9 0), (6, .ptr 10 0), (7, .int .i64 k0)]) ⟨11, ofM (mem15 LS LK LB LM [(9, .ints .u8 Kq 97 .exact), (10, .ints .u8 Hq 23 .exact)])⟩) :
    avc A Γ 4 nt 8 (.block 0 HL0) K env0 σ0 := by
  unfold HL0 HB0
  refine avc_block (avc_loop
    (fun env σ => ∃ k : Nat, k ≤ 32 ∧ ∃ (k0 : Int) (Kq : List Int), k0 = ((k : Nat) : Int) ∧ Kq = bI (kT s k) ∧ env = ofL [(0, .sl 6 0 nk nk false 1), (1, .sl 7 0 nb nb false 1), (4, .ptr 8 0), (5, .ptr 9 0), (6, .ptr 10 0), (7, .int .i64 k0)] ∧ σ = ⟨11, ofM (mem15 LS LK LB LM [(9, .ints .u8 Kq 97 .exact), (10, .ints .u8 Hq 23 .exact)])⟩)
    (fun env _ => match env.get 7 with | some (.int _ k) => 32 - k.toNat | _ => 0)
    (hw _ _ rfl rfl) ⟨0, by omega, _, _, rfl, rfl, rfl, rfl⟩ ?_)
  rintro env σ ⟨k, hk, k0, Kq, hk0, hKq, rfl, rfl⟩
  refine avc_seq_seq (avc_seq_reg (by cbv) rfl (avc_seq_cond (t := A.lt k0 32) (by cbv) (fun ht => ?_) (fun ht => ?_)))
  · have hlt : k < 32 := by subst hA; simp only [std, decide_eq_true_eq] at ht; omega
    have hKl : Kq.length = 64 := by rw [hKq, bI_length, kT_length]
    have hHl : Hq.length = 32 := by rw [hHq, bI_length, hs]
    refine avc_seq_skip (avc_seq_block (avc_reg (by cbv) ?_ ?_))
    · have q0 : k0.toNat = k := by omega
      have q1 : Nat.blt k 32 = true := by rw [Nat.blt_eq]; omega
      have q3 : Nat.blt k 64 = true := by rw [Nat.blt_eq]; omega
      have q2 : (0 : Int) ≤ k0 := by omega
      subst hA
      simp [std, hKl, hHl, q0, q1, q2, q3]
    show avc A Γ 4 nt 8 _ _ _ _
    refine avc_reg (by cbv) rfl ?_
    obtain ⟨k1, hk1⟩ : ∃ k1 : Int, k1 = ((k + 1 : Nat) : Int) := ⟨_, rfl⟩
    obtain ⟨L1, hL1⟩ : ∃ L1, L1 = bI (kT s (k + 1)) := ⟨_, rfl⟩
    refine ⟨_, _, Wk.lay (ren 0 0) (l := [(0, .sl 6 0 nk nk false 1), (1, .sl 7 0 nb nb false 1), (4, .ptr 8 0), (5, .ptr 9 0), (6, .ptr 10 0), (7, .int .i64 k1)]) (L := mem15 LS LK LB LM [(9, .ints .u8 L1 97 .exact), (10, .ints .u8 Hq 23 .exact)]) (n := 11) rfl rfl rfl (by cbv) (by cbv) ?_ ?_ (by cbv) (by cbv) (by cbv) ?_, ⟨k + 1, by omega, k1, L1, hk1, hL1, rfl, rfl⟩, ?_⟩
    · refine had_cons (by cbv) rfl (had_cons (by cbv) rfl (had_cons (by cbv) rfl (had_cons (by cbv) rfl (had_cons (by cbv) rfl (had_cons (by cbv) rfl (had_cons (by cbv) rfl (had_cons (by cbv) rfl (had_cons (by cbv) rfl (had_cons ?_ rfl (had_cons (by cbv) rfl (had_nil)))))))))))
      conv => lhs; cbv
      subst hA
      have q0 : k0.toNat = k := by omega
      have e3 : Kq.set k (Hq.getD k 0) = L1 := by rw [hL1, hKq, hHq, bI_getD, bI_set, kT]
      simp only [std, q0, Nat.zero_add, Nat.mul_one]
      rw [e3]; rfl
    · exact low_lay8 (by cbv) (by cbv) (by cbv) (by cbv) (by cbv) (by cbv) (by cbv) (by cbv)
    · refine has_cons (by cbv) rfl (has_cons (by cbv) rfl (has_cons (by cbv) rfl (has_cons (by cbv) rfl (has_cons (by cbv) rfl (has_cons ?_ rfl (has_nil))))))
      conv => lhs; cbv
      subst hA
      simp only [std, wr]
      congr 2; omega
    · have g1 : (ofL [(0, .sl 6 0 nk nk false 1), (1, .sl 7 0 nb nb false 1), (4, .ptr 8 0), (5, .ptr 9 0), (6, .ptr 10 0), (7, .int .i64 k1)]).get 7 = some (.int .i64 k1) := by cbv
      have g0 : (ofL [(0, .sl 6 0 nk nk false 1), (1, .sl 7 0 nb nb false 1), (4, .ptr 8 0), (5, .ptr 9 0), (6, .ptr 10 0), (7, .int .i64 k0)]).get 7 = some (.int .i64 k0) := by cbv
      rw [g1, g0]
      show 32 - k1.toNat < 32 - k0.toNat
      omega
  · refine avc_seq_exit ?_
    have e : k = 32 := by subst hA; simp only [std, decide_eq_false_iff_not] at ht; omega
    subst e
    have hh := hK (.int .i64 k0) (.bool (A.lt k0 32)) k0 Kq hk0 hKq
    show K .normal _ _
    refine Eq.mp (congr (congrArg (K .normal) ?_) ?_) hh
    · cbv
    · cbv
theorem hp6 (hA : A = std) (Kq Hq : List Int) (o s : List UInt8) (ho : o.length ≤ 1000) (hs : s.length = 32) (hHq : Hq = bI s)
    (hw : ∀ (k0 : Int) (t0 : Nat) (Oq : List Int) (_ : k0 = ((0 : Nat) : Int)) (_ : t0 = o.length + 0) (_ : Oq = bI (oT o s 0)), Wk 4 nt 8 env0 σ0 (ofL [(4, .ptr 8 0), (10, .sl 10 0 t0 t0 false 1), (12, .ptr 11 0), (13, .int .i64 k0)]) ⟨12, ofM (mem15 LS LK LB LM [(9, .ints .u8 Kq 97 .exact), (10, .ints .u8 Oq 5 .more), (11, .ints .u8 Hq 23 .exact)])⟩)
    (hK : ∀ ta tb (k0 : Int) (t0 : Nat) (Oq : List Int) (_ : k0 = ((32 : Nat) : Int)) (_ : t0 = o.length + 32) (_ : Oq = bI (oT o s 32)), K .normal (ofL [(62, ta), (63, tb), (4, .ptr 8 0), (10, .sl 10 0 t0 t0 false 1), (12, .ptr 11 0), (13, .int .i64 k0)]) ⟨12, ofM (mem15 LS LK LB LM [(9, .ints .u8 Kq 97 .exact), (10, .ints .u8 Oq 5 .more), (11, .ints .u8 Hq 23 .exact)])⟩) :
    avc A Γ 4 nt 8 (.block 6 HL6) K env0 σ0 := by
  unfold HL6 HB6
  refine avc_block (avc_loop
    (fun env σ => ∃ k : Nat, k ≤ 32 ∧ ∃ (k0 : Int) (t0 : Nat) (Oq : List Int), k0 = ((k : Nat) : Int) ∧ t0 = o.length + k ∧ Oq = bI (oT o s k) ∧ env = ofL [(4, .ptr 8 0), (10, .sl 10 0 t0 t0 false 1), (12, .ptr 11 0), (13, .int .i64 k0)] ∧ σ = ⟨12, ofM (mem15 LS LK LB LM [(9, .ints .u8 Kq 97 .exact), (10, .ints .u8 Oq 5 .more), (11, .ints .u8 Hq 23 .exact)])⟩)
    (fun env _ => match env.get 13 with | some (.int _ k) => 32 - k.toNat | _ => 0)
    (hw _ _ _ rfl rfl rfl) ⟨0, by omega, _, _, _, rfl, rfl, rfl, rfl, rfl⟩ ?_)
  rintro env σ ⟨k, hk, k0, t0, Oq, hk0, ht0, hOq, rfl, rfl⟩
  refine avc_seq_seq (avc_seq_reg (by cbv) rfl (avc_seq_cond (t := A.lt k0 32) (by cbv) (fun ht => ?_) (fun ht => ?_)))
  · have hlt : k < 32 := by subst hA; simp only [std, decide_eq_true_eq] at ht; omega
    have hHl : Hq.length = 32 := by rw [hHq, bI_length, hs]
    have hOl : Oq.length = t0 := by rw [hOq, bI_length, oT, List.length_append, List.length_take, ht0]; omega
    have q0 : k0.toNat = k := by omega
    refine avc_seq_skip (avc_seq_block (avc_reg (by cbv) ?_ ?_))
    · have q1 : Nat.blt k 32 = true := by rw [Nat.blt_eq]; omega
      have q2 : (0 : Int) ≤ k0 := by omega
      have q4 : Nat.ble t0 t0 = true := by rw [Nat.ble_eq]; omega
      have q5 : Nat.ble (t0 + 1) 1000000000000 = true := by rw [Nat.ble_eq]; omega
      subst hA
      simp [std, hOl, hHl, q0, q1, q2, q4, q5]
    show avc A Γ 4 nt 8 _ _ _ _
    refine avc_reg (by cbv) rfl ?_
    obtain ⟨k1, hk1⟩ : ∃ k1 : Int, k1 = ((k + 1 : Nat) : Int) := ⟨_, rfl⟩
    obtain ⟨t1, ht1⟩ : ∃ t1 : Nat, t1 = o.length + (k + 1) := ⟨_, rfl⟩
    obtain ⟨L1, hL1⟩ : ∃ L1, L1 = bI (oT o s (k + 1)) := ⟨_, rfl⟩
    refine ⟨_, _, Wk.lay (ren 10 13) (l := [(4, .ptr 8 0), (10, .sl 10 0 t1 t1 false 1), (12, .ptr 11 0), (13, .int .i64 k1)]) (L := mem15 LS LK LB LM [(9, .ints .u8 Kq 97 .exact), (10, .ints .u8 L1 5 .more), (11, .ints .u8 Hq 23 .exact)]) (n := 12) rfl rfl rfl (by cbv) (by cbv) ?_ ?_ (by cbv) (by cbv) (by cbv) ?_, ⟨k + 1, by omega, k1, t1, L1, hk1, ht1, hL1, rfl, rfl⟩, ?_⟩
    · refine had_cons (by cbv) rfl (had_cons (by cbv) rfl (had_cons (by cbv) rfl (had_cons (by cbv) rfl (had_cons (by cbv) rfl (had_cons (by cbv) rfl (had_cons (by cbv) rfl (had_cons (by cbv) rfl (had_cons (by cbv) rfl (had_cons (by cbv) rfl (had_cons ?_ rfl (had_cons (by cbv) rfl (had_nil))))))))))))
      conv => lhs; cbv
      subst hA
      have e3 : List.take t0 (List.drop 0 Oq) ++ List.take 1 (List.drop 0 [Hq.getD k 0]) = L1 := by
        rw [hL1, oT_succ _ _ _ (by omega), bI, List.map_append, ← bI, ← hOq, hHq, bI_getD]
        simp [← hOl]
      simp only [std, q0, Nat.zero_add, Nat.mul_one]
      rw [e3]; rfl
    · exact low_lay8 (by cbv) (by cbv) (by cbv) (by cbv) (by cbv) (by cbv) (by cbv) (by cbv)
    · refine has_cons (by cbv) rfl (has_cons ?_ rfl (has_cons (by cbv) rfl (has_cons ?_ rfl (has_nil))))
      · conv => lhs; cbv
        subst hA
        have : t0 + 1 = t1 := by omega
        simp only [std, this]; rfl
      · conv => lhs; cbv
        subst hA
        simp only [std, wr]
        congr 2; omega
    · have g1 : (ofL [(4, .ptr 8 0), (10, .sl 10 0 t1 t1 false 1), (12, .ptr 11 0), (13, .int .i64 k1)]).get 13 = some (.int .i64 k1) := by cbv
      have g0 : (ofL [(4, .ptr 8 0), (10, .sl 10 0 t0 t0 false 1), (12, .ptr 11 0), (13, .int .i64 k0)]).get 13 = some (.int .i64 k0) := by cbv
      rw [g1, g0]
      show 32 - k1.toNat < 32 - k0.toNat
      omega
  · refine avc_seq_exit ?_
    have e : k = 32 := by subst hA; simp only [std, decide_eq_false_iff_not] at ht; omega
    subst e
    have hh := hK (.int .i64 k0) (.bool (A.lt k0 32)) k0 t0 Oq hk0 ht0 hOq
    show K .normal _ _
    refine Eq.mp (congr (congrArg (K .normal) ?_) ?_) hh
    · cbv
    · cbv
end
end Go.Proofs.YtjkicmlelilcaaaDoor
namespace Go.Proofs.YtjkicmlelilcaaaDoor
open Go
def xT (w : List UInt8) (c : UInt8) (k : Nat) : List UInt8 := (List.range k).map fun i => at8 w i ^^^ c
theorem xT_succ (w : List UInt8) (c : UInt8) (k : Nat) : xT w c (k + 1) = xT w c k ++ [at8 w k ^^^ c] := by
  unfold xT; rw [List.range_succ, List.map_append]; rfl
theorem xT_length (w : List UInt8) (c : UInt8) (k : Nat) : (xT w c k).length = k := by simp [xT]
theorem std_xor8 (x y : UInt8) : wr .u8 (stdBits .xor .u8 (N8 x) (N8 y)) = N8 (x ^^^ y) := by
  rw [← wr_eq]; exact u8_bits_xor x y
def ren2 (a b c d : Nat) (x : Nat) : Nat := bif Nat.beq x a then b else bif Nat.beq x c then d else x
section
variable {A : Ar} {Γ : Gam} {nt : Nat} {K : AK} {env0 : T AV} {σ0 : AH} {LS LK LB LM : List Int}
set_option maxHeartbeats 2000000 in
theorem hp4 (hA : A = std) (nb : Nat) (Kq : List Int) (w : List UInt8) (hw64 : w.length = 64) (hKq : Kq = bI w)
    (hw : ∀ (k0 : Int) (t0 : Nat) (Iq : List Int) (Oq : List Int) (_ : k0 = ((0 : Nat) : Int)) (_ : t0 = 0) (_ : Iq = bI (xT w 54 0)) (_ : Oq = bI (xT w 92 0)), Wk 4 nt 8 env0 σ0 (ofL [(1, .sl 7 0 nb nb false 1), (4, .ptr 8 0), (5, .ptr 9 0), (9, .sl 10 0 t0 t0 false 1), (10, .sl 11 0 t0 t0 false 1), (11, .int .i64 k0)]) ⟨12, ofM (mem15 LS LK LB LM [(9, .ints .u8 Kq 97 .exact), (10, .ints .u8 Iq 5 .more), (11, .ints .u8 Oq 5 .more)])⟩)
    (hK : ∀ ta tb (k0 : Int) (t0 : Nat) (Iq : List Int) (Oq : List Int) (_ : k0 = ((64 : Nat) : Int)) (_ : t0 = 64) (_ : Iq = bI (xT w 54 64)) (_ : Oq = bI (xT w 92 64)), K .normal (ofL [(40, ta), (41, tb), (1, .sl 7 0 nb nb false 1), (4, .ptr 8 0), (5, .ptr 9 0), (9, .sl 10 0 t0 t0 false 1), (10, .sl 11 0 t0 t0 false 1), (11, .int .i64 k0)]) ⟨12, ofM (mem15 LS LK LB LM [(9, .ints .u8 Kq 97 .exact), (10, .ints .u8 Iq 5 .more), (11, .ints .u8 Oq 5 .more)])⟩) :
    avc A Γ 4 nt 8 (.block 4 HL4) K env0 σ0 := by
  unfold HL4 HB4
  refine avc_block (avc_loop
    (fun env σ => ∃ k : Nat, k ≤ 64 ∧ ∃ (k0 : Int) (t0 : Nat) (Iq : List Int) (Oq : List Int), k0 = ((k : Nat) : Int) ∧ t0 = k ∧ Iq = bI (xT w 54 k) ∧ Oq = bI (xT w 92 k) ∧ env = ofL [(1, .sl 7 0 nb nb false 1), (4, .ptr 8 0), (5, .ptr 9 0), (9, .sl 10 0 t0 t0 false 1), (10, .sl 11 0 t0 t0 false 1), (11, .int .i64 k0)] ∧ σ = ⟨12, ofM (mem15 LS LK LB LM [(9, .ints .u8 Kq 97 .exact), (10, .ints .u8 Iq 5 .more), (11, .ints .u8 Oq 5 .more)])⟩)
    (fun env _ => match env.get 11 with | some (.int _ k) => 64 - k.toNat | _ => 0)
    (hw _ _ _ _ rfl rfl rfl rfl) ⟨0, by omega, _, _, _, _, rfl, rfl, rfl, rfl, rfl, rfl⟩ ?_)
  rintro env σ ⟨k, hk, k0, t0, Iq, Oq, hk0, ht0, hIq, hOq, rfl, rfl⟩
  refine avc_seq_seq (avc_seq_reg (by cbv) rfl (avc_seq_cond (t := A.lt k0 64) (by cbv) (fun ht => ?_) (fun ht => ?_)))
  · have hlt : k < 64 := by subst hA; simp only [std, decide_eq_true_eq] at ht; omega
    have hKl : Kq.length = 64 := by rw [hKq, bI_length, hw64]
    have hIl : Iq.length = t0 := by rw [hIq, bI_length, xT_length, ht0]
    have hOl : Oq.length = t0 := by rw [hOq, bI_length, xT_length, ht0]
    have q0 : k0.toNat = k := by omega
    have q1 : Nat.blt k 64 = true := by rw [Nat.blt_eq]; omega
    have q2 : (0 : Int) ≤ k0 := by omega
    have q4 : Nat.ble t0 t0 = true := by rw [Nat.ble_eq]; omega
    have q5 : Nat.ble (t0 + 1) 1000000000000 = true := by rw [Nat.ble_eq]; omega
    refine avc_seq_skip (avc_seq_block (avc_seq_reg (by cbv) ?_ (avc_reg (by cbv) ?_ ?_)))
    · subst hA
      simp [std, hKl, hIl, q0, q1, q2, q4, q5]
    · subst hA
      simp [std, hKl, hOl, q0, q1, q2, q4, q5]
    show avc A Γ 4 nt 8 _ _ _ _
    refine avc_reg (by cbv) rfl ?_
    obtain ⟨k1, hk1⟩ : ∃ k1 : Int, k1 = ((k + 1 : Nat) : Int) := ⟨_, rfl⟩
    obtain ⟨t1, ht1⟩ : ∃ t1 : Nat, t1 = k + 1 := ⟨_, rfl⟩
    obtain ⟨L1, hL1⟩ : ∃ L1, L1 = bI (xT w 54 (k + 1)) := ⟨_, rfl⟩
    obtain ⟨L2, hL2⟩ : ∃ L2, L2 = bI (xT w 92 (k + 1)) := ⟨_, rfl⟩
    refine ⟨_, _, Wk.lay (ren2 10 13 11 15) (l := [(1, .sl 7 0 nb nb false 1), (4, .ptr 8 0), (5, .ptr 9 0), (9, .sl 10 0 t1 t1 false 1), (10, .sl 11 0 t1 t1 false 1), (11, .int .i64 k1)]) (L := mem15 LS LK LB LM [(9, .ints .u8 Kq 97 .exact), (10, .ints .u8 L1 5 .more), (11, .ints .u8 L2 5 .more)]) (n := 12) rfl rfl rfl (by cbv) (by cbv) ?_ ?_ (by cbv) (by cbv) (by cbv) ?_, ⟨k + 1, by omega, k1, t1, L1, L2, hk1, ht1, hL1, hL2, rfl, rfl⟩, ?_⟩
    · refine had_cons (by cbv) rfl (had_cons (by cbv) rfl (had_cons (by cbv) rfl (had_cons (by cbv) rfl (had_cons (by cbv) rfl (had_cons (by cbv) rfl (had_cons (by cbv) rfl (had_cons (by cbv) rfl (had_cons (by cbv) rfl (had_cons (by cbv) rfl (had_cons ?_ rfl (had_cons ?_ rfl (had_nil))))))))))))
      · skip
        conv => lhs; cbv
        subst hA
        have e3 : List.take t0 (List.drop 0 Iq) ++ List.take 1 (List.drop 0 [N8 (at8 w k ^^^ 54)]) = L1 := by
          rw [hL1, xT_succ, bI, List.map_append, ← bI, ← hIq]
          simp [← hIl]
        have e4 : wr .u8 (stdBits .xor .u8 (Kq.getD k 0) 54) = N8 (at8 w k ^^^ 54) := by
          rw [hKq, bI_getD]; exact std_xor8 (at8 w k) 54
        simp only [std, q0, Nat.zero_add, Nat.mul_one, e4]
        rw [e3]; rfl
      · skip
        conv => lhs; cbv
        subst hA
        have e3 : List.take t0 (List.drop 0 Oq) ++ List.take 1 (List.drop 0 [N8 (at8 w k ^^^ 92)]) = L2 := by
          rw [hL2, xT_succ, bI, List.map_append, ← bI, ← hOq]
          simp [← hOl]
        have e4 : wr .u8 (stdBits .xor .u8 (Kq.getD k 0) 92) = N8 (at8 w k ^^^ 92) := by
          rw [hKq, bI_getD]; exact std_xor8 (at8 w k) 92
        simp only [std, q0, Nat.zero_add, Nat.mul_one, e4]
        rw [e3]; rfl
    · exact low_lay8 (by cbv) (by cbv) (by cbv) (by cbv) (by cbv) (by cbv) (by cbv) (by cbv)
    · refine has_cons (by cbv) rfl (has_cons (by cbv) rfl (has_cons (by cbv) rfl (has_cons ?_ rfl (has_cons ?_ rfl (has_cons ?_ rfl (has_nil))))))
      · conv => lhs; cbv
        subst hA
        have : t0 + 1 = t1 := by omega
        simp only [std, this]; rfl
      · conv => lhs; cbv
        subst hA
        have : t0 + 1 = t1 := by omega
        simp only [std, this]; rfl
      · conv => lhs; cbv
        subst hA
        simp only [std, wr]
        congr 2; omega
    · have g1 : (ofL [(1, .sl 7 0 nb nb false 1), (4, .ptr 8 0), (5, .ptr 9 0), (9, .sl 10 0 t1 t1 false 1), (10, .sl 11 0 t1 t1 false 1), (11, .int .i64 k1)]).get 11 = some (.int .i64 k1) := by cbv
      have g0 : (ofL [(1, .sl 7 0 nb nb false 1), (4, .ptr 8 0), (5, .ptr 9 0), (9, .sl 10 0 t0 t0 false 1), (10, .sl 11 0 t0 t0 false 1), (11, .int .i64 k0)]).get 11 = some (.int .i64 k0) := by cbv
      rw [g1, g0]
      show 64 - k1.toNat < 64 - k0.toNat
      omega
  · refine avc_seq_exit ?_
    have e : k = 64 := by subst hA; simp only [std, decide_eq_false_iff_not] at ht; omega
    subst e
    have hh := hK (.int .i64 k0) (.bool (A.lt k0 64)) k0 t0 Iq Oq hk0 ht0 hIq hOq
    show K .normal _ _
    refine Eq.mp (congr (congrArg (K .normal) ?_) ?_) hh
    · cbv
    · cbv
end
end Go.Proofs.YtjkicmlelilcaaaDoor
namespace Go.Proofs.YtjkicmlelilcaaaDoor
open Go
section
variable {A : Ar} {Γ : Gam} {nt : Nat} {K : AK} {env0 : T AV} {σ0 : AH} {LS LK LB LM : List Int}
set_option maxHeartbeats 2000000 in
theorem hp2 (hA : A = std) (nb nk : Nat) (key : List UInt8) (hk64 : key.length ≤ 64) (hnk : nk = key.length) (hLB : LB = bI key)
    (hw : ∀ (k0 : Int) (Kq : List Int) (_ : k0 = ((0 : Nat) : Int)) (_ : Kq = bI (kT key 0)), Wk 4 nt 8 env0 σ0 (ofL [(0, .sl 6 0 nk nk false 1), (1, .sl 7 0 nb nb false 1), (4, .ptr 8 0), (5, .ptr 9 0), (8, .int .i64 k0)]) ⟨10, ofM (mem15 LS LK LB LM [(9, .ints .u8 Kq 97 .exact)])⟩)
    (hK : ∀ ta tb tc td (k0 : Int) (Kq : List Int) (_ : Kq = bI (kT key key.length)), K .normal (ofL [(28, ta), (29, tb), (30, tc), (31, td), (0, .sl 6 0 nk nk false 1), (1, .sl 7 0 nb nb false 1), (4, .ptr 8 0), (5, .ptr 9 0), (8, .int .i64 k0)]) ⟨10, ofM (mem15 LS LK LB LM [(9, .ints .u8 Kq 97 .exact)])⟩) :
    avc A Γ 4 nt 8 (.block 2 HL2) K env0 σ0 := by
  unfold HL2 HB2
  refine avc_block (avc_loop
    (fun env σ => ∃ k : Nat, k ≤ nk ∧ ∃ k0 Kq, k0 = ((k : Nat) : Int) ∧ Kq = bI (kT key k) ∧ env = ofL [(0, .sl 6 0 nk nk false 1), (1, .sl 7 0 nb nb false 1), (4, .ptr 8 0), (5, .ptr 9 0), (8, .int .i64 k0)] ∧ σ = ⟨10, ofM (mem15 LS LK LB LM [(9, .ints .u8 Kq 97 .exact)])⟩)
    (fun env _ => match env.get 8 with | some (.int _ k) => nk - k.toNat | _ => 0)
    (hw _ _ rfl rfl) ⟨0, by omega, _, _, rfl, rfl, rfl, rfl⟩ ?_)
  rintro env σ ⟨k, hk, k0, Kq, hk0, hKq, rfl, rfl⟩
  refine avc_seq_seq (avc_seq_reg (by cbv) rfl (avc_seq_cond (t := A.lt k0 (nk : Int)) (by cbv) (fun ht => ?_) (fun ht => ?_)))
  · have hlt : k < nk := by subst hA; simp only [std, decide_eq_true_eq] at ht; omega
    have hKl : Kq.length = 64 := by rw [hKq, bI_length, kT_length]
    have hBl : LB.length = nk := by rw [hLB, bI_length, hnk]
    have q0 : k0.toNat = k := by omega
    refine avc_seq_skip (avc_seq_block (avc_reg (by cbv) ?_ ?_))
    · have q1 : Nat.blt k nk = true := by rw [Nat.blt_eq]; omega
      have q3 : Nat.blt k 64 = true := by rw [Nat.blt_eq]; omega
      have q2 : (0 : Int) ≤ k0 := by omega
      subst hA
      simp [std, hKl, hBl, q0, q1, q2, q3]
    show avc A Γ 4 nt 8 _ _ _ _
    refine avc_reg (by cbv) rfl ?_
    obtain ⟨k1, hk1⟩ : ∃ k1 : Int, k1 = ((k + 1 : Nat) : Int) := ⟨_, rfl⟩
    obtain ⟨L1, hL1⟩ : ∃ L1, L1 = bI (kT key (k + 1)) := ⟨_, rfl⟩
    refine ⟨_, _, Wk.lay (ren 0 0) (l := [(0, .sl 6 0 nk nk false 1), (1, .sl 7 0 nb nb false 1), (4, .ptr 8 0), (5, .ptr 9 0), (8, .int .i64 k1)]) (L := mem15 LS LK LB LM [(9, .ints .u8 L1 97 .exact)]) (n := 10) rfl rfl rfl (by cbv) (by cbv) ?_ ?_ (by cbv) (by cbv) (by cbv) ?_, ⟨k + 1, by omega, k1, L1, hk1, hL1, rfl, rfl⟩, ?_⟩
    · refine had_cons (by cbv) rfl (had_cons (by cbv) rfl (had_cons (by cbv) rfl (had_cons (by cbv) rfl (had_cons (by cbv) rfl (had_cons (by cbv) rfl (had_cons (by cbv) rfl (had_cons (by cbv) rfl (had_cons (by cbv) rfl (had_cons ?_ rfl (had_nil))))))))))
      conv => lhs; cbv
      subst hA
      have e3 : Kq.set k (LB.getD k 0) = L1 := by rw [hL1, hKq, hLB, bI_getD, bI_set, kT]
      simp only [std, q0, Nat.zero_add, Nat.mul_one]
      rw [e3]; rfl
    · exact low_lay8 (by cbv) (by cbv) (by cbv) (by cbv) (by cbv) (by cbv) (by cbv) (by cbv)
    · refine has_cons (by cbv) rfl (has_cons (by cbv) rfl (has_cons (by cbv) rfl (has_cons (by cbv) rfl (has_cons ?_ rfl (has_nil)))))
      conv => lhs; cbv
      subst hA
      simp only [std, wr]
      congr 2; omega
    · have g1 : (ofL [(0, .sl 6 0 nk nk false 1), (1, .sl 7 0 nb nb false 1), (4, .ptr 8 0), (5, .ptr 9 0), (8, .int .i64 k1)]).get 8 = some (.int .i64 k1) := by cbv
      have g0 : (ofL [(0, .sl 6 0 nk nk false 1), (1, .sl 7 0 nb nb false 1), (4, .ptr 8 0), (5, .ptr 9 0), (8, .int .i64 k0)]).get 8 = some (.int .i64 k0) := by cbv
      rw [g1, g0]
      show nk - k1.toNat < nk - k0.toNat
      omega
  · refine avc_seq_exit ?_
    have e : k = key.length := by subst hA; simp only [std, decide_eq_false_iff_not] at ht; omega
    subst e
    have hh := hK (.int .i64 k0) (.sl 6 0 nk nk false 1) (.int .i64 nk) (.bool (A.lt k0 (nk : Int))) k0 Kq hKq
    show K .normal _ _
    refine Eq.mp (congr (congrArg (K .normal) ?_) ?_) hh
    · cbv
    · cbv
/-- The two ways of saying what is done to the key. -/
theorem kT_at (l : List UInt8) (k i : Nat) (hk : k ≤ 64) : at8 (kT l k) i = if i < k then at8 l i else 0 := by
  induction k with
  | zero =>
    rw [if_neg (by omega), kT, at8, List.getD_eq_getElem?_getD, List.getElem?_replicate]
    split <;> rfl
  | succ k ih =>
    have ih := ih (by omega)
    rw [kT]
    by_cases hik : i = k
    · subst hik
      rw [if_pos (by omega), at8, List.getD_eq_getElem?_getD, List.getElem?_set_self (by rw [kT_length]; omega)]; rfl
    · have : at8 ((kT l k).set k (at8 l k)) i = at8 (kT l k) i := by
        unfold at8
        rw [List.getD_eq_getElem?_getD, List.getElem?_set_ne (by omega), List.getD_eq_getElem?_getD]
      rw [this, ih]
      by_cases h : i < k
      · rw [if_pos h, if_pos (by omega)]
      · rw [if_neg h, if_neg (by omega)]
end
end Go.Proofs.YtjkicmlelilcaaaDoor
namespace Go.Proofs.YtjkicmlelilcaaaDoor
open Go
theorem extB8 (a b : List UInt8) (h : a.length = b.length) (h2 : ∀ i, i < a.length → at8 a i = at8 b i) : a = b := by
  apply List.ext_getElem h
  intro i h3 h4
  have := h2 i h3
  unfold at8 at this
  rwa [List.getD_eq_getElem?_getD, List.getD_eq_getElem?_getD, List.getElem?_eq_getElem h3, List.getElem?_eq_getElem h4] at this
theorem keyW_at (l : List UInt8) (i : Nat) : at8 (keyW l) i = if i < l.length then at8 l i else 0 := by
  unfold keyW at8
  rw [List.getD_eq_getElem?_getD, List.getElem?_append]
  by_cases h : i < l.length
  · rw [if_pos h, if_pos h, List.getD_eq_getElem?_getD]
  · rw [if_neg h, if_neg h, List.getElem?_replicate]
    split <;> rfl
theorem kT_keyW (l : List UInt8) (h : l.length ≤ 64) : kT l l.length = keyW l := by
  refine extB8 _ _ (by rw [kT_length, keyW_length l h]) fun i _ => ?_
  rw [kT_at l _ i h, keyW_at]
theorem xT_at (w : List UInt8) (c : UInt8) (k i : Nat) (h : i < k) : at8 (xT w c k) i = at8 w i ^^^ c := by
  conv => lhs; unfold at8
  unfold xT
  rw [List.getD_eq_getElem?_getD, List.getElem?_map, List.getElem?_range h]; rfl
theorem xT_chg (key : List UInt8) (c : UInt8) (h : key.length ≤ 64) : xT (keyW key) c 64 = chg key c := by
  refine extB8 _ _ (by rw [xT_length, chg_length key c h]) fun i hi => ?_
  rw [xT_length] at hi
  rw [xT_at _ _ _ _ hi, chg, chgTo_at key c h 64 i hi, if_pos hi]
theorem toBs_bI (l : List UInt8) : toBs (bI l) = l := by
  unfold toBs bI
  rw [List.map_map]
  conv => rhs; rw [← List.map_id l]
  refine List.map_congr_left fun n _ => ?_
  simp [N8]
theorem byI_bI (l : List UInt8) : byI (bI l) = true := by
  unfold byI bI
  rw [List.all_eq_true]
  intro n hn
  obtain ⟨x, _, rfl⟩ := List.mem_map.1 hn
  have := N8_bd x
  simp; omega
end Go.Proofs.YtjkicmlelilcaaaDoor
namespace Go.Proofs.YtjkicmlelilcaaaDoor
open Go
def T15 : ACode := (.seq (.reg [⟨(.aop (.mov (.slot 9))), (some 58), none⟩, ⟨(.aop (.mov (.slot 1))), (some 59), none⟩, ⟨(.aop (.ext (.append 5 false 1) [(.slot 58), (.slot 59)])), (some 60), none⟩, ⟨(.call (.lit (.fn (.func 13) [] [])) [(.slot 60)]), (some 61), none⟩, ⟨(.aop (.alloc 23 [(.int .u8 (0)), (.int .u8 (0)), (.int .u8 (0)), (.int .u8 (0)), (.int .u8 (0)), (.int .u8 (0)), (.int .u8 (0)), (.int .u8 (0)), (.int .u8 (0)), (.int .u8 (0)), (.int .u8 (0)), (.int .u8 (0)), (.int .u8 (0)), (.int .u8 (0)), (.int .u8 (0)), (.int .u8 (0)), (.int .u8 (0)), (.int .u8 (0)), (.int .u8 (0)), (.int .u8 (0)), (.int .u8 (0)), (.int .u8 (0)), (.int .u8 (0)), (.int .u8 (0)), (.int .u8 (0)), (.int .u8 (0)), (.int .u8 (0)), (.int .u8 (0)), (.int .u8 (0)), (.int .u8 (0)), (.int .u8 (0)), (.int .u8 (0))])), (some 12), none⟩, ⟨(.aop (.store 32 (.slot 12) (.slot 61))), none, none⟩]) (.seq (.seq (.reg [⟨(.aop (.mov (.lit (.int .i64 (0))))), (some 13), none⟩]) (.block 6 HL6)) (.seq (.reg [⟨(.aop (.mov (.slot 10))), (some 72), none⟩, ⟨(.call (.lit (.fn (.func 13) [] [])) [(.slot 72)]), (some 73), none⟩, ⟨(.aop (.store 32 (.slot 4) (.slot 73))), none, none⟩]) .ret)))
section
variable {A : Ar} {Sh : List Int → List Int} {By tS tK : List Int → Bool} {nt : Nat} {LS LK LB LM : List Int}
set_option maxHeartbeats 2000000 in
theorem tail15 (hA : A = std) (hSh : Sh = shaI) (hBy : By = byI) (htS : tS = isS) (htK : tK = isK) (hLS : LS = wI S0) (hLK : LK = wI KK) (bs : List UInt8) (hb : bs.length ≤ 10000000000) (nb : Nat) (hnb : nb = bs.length) (hLM : LM = bI bs)
    (w : List UInt8) (Kq Iq Oq : List Int) (hIq : Iq = bI (xT w 54 64)) (hOq : Oq = bI (xT w 92 64)) (ta tb : AV) (k0 : Int) :
    avc A (Γ2 A Sh By tS tK) 4 nt 8 T15 (fun e env σ' => (match e with | .normal => True | .ret => True | _ => False) ∧ (resL A env σ' [.cellN 4 32]).1 = true ∧ retV (resL A env σ' [.cellN 4 32]).2 = .ints .u8 (bI (shaB (xT w 92 64 ++ shaB (xT w 54 64 ++ bs)))))
      (ofL [(40, ta), (41, tb), (1, .sl 7 0 nb nb false 1), (4, .ptr 8 0), (5, .ptr 9 0), (9, .sl 10 0 64 64 false 1), (10, .sl 11 0 64 64 false 1), (11, .int .i64 k0)]) ⟨12, ofM (mem15 LS LK LB LM [(9, .ints .u8 Kq 97 .exact), (10, .ints .u8 Iq 5 .more), (11, .ints .u8 Oq 5 .more)])⟩ := by
  unfold T15
  have hIl : Iq.length = 64 := by rw [hIq, bI_length, xT_length]
  have hOl : Oq.length = 64 := by rw [hOq, bI_length, xT_length]
  have hMl : LM.length = nb := by rw [hLM, bI_length, hnb]
  obtain ⟨LX, hLX⟩ : ∃ LX, LX = bI (xT w 54 64 ++ bs) := ⟨_, rfl⟩
  have eX : A.app (A.part Iq 0 (A.mulN 64 1)) (A.part LM 0 (A.mulN nb 1)) = LX := by
    subst hA
    rw [hLX, bI, List.map_append, ← bI, ← bI, ← hIq, ← hLM]
    simp [std, ← hMl, ← hIl]
  have eY : A.part LX 0 (A.mulN (A.addN 64 nb) 1) = LX := by
    subst hA
    have : LX.length = 64 + nb := by rw [hLX, bI_length, List.length_append, xT_length, hnb]
    simp [std, ← this]
  have hXl : LX.length = 64 + nb := by rw [hLX, bI_length, List.length_append, xT_length, hnb]
  have hSl : (Sh LX).length = 32 := by rw [hSh, shaI, bI_length, shaB_length]
  have hBX : By LX = true := by rw [hBy, hLX]; exact byI_bI _
  have hS1 : tS LS = true := by rw [htS, hLS]; simp [isS]
  have hK1 : tK LK = true := by rw [htK, hLK]; simp [isK]
  conv at eX => lhs; cbv
  conv at eY => lhs; cbv
  have eSX : Sh LX = bI (shaB (xT w 54 64 ++ bs)) := by rw [hSh, hLX, shaI, toBs_bI]
  have q1 : Nat.ble nb nb = true := by rw [Nat.ble_eq]; omega
  have q2 : Nat.ble (64 + nb) 1000000000000 = true := by rw [Nat.ble_eq]; omega
  have q3 : Nat.ble (64 + nb) 100000000000 = true := by rw [Nat.ble_eq]; omega
  have q4 : Nat.ble (64 + nb) (64 + nb) = true := by rw [Nat.ble_eq]; omega
  refine avc_seq_reg (by cbv) ?_ ?_
  · simp only [eX, eY, hBX, hS1, hK1]
    subst hA
    simp [std, hIl, hMl, hXl, hSl, q1, q2, q3, q4] <;> rfl
  simp only [eX, eY]
  refine avc_seq_seq (avc_seq_reg (by cbv) rfl (avc_seq (hp6 hA Kq (Sh LX) (xT w 92 64) (shaB (xT w 54 64 ++ bs)) (by rw [xT_length]; omega) (shaB_length _) eSX (LS := LS) (LK := LK) (LB := LB) (LM := LM) ?_ ?_)))
  · intro k1 t0 Oq' hk1 ht0 hOq'
    have e1 : Oq' = Oq := by rw [hOq', hOq]; simp [oT]
    have e2 : t0 = 64 := by rw [ht0, xT_length]
    subst hk1 e1 e2
    refine Wk.lay (ren2 10 11 11 13) rfl rfl rfl (by cbv) (by cbv) (had_cons (by cbv) rfl (had_cons (by cbv) rfl (had_cons (by cbv) rfl (had_cons (by cbv) rfl (had_cons (by cbv) rfl (had_cons (by cbv) rfl (had_cons (by cbv) rfl (had_cons (by cbv) rfl (had_cons (by cbv) rfl (had_cons (by cbv) rfl (had_cons (by cbv) rfl (had_cons ?_ rfl (had_nil))))))))))))) (low_lay8 (by cbv) (by cbv) (by cbv) (by cbv) (by cbv) (by cbv) (by cbv) (by cbv)) (by cbv) (by cbv) (by cbv) (has_cons (by cbv) rfl (has_cons (by cbv) rfl (has_cons (by cbv) rfl (has_cons (by cbv) rfl (has_nil)))))
    conv => lhs; cbv
    subst hA
    have e4 : List.take 0 [(0:Int),0,0,0,0,0,0,0,0,0,0,0,0,0,0,0,0,0,0,0,0,0,0,0,0,0,0,0,0,0,0,0] ++ Sh LX ++ List.drop (0 + (Sh LX).length) [0,0,0,0,0,0,0,0,0,0,0,0,0,0,0,0,0,0,0,0,0,0,0,0,0,0,0,0,0,0,0,0] = Sh LX := by
      rw [hSl]; simp
    simp only [std]
    rw [e4]; rfl
  intro ta tb k1 t0 Oq' hk1 ht0 hOq'
  show avc A (Γ2 A Sh By tS tK) 4 nt 8 _ _ _ _
  have e2 : t0 = 96 := by rw [ht0, xT_length]
  subst e2
  have hOl' : Oq'.length = 96 := by rw [hOq', bI_length, oT, List.length_append, xT_length, List.length_take, shaB_length]; rfl
  have eZ : A.part Oq' 0 (A.mulN 96 1) = Oq' := by subst hA; simp [std, ← hOl']
  conv at eZ => lhs; cbv
  have hBO : By Oq' = true := by rw [hBy, hOq']; exact byI_bI _
  have hSO : (Sh Oq').length = 32 := by rw [hSh, shaI, bI_length, shaB_length]
  have eSO : Sh Oq' = bI (shaB (xT w 92 64 ++ shaB (xT w 54 64 ++ bs))) := by
    rw [hSh, hOq', shaI, toBs_bI, oT, List.take_of_length_le (by rw [shaB_length]; omega)]
  refine avc_seq_reg (by cbv) ?_ ⟨trivial, ?_, ?_⟩
  · simp only [eZ, hBO, hS1, hK1]
    subst hA
    simp [std, hOl', hSO] <;> rfl
  · conv => lhs; cbv
    simp only [eZ]
    subst hA
    simp [std, hSO] <;> rfl
  · conv => lhs; cbv
    simp only [eZ]
    subst hA
    rw [← eSO]
    simp [std, hSO]
    exact List.take_of_length_le (by rw [hSO]; omega)
end
end Go.Proofs.YtjkicmlelilcaaaDoor
namespace Go.Proofs.YtjkicmlelilcaaaDoor
open Go
def mem00 (S K Bk Bb : List Int) : List (Nat × AObj) := [(0, .cells [] 62 .ro), (1, .cells [.sl 4 0 8 8 false 1] 62 .ro), (2, .cells [.sl 5 0 64 64 false 1] 62 .ro), (3, .cells [] 62 .ro), (4, .ints .u32 S 62 .ro), (5, .ints .u32 K 62 .ro), (6, .ints .u8 Bk 5 .ro), (7, .ints .u8 Bb 5 .ro)]
set_option maxHeartbeats 4000000 in
theorem rhm_avc (key bs : List UInt8) (hkl : key.length ≤ 10000000000) (hb : bs.length ≤ 10000000000) (nt : Nat) :
    avc std (Γ2 std shaI byI isS isK) 4 nt 8 c15 (fun e env σ' => (match e with | .normal => True | .ret => True | _ => False) ∧ (resL std env σ' [.cellN 4 32]).1 = true ∧ retV (resL std env σ' [.cellN 4 32]).2 = .ints .u8 (bI (hmB key bs)))
      (envOf [.sl 6 0 key.length key.length false 1, .sl 7 0 bs.length bs.length false 1] 0 .leaf) ⟨8, ofM (mem00 (wI S0) (wI KK) (bI key) (bI bs))⟩ := by
  obtain ⟨A, hA⟩ : ∃ A, A = std := ⟨_, rfl⟩
  obtain ⟨Sh, hSh⟩ : ∃ Sh, Sh = shaI := ⟨_, rfl⟩
  obtain ⟨By, hBy⟩ : ∃ By, By = byI := ⟨_, rfl⟩
  obtain ⟨tS, htS⟩ : ∃ tS, tS = isS := ⟨_, rfl⟩
  obtain ⟨tK, htK⟩ : ∃ tK, tK = isK := ⟨_, rfl⟩
  rw [← hA, ← hSh, ← hBy, ← htS, ← htK]
  unfold c15
  obtain ⟨nk, hnk⟩ : ∃ n, n = key.length := ⟨_, rfl⟩
  obtain ⟨nb, hnb⟩ : ∃ n, n = bs.length := ⟨_, rfl⟩
  obtain ⟨LS, hLS⟩ : ∃ LS, LS = wI S0 := ⟨_, rfl⟩
  obtain ⟨LK, hLK⟩ : ∃ LK, LK = wI KK := ⟨_, rfl⟩
  obtain ⟨LB, hLB⟩ : ∃ LB, LB = bI key := ⟨_, rfl⟩
  obtain ⟨LM, hLM⟩ : ∃ LM, LM = bI bs := ⟨_, rfl⟩
  rw [← hnk, ← hnb, ← hLS, ← hLK, ← hLB, ← hLM]
  have hBl : LB.length = nk := by rw [hLB, bI_length, hnk]
  have hS1 : tS LS = true := by rw [htS, hLS]; simp [isS]
  have hK1 : tK LK = true := by rw [htK, hLK]; simp [isK]
  have hBX : By LB = true := by rw [hBy, hLB]; exact byI_bI _
  have hSl : (Sh LB).length = 32 := by rw [hSh, shaI, bI_length, shaB_length]
  have eSX : Sh LB = bI (shaB key) := by rw [hSh, hLB, shaI, toBs_bI]
  have q1 : Nat.ble nk nk = true := by rw [Nat.ble_eq]; omega
  have q3 : Nat.ble nk 100000000000 = true := by rw [Nat.ble_eq]; omega
  have eY : A.part LB 0 (A.mulN nk 1) = LB := by
    subst hA
    simp [std, ← hBl]
  conv at eY => lhs; cbv
  refine avc_seq_reg (by cbv) rfl (avc_seq_reg (by cbv) rfl (avc_seq_seq (avc_seq_reg (by cbv) rfl (avc_seq_cond (t := A.lt 64 (nk : Int)) (by cbv) (fun ht => ?_) (fun ht => ?_)))))
  · have hgt : key.length > 64 := by subst hA; simp only [std, decide_eq_true_eq] at ht; omega
    refine avc_seq_seq (avc_seq_reg (by cbv) ?_ ?_)
    · simp only [eY, hBX, hS1, hK1]
      subst hA
      simp [std, hBl, hSl, q1, q3] <;> rfl
    simp only [eY]
    refine avc_seq_seq (avc_seq_reg (by cbv) rfl (avc_seq (hp0 hA nk nb (Sh LB) (shaB key) (shaB_length _) eSX (LS := LS) (LK := LK) (LB := LB) (LM := LM) ?_ ?_)))
    · intro k0 Kq hk0 hKq
      have e1 : Kq = Z64 := by rw [hKq]; rfl
      subst hk0 e1
      refine Wk.lay (ren 0 0) rfl rfl rfl (by cbv) (by cbv) (had_cons (by cbv) rfl (had_cons (by cbv) rfl (had_cons (by cbv) rfl (had_cons (by cbv) rfl (had_cons (by cbv) rfl (had_cons (by cbv) rfl (had_cons (by cbv) rfl (had_cons (by cbv) rfl (had_cons (by cbv) rfl (had_cons (by cbv) rfl (had_cons ?_ rfl (had_nil)))))))))))) (low_lay8 (by cbv) (by cbv) (by cbv) (by cbv) (by cbv) (by cbv) (by cbv) (by cbv)) (by cbv) (by cbv) (by cbv) (has_cons (by cbv) rfl (has_cons (by cbv) rfl (has_cons (by cbv) rfl (has_cons (by cbv) rfl (has_cons (by cbv) rfl (has_cons (by cbv) rfl (has_nil)))))))
      conv => lhs; cbv
      subst hA
      have e4 : List.take 0 [(0:Int),0,0,0,0,0,0,0,0,0,0,0,0,0,0,0,0,0,0,0,0,0,0,0,0,0,0,0,0,0,0,0] ++ Sh LB ++ List.drop (0 + (Sh LB).length) [0,0,0,0,0,0,0,0,0,0,0,0,0,0,0,0,0,0,0,0,0,0,0,0,0,0,0,0,0,0,0,0] = Sh LB := by
        rw [hSl]; simp
      simp only [std]
      rw [e4]; rfl
    · intro ta tb k0 Kq hk0 hKq
      show avc A (Γ2 A Sh By tS tK) 4 nt 8 _ _ _ _
      have hkw : kT (shaB key) 32 = keyW (shaB key) := by
        have := kT_keyW (shaB key) (by rw [shaB_length]; omega)
        rwa [shaB_length] at this
      rw [hkw] at hKq
      have hres : hmB key bs = shaB (xT (keyW (shaB key)) 92 64 ++ shaB (xT (keyW (shaB key)) 54 64 ++ bs)) := by
        rw [xT_chg _ _ (by rw [shaB_length]; omega), xT_chg _ _ (by rw [shaB_length]; omega), hmB, if_pos hgt, hmS]
      refine avc_seq_reg (by cbv) rfl (avc_seq_seq (avc_seq_reg (by cbv) rfl (avc_seq (hp4 hA nb Kq (keyW (shaB key)) (keyW_length _ (by rw [shaB_length]; omega)) hKq (LS := LS) (LK := LK) (LB := LB) (LM := LM) ?_ ?_))))
      · intro k3 t0 Iq Oq hk3 ht0 hIq hOq
        have e1 : Iq = [] := by rw [hIq]; rfl
        have e2 : Oq = [] := by rw [hOq]; rfl
        subst hk3 ht0 e1 e2
        exact Wk.trans (Wk.lay (ren 0 0) (l := [(1, .sl 7 0 nb nb false 1), (4, .ptr 8 0), (5, .ptr 9 0), (9, .nilsl), (10, .nilsl), (11, .int .i64 ((0 : Nat) : Int))]) (L := mem15 LS LK LB LM [(9, .ints .u8 Kq 97 .exact)]) (n := 10) rfl rfl rfl (by cbv) (by cbv) (had_cons (by cbv) rfl (had_cons (by cbv) rfl (had_cons (by cbv) rfl (had_cons (by cbv) rfl (had_cons (by cbv) rfl (had_cons (by cbv) rfl (had_cons (by cbv) rfl (had_cons (by cbv) rfl (had_cons (by cbv) rfl (had_cons (by cbv) rfl (had_nil))))))))))) (low_lay8 (by cbv) (by cbv) (by cbv) (by cbv) (by cbv) (by cbv) (by cbv) (by cbv)) (by cbv) (by cbv) (by cbv) (has_cons (by cbv) rfl (has_cons (by cbv) rfl (has_cons (by cbv) rfl (has_cons (by cbv) rfl (has_cons (by cbv) rfl (has_cons (by cbv) rfl (has_nil)))))))) (Wk.trans (Wk.nil 9 1 (.ints .u8 [] 5 .more) (by cbv) rfl rfl rfl) (Wk.trans (Wk.nil 10 1 (.ints .u8 [] 5 .more) (by cbv) rfl rfl rfl) (Wk.lay (ren 0 0) rfl rfl rfl (by cbv) (by cbv) (had_cons (by cbv) rfl (had_cons (by cbv) rfl (had_cons (by cbv) rfl (had_cons (by cbv) rfl (had_cons (by cbv) rfl (had_cons (by cbv) rfl (had_cons (by cbv) rfl (had_cons (by cbv) rfl (had_cons (by cbv) rfl (had_cons (by cbv) rfl (had_cons (by cbv) rfl (had_cons (by cbv) rfl (had_nil))))))))))))) (low_lay8 (by cbv) (by cbv) (by cbv) (by cbv) (by cbv) (by cbv) (by cbv) (by cbv)) (by cbv) (by cbv) (by cbv) (has_cons (by cbv) rfl (has_cons (by cbv) rfl (has_cons (by cbv) rfl (has_cons (by cbv) rfl (has_cons (by cbv) rfl (has_cons (by cbv) rfl (has_nil))))))))))
      · intro ta tb k3 t0 Iq Oq hk3 ht0 hIq hOq
        subst ht0
        show avc A (Γ2 A Sh By tS tK) 4 nt 8 _ _ _ _
        rw [hres]
        exact tail15 hA hSh hBy htS htK hLS hLK bs hb nb hnb hLM (keyW (shaB key)) Kq Iq Oq hIq hOq ta tb k3
  · have hle : key.length ≤ 64 := by subst hA; simp only [std, decide_eq_false_iff_not] at ht; omega
    refine avc_seq_seq (avc_seq_reg (by cbv) rfl (avc_seq (hp2 hA nb nk key hle hnk hLB (LS := LS) (LK := LK) (LM := LM) ?_ ?_)))
    · intro k0 Kq hk0 hKq
      have e1 : Kq = Z64 := by rw [hKq]; rfl
      subst hk0 e1
      exact Wk.lay (ren 0 0) rfl rfl rfl (by cbv) (by cbv) (had_cons (by cbv) rfl (had_cons (by cbv) rfl (had_cons (by cbv) rfl (had_cons (by cbv) rfl (had_cons (by cbv) rfl (had_cons (by cbv) rfl (had_cons (by cbv) rfl (had_cons (by cbv) rfl (had_cons (by cbv) rfl (had_cons (by cbv) rfl (had_nil))))))))))) (low_lay8 (by cbv) (by cbv) (by cbv) (by cbv) (by cbv) (by cbv) (by cbv) (by cbv)) (by cbv) (by cbv) (by cbv) (has_cons (by cbv) rfl (has_cons (by cbv) rfl (has_cons (by cbv) rfl (has_cons (by cbv) rfl (has_cons (by cbv) rfl (has_nil))))))
    · intro ta tb tc td k0 Kq hKq
      show avc A (Γ2 A Sh By tS tK) 4 nt 8 _ _ _ _
      rw [kT_keyW key hle] at hKq
      have hres : hmB key bs = shaB (xT (keyW key) 92 64 ++ shaB (xT (keyW key) 54 64 ++ bs)) := by
        rw [xT_chg _ _ hle, xT_chg _ _ hle, hmB, if_neg (by omega), hmS]
      refine avc_seq_reg (by cbv) rfl (avc_seq_seq (avc_seq_reg (by cbv) rfl (avc_seq (hp4 hA nb Kq (keyW key) (keyW_length _ hle) hKq (LS := LS) (LK := LK) (LB := LB) (LM := LM) ?_ ?_))))
      · intro k3 t0 Iq Oq hk3 ht0 hIq hOq
        have e1 : Iq = [] := by rw [hIq]; rfl
        have e2 : Oq = [] := by rw [hOq]; rfl
        subst hk3 ht0 e1 e2
        exact Wk.trans (Wk.lay (ren 0 0) (l := [(1, .sl 7 0 nb nb false 1), (4, .ptr 8 0), (5, .ptr 9 0), (9, .nilsl), (10, .nilsl), (11, .int .i64 ((0 : Nat) : Int))]) (L := mem15 LS LK LB LM [(9, .ints .u8 Kq 97 .exact)]) (n := 10) rfl rfl rfl (by cbv) (by cbv) (had_cons (by cbv) rfl (had_cons (by cbv) rfl (had_cons (by cbv) rfl (had_cons (by cbv) rfl (had_cons (by cbv) rfl (had_cons (by cbv) rfl (had_cons (by cbv) rfl (had_cons (by cbv) rfl (had_cons (by cbv) rfl (had_cons (by cbv) rfl (had_nil))))))))))) (low_lay8 (by cbv) (by cbv) (by cbv) (by cbv) (by cbv) (by cbv) (by cbv) (by cbv)) (by cbv) (by cbv) (by cbv) (has_cons (by cbv) rfl (has_cons (by cbv) rfl (has_cons (by cbv) rfl (has_cons (by cbv) rfl (has_cons (by cbv) rfl (has_cons (by cbv) rfl (has_nil)))))))) (Wk.trans (Wk.nil 9 1 (.ints .u8 [] 5 .more) (by cbv) rfl rfl rfl) (Wk.trans (Wk.nil 10 1 (.ints .u8 [] 5 .more) (by cbv) rfl rfl rfl) (Wk.lay (ren 0 0) rfl rfl rfl (by cbv) (by cbv) (had_cons (by cbv) rfl (had_cons (by cbv) rfl (had_cons (by cbv) rfl (had_cons (by cbv) rfl (had_cons (by cbv) rfl (had_cons (by cbv) rfl (had_cons (by cbv) rfl (had_cons (by cbv) rfl (had_cons (by cbv) rfl (had_cons (by cbv) rfl (had_cons (by cbv) rfl (had_cons (by cbv) rfl (had_nil))))))))))))) (low_lay8 (by cbv) (by cbv) (by cbv) (by cbv) (by cbv) (by cbv) (by cbv) (by cbv)) (by cbv) (by cbv) (by cbv) (has_cons (by cbv) rfl (has_cons (by cbv) rfl (has_cons (by cbv) rfl (has_cons (by cbv) rfl (has_cons (by cbv) rfl (has_cons (by cbv) rfl (has_nil))))))))))
      · intro ta tb k3 t0 Iq Oq hk3 ht0 hIq hOq
        subst ht0
        show avc A (Γ2 A Sh By tS tK) 4 nt 8 _ _ _ _
        rw [hres]
        exact tail15 hA hSh hBy htS htK hLS hLK bs hb nb hnb hLM (keyW key) Kq Iq Oq hIq hOq ta tb k3
end Go.Proofs.YtjkicmlelilcaaaDoor
namespace Go.Proofs.YtjkicmlelilcaaaDoor
open Go
open Go.RowKit
theorem body15 : Tryd.f15.body = some (Tryd.f15.body.getD .skip) := by kernel_rfl
def ren15 (bS oS cS bK oK cK : Nat) (r6 r7 : Option (Nat × (Nat × Nat))) : Ren
  | 0 => some (0, (0, 0))
  | 1 => some (1, (0, 1))
  | 2 => some (2, (0, 1))
  | 3 => some (3, (0, 0))
  | 4 => some (bS, (oS, oS + cS))
  | 5 => some (bK, (oK, oK + cK))
  | 6 => r6
  | 7 => r7
  | _ => none
theorem mem00_get (S K B B7 : List Int) : (ofM (mem00 S K B B7)).get 0 = some (.cells [] 62 .ro) ∧ (ofM (mem00 S K B B7)).get 1 = some (.cells [.sl 4 0 8 8 false 1] 62 .ro) ∧ (ofM (mem00 S K B B7)).get 2 = some (.cells [.sl 5 0 64 64 false 1] 62 .ro) ∧
    (ofM (mem00 S K B B7)).get 3 = some (.cells [] 62 .ro) ∧ (ofM (mem00 S K B B7)).get 4 = some (.ints .u32 S 62 .ro) ∧ (ofM (mem00 S K B B7)).get 5 = some (.ints .u32 K 62 .ro) ∧ (ofM (mem00 S K B B7)).get 6 = some (.ints .u8 B 5 .ro) ∧ (ofM (mem00 S K B B7)).get 7 = some (.ints .u8 B7 5 .ro) :=
  ⟨by cbv, by cbv, by cbv, by cbv, by cbv, by cbv, by cbv, by cbv⟩
theorem mem00_ro (S K B B7 : List Int) (b : Nat) (h : b < 8) : ∃ o, (ofM (mem00 S K B B7)).get b = some o ∧ o.isRo = true := by
  obtain ⟨h0, h1, h2, h3, h4, h5, h6, h7⟩ := mem00_get S K B B7
  match b, h with
  | 0, _ => exact ⟨_, h0, rfl⟩
  | 1, _ => exact ⟨_, h1, rfl⟩
  | 2, _ => exact ⟨_, h2, rfl⟩
  | 3, _ => exact ⟨_, h3, rfl⟩
  | 4, _ => exact ⟨_, h4, rfl⟩
  | 5, _ => exact ⟨_, h5, rfl⟩
  | 6, _ => exact ⟨_, h6, rfl⟩
  | 7, _ => exact ⟨_, h7, rfl⟩
theorem ren15_lt {bS oS cS bK oK cK : Nat} {r6 r7 : Option (Nat × (Nat × Nat))} {b : Nat} {x : Nat × (Nat × Nat)} (h : ren15 bS oS cS bK oK cK r6 r7 b = some x) : b < 8 := by
  unfold ren15 at h
  split at h <;> first | omega | cases h
theorem hr15 {w : World} {bS oS cS bK oK cK : Nat} {r6 r7 : Option (Nat × (Nat × Nat))} {key bs : List UInt8} (h3 : 3 < w.heap.size)
    (k1 : w.cell? ⟨1, 0, none⟩ = some (.slice (some ⟨bS, oS, none⟩) 8 cS)) (k2 : 8 ≤ cS) (k3 : bS < w.heap.size) (k4 : ∀ i, i < 8 → w.cell? ⟨bS, oS + i, none⟩ = some (.int .u32 (N32 (at32 S0 i))))
    (s1 : w.cell? ⟨2, 0, none⟩ = some (.slice (some ⟨bK, oK, none⟩) 64 cK)) (s2 : 64 ≤ cK) (s3 : bK < w.heap.size) (s4 : ∀ i, i < 64 → w.cell? ⟨bK, oK + i, none⟩ = some (.int .u32 (N32 (at32 KK i))))
    (h6 : ∀ c d, r6 = some (c, d) → c < w.heap.size ∧ ∀ ρ, OR ρ d (.ints .u8 (bI key) 5 .ro) w.heap[c]?) (h7 : ∀ c d, r7 = some (c, d) → c < w.heap.size ∧ ∀ ρ, OR ρ d (.ints .u8 (bI bs) 5 .ro) w.heap[c]?) : HR (ren15 bS oS cS bK oK cK r6 r7) ⟨8, ofM (mem00 (wI S0) (wI KK) (bI key) (bI bs))⟩ w := by
  obtain ⟨g0, g1, g2, g3, g4, g5, g6, g7⟩ := mem00_get (wI S0) (wI KK) (bI key) (bI bs)
  refine ⟨by show 8 ≤ _; omega, fun b hb => ?_, fun b c d hb => ?_, fun b b' c d d' h1 h2 hne => ?_⟩
  · have hb : 8 ≤ b := hb
    show (ofM (mem00 (wI S0) (wI KK) (bI key) (bI bs))).get b = none
    cases ho : (ofM (mem00 (wI S0) (wI KK) (bI key) (bI bs))).get b with
    | none => rfl
    | some o =>
      have := ofM_get _ b o (fun p hp => by
        simp only [mem00, List.mem_cons, List.not_mem_nil, or_false] at hp
        rcases hp with rfl | rfl | rfl | rfl | rfl | rfl | rfl | rfl <;> (dsimp only; omega)) ho
      simp only [mem00, List.mem_cons, List.not_mem_nil, or_false, Prod.mk.injEq] at this
      omega
  · have hlt := ren15_lt hb
    refine ⟨hlt, ?_⟩
    match b, hlt with
    | 0, _ => cases hb; exact ⟨by omega, _, g0, or_none⟩
    | 1, _ => cases hb; exact ⟨by omega, _, g1, or_glob k1 k2 rfl⟩
    | 2, _ => cases hb; exact ⟨by omega, _, g2, or_glob s1 s2 rfl⟩
    | 3, _ => cases hb; exact ⟨by omega, _, g3, or_none⟩
    | 4, _ => cases hb; exact ⟨k3, _, g4, or_ro (by rw [wI_length]; show 8 + _ ≤ _; omega) fun i hi => by rw [wI_getD]; exact k4 i (by rw [wI_length] at hi; exact hi)⟩
    | 5, _ => cases hb; exact ⟨s3, _, g5, or_ro (by rw [wI_length]; show 64 + _ ≤ _; omega) fun i hi => by rw [wI_getD]; exact s4 i (by rw [wI_length] at hi; exact hi)⟩
    | 6, _ => obtain ⟨e1, e2⟩ := h6 c d hb; exact ⟨e1, _, g6, e2 _⟩
    | 7, _ => obtain ⟨e1, e2⟩ := h7 c d hb; exact ⟨e1, _, g7, e2 _⟩
  · obtain ⟨o, e1, e2⟩ := mem00_ro (wI S0) (wI KK) (bI key) (bI bs) b (ren15_lt h1)
    obtain ⟨o', e3, e4⟩ := mem00_ro (wI S0) (wI KK) (bI key) (bI bs) b' (ren15_lt h2)
    exact .inr (.inr ⟨o, o', e1, e3, e2, e4⟩)
theorem slot_of {w : World} {v : Value} {bs : List UInt8} (hB : BSl w v bs) (s : Nat) : ∃ r : Option (Nat × (Nat × Nat)), (∀ c d, r = some (c, d) → c < w.heap.size ∧ ∀ ρ, OR ρ d (.ints .u8 (bI bs) 5 .ro) w.heap[c]?) ∧ ∀ ρ : Ren, ρ s = r → VR ρ (.sl s 0 bs.length bs.length false 1) v := by
  rcases hB with ⟨rfl, rfl⟩ | ⟨b, off, c, rfl, hc, hb, hcell⟩ | ⟨a, rfl, rfl⟩
  · exact ⟨none, (fun c d h => by cases h), fun ρ _ => by unfold VR; exact .inr ⟨rfl, rfl, rfl, _, rfl⟩⟩
  · refine ⟨some (b, (off, off + c)), fun c' d h => ?_, fun ρ hρ => ?_⟩
    · cases h
      exact ⟨hb, fun ρ => or_ro (by rw [bI_length]; omega) fun i hi => by rw [bI_getD]; exact hcell i (by rw [bI_length] at hi; exact hi)⟩
    · unfold VR
      exact .inl ⟨b, (off, off + c), off, c, hρ, rfl, fun _ => (Nat.zero_add _).symm, Nat.le_refl _, hc, fun h => (by cases h), by show off + c * 1 ≤ off + c; omega⟩
  · exact ⟨none, (fun c d h => by cases h), fun ρ _ => by unfold VR; exact .inr ⟨rfl, rfl, rfl, _, rfl⟩⟩
theorem rhm_any (kv v : Value) (key bs : List UInt8) (w : World) (hB1 : BSl w kv key) (hB2 : BSl w v bs) (hl1 : key.length ≤ 10000000000) (hl2 : bs.length ≤ 10000000000) (hS : TabC w 1 S0) (hK : TabC w 2 KK) (h3 : 3 < w.heap.size) :
    Calls Tryd.prog 15 #[kv, v] w fun e w' => e = .returned (.agg (c8 (hmB key bs))) ∧ Below w.heap.size w w' := by
  obtain ⟨bS, oS, cS, k1, k2, k3, k4⟩ := hS
  obtain ⟨bK, oK, cK, s1, s2, s3, s4⟩ := hK
  obtain ⟨r6, h6, hv6⟩ := slot_of hB1 6
  obtain ⟨r7, h7, hv7⟩ := slot_of hB2 7
  have hr := hr15 (r6 := r6) (r7 := r7) h3 k1 k2 k3 k4 s1 s2 s3 s4 h6 h7
  have hG : ∀ g, g < 4 → ∃ s, ren15 bS oS cS bK oK cK r6 r7 g = some (g, (0, s)) := fun g hg => by
    match g, hg with
    | 0, _ => exact ⟨0, rfl⟩
    | 1, _ => exact ⟨1, rfl⟩
    | 2, _ => exact ⟨1, rfl⟩
    | 3, _ => exact ⟨0, rfl⟩
  refine (call_sound (xs := [.cellN 4 32]) (K := fun av _ => av = .ints .u8 (bI (hmB key bs))) (vs := [kv, v]) mixed gam2_ok pu2_ok Tryd.func15 body15 comp15 (by kernel_rfl) (by kernel_rfl) (by kernel_rfl) (rhm_avc key bs hl1 hl2 _) hG hr ⟨kv, [v], rfl, hv6 _ rfl, v, [], rfl, hv7 _ rfl, rfl⟩).mono fun e W' ⟨u, av, σ', ρ', e1, e2, e3, e4, e5⟩ => ?_
  subst e1 e2
  refine ⟨?_, e4.os, e4.tape, e4.output, e4.size, fun c hc => ?_⟩
  · unfold VR at e5
    rw [e5]
    simp [bI, c8, c8l]
  · by_cases hm : ∃ b d, ren15 bS oS cS bK oK cK r6 r7 b = some (c, d)
    · obtain ⟨b, d, hm⟩ := hm
      obtain ⟨o, q1, q2⟩ := mem00_ro (wI S0) (wI KK) (bI key) (bI bs) b (ren15_lt hm)
      exact (e4.ro b c d o (ren15_lt hm) hm hc q1 q2).2
    · exact e4.frame c hc fun b d h => hm ⟨b, d, h⟩
end Go.Proofs.YtjkicmlelilcaaaDoor
namespace Go.Proofs.YtjkicmlelilcaaaDoor.V2
open Go
open Go.RowKit
theorem HR.below {ρ : Ren} {σ : AH} {W W' : World} (h : HR ρ σ W) (hb : Below W.heap.size W W') : HR ρ σ W' :=
  ⟨h.small, h.none_, fun b c d hρ => by
    obtain ⟨h1, h2, o, h3, h4⟩ := h.dom b c d hρ
    refine ⟨h1, Nat.lt_of_lt_of_le h2 hb.size, o, h3, ?_⟩
    rw [hb.block c h2]; exact h4, h.inj⟩
theorem Stp.below {N : Nat} {ρ : Ren} {σ : AH} {W W' : World} (hN : N ≤ σ.next) (hb : Below W.heap.size W W') : Stp N ρ σ W ρ σ W' :=
  ⟨fun _ _ => rfl, fun b _c d h => .inl ⟨b, d, h⟩, hN, fun _ _ _ _ h _ => h, fun c hc _ => hb.block c hc, hb.tape, hb.os, hb.output, hb.size, fun _ c _ _ _ _ hc h _ => ⟨h, hb.block c hc⟩⟩
/-- What is read of a slice of bytes. -/
def rowB : Row → Option (List Int)
  | .ints k l => match k with
    | .u8 => some l
    | _ => none
  | .cells l => match l with
    | [] => some []
    | _ => none
def byI (l : List Int) : Bool := l.all fun n => decide (0 ≤ n) && decide (n ≤ 255)
theorem byI_iff {l : List Int} (h : byI l = true) : ∀ n ∈ l, 0 ≤ n ∧ n ≤ 255 := fun n hn => by
  have := List.all_eq_true.1 h n hn
  simpa using this
/-- A slice of bytes, and what it holds. -/
noncomputable def bytesA (A : Ar) (By : List Int → Bool) (σ : AH) (v : AV) : Bool × List Int := match rowA A false 1 σ v with
  | (ok, _, r) => match rowB r with
    | some l => (ok && By l, l)
    | none => (false, [])
theorem bytes_of {ρ : Ren} {σ : AH} {W : World} (hr : HR ρ σ W) {s : AV} {v : Value} (hv : VR ρ s v) (hok : (bytesA std byI σ s).1 = true) : BSl W v (toBs (bytesA std byI σ s).2) ∧ bI (toBs (bytesA std byI σ s).2) = (bytesA std byI σ s).2 := by
  unfold bytesA at hok ⊢
  generalize hrow : rowA std false 1 σ s = row at hok ⊢
  obtain ⟨ok, n, r⟩ := row
  simp only at hok ⊢
  cases hB : rowB r with
  | none => rw [hB] at hok; cases hok
  | some l =>
    rw [hB] at hok
    simp only [Bool.and_eq_true] at hok ⊢
    obtain ⟨hok, hby⟩ := hok
    have hby := byI_iff hby
    refine ⟨?_, bI_toBs l hby⟩
    cases s
    case nilsl =>
      simp only [VR] at hv
      simp only [rowA, Prod.mk.injEq] at hrow
      obtain ⟨_, _, rfl⟩ := hrow
      simp only [rowB, Option.some.injEq] at hB
      subst hB; subst hv
      exact .inl ⟨rfl, rfl⟩
    case sl b o n' k e z =>
      rcases vr_sl hv with ⟨c, d, o', k', hb, rfl, ho, hnk, hk, _, _⟩ | ⟨rfl, rfl, rfl, _, pp, rfl⟩
      rotate_left
      · refine .inr (.inr ⟨pp, rfl, ?_⟩)
        have hl : l = [] := by
          simp only [rowA] at hrow
          cases hob : σ.get b with
          | none => rw [hob] at hrow; cases hrow; cases hok
          | some ob =>
            rw [hob] at hrow
            cases ob with
            | map m => cases hrow; cases hok
            | dead => cases hrow; cases hB; rfl
            | cells m e2 t =>
              simp only [Prod.mk.injEq] at hrow
              obtain ⟨_, _, rfl⟩ := hrow
              rw [Nat.zero_mul, List.take_zero] at hB
              cases hB; rfl
            | ints ik m e2 t =>
              simp only [Prod.mk.injEq] at hrow
              obtain ⟨_, _, rfl⟩ := hrow
              have hik : ik = .u8 := by cases ik <;> first | rfl | (simp [rowB] at hB)
              subst hik
              simp only [std, rowB, Option.some.injEq] at hB
              rw [← hB]; simp
        rw [hl]; rfl
      have hc := (hr.dom _ _ _ hb).2.1
      simp only [rowA] at hrow
      have hempty : n' = 0 → l = [] → BSl W (.slice (some ⟨c, o', none⟩) n' k') (toBs l) := fun h1 h2 => by
        subst h1; subst h2
        exact .inr (.inl ⟨c, o', k', rfl, Nat.zero_le _, hc, fun j hj => by cases hj⟩)
      cases hob : σ.get b with
      | none => rw [hob] at hrow; cases hrow; cases hok
      | some ob =>
        rw [hob] at hrow
        cases ob with
        | map m => cases hrow; cases hok
        | dead =>
          simp only [Prod.mk.injEq] at hrow
          obtain ⟨h1, _, rfl⟩ := hrow
          simp only [rowB, Option.some.injEq] at hB
          rw [← h1, Bool.and_eq_true, Nat.beq_eq] at hok
          exact hempty hok.2 hB.symm
        | cells m e2 t =>
          simp only [Prod.mk.injEq] at hrow
          obtain ⟨h1, _, rfl⟩ := hrow
          rw [← h1] at hok
          simp only [Bool.and_eq_true, Nat.ble_eq] at hok
          cases hm : (m.drop o).take (n' * 1) with
          | nil =>
            have h0 : ((m.drop o).take (n' * 1)).length = 0 := by rw [hm]; rfl
            rw [List.length_take, List.length_drop] at h0
            rw [hm] at hB
            simp only [rowB, Option.some.injEq] at hB
            exact hempty (by omega) hB.symm
          | cons x y => rw [hm] at hB; cases hB
        | ints ik m e2 t =>
          simp only [Prod.mk.injEq] at hrow
          obtain ⟨h1, _, rfl⟩ := hrow
          rw [← h1] at hok
          simp only [std, Bool.and_eq_true, Nat.ble_eq] at hok
          have hik : ik = .u8 := by cases ik <;> first | rfl | (simp [rowB] at hB)
          subst hik
          simp only [std, rowB, Option.some.injEq] at hB
          have hln : l.length = n' := by rw [← hB, List.length_take, List.length_drop]; omega
          by_cases hn : n' = 0
          · exact hempty hn (List.length_eq_zero_iff.1 (by rw [hln, hn]))
          · have ho := ho (by omega)
            subst ho
            refine .inr (.inl ⟨c, o + d.1, k', by rw [toBs_length, hln], by rw [toBs_length, hln]; omega, hc, fun j hj => ?_⟩)
            rw [toBs_length, hln] at hj
            have hjm : o + j < m.length := by omega
            obtain ⟨u, hu, hvr⟩ := hr.load (i := o + j) (a := .int .u8 m[o + j]) hb hob (by simp only [AObj.at]; rw [List.getElem?_eq_getElem hjm]; rfl)
            simp only [VR] at hvr
            subst hvr
            rw [show o + d.1 + j = o + j + d.1 by omega, hu]
            have hlj : l[j]? = some m[o + j] := by rw [← hB, List.getElem?_take, if_pos (by omega), List.getElem?_drop, List.getElem?_eq_getElem hjm]
            have : (bI (toBs l)).getD j 0 = m[o + j] := by rw [bI_toBs l hby, List.getD_eq_getElem?_getD, hlj]; rfl
            rw [bI_getD] at this
            rw [this]
    all_goals (simp only [rowA, Prod.mk.injEq] at hrow; obtain ⟨h1, _⟩ := hrow; rw [← h1] at hok; cases hok)
/-- A slice of slices of bytes. -/
noncomputable def partsA (A : Ar) (By : List Int → Bool) (σ : AH) : List AV → Bool × List (List Int)
  | [] => (true, [])
  | v :: l => match bytesA A By σ v with
    | (ok, b) => match partsA A By σ l with
      | (ok', m) => (ok && ok', b :: m)
noncomputable def listA (A : Ar) (By : List Int → Bool) (σ : AH) (v : AV) : Bool × List (List Int) := match rowA A false 1 σ v with
  | (ok, _, r) => match r with
    | .cells l => match partsA A By σ l with
      | (ok', m) => (ok && ok' && v.sure, m)
    | _ => (false, [])
end Go.Proofs.YtjkicmlelilcaaaDoor.V2
namespace Go.Proofs.YtjkicmlelilcaaaDoor.V2
open Go
open Go.RowKit
theorem atV_get {vs : List Value} {j : Nat} {v : Value} (h : vs[j]? = some v) : atV vs j = v := by
  unfold atV; rw [List.getD_eq_getElem?_getD, h]; rfl
theorem parts_of {ρ : Ren} {σ : AH} {W : World} (hr : HR ρ σ W) : ∀ {l : List AV} {vs : List Value}, VRs ρ l vs → (partsA std byI σ l).1 = true → vs.length = ((partsA std byI σ l).2.map toBs).length ∧ ∀ j, j < vs.length → BSl W (atV vs j) (atP ((partsA std byI σ l).2.map toBs) j)
  | [], _, h, _ => by rw [show _ = [] from h]; exact ⟨rfl, fun j hj => by simp at hj⟩
  | a :: l, _, ⟨v, m, e, hv, hm⟩, hok => by
    subst e
    unfold partsA at hok ⊢
    have hB := fun h => bytes_of hr hv h
    have hL := fun h => parts_of hr hm h
    generalize bytesA std byI σ a = b at hok hB ⊢
    generalize partsA std byI σ l = q at hok hL ⊢
    obtain ⟨ok, b⟩ := b
    obtain ⟨ok', q⟩ := q
    simp only [Bool.and_eq_true] at hok hB hL ⊢
    obtain ⟨h1, h2⟩ := hL hok.2
    refine ⟨by simp [h1], fun j hj => ?_⟩
    cases j with
    | zero => exact (hB hok.1).1
    | succ j =>
      have := h2 j (by simpa using hj)
      simpa [atV, atP] using this
theorem list_of {ρ : Ren} {σ : AH} {W : World} (hr : HR ρ σ W) {s : AV} {v : Value} (hv : VR ρ s v) (hok : (listA std byI σ s).1 = true) : ∃ vs, PSl W v vs ((listA std byI σ s).2.map toBs) := by
  unfold listA at hok ⊢
  generalize hrow : rowA std false 1 σ s = row at hok ⊢
  obtain ⟨ok, n, r⟩ := row
  simp only at hok ⊢
  cases r with
  | ints k l => cases hok
  | cells l =>
    simp only at hok ⊢
    have hp := fun vs (h : VRs ρ l vs) => parts_of hr h
    generalize hpa : partsA std byI σ l = q at hok hp ⊢
    obtain ⟨ok', m⟩ := q
    simp only [Bool.and_eq_true] at hok hp ⊢
    obtain ⟨⟨hok, hok'⟩, hsu⟩ := hok
    cases s
    case nilsl =>
      simp only [VR] at hv
      simp only [rowA, Prod.mk.injEq, Row.cells.injEq] at hrow
      obtain ⟨_, _, rfl⟩ := hrow
      cases hpa
      subst hv
      exact ⟨[], ⟨rfl, .inl ⟨rfl, rfl⟩, fun j hj => by simp at hj⟩⟩
    case sl b o n' k e z =>
      obtain ⟨c, d, o', k', hb, rfl, ho, hnk, hk, _, _⟩ := (vr_sl hv).resolve_right (fun h => by obtain ⟨_, rfl, rfl, _⟩ := h; cases hsu)
      have hc := (hr.dom _ _ _ hb).2.1
      simp only [rowA] at hrow
      cases hob : σ.get b with
      | none => rw [hob] at hrow; cases hrow; cases hok
      | some ob =>
        rw [hob] at hrow
        cases ob with
        | map m => cases hrow; cases hok
        | ints ik m e2 t => simp at hrow
        | dead =>
          simp only [Prod.mk.injEq, Row.cells.injEq] at hrow
          obtain ⟨h1, _, rfl⟩ := hrow
          cases hpa
          rw [← h1, Bool.and_eq_true, Nat.beq_eq] at hok
          obtain rfl := hok.2
          exact ⟨[], ⟨rfl, .inr ⟨c, o', k', rfl, Nat.zero_le _, hc, fun j hj => by simp at hj⟩, fun j hj => by simp at hj⟩⟩
        | cells q e2 t =>
          simp only [Prod.mk.injEq, Row.cells.injEq] at hrow
          obtain ⟨h1, _, h2⟩ := hrow
          rw [← h1] at hok
          simp only [Bool.and_eq_true, Nat.ble_eq, Nat.mul_one] at hok h2
          by_cases hn : n' = 0
          · subst hn
            rw [List.take_zero] at h2
            subst h2
            cases hpa
            exact ⟨[], ⟨rfl, .inr ⟨c, o', k', rfl, Nat.zero_le _, hc, fun j hj => by simp at hj⟩, fun j hj => by simp at hj⟩⟩
          have ho := ho (by omega)
          subst ho
          have hll : l.length = n' := by rw [← h2, List.length_take, List.length_drop]; omega
          -- the values of the row
          have hex : ∀ j, j < n' → ∃ u, W.cell? ⟨c, o + d.1 + j, none⟩ = some u ∧ ∀ a, l[j]? = some a → VR ρ a u := fun j hj => by
            have hq : o + j < q.length := by omega
            obtain ⟨u, hu, hur⟩ := hr.load (i := o + j) (a := q[o + j]) hb hob (by simp only [AObj.at]; exact List.getElem?_eq_getElem hq)
            refine ⟨u, by rw [show o + d.1 + j = o + j + d.1 by omega]; exact hu, fun a ha => ?_⟩
            rw [← h2, List.getElem?_take, if_pos hj, List.getElem?_drop, List.getElem?_eq_getElem hq] at ha
            cases ha; exact hur
          obtain ⟨vs, hvl, hvs⟩ : ∃ vs : List Value, vs.length = n' ∧ ∀ j, j < n' → W.cell? ⟨c, o + d.1 + j, none⟩ = some (atV vs j) ∧ ∀ a, l[j]? = some a → VR ρ a (atV vs j) := by
            refine ⟨(List.range n').map fun j => (W.cell? ⟨c, o + d.1 + j, none⟩).getD undef, by simp, fun j hj => ?_⟩
            obtain ⟨u, hu, hua⟩ := hex j hj
            have : atV ((List.range n').map fun j => (W.cell? ⟨c, o + d.1 + j, none⟩).getD undef) j = u := atV_get (by simp [hj, hu])
            rw [this]; exact ⟨hu, hua⟩
          have hV : VRs ρ l vs := VRs.of l vs (by rw [hvl, hll]) fun j a ha => by
            have hj : j < n' := by rw [← hll]; exact (List.getElem?_eq_some_iff.1 ha).1
            refine ⟨atV vs j, ?_, (hvs j hj).2 a ha⟩
            unfold atV
            rw [List.getD_eq_getElem?_getD, List.getElem?_eq_getElem (by omega)]; rfl
          obtain ⟨p1, p2⟩ := hp vs hV hok'
          have hpl : (m.map toBs).length = n' := by rw [← p1, hvl]
          exact ⟨vs, ⟨p1, .inr ⟨c, o + d.1, k', by rw [hpl], by rw [hpl]; omega, hc, fun j hj => (hvs j (by rw [hpl] at hj; exact hj)).1⟩, fun j hj => p2 j (by rw [hpl] at hj; rw [hvl]; exact hj)⟩⟩
    all_goals (simp only [rowA, Prod.mk.injEq] at hrow; obtain ⟨h1, _⟩ := hrow; rw [← h1] at hok; cases hok)
end Go.Proofs.YtjkicmlelilcaaaDoor.V2
namespace Go.Proofs.YtjkicmlelilcaaaDoor.V2
open Go
open Go.RowKit
noncomputable def globA (σ : AH) (g : Nat) (t : List Int → Bool) : Bool := match σ.get g with
  | some ob => match ob with
    | .ints k l _ _ => match k with
      | .u32 => t l
      | _ => false
    | _ => false
  | none => false
noncomputable def tabA (σ : AH) (g n : Nat) (t : List Int → Bool) : Bool := match σ.get g with
  | some ob => match ob with
    | .cells l _ _ => match l with
      | [.sl b o m _ _ _] => Nat.beq o 0 && Nat.beq m n && globA σ b t
      | _ => false
    | _ => false
  | none => false
theorem glob_of {ρ : Ren} {σ : AH} {W : World} (hr : HR ρ σ W) {g n : Nat} {T : List UInt32} {t : List Int → Bool} (ht : ∀ l, t l = true → l = wI T) (hn : T.length = n) (hg : ∃ s, ρ g = some (g, (0, s))) (h : globA σ g t = true) : ∀ i, i < n → W.cell? ⟨g, i, none⟩ = some (.int .u32 (N32 (at32 T i))) := by
  unfold globA at h
  split at h
  case h_2 => cases h
  rename_i ob hob
  split at h
  case h_2 => cases h
  rename_i k l e tl
  split at h
  case h_2 => cases h
  have hl := ht _ h
  subst hl
  obtain ⟨s, hs⟩ := hg
  intro i hi
  have hi2 : i < (wI T).length := by rw [wI_length, hn]; exact hi
  obtain ⟨u, hu, hur⟩ := hr.load (i := i) (a := .int .u32 (wI T)[i]) hs hob (by simp only [AObj.at]; rw [List.getElem?_eq_getElem hi2]; rfl)
  simp only [VR] at hur
  subst hur
  have hu : W.cell? ⟨g, i, none⟩ = _ := hu
  rw [hu]
  have := wI_getD T i
  rw [List.getD_eq_getElem?_getD, List.getElem?_eq_getElem hi2] at this
  rw [← this]; rfl
theorem tab_of {ρ : Ren} {σ : AH} {W : World} (hr : HR ρ σ W) {g n : Nat} {T : List UInt32} {t : List Int → Bool} (ht : ∀ l, t l = true → l = wI T) (hn : T.length = n) (hn0 : 0 < n) (hg : ∃ s, ρ g = some (g, (0, s))) (h : tabA σ g n t = true) : TabC W g T := by
  unfold tabA at h
  split at h
  case h_2 => cases h
  rename_i ob hob
  split at h
  case h_2 => cases h
  rename_i l e2 t2
  split at h
  case h_2 => cases h
  rename_i b o m k e z
  rw [Bool.and_eq_true, Bool.and_eq_true, Nat.beq_eq, Nat.beq_eq] at h
  obtain ⟨⟨rfl, rfl⟩, h⟩ := h
  unfold globA at h
  split at h
  case h_2 => cases h
  rename_i ob2 hob2
  split at h
  case h_2 => cases h
  rename_i kk l2 e3 t3
  split at h
  case h_2 => cases h
  have hl := ht _ h
  subst hl
  obtain ⟨s, hs⟩ := hg
  obtain ⟨v, hv, hvr⟩ := hr.load (i := 0) (a := .sl b 0 m k e z) hs hob rfl
  obtain ⟨c, d, o', k', hb, rfl, ho, hnk, hk, _, _⟩ := (vr_sl hvr).resolve_right (fun h => by omega)
  have ho := ho (by omega)
  subst ho
  refine ⟨c, 0 + d.1, k', by rw [hn]; exact hv, by omega, (hr.dom _ _ _ hb).2.1, fun i hi => ?_⟩
  have hi2 : i < (wI T).length := by rw [wI_length]; exact hi
  obtain ⟨u, hu, hur⟩ := hr.load (i := i) (a := .int .u32 (wI T)[i]) hb hob2 (by simp only [AObj.at]; rw [List.getElem?_eq_getElem hi2]; rfl)
  simp only [VR] at hur
  subst hur
  rw [show 0 + d.1 + i = i + d.1 by omega, hu]
  have := wI_getD T i
  rw [List.getD_eq_getElem?_getD, List.getElem?_eq_getElem hi2] at this
  rw [← this]; rfl
def isS (l : List Int) : Bool := decide (l = wI S0)
def isK (l : List Int) : Bool := decide (l = wI KK)
def shaI (l : List Int) : List Int := bI (shaB (toBs l))
def hmI (k l : List Int) : List Int := bI (hmB (toBs k) (toBs l))
def catI (A : Ar) : List (List Int) → List Int
  | [] => []
  | [l] => l
  | l :: m => A.app l (catI A m)
theorem catI_std : ∀ l : List (List Int), catI std l = l.flatten
  | [] => rfl
  | [l] => by simp [catI]
  | l :: m :: r => by rw [catI, catI_std (m :: r)]; rfl; simp
/-- The contracts: Sh, Hm: what the functions compute; By: all are bytes; tS, tK: the tables. -/
noncomputable def Γ3 (A : Ar) (Sh : List Int → List Int) (Hm : List Int → List Int → List Int) (By tS tK : List Int → Bool) : Gam := fun f args σ =>
  bif Nat.beq f 12 then (match args with
    | [s] => match listA A By σ s with
      | (ok, ps) => (ok && Nat.ble ps.length 1000000 && A.leN (A.len (catI A ps)) 10000000000 && globA σ 0 tS && globA σ 3 tK, .ints .u8 (Sh (catI A ps)), σ)
    | _ => bad σ)
  else bif Nat.beq f 13 then (match args with
    | [s] => match bytesA A By σ s with
      | (ok, l) => (ok && A.leN (A.len l) 10000000000 && tabA σ 1 8 tS && tabA σ 2 64 tK, .ints .u8 (Sh l), σ)
    | _ => bad σ)
  else bif Nat.beq f 14 then (match args with
    | [k, s] => match bytesA A By σ k with
      | (ok1, kl) => match listA A By σ s with
        | (ok, ps) => (ok1 && ok && A.leN (A.len kl) 10000000000 && Nat.ble ps.length 1000000 && A.leN (A.len (catI A ps)) 10000000000 && globA σ 0 tS && globA σ 3 tK, .ints .u8 (Hm kl (catI A ps)), σ)
    | _ => bad σ)
  else bif Nat.beq f 15 then (match args with
    | [k, s] => match bytesA A By σ k with
      | (ok1, kl) => match bytesA A By σ s with
        | (ok, l) => (ok1 && ok && A.leN (A.len kl) 10000000000 && A.leN (A.len l) 10000000000 && tabA σ 1 8 tS && tabA σ 2 64 tK, .ints .u8 (Hm kl l), σ)
    | _ => bad σ)
  else bif Nat.beq f 16 then (match args with
    | [] => (globA σ 0 tS && globA σ 3 tK, .bool true, σ)
    | _ => bad σ)
  else bad σ
theorem flatten_toBs (ps : List (List Int)) : (ps.map toBs).flatten = toBs ps.flatten := by
  unfold toBs
  induction ps with
  | nil => rfl
  | cons p ps ih => rw [List.map_cons, List.flatten_cons, List.flatten_cons, List.map_append, ih]
theorem vr_bytes {ρ : Ren} (l : List UInt8) : VR ρ (.ints .u8 (bI l)) (.agg (c8 l)) := by
  unfold VR bI c8 c8l
  rw [List.map_map]; rfl
theorem vrs_one {ρ : Ren} {a : AV} {vs : List Value} (h : VRs ρ [a] vs) : ∃ v, vs = [v] ∧ VR ρ a v := by
  obtain ⟨v, m, rfl, hv, hm⟩ := h
  have hm : m = [] := hm
  subst hm; exact ⟨v, rfl, hv⟩
theorem vrs_two {ρ : Ren} {a b : AV} {vs : List Value} (h : VRs ρ [a, b] vs) : ∃ v u, vs = [v, u] ∧ VR ρ a v ∧ VR ρ b u := by
  obtain ⟨v, m, rfl, hv, u, m', rfl, hu, hm⟩ := h
  have hm : m' = [] := hm
  subst hm; exact ⟨v, u, rfl, hv, hu⟩
theorem gam3_ok : GamOk Tryd.prog 4 (Γ3 std shaI hmI byI isS isK) := by
  have isS' : ∀ l, isS l = true → l = wI S0 := fun l h => by simpa [isS] using h
  have isK' : ∀ l, isK l = true → l = wI KK := fun l h => by simpa [isK] using h
  intro f args σ h
  unfold Γ3 at h ⊢
  cases h12 : Nat.beq f 12
  case true =>
    rw [h12] at h
    have e := Nat.eq_of_beq_eq_true h12
    subst e
    simp only [cond_true] at h ⊢
    split at h
    case h_2 => cases h
    rename_i s
    refine ⟨⟨_, Tryd.func12, by kernel_rfl, by kernel_rfl⟩, fun ρ W vs hG hr hvs => ?_⟩
    obtain ⟨v, rfl, hv⟩ := vrs_one hvs
    have hL := fun h => list_of hr hv h
    dsimp only at h ⊢
    generalize listA std byI σ s = q at h hL ⊢
    obtain ⟨ok, ps⟩ := q
    simp only [Bool.and_eq_true, Nat.ble_eq] at h hL ⊢
    obtain ⟨⟨⟨⟨h1, h2⟩, h3⟩, h4⟩, h5⟩ := h
    obtain ⟨us, hP⟩ := hL h1
    rw [catI_std] at h3 ⊢
    have h3 : Nat.ble ps.flatten.length 10000000000 = true := h3
    rw [Nat.ble_eq] at h3
    obtain ⟨s3, hs3⟩ := hG 3 (by decide)
    refine (sha_any v us _ W hP (by rw [List.length_map]; omega) (by rw [flatten_toBs, toBs_length]; omega) (glob_of hr isK' rfl (hG 3 (by decide)) h5) (glob_of hr isS' rfl (hG 0 (by decide)) h4) (hr.dom _ _ _ hs3).2.1).mono fun e W' ⟨e1, e2⟩ => ?_
    subst e1
    rw [flatten_toBs]
    exact ⟨_, ρ, rfl, hr.below e2, Stp.below (Nat.le_refl _) e2, vr_bytes _⟩
  rw [h12] at h
  simp only [cond_false] at h ⊢
  cases h13 : Nat.beq f 13
  case true =>
    rw [h13] at h
    have e := Nat.eq_of_beq_eq_true h13
    subst e
    simp only [cond_true] at h ⊢
    split at h
    case h_2 => cases h
    rename_i s
    refine ⟨⟨_, Tryd.func13, by kernel_rfl, by kernel_rfl⟩, fun ρ W vs hG hr hvs => ?_⟩
    obtain ⟨v, rfl, hv⟩ := vrs_one hvs
    have hL := fun h => bytes_of hr hv h
    dsimp only at h ⊢
    generalize bytesA std byI σ s = q at h hL ⊢
    obtain ⟨ok, l⟩ := q
    simp only [Bool.and_eq_true] at h hL ⊢
    obtain ⟨⟨⟨h1, h2⟩, h3⟩, h4⟩ := h
    have h2 : Nat.ble l.length 10000000000 = true := h2
    rw [Nat.ble_eq] at h2
    obtain ⟨s3, hs3⟩ := hG 3 (by decide)
    refine (rsha_any v (toBs l) W (hL h1).1 (by rw [toBs_length]; omega) (tab_of hr isS' rfl (by decide) (hG 1 (by decide)) h3) (tab_of hr isK' rfl (by decide) (hG 2 (by decide)) h4) (hr.dom _ _ _ hs3).2.1).mono fun e W' ⟨e1, e2⟩ => ?_
    subst e1
    exact ⟨_, ρ, rfl, hr.below e2, Stp.below (Nat.le_refl _) e2, vr_bytes _⟩
  rw [h13] at h
  simp only [cond_false] at h ⊢
  cases h14 : Nat.beq f 14
  case true =>
    rw [h14] at h
    have e := Nat.eq_of_beq_eq_true h14
    subst e
    simp only [cond_true] at h ⊢
    split at h
    case h_2 => cases h
    rename_i k s
    refine ⟨⟨_, Tryd.func14, by kernel_rfl, by kernel_rfl⟩, fun ρ W vs hG hr hvs => ?_⟩
    obtain ⟨u, v, rfl, hu, hv⟩ := vrs_two hvs
    have hB := fun h => bytes_of hr hu h
    have hL := fun h => list_of hr hv h
    dsimp only at h ⊢
    generalize bytesA std byI σ k = q1 at h hB ⊢
    generalize listA std byI σ s = q at h hL ⊢
    obtain ⟨ok1, kl⟩ := q1
    obtain ⟨ok, ps⟩ := q
    simp only [Bool.and_eq_true, Nat.ble_eq] at h hB hL ⊢
    obtain ⟨⟨⟨⟨⟨⟨h0, h1⟩, h2⟩, h2'⟩, h3⟩, h4⟩, h5⟩ := h
    obtain ⟨us, hP⟩ := hL h1
    rw [catI_std] at h3 ⊢
    have h3 : Nat.ble ps.flatten.length 10000000000 = true := h3
    have h2 : Nat.ble kl.length 10000000000 = true := h2
    rw [Nat.ble_eq] at h3 h2
    obtain ⟨s3, hs3⟩ := hG 3 (by decide)
    refine (hmac_any u v (toBs kl) us _ W (hB h0).1 (by rw [toBs_length]; exact h2) hP (by rw [List.length_map]; omega) (by rw [flatten_toBs, toBs_length]; omega) (glob_of hr isK' rfl (hG 3 (by decide)) h5) (glob_of hr isS' rfl (hG 0 (by decide)) h4) (hr.dom _ _ _ hs3).2.1).mono fun e W' ⟨e1, e2⟩ => ?_
    subst e1
    rw [flatten_toBs]
    exact ⟨_, ρ, rfl, hr.below e2, Stp.below (Nat.le_refl _) e2, vr_bytes _⟩
  rw [h14] at h
  simp only [cond_false] at h ⊢
  cases h15 : Nat.beq f 15
  case true =>
    rw [h15] at h
    have e := Nat.eq_of_beq_eq_true h15
    subst e
    simp only [cond_true] at h ⊢
    split at h
    case h_2 => cases h
    rename_i k s
    refine ⟨⟨_, Tryd.func15, by kernel_rfl, by kernel_rfl⟩, fun ρ W vs hG hr hvs => ?_⟩
    obtain ⟨u, v, rfl, hu, hv⟩ := vrs_two hvs
    have hB := fun h => bytes_of hr hu h
    have hL := fun h => bytes_of hr hv h
    dsimp only at h ⊢
    generalize bytesA std byI σ k = q1 at h hB ⊢
    generalize bytesA std byI σ s = q at h hL ⊢
    obtain ⟨ok1, kl⟩ := q1
    obtain ⟨ok, l⟩ := q
    simp only [Bool.and_eq_true] at h hB hL ⊢
    obtain ⟨⟨⟨⟨⟨h0, h1⟩, h2⟩, h2'⟩, h3⟩, h4⟩ := h
    have h2' : Nat.ble l.length 10000000000 = true := h2'
    have h2 : Nat.ble kl.length 10000000000 = true := h2
    rw [Nat.ble_eq] at h2' h2
    obtain ⟨s3, hs3⟩ := hG 3 (by decide)
    refine (rhm_any u v (toBs kl) (toBs l) W (hB h0).1 (hL h1).1 (by rw [toBs_length]; exact h2) (by rw [toBs_length]; exact h2') (tab_of hr isS' rfl (by decide) (hG 1 (by decide)) h3) (tab_of hr isK' rfl (by decide) (hG 2 (by decide)) h4) (hr.dom _ _ _ hs3).2.1).mono fun e W' ⟨e1, e2⟩ => ?_
    subst e1
    exact ⟨_, ρ, rfl, hr.below e2, Stp.below (Nat.le_refl _) e2, vr_bytes _⟩
  rw [h15] at h
  simp only [cond_false] at h ⊢
  cases h16 : Nat.beq f 16
  case false => rw [h16] at h; cases h
  rw [h16] at h
  have e := Nat.eq_of_beq_eq_true h16
  subst e
  simp only [cond_true] at h ⊢
  split at h
  case h_2 => cases h
  refine ⟨⟨_, Tryd.func16, by kernel_rfl, by kernel_rfl⟩, fun ρ W vs hG hr hvs => ?_⟩
  rw [show vs = [] from hvs]
  simp only [Bool.and_eq_true] at h
  obtain ⟨s3, hs3⟩ := hG 3 (by decide)
  refine (tells_any W (glob_of hr isK' rfl (hG 3 (by decide)) h.2) (glob_of hr isS' rfl (hG 0 (by decide)) h.1) (hr.dom _ _ _ hs3).2.1).mono fun e W' ⟨e1, e2⟩ => ?_
  subst e1
  exact ⟨_, ρ, rfl, hr.below e2, Stp.below (Nat.le_refl _) e2, by unfold VR; rfl⟩
end Go.Proofs.YtjkicmlelilcaaaDoor.V2
namespace Go.Proofs.YtjkicmlelilcaaaDoor.V2
open Go
noncomputable section
/-- The memory has grown, no more. -/
structure Grown (σ σ' : AH) : Prop where
  next : σ.next ≤ σ'.next
  get : ∀ b, b < σ.next → σ'.get b = σ.get b
section
variable {A : Ar} {Γ : Gam} {G nt N : Nat} {K : AK} {env : T AV} {σ : AH}
end
end
end Go.Proofs.YtjkicmlelilcaaaDoor.V2
namespace Go.Proofs.YtjkicmlelilcaaaDoor.V2
open Go
open Go.RowKit
noncomputable def memL : List AObj → Nat → T AObj → T AObj
  | [], _, t => t
  | a :: l, i, t => memL l (i + 1) (t.put i a)
theorem memL_get : ∀ (l : List AObj) (i : Nat) (t : T AObj) (m : Nat), i + l.length ≤ 1048576 → (memL l i t).get m = if i ≤ m ∧ m < i + l.length then l[m - i]? else t.get m
  | [], i, t, m, _ => by rw [if_neg (by intro h; simp at h; omega)]; rfl
  | a :: l, i, t, m, h => by
    simp only [List.length_cons] at h
    show (memL l (i + 1) (t.put i a)).get m = _
    rw [memL_get l (i + 1) _ m (by omega), T.get_put _ _ _ _ (by omega)]
    by_cases h1 : i + 1 ≤ m ∧ m < i + 1 + l.length
    · rw [if_pos h1, if_pos (by simp; omega), show m - i = (m - (i + 1)) + 1 by omega, List.getElem?_cons_succ]
    · rw [if_neg h1]
      by_cases hm : m = i
      · subst hm; rw [if_pos rfl, if_pos (by simp)]; simp
      · rw [if_neg hm, if_neg (by simp; omega)]
noncomputable def hL (l : List AObj) : AH := ⟨l.length, memL l 0 .leaf⟩
theorem hL_get {l : List AObj} (h : l.length ≤ 1000000) (b : Nat) : (hL l).get b = l[b]? := by
  show (memL l 0 .leaf).get b = _
  rw [memL_get _ _ _ _ (by omega), T.get_leaf]
  by_cases hb : b < l.length
  · rw [if_pos (by omega)]; simp
  · rw [if_neg (by omega), List.getElem?_eq_none (by omega)]
/-- Where the blocks of a list lie. -/
def rL (l : List (Option (Nat × (Nat × Nat)))) : Ren := fun b => (l[b]?).getD none
/-- A memory all of which is only read: as a list says it. -/
theorem hr_ro {w : World} {l : List AObj} {r : List (Option (Nat × (Nat × Nat)))} (hl : l.length ≤ 1000000) (hlr : r.length = l.length) (hro : ∀ o ∈ l, o.isRo = true)
    (h : ∀ (b c : Nat) (d : Nat × Nat) (o : AObj), r[b]? = some (some (c, d)) → l[b]? = some o → c < w.heap.size ∧ OR (rL r) d o w.heap[c]?) : HR (rL r) (hL l) w := by
  have hlt : ∀ {b x}, rL r b = some x → b < l.length := fun {b x} hb => by
    unfold rL at hb
    rw [← hlr]
    cases hq : r[b]? with
    | none => rw [hq] at hb; cases hb
    | some y => exact (List.getElem?_eq_some_iff.1 hq).1
  refine ⟨hl, fun b hb => ?_, fun b c d hb => ?_, fun b b' c d d' h1 h2 hne => ?_⟩
  · rw [hL_get hl, List.getElem?_eq_none hb]
  · have hbl := hlt hb
    have hb2 : r[b]? = some (some (c, d)) := by
      unfold rL at hb
      cases hq : r[b]? with
      | none => rw [hq] at hb; cases hb
      | some y => rw [hq] at hb; exact congrArg some hb
    obtain ⟨e1, e2⟩ := h b c d l[b] hb2 (List.getElem?_eq_getElem hbl)
    exact ⟨hbl, e1, _, (hL_get hl b).trans (List.getElem?_eq_getElem hbl), e2⟩
  · have k1 := hlt h1
    have k2 := hlt h2
    exact .inr (.inr ⟨l[b], l[b'], (hL_get hl b).trans (List.getElem?_eq_getElem k1), (hL_get hl b').trans (List.getElem?_eq_getElem k2), hro _ (List.getElem_mem k1), hro _ (List.getElem_mem k2)⟩)
/-- A row of words or bytes, read-only. -/
theorem or_ro {ρ : Ren} {w : World} {b off D : Nat} {k : IntKind} {l : List Int} {e : TypeId} (hD : l.length + off ≤ D) (h : ∀ i, i < l.length → w.cell? ⟨b, off + i, none⟩ = some (.int k (l.getD i 0))) : OR ρ (off, D) (.ints k l e .ro) w.heap[b]? := ⟨fun _ => by
  refine ⟨hD, fun hl => ?_⟩
  have hl : 0 < l.length := hl rfl
  obtain ⟨c, t, fr, hb, _⟩ := cell_row (h 0 hl)
  have hat : ∀ i, i < l.length → c[i + off]? = some (.int k (l.getD i 0)) := fun i hi => by
    obtain ⟨c', t', fr', hb', hc⟩ := cell_row (h i hi)
    rw [hb] at hb'; cases hb'
    rw [Nat.add_comm]; exact hc
  refine ⟨c, t, fr, hb, (fun hh => by cases hh), ?_, hD, fun i a hi => ?_⟩
  · have := (Array.getElem?_eq_some_iff.1 (hat (l.length - 1) (by omega))).1
    show l.length + off ≤ c.size
    omega
  · simp only [AObj.at, Option.map_eq_some_iff] at hi
    obtain ⟨m, hm, rfl⟩ := hi
    have hil := (List.getElem?_eq_some_iff.1 hm).1
    refine ⟨_, hat i hil, ?_⟩
    show Value.int k (l.getD i 0) = Value.int k m
    rw [List.getD_eq_getElem?_getD, hm]; rfl, fun l e => by cases e⟩
theorem or_glob {ρ : Ren} {w : World} {g b off c n s e : Nat} (hc : w.cell? ⟨g, 0, none⟩ = some (.slice (some ⟨b, off, none⟩) n c)) (hn : n ≤ c) (hρ : ρ s = some (b, (off, off + c))) : OR ρ (0, 1) (.cells [.sl s 0 n n false 1] e .ro) w.heap[g]? := ⟨fun _ => by
  refine ⟨Nat.le_refl _, fun _ => ?_⟩
  obtain ⟨cs, t, fr, hb, h0⟩ := cell_row hc
  refine ⟨cs, t, fr, hb, (fun h => by cases h), ?_, Nat.le_refl _, fun i a hi => ?_⟩
  · have := (Array.getElem?_eq_some_iff.1 h0).1
    show 1 + 0 ≤ _; omega
  · match i, hi with
    | 0, hi =>
      simp only [AObj.at, List.getElem?_cons_zero, Option.some.injEq] at hi
      subst hi
      refine ⟨_, h0, ?_⟩
      unfold VR
      exact .inl ⟨b, (off, off + c), off, c, hρ, rfl, fun _ => (Nat.zero_add _).symm, Nat.le_refl _, hn, fun h => (by cases h), by show off + c * 1 ≤ off + c; omega⟩
    | i + 1, hi => simp [AObj.at] at hi, fun l e => by cases e⟩
theorem byI_bI (bs : List UInt8) : byI (bI bs) = true := by
  unfold byI bI
  rw [List.all_eq_true]
  intro x hx
  obtain ⟨b, _, rfl⟩ := List.mem_map.1 hx
  have := b.toNat_lt
  rw [Bool.and_eq_true, decide_eq_true_eq, decide_eq_true_eq]
  show (0 : Int) ≤ ((b.toNat : Nat) : Int) ∧ ((b.toNat : Nat) : Int) ≤ 255
  omega
theorem Below.ofStp {ρ' : Ren} {l : List AObj} {r : List (Option (Nat × (Nat × Nat)))} {w W' : World} {σ' : AH} (hl : l.length ≤ 1000000) (hr : HR (rL r) (hL l) w) (hro : ∀ o ∈ l, o.isRo = true) (h : Stp (hL l).next (rL r) (hL l) w ρ' σ' W') : Below w.heap.size w W' := by
  refine ⟨h.os, h.tape, h.output, h.size, fun c hc => ?_⟩
  by_cases hm : ∃ b d, rL r b = some (c, d)
  · obtain ⟨b, d, hm⟩ := hm
    obtain ⟨k1, k2, o, k3, k4⟩ := hr.dom b c d hm
    have k5 : l[b]? = some o := by rw [← hL_get hl]; exact k3
    exact (h.ro b c d o k1 hm hc k3 (hro o (List.mem_of_getElem? k5))).2
  · exact h.frame c hc fun b d h => hm ⟨b, d, h⟩
end Go.Proofs.YtjkicmlelilcaaaDoor.V2
namespace Go.Proofs.YtjkicmlelilcaaaDoor.V2
open Go
open Go.RowKit
theorem globS_row {w : World} (hS : GlobS w) : ∀ ρ, OR ρ (0, 8) (.ints .u32 (wI S0) 62 .ro) w.heap[0]? := fun ρ => or_ro (by rw [wI_length]; exact Nat.le_refl _) fun i hi => by
  rw [wI_getD, Nat.zero_add]; exact hS i (by rw [wI_length] at hi; exact hi)
theorem globK_row {w : World} (hK : GlobK w) : ∀ ρ, OR ρ (0, 64) (.ints .u32 (wI KK) 62 .ro) w.heap[3]? := fun ρ => or_ro (by rw [wI_length]; exact Nat.le_refl _) fun i hi => by
  rw [wI_getD, Nat.zero_add]; exact hK i (by rw [wI_length] at hi; exact hi)
end Go.Proofs.YtjkicmlelilcaaaDoor.V2
namespace Go.Proofs.YtjkicmlelilcaaaDoor.V2
open Go
open Go.RowKit
section
variable {Γ : Gam} {σ : AH} {ev : Ref → AV} {d : Option Nat}
end
theorem get_put {σ : AH} {b : Nat} {o : AObj} (hb : b < 1000000) (m : Nat) : (σ.put b o).get m = if m = b then some o else σ.get m := T.get_put _ _ _ _ (by omega)
mutual
/-- What a value speaks of was there before. -/
theorem VR.back {ρ ρ' : Ren} (h : Sub ρ ρ') : ∀ (a : AV) (v v' : Value), VR ρ a v → VR ρ' a v' → VR ρ a v'
  | .top, _, _, _, _ => trivial
  | .bool _, _, _, _, e => e
  | .int _ _, _, _, _, e => e
  | .str _, _, _, _, e => e
  | .ptr _ _, _, _, ⟨c, d, hc, _⟩, ⟨c', d', hc', e'⟩ => by
    have := h _ _ hc
    rw [hc'] at this; cases this
    exact ⟨c, d, hc, e'⟩
  | .nilptr, _, _, _, e => e
  | .sl _ _ _ _ _ _, _, _, .inl ⟨c, d, o, k, hc, _⟩, .inl ⟨c', d', o', k', hc', e'⟩ => by
    have := h _ _ hc
    rw [hc'] at this; cases this
    exact .inl ⟨c, d, o', k', hc, e'⟩
  | .sl _ _ _ _ _ _, _, _, .inl ⟨_, _, _, _, hc, _⟩, .inr ⟨h1, h2, h3, _, e⟩ => .inr ⟨h1, h2, h3, ⟨_, hc⟩, e⟩
  | .sl _ _ _ _ _ _, _, _, .inr ⟨_, _, _, ⟨x, hx⟩, _⟩, .inl ⟨c', d', o', k', hc', e'⟩ => by
    have := h _ _ hx
    rw [hc'] at this; cases this
    exact .inl ⟨c', d', o', k', hx, e'⟩
  | .sl _ _ _ _ _ _, _, _, .inr ⟨_, _, _, hx, _⟩, .inr ⟨h1, h2, h3, _, e⟩ => .inr ⟨h1, h2, h3, hx, e⟩
  | .nilsl, _, _, _, e => e
  | .map _, _, _, ⟨c, d, hc, _⟩, ⟨c', d', hc', e'⟩ => by
    have := h _ _ hc
    rw [hc'] at this; cases this
    exact ⟨c, d, hc, e'⟩
  | .nilmap, _, _, _, e => e
  | .fn _ xs ys, _, _, ⟨us, vs, _, h1, h2⟩, ⟨us', vs', e, h1', h2'⟩ => ⟨us', vs', e, VRs.back h xs us us' h1 h1', VRs.back h ys vs vs' h2 h2'⟩
  | .nilfn, _, _, _, e => e
  | .ifc _ a, _, _, ⟨u, _, hu⟩, ⟨u', e, hu'⟩ => ⟨u', e, VR.back h a u u' hu hu'⟩
  | .nilifc, _, _, _, e => e
  | .agg l, _, _, ⟨us, _, hu⟩, ⟨us', e, hu'⟩ => ⟨us', e, VRs.back h l us us' hu hu'⟩
  | .ints _ _, _, _, _, e => e
  | .tup l, _, _, ⟨us, _, hu⟩, ⟨us', e, hu'⟩ => ⟨us', e, VRs.back h l us us' hu hu'⟩
theorem VRs.back {ρ ρ' : Ren} (h : Sub ρ ρ') : ∀ (l : List AV) (vs vs' : List Value), VRs ρ l vs → VRs ρ' l vs' → VRs ρ l vs'
  | [], _, _, _, e => e
  | a :: l, _, _, ⟨v, m, _, hv, hm⟩, ⟨v', m', e, hv', hm'⟩ => ⟨v', m', e, VR.back h a v v' hv hv', VRs.back h l m m' hm hm'⟩
end
theorem MapL.back {ρ ρ' : Ren} (h : Sub ρ ρ') : ∀ {l : List (AV × AV)} {es es' : List MapEntry}, MapL ρ l es → MapL ρ' l es' → MapL ρ l es'
  | [], _, _, _, e => e
  | _ :: _, _, _, ⟨_, _, _, h2, h3, h4⟩, ⟨e', m', h1', h2', h3', h4'⟩ => ⟨e', m', h1', VR.back h _ _ _ h2 h2', VR.back h _ _ _ h3 h3', h4.back h h4'⟩
theorem OR.back {ρ ρ' : Ren} (h : Sub ρ ρ') {d : Nat × Nat} {o : AObj} {x x' : Option Obj} (h1 : OR ρ d o x) (h2 : OR ρ' d o x') : OR ρ d o x' := by
  refine ⟨fun hc => ?_, fun l e => ?_⟩
  · obtain ⟨k1, k2⟩ := h1.1 hc
    obtain ⟨_, q2⟩ := h2.1 hc
    refine ⟨k1, fun hr => ?_⟩
    obtain ⟨_, _, _, _, _, _, _, k7⟩ := k2 hr
    obtain ⟨c, e, fr, q3, q4, q5, q6, q7⟩ := q2 hr
    refine ⟨c, e, fr, q3, q4, q5, q6, fun i a hi => ?_⟩
    obtain ⟨v, _, hv⟩ := k7 i a hi
    obtain ⟨v', hv1, hv'⟩ := q7 i a hi
    exact ⟨v', hv1, VR.back h a v v' hv hv'⟩
  · obtain ⟨es, ck, _, m1, _⟩ := h1.2 l e
    obtain ⟨es', ck', m2, m3, m4⟩ := h2.2 l e
    exact ⟨es', ck', m2, m1.back h m3, m4⟩
/-- New blocks are forgotten. -/
theorem HR.forget {ρ ρ' : Ren} {σ σ' : AH} {W W' : World} (h : HR ρ σ W) (h' : HR ρ' σ' W') (hs : Stp σ.next ρ σ W ρ' σ' W') (hg : Grown σ σ') : HR ρ σ W' ∧ Stp σ.next ρ σ W ρ σ W' := by
  have ext : Sub ρ ρ' := fun b x hb => by rw [hs.ext b (h.dom b x.1 x.2 hb).1]; exact hb
  refine ⟨⟨h.small, h.none_, fun b c d hb => ?_, fun b b' c d d' h1 h2 hne => h.inj b b' c d d' h1 h2 hne⟩, ⟨fun _ _ => rfl, fun b c d hb => .inl ⟨b, d, hb⟩, Nat.le_refl _, fun _ _ _ _ ho _ => ho, hs.frame, hs.tape, hs.os, hs.output, hs.size, fun b c d o hb hρ hc ho hr => ⟨ho, (hs.ro b c d o hb hρ hc ho hr).2⟩⟩⟩
  obtain ⟨k1, k2, o, k3, k4⟩ := h.dom b c d hb
  obtain ⟨_, q2, o', q3, q4⟩ := h'.dom b c d (ext _ _ hb)
  rw [hg.get b k1, k3] at q3
  cases q3
  exact ⟨k1, q2, o, k3, k4.back ext q4⟩
end Go.Proofs.YtjkicmlelilcaaaDoor.V2
namespace Go.Proofs.YtjkicmlelilcaaaDoor.V2
open Go
open Go.RowKit
section
variable {S : List AV → AH → AV → AH → Prop} {args : List AV} {σ σ' : AH} {v : AV} {Γ : Gam} {P : Program} {G : Nat} {f f' : FuncId}
end
/-- Values that speak of no block. -/
def AV.flat1 : AV → Bool
  | .bool _ | .int _ _ | .str _ | .nilptr | .nilsl | .ints _ _ => true
  | _ => false
theorem VR.flat1 {ρ ρ' : Ren} {a : AV} {v : Value} (ha : a.flat1 = true) (h : VR ρ a v) : VR ρ' a v := by
  cases a <;> simp only [AV.flat1, Bool.false_eq_true] at ha <;> (unfold VR at h ⊢; exact h)
section
variable {Γ : Gam} {f : FuncId} {fn : Func} {c : Code} {c' : ACode} {xs : List ARes}
end
section
variable {A : Ar} {Γ : Gam} {G nt N : Nat} {K : AK} {env : T AV} {σ : AH}
end
section
variable {A : Ar} {Γ : Gam} {G nt N : Nat} {K K' : AK} {env : T AV} {σ : AH}
end
end Go.Proofs.YtjkicmlelilcaaaDoor.V2
namespace Go.Proofs.YtjkicmlelilcaaaDoor.V2
open Go
open Go.ChangeMaps (setBlock)
section
variable {P : Program} {Γ : Gam} {G nt N : Nat} {ρ : Ren} {σ : AH} {W : World} {env : T AV} {a : Act} {K : AK}
/-- The first so many operations of a region. -/
theorem plain_pre (hΓ : GamOk P G Γ) {ops : Array Oper} {Q : Exit → Act → World → Prop} (m : Nat) : ∀ (l : List Oper) (rows : List CRow) (i : Nat), rowsOf P nt (rfS G) ops l = some rows → (∀ j, j < l.length → ops[i + j]? = l[j]?) →
    ∀ {ρ : Ren} {σ : AH} {W : World} {env : T AV} {a : Act}, HR ρ σ W → ER G nt ρ env a → (evP std Γ rows env σ).1 = true →
    (∀ ρ' a' W', HR ρ' (evP std Γ rows env σ).2.2 W' → ER G nt ρ' (evP std Γ rows env σ).2.1 a' → Stp σ.next ρ σ W ρ' (evP std Γ rows env σ).2.2 W' → a'.defers = a.defers → wpOps P ops Q (List.range' (i + l.length) m) a' W') →
    wpOps P ops Q (List.range' i (l.length + m)) a W := by
  intro l
  induction l with
  | nil =>
    intro rows i hrows _ ρ σ W env a hr he _ hQ
    cases hrows
    have h := hQ ρ a W hr he (Stp.refl (Nat.le_refl _)) rfl
    simpa using h
  | cons o l ih =>
    intro rows i hrows hops ρ σ W env a hr he hok hQ
    unfold rowsOf at hrows
    split at hrows
    · cases hrows
    · rename_i r hro
      split at hrows
      · cases hrows
      · rename_i rs hrs
        cases hrows
        have h0 := hops 0 (by simp)
        simp only [Nat.add_zero, List.getElem?_cons_zero] at h0
        rw [List.length_cons, show l.length + 1 + m = (l.length + m) + 1 by omega, List.range'_succ, wpOps_cons]
        unfold wpOp
        simp only [h0]
        unfold evP at hok hQ
        generalize hg : gstep std Γ (evS env) σ r = g at hok hQ
        obtain ⟨ok, v, σ'⟩ := g
        simp only at hok hQ
        generalize hrest : evP std Γ rs (putD env r.dst v) σ' = rest at hok hQ
        obtain ⟨ok', env', σ''⟩ := rest
        simp only [Bool.and_eq_true] at hok hQ
        obtain ⟨_, _, hdst, hdlt⟩ := rowOf_spec hro
        refine row_sound hΓ he.glob hro (fun x => he.ev x) hr (by rw [hg]; exact hok.1) fun u W' ρ' h1 h2 h3 => ?_
        rw [hg] at h1 h2 h3
        simp only at h1 h2 h3
        have he' : ER G nt ρ' (putD env r.dst v) (a.put o.dst u) := by
          rw [hdst]; exact (he.sub (h2.sub hr)).put hdlt h3
        refine ih rs (i + 1) hrs (fun j hj => by have := hops (j + 1) (by simp; omega); rw [show i + 1 + j = i + (j + 1) by omega]; simpa using this) h1 he' (by rw [hrest]; exact hok.2) fun ρ'' a' W'' k1 k2 k3 k4 => ?_
        rw [hrest] at k1 k2 k3
        have hq := hQ ρ'' a' W'' k1 k2 (h2.trans k3 h2.next) (by rw [k4]; cases o.dst <;> rfl)
        rwa [List.length_cons, show i + (l.length + 1) = i + 1 + l.length by omega] at hq
/-- One operation that gives a value. -/
theorem op_value {ops : Array Oper} {Q : Exit → Act → World → Prop} {i m : Nat} {o : Oper} {v : Value} {W' : World} (ho : ops[i]? = some o) (hg : o.guard = none) (hrun : (execOp a.eval o).run P W = .ok (.value v) W')
    (h : wpOps P ops Q (List.range' (i + 1) m) (a.put o.dst v) W') : wpOps P ops Q (List.range' i (m + 1)) a W := by
  rw [List.range'_succ, wpOps_cons]
  unfold wpOp
  simp only [ho]
  rw [if_pos (by simp [Region.wanted, hg])]
  refine .inl ?_
  unfold Oper.wp
  rw [hrun, Oper.upon_value]
  exact h
theorem op_none {ops : Array Oper} {Q : Exit → Act → World → Prop} {i : Nat} (h : Q .normal a W) : wpOps P ops Q (List.range' i 0) a W := h
/-- Less is told of the frame. -/
theorem ER.less {env' : T AV} (h : ER G nt ρ env a) (hl : ∀ t v, env'.get t = some v → env.get t = some v) : ER G nt ρ env' a := ⟨h.small, h.size, h.glob, fun t v ht => h.at_ t v (hl t v ht)⟩
theorem calls_of_aq {f : FuncId} {fn : Func} {c : Code} {xs : List ARes} {vs : List Value} {K : AV → AH → Prop} (hf : P.funcs[f]? = some fn) (hb : fn.body = some c) (hres : compR P fn.results.toList = some xs)
    (h : c.wp P (AQ G fn.ntmps σ.next ρ σ W (fun e env σ' => (match e with | .normal => True | .ret => True | _ => False) ∧ (resL std env σ' xs).1 = true ∧ K (retV (resL std env σ' xs).2) σ')) { tmps := vs.toArray ++ Array.replicate (fn.ntmps - vs.toArray.size) undef, defers := [] } W) :
    Calls P f vs.toArray W fun e W' => ∃ v av σ' ρ', e = .returned v ∧ K av σ' ∧ HR ρ' σ' W' ∧ Stp σ.next ρ σ W ρ' σ' W' ∧ VR ρ' av v := by
  refine calls_of_wp hf hb (wp_mono h fun e a W' ⟨ρ', env', σ', ⟨h1, h2, h3⟩, h4, h5, h6, h7⟩ => ?_)
  obtain ⟨v, e1, e2⟩ := results_run (P := P) h4 h5 hres h2
  cases e
  case normal => exact ⟨h7, v, e1, v, _, σ', ρ', rfl, h3, h4, h6, e2⟩
  case ret => exact ⟨h7, v, e1, v, _, σ', ρ', rfl, h3, h4, h6, e2⟩
  all_goals exact h1.elim
end
end Go.Proofs.YtjkicmlelilcaaaDoor.V2
namespace Go.Proofs.YtjkicmlelilcaaaDoor.V2
open Go
open Go.ChangeMaps (setBlock)
section
variable {P : Program} {Γ : Gam} {pu : FuncId → Bool} {G nt N : Nat} {ρ ρ0 : Ren} {σ σ0 : AH} {W W0 : World} {env : T AV} {a : Act} {K : AK}
/-- A block of which no more is said. -/
def AObj.shut : AObj := .cells [] 0 .ro
theorem OR.shut {ρ : Ren} {d : Nat × Nat} {x : Option Obj} (h : d.1 ≤ d.2) : OR ρ d AObj.shut x := ⟨fun _ => ⟨by show 0 + d.1 ≤ d.2; omega, fun hl => absurd (hl rfl) (Nat.lt_irrefl 0)⟩, fun l h => by cases h⟩
/-- The world turned in one block, which is no one's. -/
theorem Stp.turn {r : Nat} {w1 : World} {o : Obj} (h : Stp N ρ0 σ0 W0 ρ σ W) (hw : w1 = W ∨ w1 = W.drew) (hr : W0.heap.size ≤ r) : Stp N ρ0 σ0 W0 ρ σ (setBlock w1 r o) := by
  have hh : ∀ c, c ≠ r → (setBlock w1 r o).heap[c]? = W.heap[c]? := fun c hc => by
    have e : (setBlock w1 r o).heap = W.heap.setIfInBounds r o := by rcases hw with rfl | rfl <;> rfl
    rw [e, Array.getElem?_setIfInBounds_ne (Ne.symm hc)]
  have hsz : (setBlock w1 r o).heap.size = W.heap.size := by
    have e : (setBlock w1 r o).heap = W.heap.setIfInBounds r o := by rcases hw with rfl | rfl <;> rfl
    rw [e, Array.size_setIfInBounds]
  refine ⟨h.ext, h.img, h.next, h.keep, fun c hc hn => (hh c (by omega)).trans (h.frame c hc hn), ?_, ?_, ?_, by rw [hsz]; exact h.size, fun b c d o hb hρ hc ho hro => ?_⟩
  · rcases hw with rfl | rfl <;> exact h.tape
  · rcases hw with rfl | rfl <;> exact h.os
  · rcases hw with rfl | rfl <;> exact h.output
  · obtain ⟨e1, e2⟩ := h.ro b c d o hb hρ hc ho hro
    exact ⟨e1, (hh c (by omega)).trans e2⟩
theorem HR.turn {r : Nat} {w1 : World} {o : Obj} {b : Nat} (h : HR ρ σ W) (hw : w1 = W ∨ w1 = W.drew) (hu : ∀ b' d', ρ b' = some (r, d') → b' = b) (ho : σ.get b = some AObj.shut) : HR ρ σ (setBlock w1 r o) := by
  have hh : ∀ c, c ≠ r → (setBlock w1 r o).heap[c]? = W.heap[c]? := fun c hc => by
    have e : (setBlock w1 r o).heap = W.heap.setIfInBounds r o := by rcases hw with rfl | rfl <;> rfl
    rw [e, Array.getElem?_setIfInBounds_ne (Ne.symm hc)]
  have hsz : (setBlock w1 r o).heap.size = W.heap.size := by
    have e : (setBlock w1 r o).heap = W.heap.setIfInBounds r o := by rcases hw with rfl | rfl <;> rfl
    rw [e, Array.size_setIfInBounds]
  refine ⟨h.small, h.none_, fun b' c' d' hb' => ?_, h.inj⟩
  obtain ⟨h1, h2, o2, h3, h4⟩ := h.dom b' c' d' hb'
  refine ⟨h1, by rw [hsz]; exact h2, o2, h3, ?_⟩
  by_cases hc : c' = r
  · subst hc
    obtain rfl := hu b' d' hb'
    rw [ho] at h3; cases h3
    exact OR.shut (by have := (h4.1 rfl).1; exact Nat.le_trans (Nat.le_add_left _ _) this)
  · rw [hh c' hc]; exact h4
end
end Go.Proofs.YtjkicmlelilcaaaDoor.V2
namespace Go.Proofs.YtjkicmlelilcaaaDoor.V2
open Go
open Go.ChangeMaps (setBlock)
section
variable {P : Program} {Γ : Gam} {pu : FuncId → Bool} {G nt N : Nat} {ρ ρ0 : Ren} {σ σ0 : AH} {W0 : World}
/-- What is told in the one frame is told in the other. -/
def Sups (env env' : T AV) : Prop := ∀ t v, env.get t = some v → env'.get t = some v
theorem MapL.mem {ρ : Ren} : ∀ {L : List (AV × AV)} {es : List MapEntry}, MapL ρ L es → ∀ e ∈ es, ∃ p ∈ L, VR ρ p.1 e.key ∧ VR ρ p.2 e.val
  | [], es, h, e, he => by rw [show es = [] from h] at he; cases he
  | p :: L, _, ⟨e0, m, h0, h1, h2, h3⟩, e, he => by
    subst h0
    rcases List.mem_cons.1 he with rfl | he
    · exact ⟨p, List.mem_cons_self, h1, h2⟩
    · obtain ⟨q, hq, k⟩ := h3.mem e he
      exact ⟨q, List.mem_cons_of_mem _ hq, k⟩
theorem Stp.same_ren {ρ ρ' : Ren} {σ : AH} {W W' : World} (h : HR ρ σ W) (h' : HR ρ' σ W') (hs : Stp σ.next ρ σ W ρ' σ W') : ρ' = ρ := by
  funext b
  by_cases hb : b < σ.next
  · exact hs.ext b hb
  · have e : ∀ {ρ : Ren} {W : World}, HR ρ σ W → ρ b = none := fun {ρ W} h => by
      cases hc : ρ b with
      | none => rfl
      | some x => exact absurd (h.dom b x.1 x.2 hc).1 hb
    rw [e h, e h']
theorem Act.put_defers (a : Act) (d : Option Nat) (u : Value) : (a.put d u).defers = a.defers := by cases d <;> rfl
/-- The state of a loop over a map. -/
def MSt (G nt N : Nat) (ρ ρ0 : Ren) (σ σ0 : AH) (W0 : World) (env1 : T AV) (r c ck : Nat) (es : Array MapEntry) (n : Nat) (a : Act) (W : World) : Prop := HR ρ σ W ∧ ER G nt ρ env1 a ∧ Stp N ρ0 σ0 W0 ρ σ W ∧ a.defers = [] ∧ ∃ seen, W.heap[r]? = some (.mapIter (some c) ck seen ck) ∧ W.heap[c]? = some (.map es ck) ∧ (leftOf es seen).size = n
theorem map_loop (hm : P.follows .mixedOrders = true) (hΓ : GamOk P G Γ) (hpu : PuOk Γ pu) {id id1 i1 i2 it n0 n1 e0 bi bm r c : Nat} {d : Nat × Nat} {ON OE : Array Oper} {oN oE : Oper} {lN lE : List Oper} {BODY : Code} {cB : ACode} {rowsN rowsE : List CRow} {env1 eF eT : T AV} {L : List (AV × AV)} {es : Array MapEntry} {ck : Nat}
    (hON : ON.toList = oN :: lN) (hN1 : oN.op = .next (.tmp it) false) (hN2 : oN.guard = none) (hN3 : oN.dst = some n0) (hrN : rowsOf P nt (rfS G) ON lN = some rowsN)
    (hOE : OE.toList = oE :: lE) (hE1 : oE.op = .entry (.tmp it)) (hE2 : oE.guard = none) (hE3 : oE.dst = some e0) (hrE : rowsOf P nt (rfS G) OE lE = some rowsE)
    (hcB : compC P G nt pu BODY = some cB) (hn0 : n0 < nt) (he0 : e0 < nt)
    (hit : env1.get it = some (.ptr bi 0)) (hρi : ρ bi = some (r, (0, 0))) (hρm : ρ bm = some (c, d)) (hσi : σ.get bi = some AObj.shut) (hσm : σ.get bm = some AObj.shut) (hui : ∀ b' d', ρ b' = some (r, d') → b' = bi) (hcr : c ≠ r) (hr0 : W0.heap.size ≤ r) (_hNσ : N ≤ σ.next)
    (hF : evP std Γ rowsN (env1.put n0 (.tup [.bool false])) σ = (true, eF, σ)) (hF1 : eF.get n1 = some (.bool false)) (hF2 : Sups env1 eF)
    (hT : evP std Γ rowsN (env1.put n0 (.tup [.bool true, .top, .top])) σ = (true, eT, σ)) (hT1 : eT.get n1 = some (.bool true)) (hT2 : Sups env1 eT)
    (hB : ∀ p ∈ L, ∃ eE, evP std Γ rowsE (env1.put e0 (.tup [p.1, p.2])) σ = (true, eE, σ) ∧ avc std Γ G nt σ.next cB (fun e env' σ' => e = .normal ∧ Sups env1 env' ∧ Grown σ σ') eE σ)
    (hL : MapL ρ L es.toList) (hnd : (es.toList.map (·.born)).Nodup) (hck : ∀ x ∈ es.toList, x.born < ck)
    {Q : Exit → Act → World → Prop} (hQ : ∀ a' W', HR ρ σ W' → ER G nt ρ env1 a' → Stp N ρ0 σ0 W0 ρ σ W' → a'.defers = [] → Q .normal a' W')
    {a : Act} {W : World} (hr : HR ρ σ W) (he : ER G nt ρ env1 a) (hs : Stp N ρ0 σ0 W0 ρ σ W) (hd : a.defers = []) (hWr : W.heap[r]? = some (.mapIter (some c) ck #[] ck)) (hWc : W.heap[c]? = some (.map es ck)) :
    (Code.block id (.loop (.seq (.region i1 ON false) (.seq (.cond (.tmp n1) .skip (.exit id)) (.block id1 (.seq (.region i2 OE false) BODY)))))).wp P Q a W := by
  refine wp_block (wp_loop_n (MSt G nt N ρ ρ0 σ σ0 W0 env1 r c ck es) ?_ ⟨hr, he, hs, hd, #[], hWr, hWc, rfl⟩)
  rintro n a W ⟨hr, he, hs, hd, seen, hWr, hWc, hn⟩
  have hev : a.eval (.tmp it) = .pointer (some ⟨r, 0, none⟩) := by
    have h := he.at_ it _ hit
    unfold VR at h
    obtain ⟨c1, d1, h1, h2⟩ := h
    rw [hρi] at h1; cases h1
    exact h2
  have hszN : ON.size = lN.length + 1 := by rw [← Array.length_toList, hON]; rfl
  have hszE : OE.size = lE.length + 1 := by rw [← Array.length_toList, hOE]; rfl
  have hatN : ∀ j, ON[j]? = (oN :: lN)[j]? := fun j => by rw [← hON, Array.getElem?_toList]
  have hatE : ∀ j, OE[j]? = (oE :: lE)[j]? := fun j => by rw [← hOE, Array.getElem?_toList]
  have hputN : ∀ u, a.put oN.dst u = a.put (some n0) u := fun u => by rw [hN3]
  refine wp_seq (wp_region ?_)
  rw [List.range_eq_range', hszN]
  have hkeep : ∀ {W1 W2 : World}, Stp σ.next ρ σ W1 ρ σ W2 → HR ρ σ W1 → W2.heap[r]? = W1.heap[r]? ∧ W2.heap[c]? = W1.heap[c]? := fun {W1 W2} h h1 => by
    obtain ⟨a1, a2, _⟩ := h1.dom _ _ _ hρi
    obtain ⟨b1, b2, _⟩ := h1.dom _ _ _ hρm
    exact ⟨(h.ro bi r (0, 0) _ a1 hρi a2 hσi rfl).2, (h.ro bm c d _ b1 hρm b2 hσm rfl).2⟩
  have hnext := hs.next
  rcases run_next_at (P := P) W oN.type r c ck ck seen es ck hWr hWc hck (Nat.le_refl _) with ⟨_, hrun⟩ | ⟨e, hel, w1, hw1, hrun⟩
  · -- nothing is left
    refine op_value (o := oN) (v := .tuple #[.bool false]) (W' := W) (hatN 0) hN2 (by simp only [execOp, hN1, hev, Sem.run_bind, hrun]; rfl) ?_
    have he1 : ER G nt ρ (env1.put n0 (.tup [.bool false])) (a.put oN.dst (.tuple #[.bool false])) := by
      rw [hN3]
      exact he.put (d := some n0) (fun t h => by cases h; exact hn0) (by unfold VR; exact ⟨[.bool false], rfl, _, _, rfl, by unfold VR; rfl, rfl⟩)
    refine plain_pre (P := P) (nt := nt) hΓ (ops := ON) 0 lN rowsN 1 hrN (fun j hj => by rw [hatN, Nat.add_comm, List.getElem?_cons_succ]) hr he1 (by rw [hF]) fun ρ' a' W' k1 k2 k3 k4 => op_none ?_
    rw [hF] at k1 k2 k3
    dsimp only at k1 k2 k3
    obtain rfl := Stp.same_ren hr k1 k3
    refine wp_seq (wp_cond_false (by have h := k2.at_ n1 _ hF1; unfold VR at h; exact h) (wp_exit ?_))
    show (if id = id then Q .normal a' W' else Q (.exit id) a' W')
    rw [if_pos rfl]
    exact hQ a' W' k1 (k2.less hF2) (hs.trans k3 hnext) (by rw [k4, Act.put_defers]; exact hd)
  · -- an entry
    obtain ⟨hes, hseen⟩ := mem_left hel
    obtain ⟨p, hpL, hp1, hp2⟩ := hL.mem e hes
    obtain ⟨eE, hE, hbody⟩ := hB p hpL
    have hr2 := hr.turn (o := .mapIter (some c) ck (seen.push e.born) ck) hw1 hui hσi
    have hs2 := hs.turn (r := r) (o := .mapIter (some c) ck (seen.push e.born) ck) hw1 hr0
    have hh2 : (setBlock w1 r (.mapIter (some c) ck (seen.push e.born) ck)).heap = W.heap.setIfInBounds r (.mapIter (some c) ck (seen.push e.born) ck) := by rcases hw1 with rfl | rfl <;> rfl
    have hrlt : r < W.heap.size := (Array.getElem?_eq_some_iff.1 hWr).1
    have hW2r : (setBlock w1 r (.mapIter (some c) ck (seen.push e.born) ck)).heap[r]? = some (.mapIter (some c) ck (seen.push e.born) ck) := by
      rw [hh2, Array.getElem?_setIfInBounds_self]; simp [hrlt]
    have hW2c : (setBlock w1 r (.mapIter (some c) ck (seen.push e.born) ck)).heap[c]? = some (.map es ck) := by
      rw [hh2, Array.getElem?_setIfInBounds_ne (Ne.symm hcr)]; exact hWc
    generalize setBlock w1 r (.mapIter (some c) ck (seen.push e.born) ck) = W2 at hrun hr2 hs2 hh2 hW2r hW2c
    refine op_value (o := oN) (v := .tuple #[.bool true, e.key, e.val]) (W' := W2) (hatN 0) hN2 (by simp only [execOp, hN1, hev, Sem.run_bind, hrun]; rfl) ?_
    have he1 : ER G nt ρ (env1.put n0 (.tup [.bool true, .top, .top])) (a.put oN.dst (.tuple #[.bool true, e.key, e.val])) := by
      rw [hN3]
      exact he.put (d := some n0) (fun t h => by cases h; exact hn0) (by unfold VR; exact ⟨[.bool true, e.key, e.val], rfl, _, _, rfl, by unfold VR; rfl, _, _, rfl, by unfold VR; trivial, _, _, rfl, by unfold VR; trivial, rfl⟩)
    refine plain_pre (P := P) (nt := nt) hΓ (ops := ON) 0 lN rowsN 1 hrN (fun j hj => by rw [hatN, Nat.add_comm, List.getElem?_cons_succ]) hr2 he1 (by rw [hT]) fun ρ' a3 W3 k1 k2 k3 k4 => op_none ?_
    rw [hT] at k1 k2 k3
    dsimp only at k1 k2 k3
    obtain rfl := Stp.same_ren hr2 k1 k3
    obtain ⟨q1, q2⟩ := hkeep k3 hr2
    rw [hW2r] at q1
    rw [hW2c] at q2
    have hs3 := hs2.trans k3 hs2.next
    have he3 := k2.less hT2
    have hd3 : a3.defers = [] := by rw [k4, Act.put_defers]; exact hd
    refine wp_seq (wp_cond_true (by have h := k2.at_ n1 _ hT1; unfold VR at h; exact h) (wp_skip ?_))
    show (Code.block id1 (.seq (.region i2 OE false) BODY)).wp P _ a3 W3
    refine wp_block (wp_seq (wp_region ?_))
    rw [List.range_eq_range', hszE]
    have hev3 : a3.eval (.tmp it) = .pointer (some ⟨r, 0, none⟩) := by
      have h := he3.at_ it _ hit
      unfold VR at h
      obtain ⟨c1, d1, h1, h2⟩ := h
      rw [hρi] at h1; cases h1
      exact h2
    have hrunE := run_entry_at (P := P) W3 r c ck seen es ck e q1 q2 hes hnd
    refine op_value (o := oE) (v := .tuple #[e.key, e.val]) (W' := W3) (hatE 0) hE2 (by simp only [execOp, hE1, hev3, Sem.run_bind, hrunE]; rfl) ?_
    have he4 : ER G nt ρ' (env1.put e0 (.tup [p.1, p.2])) (a3.put oE.dst (.tuple #[e.key, e.val])) := by
      rw [hE3]
      exact he3.put (d := some e0) (fun t h => by cases h; exact he0) (by unfold VR; exact ⟨[e.key, e.val], rfl, _, _, rfl, hp1, _, _, rfl, hp2, rfl⟩)
    refine plain_pre (P := P) (nt := nt) hΓ (ops := OE) 0 lE rowsE 1 hrE (fun j hj => by rw [hatE, Nat.add_comm, List.getElem?_cons_succ]) k1 he4 (by rw [hE]) fun ρ'' a5 W5 g1 g2 g3 g4 => op_none ?_
    rw [hE] at g1 g2 g3
    dsimp only at g1 g2 g3
    obtain rfl := Stp.same_ren k1 g1 g3
    have hd5 : a5.defers = [] := by rw [g4, Act.put_defers]; exact hd3
    obtain ⟨u1, u2⟩ := hkeep g3 k1
    rw [q1] at u1
    rw [q2] at u2
    show BODY.wp P _ a5 W5
    refine wp_mono (avc_sound hm hΓ hpu BODY cB hcB _ eE σ _ W5 a5 hbody g1 g2 (Stp.refl (Nat.le_refl _)) hd5) fun e' a6 W6 ⟨ρ6, env6, σ6, ⟨he', hsup, hgrow⟩, x1, x2, x3, x4⟩ => ?_
    subst he'
    obtain ⟨y1, y2⟩ := g1.forget x1 x3 hgrow
    obtain ⟨v1, v2⟩ := hkeep y2 g1
    refine ⟨(leftOf es (seen.push e.born)).size, by rw [← hn]; exact left_shrinks es seen e hel, y1, ⟨he3.small, x2.size, he3.glob, fun t v ht => VR.back (x3.sub g1) v _ _ (he3.at_ t v ht) (x2.at_ t v (hsup t v ht))⟩, (hs3.trans g3 hs3.next).trans y2 hs3.next, x4, seen.push e.born, v1.trans u1, v2.trans u2, rfl⟩
end
end Go.Proofs.YtjkicmlelilcaaaDoor.V2
namespace Go.Proofs.YtjkicmlelilcaaaDoor
set_option maxRecDepth 100000 in
theorem z0 : (List.range' 0 5).map (fun n => shaB (List.replicate n 0)) = [[227, 176, 196, 66, 152, 252, 28, 20, 154, 251, 244, 200, 153, 111, 185, 36, 39, 174, 65, 228, 100, 155, 147, 76, 164, 149, 153, 27, 120, 82, 184, 85], [110, 52, 11, 156, 255, 179, 122, 152, 156, 165, 68, 230, 187, 120, 10, 44, 120, 144, 29, 63, 179, 55, 56, 118, 133, 17, 163, 6, 23, 175, 160, 29], [150, 162, 150, 210, 36, 242, 133, 198, 123, 238, 147, 195, 15, 138, 48, 145, 87, 240, 218, 163, 93, 197, 184, 126, 65, 11, 120, 99, 10, 9, 207, 199], [112, 158, 128, 200, 132, 135, 162, 65, 30, 30, 228, 223, 185, 242, 42, 134, 20, 146, 210, 12, 71, 101, 21, 12, 12, 121, 74, 189, 112, 248, 20, 124], [223, 63, 97, 152, 4, 169, 47, 219, 64, 87, 25, 45, 196, 61, 215, 72, 234, 119, 138, 220, 82, 188, 73, 140, 232, 5, 36, 192, 20, 184, 17, 25]] := by decide +kernel
set_option maxRecDepth 100000 in
theorem z5 : (List.range' 5 5).map (fun n => shaB (List.replicate n 0)) = [[136, 85, 80, 138, 173, 225, 110, 197, 115, 210, 30, 106, 72, 93, 253, 10, 118, 36, 8, 92, 26, 20, 181, 236, 221, 100, 133, 222, 12, 104, 57, 164], [176, 246, 106, 220, 131, 100, 21, 134, 101, 104, 102, 129, 63, 217, 221, 11, 142, 187, 99, 121, 96, 117, 102, 27, 164, 93, 26, 168, 8, 158, 29, 68], [131, 120, 133, 200, 248, 9, 26, 234, 235, 158, 195, 195, 248, 90, 111, 244, 112, 164, 21, 230, 16, 184, 186, 62, 73, 249, 179, 60, 156, 249, 214, 25], [175, 85, 112, 245, 161, 129, 11, 122, 247, 140, 175, 75, 199, 10, 102, 15, 13, 245, 30, 66, 186, 249, 29, 77, 229, 178, 50, 141, 224, 232, 61, 252], [62, 112, 119, 253, 47, 102, 214, 137, 224, 206, 230, 167, 207, 91, 55, 191, 45, 202, 124, 151, 154, 243, 86, 208, 163, 28, 188, 92, 133, 96, 92, 125]] := by decide +kernel
set_option maxRecDepth 100000 in
theorem z10 : (List.range' 10 5).map (fun n => shaB (List.replicate n 0)) = [[1, 212, 72, 175, 217, 40, 6, 84, 88, 207, 103, 11, 96, 245, 165, 148, 215, 53, 175, 1, 114, 200, 214, 127, 34, 168, 22, 128, 19, 38, 129, 202], [113, 182, 193, 213, 56, 50, 247, 137, 167, 242, 67, 90, 124, 98, 146, 69, 250, 55, 97, 173, 132, 135, 119, 94, 191, 73, 87, 51, 2, 19, 167, 6], [21, 236, 123, 240, 181, 7, 50, 180, 159, 130, 40, 224, 125, 36, 54, 83, 56, 249, 227, 171, 153, 75, 0, 175, 8, 229, 163, 191, 254, 85, 253, 139], [221, 70, 195, 238, 187, 24, 132, 255, 59, 82, 88, 192, 162, 252, 147, 152, 229, 96, 162, 158, 7, 128, 212, 181, 56, 105, 182, 37, 74, 164, 106, 150], [231, 236, 235, 188, 89, 11, 200, 139, 55, 97, 250, 108, 208, 61, 116, 159, 135, 70, 61, 171, 182, 112, 33, 165, 198, 118, 140, 37, 236, 104, 179, 242]] := by decide +kernel
set_option maxRecDepth 100000 in
theorem z15 : (List.range' 15 5).map (fun n => shaB (List.replicate n 0)) = [[83, 34, 254, 207, 201, 42, 94, 50, 72, 162, 151, 163, 223, 62, 221, 251, 155, 217, 4, 149, 4, 39, 46, 79, 87, 43, 135, 250, 54, 212, 179, 189], [55, 71, 8, 255, 247, 113, 157, 213, 151, 158, 200, 117, 213, 108, 210, 40, 111, 109, 60, 247, 236, 49, 122, 59, 37, 99, 42, 171, 40, 236, 55, 187], [10, 136, 17, 24, 82, 9, 92, 174, 4, 83, 64, 234, 31, 11, 39, 153, 68, 178, 167, 86, 162, 19, 217, 181, 1, 7, 215, 72, 151, 113, 225, 89], [96, 218, 163, 165, 247, 219, 250, 32, 15, 140, 130, 132, 14, 207, 91, 66, 100, 11, 112, 243, 183, 33, 138, 76, 107, 189, 103, 219, 84, 46, 117, 164], [214, 253, 98, 245, 206, 83, 125, 144, 234, 62, 164, 88, 65, 177, 127, 52, 215, 39, 188, 188, 65, 40, 116, 140, 186, 20, 251, 135, 192, 255, 217, 209]] := by decide +kernel
set_option maxRecDepth 100000 in
theorem z20 : (List.range' 20 5).map (fun n => shaB (List.replicate n 0)) = [[222, 71, 201, 178, 126, 184, 211, 0, 219, 181, 242, 195, 83, 230, 50, 195, 147, 38, 44, 240, 99, 64, 196, 250, 127, 27, 64, 196, 203, 211, 111, 144], [201, 2, 50, 88, 107, 128, 31, 149, 88, 167, 111, 47, 150, 62, 204, 216, 49, 217, 254, 103, 117, 228, 200, 241, 68, 107, 35, 49, 170, 33, 50, 242], [106, 72, 117, 221, 172, 234, 169, 31, 179, 54, 159, 15, 109, 150, 47, 119, 68, 45, 175, 27, 29, 151, 115, 52, 87, 209, 43, 202, 189, 247, 148, 65], [1, 82, 117, 230, 31, 160, 208, 117, 28, 29, 159, 69, 84, 28, 120, 4, 200, 149, 64, 68, 85, 71, 7, 16, 173, 227, 120, 111, 40, 47, 45, 160], [157, 144, 142, 207, 182, 178, 86, 222, 248, 180, 154, 124, 80, 78, 108, 136, 156, 75, 14, 65, 254, 108, 227, 224, 24, 99, 221, 123, 97, 162, 10, 160]] := by decide +kernel
set_option maxRecDepth 100000 in
theorem z25 : (List.range' 25 5).map (fun n => shaB (List.replicate n 0)) = [[97, 18, 109, 225, 183, 149, 185, 118, 243, 172, 135, 143, 72, 232, 143, 167, 122, 135, 215, 48, 139, 165, 124, 118, 66, 185, 225, 6, 132, 3, 164, 150], [101, 157, 54, 202, 86, 59, 164, 98, 45, 170, 187, 54, 167, 29, 175, 175, 96, 96, 205, 203, 248, 155, 177, 46, 117, 66, 97, 152, 73, 109, 39, 44], [234, 73, 170, 159, 111, 108, 242, 213, 61, 69, 78, 98, 139, 165, 163, 57, 204, 0, 2, 48, 196, 101, 22, 85, 208, 35, 119, 17, 215, 71, 245, 11], [58, 221, 251, 20, 28, 215, 201, 196, 198, 84, 58, 130, 25, 26, 55, 7, 172, 41, 199, 160, 65, 33, 119, 130, 230, 29, 77, 145, 198, 145, 174, 232], [17, 228, 49, 194, 21, 197, 189, 51, 76, 236, 189, 67, 20, 130, 116, 237, 243, 255, 219, 214, 205, 100, 121, 254, 39, 149, 119, 251, 229, 245, 44, 230]] := by decide +kernel
set_option maxRecDepth 100000 in
theorem z30 : (List.range' 30 5).map (fun n => shaB (List.replicate n 0)) = [[6, 121, 36, 109, 108, 66, 22, 222, 13, 170, 8, 229, 82, 63, 178, 103, 77, 178, 182, 89, 156, 59, 114, 255, 148, 107, 72, 138, 21, 41, 11, 98], [253, 8, 190, 149, 123, 218, 7, 220, 82, 154, 216, 16, 13, 247, 50, 249, 206, 18, 174, 62, 66, 188, 218, 106, 202, 190, 18, 192, 45, 253, 105, 137], [102, 104, 122, 173, 248, 98, 189, 119, 108, 143, 193, 139, 142, 159, 142, 32, 8, 151, 20, 133, 110, 226, 51, 179, 144, 42, 89, 29, 13, 95, 41, 37], [127, 156, 158, 49, 172, 130, 86, 202, 47, 37, 133, 131, 223, 38, 45, 188, 125, 111, 104, 242, 160, 48, 67, 213, 201, 154, 74, 229, 167, 57, 108, 233], [235, 20, 43, 12, 174, 11, 170, 114, 167, 103, 235, 192, 130, 61, 27, 233, 78, 20, 197, 191, 197, 45, 142, 65, 127, 196, 48, 47, 206, 182, 36, 12]] := by decide +kernel
set_option maxRecDepth 100000 in
theorem z35 : (List.range' 35 5).map (fun n => shaB (List.replicate n 0)) = [[13, 85, 53, 225, 60, 201, 112, 141, 15, 240, 40, 154, 242, 250, 226, 126, 86, 75, 107, 203, 205, 146, 66, 245, 20, 13, 150, 149, 119, 68, 165, 23], [109, 182, 95, 213, 159, 211, 86, 246, 114, 145, 64, 87, 27, 91, 205, 107, 179, 184, 52, 146, 161, 110, 27, 240, 163, 136, 68, 66, 252, 60, 138, 14], [171, 36, 169, 95, 68, 206, 202, 93, 42, 237, 75, 109, 5, 106, 221, 221, 133, 57, 244, 76, 108, 214, 202, 80, 101, 52, 232, 48, 200, 46, 168, 168], [118, 43, 2, 54, 153, 160, 228, 138, 169, 87, 99, 240, 207, 124, 4, 103, 241, 214, 233, 136, 3, 8, 199, 142, 187, 193, 196, 35, 222, 112, 114, 211], [148, 193, 30, 211, 195, 199, 48, 22, 173, 185, 36, 22, 53, 38, 120, 225, 105, 203, 228, 123, 180, 139, 194, 126, 94, 157, 70, 97, 21, 176, 98, 82]] := by decide +kernel
set_option maxRecDepth 100000 in
theorem z40 : (List.range' 40 5).map (fun n => shaB (List.replicate n 0)) = [[44, 52, 206, 29, 242, 59, 131, 140, 90, 191, 42, 127, 100, 55, 204, 163, 211, 6, 126, 213, 9, 255, 37, 241, 29, 246, 177, 27, 88, 43, 81, 235], [158, 23, 54, 196, 61, 25, 17, 142, 108, 228, 48, 33, 24, 175, 51, 113, 9, 73, 30, 204, 82, 117, 125, 251, 148, 155, 173, 106, 121, 64, 176, 194], [9, 76, 73, 49, 253, 178, 242, 175, 65, 124, 158, 3, 34, 169, 113, 96, 6, 232, 33, 31, 233, 1, 127, 103, 26, 198, 227, 37, 19, 0, 172, 202], [133, 151, 50, 185, 115, 130, 160, 133, 131, 214, 166, 127, 88, 66, 72, 101, 5, 229, 11, 238, 117, 75, 217, 181, 122, 195, 171, 248, 27, 151, 20, 242], [133, 117, 155, 56, 17, 255, 125, 196, 123, 3, 121, 42, 200, 83, 23, 190, 81, 67, 26, 63, 158, 1, 220, 175, 206, 49, 126, 215, 54, 163, 145, 176]] := by decide +kernel
set_option maxRecDepth 100000 in
theorem z45 : (List.range' 45 5).map (fun n => shaB (List.replicate n 0)) = [[138, 16, 32, 99, 65, 145, 194, 123, 99, 211, 194, 170, 69, 183, 35, 246, 150, 221, 242, 116, 60, 168, 153, 106, 51, 237, 14, 71, 221, 215, 252, 7], [135, 143, 50, 247, 107, 21, 148, 148, 245, 163, 159, 147, 33, 97, 108, 96, 104, 205, 184, 46, 136, 223, 137, 188, 199, 57, 187, 193, 234, 120, 225, 249], [20, 14, 218, 69, 254, 0, 28, 15, 228, 126, 221, 127, 197, 9, 255, 24, 130, 212, 111, 188, 183, 199, 67, 125, 137, 60, 31, 184, 48, 18, 228, 51], [23, 176, 118, 31, 135, 176, 129, 213, 207, 16, 117, 124, 204, 137, 241, 43, 227, 85, 199, 14, 46, 41, 223, 40, 139, 101, 179, 7, 16, 220, 188, 209], [120, 135, 127, 168, 152, 240, 180, 196, 92, 156, 51, 174, 148, 30, 64, 97, 122, 215, 200, 101, 122, 48, 125, 182, 43, 197, 105, 31, 146, 244, 246, 14]] := by decide +kernel
set_option maxRecDepth 100000 in
theorem z50 : (List.range' 50 5).map (fun n => shaB (List.replicate n 0)) = [[204, 39, 134, 225, 249, 145, 10, 157, 129, 20, 0, 237, 205, 218, 247, 7, 81, 149, 247, 161, 107, 33, 109, 203, 239, 186, 59, 199, 196, 242, 174, 81], [142, 143, 228, 126, 74, 51, 177, 120, 191, 4, 51, 216, 5, 12, 176, 173, 126, 195, 35, 251, 222, 234, 179, 236, 253, 133, 123, 76, 225, 128, 91, 122], [121, 85, 203, 45, 233, 13, 217, 239, 198, 223, 159, 219, 245, 245, 209, 12, 17, 79, 65, 53, 169, 166, 181, 45, 177, 0, 59, 231, 73, 227, 47, 122], [53, 63, 214, 40, 183, 246, 231, 212, 38, 229, 214, 162, 125, 27, 195, 172, 34, 250, 127, 129, 46, 117, 148, 207, 46, 197, 202, 17, 117, 120, 91, 80], [234, 101, 156, 220, 131, 134, 25, 179, 118, 124, 5, 127, 223, 142, 109, 153, 253, 226, 104, 12, 93, 133, 23, 235, 6, 118, 28, 8, 120, 212, 12, 64]] := by decide +kernel
set_option maxRecDepth 100000 in
theorem z55 : (List.range' 55 5).map (fun n => shaB (List.replicate n 0)) = [[2, 119, 148, 102, 205, 236, 22, 56, 17, 208, 120, 129, 92, 99, 63, 33, 144, 20, 19, 8, 20, 73, 0, 47, 36, 170, 62, 128, 240, 184, 142, 247], [212, 129, 122, 165, 73, 118, 40, 231, 199, 126, 107, 96, 97, 7, 4, 43, 187, 163, 19, 8, 136, 197, 244, 122, 55, 94, 97, 121, 190, 120, 159, 187], [101, 161, 108, 183, 134, 19, 53, 213, 172, 227, 198, 7, 24, 181, 5, 46, 68, 102, 7, 38, 218, 76, 209, 59, 183, 69, 56, 27, 35, 90, 23, 133], [102, 180, 168, 178, 161, 127, 4, 99, 247, 66, 124, 2, 57, 16, 110, 175, 113, 14, 167, 18, 159, 66, 209, 132, 165, 140, 80, 205, 255, 97, 75, 164], [221, 164, 102, 140, 68, 223, 114, 44, 90, 150, 63, 187, 250, 31, 243, 165, 151, 170, 238, 245, 242, 191, 14, 189, 91, 194, 140, 136, 193, 56, 63, 51]] := by decide +kernel
set_option maxRecDepth 100000 in
theorem z60 : (List.range' 60 5).map (fun n => shaB (List.replicate n 0)) = [[93, 204, 27, 88, 114, 221, 159, 241, 194, 52, 80, 31, 31, 239, 218, 1, 246, 100, 22, 78, 21, 131, 195, 225, 187, 61, 190, 164, 117, 136, 171, 49], [198, 226, 108, 62, 49, 186, 199, 94, 165, 86, 53, 108, 187, 209, 33, 144, 226, 159, 39, 126, 165, 249, 1, 15, 143, 136, 213, 171, 51, 99, 162, 207], [30, 187, 43, 220, 92, 224, 142, 110, 144, 179, 237, 231, 42, 142, 243, 21, 227, 225, 188, 237, 58, 60, 69, 143, 105, 182, 215, 238, 255, 158, 79, 58], [199, 114, 63, 161, 224, 18, 121, 117, 228, 158, 98, 231, 83, 219, 83, 146, 76, 27, 216, 75, 138, 193, 172, 8, 223, 120, 208, 146, 112, 243, 217, 113], [245, 165, 253, 66, 209, 106, 32, 48, 39, 152, 239, 110, 211, 9, 151, 155, 67, 0, 61, 35, 32, 217, 240, 232, 234, 152, 49, 169, 39, 89, 251, 75]] := by decide +kernel
set_option maxRecDepth 100000 in
theorem z65 : (List.range' 65 5).map (fun n => shaB (List.replicate n 0)) = [[152, 206, 66, 222, 239, 81, 212, 2, 105, 213, 66, 245, 49, 75, 239, 44, 116, 104, 212, 1, 173, 93, 133, 22, 139, 250, 180, 192, 16, 143, 117, 247], [239, 187, 3, 183, 167, 246, 253, 60, 41, 57, 29, 77, 2, 129, 225, 131, 10, 133, 202, 173, 216, 49, 195, 240, 71, 22, 250, 202, 65, 7, 164, 46], [27, 226, 179, 153, 11, 65, 12, 164, 251, 56, 209, 247, 144, 25, 196, 1, 140, 216, 130, 11, 105, 97, 134, 70, 200, 29, 34, 223, 203, 221, 200, 2], [23, 81, 172, 18, 231, 14, 21, 180, 247, 108, 22, 119, 92, 211, 41, 174, 85, 151, 59, 97, 37, 33, 218, 178, 222, 130, 138, 92, 219, 108, 138, 179], [205, 5, 194, 40, 63, 98, 183, 199, 73, 17, 0, 141, 246, 166, 97, 1, 213, 30, 213, 203, 35, 230, 180, 181, 200, 74, 244, 188, 96, 219, 15, 58]] := by decide +kernel
end Go.Proofs.YtjkicmlelilcaaaDoor
