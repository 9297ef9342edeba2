/- The reference Hmac of the program computes the keyed hash, in any world. Condition: its tables hold what their initialisers lay. -/
import Derived.Test.YtjkicmlelilcaaaDoorMFA
import Derived.Test.YtjkicmlelilcaaaDoorMEB
import Derived.Test.YtjkicmlelilcaaaDoorW9
import Derived.Test.YtjkicmlelilcaaaDoorK1
namespace Go.Proofs.YtjkicmlelilcaaaDoor
open Go
def HB0 : ACode := (.reg [⟨(.aop (.mov (.slot 7))), (some 23), none⟩, ⟨(.aop (.mov (.slot 7))), (some 24), none⟩, ⟨(.aop (.idxArr 32 1 (.slot 6) (.slot 24))), (some 25), none⟩, ⟨(.aop (.load1 (.slot 25))), (some 26), none⟩, ⟨(.aop (.idxArr 64 1 (.slot 5) (.slot 23))), (some 27), none⟩, ⟨(.aop (.store 1 (.slot 27) (.slot 26))), none, none⟩])
def HL0 : ACode := (.loop (.seq (.seq (.reg [⟨(.aop (.mov (.slot 7))), (some 19), none⟩, ⟨(.aop (.bin .lss (.slot 19) (.lit (.int .i64 (32))))), (some 20), none⟩]) (.cond (.slot 20) .skip (.exit 0))) (.seq (.block 1 HB0) (.reg [⟨(.aop (.mov (.slot 7))), (some 21), none⟩, ⟨(.aop (.bin .add (.slot 21) (.lit (.int .i64 (1))))), (some 22), none⟩, ⟨(.aop (.mov (.slot 22))), (some 7), none⟩]))))
def HB2 : ACode := (.reg [⟨(.aop (.mov (.slot 8))), (some 34), none⟩, ⟨(.aop (.mov (.slot 0))), (some 35), none⟩, ⟨(.aop (.mov (.slot 8))), (some 36), none⟩, ⟨(.aop (.idxSl 1 (.slot 35) (.slot 36))), (some 37), none⟩, ⟨(.aop (.load1 (.slot 37))), (some 38), none⟩, ⟨(.aop (.idxArr 64 1 (.slot 5) (.slot 34))), (some 39), none⟩, ⟨(.aop (.store 1 (.slot 39) (.slot 38))), none, none⟩])
def HL2 : ACode := (.loop (.seq (.seq (.reg [⟨(.aop (.mov (.slot 8))), (some 28), none⟩, ⟨(.aop (.mov (.slot 0))), (some 29), none⟩, ⟨(.aop (.lenSl (.slot 29))), (some 30), none⟩, ⟨(.aop (.bin .lss (.slot 28) (.slot 30))), (some 31), none⟩]) (.cond (.slot 31) .skip (.exit 2))) (.seq (.block 3 HB2) (.reg [⟨(.aop (.mov (.slot 8))), (some 32), none⟩, ⟨(.aop (.bin .add (.slot 32) (.lit (.int .i64 (1))))), (some 33), none⟩, ⟨(.aop (.mov (.slot 33))), (some 8), none⟩]))))
def HB4 : ACode := (.seq (.reg [⟨(.aop (.mov (.slot 9))), (some 44), none⟩, ⟨(.aop (.mov (.slot 11))), (some 45), none⟩, ⟨(.aop (.idxArr 64 1 (.slot 5) (.slot 45))), (some 46), none⟩, ⟨(.aop (.load1 (.slot 46))), (some 47), none⟩, ⟨(.aop (.bin .xor (.slot 47) (.lit (.int .u8 (54))))), (some 48), none⟩, ⟨(.aop (.ext (.bslice 5 1 1) [(.slot 48)])), (some 49), none⟩, ⟨(.aop (.ext (.append 5 false 1) [(.slot 44), (.slot 49)])), (some 50), none⟩, ⟨(.aop (.mov (.slot 50))), (some 9), none⟩]) (.reg [⟨(.aop (.mov (.slot 10))), (some 51), none⟩, ⟨(.aop (.mov (.slot 11))), (some 52), none⟩, ⟨(.aop (.idxArr 64 1 (.slot 5) (.slot 52))), (some 53), none⟩, ⟨(.aop (.load1 (.slot 53))), (some 54), none⟩, ⟨(.aop (.bin .xor (.slot 54) (.lit (.int .u8 (92))))), (some 55), none⟩, ⟨(.aop (.ext (.bslice 5 1 1) [(.slot 55)])), (some 56), none⟩, ⟨(.aop (.ext (.append 5 false 1) [(.slot 51), (.slot 56)])), (some 57), none⟩, ⟨(.aop (.mov (.slot 57))), (some 10), none⟩]))
def HL4 : ACode := (.loop (.seq (.seq (.reg [⟨(.aop (.mov (.slot 11))), (some 40), none⟩, ⟨(.aop (.bin .lss (.slot 40) (.lit (.int .i64 (64))))), (some 41), none⟩]) (.cond (.slot 41) .skip (.exit 4))) (.seq (.block 5 HB4) (.reg [⟨(.aop (.mov (.slot 11))), (some 42), none⟩, ⟨(.aop (.bin .add (.slot 42) (.lit (.int .i64 (1))))), (some 43), none⟩, ⟨(.aop (.mov (.slot 43))), (some 11), none⟩]))))
def HB6 : ACode := (.reg [⟨(.aop (.mov (.slot 10))), (some 66), none⟩, ⟨(.aop (.mov (.slot 13))), (some 67), none⟩, ⟨(.aop (.idxArr 32 1 (.slot 12) (.slot 67))), (some 68), none⟩, ⟨(.aop (.load1 (.slot 68))), (some 69), none⟩, ⟨(.aop (.ext (.bslice 5 1 1) [(.slot 69)])), (some 70), none⟩, ⟨(.aop (.ext (.append 5 false 1) [(.slot 66), (.slot 70)])), (some 71), none⟩, ⟨(.aop (.mov (.slot 71))), (some 10), none⟩])
def HL6 : ACode := (.loop (.seq (.seq (.reg [⟨(.aop (.mov (.slot 13))), (some 62), none⟩, ⟨(.aop (.bin .lss (.slot 62) (.lit (.int .i64 (32))))), (some 63), none⟩]) (.cond (.slot 63) .skip (.exit 6))) (.seq (.block 7 HB6) (.reg [⟨(.aop (.mov (.slot 13))), (some 64), none⟩, ⟨(.aop (.bin .add (.slot 64) (.lit (.int .i64 (1))))), (some 65), none⟩, ⟨(.aop (.mov (.slot 65))), (some 13), none⟩]))))
def c15 : ACode := (.seq (.reg [⟨(.aop (.alloc 23 [(.int .u8 (0)), (.int .u8 (0)), (.int .u8 (0)), (.int .u8 (0)), (.int .u8 (0)), (.int .u8 (0)), (.int .u8 (0)), (.int .u8 (0)), (.int .u8 (0)), (.int .u8 (0)), (.int .u8 (0)), (.int .u8 (0)), (.int .u8 (0)), (.int .u8 (0)), (.int .u8 (0)), (.int .u8 (0)), (.int .u8 (0)), (.int .u8 (0)), (.int .u8 (0)), (.int .u8 (0)), (.int .u8 (0)), (.int .u8 (0)), (.int .u8 (0)), (.int .u8 (0)), (.int .u8 (0)), (.int .u8 (0)), (.int .u8 (0)), (.int .u8 (0)), (.int .u8 (0)), (.int .u8 (0)), (.int .u8 (0)), (.int .u8 (0))])), (some 4), none⟩]) (.seq (.reg [⟨(.aop (.alloc 97 [(.int .u8 (0)), (.int .u8 (0)), (.int .u8 (0)), (.int .u8 (0)), (.int .u8 (0)), (.int .u8 (0)), (.int .u8 (0)), (.int .u8 (0)), (.int .u8 (0)), (.int .u8 (0)), (.int .u8 (0)), (.int .u8 (0)), (.int .u8 (0)), (.int .u8 (0)), (.int .u8 (0)), (.int .u8 (0)), (.int .u8 (0)), (.int .u8 (0)), (.int .u8 (0)), (.int .u8 (0)), (.int .u8 (0)), (.int .u8 (0)), (.int .u8 (0)), (.int .u8 (0)), (.int .u8 (0)), (.int .u8 (0)), (.int .u8 (0)), (.int .u8 (0)), (.int .u8 (0)), (.int .u8 (0)), (.int .u8 (0)), (.int .u8 (0)), (.int .u8 (0)), (.int .u8 (0)), (.int .u8 (0)), (.int .u8 (0)), (.int .u8 (0)), (.int .u8 (0)), (.int .u8 (0)), (.int .u8 (0)), (.int .u8 (0)), (.int .u8 (0)), (.int .u8 (0)), (.int .u8 (0)), (.int .u8 (0)), (.int .u8 (0)), (.int .u8 (0)), (.int .u8 (0)), (.int .u8 (0)), (.int .u8 (0)), (.int .u8 (0)), (.int .u8 (0)), (.int .u8 (0)), (.int .u8 (0)), (.int .u8 (0)), (.int .u8 (0)), (.int .u8 (0)), (.int .u8 (0)), (.int .u8 (0)), (.int .u8 (0)), (.int .u8 (0)), (.int .u8 (0)), (.int .u8 (0)), (.int .u8 (0))])), (some 5), none⟩]) (.seq (.seq (.reg [⟨(.aop (.mov (.slot 0))), (some 14), none⟩, ⟨(.aop (.lenSl (.slot 14))), (some 15), none⟩, ⟨(.aop (.bin .gtr (.slot 15) (.lit (.int .i64 (64))))), (some 16), none⟩]) (.cond (.slot 16) (.seq (.reg [⟨(.aop (.mov (.slot 0))), (some 17), none⟩, ⟨(.call (.lit (.fn (.func 13) [] [])) [(.slot 17)]), (some 18), none⟩, ⟨(.aop (.alloc 23 [(.int .u8 (0)), (.int .u8 (0)), (.int .u8 (0)), (.int .u8 (0)), (.int .u8 (0)), (.int .u8 (0)), (.int .u8 (0)), (.int .u8 (0)), (.int .u8 (0)), (.int .u8 (0)), (.int .u8 (0)), (.int .u8 (0)), (.int .u8 (0)), (.int .u8 (0)), (.int .u8 (0)), (.int .u8 (0)), (.int .u8 (0)), (.int .u8 (0)), (.int .u8 (0)), (.int .u8 (0)), (.int .u8 (0)), (.int .u8 (0)), (.int .u8 (0)), (.int .u8 (0)), (.int .u8 (0)), (.int .u8 (0)), (.int .u8 (0)), (.int .u8 (0)), (.int .u8 (0)), (.int .u8 (0)), (.int .u8 (0)), (.int .u8 (0))])), (some 6), none⟩, ⟨(.aop (.store 32 (.slot 6) (.slot 18))), none, none⟩]) (.seq (.reg [⟨(.aop (.mov (.lit (.int .i64 (0))))), (some 7), none⟩]) (.block 0 HL0))) (.seq (.reg [⟨(.aop (.mov (.lit (.int .i64 (0))))), (some 8), none⟩]) (.block 2 HL2)))) (.seq (.reg [⟨(.aop (.mov (.lit .nilsl))), (some 9), none⟩, ⟨(.aop (.mov (.lit .nilsl))), (some 10), none⟩]) (.seq (.seq (.reg [⟨(.aop (.mov (.lit (.int .i64 (0))))), (some 11), none⟩]) (.block 4 HL4)) (.seq (.reg [⟨(.aop (.mov (.slot 9))), (some 58), none⟩, ⟨(.aop (.mov (.slot 1))), (some 59), none⟩, ⟨(.aop (.ext (.append 5 false 1) [(.slot 58), (.slot 59)])), (some 60), none⟩, ⟨(.call (.lit (.fn (.func 13) [] [])) [(.slot 60)]), (some 61), none⟩, ⟨(.aop (.alloc 23 [(.int .u8 (0)), (.int .u8 (0)), (.int .u8 (0)), (.int .u8 (0)), (.int .u8 (0)), (.int .u8 (0)), (.int .u8 (0)), (.int .u8 (0)), (.int .u8 (0)), (.int .u8 (0)), (.int .u8 (0)), (.int .u8 (0)), (.int .u8 (0)), (.int .u8 (0)), (.int .u8 (0)), (.int .u8 (0)), (.int .u8 (0)), (.int .u8 (0)), (.int .u8 (0)), (.int .u8 (0)), (.int .u8 (0)), (.int .u8 (0)), (.int .u8 (0)), (.int .u8 (0)), (.int .u8 (0)), (.int .u8 (0)), (.int .u8 (0)), (.int .u8 (0)), (.int .u8 (0)), (.int .u8 (0)), (.int .u8 (0)), (.int .u8 (0))])), (some 12), none⟩, ⟨(.aop (.store 32 (.slot 12) (.slot 61))), none, none⟩]) (.seq (.seq (.reg [⟨(.aop (.mov (.lit (.int .i64 (0))))), (some 13), none⟩]) (.block 6 HL6)) (.seq (.reg [⟨(.aop (.mov (.slot 10))), (some 72), none⟩, ⟨(.call (.lit (.fn (.func 13) [] [])) [(.slot 72)]), (some 73), none⟩, ⟨(.aop (.store 32 (.slot 4) (.slot 73))), none, none⟩]) .ret))))))))
theorem comp15 : compC Tryd.prog 4 Tryd.f15.ntmps (fun _ => false) (Tryd.f15.body.getD .skip) = some c15 := by kernel_rfl
theorem pu2_ok {A : Ar} {Sh : List Int → List Int} {By tS tK : List Int → Bool} : PuOk (Γ2 A Sh By tS tK) fun _ => false := fun f h => by cases h
def Z64 : List Int := Z32 ++ Z32
def mem15 (S K Bk Bb : List Int) (l : List (Nat × AObj)) : List (Nat × AObj) := (0, .cells [] 62 .ro) :: (1, .cells [.sl 4 0 8 8 false 1] 62 .ro) :: (2, .cells [.sl 5 0 64 64 false 1] 62 .ro) :: (3, .cells [] 62 .ro) :: (4, .ints .u32 S 62 .ro) :: (5, .ints .u32 K 62 .ro) :: (6, .ints .u8 Bk 5 .ro) :: (7, .ints .u8 Bb 5 .ro) :: (8, .ints .u8 Z32 23 .exact) :: l
theorem low_lay8 {S K Bk Bb : List Int} {l : List (Nat × AObj)} {X : T AObj}
    (h0 : X.get 0 = some (.cells [] 62 .ro)) (h1 : X.get 1 = some (.cells [.sl 4 0 8 8 false 1] 62 .ro)) (h2 : X.get 2 = some (.cells [.sl 5 0 64 64 false 1] 62 .ro)) (h3 : X.get 3 = some (.cells [] 62 .ro))
    (h4 : X.get 4 = some (.ints .u32 S 62 .ro)) (h5 : X.get 5 = some (.ints .u32 K 62 .ro)) (h6 : X.get 6 = some (.ints .u8 Bk 5 .ro)) (h7 : X.get 7 = some (.ints .u8 Bb 5 .ro)) :
    ∀ b, b < 8 → (ofM (mem15 S K Bk Bb l)).get b = X.get b := by
  have key : ∀ (o : AObj) (b : Nat) (l : List (Nat × AObj)), b < 1000000 → (ofM ((b, o) :: l)).get b = some o := fun o b l h => by simp only [ofM]; rw [T.get_put _ _ _ _ (by omega), if_pos rfl]
  have skip : ∀ (o : AObj) (b c : Nat) (l : List (Nat × AObj)), c < 1000000 → b ≠ c → (ofM ((c, o) :: l)).get b = (ofM l).get b := fun o b c l h hn => by simp only [ofM]; rw [T.get_put _ _ _ _ (by omega), if_neg hn]
  intro b hb
  unfold mem15
  match b, hb with
  | 0, _ => rw [h0]; exact key _ _ _ (by omega)
  | 1, _ => rw [h1]; repeat rw [skip _ _ _ _ (by omega) (by omega)]
            exact key _ _ _ (by omega)
  | 2, _ => rw [h2]; repeat rw [skip _ _ _ _ (by omega) (by omega)]
            exact key _ _ _ (by omega)
  | 3, _ => rw [h3]; repeat rw [skip _ _ _ _ (by omega) (by omega)]
            exact key _ _ _ (by omega)
  | 4, _ => rw [h4]; repeat rw [skip _ _ _ _ (by omega) (by omega)]
            exact key _ _ _ (by omega)
  | 5, _ => rw [h5]; repeat rw [skip _ _ _ _ (by omega) (by omega)]
            exact key _ _ _ (by omega)
  | 6, _ => rw [h6]; repeat rw [skip _ _ _ _ (by omega) (by omega)]
            exact key _ _ _ (by omega)
  | 7, _ => rw [h7]; repeat rw [skip _ _ _ _ (by omega) (by omega)]
            exact key _ _ _ (by omega)
end Go.Proofs.YtjkicmlelilcaaaDoor
namespace Go.Proofs.YtjkicmlelilcaaaDoor
open Go
/-- The key laid byte by byte into 64. -/
def kT (l : List UInt8) : Nat → List UInt8
  | 0 => List.replicate 64 0
  | k + 1 => (kT l k).set k (at8 l k)
theorem kT_length (l : List UInt8) (k : Nat) : (kT l k).length = 64 := by
  induction k with
  | zero => simp [kT]
  | succ k ih => simp [kT, ih]
def oT (o h : List UInt8) (k : Nat) : List UInt8 := o ++ h.take k
theorem oT_succ (o h : List UInt8) (k : Nat) (hk : k < h.length) : oT o h (k + 1) = oT o h k ++ [at8 h k] := by
  unfold oT
  rw [List.take_succ_eq_append_getElem hk, List.append_assoc, at8, List.getD_eq_getElem?_getD, List.getElem?_eq_getElem hk]
  rfl
section
variable {A : Ar} {Γ : Gam} {nt : Nat} {K : AK} {env0 : T AV} {σ0 : AH} {LS LK LB LM : List Int}
theorem hp0 (hA : A = std) (nk nb : Nat) (Hq : List Int) (s : List UInt8) (hs : s.length = 32) (hHq : Hq = bI s)
    (hw : ∀ (k0 : Int) (Kq : List Int) (_ : k0 = ((0 : Nat) : Int)) (_ : Kq = bI (kT s 0)), Wk 4 nt 8 env0 σ0 (ofL [(0, .sl 6 0 nk nk false 1), (1, .sl 7 0 nb nb false 1), (4, .ptr 8 0), (5, .ptr 9 0), (6, .ptr 10 0), (7, .int .i64 k0)]) ⟨11, ofM (mem15 LS LK LB LM [(9, .ints .u8 Kq 97 .exact), (10, .ints .u8 Hq 23 .exact)])⟩)
    (hK : ∀ ta tb (k0 : Int) (Kq : List Int) (_ : k0 = ((32 : Nat) : Int)) (_ : Kq = bI (kT s 32)), K .normal (ofL [(19, ta), (20, tb), (0, .sl 6 0 nk nk false 1), (1, .sl 7 0 nb nb false 1), (4, .ptr 8 0), (5, .ptr 9 0), (6, .ptr 10 0), (7, .int .i64 k0)]) ⟨11, ofM (mem15 LS LK LB LM [(9, .ints .u8 Kq 97 .exact), (10, .ints .u8 Hq 23 .exact)])⟩) :
    avc A Γ 4 nt 8 (.block 0 HL0) K env0 σ0 := by
  unfold HL0 HB0
  refine avc_block (avc_loop
    (fun env σ => ∃ k : Nat, k ≤ 32 ∧ ∃ (k0 : Int) (Kq : List Int), k0 = ((k : Nat) : Int) ∧ Kq = bI (kT s k) ∧ env = ofL [(0, .sl 6 0 nk nk false 1), (1, .sl 7 0 nb nb false 1), (4, .ptr 8 0), (5, .ptr 9 0), (6, .ptr 10 0), (7, .int .i64 k0)] ∧ σ = ⟨11, ofM (mem15 LS LK LB LM [(9, .ints .u8 Kq 97 .exact), (10, .ints .u8 Hq 23 .exact)])⟩)
    (fun env _ => match env.get 7 with | some (.int _ k) => 32 - k.toNat | _ => 0)
    (hw _ _ rfl rfl) ⟨0, by omega, _, _, rfl, rfl, rfl, rfl⟩ ?_)
  rintro env σ ⟨k, hk, k0, Kq, hk0, hKq, rfl, rfl⟩
  refine avc_seq_seq (avc_seq_reg (by cbv) rfl (avc_seq_cond (t := A.lt k0 32) (by cbv) (fun ht => ?_) (fun ht => ?_)))
  · have hlt : k < 32 := by subst hA; simp only [std, decide_eq_true_eq] at ht; omega
    have hKl : Kq.length = 64 := by rw [hKq, bI_length, kT_length]
    have hHl : Hq.length = 32 := by rw [hHq, bI_length, hs]
    refine avc_seq_skip (avc_seq_block (avc_reg (by cbv) ?_ ?_))
    · have q0 : k0.toNat = k := by omega
      have q1 : Nat.blt k 32 = true := by rw [Nat.blt_eq]; omega
      have q3 : Nat.blt k 64 = true := by rw [Nat.blt_eq]; omega
      have q2 : (0 : Int) ≤ k0 := by omega
      subst hA
      simp [std, hKl, hHl, q0, q1, q2, q3]
    show avc A Γ 4 nt 8 _ _ _ _
    refine avc_reg (by cbv) rfl ?_
    obtain ⟨k1, hk1⟩ : ∃ k1 : Int, k1 = ((k + 1 : Nat) : Int) := ⟨_, rfl⟩
    obtain ⟨L1, hL1⟩ : ∃ L1, L1 = bI (kT s (k + 1)) := ⟨_, rfl⟩
    refine ⟨_, _, Wk.lay (ren 0 0) (l := [(0, .sl 6 0 nk nk false 1), (1, .sl 7 0 nb nb false 1), (4, .ptr 8 0), (5, .ptr 9 0), (6, .ptr 10 0), (7, .int .i64 k1)]) (L := mem15 LS LK LB LM [(9, .ints .u8 L1 97 .exact), (10, .ints .u8 Hq 23 .exact)]) (n := 11) rfl rfl rfl (by cbv) (by cbv) ?_ ?_ (by cbv) (by cbv) (by cbv) ?_, ⟨k + 1, by omega, k1, L1, hk1, hL1, rfl, rfl⟩, ?_⟩
    · refine had_cons (by cbv) rfl (had_cons (by cbv) rfl (had_cons (by cbv) rfl (had_cons (by cbv) rfl (had_cons (by cbv) rfl (had_cons (by cbv) rfl (had_cons (by cbv) rfl (had_cons (by cbv) rfl (had_cons (by cbv) rfl (had_cons ?_ rfl (had_cons (by cbv) rfl (had_nil)))))))))))
      conv => lhs; cbv
      subst hA
      have q0 : k0.toNat = k := by omega
      have e3 : Kq.set k (Hq.getD k 0) = L1 := by rw [hL1, hKq, hHq, bI_getD, bI_set, kT]
      simp only [std, q0, Nat.zero_add, Nat.mul_one]
      rw [e3]; rfl
    · exact low_lay8 (by cbv) (by cbv) (by cbv) (by cbv) (by cbv) (by cbv) (by cbv) (by cbv)
    · refine has_cons (by cbv) rfl (has_cons (by cbv) rfl (has_cons (by cbv) rfl (has_cons (by cbv) rfl (has_cons (by cbv) rfl (has_cons ?_ rfl (has_nil))))))
      conv => lhs; cbv
      subst hA
      simp only [std, wr]
      congr 2; omega
    · have g1 : (ofL [(0, .sl 6 0 nk nk false 1), (1, .sl 7 0 nb nb false 1), (4, .ptr 8 0), (5, .ptr 9 0), (6, .ptr 10 0), (7, .int .i64 k1)]).get 7 = some (.int .i64 k1) := by cbv
      have g0 : (ofL [(0, .sl 6 0 nk nk false 1), (1, .sl 7 0 nb nb false 1), (4, .ptr 8 0), (5, .ptr 9 0), (6, .ptr 10 0), (7, .int .i64 k0)]).get 7 = some (.int .i64 k0) := by cbv
      rw [g1, g0]
      show 32 - k1.toNat < 32 - k0.toNat
      omega
  · refine avc_seq_exit ?_
    have e : k = 32 := by subst hA; simp only [std, decide_eq_false_iff_not] at ht; omega
    subst e
    have hh := hK (.int .i64 k0) (.bool (A.lt k0 32)) k0 Kq hk0 hKq
    show K .normal _ _
    refine Eq.mp (congr (congrArg (K .normal) ?_) ?_) hh
    · cbv
    · cbv
theorem hp6 (hA : A = std) (Kq Hq : List Int) (o s : List UInt8) (ho : o.length ≤ 1000) (hs : s.length = 32) (hHq : Hq = bI s)
    (hw : ∀ (k0 : Int) (t0 : Nat) (Oq : List Int) (_ : k0 = ((0 : Nat) : Int)) (_ : t0 = o.length + 0) (_ : Oq = bI (oT o s 0)), Wk 4 nt 8 env0 σ0 (ofL [(4, .ptr 8 0), (10, .sl 10 0 t0 t0 false 1), (12, .ptr 11 0), (13, .int .i64 k0)]) ⟨12, ofM (mem15 LS LK LB LM [(9, .ints .u8 Kq 97 .exact), (10, .ints .u8 Oq 5 .more), (11, .ints .u8 Hq 23 .exact)])⟩)
    (hK : ∀ ta tb (k0 : Int) (t0 : Nat) (Oq : List Int) (_ : k0 = ((32 : Nat) : Int)) (_ : t0 = o.length + 32) (_ : Oq = bI (oT o s 32)), K .normal (ofL [(62, ta), (63, tb), (4, .ptr 8 0), (10, .sl 10 0 t0 t0 false 1), (12, .ptr 11 0), (13, .int .i64 k0)]) ⟨12, ofM (mem15 LS LK LB LM [(9, .ints .u8 Kq 97 .exact), (10, .ints .u8 Oq 5 .more), (11, .ints .u8 Hq 23 .exact)])⟩) :
    avc A Γ 4 nt 8 (.block 6 HL6) K env0 σ0 := by
  unfold HL6 HB6
  refine avc_block (avc_loop
    (fun env σ => ∃ k : Nat, k ≤ 32 ∧ ∃ (k0 : Int) (t0 : Nat) (Oq : List Int), k0 = ((k : Nat) : Int) ∧ t0 = o.length + k ∧ Oq = bI (oT o s k) ∧ env = ofL [(4, .ptr 8 0), (10, .sl 10 0 t0 t0 false 1), (12, .ptr 11 0), (13, .int .i64 k0)] ∧ σ = ⟨12, ofM (mem15 LS LK LB LM [(9, .ints .u8 Kq 97 .exact), (10, .ints .u8 Oq 5 .more), (11, .ints .u8 Hq 23 .exact)])⟩)
    (fun env _ => match env.get 13 with | some (.int _ k) => 32 - k.toNat | _ => 0)
    (hw _ _ _ rfl rfl rfl) ⟨0, by omega, _, _, _, rfl, rfl, rfl, rfl, rfl⟩ ?_)
  rintro env σ ⟨k, hk, k0, t0, Oq, hk0, ht0, hOq, rfl, rfl⟩
  refine avc_seq_seq (avc_seq_reg (by cbv) rfl (avc_seq_cond (t := A.lt k0 32) (by cbv) (fun ht => ?_) (fun ht => ?_)))
  · have hlt : k < 32 := by subst hA; simp only [std, decide_eq_true_eq] at ht; omega
    have hHl : Hq.length = 32 := by rw [hHq, bI_length, hs]
    have hOl : Oq.length = t0 := by rw [hOq, bI_length, oT, List.length_append, List.length_take, ht0]; omega
    have q0 : k0.toNat = k := by omega
    refine avc_seq_skip (avc_seq_block (avc_reg (by cbv) ?_ ?_))
    · have q1 : Nat.blt k 32 = true := by rw [Nat.blt_eq]; omega
      have q2 : (0 : Int) ≤ k0 := by omega
      have q4 : Nat.ble t0 t0 = true := by rw [Nat.ble_eq]; omega
      have q5 : Nat.ble (t0 + 1) 1000000000000 = true := by rw [Nat.ble_eq]; omega
      subst hA
      simp [std, hOl, hHl, q0, q1, q2, q4, q5]
    show avc A Γ 4 nt 8 _ _ _ _
    refine avc_reg (by cbv) rfl ?_
    obtain ⟨k1, hk1⟩ : ∃ k1 : Int, k1 = ((k + 1 : Nat) : Int) := ⟨_, rfl⟩
    obtain ⟨t1, ht1⟩ : ∃ t1 : Nat, t1 = o.length + (k + 1) := ⟨_, rfl⟩
    obtain ⟨L1, hL1⟩ : ∃ L1, L1 = bI (oT o s (k + 1)) := ⟨_, rfl⟩
    refine ⟨_, _, Wk.lay (ren 10 13) (l := [(4, .ptr 8 0), (10, .sl 10 0 t1 t1 false 1), (12, .ptr 11 0), (13, .int .i64 k1)]) (L := mem15 LS LK LB LM [(9, .ints .u8 Kq 97 .exact), (10, .ints .u8 L1 5 .more), (11, .ints .u8 Hq 23 .exact)]) (n := 12) rfl rfl rfl (by cbv) (by cbv) ?_ ?_ (by cbv) (by cbv) (by cbv) ?_, ⟨k + 1, by omega, k1, t1, L1, hk1, ht1, hL1, rfl, rfl⟩, ?_⟩
    · refine had_cons (by cbv) rfl (had_cons (by cbv) rfl (had_cons (by cbv) rfl (had_cons (by cbv) rfl (had_cons (by cbv) rfl (had_cons (by cbv) rfl (had_cons (by cbv) rfl (had_cons (by cbv) rfl (had_cons (by cbv) rfl (had_cons (by cbv) rfl (had_cons ?_ rfl (had_cons (by cbv) rfl (had_nil))))))))))))
      conv => lhs; cbv
      subst hA
      have e3 : List.take t0 (List.drop 0 Oq) ++ List.take 1 (List.drop 0 [Hq.getD k 0]) = L1 := by
        rw [hL1, oT_succ _ _ _ (by omega), bI, List.map_append, ← bI, ← hOq, hHq, bI_getD]
        simp [← hOl]
      simp only [std, q0, Nat.zero_add, Nat.mul_one]
      rw [e3]; rfl
    · exact low_lay8 (by cbv) (by cbv) (by cbv) (by cbv) (by cbv) (by cbv) (by cbv) (by cbv)
    · refine has_cons (by cbv) rfl (has_cons ?_ rfl (has_cons (by cbv) rfl (has_cons ?_ rfl (has_nil))))
      · conv => lhs; cbv
        subst hA
        have : t0 + 1 = t1 := by omega
        simp only [std, this]; rfl
      · conv => lhs; cbv
        subst hA
        simp only [std, wr]
        congr 2; omega
    · have g1 : (ofL [(4, .ptr 8 0), (10, .sl 10 0 t1 t1 false 1), (12, .ptr 11 0), (13, .int .i64 k1)]).get 13 = some (.int .i64 k1) := by cbv
      have g0 : (ofL [(4, .ptr 8 0), (10, .sl 10 0 t0 t0 false 1), (12, .ptr 11 0), (13, .int .i64 k0)]).get 13 = some (.int .i64 k0) := by cbv
      rw [g1, g0]
      show 32 - k1.toNat < 32 - k0.toNat
      omega
  · refine avc_seq_exit ?_
    have e : k = 32 := by subst hA; simp only [std, decide_eq_false_iff_not] at ht; omega
    subst e
    have hh := hK (.int .i64 k0) (.bool (A.lt k0 32)) k0 t0 Oq hk0 ht0 hOq
    show K .normal _ _
    refine Eq.mp (congr (congrArg (K .normal) ?_) ?_) hh
    · cbv
    · cbv
end
end Go.Proofs.YtjkicmlelilcaaaDoor
namespace Go.Proofs.YtjkicmlelilcaaaDoor
open Go
def xT (w : List UInt8) (c : UInt8) (k : Nat) : List UInt8 := (List.range k).map fun i => at8 w i ^^^ c
theorem xT_succ (w : List UInt8) (c : UInt8) (k : Nat) : xT w c (k + 1) = xT w c k ++ [at8 w k ^^^ c] := by
  unfold xT; rw [List.range_succ, List.map_append]; rfl
theorem xT_length (w : List UInt8) (c : UInt8) (k : Nat) : (xT w c k).length = k := by simp [xT]
theorem std_xor8 (x y : UInt8) : wr .u8 (stdBits .xor .u8 (N8 x) (N8 y)) = N8 (x ^^^ y) := by
  rw [← wr_eq]; exact u8_bits_xor x y
def ren2 (a b c d : Nat) (x : Nat) : Nat := bif Nat.beq x a then b else bif Nat.beq x c then d else x
section
variable {A : Ar} {Γ : Gam} {nt : Nat} {K : AK} {env0 : T AV} {σ0 : AH} {LS LK LB LM : List Int}
set_option maxHeartbeats 2000000 in
theorem hp4 (hA : A = std) (nb : Nat) (Kq : List Int) (w : List UInt8) (hw64 : w.length = 64) (hKq : Kq = bI w)
    (hw : ∀ (k0 : Int) (t0 : Nat) (Iq : List Int) (Oq : List Int) (_ : k0 = ((0 : Nat) : Int)) (_ : t0 = 0) (_ : Iq = bI (xT w 54 0)) (_ : Oq = bI (xT w 92 0)), Wk 4 nt 8 env0 σ0 (ofL [(1, .sl 7 0 nb nb false 1), (4, .ptr 8 0), (5, .ptr 9 0), (9, .sl 10 0 t0 t0 false 1), (10, .sl 11 0 t0 t0 false 1), (11, .int .i64 k0)]) ⟨12, ofM (mem15 LS LK LB LM [(9, .ints .u8 Kq 97 .exact), (10, .ints .u8 Iq 5 .more), (11, .ints .u8 Oq 5 .more)])⟩)
    (hK : ∀ ta tb (k0 : Int) (t0 : Nat) (Iq : List Int) (Oq : List Int) (_ : k0 = ((64 : Nat) : Int)) (_ : t0 = 64) (_ : Iq = bI (xT w 54 64)) (_ : Oq = bI (xT w 92 64)), K .normal (ofL [(40, ta), (41, tb), (1, .sl 7 0 nb nb false 1), (4, .ptr 8 0), (5, .ptr 9 0), (9, .sl 10 0 t0 t0 false 1), (10, .sl 11 0 t0 t0 false 1), (11, .int .i64 k0)]) ⟨12, ofM (mem15 LS LK LB LM [(9, .ints .u8 Kq 97 .exact), (10, .ints .u8 Iq 5 .more), (11, .ints .u8 Oq 5 .more)])⟩) :
    avc A Γ 4 nt 8 (.block 4 HL4) K env0 σ0 := by
  unfold HL4 HB4
  refine avc_block (avc_loop
    (fun env σ => ∃ k : Nat, k ≤ 64 ∧ ∃ (k0 : Int) (t0 : Nat) (Iq : List Int) (Oq : List Int), k0 = ((k : Nat) : Int) ∧ t0 = k ∧ Iq = bI (xT w 54 k) ∧ Oq = bI (xT w 92 k) ∧ env = ofL [(1, .sl 7 0 nb nb false 1), (4, .ptr 8 0), (5, .ptr 9 0), (9, .sl 10 0 t0 t0 false 1), (10, .sl 11 0 t0 t0 false 1), (11, .int .i64 k0)] ∧ σ = ⟨12, ofM (mem15 LS LK LB LM [(9, .ints .u8 Kq 97 .exact), (10, .ints .u8 Iq 5 .more), (11, .ints .u8 Oq 5 .more)])⟩)
    (fun env _ => match env.get 11 with | some (.int _ k) => 64 - k.toNat | _ => 0)
    (hw _ _ _ _ rfl rfl rfl rfl) ⟨0, by omega, _, _, _, _, rfl, rfl, rfl, rfl, rfl, rfl⟩ ?_)
  rintro env σ ⟨k, hk, k0, t0, Iq, Oq, hk0, ht0, hIq, hOq, rfl, rfl⟩
  refine avc_seq_seq (avc_seq_reg (by cbv) rfl (avc_seq_cond (t := A.lt k0 64) (by cbv) (fun ht => ?_) (fun ht => ?_)))
  · have hlt : k < 64 := by subst hA; simp only [std, decide_eq_true_eq] at ht; omega
    have hKl : Kq.length = 64 := by rw [hKq, bI_length, hw64]
    have hIl : Iq.length = t0 := by rw [hIq, bI_length, xT_length, ht0]
    have hOl : Oq.length = t0 := by rw [hOq, bI_length, xT_length, ht0]
    have q0 : k0.toNat = k := by omega
    have q1 : Nat.blt k 64 = true := by rw [Nat.blt_eq]; omega
    have q2 : (0 : Int) ≤ k0 := by omega
    have q4 : Nat.ble t0 t0 = true := by rw [Nat.ble_eq]; omega
    have q5 : Nat.ble (t0 + 1) 1000000000000 = true := by rw [Nat.ble_eq]; omega
    refine avc_seq_skip (avc_seq_block (avc_seq_reg (by cbv) ?_ (avc_reg (by cbv) ?_ ?_)))
    · subst hA
      simp [std, hKl, hIl, q0, q1, q2, q4, q5]
    · subst hA
      simp [std, hKl, hOl, q0, q1, q2, q4, q5]
    show avc A Γ 4 nt 8 _ _ _ _
    refine avc_reg (by cbv) rfl ?_
    obtain ⟨k1, hk1⟩ : ∃ k1 : Int, k1 = ((k + 1 : Nat) : Int) := ⟨_, rfl⟩
    obtain ⟨t1, ht1⟩ : ∃ t1 : Nat, t1 = k + 1 := ⟨_, rfl⟩
    obtain ⟨L1, hL1⟩ : ∃ L1, L1 = bI (xT w 54 (k + 1)) := ⟨_, rfl⟩
    obtain ⟨L2, hL2⟩ : ∃ L2, L2 = bI (xT w 92 (k + 1)) := ⟨_, rfl⟩
    refine ⟨_, _, Wk.lay (ren2 10 13 11 15) (l := [(1, .sl 7 0 nb nb false 1), (4, .ptr 8 0), (5, .ptr 9 0), (9, .sl 10 0 t1 t1 false 1), (10, .sl 11 0 t1 t1 false 1), (11, .int .i64 k1)]) (L := mem15 LS LK LB LM [(9, .ints .u8 Kq 97 .exact), (10, .ints .u8 L1 5 .more), (11, .ints .u8 L2 5 .more)]) (n := 12) rfl rfl rfl (by cbv) (by cbv) ?_ ?_ (by cbv) (by cbv) (by cbv) ?_, ⟨k + 1, by omega, k1, t1, L1, L2, hk1, ht1, hL1, hL2, rfl, rfl⟩, ?_⟩
    · refine had_cons (by cbv) rfl (had_cons (by cbv) rfl (had_cons (by cbv) rfl (had_cons (by cbv) rfl (had_cons (by cbv) rfl (had_cons (by cbv) rfl (had_cons (by cbv) rfl (had_cons (by cbv) rfl (had_cons (by cbv) rfl (had_cons (by cbv) rfl (had_cons ?_ rfl (had_cons ?_ rfl (had_nil))))))))))))
      · skip
        conv => lhs; cbv
        subst hA
        have e3 : List.take t0 (List.drop 0 Iq) ++ List.take 1 (List.drop 0 [N8 (at8 w k ^^^ 54)]) = L1 := by
          rw [hL1, xT_succ, bI, List.map_append, ← bI, ← hIq]
          simp [← hIl]
        have e4 : wr .u8 (stdBits .xor .u8 (Kq.getD k 0) 54) = N8 (at8 w k ^^^ 54) := by
          rw [hKq, bI_getD]; exact std_xor8 (at8 w k) 54
        simp only [std, q0, Nat.zero_add, Nat.mul_one, e4]
        rw [e3]; rfl
      · skip
        conv => lhs; cbv
        subst hA
        have e3 : List.take t0 (List.drop 0 Oq) ++ List.take 1 (List.drop 0 [N8 (at8 w k ^^^ 92)]) = L2 := by
          rw [hL2, xT_succ, bI, List.map_append, ← bI, ← hOq]
          simp [← hOl]
        have e4 : wr .u8 (stdBits .xor .u8 (Kq.getD k 0) 92) = N8 (at8 w k ^^^ 92) := by
          rw [hKq, bI_getD]; exact std_xor8 (at8 w k) 92
        simp only [std, q0, Nat.zero_add, Nat.mul_one, e4]
        rw [e3]; rfl
    · exact low_lay8 (by cbv) (by cbv) (by cbv) (by cbv) (by cbv) (by cbv) (by cbv) (by cbv)
    · refine has_cons (by cbv) rfl (has_cons (by cbv) rfl (has_cons (by cbv) rfl (has_cons ?_ rfl (has_cons ?_ rfl (has_cons ?_ rfl (has_nil))))))
      · conv => lhs; cbv
        subst hA
        have : t0 + 1 = t1 := by omega
        simp only [std, this]; rfl
      · conv => lhs; cbv
        subst hA
        have : t0 + 1 = t1 := by omega
        simp only [std, this]; rfl
      · conv => lhs; cbv
        subst hA
        simp only [std, wr]
        congr 2; omega
    · have g1 : (ofL [(1, .sl 7 0 nb nb false 1), (4, .ptr 8 0), (5, .ptr 9 0), (9, .sl 10 0 t1 t1 false 1), (10, .sl 11 0 t1 t1 false 1), (11, .int .i64 k1)]).get 11 = some (.int .i64 k1) := by cbv
      have g0 : (ofL [(1, .sl 7 0 nb nb false 1), (4, .ptr 8 0), (5, .ptr 9 0), (9, .sl 10 0 t0 t0 false 1), (10, .sl 11 0 t0 t0 false 1), (11, .int .i64 k0)]).get 11 = some (.int .i64 k0) := by cbv
      rw [g1, g0]
      show 64 - k1.toNat < 64 - k0.toNat
      omega
  · refine avc_seq_exit ?_
    have e : k = 64 := by subst hA; simp only [std, decide_eq_false_iff_not] at ht; omega
    subst e
    have hh := hK (.int .i64 k0) (.bool (A.lt k0 64)) k0 t0 Iq Oq hk0 ht0 hIq hOq
    show K .normal _ _
    refine Eq.mp (congr (congrArg (K .normal) ?_) ?_) hh
    · cbv
    · cbv
end
end Go.Proofs.YtjkicmlelilcaaaDoor
namespace Go.Proofs.YtjkicmlelilcaaaDoor
open Go
section
variable {A : Ar} {Γ : Gam} {nt : Nat} {K : AK} {env0 : T AV} {σ0 : AH} {LS LK LB LM : List Int}
set_option maxHeartbeats 2000000 in
theorem hp2 (hA : A = std) (nb nk : Nat) (key : List UInt8) (hk64 : key.length ≤ 64) (hnk : nk = key.length) (hLB : LB = bI key)
    (hw : ∀ (k0 : Int) (Kq : List Int) (_ : k0 = ((0 : Nat) : Int)) (_ : Kq = bI (kT key 0)), Wk 4 nt 8 env0 σ0 (ofL [(0, .sl 6 0 nk nk false 1), (1, .sl 7 0 nb nb false 1), (4, .ptr 8 0), (5, .ptr 9 0), (8, .int .i64 k0)]) ⟨10, ofM (mem15 LS LK LB LM [(9, .ints .u8 Kq 97 .exact)])⟩)
    (hK : ∀ ta tb tc td (k0 : Int) (Kq : List Int) (_ : Kq = bI (kT key key.length)), K .normal (ofL [(28, ta), (29, tb), (30, tc), (31, td), (0, .sl 6 0 nk nk false 1), (1, .sl 7 0 nb nb false 1), (4, .ptr 8 0), (5, .ptr 9 0), (8, .int .i64 k0)]) ⟨10, ofM (mem15 LS LK LB LM [(9, .ints .u8 Kq 97 .exact)])⟩) :
    avc A Γ 4 nt 8 (.block 2 HL2) K env0 σ0 := by
  unfold HL2 HB2
  refine avc_block (avc_loop
    (fun env σ => ∃ k : Nat, k ≤ nk ∧ ∃ k0 Kq, k0 = ((k : Nat) : Int) ∧ Kq = bI (kT key k) ∧ env = ofL [(0, .sl 6 0 nk nk false 1), (1, .sl 7 0 nb nb false 1), (4, .ptr 8 0), (5, .ptr 9 0), (8, .int .i64 k0)] ∧ σ = ⟨10, ofM (mem15 LS LK LB LM [(9, .ints .u8 Kq 97 .exact)])⟩)
    (fun env _ => match env.get 8 with | some (.int _ k) => nk - k.toNat | _ => 0)
    (hw _ _ rfl rfl) ⟨0, by omega, _, _, rfl, rfl, rfl, rfl⟩ ?_)
  rintro env σ ⟨k, hk, k0, Kq, hk0, hKq, rfl, rfl⟩
  refine avc_seq_seq (avc_seq_reg (by cbv) rfl (avc_seq_cond (t := A.lt k0 (nk : Int)) (by cbv) (fun ht => ?_) (fun ht => ?_)))
  · have hlt : k < nk := by subst hA; simp only [std, decide_eq_true_eq] at ht; omega
    have hKl : Kq.length = 64 := by rw [hKq, bI_length, kT_length]
    have hBl : LB.length = nk := by rw [hLB, bI_length, hnk]
    have q0 : k0.toNat = k := by omega
    refine avc_seq_skip (avc_seq_block (avc_reg (by cbv) ?_ ?_))
    · have q1 : Nat.blt k nk = true := by rw [Nat.blt_eq]; omega
      have q3 : Nat.blt k 64 = true := by rw [Nat.blt_eq]; omega
      have q2 : (0 : Int) ≤ k0 := by omega
      subst hA
      simp [std, hKl, hBl, q0, q1, q2, q3]
    show avc A Γ 4 nt 8 _ _ _ _
    refine avc_reg (by cbv) rfl ?_
    obtain ⟨k1, hk1⟩ : ∃ k1 : Int, k1 = ((k + 1 : Nat) : Int) := ⟨_, rfl⟩
    obtain ⟨L1, hL1⟩ : ∃ L1, L1 = bI (kT key (k + 1)) := ⟨_, rfl⟩
    refine ⟨_, _, Wk.lay (ren 0 0) (l := [(0, .sl 6 0 nk nk false 1), (1, .sl 7 0 nb nb false 1), (4, .ptr 8 0), (5, .ptr 9 0), (8, .int .i64 k1)]) (L := mem15 LS LK LB LM [(9, .ints .u8 L1 97 .exact)]) (n := 10) rfl rfl rfl (by cbv) (by cbv) ?_ ?_ (by cbv) (by cbv) (by cbv) ?_, ⟨k + 1, by omega, k1, L1, hk1, hL1, rfl, rfl⟩, ?_⟩
    · refine had_cons (by cbv) rfl (had_cons (by cbv) rfl (had_cons (by cbv) rfl (had_cons (by cbv) rfl (had_cons (by cbv) rfl (had_cons (by cbv) rfl (had_cons (by cbv) rfl (had_cons (by cbv) rfl (had_cons (by cbv) rfl (had_cons ?_ rfl (had_nil))))))))))
      conv => lhs; cbv
      subst hA
      have e3 : Kq.set k (LB.getD k 0) = L1 := by rw [hL1, hKq, hLB, bI_getD, bI_set, kT]
      simp only [std, q0, Nat.zero_add, Nat.mul_one]
      rw [e3]; rfl
    · exact low_lay8 (by cbv) (by cbv) (by cbv) (by cbv) (by cbv) (by cbv) (by cbv) (by cbv)
    · refine has_cons (by cbv) rfl (has_cons (by cbv) rfl (has_cons (by cbv) rfl (has_cons (by cbv) rfl (has_cons ?_ rfl (has_nil)))))
      conv => lhs; cbv
      subst hA
      simp only [std, wr]
      congr 2; omega
    · have g1 : (ofL [(0, .sl 6 0 nk nk false 1), (1, .sl 7 0 nb nb false 1), (4, .ptr 8 0), (5, .ptr 9 0), (8, .int .i64 k1)]).get 8 = some (.int .i64 k1) := by cbv
      have g0 : (ofL [(0, .sl 6 0 nk nk false 1), (1, .sl 7 0 nb nb false 1), (4, .ptr 8 0), (5, .ptr 9 0), (8, .int .i64 k0)]).get 8 = some (.int .i64 k0) := by cbv
      rw [g1, g0]
      show nk - k1.toNat < nk - k0.toNat
      omega
  · refine avc_seq_exit ?_
    have e : k = key.length := by subst hA; simp only [std, decide_eq_false_iff_not] at ht; omega
    subst e
    have hh := hK (.int .i64 k0) (.sl 6 0 nk nk false 1) (.int .i64 nk) (.bool (A.lt k0 (nk : Int))) k0 Kq hKq
    show K .normal _ _
    refine Eq.mp (congr (congrArg (K .normal) ?_) ?_) hh
    · cbv
    · cbv
/-- The two ways of saying what is done to the key. -/
theorem kT_at (l : List UInt8) (k i : Nat) (hk : k ≤ 64) : at8 (kT l k) i = if i < k then at8 l i else 0 := by
  induction k with
  | zero =>
    rw [if_neg (by omega), kT, at8, List.getD_eq_getElem?_getD, List.getElem?_replicate]
    split <;> rfl
  | succ k ih =>
    have ih := ih (by omega)
    rw [kT]
    by_cases hik : i = k
    · subst hik
      rw [if_pos (by omega), at8, List.getD_eq_getElem?_getD, List.getElem?_set_self (by rw [kT_length]; omega)]; rfl
    · have : at8 ((kT l k).set k (at8 l k)) i = at8 (kT l k) i := by
        unfold at8
        rw [List.getD_eq_getElem?_getD, List.getElem?_set_ne (by omega), List.getD_eq_getElem?_getD]
      rw [this, ih]
      by_cases h : i < k
      · rw [if_pos h, if_pos (by omega)]
      · rw [if_neg h, if_neg (by omega)]
end
end Go.Proofs.YtjkicmlelilcaaaDoor
namespace Go.Proofs.YtjkicmlelilcaaaDoor
open Go
theorem extB8 (a b : List UInt8) (h : a.length = b.length) (h2 : ∀ i, i < a.length → at8 a i = at8 b i) : a = b := by
  apply List.ext_getElem h
  intro i h3 h4
  have := h2 i h3
  unfold at8 at this
  rwa [List.getD_eq_getElem?_getD, List.getD_eq_getElem?_getD, List.getElem?_eq_getElem h3, List.getElem?_eq_getElem h4] at this
theorem keyW_at (l : List UInt8) (i : Nat) : at8 (keyW l) i = if i < l.length then at8 l i else 0 := by
  unfold keyW at8
  rw [List.getD_eq_getElem?_getD, List.getElem?_append]
  by_cases h : i < l.length
  · rw [if_pos h, if_pos h, List.getD_eq_getElem?_getD]
  · rw [if_neg h, if_neg h, List.getElem?_replicate]
    split <;> rfl
theorem kT_keyW (l : List UInt8) (h : l.length ≤ 64) : kT l l.length = keyW l := by
  refine extB8 _ _ (by rw [kT_length, keyW_length l h]) fun i _ => ?_
  rw [kT_at l _ i h, keyW_at]
theorem xT_at (w : List UInt8) (c : UInt8) (k i : Nat) (h : i < k) : at8 (xT w c k) i = at8 w i ^^^ c := by
  conv => lhs; unfold at8
  unfold xT
  rw [List.getD_eq_getElem?_getD, List.getElem?_map, List.getElem?_range h]; rfl
theorem xT_chg (key : List UInt8) (c : UInt8) (h : key.length ≤ 64) : xT (keyW key) c 64 = chg key c := by
  refine extB8 _ _ (by rw [xT_length, chg_length key c h]) fun i hi => ?_
  rw [xT_length] at hi
  rw [xT_at _ _ _ _ hi, chg, chgTo_at key c h 64 i hi, if_pos hi]
theorem toBs_bI (l : List UInt8) : toBs (bI l) = l := by
  unfold toBs bI
  rw [List.map_map]
  conv => rhs; rw [← List.map_id l]
  refine List.map_congr_left fun n _ => ?_
  simp [N8]
theorem byI_bI (l : List UInt8) : byI (bI l) = true := by
  unfold byI bI
  rw [List.all_eq_true]
  intro n hn
  obtain ⟨x, _, rfl⟩ := List.mem_map.1 hn
  have := N8_bd x
  simp; omega
end Go.Proofs.YtjkicmlelilcaaaDoor
namespace Go.Proofs.YtjkicmlelilcaaaDoor
open Go
def T15 : ACode := (.seq (.reg [⟨(.aop (.mov (.slot 9))), (some 58), none⟩, ⟨(.aop (.mov (.slot 1))), (some 59), none⟩, ⟨(.aop (.ext (.append 5 false 1) [(.slot 58), (.slot 59)])), (some 60), none⟩, ⟨(.call (.lit (.fn (.func 13) [] [])) [(.slot 60)]), (some 61), none⟩, ⟨(.aop (.alloc 23 [(.int .u8 (0)), (.int .u8 (0)), (.int .u8 (0)), (.int .u8 (0)), (.int .u8 (0)), (.int .u8 (0)), (.int .u8 (0)), (.int .u8 (0)), (.int .u8 (0)), (.int .u8 (0)), (.int .u8 (0)), (.int .u8 (0)), (.int .u8 (0)), (.int .u8 (0)), (.int .u8 (0)), (.int .u8 (0)), (.int .u8 (0)), (.int .u8 (0)), (.int .u8 (0)), (.int .u8 (0)), (.int .u8 (0)), (.int .u8 (0)), (.int .u8 (0)), (.int .u8 (0)), (.int .u8 (0)), (.int .u8 (0)), (.int .u8 (0)), (.int .u8 (0)), (.int .u8 (0)), (.int .u8 (0)), (.int .u8 (0)), (.int .u8 (0))])), (some 12), none⟩, ⟨(.aop (.store 32 (.slot 12) (.slot 61))), none, none⟩]) (.seq (.seq (.reg [⟨(.aop (.mov (.lit (.int .i64 (0))))), (some 13), none⟩]) (.block 6 HL6)) (.seq (.reg [⟨(.aop (.mov (.slot 10))), (some 72), none⟩, ⟨(.call (.lit (.fn (.func 13) [] [])) [(.slot 72)]), (some 73), none⟩, ⟨(.aop (.store 32 (.slot 4) (.slot 73))), none, none⟩]) .ret)))
section
variable {A : Ar} {Sh : List Int → List Int} {By tS tK : List Int → Bool} {nt : Nat} {LS LK LB LM : List Int}
set_option maxHeartbeats 2000000 in
theorem tail15 (hA : A = std) (hSh : Sh = shaI) (hBy : By = byI) (htS : tS = isS) (htK : tK = isK) (hLS : LS = wI S0) (hLK : LK = wI KK) (bs : List UInt8) (hb : bs.length ≤ 10000000000) (nb : Nat) (hnb : nb = bs.length) (hLM : LM = bI bs)
    (w : List UInt8) (Kq Iq Oq : List Int) (hIq : Iq = bI (xT w 54 64)) (hOq : Oq = bI (xT w 92 64)) (ta tb : AV) (k0 : Int) :
    avc A (Γ2 A Sh By tS tK) 4 nt 8 T15 (fun e env σ' => (match e with | .normal => True | .ret => True | _ => False) ∧ (resL A env σ' [.cellN 4 32]).1 = true ∧ retV (resL A env σ' [.cellN 4 32]).2 = .ints .u8 (bI (shaB (xT w 92 64 ++ shaB (xT w 54 64 ++ bs)))))
      (ofL [(40, ta), (41, tb), (1, .sl 7 0 nb nb false 1), (4, .ptr 8 0), (5, .ptr 9 0), (9, .sl 10 0 64 64 false 1), (10, .sl 11 0 64 64 false 1), (11, .int .i64 k0)]) ⟨12, ofM (mem15 LS LK LB LM [(9, .ints .u8 Kq 97 .exact), (10, .ints .u8 Iq 5 .more), (11, .ints .u8 Oq 5 .more)])⟩ := by
  unfold T15
  have hIl : Iq.length = 64 := by rw [hIq, bI_length, xT_length]
  have hOl : Oq.length = 64 := by rw [hOq, bI_length, xT_length]
  have hMl : LM.length = nb := by rw [hLM, bI_length, hnb]
  obtain ⟨LX, hLX⟩ : ∃ LX, LX = bI (xT w 54 64 ++ bs) := ⟨_, rfl⟩
  have eX : A.app (A.part Iq 0 (A.mulN 64 1)) (A.part LM 0 (A.mulN nb 1)) = LX := by
    subst hA
    rw [hLX, bI, List.map_append, ← bI, ← bI, ← hIq, ← hLM]
    simp [std, ← hMl, ← hIl]
  have eY : A.part LX 0 (A.mulN (A.addN 64 nb) 1) = LX := by
    subst hA
    have : LX.length = 64 + nb := by rw [hLX, bI_length, List.length_append, xT_length, hnb]
    simp [std, ← this]
  have hXl : LX.length = 64 + nb := by rw [hLX, bI_length, List.length_append, xT_length, hnb]
  have hSl : (Sh LX).length = 32 := by rw [hSh, shaI, bI_length, shaB_length]
  have hBX : By LX = true := by rw [hBy, hLX]; exact byI_bI _
  have hS1 : tS LS = true := by rw [htS, hLS]; simp [isS]
  have hK1 : tK LK = true := by rw [htK, hLK]; simp [isK]
  conv at eX => lhs; cbv
  conv at eY => lhs; cbv
  have eSX : Sh LX = bI (shaB (xT w 54 64 ++ bs)) := by rw [hSh, hLX, shaI, toBs_bI]
  have q1 : Nat.ble nb nb = true := by rw [Nat.ble_eq]; omega
  have q2 : Nat.ble (64 + nb) 1000000000000 = true := by rw [Nat.ble_eq]; omega
  have q3 : Nat.ble (64 + nb) 100000000000 = true := by rw [Nat.ble_eq]; omega
  have q4 : Nat.ble (64 + nb) (64 + nb) = true := by rw [Nat.ble_eq]; omega
  refine avc_seq_reg (by cbv) ?_ ?_
  · simp only [eX, eY, hBX, hS1, hK1]
    subst hA
    simp [std, hIl, hMl, hXl, hSl, q1, q2, q3, q4] <;> rfl
  simp only [eX, eY]
  refine avc_seq_seq (avc_seq_reg (by cbv) rfl (avc_seq (hp6 hA Kq (Sh LX) (xT w 92 64) (shaB (xT w 54 64 ++ bs)) (by rw [xT_length]; omega) (shaB_length _) eSX (LS := LS) (LK := LK) (LB := LB) (LM := LM) ?_ ?_)))
  · intro k1 t0 Oq' hk1 ht0 hOq'
    have e1 : Oq' = Oq := by rw [hOq', hOq]; simp [oT]
    have e2 : t0 = 64 := by rw [ht0, xT_length]
    subst hk1 e1 e2
    refine Wk.lay (ren2 10 11 11 13) rfl rfl rfl (by cbv) (by cbv) (had_cons (by cbv) rfl (had_cons (by cbv) rfl (had_cons (by cbv) rfl (had_cons (by cbv) rfl (had_cons (by cbv) rfl (had_cons (by cbv) rfl (had_cons (by cbv) rfl (had_cons (by cbv) rfl (had_cons (by cbv) rfl (had_cons (by cbv) rfl (had_cons (by cbv) rfl (had_cons ?_ rfl (had_nil))))))))))))) (low_lay8 (by cbv) (by cbv) (by cbv) (by cbv) (by cbv) (by cbv) (by cbv) (by cbv)) (by cbv) (by cbv) (by cbv) (has_cons (by cbv) rfl (has_cons (by cbv) rfl (has_cons (by cbv) rfl (has_cons (by cbv) rfl (has_nil)))))
    conv => lhs; cbv
    subst hA
    have e4 : List.take 0 [(0:Int),0,0,0,0,0,0,0,0,0,0,0,0,0,0,0,0,0,0,0,0,0,0,0,0,0,0,0,0,0,0,0] ++ Sh LX ++ List.drop (0 + (Sh LX).length) [0,0,0,0,0,0,0,0,0,0,0,0,0,0,0,0,0,0,0,0,0,0,0,0,0,0,0,0,0,0,0,0] = Sh LX := by
      rw [hSl]; simp
    simp only [std]
    rw [e4]; rfl
  intro ta tb k1 t0 Oq' hk1 ht0 hOq'
  show avc A (Γ2 A Sh By tS tK) 4 nt 8 _ _ _ _
  have e2 : t0 = 96 := by rw [ht0, xT_length]
  subst e2
  have hOl' : Oq'.length = 96 := by rw [hOq', bI_length, oT, List.length_append, xT_length, List.length_take, shaB_length]; rfl
  have eZ : A.part Oq' 0 (A.mulN 96 1) = Oq' := by subst hA; simp [std, ← hOl']
  conv at eZ => lhs; cbv
  have hBO : By Oq' = true := by rw [hBy, hOq']; exact byI_bI _
  have hSO : (Sh Oq').length = 32 := by rw [hSh, shaI, bI_length, shaB_length]
  have eSO : Sh Oq' = bI (shaB (xT w 92 64 ++ shaB (xT w 54 64 ++ bs))) := by
    rw [hSh, hOq', shaI, toBs_bI, oT, List.take_of_length_le (by rw [shaB_length]; omega)]
  refine avc_seq_reg (by cbv) ?_ ⟨trivial, ?_, ?_⟩
  · simp only [eZ, hBO, hS1, hK1]
    subst hA
    simp [std, hOl', hSO] <;> rfl
  · conv => lhs; cbv
    simp only [eZ]
    subst hA
    simp [std, hSO] <;> rfl
  · conv => lhs; cbv
    simp only [eZ]
    subst hA
    rw [← eSO]
    simp [std, hSO]
    exact List.take_of_length_le (by rw [hSO]; omega)
end
end Go.Proofs.YtjkicmlelilcaaaDoor
namespace Go.Proofs.YtjkicmlelilcaaaDoor
open Go
def mem00 (S K Bk Bb : List Int) : List (Nat × AObj) := [(0, .cells [] 62 .ro), (1, .cells [.sl 4 0 8 8 false 1] 62 .ro), (2, .cells [.sl 5 0 64 64 false 1] 62 .ro), (3, .cells [] 62 .ro), (4, .ints .u32 S 62 .ro), (5, .ints .u32 K 62 .ro), (6, .ints .u8 Bk 5 .ro), (7, .ints .u8 Bb 5 .ro)]
set_option maxHeartbeats 4000000 in
theorem rhm_avc (key bs : List UInt8) (hkl : key.length ≤ 10000000000) (hb : bs.length ≤ 10000000000) (nt : Nat) :
    avc std (Γ2 std shaI byI isS isK) 4 nt 8 c15 (fun e env σ' => (match e with | .normal => True | .ret => True | _ => False) ∧ (resL std env σ' [.cellN 4 32]).1 = true ∧ retV (resL std env σ' [.cellN 4 32]).2 = .ints .u8 (bI (hmB key bs)))
      (envOf [.sl 6 0 key.length key.length false 1, .sl 7 0 bs.length bs.length false 1] 0 .leaf) ⟨8, ofM (mem00 (wI S0) (wI KK) (bI key) (bI bs))⟩ := by
  obtain ⟨A, hA⟩ : ∃ A, A = std := ⟨_, rfl⟩
  obtain ⟨Sh, hSh⟩ : ∃ Sh, Sh = shaI := ⟨_, rfl⟩
  obtain ⟨By, hBy⟩ : ∃ By, By = byI := ⟨_, rfl⟩
  obtain ⟨tS, htS⟩ : ∃ tS, tS = isS := ⟨_, rfl⟩
  obtain ⟨tK, htK⟩ : ∃ tK, tK = isK := ⟨_, rfl⟩
  rw [← hA, ← hSh, ← hBy, ← htS, ← htK]
  unfold c15
  obtain ⟨nk, hnk⟩ : ∃ n, n = key.length := ⟨_, rfl⟩
  obtain ⟨nb, hnb⟩ : ∃ n, n = bs.length := ⟨_, rfl⟩
  obtain ⟨LS, hLS⟩ : ∃ LS, LS = wI S0 := ⟨_, rfl⟩
  obtain ⟨LK, hLK⟩ : ∃ LK, LK = wI KK := ⟨_, rfl⟩
  obtain ⟨LB, hLB⟩ : ∃ LB, LB = bI key := ⟨_, rfl⟩
  obtain ⟨LM, hLM⟩ : ∃ LM, LM = bI bs := ⟨_, rfl⟩
  rw [← hnk, ← hnb, ← hLS, ← hLK, ← hLB, ← hLM]
  have hBl : LB.length = nk := by rw [hLB, bI_length, hnk]
  have hS1 : tS LS = true := by rw [htS, hLS]; simp [isS]
  have hK1 : tK LK = true := by rw [htK, hLK]; simp [isK]
  have hBX : By LB = true := by rw [hBy, hLB]; exact byI_bI _
  have hSl : (Sh LB).length = 32 := by rw [hSh, shaI, bI_length, shaB_length]
  have eSX : Sh LB = bI (shaB key) := by rw [hSh, hLB, shaI, toBs_bI]
  have q1 : Nat.ble nk nk = true := by rw [Nat.ble_eq]; omega
  have q3 : Nat.ble nk 100000000000 = true := by rw [Nat.ble_eq]; omega
  have eY : A.part LB 0 (A.mulN nk 1) = LB := by
    subst hA
    simp [std, ← hBl]
  conv at eY => lhs; cbv
  refine avc_seq_reg (by cbv) rfl (avc_seq_reg (by cbv) rfl (avc_seq_seq (avc_seq_reg (by cbv) rfl (avc_seq_cond (t := A.lt 64 (nk : Int)) (by cbv) (fun ht => ?_) (fun ht => ?_)))))
  · have hgt : key.length > 64 := by subst hA; simp only [std, decide_eq_true_eq] at ht; omega
    refine avc_seq_seq (avc_seq_reg (by cbv) ?_ ?_)
    · simp only [eY, hBX, hS1, hK1]
      subst hA
      simp [std, hBl, hSl, q1, q3] <;> rfl
    simp only [eY]
    refine avc_seq_seq (avc_seq_reg (by cbv) rfl (avc_seq (hp0 hA nk nb (Sh LB) (shaB key) (shaB_length _) eSX (LS := LS) (LK := LK) (LB := LB) (LM := LM) ?_ ?_)))
    · intro k0 Kq hk0 hKq
      have e1 : Kq = Z64 := by rw [hKq]; rfl
      subst hk0 e1
      refine Wk.lay (ren 0 0) rfl rfl rfl (by cbv) (by cbv) (had_cons (by cbv) rfl (had_cons (by cbv) rfl (had_cons (by cbv) rfl (had_cons (by cbv) rfl (had_cons (by cbv) rfl (had_cons (by cbv) rfl (had_cons (by cbv) rfl (had_cons (by cbv) rfl (had_cons (by cbv) rfl (had_cons (by cbv) rfl (had_cons ?_ rfl (had_nil)))))))))))) (low_lay8 (by cbv) (by cbv) (by cbv) (by cbv) (by cbv) (by cbv) (by cbv) (by cbv)) (by cbv) (by cbv) (by cbv) (has_cons (by cbv) rfl (has_cons (by cbv) rfl (has_cons (by cbv) rfl (has_cons (by cbv) rfl (has_cons (by cbv) rfl (has_cons (by cbv) rfl (has_nil)))))))
      conv => lhs; cbv
      subst hA
      have e4 : List.take 0 [(0:Int),0,0,0,0,0,0,0,0,0,0,0,0,0,0,0,0,0,0,0,0,0,0,0,0,0,0,0,0,0,0,0] ++ Sh LB ++ List.drop (0 + (Sh LB).length) [0,0,0,0,0,0,0,0,0,0,0,0,0,0,0,0,0,0,0,0,0,0,0,0,0,0,0,0,0,0,0,0] = Sh LB := by
        rw [hSl]; simp
      simp only [std]
      rw [e4]; rfl
    · intro ta tb k0 Kq hk0 hKq
      show avc A (Γ2 A Sh By tS tK) 4 nt 8 _ _ _ _
      have hkw : kT (shaB key) 32 = keyW (shaB key) := by
        have := kT_keyW (shaB key) (by rw [shaB_length]; omega)
        rwa [shaB_length] at this
      rw [hkw] at hKq
      have hres : hmB key bs = shaB (xT (keyW (shaB key)) 92 64 ++ shaB (xT (keyW (shaB key)) 54 64 ++ bs)) := by
        rw [xT_chg _ _ (by rw [shaB_length]; omega), xT_chg _ _ (by rw [shaB_length]; omega), hmB, if_pos hgt, hmS]
      refine avc_seq_reg (by cbv) rfl (avc_seq_seq (avc_seq_reg (by cbv) rfl (avc_seq (hp4 hA nb Kq (keyW (shaB key)) (keyW_length _ (by rw [shaB_length]; omega)) hKq (LS := LS) (LK := LK) (LB := LB) (LM := LM) ?_ ?_))))
      · intro k3 t0 Iq Oq hk3 ht0 hIq hOq
        have e1 : Iq = [] := by rw [hIq]; rfl
        have e2 : Oq = [] := by rw [hOq]; rfl
        subst hk3 ht0 e1 e2
        exact Wk.trans (Wk.lay (ren 0 0) (l := [(1, .sl 7 0 nb nb false 1), (4, .ptr 8 0), (5, .ptr 9 0), (9, .nilsl), (10, .nilsl), (11, .int .i64 ((0 : Nat) : Int))]) (L := mem15 LS LK LB LM [(9, .ints .u8 Kq 97 .exact)]) (n := 10) rfl rfl rfl (by cbv) (by cbv) (had_cons (by cbv) rfl (had_cons (by cbv) rfl (had_cons (by cbv) rfl (had_cons (by cbv) rfl (had_cons (by cbv) rfl (had_cons (by cbv) rfl (had_cons (by cbv) rfl (had_cons (by cbv) rfl (had_cons (by cbv) rfl (had_cons (by cbv) rfl (had_nil))))))))))) (low_lay8 (by cbv) (by cbv) (by cbv) (by cbv) (by cbv) (by cbv) (by cbv) (by cbv)) (by cbv) (by cbv) (by cbv) (has_cons (by cbv) rfl (has_cons (by cbv) rfl (has_cons (by cbv) rfl (has_cons (by cbv) rfl (has_cons (by cbv) rfl (has_cons (by cbv) rfl (has_nil)))))))) (Wk.trans (Wk.nil 9 1 (.ints .u8 [] 5 .more) (by cbv) rfl rfl rfl) (Wk.trans (Wk.nil 10 1 (.ints .u8 [] 5 .more) (by cbv) rfl rfl rfl) (Wk.lay (ren 0 0) rfl rfl rfl (by cbv) (by cbv) (had_cons (by cbv) rfl (had_cons (by cbv) rfl (had_cons (by cbv) rfl (had_cons (by cbv) rfl (had_cons (by cbv) rfl (had_cons (by cbv) rfl (had_cons (by cbv) rfl (had_cons (by cbv) rfl (had_cons (by cbv) rfl (had_cons (by cbv) rfl (had_cons (by cbv) rfl (had_cons (by cbv) rfl (had_nil))))))))))))) (low_lay8 (by cbv) (by cbv) (by cbv) (by cbv) (by cbv) (by cbv) (by cbv) (by cbv)) (by cbv) (by cbv) (by cbv) (has_cons (by cbv) rfl (has_cons (by cbv) rfl (has_cons (by cbv) rfl (has_cons (by cbv) rfl (has_cons (by cbv) rfl (has_cons (by cbv) rfl (has_nil))))))))))
      · intro ta tb k3 t0 Iq Oq hk3 ht0 hIq hOq
        subst ht0
        show avc A (Γ2 A Sh By tS tK) 4 nt 8 _ _ _ _
        rw [hres]
        exact tail15 hA hSh hBy htS htK hLS hLK bs hb nb hnb hLM (keyW (shaB key)) Kq Iq Oq hIq hOq ta tb k3
  · have hle : key.length ≤ 64 := by subst hA; simp only [std, decide_eq_false_iff_not] at ht; omega
    refine avc_seq_seq (avc_seq_reg (by cbv) rfl (avc_seq (hp2 hA nb nk key hle hnk hLB (LS := LS) (LK := LK) (LM := LM) ?_ ?_)))
    · intro k0 Kq hk0 hKq
      have e1 : Kq = Z64 := by rw [hKq]; rfl
      subst hk0 e1
      exact Wk.lay (ren 0 0) rfl rfl rfl (by cbv) (by cbv) (had_cons (by cbv) rfl (had_cons (by cbv) rfl (had_cons (by cbv) rfl (had_cons (by cbv) rfl (had_cons (by cbv) rfl (had_cons (by cbv) rfl (had_cons (by cbv) rfl (had_cons (by cbv) rfl (had_cons (by cbv) rfl (had_cons (by cbv) rfl (had_nil))))))))))) (low_lay8 (by cbv) (by cbv) (by cbv) (by cbv) (by cbv) (by cbv) (by cbv) (by cbv)) (by cbv) (by cbv) (by cbv) (has_cons (by cbv) rfl (has_cons (by cbv) rfl (has_cons (by cbv) rfl (has_cons (by cbv) rfl (has_cons (by cbv) rfl (has_nil))))))
    · intro ta tb tc td k0 Kq hKq
      show avc A (Γ2 A Sh By tS tK) 4 nt 8 _ _ _ _
      rw [kT_keyW key hle] at hKq
      have hres : hmB key bs = shaB (xT (keyW key) 92 64 ++ shaB (xT (keyW key) 54 64 ++ bs)) := by
        rw [xT_chg _ _ hle, xT_chg _ _ hle, hmB, if_neg (by omega), hmS]
      refine avc_seq_reg (by cbv) rfl (avc_seq_seq (avc_seq_reg (by cbv) rfl (avc_seq (hp4 hA nb Kq (keyW key) (keyW_length _ hle) hKq (LS := LS) (LK := LK) (LB := LB) (LM := LM) ?_ ?_))))
      · intro k3 t0 Iq Oq hk3 ht0 hIq hOq
        have e1 : Iq = [] := by rw [hIq]; rfl
        have e2 : Oq = [] := by rw [hOq]; rfl
        subst hk3 ht0 e1 e2
        exact Wk.trans (Wk.lay (ren 0 0) (l := [(1, .sl 7 0 nb nb false 1), (4, .ptr 8 0), (5, .ptr 9 0), (9, .nilsl), (10, .nilsl), (11, .int .i64 ((0 : Nat) : Int))]) (L := mem15 LS LK LB LM [(9, .ints .u8 Kq 97 .exact)]) (n := 10) rfl rfl rfl (by cbv) (by cbv) (had_cons (by cbv) rfl (had_cons (by cbv) rfl (had_cons (by cbv) rfl (had_cons (by cbv) rfl (had_cons (by cbv) rfl (had_cons (by cbv) rfl (had_cons (by cbv) rfl (had_cons (by cbv) rfl (had_cons (by cbv) rfl (had_cons (by cbv) rfl (had_nil))))))))))) (low_lay8 (by cbv) (by cbv) (by cbv) (by cbv) (by cbv) (by cbv) (by cbv) (by cbv)) (by cbv) (by cbv) (by cbv) (has_cons (by cbv) rfl (has_cons (by cbv) rfl (has_cons (by cbv) rfl (has_cons (by cbv) rfl (has_cons (by cbv) rfl (has_cons (by cbv) rfl (has_nil)))))))) (Wk.trans (Wk.nil 9 1 (.ints .u8 [] 5 .more) (by cbv) rfl rfl rfl) (Wk.trans (Wk.nil 10 1 (.ints .u8 [] 5 .more) (by cbv) rfl rfl rfl) (Wk.lay (ren 0 0) rfl rfl rfl (by cbv) (by cbv) (had_cons (by cbv) rfl (had_cons (by cbv) rfl (had_cons (by cbv) rfl (had_cons (by cbv) rfl (had_cons (by cbv) rfl (had_cons (by cbv) rfl (had_cons (by cbv) rfl (had_cons (by cbv) rfl (had_cons (by cbv) rfl (had_cons (by cbv) rfl (had_cons (by cbv) rfl (had_cons (by cbv) rfl (had_nil))))))))))))) (low_lay8 (by cbv) (by cbv) (by cbv) (by cbv) (by cbv) (by cbv) (by cbv) (by cbv)) (by cbv) (by cbv) (by cbv) (has_cons (by cbv) rfl (has_cons (by cbv) rfl (has_cons (by cbv) rfl (has_cons (by cbv) rfl (has_cons (by cbv) rfl (has_cons (by cbv) rfl (has_nil))))))))))
      · intro ta tb k3 t0 Iq Oq hk3 ht0 hIq hOq
        subst ht0
        show avc A (Γ2 A Sh By tS tK) 4 nt 8 _ _ _ _
        rw [hres]
        exact tail15 hA hSh hBy htS htK hLS hLK bs hb nb hnb hLM (keyW key) Kq Iq Oq hIq hOq ta tb k3
end Go.Proofs.YtjkicmlelilcaaaDoor
namespace Go.Proofs.YtjkicmlelilcaaaDoor
open Go
open Go.RowKit
theorem body15 : Tryd.f15.body = some (Tryd.f15.body.getD .skip) := by kernel_rfl
def ren15 (bS oS cS bK oK cK : Nat) (r6 r7 : Option (Nat × (Nat × Nat))) : Ren
  | 0 => some (0, (0, 0))
  | 1 => some (1, (0, 1))
  | 2 => some (2, (0, 1))
  | 3 => some (3, (0, 0))
  | 4 => some (bS, (oS, oS + cS))
  | 5 => some (bK, (oK, oK + cK))
  | 6 => r6
  | 7 => r7
  | _ => none
theorem mem00_get (S K B B7 : List Int) : (ofM (mem00 S K B B7)).get 0 = some (.cells [] 62 .ro) ∧ (ofM (mem00 S K B B7)).get 1 = some (.cells [.sl 4 0 8 8 false 1] 62 .ro) ∧ (ofM (mem00 S K B B7)).get 2 = some (.cells [.sl 5 0 64 64 false 1] 62 .ro) ∧
    (ofM (mem00 S K B B7)).get 3 = some (.cells [] 62 .ro) ∧ (ofM (mem00 S K B B7)).get 4 = some (.ints .u32 S 62 .ro) ∧ (ofM (mem00 S K B B7)).get 5 = some (.ints .u32 K 62 .ro) ∧ (ofM (mem00 S K B B7)).get 6 = some (.ints .u8 B 5 .ro) ∧ (ofM (mem00 S K B B7)).get 7 = some (.ints .u8 B7 5 .ro) :=
  ⟨by cbv, by cbv, by cbv, by cbv, by cbv, by cbv, by cbv, by cbv⟩
theorem mem00_ro (S K B B7 : List Int) (b : Nat) (h : b < 8) : ∃ o, (ofM (mem00 S K B B7)).get b = some o ∧ o.isRo = true := by
  obtain ⟨h0, h1, h2, h3, h4, h5, h6, h7⟩ := mem00_get S K B B7
  match b, h with
  | 0, _ => exact ⟨_, h0, rfl⟩
  | 1, _ => exact ⟨_, h1, rfl⟩
  | 2, _ => exact ⟨_, h2, rfl⟩
  | 3, _ => exact ⟨_, h3, rfl⟩
  | 4, _ => exact ⟨_, h4, rfl⟩
  | 5, _ => exact ⟨_, h5, rfl⟩
  | 6, _ => exact ⟨_, h6, rfl⟩
  | 7, _ => exact ⟨_, h7, rfl⟩
theorem ren15_lt {bS oS cS bK oK cK : Nat} {r6 r7 : Option (Nat × (Nat × Nat))} {b : Nat} {x : Nat × (Nat × Nat)} (h : ren15 bS oS cS bK oK cK r6 r7 b = some x) : b < 8 := by
  unfold ren15 at h
  split at h <;> first | omega | cases h
theorem hr15 {w : World} {bS oS cS bK oK cK : Nat} {r6 r7 : Option (Nat × (Nat × Nat))} {key bs : List UInt8} (h3 : 3 < w.heap.size)
    (k1 : w.cell? ⟨1, 0, none⟩ = some (.slice (some ⟨bS, oS, none⟩) 8 cS)) (k2 : 8 ≤ cS) (k3 : bS < w.heap.size) (k4 : ∀ i, i < 8 → w.cell? ⟨bS, oS + i, none⟩ = some (.int .u32 (N32 (at32 S0 i))))
    (s1 : w.cell? ⟨2, 0, none⟩ = some (.slice (some ⟨bK, oK, none⟩) 64 cK)) (s2 : 64 ≤ cK) (s3 : bK < w.heap.size) (s4 : ∀ i, i < 64 → w.cell? ⟨bK, oK + i, none⟩ = some (.int .u32 (N32 (at32 KK i))))
    (h6 : ∀ c d, r6 = some (c, d) → c < w.heap.size ∧ ∀ ρ, OR ρ d (.ints .u8 (bI key) 5 .ro) w.heap[c]?) (h7 : ∀ c d, r7 = some (c, d) → c < w.heap.size ∧ ∀ ρ, OR ρ d (.ints .u8 (bI bs) 5 .ro) w.heap[c]?) : HR (ren15 bS oS cS bK oK cK r6 r7) ⟨8, ofM (mem00 (wI S0) (wI KK) (bI key) (bI bs))⟩ w := by
  obtain ⟨g0, g1, g2, g3, g4, g5, g6, g7⟩ := mem00_get (wI S0) (wI KK) (bI key) (bI bs)
  refine ⟨by show 8 ≤ _; omega, fun b hb => ?_, fun b c d hb => ?_, fun b b' c d d' h1 h2 hne => ?_⟩
  · have hb : 8 ≤ b := hb
    show (ofM (mem00 (wI S0) (wI KK) (bI key) (bI bs))).get b = none
    cases ho : (ofM (mem00 (wI S0) (wI KK) (bI key) (bI bs))).get b with
    | none => rfl
    | some o =>
      have := ofM_get _ b o (fun p hp => by
        simp only [mem00, List.mem_cons, List.not_mem_nil, or_false] at hp
        rcases hp with rfl | rfl | rfl | rfl | rfl | rfl | rfl | rfl <;> (dsimp only; omega)) ho
      simp only [mem00, List.mem_cons, List.not_mem_nil, or_false, Prod.mk.injEq] at this
      omega
  · have hlt := ren15_lt hb
    refine ⟨hlt, ?_⟩
    match b, hlt with
    | 0, _ => cases hb; exact ⟨by omega, _, g0, or_none⟩
    | 1, _ => cases hb; exact ⟨by omega, _, g1, or_glob k1 k2 rfl⟩
    | 2, _ => cases hb; exact ⟨by omega, _, g2, or_glob s1 s2 rfl⟩
    | 3, _ => cases hb; exact ⟨by omega, _, g3, or_none⟩
    | 4, _ => cases hb; exact ⟨k3, _, g4, or_ro (by rw [wI_length]; show 8 + _ ≤ _; omega) fun i hi => by rw [wI_getD]; exact k4 i (by rw [wI_length] at hi; exact hi)⟩
    | 5, _ => cases hb; exact ⟨s3, _, g5, or_ro (by rw [wI_length]; show 64 + _ ≤ _; omega) fun i hi => by rw [wI_getD]; exact s4 i (by rw [wI_length] at hi; exact hi)⟩
    | 6, _ => obtain ⟨e1, e2⟩ := h6 c d hb; exact ⟨e1, _, g6, e2 _⟩
    | 7, _ => obtain ⟨e1, e2⟩ := h7 c d hb; exact ⟨e1, _, g7, e2 _⟩
  · obtain ⟨o, e1, e2⟩ := mem00_ro (wI S0) (wI KK) (bI key) (bI bs) b (ren15_lt h1)
    obtain ⟨o', e3, e4⟩ := mem00_ro (wI S0) (wI KK) (bI key) (bI bs) b' (ren15_lt h2)
    exact .inr (.inr ⟨o, o', e1, e3, e2, e4⟩)
theorem slot_of {w : World} {v : Value} {bs : List UInt8} (hB : BSl w v bs) (s : Nat) : ∃ r : Option (Nat × (Nat × Nat)), (∀ c d, r = some (c, d) → c < w.heap.size ∧ ∀ ρ, OR ρ d (.ints .u8 (bI bs) 5 .ro) w.heap[c]?) ∧ ∀ ρ : Ren, ρ s = r → VR ρ (.sl s 0 bs.length bs.length false 1) v := by
  rcases hB with ⟨rfl, rfl⟩ | ⟨b, off, c, rfl, hc, hb, hcell⟩ | ⟨a, rfl, rfl⟩
  · exact ⟨none, (fun c d h => by cases h), fun ρ _ => by unfold VR; exact .inr ⟨rfl, rfl, rfl, _, rfl⟩⟩
  · refine ⟨some (b, (off, off + c)), fun c' d h => ?_, fun ρ hρ => ?_⟩
    · cases h
      exact ⟨hb, fun ρ => or_ro (by rw [bI_length]; omega) fun i hi => by rw [bI_getD]; exact hcell i (by rw [bI_length] at hi; exact hi)⟩
    · unfold VR
      exact .inl ⟨b, (off, off + c), off, c, hρ, rfl, fun _ => (Nat.zero_add _).symm, Nat.le_refl _, hc, fun h => (by cases h), by show off + c * 1 ≤ off + c; omega⟩
  · exact ⟨none, (fun c d h => by cases h), fun ρ _ => by unfold VR; exact .inr ⟨rfl, rfl, rfl, _, rfl⟩⟩
theorem rhm_any (kv v : Value) (key bs : List UInt8) (w : World) (hB1 : BSl w kv key) (hB2 : BSl w v bs) (hl1 : key.length ≤ 10000000000) (hl2 : bs.length ≤ 10000000000) (hS : TabC w 1 S0) (hK : TabC w 2 KK) (h3 : 3 < w.heap.size) :
    Calls Tryd.prog 15 #[kv, v] w fun e w' => e = .returned (.agg (c8 (hmB key bs))) ∧ Below w.heap.size w w' := by
  obtain ⟨bS, oS, cS, k1, k2, k3, k4⟩ := hS
  obtain ⟨bK, oK, cK, s1, s2, s3, s4⟩ := hK
  obtain ⟨r6, h6, hv6⟩ := slot_of hB1 6
  obtain ⟨r7, h7, hv7⟩ := slot_of hB2 7
  have hr := hr15 (r6 := r6) (r7 := r7) h3 k1 k2 k3 k4 s1 s2 s3 s4 h6 h7
  have hG : ∀ g, g < 4 → ∃ s, ren15 bS oS cS bK oK cK r6 r7 g = some (g, (0, s)) := fun g hg => by
    match g, hg with
    | 0, _ => exact ⟨0, rfl⟩
    | 1, _ => exact ⟨1, rfl⟩
    | 2, _ => exact ⟨1, rfl⟩
    | 3, _ => exact ⟨0, rfl⟩
  refine (call_sound (xs := [.cellN 4 32]) (K := fun av _ => av = .ints .u8 (bI (hmB key bs))) (vs := [kv, v]) mixed gam2_ok pu2_ok Tryd.func15 body15 comp15 (by kernel_rfl) (by kernel_rfl) (by kernel_rfl) (rhm_avc key bs hl1 hl2 _) hG hr ⟨kv, [v], rfl, hv6 _ rfl, v, [], rfl, hv7 _ rfl, rfl⟩).mono fun e W' ⟨u, av, σ', ρ', e1, e2, e3, e4, e5⟩ => ?_
  subst e1 e2
  refine ⟨?_, e4.os, e4.tape, e4.output, e4.size, fun c hc => ?_⟩
  · unfold VR at e5
    rw [e5]
    simp [bI, c8, c8l]
  · by_cases hm : ∃ b d, ren15 bS oS cS bK oK cK r6 r7 b = some (c, d)
    · obtain ⟨b, d, hm⟩ := hm
      obtain ⟨o, q1, q2⟩ := mem00_ro (wI S0) (wI KK) (bI key) (bI bs) b (ren15_lt hm)
      exact (e4.ro b c d o (ren15_lt hm) hm hc q1 q2).2
    · exact e4.frame c hc fun b d h => hm ⟨b, d, h⟩
end Go.Proofs.YtjkicmlelilcaaaDoor
