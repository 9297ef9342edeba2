/- Part 6 of the proof: texts of the proof. -/
import Derived.Test.YtjoakhpdajlhiaaGreatDoorQY5
namespace Go.Proofs.YtjoakhpdajlhiaaGreatDoor.V2
open Go
noncomputable section
def lim (k : IntKind) : Nat := IntKind.rec (motive := fun _ => Nat) (nat_lit 127) (nat_lit 32767) (nat_lit 2147483647) (nat_lit 9223372036854775807) (nat_lit 255) (nat_lit 65535) (nat_lit 4294967295) (nat_lit 18446744073709551615) k
def ix (k : IntKind) : Nat := IntKind.rec (motive := fun _ => Nat) (nat_lit 0) (nat_lit 1) (nat_lit 2) (nat_lit 3) (nat_lit 4) (nat_lit 5) (nat_lit 6) (nat_lit 7) k
def sgd (k : IntKind) : Bool := IntKind.rec (motive := fun _ => Bool) true true true true false false false false k
def bitsF (k : IntKind) : Nat := IntKind.rec (motive := fun _ => Nat) (nat_lit 8) (nat_lit 16) (nat_lit 32) (nat_lit 64) (nat_lit 8) (nat_lit 16) (nat_lit 32) (nat_lit 64) k
theorem ix_inj {k k' : IntKind} (h : Nat.beq (ix k) (ix k') = true) : k = k' := by
  have h := Nat.eq_of_beq_eq_true h
  cases k <;> cases k' <;> first | rfl | (exact absurd h (by decide))
def gK (k k' : IntKind) (r : FR) : FR := Bool.rec .bad r (Nat.beq (ix k) (ix k'))
theorem gK_sv {k k' : IntKind} {r : FR} {c : FV → FR} {o : Bool × AV} (h : k = k' → Sv r c o) : Sv (gK k k' r) c o := by
  unfold gK
  cases hb : Nat.beq (ix k) (ix k')
  · exact .bad
  · exact h (ix_inj hb)
def sW (k : IntKind) (i : Int) (c : FV → FR) : FR := vI k (wr k i) c
def wN (k : IntKind) (m : Nat) (c : FV → FR) : FR := fN m fun m => Bool.rec (sW k (Int.ofNat m) c) (c (.n k m)) (Nat.ble m (lim k))
def wZ (k : IntKind) (m : Nat) (c : FV → FR) : FR := fN m fun m => Bool.rec (sW k (Int.negSucc m) c) (Bool.rec (sW k (Int.negSucc m) c) (c (.z k m)) (Nat.ble m (lim k))) (sgd k)
def dN (k : IntKind) (x y : Nat) (c : FV → FR) : FR := Bool.rec (wZ k (Nat.sub y (Nat.succ x)) c) (wN k (Nat.sub x y) c) (Nat.ble y x)
theorem wr_ofNat {k : IntKind} {m : Nat} (h : m ≤ lim k) : wr k (Int.ofNat m) = Int.ofNat m := by
  cases k <;> simp only [lim] at h <;> simp only [wr, Int.ofNat_eq_natCast] <;> omega
theorem wr_neg {k : IntKind} {m : Nat} (hs : sgd k = true) (h : m ≤ lim k) : wr k (Int.negSucc m) = Int.negSucc m := by
  cases k <;> simp only [sgd, Bool.false_eq_true] at hs <;> simp only [lim] at h <;> simp only [wr, Int.negSucc_eq] <;> omega
theorem sW_of (k : IntKind) (i : Int) (c : FV → FR) : Sv (sW k i c) c (true, .int k (wr k i)) := by
  obtain ⟨v, h1, h2⟩ := vI_of k (wr k i) c
  unfold sW; rw [h2]; exact .of v (by rw [h1])
theorem wN_of (k : IntKind) (m : Nat) (c : FV → FR) : Sv (wN k m c) c (true, .int k (wr k (Int.ofNat m))) := by
  unfold wN; rw [Aj]
  cases hb : Nat.ble m (lim k)
  · exact sW_of _ _ _
  · rw [wr_ofNat (Nat.le_of_ble_eq_true hb)]; exact .of (c := c) (.n k m) rfl
theorem wZ_of (k : IntKind) (m : Nat) (c : FV → FR) : Sv (wZ k m c) c (true, .int k (wr k (Int.negSucc m))) := by
  unfold wZ; rw [Aj]
  cases hs : sgd k
  · exact sW_of _ _ _
  · cases hb : Nat.ble m (lim k)
    · exact sW_of _ _ _
    · rw [wr_neg hs (Nat.le_of_ble_eq_true hb)]; exact .of (c := c) (.z k m) rfl
theorem dN_of (k : IntKind) (x y : Nat) (c : FV → FR) : Sv (dN k x y c) c (true, .int k (wr k (Int.ofNat x - Int.ofNat y))) := by
  unfold dN
  cases hb : Nat.ble y x
  · have h : ¬y ≤ x := fun h => by rw [Nat.ble_eq_true_of_le h] at hb; cases hb
    rw [show Int.ofNat x - Int.ofNat y = Int.negSucc (Nat.sub y (Nat.succ x)) by
      show (x : Int) - (y : Int) = Int.negSucc (y - (x + 1)); rw [Int.negSucc_eq]; omega]
    exact wZ_of _ _ _
  · have h := Nat.le_of_ble_eq_true hb
    rw [show Int.ofNat x - Int.ofNat y = Int.ofNat (Nat.sub x y) by
      show (x : Int) - (y : Int) = ((x - y : Nat) : Int); omega]
    exact wN_of _ _ _
def gI (op : BinOp) (k : IntKind) (i j : Int) (c : FV → FR) : FR := match A1 std op k i j with
  | (ok, v) => gB ok (c (βV v))
theorem B6 (op : BinOp) (k : IntKind) (i j : Int) (c : FV → FR) : Sv (gI op k i j c) c (A1 std op k i j) := by
  unfold gI
  obtain ⟨ok, v⟩ := A1 std op k i j
  dsimp only
  cases ok
  · exact .bad
  · exact .of (c := c) (βV v) (by rw [αβ])
def gS (op : BinOp) (a b : Nat) (c : FV → FR) : FR := match It std op (unp a) (unp b) with
  | (ok, v) => gB ok (c (βV v))
theorem G8 (op : BinOp) (a b : Nat) (c : FV → FR) : Sv (gS op a b c) c (It std op (unp a) (unp b)) := by
  unfold gS
  obtain ⟨ok, v⟩ := It std op (unp a) (unp b)
  dsimp only
  cases ok
  · exact .bad
  · exact .of (c := c) (βV v) (by rw [αβ])
def bB (t : Bool) (c : FV → FR) : FR := Bool.rec (c (.b false)) (c (.b true)) t
theorem Mm (t : Bool) (c : FV → FR) : Sv (bB t c) c (true, .bool t) := by cases t <;> exact .of (c := c) (.b _) rfl
def sEq (a b : Nat) (y n : FR) : FR := Bool.rec (Bool.rec .bad (Bool.rec .bad n (bok b)) (bok a)) y (Nat.beq a b)
theorem sEq_cases {a b : Nat} {y n : FR} (h : sEq a b y n ≠ .bad) : (unp a = unp b ∧ sEq a b y n = y) ∨ (unp a ≠ unp b ∧ sEq a b y n = n) := by
  unfold sEq at h ⊢
  cases hb : Nat.beq a b <;> rw [hb] at h
  · cases ha : bok a <;> rw [ha] at h
    · exact absurd rfl h
    · cases hb' : bok b <;> rw [hb'] at h
      · exact absurd rfl h
      · exact .inr ⟨fun e => (by rw [Mv ha hb' e, Nat.beq_refl] at hb; cases hb), rfl⟩
  · exact .inl ⟨by rw [Nat.eq_of_beq_eq_true hb], rfl⟩
def Iu (nn nz zn zz : IntKind → Nat → Nat → (FV → FR) → FR) (ss : Nat → Nat → (FV → FR) → FR) (x y : FV) (c : FV → FR) : FR := FV.rec (motive_1 := fun _ => FR) (motive_2 := fun _ => FR) (fun k a => kI (fun k' b => gK k k' (nn k a b c)) (fun k' b => gK k k' (nz k a b c)) y) (fun k a => kI (fun k' b => gK k k' (zn k a b c)) (fun k' b => gK k k' (zz k a b c)) y) (fun _ => .bad) (fun a => kS (fun b => ss a b c) y) (fun _ _ => .bad) (fun _ _ _ _ _ _ => .bad) (fun _ => .bad) (fun _ => .bad) (fun _ _ _ _ _ => .bad) (fun _ _ _ => .bad) (fun _ _ => .bad) (fun _ => .bad) (fun _ _ => .bad) (fun _ _ => .bad) (fun _ => .bad) .bad (fun _ _ _ _ => .bad) x
def shF (nn nz zn zz : IntKind → Nat → Nat → (FV → FR) → FR) (x y : FV) (c : FV → FR) : FR := FV.rec (motive_1 := fun _ => FR) (motive_2 := fun _ => FR) (fun k a => kI (fun _ b => nn k a b c) (fun _ b => nz k a b c) y) (fun k a => kI (fun _ b => zn k a b c) (fun _ b => zz k a b c) y) (fun _ => .bad) (fun _ => .bad) (fun _ _ => .bad) (fun _ _ _ _ _ _ => .bad) (fun _ => .bad) (fun _ => .bad) (fun _ _ _ _ _ => .bad) (fun _ _ _ => .bad) (fun _ _ => .bad) (fun _ => .bad) (fun _ _ => .bad) (fun _ _ => .bad) (fun _ => .bad) .bad (fun _ _ _ _ => .bad) x
theorem C0 {op : BinOp} {nn nz zn zz : IntKind → Nat → Nat → (FV → FR) → FR} {ss : Nat → Nat → (FV → FR) → FR} {x y : FV} {c : FV → FR} {σ : AH}
    (h1 : ∀ k a b, Sv (nn k a b c) c (A1 std op k (Int.ofNat a) (Int.ofNat b))) (h2 : ∀ k a b, Sv (nz k a b c) c (A1 std op k (Int.ofNat a) (Int.negSucc b)))
    (h3 : ∀ k a b, Sv (zn k a b c) c (A1 std op k (Int.negSucc a) (Int.ofNat b))) (h4 : ∀ k a b, Sv (zz k a b c) c (A1 std op k (Int.negSucc a) (Int.negSucc b)))
    (h5 : ∀ a b, Sv (ss a b c) c (It std op (unp a) (unp b))) : Sv (Iu nn nz zn zz ss x y c) c ((Bq std op (αV x) (αV y) σ).1, (Bq std op (αV x) (αV y) σ).2.1) := by
  have key : ∀ {k k' : IntKind} {i j : Int} {r : FR}, Sv r c (A1 std op k i j) → Sv (gK k k' r) c ((Bq std op (.int k i) (.int k' j) σ).1, (Bq std op (.int k i) (.int k' j) σ).2.1) := fun {k k' i j r} h => gK_sv fun e => by
    subst e
    simp only [Bq, decide_true, Bool.or_true, Bool.and_true]; exact h
  cases x <;> try exact .bad
  case s a => cases y <;> first | exact .bad | exact h5 _ _
  case n k a => cases y <;> first | exact .bad | exact key (h1 _ _ _) | exact key (h2 _ _ _)
  case z k a => cases y <;> first | exact .bad | exact key (h3 _ _ _) | exact key (h4 _ _ _)
theorem shF_sv {op : BinOp} (ho : Kc op = true) {nn nz zn zz : IntKind → Nat → Nat → (FV → FR) → FR} {x y : FV} {c : FV → FR} {σ : AH}
    (h1 : ∀ k a b, Sv (nn k a b c) c (A1 std op k (Int.ofNat a) (Int.ofNat b))) (h2 : ∀ k a b, Sv (nz k a b c) c (A1 std op k (Int.ofNat a) (Int.negSucc b)))
    (h3 : ∀ k a b, Sv (zn k a b c) c (A1 std op k (Int.negSucc a) (Int.ofNat b))) (h4 : ∀ k a b, Sv (zz k a b c) c (A1 std op k (Int.negSucc a) (Int.negSucc b))) :
    Sv (shF nn nz zn zz x y c) c ((Bq std op (αV x) (αV y) σ).1, (Bq std op (αV x) (αV y) σ).2.1) := by
  have key : ∀ {k k' : IntKind} {i j : Int} {r : FR}, Sv r c (A1 std op k i j) → Sv r c ((Bq std op (.int k i) (.int k' j) σ).1, (Bq std op (.int k i) (.int k' j) σ).2.1) := fun {k k' i j r} h => by
    simp only [Bq, ho, Bool.true_or, Bool.and_true]; exact h
  cases x <;> try exact .bad
  case n k a => cases y <;> first | exact .bad | exact key (h1 _ _ _) | exact key (h2 _ _ _)
  case z k a => cases y <;> first | exact .bad | exact key (h3 _ _ _) | exact key (h4 _ _ _)
def nnAdd (k : IntKind) (a b : Nat) (c : FV → FR) : FR := wN k (Nat.add a b) c
def nzAdd (k : IntKind) (a b : Nat) (c : FV → FR) : FR := dN k a (Nat.succ b) c
def znAdd (k : IntKind) (a b : Nat) (c : FV → FR) : FR := dN k b (Nat.succ a) c
def zzAdd (k : IntKind) (a b : Nat) (c : FV → FR) : FR := wZ k (Nat.succ (Nat.add a b)) c
def ssAdd (a b : Nat) (c : FV → FR) : FR := gB (Nat.ble (Nat.add (bl a) (bl b)) 9223372036854775807) (c (.s (Be a b)))
def bAdd (x y : FV) (c : FV → FR) : FR := Iu nnAdd nzAdd znAdd zzAdd ssAdd x y c
theorem bAdd_sv (x y : FV) (c : FV → FR) (σ : AH) : Sv (bAdd x y c) c ((Bq std .add (αV x) (αV y) σ).1, (Bq std .add (αV x) (αV y) σ).2.1) := by
  refine C0 ?_ ?_ ?_ ?_ ?_
  · intro k a b; exact wN_of _ _ _
  · intro k a b
    have h := dN_of k a (Nat.succ b) c
    rw [show Int.ofNat a - Int.ofNat (Nat.succ b) = Int.ofNat a + Int.negSucc b by rw [Int.negSucc_eq]; simp only [Int.ofNat_eq_natCast, Nat.succ_eq_add_one]; omega] at h
    exact h
  · intro k a b
    have h := dN_of k b (Nat.succ a) c
    rw [show Int.ofNat b - Int.ofNat (Nat.succ a) = Int.negSucc a + Int.ofNat b by rw [Int.negSucc_eq]; simp only [Int.ofNat_eq_natCast, Nat.succ_eq_add_one]; omega] at h
    exact h
  · intro k a b
    have h := wZ_of k (Nat.succ (Nat.add a b)) c
    rw [show Int.negSucc (Nat.succ (Nat.add a b)) = Int.negSucc a + Int.negSucc b by rfl] at h
    exact h
  · intro a b
    show Sv (gB _ _) c (Nat.ble ((unp a).length + (unp b).length) 9223372036854775807, .str (unp a ++ unp b))
    rw [gB_eq, B8, B8]
    cases hb : Nat.ble (bl a + bl b) 9223372036854775807
    · exact .bad
    · exact .of (c := c) (.s (Be a b)) (by rw [αV, bapp_unp])
def nnSub (k : IntKind) (a b : Nat) (c : FV → FR) : FR := dN k a b c
def nzSub (k : IntKind) (a b : Nat) (c : FV → FR) : FR := wN k (Nat.succ (Nat.add a b)) c
def znSub (k : IntKind) (a b : Nat) (c : FV → FR) : FR := wZ k (Nat.add a b) c
def zzSub (k : IntKind) (a b : Nat) (c : FV → FR) : FR := dN k b a c
def ssSub (a b : Nat) (c : FV → FR) : FR := gS .sub a b c
def bSub (x y : FV) (c : FV → FR) : FR := Iu nnSub nzSub znSub zzSub ssSub x y c
theorem bSub_sv (x y : FV) (c : FV → FR) (σ : AH) : Sv (bSub x y c) c ((Bq std .sub (αV x) (αV y) σ).1, (Bq std .sub (αV x) (αV y) σ).2.1) := by
  refine C0 ?_ ?_ ?_ ?_ ?_
  · intro k a b; exact dN_of _ _ _ _
  · intro k a b
    have h := wN_of k (Nat.succ (Nat.add a b)) c
    rw [show Int.ofNat (Nat.succ (Nat.add a b)) = Int.ofNat a - Int.negSucc b by rw [Int.negSucc_eq]; show ((a + b + 1 : Nat) : Int) = (a : Int) - _; omega] at h
    exact h
  · intro k a b
    have h := wZ_of k (Nat.add a b) c
    rw [show Int.negSucc (Nat.add a b) = Int.negSucc a - Int.ofNat b by rw [Int.negSucc_eq, Int.negSucc_eq]; show -(((a + b : Nat) : Int) + 1) = _ - (b : Int); omega] at h
    exact h
  · intro k a b
    have h := dN_of k b a c
    rw [show Int.ofNat b - Int.ofNat a = Int.negSucc a - Int.negSucc b by rw [Int.negSucc_eq, Int.negSucc_eq]; show (b : Int) - (a : Int) = _; omega] at h
    exact h
  · intros; exact G8 _ _ _ _
def nnMul (k : IntKind) (a b : Nat) (c : FV → FR) : FR := wN k (Nat.mul a b) c
def nzMul (k : IntKind) (a b : Nat) (c : FV → FR) : FR := gI .mul k (Int.ofNat a) (Int.negSucc b) c
def znMul (k : IntKind) (a b : Nat) (c : FV → FR) : FR := gI .mul k (Int.negSucc a) (Int.ofNat b) c
def zzMul (k : IntKind) (a b : Nat) (c : FV → FR) : FR := gI .mul k (Int.negSucc a) (Int.negSucc b) c
def ssMul (a b : Nat) (c : FV → FR) : FR := gS .mul a b c
def bMul (x y : FV) (c : FV → FR) : FR := Iu nnMul nzMul znMul zzMul ssMul x y c
theorem bMul_sv (x y : FV) (c : FV → FR) (σ : AH) : Sv (bMul x y c) c ((Bq std .mul (αV x) (αV y) σ).1, (Bq std .mul (αV x) (αV y) σ).2.1) := by
  refine C0 ?_ ?_ ?_ ?_ ?_
  · intro k a b; exact wN_of _ _ _
  · intros; exact B6 _ _ _ _ _
  · intros; exact B6 _ _ _ _ _
  · intros; exact B6 _ _ _ _ _
  · intros; exact G8 _ _ _ _
def nnQuo (k : IntKind) (a b : Nat) (c : FV → FR) : FR := Bool.rec (wN k (Nat.div a b) c) .bad (Nat.beq b 0)
def nzQuo (k : IntKind) (a b : Nat) (c : FV → FR) : FR := gI .quo k (Int.ofNat a) (Int.negSucc b) c
def znQuo (k : IntKind) (a b : Nat) (c : FV → FR) : FR := gI .quo k (Int.negSucc a) (Int.ofNat b) c
def zzQuo (k : IntKind) (a b : Nat) (c : FV → FR) : FR := gI .quo k (Int.negSucc a) (Int.negSucc b) c
def ssQuo (a b : Nat) (c : FV → FR) : FR := gS .quo a b c
def bQuo (x y : FV) (c : FV → FR) : FR := Iu nnQuo nzQuo znQuo zzQuo ssQuo x y c
theorem bQuo_sv (x y : FV) (c : FV → FR) (σ : AH) : Sv (bQuo x y c) c ((Bq std .quo (αV x) (αV y) σ).1, (Bq std .quo (αV x) (αV y) σ).2.1) := by
  refine C0 ?_ ?_ ?_ ?_ ?_
  · intro k a b
    cases hb : Nat.beq b 0
    · have h0 : b ≠ 0 := fun e => by rw [e] at hb; cases hb
      have h := wN_of k (Nat.div a b) c
      have e : A1 std .quo k (Int.ofNat a) (Int.ofNat b) = (true, .int k (wr k (Int.ofNat (Nat.div a b)))) := by
        simp only [A1, std]
        rw [decide_eq_false (by show ¬((b : Int) = 0); omega)]; rfl
      rw [e]; unfold nnQuo; rw [hb]; exact h
    · unfold nnQuo; rw [hb]; exact .bad
  · intros; exact B6 _ _ _ _ _
  · intros; exact B6 _ _ _ _ _
  · intros; exact B6 _ _ _ _ _
  · intros; exact G8 _ _ _ _
def nnRem (k : IntKind) (a b : Nat) (c : FV → FR) : FR := Bool.rec (fN (Nat.mod a b) fun r => c (.n k r)) .bad (Nat.beq b 0)
def nzRem (k : IntKind) (a b : Nat) (c : FV → FR) : FR := gI .rem k (Int.ofNat a) (Int.negSucc b) c
def znRem (k : IntKind) (a b : Nat) (c : FV → FR) : FR := gI .rem k (Int.negSucc a) (Int.ofNat b) c
def zzRem (k : IntKind) (a b : Nat) (c : FV → FR) : FR := gI .rem k (Int.negSucc a) (Int.negSucc b) c
def ssRem (a b : Nat) (c : FV → FR) : FR := gS .rem a b c
def bRem (x y : FV) (c : FV → FR) : FR := Iu nnRem nzRem znRem zzRem ssRem x y c
theorem bRem_sv (x y : FV) (c : FV → FR) (σ : AH) : Sv (bRem x y c) c ((Bq std .rem (αV x) (αV y) σ).1, (Bq std .rem (αV x) (αV y) σ).2.1) := by
  refine C0 ?_ ?_ ?_ ?_ ?_
  · intro k a b
    cases hb : Nat.beq b 0
    · have h0 : b ≠ 0 := fun e => by rw [e] at hb; cases hb
      have e : A1 std .rem k (Int.ofNat a) (Int.ofNat b) = (true, .int k (Int.ofNat (Nat.mod a b))) := by
        simp only [A1, std]
        rw [decide_eq_false (by show ¬((b : Int) = 0); omega)]; rfl
      rw [e]
      have h : Sv (fN (Nat.mod a b) fun r => c (.n k r)) c (true, .int k (Int.ofNat (Nat.mod a b))) := by rw [Aj]; exact .of (c := c) (.n k _) rfl
      unfold nnRem; rw [hb]; exact h
    · unfold nnRem; rw [hb]; exact .bad
  · intros; exact B6 _ _ _ _ _
  · intros; exact B6 _ _ _ _ _
  · intros; exact B6 _ _ _ _ _
  · intros; exact G8 _ _ _ _
theorem bitsF_eq (k : IntKind) : bitsF k = k.bits := by cases k <;> rfl
theorem bit_sv (op : BinOp) (f : Nat → Nat → Nat) (hf : ∀ m n j, m < 2 ^ j → n < 2 ^ j → f m n < 2 ^ j) (g : ∀ w, BitVec w → BitVec w → BitVec w)
    (ho : ∀ k a b, A1 std op k a b = (true, .int k (wr k (((g k.bits (BitVec.ofInt k.bits a) (BitVec.ofInt k.bits b)).toNat : Nat) : Int)))) (hg : ∀ w (a b : BitVec w), (g w a b).toNat = f a.toNat b.toNat) {c : FV → FR} (k : IntKind) (a b : Nat) :
    Sv (Bool.rec (gI op k (Int.ofNat a) (Int.ofNat b) c) (Bool.rec (gI op k (Int.ofNat a) (Int.ofNat b) c) (fN (f a b) fun r => c (.n k r)) (Nat.ble b (lim k))) (Nat.ble a (lim k))) c (A1 std op k (Int.ofNat a) (Int.ofNat b)) := by
  cases ha : Nat.ble a (lim k)
  · exact B6 _ _ _ _ _
  · cases hb : Nat.ble b (lim k)
    · exact B6 _ _ _ _ _
    · have ha := Nat.le_of_ble_eq_true ha
      have hb := Nat.le_of_ble_eq_true hb
      have key : ∃ j, lim k + 1 = 2 ^ j ∧ lim k < 2 ^ k.bits := by
        cases k <;> first | exact ⟨7, by decide⟩ | exact ⟨15, by decide⟩ | exact ⟨31, by decide⟩ | exact ⟨63, by decide⟩ | exact ⟨8, by decide⟩ | exact ⟨16, by decide⟩ | exact ⟨32, by decide⟩ | exact ⟨64, by decide⟩
      obtain ⟨j, hj, hk⟩ := key
      have hr := hf a b j (by omega) (by omega)
      have e : A1 std op k (Int.ofNat a) (Int.ofNat b) = (true, .int k (Int.ofNat (f a b))) := by
        rw [ho, hg]
        have e1 : (BitVec.ofInt k.bits (Int.ofNat a)).toNat = a := by
          rw [show BitVec.ofInt k.bits (Int.ofNat a) = BitVec.ofNat k.bits a from BitVec.ofInt_natCast _ _, BitVec.toNat_ofNat, Nat.mod_eq_of_lt (by omega)]
        have e2 : (BitVec.ofInt k.bits (Int.ofNat b)).toNat = b := by
          rw [show BitVec.ofInt k.bits (Int.ofNat b) = BitVec.ofNat k.bits b from BitVec.ofInt_natCast _ _, BitVec.toNat_ofNat, Nat.mod_eq_of_lt (by omega)]
        rw [e1, e2]
        have := wr_ofNat (k := k) (m := f a b) (by omega)
        rw [show ((f a b : Nat) : Int) = Int.ofNat (f a b) from rfl, this]
      rw [e]
      show Sv (fN (f a b) fun r => c (.n k r)) c _
      rw [Aj]; exact .of (c := c) (.n k _) rfl
def nnAnd (k : IntKind) (a b : Nat) (c : FV → FR) : FR := Bool.rec (gI .and k (Int.ofNat a) (Int.ofNat b) c) (Bool.rec (gI .and k (Int.ofNat a) (Int.ofNat b) c) (fN (Nat.land a b) fun r => c (.n k r)) (Nat.ble b (lim k))) (Nat.ble a (lim k))
def nzAnd (k : IntKind) (a b : Nat) (c : FV → FR) : FR := gI .and k (Int.ofNat a) (Int.negSucc b) c
def znAnd (k : IntKind) (a b : Nat) (c : FV → FR) : FR := gI .and k (Int.negSucc a) (Int.ofNat b) c
def zzAnd (k : IntKind) (a b : Nat) (c : FV → FR) : FR := gI .and k (Int.negSucc a) (Int.negSucc b) c
def ssAnd (a b : Nat) (c : FV → FR) : FR := gS .and a b c
def bAnd (x y : FV) (c : FV → FR) : FR := Iu nnAnd nzAnd znAnd zzAnd ssAnd x y c
theorem bAnd_sv (x y : FV) (c : FV → FR) (σ : AH) : Sv (bAnd x y c) c ((Bq std .and (αV x) (αV y) σ).1, (Bq std .and (αV x) (αV y) σ).2.1) := by
  refine C0 ?_ ?_ ?_ ?_ ?_
  · intro k a b
    exact bit_sv .and Nat.land (fun m n j hm hn => Nat.and_lt_two_pow _ hn) (fun _ a b => a &&& b) (fun _ _ _ => rfl) (fun _ a b => BitVec.toNat_and _ _) k a b
  · intros; exact B6 _ _ _ _ _
  · intros; exact B6 _ _ _ _ _
  · intros; exact B6 _ _ _ _ _
  · intros; exact G8 _ _ _ _
def nnOr (k : IntKind) (a b : Nat) (c : FV → FR) : FR := Bool.rec (gI .or k (Int.ofNat a) (Int.ofNat b) c) (Bool.rec (gI .or k (Int.ofNat a) (Int.ofNat b) c) (fN (Nat.lor a b) fun r => c (.n k r)) (Nat.ble b (lim k))) (Nat.ble a (lim k))
def nzOr (k : IntKind) (a b : Nat) (c : FV → FR) : FR := gI .or k (Int.ofNat a) (Int.negSucc b) c
def znOr (k : IntKind) (a b : Nat) (c : FV → FR) : FR := gI .or k (Int.negSucc a) (Int.ofNat b) c
def zzOr (k : IntKind) (a b : Nat) (c : FV → FR) : FR := gI .or k (Int.negSucc a) (Int.negSucc b) c
def ssOr (a b : Nat) (c : FV → FR) : FR := gS .or a b c
def bOr (x y : FV) (c : FV → FR) : FR := Iu nnOr nzOr znOr zzOr ssOr x y c
theorem bOr_sv (x y : FV) (c : FV → FR) (σ : AH) : Sv (bOr x y c) c ((Bq std .or (αV x) (αV y) σ).1, (Bq std .or (αV x) (αV y) σ).2.1) := by
  refine C0 ?_ ?_ ?_ ?_ ?_
  · intro k a b
    exact bit_sv .or Nat.lor (fun m n j hm hn => Nat.or_lt_two_pow hm hn) (fun _ a b => a ||| b) (fun _ _ _ => rfl) (fun _ a b => BitVec.toNat_or _ _) k a b
  · intros; exact B6 _ _ _ _ _
  · intros; exact B6 _ _ _ _ _
  · intros; exact B6 _ _ _ _ _
  · intros; exact G8 _ _ _ _
def nnXor (k : IntKind) (a b : Nat) (c : FV → FR) : FR := Bool.rec (gI .xor k (Int.ofNat a) (Int.ofNat b) c) (Bool.rec (gI .xor k (Int.ofNat a) (Int.ofNat b) c) (fN (Nat.xor a b) fun r => c (.n k r)) (Nat.ble b (lim k))) (Nat.ble a (lim k))
def nzXor (k : IntKind) (a b : Nat) (c : FV → FR) : FR := gI .xor k (Int.ofNat a) (Int.negSucc b) c
def znXor (k : IntKind) (a b : Nat) (c : FV → FR) : FR := gI .xor k (Int.negSucc a) (Int.ofNat b) c
def zzXor (k : IntKind) (a b : Nat) (c : FV → FR) : FR := gI .xor k (Int.negSucc a) (Int.negSucc b) c
def ssXor (a b : Nat) (c : FV → FR) : FR := gS .xor a b c
def bXor (x y : FV) (c : FV → FR) : FR := Iu nnXor nzXor znXor zzXor ssXor x y c
theorem bXor_sv (x y : FV) (c : FV → FR) (σ : AH) : Sv (bXor x y c) c ((Bq std .xor (αV x) (αV y) σ).1, (Bq std .xor (αV x) (αV y) σ).2.1) := by
  refine C0 ?_ ?_ ?_ ?_ ?_
  · intro k a b
    exact bit_sv .xor Nat.xor (fun m n j hm hn => Nat.xor_lt_two_pow hm hn) (fun _ a b => a ^^^ b) (fun _ _ _ => rfl) (fun _ a b => BitVec.toNat_xor _ _) k a b
  · intros; exact B6 _ _ _ _ _
  · intros; exact B6 _ _ _ _ _
  · intros; exact B6 _ _ _ _ _
  · intros; exact G8 _ _ _ _
def nnAndNot (k : IntKind) (a b : Nat) (c : FV → FR) : FR := gI .andNot k (Int.ofNat a) (Int.ofNat b) c
def nzAndNot (k : IntKind) (a b : Nat) (c : FV → FR) : FR := gI .andNot k (Int.ofNat a) (Int.negSucc b) c
def znAndNot (k : IntKind) (a b : Nat) (c : FV → FR) : FR := gI .andNot k (Int.negSucc a) (Int.ofNat b) c
def zzAndNot (k : IntKind) (a b : Nat) (c : FV → FR) : FR := gI .andNot k (Int.negSucc a) (Int.negSucc b) c
def ssAndNot (a b : Nat) (c : FV → FR) : FR := gS .andNot a b c
def bAndNot (x y : FV) (c : FV → FR) : FR := Iu nnAndNot nzAndNot znAndNot zzAndNot ssAndNot x y c
theorem bAndNot_sv (x y : FV) (c : FV → FR) (σ : AH) : Sv (bAndNot x y c) c ((Bq std .andNot (αV x) (αV y) σ).1, (Bq std .andNot (αV x) (αV y) σ).2.1) := by
  refine C0 ?_ ?_ ?_ ?_ ?_
  · intros; exact B6 _ _ _ _ _
  · intros; exact B6 _ _ _ _ _
  · intros; exact B6 _ _ _ _ _
  · intros; exact B6 _ _ _ _ _
  · intros; exact G8 _ _ _ _
def nnShl (k : IntKind) (a b : Nat) (c : FV → FR) : FR := Bool.rec (gI .shl k (Int.ofNat a) (Int.ofNat b) c) (wN k (Nat.shiftLeft a b) c) (Nat.ble b (bitsF k))
def nzShl (k : IntKind) (a b : Nat) (c : FV → FR) : FR := gI .shl k (Int.ofNat a) (Int.negSucc b) c
def znShl (k : IntKind) (a b : Nat) (c : FV → FR) : FR := gI .shl k (Int.negSucc a) (Int.ofNat b) c
def zzShl (k : IntKind) (a b : Nat) (c : FV → FR) : FR := gI .shl k (Int.negSucc a) (Int.negSucc b) c
def bShl (x y : FV) (c : FV → FR) : FR := shF nnShl nzShl znShl zzShl x y c
theorem bShl_sv (x y : FV) (c : FV → FR) (σ : AH) : Sv (bShl x y c) c ((Bq std .shl (αV x) (αV y) σ).1, (Bq std .shl (αV x) (αV y) σ).2.1) := by
  refine shF_sv rfl ?_ ?_ ?_ ?_
  · intro k a b
    cases hb : Nat.ble b (bitsF k)
    · unfold nnShl; rw [hb]; exact B6 _ _ _ _ _
    · unfold nnShl; rw [hb]
      have e : A1 std .shl k (Int.ofNat a) (Int.ofNat b) = (true, .int k (wr k (Int.ofNat (Nat.shiftLeft a b)))) := by
        have hle : b ≤ k.bits := by rw [← bitsF_eq]; exact Nat.le_of_ble_eq_true hb
        simp only [A1, std]
        rw [decide_eq_false (by show ¬((b : Int) < 0); omega)]
        have e2 : Int.ofNat a * 2 ^ min (Int.ofNat b).toNat k.bits = Int.ofNat (Nat.shiftLeft a b) := by
          show (a : Int) * 2 ^ min b k.bits = ((a <<< b : Nat) : Int)
          rw [Nat.min_eq_left hle, Nat.shiftLeft_eq]; simp
        rw [e2]; rfl
      rw [e]; exact wN_of _ _ _
  · intros; exact B6 _ _ _ _ _
  · intros; exact B6 _ _ _ _ _
  · intros; exact B6 _ _ _ _ _
def nnShr (k : IntKind) (a b : Nat) (c : FV → FR) : FR := Bool.rec (gI .shr k (Int.ofNat a) (Int.ofNat b) c) (fN (Nat.shiftRight a b) fun r => c (.n k r)) (Nat.ble b (bitsF k))
def nzShr (k : IntKind) (a b : Nat) (c : FV → FR) : FR := gI .shr k (Int.ofNat a) (Int.negSucc b) c
def znShr (k : IntKind) (a b : Nat) (c : FV → FR) : FR := gI .shr k (Int.negSucc a) (Int.ofNat b) c
def zzShr (k : IntKind) (a b : Nat) (c : FV → FR) : FR := gI .shr k (Int.negSucc a) (Int.negSucc b) c
def bShr (x y : FV) (c : FV → FR) : FR := shF nnShr nzShr znShr zzShr x y c
theorem bShr_sv (x y : FV) (c : FV → FR) (σ : AH) : Sv (bShr x y c) c ((Bq std .shr (αV x) (αV y) σ).1, (Bq std .shr (αV x) (αV y) σ).2.1) := by
  refine shF_sv rfl ?_ ?_ ?_ ?_
  · intro k a b
    cases hb : Nat.ble b (bitsF k)
    · unfold nnShr; rw [hb]; exact B6 _ _ _ _ _
    · unfold nnShr; rw [hb]
      have e : A1 std .shr k (Int.ofNat a) (Int.ofNat b) = (true, .int k (Int.ofNat (Nat.shiftRight a b))) := by
        have hle : b ≤ k.bits := by rw [← bitsF_eq]; exact Nat.le_of_ble_eq_true hb
        simp only [A1, std]
        rw [decide_eq_false (by show ¬((b : Int) < 0); omega)]
        have e2 : (Int.ofNat a).fdiv (2 ^ min (Int.ofNat b).toNat k.bits) = Int.ofNat (Nat.shiftRight a b) := by
          show (a : Int).fdiv (2 ^ min b k.bits) = ((a >>> b : Nat) : Int)
          rw [Nat.min_eq_left hle, Nat.shiftRight_eq_div_pow, Int.fdiv_eq_ediv_of_nonneg _ (Int.le_of_lt (Int.pow_pos (by decide)))]; simp
        rw [e2]; rfl
      rw [e]
      have h : Sv (fN (Nat.shiftRight a b) fun r => c (.n k r)) c (true, .int k (Int.ofNat (Nat.shiftRight a b))) := by rw [Aj]; exact .of (c := c) (.n k _) rfl
      exact h
  · intros; exact B6 _ _ _ _ _
  · intros; exact B6 _ _ _ _ _
  · intros; exact B6 _ _ _ _ _
theorem L2 (a b : Nat) : decide (Int.ofNat a < Int.ofNat b) = Nat.ble (Nat.succ a) b ∧ decide (Int.ofNat a < Int.negSucc b) = false ∧ decide (Int.negSucc a < Int.ofNat b) = true ∧ decide (Int.negSucc a < Int.negSucc b) = Nat.ble (Nat.succ b) a := by
  refine ⟨?_, ?_, ?_, ?_⟩ <;> rw [Bool.eq_iff_iff] <;> simp [Nat.ble_eq, Int.negSucc_eq] <;> omega
def nnLss (k : IntKind) (a b : Nat) (c : FV → FR) : FR := bB (Nat.ble (Nat.succ a) b) c
def nzLss (k : IntKind) (a b : Nat) (c : FV → FR) : FR := c (.b false)
def znLss (k : IntKind) (a b : Nat) (c : FV → FR) : FR := c (.b true)
def zzLss (k : IntKind) (a b : Nat) (c : FV → FR) : FR := bB (Nat.ble (Nat.succ b) a) c
def ssLss (a b : Nat) (c : FV → FR) : FR := gS .lss a b c
def bLss (x y : FV) (c : FV → FR) : FR := Iu nnLss nzLss znLss zzLss ssLss x y c
theorem bLss_sv (x y : FV) (c : FV → FR) (σ : AH) : Sv (bLss x y c) c ((Bq std .lss (αV x) (αV y) σ).1, (Bq std .lss (αV x) (αV y) σ).2.1) := by
  refine C0 ?_ ?_ ?_ ?_ ?_
  · intro k a b
    have h := Mm (Nat.ble (Nat.succ a) b) c
    rw [show AV.bool (Nat.ble (Nat.succ a) b) = (A1 std .lss k (Int.ofNat a) (Int.ofNat b)).2 by
      simp only [A1, std]; congr 1; exact (L2 a b).1.symm] at h
    exact h
  · intro k a b
    exact .of (c := c) (.b false) (by simp only [A1, std, αV, (L2 a b).2.1])
  · intro k a b
    exact .of (c := c) (.b true) (by simp only [A1, std, αV, (L2 a b).2.2.1])
  · intro k a b
    have h := Mm (Nat.ble (Nat.succ b) a) c
    rw [show AV.bool (Nat.ble (Nat.succ b) a) = (A1 std .lss k (Int.negSucc a) (Int.negSucc b)).2 by
      simp only [A1, std]; congr 1; exact (L2 a b).2.2.2.symm] at h
    exact h
  · intros; exact G8 _ _ _ _
theorem cb_leq (a b : Nat) : decide (Int.ofNat a ≤ Int.ofNat b) = Nat.ble a b ∧ decide (Int.ofNat a ≤ Int.negSucc b) = false ∧ decide (Int.negSucc a ≤ Int.ofNat b) = true ∧ decide (Int.negSucc a ≤ Int.negSucc b) = Nat.ble b a := by
  refine ⟨?_, ?_, ?_, ?_⟩ <;> rw [Bool.eq_iff_iff] <;> simp [Nat.ble_eq, Int.negSucc_eq] <;> omega
def nnLeq (k : IntKind) (a b : Nat) (c : FV → FR) : FR := bB (Nat.ble a b) c
def nzLeq (k : IntKind) (a b : Nat) (c : FV → FR) : FR := c (.b false)
def znLeq (k : IntKind) (a b : Nat) (c : FV → FR) : FR := c (.b true)
def zzLeq (k : IntKind) (a b : Nat) (c : FV → FR) : FR := bB (Nat.ble b a) c
def ssLeq (a b : Nat) (c : FV → FR) : FR := gS .leq a b c
def bLeq (x y : FV) (c : FV → FR) : FR := Iu nnLeq nzLeq znLeq zzLeq ssLeq x y c
theorem bLeq_sv (x y : FV) (c : FV → FR) (σ : AH) : Sv (bLeq x y c) c ((Bq std .leq (αV x) (αV y) σ).1, (Bq std .leq (αV x) (αV y) σ).2.1) := by
  refine C0 ?_ ?_ ?_ ?_ ?_
  · intro k a b
    have h := Mm (Nat.ble a b) c
    rw [show AV.bool (Nat.ble a b) = (A1 std .leq k (Int.ofNat a) (Int.ofNat b)).2 by
      simp only [A1, std]; congr 1; exact (cb_leq a b).1.symm] at h
    exact h
  · intro k a b
    exact .of (c := c) (.b false) (by simp only [A1, std, αV, (cb_leq a b).2.1])
  · intro k a b
    exact .of (c := c) (.b true) (by simp only [A1, std, αV, (cb_leq a b).2.2.1])
  · intro k a b
    have h := Mm (Nat.ble b a) c
    rw [show AV.bool (Nat.ble b a) = (A1 std .leq k (Int.negSucc a) (Int.negSucc b)).2 by
      simp only [A1, std]; congr 1; exact (cb_leq a b).2.2.2.symm] at h
    exact h
  · intros; exact G8 _ _ _ _
theorem cb_gtr (a b : Nat) : decide (Int.ofNat b < Int.ofNat a) = Nat.ble (Nat.succ b) a ∧ decide (Int.negSucc b < Int.ofNat a) = true ∧ decide (Int.ofNat b < Int.negSucc a) = false ∧ decide (Int.negSucc b < Int.negSucc a) = Nat.ble (Nat.succ a) b := by
  refine ⟨?_, ?_, ?_, ?_⟩ <;> rw [Bool.eq_iff_iff] <;> simp [Nat.ble_eq, Int.negSucc_eq] <;> omega
def nnGtr (k : IntKind) (a b : Nat) (c : FV → FR) : FR := bB (Nat.ble (Nat.succ b) a) c
def nzGtr (k : IntKind) (a b : Nat) (c : FV → FR) : FR := c (.b true)
def znGtr (k : IntKind) (a b : Nat) (c : FV → FR) : FR := c (.b false)
def zzGtr (k : IntKind) (a b : Nat) (c : FV → FR) : FR := bB (Nat.ble (Nat.succ a) b) c
def ssGtr (a b : Nat) (c : FV → FR) : FR := gS .gtr a b c
def bGtr (x y : FV) (c : FV → FR) : FR := Iu nnGtr nzGtr znGtr zzGtr ssGtr x y c
theorem bGtr_sv (x y : FV) (c : FV → FR) (σ : AH) : Sv (bGtr x y c) c ((Bq std .gtr (αV x) (αV y) σ).1, (Bq std .gtr (αV x) (αV y) σ).2.1) := by
  refine C0 ?_ ?_ ?_ ?_ ?_
  · intro k a b
    have h := Mm (Nat.ble (Nat.succ b) a) c
    rw [show AV.bool (Nat.ble (Nat.succ b) a) = (A1 std .gtr k (Int.ofNat a) (Int.ofNat b)).2 by
      simp only [A1, std]; congr 1; exact (cb_gtr a b).1.symm] at h
    exact h
  · intro k a b
    exact .of (c := c) (.b true) (by simp only [A1, std, αV, (cb_gtr a b).2.1])
  · intro k a b
    exact .of (c := c) (.b false) (by simp only [A1, std, αV, (cb_gtr a b).2.2.1])
  · intro k a b
    have h := Mm (Nat.ble (Nat.succ a) b) c
    rw [show AV.bool (Nat.ble (Nat.succ a) b) = (A1 std .gtr k (Int.negSucc a) (Int.negSucc b)).2 by
      simp only [A1, std]; congr 1; exact (cb_gtr a b).2.2.2.symm] at h
    exact h
  · intros; exact G8 _ _ _ _
theorem cb_geq (a b : Nat) : decide (Int.ofNat b ≤ Int.ofNat a) = Nat.ble b a ∧ decide (Int.negSucc b ≤ Int.ofNat a) = true ∧ decide (Int.ofNat b ≤ Int.negSucc a) = false ∧ decide (Int.negSucc b ≤ Int.negSucc a) = Nat.ble a b := by
  refine ⟨?_, ?_, ?_, ?_⟩ <;> rw [Bool.eq_iff_iff] <;> simp [Nat.ble_eq, Int.negSucc_eq] <;> omega
def nnGeq (k : IntKind) (a b : Nat) (c : FV → FR) : FR := bB (Nat.ble b a) c
def nzGeq (k : IntKind) (a b : Nat) (c : FV → FR) : FR := c (.b true)
def znGeq (k : IntKind) (a b : Nat) (c : FV → FR) : FR := c (.b false)
def zzGeq (k : IntKind) (a b : Nat) (c : FV → FR) : FR := bB (Nat.ble a b) c
def ssGeq (a b : Nat) (c : FV → FR) : FR := gS .geq a b c
def bGeq (x y : FV) (c : FV → FR) : FR := Iu nnGeq nzGeq znGeq zzGeq ssGeq x y c
theorem bGeq_sv (x y : FV) (c : FV → FR) (σ : AH) : Sv (bGeq x y c) c ((Bq std .geq (αV x) (αV y) σ).1, (Bq std .geq (αV x) (αV y) σ).2.1) := by
  refine C0 ?_ ?_ ?_ ?_ ?_
  · intro k a b
    have h := Mm (Nat.ble b a) c
    rw [show AV.bool (Nat.ble b a) = (A1 std .geq k (Int.ofNat a) (Int.ofNat b)).2 by
      simp only [A1, std]; congr 1; exact (cb_geq a b).1.symm] at h
    exact h
  · intro k a b
    exact .of (c := c) (.b true) (by simp only [A1, std, αV, (cb_geq a b).2.1])
  · intro k a b
    exact .of (c := c) (.b false) (by simp only [A1, std, αV, (cb_geq a b).2.2.1])
  · intro k a b
    have h := Mm (Nat.ble a b) c
    rw [show AV.bool (Nat.ble a b) = (A1 std .geq k (Int.negSucc a) (Int.negSucc b)).2 by
      simp only [A1, std]; congr 1; exact (cb_geq a b).2.2.2.symm] at h
    exact h
  · intros; exact G8 _ _ _ _
theorem Fd (a b : Nat) : decide (Int.ofNat a = Int.ofNat b) = Nat.beq a b ∧ decide (Int.ofNat a = Int.negSucc b) = false ∧ decide (Int.negSucc a = Int.ofNat b) = false ∧ decide (Int.negSucc a = Int.negSucc b) = Nat.beq a b := by
  refine ⟨?_, ?_, ?_, ?_⟩ <;> rw [Bool.eq_iff_iff] <;> simp [Int.negSucc_eq] <;> try omega
  all_goals exact ⟨fun h => by subst h; exact Nat.beq_refl _, Nat.eq_of_beq_eq_true⟩
def nnEql (k : IntKind) (a b : Nat) (c : FV → FR) : FR := Bool.rec (c (.b false)) (c (.b true)) (Nat.beq a b)
def nzEql (k : IntKind) (a b : Nat) (c : FV → FR) : FR := c (.b false)
def znEql (k : IntKind) (a b : Nat) (c : FV → FR) : FR := c (.b false)
def zzEql (k : IntKind) (a b : Nat) (c : FV → FR) : FR := Bool.rec (c (.b false)) (c (.b true)) (Nat.beq a b)
def ssEql (a b : Nat) (c : FV → FR) : FR := sEq a b (c (.b true)) (c (.b false))
def bEql (x y : FV) (c : FV → FR) : FR := Iu nnEql nzEql znEql zzEql ssEql x y c
theorem bEql_sv (x y : FV) (c : FV → FR) (σ : AH) : Sv (bEql x y c) c ((Bq std .eql (αV x) (αV y) σ).1, (Bq std .eql (αV x) (αV y) σ).2.1) := by
  refine C0 ?_ ?_ ?_ ?_ ?_
  · intro k a b
    have e : A1 std .eql k (Int.ofNat a) (Int.ofNat b) = (true, .bool (Nat.beq a b)) := by simp only [A1, std, (Fd a b).1]
    rw [e]
    unfold nnEql
    cases Nat.beq a b <;> exact .of (c := c) (.b _) rfl
  · intro k a b
    exact .of (c := c) (.b false) (by simp only [A1, std, αV, (Fd a b).2.1, Bool.not_false])
  · intro k a b
    exact .of (c := c) (.b false) (by simp only [A1, std, αV, (Fd a b).2.2.1, Bool.not_false])
  · intro k a b
    have e : A1 std .eql k (Int.negSucc a) (Int.negSucc b) = (true, .bool (Nat.beq a b)) := by simp only [A1, std, (Fd a b).2.2.2]
    rw [e]
    unfold zzEql
    cases Nat.beq a b <;> exact .of (c := c) (.b _) rfl
  · intro a b
    intro hr
    rcases sEq_cases (show sEq a b (c (.b true)) (c (.b false)) ≠ .bad from hr) with ⟨h1, h2⟩ | ⟨h1, h2⟩
    · exact ⟨.b true, by simp [It, std, αV, h1], h2⟩
    · exact ⟨.b false, by simp [It, std, αV, h1], h2⟩
def nnNeq (k : IntKind) (a b : Nat) (c : FV → FR) : FR := Bool.rec (c (.b true)) (c (.b false)) (Nat.beq a b)
def nzNeq (k : IntKind) (a b : Nat) (c : FV → FR) : FR := c (.b true)
def znNeq (k : IntKind) (a b : Nat) (c : FV → FR) : FR := c (.b true)
def zzNeq (k : IntKind) (a b : Nat) (c : FV → FR) : FR := Bool.rec (c (.b true)) (c (.b false)) (Nat.beq a b)
def ssNeq (a b : Nat) (c : FV → FR) : FR := sEq a b (c (.b false)) (c (.b true))
def bNeq (x y : FV) (c : FV → FR) : FR := Iu nnNeq nzNeq znNeq zzNeq ssNeq x y c
theorem bNeq_sv (x y : FV) (c : FV → FR) (σ : AH) : Sv (bNeq x y c) c ((Bq std .neq (αV x) (αV y) σ).1, (Bq std .neq (αV x) (αV y) σ).2.1) := by
  refine C0 ?_ ?_ ?_ ?_ ?_
  · intro k a b
    have e : A1 std .neq k (Int.ofNat a) (Int.ofNat b) = (true, .bool (!Nat.beq a b)) := by simp only [A1, std, (Fd a b).1]
    rw [e]
    unfold nnNeq
    cases Nat.beq a b <;> exact .of (c := c) (.b _) rfl
  · intro k a b
    exact .of (c := c) (.b true) (by simp only [A1, std, αV, (Fd a b).2.1, Bool.not_false])
  · intro k a b
    exact .of (c := c) (.b true) (by simp only [A1, std, αV, (Fd a b).2.2.1, Bool.not_false])
  · intro k a b
    have e : A1 std .neq k (Int.negSucc a) (Int.negSucc b) = (true, .bool (!Nat.beq a b)) := by simp only [A1, std, (Fd a b).2.2.2]
    rw [e]
    unfold zzNeq
    cases Nat.beq a b <;> exact .of (c := c) (.b _) rfl
  · intro a b
    intro hr
    rcases sEq_cases (show sEq a b (c (.b false)) (c (.b true)) ≠ .bad from hr) with ⟨h1, h2⟩ | ⟨h1, h2⟩
    · exact ⟨.b false, by simp [It, std, αV, h1], h2⟩
    · exact ⟨.b true, by simp [It, std, αV, h1], h2⟩
end
end Go.Proofs.YtjoakhpdajlhiaaGreatDoor.V2
namespace Go.Proofs.YtjoakhpdajlhiaaGreatDoor.V2
open Go
noncomputable section
structure N8 (α : Type) where
  (a0 a1 a2 a3 a4 a5 a6 a7 : α)
structure N16 (α : Type) where
  (a0 a1 a2 a3 a4 a5 a6 a7 a8 a9 a10 a11 a12 a13 a14 a15 : α)
def N8.L {α : Type} (t : N8 α) : List α := N8.rec (motive := fun _ => List α) (fun a0 a1 a2 a3 a4 a5 a6 a7 => [a0, a1, a2, a3, a4, a5, a6, a7]) t
def N16.L {α : Type} (t : N16 α) : List α := N16.rec (motive := fun _ => List α) (fun a0 a1 a2 a3 a4 a5 a6 a7 a8 a9 a10 a11 a12 a13 a14 a15 => [a0, a1, a2, a3, a4, a5, a6, a7, a8, a9, a10, a11, a12, a13, a14, a15]) t
abbrev E1 := N8 FV
abbrev E2 := N8 E1
abbrev E := N16 E2
def d1 : E1 := ⟨.o .top, .o .top, .o .top, .o .top, .o .top, .o .top, .o .top, .o .top⟩
def d2 : E2 := ⟨d1, d1, d1, d1, d1, d1, d1, d1⟩
def pa0 (t : E1) (k : FV → FR) : FR := N8.rec (motive := fun _ => FR) (fun a0 _ _ _ _ _ _ _ => k a0) t
def pa1 (t : E1) (k : FV → FR) : FR := N8.rec (motive := fun _ => FR) (fun _ a1 _ _ _ _ _ _ => k a1) t
def pa2 (t : E1) (k : FV → FR) : FR := N8.rec (motive := fun _ => FR) (fun _ _ a2 _ _ _ _ _ => k a2) t
def pa3 (t : E1) (k : FV → FR) : FR := N8.rec (motive := fun _ => FR) (fun _ _ _ a3 _ _ _ _ => k a3) t
def pa4 (t : E1) (k : FV → FR) : FR := N8.rec (motive := fun _ => FR) (fun _ _ _ _ a4 _ _ _ => k a4) t
def pa5 (t : E1) (k : FV → FR) : FR := N8.rec (motive := fun _ => FR) (fun _ _ _ _ _ a5 _ _ => k a5) t
def pa6 (t : E1) (k : FV → FR) : FR := N8.rec (motive := fun _ => FR) (fun _ _ _ _ _ _ a6 _ => k a6) t
def pa7 (t : E1) (k : FV → FR) : FR := N8.rec (motive := fun _ => FR) (fun _ _ _ _ _ _ _ a7 => k a7) t
def paL : List (E1 → (FV → FR) → FR) := [pa0, pa1, pa2, pa3, pa4, pa5, pa6, pa7]
def paN (i : Nat) : E1 → (FV → FR) → FR := paL.getD i fun _ _ => .bad
theorem pa_at : ∀ (i : Nat), i < 8 → ∀ (t : E1) (k : FV → FR), paN i t k = k (t.L.getD i (.o .top))
  | 0, _ => fun t k => by cases t; rfl
  | 1, _ => fun t k => by cases t; rfl
  | 2, _ => fun t k => by cases t; rfl
  | 3, _ => fun t k => by cases t; rfl
  | 4, _ => fun t k => by cases t; rfl
  | 5, _ => fun t k => by cases t; rfl
  | 6, _ => fun t k => by cases t; rfl
  | 7, _ => fun t k => by cases t; rfl
  | n + 8, h => absurd h (by omega)
def pb0 (t : E2) (k : E1 → FR) : FR := N8.rec (motive := fun _ => FR) (fun a0 _ _ _ _ _ _ _ => k a0) t
def pb1 (t : E2) (k : E1 → FR) : FR := N8.rec (motive := fun _ => FR) (fun _ a1 _ _ _ _ _ _ => k a1) t
def pb2 (t : E2) (k : E1 → FR) : FR := N8.rec (motive := fun _ => FR) (fun _ _ a2 _ _ _ _ _ => k a2) t
def pb3 (t : E2) (k : E1 → FR) : FR := N8.rec (motive := fun _ => FR) (fun _ _ _ a3 _ _ _ _ => k a3) t
def pb4 (t : E2) (k : E1 → FR) : FR := N8.rec (motive := fun _ => FR) (fun _ _ _ _ a4 _ _ _ => k a4) t
def pb5 (t : E2) (k : E1 → FR) : FR := N8.rec (motive := fun _ => FR) (fun _ _ _ _ _ a5 _ _ => k a5) t
def pb6 (t : E2) (k : E1 → FR) : FR := N8.rec (motive := fun _ => FR) (fun _ _ _ _ _ _ a6 _ => k a6) t
def pb7 (t : E2) (k : E1 → FR) : FR := N8.rec (motive := fun _ => FR) (fun _ _ _ _ _ _ _ a7 => k a7) t
def pbL : List (E2 → (E1 → FR) → FR) := [pb0, pb1, pb2, pb3, pb4, pb5, pb6, pb7]
def pbN (i : Nat) : E2 → (E1 → FR) → FR := pbL.getD i fun _ _ => .bad
theorem pb_at : ∀ (i : Nat), i < 8 → ∀ (t : E2) (k : E1 → FR), pbN i t k = k (t.L.getD i d1)
  | 0, _ => fun t k => by cases t; rfl
  | 1, _ => fun t k => by cases t; rfl
  | 2, _ => fun t k => by cases t; rfl
  | 3, _ => fun t k => by cases t; rfl
  | 4, _ => fun t k => by cases t; rfl
  | 5, _ => fun t k => by cases t; rfl
  | 6, _ => fun t k => by cases t; rfl
  | 7, _ => fun t k => by cases t; rfl
  | n + 8, h => absurd h (by omega)
def pc0 (t : E) (k : E2 → FR) : FR := N16.rec (motive := fun _ => FR) (fun a0 _ _ _ _ _ _ _ _ _ _ _ _ _ _ _ => k a0) t
def pc1 (t : E) (k : E2 → FR) : FR := N16.rec (motive := fun _ => FR) (fun _ a1 _ _ _ _ _ _ _ _ _ _ _ _ _ _ => k a1) t
def pc2 (t : E) (k : E2 → FR) : FR := N16.rec (motive := fun _ => FR) (fun _ _ a2 _ _ _ _ _ _ _ _ _ _ _ _ _ => k a2) t
def pc3 (t : E) (k : E2 → FR) : FR := N16.rec (motive := fun _ => FR) (fun _ _ _ a3 _ _ _ _ _ _ _ _ _ _ _ _ => k a3) t
def pc4 (t : E) (k : E2 → FR) : FR := N16.rec (motive := fun _ => FR) (fun _ _ _ _ a4 _ _ _ _ _ _ _ _ _ _ _ => k a4) t
def pc5 (t : E) (k : E2 → FR) : FR := N16.rec (motive := fun _ => FR) (fun _ _ _ _ _ a5 _ _ _ _ _ _ _ _ _ _ => k a5) t
def pc6 (t : E) (k : E2 → FR) : FR := N16.rec (motive := fun _ => FR) (fun _ _ _ _ _ _ a6 _ _ _ _ _ _ _ _ _ => k a6) t
def pc7 (t : E) (k : E2 → FR) : FR := N16.rec (motive := fun _ => FR) (fun _ _ _ _ _ _ _ a7 _ _ _ _ _ _ _ _ => k a7) t
def pc8 (t : E) (k : E2 → FR) : FR := N16.rec (motive := fun _ => FR) (fun _ _ _ _ _ _ _ _ a8 _ _ _ _ _ _ _ => k a8) t
def pc9 (t : E) (k : E2 → FR) : FR := N16.rec (motive := fun _ => FR) (fun _ _ _ _ _ _ _ _ _ a9 _ _ _ _ _ _ => k a9) t
def pc10 (t : E) (k : E2 → FR) : FR := N16.rec (motive := fun _ => FR) (fun _ _ _ _ _ _ _ _ _ _ a10 _ _ _ _ _ => k a10) t
def pc11 (t : E) (k : E2 → FR) : FR := N16.rec (motive := fun _ => FR) (fun _ _ _ _ _ _ _ _ _ _ _ a11 _ _ _ _ => k a11) t
def pc12 (t : E) (k : E2 → FR) : FR := N16.rec (motive := fun _ => FR) (fun _ _ _ _ _ _ _ _ _ _ _ _ a12 _ _ _ => k a12) t
def pc13 (t : E) (k : E2 → FR) : FR := N16.rec (motive := fun _ => FR) (fun _ _ _ _ _ _ _ _ _ _ _ _ _ a13 _ _ => k a13) t
def pc14 (t : E) (k : E2 → FR) : FR := N16.rec (motive := fun _ => FR) (fun _ _ _ _ _ _ _ _ _ _ _ _ _ _ a14 _ => k a14) t
def pc15 (t : E) (k : E2 → FR) : FR := N16.rec (motive := fun _ => FR) (fun _ _ _ _ _ _ _ _ _ _ _ _ _ _ _ a15 => k a15) t
def pcL : List (E → (E2 → FR) → FR) := [pc0, pc1, pc2, pc3, pc4, pc5, pc6, pc7, pc8, pc9, pc10, pc11, pc12, pc13, pc14, pc15]
def pcN (i : Nat) : E → (E2 → FR) → FR := pcL.getD i fun _ _ => .bad
theorem pc_at : ∀ (i : Nat), i < 16 → ∀ (t : E) (k : E2 → FR), pcN i t k = k (t.L.getD i d2)
  | 0, _ => fun t k => by cases t; rfl
  | 1, _ => fun t k => by cases t; rfl
  | 2, _ => fun t k => by cases t; rfl
  | 3, _ => fun t k => by cases t; rfl
  | 4, _ => fun t k => by cases t; rfl
  | 5, _ => fun t k => by cases t; rfl
  | 6, _ => fun t k => by cases t; rfl
  | 7, _ => fun t k => by cases t; rfl
  | 8, _ => fun t k => by cases t; rfl
  | 9, _ => fun t k => by cases t; rfl
  | 10, _ => fun t k => by cases t; rfl
  | 11, _ => fun t k => by cases t; rfl
  | 12, _ => fun t k => by cases t; rfl
  | 13, _ => fun t k => by cases t; rfl
  | 14, _ => fun t k => by cases t; rfl
  | 15, _ => fun t k => by cases t; rfl
  | n + 16, h => absurd h (by omega)
def wa0 (t : E1) (x : FV) (k : E1 → FR) : FR := N8.rec (motive := fun _ => FR) (fun _ a1 a2 a3 a4 a5 a6 a7 => k ⟨x, a1, a2, a3, a4, a5, a6, a7⟩) t
def wa1 (t : E1) (x : FV) (k : E1 → FR) : FR := N8.rec (motive := fun _ => FR) (fun a0 _ a2 a3 a4 a5 a6 a7 => k ⟨a0, x, a2, a3, a4, a5, a6, a7⟩) t
def wa2 (t : E1) (x : FV) (k : E1 → FR) : FR := N8.rec (motive := fun _ => FR) (fun a0 a1 _ a3 a4 a5 a6 a7 => k ⟨a0, a1, x, a3, a4, a5, a6, a7⟩) t
def wa3 (t : E1) (x : FV) (k : E1 → FR) : FR := N8.rec (motive := fun _ => FR) (fun a0 a1 a2 _ a4 a5 a6 a7 => k ⟨a0, a1, a2, x, a4, a5, a6, a7⟩) t
def wa4 (t : E1) (x : FV) (k : E1 → FR) : FR := N8.rec (motive := fun _ => FR) (fun a0 a1 a2 a3 _ a5 a6 a7 => k ⟨a0, a1, a2, a3, x, a5, a6, a7⟩) t
def wa5 (t : E1) (x : FV) (k : E1 → FR) : FR := N8.rec (motive := fun _ => FR) (fun a0 a1 a2 a3 a4 _ a6 a7 => k ⟨a0, a1, a2, a3, a4, x, a6, a7⟩) t
def wa6 (t : E1) (x : FV) (k : E1 → FR) : FR := N8.rec (motive := fun _ => FR) (fun a0 a1 a2 a3 a4 a5 _ a7 => k ⟨a0, a1, a2, a3, a4, a5, x, a7⟩) t
def wa7 (t : E1) (x : FV) (k : E1 → FR) : FR := N8.rec (motive := fun _ => FR) (fun a0 a1 a2 a3 a4 a5 a6 _ => k ⟨a0, a1, a2, a3, a4, a5, a6, x⟩) t
def waL : List (E1 → FV → (E1 → FR) → FR) := [wa0, wa1, wa2, wa3, wa4, wa5, wa6, wa7]
def waN (i : Nat) : E1 → FV → (E1 → FR) → FR := waL.getD i fun _ _ _ => .bad
theorem wa_at : ∀ (i : Nat), i < 8 → ∀ (t : E1) (x : FV) (k : E1 → FR), ∃ t', waN i t x k = k t' ∧ t'.L = t.L.set i x
  | 0, _ => fun t x k => by cases t; exact ⟨_, rfl, rfl⟩
  | 1, _ => fun t x k => by cases t; exact ⟨_, rfl, rfl⟩
  | 2, _ => fun t x k => by cases t; exact ⟨_, rfl, rfl⟩
  | 3, _ => fun t x k => by cases t; exact ⟨_, rfl, rfl⟩
  | 4, _ => fun t x k => by cases t; exact ⟨_, rfl, rfl⟩
  | 5, _ => fun t x k => by cases t; exact ⟨_, rfl, rfl⟩
  | 6, _ => fun t x k => by cases t; exact ⟨_, rfl, rfl⟩
  | 7, _ => fun t x k => by cases t; exact ⟨_, rfl, rfl⟩
  | n + 8, h => absurd h (by omega)
def wb0 (t : E2) (x : E1) (k : E2 → FR) : FR := N8.rec (motive := fun _ => FR) (fun _ a1 a2 a3 a4 a5 a6 a7 => k ⟨x, a1, a2, a3, a4, a5, a6, a7⟩) t
def wb1 (t : E2) (x : E1) (k : E2 → FR) : FR := N8.rec (motive := fun _ => FR) (fun a0 _ a2 a3 a4 a5 a6 a7 => k ⟨a0, x, a2, a3, a4, a5, a6, a7⟩) t
def wb2 (t : E2) (x : E1) (k : E2 → FR) : FR := N8.rec (motive := fun _ => FR) (fun a0 a1 _ a3 a4 a5 a6 a7 => k ⟨a0, a1, x, a3, a4, a5, a6, a7⟩) t
def wb3 (t : E2) (x : E1) (k : E2 → FR) : FR := N8.rec (motive := fun _ => FR) (fun a0 a1 a2 _ a4 a5 a6 a7 => k ⟨a0, a1, a2, x, a4, a5, a6, a7⟩) t
def wb4 (t : E2) (x : E1) (k : E2 → FR) : FR := N8.rec (motive := fun _ => FR) (fun a0 a1 a2 a3 _ a5 a6 a7 => k ⟨a0, a1, a2, a3, x, a5, a6, a7⟩) t
def wb5 (t : E2) (x : E1) (k : E2 → FR) : FR := N8.rec (motive := fun _ => FR) (fun a0 a1 a2 a3 a4 _ a6 a7 => k ⟨a0, a1, a2, a3, a4, x, a6, a7⟩) t
def wb6 (t : E2) (x : E1) (k : E2 → FR) : FR := N8.rec (motive := fun _ => FR) (fun a0 a1 a2 a3 a4 a5 _ a7 => k ⟨a0, a1, a2, a3, a4, a5, x, a7⟩) t
def wb7 (t : E2) (x : E1) (k : E2 → FR) : FR := N8.rec (motive := fun _ => FR) (fun a0 a1 a2 a3 a4 a5 a6 _ => k ⟨a0, a1, a2, a3, a4, a5, a6, x⟩) t
def wbL : List (E2 → E1 → (E2 → FR) → FR) := [wb0, wb1, wb2, wb3, wb4, wb5, wb6, wb7]
def wbN (i : Nat) : E2 → E1 → (E2 → FR) → FR := wbL.getD i fun _ _ _ => .bad
theorem wb_at : ∀ (i : Nat), i < 8 → ∀ (t : E2) (x : E1) (k : E2 → FR), ∃ t', wbN i t x k = k t' ∧ t'.L = t.L.set i x
  | 0, _ => fun t x k => by cases t; exact ⟨_, rfl, rfl⟩
  | 1, _ => fun t x k => by cases t; exact ⟨_, rfl, rfl⟩
  | 2, _ => fun t x k => by cases t; exact ⟨_, rfl, rfl⟩
  | 3, _ => fun t x k => by cases t; exact ⟨_, rfl, rfl⟩
  | 4, _ => fun t x k => by cases t; exact ⟨_, rfl, rfl⟩
  | 5, _ => fun t x k => by cases t; exact ⟨_, rfl, rfl⟩
  | 6, _ => fun t x k => by cases t; exact ⟨_, rfl, rfl⟩
  | 7, _ => fun t x k => by cases t; exact ⟨_, rfl, rfl⟩
  | n + 8, h => absurd h (by omega)
def wc0 (t : E) (x : E2) (k : E → FR) : FR := N16.rec (motive := fun _ => FR) (fun _ a1 a2 a3 a4 a5 a6 a7 a8 a9 a10 a11 a12 a13 a14 a15 => k ⟨x, a1, a2, a3, a4, a5, a6, a7, a8, a9, a10, a11, a12, a13, a14, a15⟩) t
def wc1 (t : E) (x : E2) (k : E → FR) : FR := N16.rec (motive := fun _ => FR) (fun a0 _ a2 a3 a4 a5 a6 a7 a8 a9 a10 a11 a12 a13 a14 a15 => k ⟨a0, x, a2, a3, a4, a5, a6, a7, a8, a9, a10, a11, a12, a13, a14, a15⟩) t
def wc2 (t : E) (x : E2) (k : E → FR) : FR := N16.rec (motive := fun _ => FR) (fun a0 a1 _ a3 a4 a5 a6 a7 a8 a9 a10 a11 a12 a13 a14 a15 => k ⟨a0, a1, x, a3, a4, a5, a6, a7, a8, a9, a10, a11, a12, a13, a14, a15⟩) t
def wc3 (t : E) (x : E2) (k : E → FR) : FR := N16.rec (motive := fun _ => FR) (fun a0 a1 a2 _ a4 a5 a6 a7 a8 a9 a10 a11 a12 a13 a14 a15 => k ⟨a0, a1, a2, x, a4, a5, a6, a7, a8, a9, a10, a11, a12, a13, a14, a15⟩) t
def wc4 (t : E) (x : E2) (k : E → FR) : FR := N16.rec (motive := fun _ => FR) (fun a0 a1 a2 a3 _ a5 a6 a7 a8 a9 a10 a11 a12 a13 a14 a15 => k ⟨a0, a1, a2, a3, x, a5, a6, a7, a8, a9, a10, a11, a12, a13, a14, a15⟩) t
def wc5 (t : E) (x : E2) (k : E → FR) : FR := N16.rec (motive := fun _ => FR) (fun a0 a1 a2 a3 a4 _ a6 a7 a8 a9 a10 a11 a12 a13 a14 a15 => k ⟨a0, a1, a2, a3, a4, x, a6, a7, a8, a9, a10, a11, a12, a13, a14, a15⟩) t
def wc6 (t : E) (x : E2) (k : E → FR) : FR := N16.rec (motive := fun _ => FR) (fun a0 a1 a2 a3 a4 a5 _ a7 a8 a9 a10 a11 a12 a13 a14 a15 => k ⟨a0, a1, a2, a3, a4, a5, x, a7, a8, a9, a10, a11, a12, a13, a14, a15⟩) t
def wc7 (t : E) (x : E2) (k : E → FR) : FR := N16.rec (motive := fun _ => FR) (fun a0 a1 a2 a3 a4 a5 a6 _ a8 a9 a10 a11 a12 a13 a14 a15 => k ⟨a0, a1, a2, a3, a4, a5, a6, x, a8, a9, a10, a11, a12, a13, a14, a15⟩) t
def wc8 (t : E) (x : E2) (k : E → FR) : FR := N16.rec (motive := fun _ => FR) (fun a0 a1 a2 a3 a4 a5 a6 a7 _ a9 a10 a11 a12 a13 a14 a15 => k ⟨a0, a1, a2, a3, a4, a5, a6, a7, x, a9, a10, a11, a12, a13, a14, a15⟩) t
def wc9 (t : E) (x : E2) (k : E → FR) : FR := N16.rec (motive := fun _ => FR) (fun a0 a1 a2 a3 a4 a5 a6 a7 a8 _ a10 a11 a12 a13 a14 a15 => k ⟨a0, a1, a2, a3, a4, a5, a6, a7, a8, x, a10, a11, a12, a13, a14, a15⟩) t
def wc10 (t : E) (x : E2) (k : E → FR) : FR := N16.rec (motive := fun _ => FR) (fun a0 a1 a2 a3 a4 a5 a6 a7 a8 a9 _ a11 a12 a13 a14 a15 => k ⟨a0, a1, a2, a3, a4, a5, a6, a7, a8, a9, x, a11, a12, a13, a14, a15⟩) t
def wc11 (t : E) (x : E2) (k : E → FR) : FR := N16.rec (motive := fun _ => FR) (fun a0 a1 a2 a3 a4 a5 a6 a7 a8 a9 a10 _ a12 a13 a14 a15 => k ⟨a0, a1, a2, a3, a4, a5, a6, a7, a8, a9, a10, x, a12, a13, a14, a15⟩) t
def wc12 (t : E) (x : E2) (k : E → FR) : FR := N16.rec (motive := fun _ => FR) (fun a0 a1 a2 a3 a4 a5 a6 a7 a8 a9 a10 a11 _ a13 a14 a15 => k ⟨a0, a1, a2, a3, a4, a5, a6, a7, a8, a9, a10, a11, x, a13, a14, a15⟩) t
def wc13 (t : E) (x : E2) (k : E → FR) : FR := N16.rec (motive := fun _ => FR) (fun a0 a1 a2 a3 a4 a5 a6 a7 a8 a9 a10 a11 a12 _ a14 a15 => k ⟨a0, a1, a2, a3, a4, a5, a6, a7, a8, a9, a10, a11, a12, x, a14, a15⟩) t
def wc14 (t : E) (x : E2) (k : E → FR) : FR := N16.rec (motive := fun _ => FR) (fun a0 a1 a2 a3 a4 a5 a6 a7 a8 a9 a10 a11 a12 a13 _ a15 => k ⟨a0, a1, a2, a3, a4, a5, a6, a7, a8, a9, a10, a11, a12, a13, x, a15⟩) t
def wc15 (t : E) (x : E2) (k : E → FR) : FR := N16.rec (motive := fun _ => FR) (fun a0 a1 a2 a3 a4 a5 a6 a7 a8 a9 a10 a11 a12 a13 a14 _ => k ⟨a0, a1, a2, a3, a4, a5, a6, a7, a8, a9, a10, a11, a12, a13, a14, x⟩) t
def wcL : List (E → E2 → (E → FR) → FR) := [wc0, wc1, wc2, wc3, wc4, wc5, wc6, wc7, wc8, wc9, wc10, wc11, wc12, wc13, wc14, wc15]
def wcN (i : Nat) : E → E2 → (E → FR) → FR := wcL.getD i fun _ _ _ => .bad
theorem wc_at : ∀ (i : Nat), i < 16 → ∀ (t : E) (x : E2) (k : E → FR), ∃ t', wcN i t x k = k t' ∧ t'.L = t.L.set i x
  | 0, _ => fun t x k => by cases t; exact ⟨_, rfl, rfl⟩
  | 1, _ => fun t x k => by cases t; exact ⟨_, rfl, rfl⟩
  | 2, _ => fun t x k => by cases t; exact ⟨_, rfl, rfl⟩
  | 3, _ => fun t x k => by cases t; exact ⟨_, rfl, rfl⟩
  | 4, _ => fun t x k => by cases t; exact ⟨_, rfl, rfl⟩
  | 5, _ => fun t x k => by cases t; exact ⟨_, rfl, rfl⟩
  | 6, _ => fun t x k => by cases t; exact ⟨_, rfl, rfl⟩
  | 7, _ => fun t x k => by cases t; exact ⟨_, rfl, rfl⟩
  | 8, _ => fun t x k => by cases t; exact ⟨_, rfl, rfl⟩
  | 9, _ => fun t x k => by cases t; exact ⟨_, rfl, rfl⟩
  | 10, _ => fun t x k => by cases t; exact ⟨_, rfl, rfl⟩
  | 11, _ => fun t x k => by cases t; exact ⟨_, rfl, rfl⟩
  | 12, _ => fun t x k => by cases t; exact ⟨_, rfl, rfl⟩
  | 13, _ => fun t x k => by cases t; exact ⟨_, rfl, rfl⟩
  | 14, _ => fun t x k => by cases t; exact ⟨_, rfl, rfl⟩
  | 15, _ => fun t x k => by cases t; exact ⟨_, rfl, rfl⟩
  | n + 16, h => absurd h (by omega)
theorem N8.L_length {α : Type} (t : N8 α) : t.L.length = 8 := by cases t; rfl
theorem N16.L_length {α : Type} (t : N16 α) : t.L.length = 16 := by cases t; rfl
def E.at (e : E) (n : Nat) : FV := ((((N16.L e).getD (n / 64) d2).L).getD (n / 8 % 8) d1).L.getD (n % 8) (.o .top)
abbrev Rd := E → (FV → FR) → FR
abbrev Wr := E → FV → (E → FR) → FR
def rdE (n : Nat) : Rd := fun e k => pcN (n / 64) e fun a => pbN (n / 8 % 8) a fun b => paN (n % 8) b k
def wrE (n : Nat) : Wr := fun e x k => pcN (n / 64) e fun a => pbN (n / 8 % 8) a fun b => waN (n % 8) b x fun b => wbN (n / 8 % 8) a b fun a => wcN (n / 64) e a k
theorem rdE_eq {n : Nat} (h : n < 1024) (e : E) (k : FV → FR) : rdE n e k = k (e.at n) := by
  unfold rdE
  rw [pc_at _ (by omega), pb_at _ (Nat.mod_lt _ (by omega)), pa_at _ (Nat.mod_lt _ (by omega))]; rfl
theorem getD_set {α : Type} {l : List α} {i j : Nat} {x d : α} (hi : i < l.length) : (l.set i x).getD j d = if j = i then x else l.getD j d := by
  by_cases h : j = i
  · subst h; rw [if_pos rfl, List.getD_eq_getElem?_getD, List.getElem?_set_self hi]; rfl
  · rw [if_neg h, List.getD_eq_getElem?_getD, List.getElem?_set_ne (Ne.symm h), ← List.getD_eq_getElem?_getD]
theorem wrE_eq {n : Nat} (h : n < 1024) (e : E) (x : FV) (k : E → FR) : ∃ e', wrE n e x k = k e' ∧ ∀ m, m < 1024 → e'.at m = if m = n then x else e.at m := by
  unfold wrE
  rw [pc_at _ (by omega), pb_at _ (Nat.mod_lt _ (by omega))]
  obtain ⟨b', h1, h2⟩ := wa_at (n % 8) (Nat.mod_lt _ (by omega)) (((N16.L e).getD (n / 64) d2).L.getD (n / 8 % 8) d1) x fun b => wbN (n / 8 % 8) ((N16.L e).getD (n / 64) d2) b fun a => wcN (n / 64) e a k
  rw [h1]
  obtain ⟨a', h3, h4⟩ := wb_at (n / 8 % 8) (Nat.mod_lt _ (by omega)) ((N16.L e).getD (n / 64) d2) b' fun a => wcN (n / 64) e a k
  rw [h3]
  obtain ⟨e', h5, h6⟩ := wc_at (n / 64) (by omega) e a' k
  refine ⟨e', h5, fun m hm => ?_⟩
  unfold E.at
  rw [h6, getD_set (by rw [N16.L_length]; omega)]
  by_cases hc : m / 64 = n / 64
  · rw [if_pos hc, h4, getD_set (by rw [N8.L_length]; omega)]
    by_cases hb : m / 8 % 8 = n / 8 % 8
    · rw [if_pos hb, h2, getD_set (by rw [N8.L_length]; omega)]
      by_cases ha : m % 8 = n % 8
      · rw [if_pos ha, if_pos (by omega)]
      · rw [if_neg ha, if_neg (by omega), hb, hc]
    · rw [if_neg hb, if_neg (by omega), hc]
  · rw [if_neg hc, if_neg (by omega)]
def e0 : E := ⟨d2, d2, d2, d2, d2, d2, d2, d2, d2, d2, d2, d2, d2, d2, d2, d2⟩
theorem rep_getD {α : Type} (n i : Nat) (d : α) : (List.replicate n d).getD i d = d := by
  rw [List.getD_eq_getElem?_getD, List.getElem?_replicate]; split <;> rfl
theorem e0_at (n : Nat) : e0.at n = .o .top := by
  unfold E.at
  rw [show N16.L e0 = List.replicate 16 d2 from rfl, rep_getD, show N8.L d2 = List.replicate 8 d1 from rfl, rep_getD, show N8.L d1 = List.replicate 8 (.o .top) from rfl, rep_getD]
/-! Values, numbers, lists forced to their ends. -/
def fK (k : IntKind) (c : IntKind → FR) : FR := IntKind.rec (motive := fun _ => FR) (c .i8) (c .i16) (c .i32) (c .i64) (c .u8) (c .u16) (c .u32) (c .u64) k
theorem fK_eq (k : IntKind) (c : IntKind → FR) : fK k c = c k := by cases k <;> rfl
def fB (b : Bool) (c : Bool → FR) : FR := Bool.rec (c false) (c true) b
theorem fB_eq (b : Bool) (c : Bool → FR) : fB b c = c b := by cases b <;> rfl
def fI (i : Int) (c : Int → FR) : FR := Int.rec (fun m => fN m fun m => c (.ofNat m)) (fun m => fN m fun m => c (.negSucc m)) i
theorem fI_eq (i : Int) (c : Int → FR) : fI i c = c i := by
  cases i with
  | ofNat m => show fN m (fun m => c (.ofNat m)) = _; rw [Aj]
  | negSucc m => show fN m (fun m => c (.negSucc m)) = _; rw [Aj]
def fIs (l : List Int) : (List Int → FR) → FR := List.rec (motive := fun _ => (List Int → FR) → FR) (fun c => c []) (fun i _ ih c => fI i fun i => ih fun l => c (i :: l)) l
theorem fIs_eq : ∀ (l : List Int) (c : List Int → FR), fIs l c = c l
  | [], _ => rfl
  | i :: l, c => by
    show fI i (fun i => fIs l fun l => c (i :: l)) = _
    rw [fI_eq, fIs_eq l]
def fFn (f : Fn) (c : Fn → FR) : FR := Fn.rec (motive := fun _ => FR) (fun f => fN f fun f => c (.func f)) (fun s => c (.method s)) (fun t s => c (.methodOf t s)) (fun t p f q => c (.via t p f q)) (fun l => c (.yield l)) f
def fNl (j : Nl) (c : Nl → FR) : FR := Nl.rec (motive := fun _ => FR) (c .top) (c .ptr) (c .sl) (c .map) (c .fn) (c .ifc) j
theorem fNl_eq (j : Nl) (c : Nl → FR) : fNl j c = c j := by cases j <;> rfl
def fV (v : FV) : (FV → FR) → FR := FV.rec (motive_1 := fun _ => (FV → FR) → FR) (motive_2 := fun _ => (List FV → FR) → FR)
  (fun k m c => fK k fun k => fN m fun m => c (.n k m)) (fun k m c => fK k fun k => fN m fun m => c (.z k m)) (fun t c => fB t fun t => c (.b t)) (fun s c => fN s fun s => c (.s s))
  (fun b o c => fN b fun b => fN o fun o => c (.p b o)) (fun b o n k e z c => fN b fun b => fN o fun o => fN n fun n => fN k fun k => fB e fun e => fN z fun z => c (.sl b o n k e z)) (fun b c => fN b fun b => c (.m b)) (fun b c => fN b fun b => c (.y b))
  (fun f _ _ ix iy c => fFn f fun f => ix fun x => iy fun y => c (.fn f x y)) (fun t _ iv c => fN t fun t => iv fun v => c (.ifc t v)) (fun _ il c => il fun l => c (.agg l)) (fun s c => fN s fun s => c (.bs s))
  (fun k l c => fK k fun k => fIs l fun l => c (.ints k l)) (fun _ il c => il fun l => c (.tup l)) (fun j c => fNl j fun j => c (.o j))
  (fun c => c []) (fun _ _ iv il c => iv fun v => il fun l => c (v :: l)) v
def fVs (l : List FV) : (List FV → FR) → FR := FV.rec_1 (motive_1 := fun _ => (FV → FR) → FR) (motive_2 := fun _ => (List FV → FR) → FR)
  (fun k m c => fK k fun k => fN m fun m => c (.n k m)) (fun k m c => fK k fun k => fN m fun m => c (.z k m)) (fun t c => fB t fun t => c (.b t)) (fun s c => fN s fun s => c (.s s))
  (fun b o c => fN b fun b => fN o fun o => c (.p b o)) (fun b o n k e z c => fN b fun b => fN o fun o => fN n fun n => fN k fun k => fB e fun e => fN z fun z => c (.sl b o n k e z)) (fun b c => fN b fun b => c (.m b)) (fun b c => fN b fun b => c (.y b))
  (fun f _ _ ix iy c => fFn f fun f => ix fun x => iy fun y => c (.fn f x y)) (fun t _ iv c => fN t fun t => iv fun v => c (.ifc t v)) (fun _ il c => il fun l => c (.agg l)) (fun s c => fN s fun s => c (.bs s))
  (fun k l c => fK k fun k => fIs l fun l => c (.ints k l)) (fun _ il c => il fun l => c (.tup l)) (fun j c => fNl j fun j => c (.o j))
  (fun c => c []) (fun _ _ iv il c => iv fun v => il fun l => c (v :: l)) l
theorem fFn_eq (f : Fn) (c : Fn → FR) : fFn f c = c f := by
  cases f with
  | func f => show fN f (fun f => c (.func f)) = _; rw [Aj]
  | _ => rfl
mutual
theorem Ge : ∀ (v : FV) (c : FV → FR), fV v c = c v
  | .n k m, c => by show (fK k fun k => fN m fun m => c (.n k m)) = _; rw [fK_eq, Aj]
  | .z k m, c => by show (fK k fun k => fN m fun m => c (.z k m)) = _; rw [fK_eq, Aj]
  | .b t, c => by show (fB t fun t => c (.b t)) = _; rw [fB_eq]
  | .s s, c => by show (fN s fun s => c (.s s)) = _; rw [Aj]
  | .p b o, c => by show (fN b fun b => fN o fun o => c (.p b o)) = _; rw [Aj, Aj]
  | .sl b o n k e z, c => by show (fN b fun b => fN o fun o => fN n fun n => fN k fun k => fB e fun e => fN z fun z => c (.sl b o n k e z)) = _; rw [Aj, Aj, Aj, Aj, fB_eq, Aj]
  | .m b, c => by show (fN b fun b => c (.m b)) = _; rw [Aj]
  | .y b, c => by show (fN b fun b => c (.y b)) = _; rw [Aj]
  | .fn f x y, c => by show (fFn f fun f => fVs x fun x => fVs y fun y => c (.fn f x y)) = _; rw [fFn_eq, Lx x, Lx y]
  | .ifc t v, c => by show (fN t fun t => fV v fun v => c (.ifc t v)) = _; rw [Aj, Ge v]
  | .agg l, c => by show (fVs l fun l => c (.agg l)) = _; rw [Lx l]
  | .bs s, c => by show (fN s fun s => c (.bs s)) = _; rw [Aj]
  | .ints k l, c => by show (fK k fun k => fIs l fun l => c (.ints k l)) = _; rw [fK_eq, fIs_eq]
  | .tup l, c => by show (fVs l fun l => c (.tup l)) = _; rw [Lx l]
  | .o j, c => by show (fNl j fun j => c (.o j)) = _; rw [fNl_eq]
theorem Lx : ∀ (l : List FV) (c : List FV → FR), fVs l c = c l
  | [], _ => rfl
  | v :: l, c => by show (fV v fun v => fVs l fun l => c (v :: l)) = _; rw [Ge v, Lx l]
end
def fPs (l : List (FV × FV)) : (List (FV × FV) → FR) → FR := List.rec (motive := fun _ => (List (FV × FV) → FR) → FR) (fun c => c []) (fun p _ ih c => Prod.rec (fun x y => fV x fun x => fV y fun y => ih fun l => c ((x, y) :: l)) p) l
theorem fPs_eq : ∀ (l : List (FV × FV)) (c : List (FV × FV) → FR), fPs l c = c l
  | [], _ => rfl
  | p :: l, c => by
    show (fV p.1 fun x => fV p.2 fun y => fPs l fun l => c ((x, y) :: l)) = _
    rw [Ge, Ge, fPs_eq l]
def fTl (t : Tl) (c : Tl → FR) : FR := Tl.rec (motive := fun _ => FR) (c .exact) (c .more) (c .ro) t
theorem fTl_eq (t : Tl) (c : Tl → FR) : fTl t c = c t := by cases t <;> rfl
def fO (o : FObj) (c : FObj → FR) : FR := FObj.rec (motive := fun _ => FR) (c .dead) (fun l e t => fVs l fun l => fN e fun e => fTl t fun t => c (.cells l e t)) (fun s e t => fN s fun s => fN e fun e => fTl t fun t => c (.bs s e t)) (fun k l e t => fK k fun k => fIs l fun l => fN e fun e => fTl t fun t => c (.ints k l e t)) (fun l => fPs l fun l => c (.map l)) (c .hid) o
theorem Gf (o : FObj) (c : FObj → FR) : fO o c = c o := by
  cases o with
  | dead => rfl
  | cells l e t => show (fVs l fun l => fN e fun e => fTl t fun t => c (.cells l e t)) = _; rw [Lx, Aj, fTl_eq]
  | bs s e t => show (fN s fun s => fN e fun e => fTl t fun t => c (.bs s e t)) = _; rw [Aj, Aj, fTl_eq]
  | ints k l e t => show (fK k fun k => fIs l fun l => fN e fun e => fTl t fun t => c (.ints k l e t)) = _; rw [fK_eq, fIs_eq, Aj, fTl_eq]
  | map l => show (fPs l fun l => c (.map l)) = _; rw [fPs_eq]
  | hid => rfl
def βH (σ : AH) : FH := ⟨σ.next, σ.mem.map βO⟩
theorem T.map_map_id {α β : Type} {f : α → β} {g : β → α} (h : ∀ x, g (f x) = x) : ∀ t : T α, (t.map f).map g = t
  | .leaf => rfl
  | .node v l r => by
    rw [T.map, T.map, T.map_map_id h l, T.map_map_id h r]
    cases v with
    | none => rfl
    | some x => simp [h]
theorem αβH (σ : AH) : αH (βH σ) = σ := by
  obtain ⟨n, m⟩ := σ
  show (⟨n, (m.map βO).map αO⟩ : AH) = _
  rw [T.map_map_id αβO]
def slV (r : Bool × AV) (c : FV → FR) : FR := Prod.rec (fun ok v => Bool.rec .bad (fV (βV v) c) ok) r
theorem Dr (r : Bool × AV) (c : FV → FR) : Sv (slV r c) c r := by
  obtain ⟨ok, v⟩ := r
  cases ok
  · exact .bad
  · show Sv (fV (βV v) c) c _
    rw [Ge]; exact .of (c := c) (βV v) (by rw [αβ])
end
end Go.Proofs.YtjoakhpdajlhiaaGreatDoor.V2
namespace Go.Proofs.YtjoakhpdajlhiaaGreatDoor.V2
open Go
noncomputable section
def tg {α : Type} (t : T α) (n : Nat) (b : FR) (k : α → FR) : FR :=
  T.rec (motive := fun _ => Nat → FR) (fun _ => b) (fun v _ _ gl gr n => Nat.rec (Option.rec b k v) (fun p _ => Nat.rec (motive := fun _ => Nat → FR) gl (fun _ _ => gr) (Nat.land p 1) (Nat.shiftRight p 1)) n) t n
theorem sh1 (p : Nat) : Nat.shiftRight p 1 = p / 2 := by show p >>> 1 = _; rw [Nat.shiftRight_eq_div_pow]
theorem la1 (p : Nat) : Nat.land p 1 = p % 2 := by show p &&& 1 = _; exact Nat.and_one_is_mod p
theorem tg_eq {α : Type} : ∀ (t : T α) (n : Nat) (b : FR) (k : α → FR), tg t n b k = match t.get n with | some x => k x | none => b
  | .leaf, n, b, k => by rw [T.get_leaf]; rfl
  | .node v l r, 0, b, k => by
    rw [T.get_eq]
    show (Option.rec b k v : FR) = match v with | some x => k x | none => b
    cases v <;> rfl
  | .node v l r, p + 1, b, k => by
    rw [T.get_eq]
    show (Nat.rec (motive := fun _ => Nat → FR) (fun n => tg l n b k) (fun _ _ n => tg r n b k) (Nat.land p 1) (Nat.shiftRight p 1) : FR) = _
    rw [sh1, la1, T.beq_f (Nat.succ_ne_zero p), cond_false]
    rcases Nat.mod_two_eq_zero_or_one p with h | h
    · rw [h, T.beq_t (show (p + 1) % 2 = 1 by omega), cond_true, show (p + 1) / 2 = p / 2 by omega]
      exact tg_eq l (p / 2) b k
    · rw [h, T.beq_f (show (p + 1) % 2 ≠ 1 by omega), cond_false, show (p + 1) / 2 - 1 = p / 2 by omega]
      exact tg_eq r (p / 2) b k
def ts {α : Type} (f : Nat) : T α → Nat → α → (T α → FR) → FR :=
  Nat.rec (motive := fun _ => T α → Nat → α → (T α → FR) → FR) (fun t _ x k => T.rec (k (.node (some x) .leaf .leaf)) (fun _ l r _ _ => k (.node (some x) l r)) t)
    (fun _ ih t n x k => T.rec
      (Nat.rec (k (.node (some x) .leaf .leaf)) (fun p _ => Nat.rec (ih .leaf (Nat.shiftRight p 1) x fun l => k (.node none l .leaf)) (fun _ _ => ih .leaf (Nat.shiftRight p 1) x fun r => k (.node none .leaf r)) (Nat.land p 1)) n)
      (fun v l r _ _ => Nat.rec (k (.node (some x) l r)) (fun p _ => Nat.rec (ih l (Nat.shiftRight p 1) x fun l => k (.node v l r)) (fun _ _ => ih r (Nat.shiftRight p 1) x fun r => k (.node v l r)) (Nat.land p 1)) n) t) f
theorem ts_eq {α : Type} : ∀ (f : Nat) (t : T α) (n : Nat) (x : α) (k : T α → FR), ts f t n x k = k (T.set f t n x)
  | 0, t, n, x, k => by cases t <;> rfl
  | f + 1, t, n, x, k => by
    rw [T.set_succ]
    have key : ∀ (v : Option α) (l r : T α), (Nat.rec (k (.node (some x) l r)) (fun p _ => Nat.rec (ts f l (Nat.shiftRight p 1) x fun l => k (.node v l r)) (fun _ _ => ts f r (Nat.shiftRight p 1) x fun r => k (.node v l r)) (Nat.land p 1)) n : FR) = k (bif Nat.beq n 0 then .node (some x) l r else bif Nat.beq (n % 2) 1 then .node v (T.set f l (n / 2) x) r else .node v l (T.set f r (n / 2 - 1) x)) := fun v l r => by
      cases n with
      | zero => rfl
      | succ p =>
        show (Nat.rec (ts f l (Nat.shiftRight p 1) x fun l => k (.node v l r)) (fun _ _ => ts f r (Nat.shiftRight p 1) x fun r => k (.node v l r)) (Nat.land p 1) : FR) = _
        rw [sh1, la1, T.beq_f (Nat.succ_ne_zero p), cond_false]
        rcases Nat.mod_two_eq_zero_or_one p with h | h
        · rw [h, T.beq_t (show (p + 1) % 2 = 1 by omega), cond_true, show (p + 1) / 2 = p / 2 by omega]
          exact ts_eq f l (p / 2) x _
        · rw [h, T.beq_f (show (p + 1) % 2 ≠ 1 by omega), cond_false, show (p + 1) / 2 - 1 = p / 2 by omega]
          exact ts_eq f r (p / 2) x _
    cases t with
    | leaf => exact key none .leaf .leaf
    | node v l r => exact key v l r
/-! Blocks. -/
def gM (σ : FH) (b : Nat) (f : FObj → FR) : FR := FH.rec (motive := fun _ => FR) (fun _ m => tg m b .bad f) σ
def pM (σ : FH) (b : Nat) (o : FObj) (k : FH → FR) : FR := FH.rec (motive := fun _ => FR) (fun n m => ts 20 m b o fun m => k ⟨n, m⟩) σ
def nM (σ : FH) (o : FObj) (k : Nat → FH → FR) : FR := FH.rec (motive := fun _ => FR) (fun n m => Bool.rec .bad (fN (Nat.succ n) fun n' => ts 20 m n o fun m => k n ⟨n', m⟩) (Nat.ble (Nat.succ n) 1000000)) σ
theorem gM_eq (σ : FH) (b : Nat) (f : FObj → FR) : gM σ b f = match σ.mem.get b with | some o => f o | none => .bad := by
  obtain ⟨n, m⟩ := σ
  show tg m b .bad f = match m.get b with | some o => f o | none => .bad
  rw [tg_eq]
  cases m.get b <;> rfl
theorem Bz {σ : FH} {b : Nat} {f : FObj → FR} (h : gM σ b f ≠ .bad) : ∃ o, σ.mem.get b = some o ∧ (αH σ).get b = some (αO o) ∧ gM σ b f = f o := by
  rw [gM_eq] at h ⊢
  rw [αH_get]
  cases ho : σ.mem.get b with
  | none => rw [ho] at h; exact absurd rfl h
  | some o => exact ⟨o, rfl, rfl, rfl⟩
theorem pM_eq (σ : FH) (b : Nat) (o : FObj) (k : FH → FR) : pM σ b o k = k ⟨σ.next, σ.mem.put b o⟩ := by
  obtain ⟨n, m⟩ := σ
  show ts 20 m b o (fun m => k ⟨n, m⟩) = _
  rw [ts_eq]; rfl
theorem pM_α (σ : FH) (b : Nat) (o : FObj) : αH ⟨σ.next, σ.mem.put b o⟩ = (αH σ).put b (αO o) := (αH_put σ b o).symm
theorem Dp {σ : FH} {o : FObj} {k : Nat → FH → FR} (h : nM σ o k ≠ .bad) : Nat.blt (αH σ).next 1000000 = true ∧ ∃ σ', αH σ' = (αH σ).new (αO o) ∧ nM σ o k = k σ.next σ' := by
  obtain ⟨n, m⟩ := σ
  unfold nM at h ⊢
  have h : (Bool.rec .bad (fN (Nat.succ n) fun n' => ts 20 m n o fun m => k n ⟨n', m⟩) (Nat.ble (Nat.succ n) 1000000) : FR) ≠ .bad := h
  show Nat.ble (Nat.succ n) 1000000 = true ∧ ∃ σ', αH σ' = (αH ⟨n, m⟩).new (αO o) ∧ (Bool.rec .bad (fN (Nat.succ n) fun n' => ts 20 m n o fun m => k n ⟨n', m⟩) (Nat.ble (Nat.succ n) 1000000) : FR) = k n σ'
  cases hb : Nat.ble (Nat.succ n) 1000000
  · rw [hb] at h; exact absurd rfl h
  · refine ⟨rfl, ⟨n + 1, m.put n o⟩, (αH_new ⟨n, m⟩ o).symm, ?_⟩
    show (fN (Nat.succ n) fun n' => ts 20 m n o fun m => k n ⟨n', m⟩) = _
    rw [Aj, ts_eq]; rfl
/-! Lists. -/
section
variable {α : Type}
def Hk (l : List α) (i : Nat) (a : α) (k : List α → FR) : FR := List.rec (motive := fun _ => Nat → (List α → FR) → FR) (fun _ _ => .bad) (fun x l ih i k => Nat.rec (k (a :: l)) (fun j _ => ih j fun l => k (x :: l)) i) l i k
theorem Gl : ∀ (l : List α) (i : Nat) (a : α) (k : List α → FR), Hk l i a k = if i < l.length then k (l.set i a) else .bad
  | [], i, a, k => by rw [if_neg (by simp)]; rfl
  | x :: l, 0, a, k => rfl
  | x :: l, i + 1, a, k => by
    show Hk l i a (fun l => k (x :: l)) = _
    rw [Gl l i a]
    by_cases h : i < l.length
    · rw [if_pos h, if_pos (by simpa using h)]; rfl
    · rw [if_neg h, if_neg (by simpa using h)]
def Fh (l : List α) (i : Nat) (k : α → FR) : FR := List.rec (motive := fun _ => Nat → FR) (fun _ => .bad) (fun a _ ih i => Nat.rec (k a) (fun j _ => ih j) i) l i
theorem M0 : ∀ (l : List α) (i : Nat) (k : α → FR), Fh l i k = match l[i]? with | some a => k a | none => .bad
  | [], i, k => by simp [Fh]
  | a :: l, 0, k => rfl
  | a :: l, i + 1, k => by rw [List.getElem?_cons_succ, ← M0 l i k]; rfl
theorem D9 {l : List α} {i : Nat} {k : α → FR} (h : Fh l i k ≠ .bad) : ∃ a, l[i]? = some a ∧ Fh l i k = k a := by
  rw [M0] at h ⊢
  cases ha : l[i]? with
  | none => rw [ha] at h; exact absurd rfl h
  | some a => exact ⟨a, rfl, rfl⟩
def Ce (n : Nat) : List α → (List α → FR) → FR := Nat.rec (motive := fun _ => List α → (List α → FR) → FR) (fun l k => k l) (fun _ ih l k => List.rec (k []) (fun _ l _ => ih l k) l) n
theorem Cr : ∀ (n : Nat) (l : List α) (k : List α → FR), Ce n l k = k (l.drop n)
  | 0, l, k => rfl
  | n + 1, [], k => rfl
  | n + 1, x :: l, k => by show Ce n l k = _; rw [Cr n l]; rfl
def Bw (n : Nat) : List α → (List α → FR) → FR := Nat.rec (motive := fun _ => List α → (List α → FR) → FR) (fun _ k => k []) (fun _ ih l k => List.rec (k []) (fun x l _ => ih l fun l => k (x :: l)) l) n
theorem Ca : ∀ (n : Nat) (l : List α) (k : List α → FR), Bw n l k = k (l.take n)
  | 0, l, k => by rw [List.take_zero]; rfl
  | n + 1, [], k => rfl
  | n + 1, x :: l, k => by show Bw n l (fun l => k (x :: l)) = _; rw [Ca n l]; rfl
def Dn (l m : List α) (k : List α → FR) : FR := List.rec (motive := fun _ => (List α → FR) → FR) (fun k => k m) (fun x _ ih k => ih fun l => k (x :: l)) l k
theorem Dk : ∀ (l m : List α) (k : List α → FR), Dn l m k = k (l ++ m)
  | [], m, k => rfl
  | x :: l, m, k => by show Dn l m (fun l => k (x :: l)) = _; rw [Dk l m]; rfl
def Bj (l : List α) (n : Nat) (k : Nat → FR) : FR := List.rec (motive := fun _ => Nat → FR) k (fun _ _ ih n => fN (Nat.succ n) ih) l n
theorem Bv : ∀ (l : List α) (n : Nat) (k : Nat → FR), Bj l n k = k (n + l.length)
  | [], n, k => rfl
  | x :: l, n, k => by
    show fN (Nat.succ n) (fun n => Bj l n k) = _
    rw [Aj, Bv l, List.length_cons]; congr 1; omega
end
/-! What is known of a value: one cell; cells; else. -/
def kC (f1 : FR) (fa : List FV → FR) (fs : FR) (v : FV) : FR := FV.rec (motive_1 := fun _ => FR) (motive_2 := fun _ => FR) (fun _ _ => f1) (fun _ _ => f1) (fun _ => f1) (fun _ => f1) (fun _ _ => f1) (fun _ _ _ _ _ _ => f1) (fun _ => f1) (fun _ => f1) (fun _ _ _ _ _ => f1) (fun _ _ _ => f1) (fun l _ => fa l) (fun _ => fs) (fun _ _ => fs) (fun _ _ => fs) (fun j => Nl.rec (motive := fun _ => FR) fs f1 f1 f1 f1 f1 j) .bad (fun _ _ _ _ => .bad) v
def FV.sgl : FV → Bool
  | .agg _ => false
  | .bs _ => false
  | .ints _ _ => false
  | .tup _ => false
  | .o .top => false
  | _ => true
theorem kC_cases (f1 : FR) (fa : List FV → FR) (fs : FR) (v : FV) : (v.sgl = true ∧ kC f1 fa fs v = f1) ∨ (∃ l, v = .agg l ∧ kC f1 fa fs v = fa l) ∨ kC f1 fa fs v = fs := by
  cases v with
  | agg l => exact .inr (.inl ⟨l, rfl, rfl⟩)
  | bs _ => exact .inr (.inr rfl)
  | ints _ _ => exact .inr (.inr rfl)
  | tup _ => exact .inr (.inr rfl)
  | o j => cases j <;> first | exact .inr (.inr rfl) | exact .inl ⟨rfl, rfl⟩
  | _ => exact .inl ⟨rfl, rfl⟩
theorem Jv {v : FV} (h : v.sgl = true) : (αV v).known = true ∧ (αV v).one = true ∧ (αV v).cells = [αV v] ∧ (αV v).size std = 1 := by
  cases v with
  | o j => cases j <;> first | (exact ⟨rfl, rfl, rfl, rfl⟩) | (cases h)
  | _ => first | (exact ⟨rfl, rfl, rfl, rfl⟩) | (cases h)
def gW (t : Tl) (r : FR) : FR := Tl.rec (motive := fun _ => FR) r r .bad t
theorem Gb {t : Tl} {r : FR} (h : gW t r ≠ .bad) : (!t.isRo) = true ∧ gW t r = r := by
  cases t <;> first | exact ⟨rfl, rfl⟩ | exact absurd rfl h
def Ep (l : List FV) (r : FR) : FR := List.rec r (fun v _ ih => kC ih (fun _ => .bad) .bad v) l
theorem Jg : ∀ {l : List FV} {r : FR}, Ep l r ≠ .bad → (αL l).all AV.one = true ∧ Ep l r = r
  | [], r, _ => ⟨rfl, rfl⟩
  | v :: l, r, h => by
    have h : kC (Ep l r) (fun _ => .bad) .bad v ≠ .bad := h
    show ((αV v :: αL l).all AV.one = true) ∧ kC (Ep l r) (fun _ => .bad) .bad v = r
    rcases kC_cases (Ep l r) (fun _ => .bad) .bad v with ⟨h1, h2⟩ | ⟨_, _, h2⟩ | h2
    · rw [h2] at h ⊢
      obtain ⟨h3, h4⟩ := Jg h
      exact ⟨by rw [List.all_cons, (Jv h1).2.1, h3]; rfl, h4⟩
    · rw [h2] at h; exact absurd rfl h
    · rw [h2] at h; exact absurd rfl h
theorem αL_length : ∀ l : List FV, (αL l).length = l.length
  | [] => rfl
  | _ :: l => by rw [αL, List.length_cons, List.length_cons, αL_length l]
theorem αL_get (l : List FV) (i : Nat) : (αL l)[i]? = (l[i]?).map αV := by rw [αL_map, List.getElem?_map]
theorem αL_set (l : List FV) (i : Nat) (a : FV) : αL (l.set i a) = (αL l).set i (αV a) := by rw [αL_map, αL_map, List.map_set]
theorem αL_drop (l : List FV) (i : Nat) : αL (l.drop i) = (αL l).drop i := by rw [αL_map, αL_map, List.map_drop]
theorem αL_take (l : List FV) (i : Nat) : αL (l.take i) = (αL l).take i := by rw [αL_map, αL_map, List.map_take]
theorem αL_append (l m : List FV) : αL (l ++ m) = αL l ++ αL m := by rw [αL_map, αL_map, αL_map, List.map_append]
theorem Ba (c : Nat) : (B4 c).length = bl c := by unfold B4; rw [List.length_map, B8]
theorem unpI_at {c i : Nat} (h : i < bl c) : (B4 c)[i]? = some (Int.ofNat (bat c i)) := by
  unfold B4
  rw [List.getElem?_map, unp_at h, Option.map_some]
  have := bat_lt c i
  simp [UInt8.toNat_ofNat']; omega
/-! Loads. -/
def ldF (x : FV) (σ : FH) (c : FV → FR) : FR := kP (fun b off => gM σ b fun ob => FObj.rec (motive := fun _ => FR) .bad (fun l _ _ => Fh l off c) (fun s _ _ => Bool.rec .bad (fN (bat s off) fun m => c (.n .u8 m)) (Nat.ble (Nat.succ off) (bl s))) (fun k l _ _ => Fh l off fun i => vI k i c) (fun _ => .bad) .bad ob) x
theorem Ek {f : Nat → Nat → FR} {v : FV} (h : kP f v ≠ .bad) : ∃ b o, v = .p b o ∧ kP f v = f b o := by
  cases v <;> first | exact ⟨_, _, rfl, rfl⟩ | exact absurd rfl h
theorem ldF_sv (x : FV) (σ : FH) (c : FV → FR) : Sv (ldF x σ c) c ((De std (αV x) (αH σ)).1, (De std (αV x) (αH σ)).2.1) := by
  intro h
  obtain ⟨b, off, rfl, h1⟩ := Ek h
  unfold ldF at h ⊢
  rw [h1] at h ⊢
  obtain ⟨o, _, h3, h4⟩ := Bz h
  rw [h4] at h ⊢
  simp only [αV, De, h3]
  cases o with
  | cells l e t =>
    obtain ⟨a, ha, h5⟩ := D9 (l := l) (i := off) (k := c) h
    refine ⟨a, ?_, h5⟩
    have hlt := (List.getElem?_eq_some_iff.1 ha).1
    simp only [αO, AObj.atOk, AObj.atD, Prod.mk.injEq]
    rw [αL_length]
    exact ⟨by rw [Nat.blt_eq]; exact hlt, by rw [List.getD_eq_getElem?_getD, αL_get, ha]; rfl⟩
  | bs s e t =>
    have h : (Bool.rec .bad (fN (bat s off) fun m => c (.n .u8 m)) (Nat.ble (Nat.succ off) (bl s)) : FR) ≠ .bad := h
    show ∃ v, _ ∧ (Bool.rec .bad (fN (bat s off) fun m => c (.n .u8 m)) (Nat.ble (Nat.succ off) (bl s)) : FR) = _
    cases hb : Nat.ble (Nat.succ off) (bl s)
    · rw [hb] at h; exact absurd rfl h
    · refine ⟨.n .u8 (bat s off), ?_, by show fN _ _ = _; rw [Aj]⟩
      have hlt : off < bl s := Nat.le_of_ble_eq_true hb
      simp only [αO, AObj.atOk, AObj.atD, αV, std, Prod.mk.injEq, AV.int.injEq, true_and]
      rw [Ba]
      exact ⟨hb, by rw [List.getD_eq_getElem?_getD, unpI_at hlt]; rfl⟩
  | ints k l e t =>
    obtain ⟨a, ha, h5⟩ := D9 (l := l) (i := off) (k := fun i => vI k i c) h
    obtain ⟨v, h6, h7⟩ := vI_of k a c
    refine ⟨v, ?_, h5.trans h7⟩
    have hlt := (List.getElem?_eq_some_iff.1 ha).1
    simp only [αO, AObj.atOk, AObj.atD, h6, std, Prod.mk.injEq, AV.int.injEq, true_and]
    exact ⟨by rw [Nat.blt_eq]; exact hlt, by rw [List.getD_eq_getElem?_getD, ha]; rfl⟩
  | _ => exact absurd rfl h
def isIf (v : FV) : Bool := FV.rec (motive_1 := fun _ => Bool) (motive_2 := fun _ => Bool) (fun _ _ => true) (fun _ _ => true) (fun _ => false) (fun _ => false) (fun _ _ => false) (fun _ _ _ _ _ _ => false) (fun _ => false) (fun _ => false) (fun _ _ _ _ _ => false) (fun _ _ _ => false) (fun _ _ => false) (fun _ => false) (fun _ _ => false) (fun _ _ => false) (fun _ => false) true (fun _ _ _ _ => true) v
def Hd (l : List FV) : Bool := List.rec (motive := fun _ => Bool) true (fun v _ ih => Bool.rec false ih (isIf v)) l
theorem Ey (k : IntKind) : ∀ l : List FV, Hd l = false → Cv k (αL l) = none
  | [], h => by cases h
  | v :: l, h => by
    have h : (Bool.rec false (Hd l) (isIf v) : Bool) = false := h
    cases v
    case n k' m =>
      have ih := Ey k l h
      simp only [αL, αV, Cv, ih]
      split <;> rfl
    case z k' m =>
      have ih := Ey k l h
      simp only [αL, αV, Cv, ih]
      split <;> rfl
    case o j h0 => cases j <;> rfl
    all_goals rfl
def agF (l : List FV) (c : FV → FR) : FR := List.rec (motive := fun _ => FR) (c (.agg [])) (fun v t _ => FV.rec (motive_1 := fun _ => FR) (motive_2 := fun _ => FR) (fun _ _ => Bool.rec (c (.agg l)) (fV (βV (Cm (αL l))) c) (Hd t)) (fun _ _ => Bool.rec (c (.agg l)) (fV (βV (Cm (αL l))) c) (Hd t)) (fun _ => c (.agg l)) (fun _ => c (.agg l)) (fun _ _ => c (.agg l)) (fun _ _ _ _ _ _ => c (.agg l)) (fun _ => c (.agg l)) (fun _ => c (.agg l)) (fun _ _ _ _ _ => c (.agg l)) (fun _ _ _ => c (.agg l)) (fun _ _ => c (.agg l)) (fun _ => c (.agg l)) (fun _ _ => c (.agg l)) (fun _ _ => c (.agg l)) (fun _ => c (.agg l)) .bad (fun _ _ _ _ => .bad) v) l
theorem agF_of (l : List FV) (c : FV → FR) : ∃ v, αV v = Cm (αL l) ∧ agF l c = c v := by
  cases l with
  | nil => exact ⟨.agg [], rfl, rfl⟩
  | cons v l =>
    have slow : ∃ w, αV w = Cm (αL (v :: l)) ∧ fV (βV (Cm (αL (v :: l)))) c = c w := ⟨βV (Cm (αL (v :: l))), αβ _, Ge _ _⟩
    cases v
    case n k m =>
      show ∃ v, _ ∧ (Bool.rec (c (.agg (.n k m :: l))) (fV (βV (Cm (αL (.n k m :: l)))) c) (Hd l) : FR) = c v
      cases hb : Hd l with
      | true => exact slow
      | false =>
        refine ⟨.agg (.n k m :: l), ?_, rfl⟩
        simp only [αL, αV, Cm, Ey k l hb]
    case z k m =>
      show ∃ v, _ ∧ (Bool.rec (c (.agg (.z k m :: l))) (fV (βV (Cm (αL (.z k m :: l)))) c) (Hd l) : FR) = c v
      cases hb : Hd l with
      | true => exact slow
      | false =>
        refine ⟨.agg (.z k m :: l), ?_, rfl⟩
        simp only [αL, αV, Cm, Ey k l hb]
    case o j => cases j <;> exact ⟨.agg _, rfl, rfl⟩
    all_goals exact ⟨.agg _, rfl, rfl⟩
def lnF (n : Nat) (x : FV) (σ : FH) (c : FV → FR) : FR := kP (fun b off => gM σ b fun ob => FObj.rec (motive := fun _ => FR) .bad
  (fun l _ _ => Ce off l fun l => Bw n l fun l => Bj l 0 fun m => Bool.rec .bad (agF l c) (Nat.beq m n && Nat.ble 1 n))
  (fun s _ _ => Bool.rec .bad (fN (Au s off n) fun m => c (.bs m)) (Nat.ble (Nat.add off n) (bl s)))
  (fun k l e t => slV ((αO (.ints k l e t)).readOk std off n, (αO (.ints k l e t)).read std off n) c) (fun _ => .bad) .bad ob) x
theorem lnF_sv (n : Nat) (x : FV) (σ : FH) (c : FV → FR) : Sv (lnF n x σ c) c ((Dd std n (αV x) (αH σ)).1, (Dd std n (αV x) (αH σ)).2.1) := by
  intro h
  obtain ⟨b, off, rfl, h1⟩ := Ek h
  unfold lnF at h ⊢
  rw [h1] at h ⊢
  obtain ⟨o, _, h3, h4⟩ := Bz h
  rw [h4] at h ⊢
  simp only [αV, Dd, h3]
  cases o with
  | cells l e t =>
    have h : (Ce off l fun l => Bw n l fun l => Bj l 0 fun m => (Bool.rec .bad (agF l c) (Nat.beq m n && Nat.ble 1 n) : FR)) ≠ .bad := h
    show ∃ v, _ ∧ (Ce off l fun l => Bw n l fun l => Bj l 0 fun m => (Bool.rec .bad (agF l c) (Nat.beq m n && Nat.ble 1 n) : FR)) = _
    rw [Cr, Ca, Bv] at h ⊢
    cases hb : (Nat.beq (0 + ((l.drop off).take n).length) n && Nat.ble 1 n)
    · rw [hb] at h; exact absurd rfl h
    · rw [Bool.and_eq_true] at hb
      have hn := Nat.le_of_ble_eq_true hb.2
      have hb := Nat.eq_of_beq_eq_true hb.1
      obtain ⟨v, h5, h6⟩ := agF_of ((l.drop off).take n) c
      refine ⟨v, ?_, h6⟩
      simp only [αO, AObj.readOk, AObj.read, Prod.mk.injEq]
      rw [h5, αL_take, αL_drop, αL_length]
      refine ⟨?_, rfl⟩
      rw [Nat.ble_eq]
      simp only [List.length_take, List.length_drop] at hb
      omega
  | bs s e t =>
    have h : (Bool.rec .bad (fN (Au s off n) fun m => c (.bs m)) (Nat.ble (Nat.add off n) (bl s)) : FR) ≠ .bad := h
    show ∃ v, _ ∧ (Bool.rec .bad (fN (Au s off n) fun m => c (.bs m)) (Nat.ble (Nat.add off n) (bl s)) : FR) = _
    cases hb : Nat.ble (Nat.add off n) (bl s)
    · rw [hb] at h; exact absurd rfl h
    · refine ⟨.bs (Au s off n), ?_, by show fN _ _ = _; rw [Aj]⟩
      have hle : off + n ≤ bl s := Nat.le_of_ble_eq_true hb
      simp only [αO, AObj.readOk, AObj.read, αV, std, Prod.mk.injEq, AV.ints.injEq, true_and]
      rw [Ba]
      refine ⟨hb, ?_⟩
      unfold B4
      rw [(Iq hle).1, List.map_take, List.map_drop]
  | ints k l e t => exact Dr _ _ h
  | _ => exact absurd rfl h
end
end Go.Proofs.YtjoakhpdajlhiaaGreatDoor.V2
namespace Go.Proofs.YtjoakhpdajlhiaaGreatDoor.V2
open Go
noncomputable section
def kSN (f : Nat → Nat → Nat → Nat → Bool → Nat → FR) (g : FR) (v : FV) : FR := FV.rec (motive_1 := fun _ => FR) (motive_2 := fun _ => FR) (fun _ _ => .bad) (fun _ _ => .bad) (fun _ => .bad) (fun _ => .bad) (fun _ _ => .bad) (fun b o n k e z => f b o n k e z) (fun _ => .bad) (fun _ => .bad) (fun _ _ _ _ _ => .bad) (fun _ _ _ => .bad) (fun _ _ => .bad) (fun _ => .bad) (fun _ _ => .bad) (fun _ _ => .bad) (fun j => Nl.rec (motive := fun _ => FR) .bad .bad g .bad .bad .bad j) .bad (fun _ _ _ _ => .bad) v
theorem kSN_cases {f : Nat → Nat → Nat → Nat → Bool → Nat → FR} {g : FR} {v : FV} (h : kSN f g v ≠ .bad) : (∃ b o n k e z, v = .sl b o n k e z ∧ kSN f g v = f b o n k e z) ∨ (v = .o .sl ∧ kSN f g v = g) := by
  cases v with
  | sl b o n k e z => exact .inl ⟨_, _, _, _, _, _, rfl, rfl⟩
  | o j => cases j <;> first | exact .inr ⟨rfl, rfl⟩ | exact absurd rfl h
  | _ => exact absurd rfl h
theorem Dv {f : IntKind → Nat → FR} {v : FV} (h : kNn f v ≠ .bad) : ∃ k n, v = .n k n ∧ kNn f v = f k n := by
  cases v <;> first | exact ⟨_, _, rfl, rfl⟩ | exact absurd rfl h
theorem Hw {f : Bool → FR} {v : FV} (h : kB f v ≠ .bad) : ∃ t, v = .b t ∧ kB f v = f t := by
  cases v <;> first | exact ⟨_, rfl, rfl⟩ | exact absurd rfl h
theorem C2 {f : Nat → FR} {v : FV} (h : kS f v ≠ .bad) : ∃ c, v = .s c ∧ kS f v = f c := by
  cases v <;> first | exact ⟨_, rfl, rfl⟩ | exact absurd rfl h
theorem Ka {f : Nat → FR} {v : FV} (h : kM f v ≠ .bad) : ∃ c, v = .m c ∧ kM f v = f c := by
  cases v <;> first | exact ⟨_, rfl, rfl⟩ | exact absurd rfl h
theorem kTup_cases {f : List FV → FR} {v : FV} (h : kTup f v ≠ .bad) : ∃ c, v = .tup c ∧ kTup f v = f c := by
  cases v <;> first | exact ⟨_, rfl, rfl⟩ | exact absurd rfl h
theorem kI_cases {f g : IntKind → Nat → FR} {v : FV} (h : kI f g v ≠ .bad) : (∃ k n, v = .n k n ∧ kI f g v = f k n) ∨ (∃ k n, v = .z k n ∧ kI f g v = g k n) := by
  cases v <;> first | exact .inl ⟨_, _, rfl, rfl⟩ | exact .inr ⟨_, _, rfl, rfl⟩ | exact absurd rfl h
def gT (b : Bool) (r : FR) : FR := Bool.rec .bad r b
theorem Ah {b : Bool} {r : FR} (h : gT b r ≠ .bad) : b = true ∧ gT b r = r := by
  cases b
  · exact absurd rfl h
  · exact ⟨rfl, rfl⟩
theorem Ds {a b : Nat} (h : Nat.ble a b = true) : a ≤ b := Nat.le_of_ble_eq_true h
theorem dec0 (n : Nat) : decide ((0 : Int) ≤ Int.ofNat n) = true := decide_eq_true (Int.natCast_nonneg n)
/-! Simple ones. -/
def pkF (x a b : FV) (c : FV → FR) : FR := kB (fun t => Bool.rec (c b) (c a) t) x
theorem pkF_sm (x a b : FV) (σ : FH) (k : KV) : Sm (pkF x a b fun v => k v σ) k (match αV x with | .bool t => (true, bif t then αV a else αV b, αH σ) | _ => bad (αH σ)) := by
  intro h
  obtain ⟨t, rfl, h1⟩ := Hw h
  unfold pkF at h ⊢
  rw [h1]
  cases t
  · exact ⟨b, σ, rfl, rfl⟩
  · exact ⟨a, σ, rfl, rfl⟩
def cvF (k : IntKind) (x : FV) (c : FV → FR) : FR := kI (fun _ m => wN k m c) (fun _ m => wZ k m c) x
theorem cvF_sm (k : IntKind) (x : FV) (σ : FH) (c : KV) : Sm (cvF k x fun v => c v σ) c (match αV x with | .int _ n => (true, .int k (wr k n), αH σ) | _ => bad (αH σ)) := by
  intro h
  unfold cvF at h ⊢
  rcases kI_cases h with ⟨_, m, rfl, h1⟩ | ⟨_, m, rfl, h1⟩
  · rw [h1] at h ⊢; exact Sm.ofv (wN_of k m fun v => c v σ) h
  · rw [h1] at h ⊢; exact Sm.ofv (wZ_of k m fun v => c v σ) h
def Mp (x : FV) (c : FV → FR) : FR := kB (fun t => Bool.rec (c (.b true)) (c (.b false)) t) x
theorem notF_sm (x : FV) (σ : FH) (c : KV) : Sm (Mp x fun v => c v σ) c ((unI std .not (αV x)).1, (unI std .not (αV x)).2, αH σ) := by
  intro h
  unfold Mp at h ⊢
  obtain ⟨t, rfl, h1⟩ := Hw h
  rw [h1]
  cases t
  · exact ⟨.b true, σ, rfl, rfl⟩
  · exact ⟨.b false, σ, rfl, rfl⟩
def faF (off : Nat) (x : FV) (c : FV → FR) : FR := kP (fun b o => fN (Nat.add o off) fun o => c (.p b o)) x
theorem faF_sm (off : Nat) (x : FV) (σ : FH) (c : KV) : Sm (faF off x fun v => c v σ) c (match αV x with | .ptr b o => (true, .ptr b (o + off), αH σ) | _ => bad (αH σ)) := by
  intro h
  unfold faF at h ⊢
  obtain ⟨b, o, rfl, h1⟩ := Ek h
  rw [h1, Aj]
  exact ⟨.p b (o + off), σ, rfl, rfl⟩
def iaF (len size : Nat) (x i : FV) (c : FV → FR) : FR := kP (fun b o => kNn (fun _ n => gT (Nat.ble (Nat.succ n) len) (fN (Nat.add o (Nat.mul n size)) fun o => c (.p b o))) i) x
theorem iaF_sm (len size : Nat) (x i : FV) (σ : FH) (c : KV) : Sm (iaF len size x i fun v => c v σ) c (Ij std len size (αV x) (αV i) (αH σ)) := by
  intro h
  unfold iaF at h ⊢
  obtain ⟨b, o, rfl, h1⟩ := Ek h
  rw [h1] at h ⊢
  obtain ⟨k, n, rfl, h2⟩ := Dv h
  rw [h2] at h ⊢
  obtain ⟨h3, h4⟩ := Ah h
  rw [h4, Aj]
  refine ⟨.p b (o + n * size), σ, ?_, rfl⟩
  have : (decide ((0 : Int) ≤ Int.ofNat n) && Nat.blt n len) = true := by rw [dec0 n, Bool.true_and]; exact h3
  exact congrArg (fun z => (z, AV.ptr b (o + n * size), αH σ)) this
def isF (size : Nat) (x i : FV) (c : FV → FR) : FR := kSl (fun b o len _ _ _ => kNn (fun _ n => gT (Nat.ble (Nat.succ n) len) (fN (Nat.add o (Nat.mul n size)) fun o => c (.p b o))) i) x
theorem kSl_cases {f : Nat → Nat → Nat → Nat → Bool → Nat → FR} {v : FV} (h : kSl f v ≠ .bad) : ∃ b o n k e z, v = .sl b o n k e z ∧ kSl f v = f b o n k e z := by
  cases v <;> first | exact ⟨_, _, _, _, _, _, rfl, rfl⟩ | exact absurd rfl h
theorem isF_sm (size : Nat) (x i : FV) (σ : FH) (c : KV) : Sm (isF size x i fun v => c v σ) c (Lh std size (αV x) (αV i) (αH σ)) := by
  intro h
  unfold isF at h ⊢
  obtain ⟨b, o, len, k', e, z, rfl, h1⟩ := kSl_cases h
  rw [h1] at h ⊢
  obtain ⟨k, n, rfl, h2⟩ := Dv h
  rw [h2] at h ⊢
  obtain ⟨h3, h4⟩ := Ah h
  rw [h4, Aj]
  refine ⟨.p b (o + n * size), σ, ?_, rfl⟩
  have : (decide ((0 : Int) ≤ Int.ofNat n) && Nat.blt n len) = true := by rw [dec0 n, Bool.true_and]; exact h3
  exact congrArg (fun z => (z, AV.ptr b (o + n * size), αH σ)) this
def bF (x : Option FV) (d top : Nat) (c : Nat → FR) : FR := Option.rec (c d) (fun v => kNn (fun _ n => gT (Nat.ble n top) (c n)) v) x
theorem Dh {x : Option FV} {d top : Nat} {c : Nat → FR} (h : bF x d top c ≠ .bad) : ∃ n, bnd std (x.map αV) d top = (true, n) ∧ bF x d top c = c n ∧ (n ≤ top ∨ (x = none ∧ n = d)) := by
  cases x with
  | none => exact ⟨d, rfl, rfl, .inr ⟨rfl, rfl⟩⟩
  | some v =>
    have h : kNn (fun _ n => gT (Nat.ble n top) (c n)) v ≠ .bad := h
    show ∃ n, _ ∧ kNn (fun _ n => gT (Nat.ble n top) (c n)) v = c n ∧ _
    obtain ⟨k, n, rfl, h2⟩ := Dv h
    rw [h2] at h ⊢
    obtain ⟨h3, h4⟩ := Ah h
    refine ⟨n, ?_, h4, .inl (Ds h3)⟩
    have : (decide ((0 : Int) ≤ Int.ofNat n) && Nat.ble n top) = true := by rw [dec0 n, Bool.true_and]; exact h3
    exact congrArg (fun z => (z, n)) this
def ssF (x : FV) (lo hi : Option FV) (c : FV → FR) : FR := kS (fun s => fN (bl s) fun L => bF hi L L fun h => bF lo 0 h fun l => fN (Au s l (Nat.sub h l)) fun m => c (.s m)) x
theorem ssF_sm (x : FV) (lo hi : Option FV) (σ : FH) (c : KV) : Sm (ssF x lo hi fun v => c v σ) c (Lf std (αV x) (lo.map αV) (hi.map αV) (αH σ)) := by
  intro h
  unfold ssF at h ⊢
  obtain ⟨s, rfl, h1⟩ := C2 h
  rw [h1, Aj] at h ⊢
  obtain ⟨hh, b1, b2, b3⟩ := Dh h
  rw [b2] at h ⊢
  obtain ⟨l, d1, d2, d3⟩ := Dh h
  rw [d2, Aj]
  refine ⟨.s (Au s l (Nat.sub hh l)), σ, ?_, rfl⟩
  have hle : hh ≤ bl s := by rcases b3 with h | ⟨_, rfl⟩ <;> omega
  have hl : l ≤ hh := by rcases d3 with h | ⟨_, rfl⟩ <;> omega
  have e : unp (Au s l (Nat.sub hh l)) = ((unp s).drop l).take (hh - l) := (Iq (show l + (hh - l) ≤ bl s by omega)).1
  simp only [αV, Lf]
  rw [show std.slen (unp s) = bl s from B8 s, b1]
  dsimp only
  rw [d1, e]; rfl
def svF (size : Nat) (x : FV) (lo hi mx : Option FV) (c : FV → FR) : FR := gT (hi.isSome || mx.isNone) (kSN (fun b o n k e z => gT (Nat.beq z size) (bF mx k k fun m => bF hi n m fun h => bF lo 0 h fun l => fN (Nat.add o (Nat.mul l size)) fun o => fN (Nat.sub h l) fun n => fN (Nat.sub m l) fun k => c (.sl b o n k e z)))
  (bF mx 0 0 fun _ => bF hi 0 0 fun _ => bF lo 0 0 fun _ => c (.o .sl)) x)
theorem Jk {α β : Type} (f : α → β) (x : Option α) : (x.map f).isSome = x.isSome := by cases x <;> rfl
theorem Jl {α β : Type} (f : α → β) (x : Option α) : (x.map f).isNone = x.isNone := by cases x <;> rfl
theorem svF_sm (size : Nat) (x : FV) (lo hi mx : Option FV) (σ : FH) (c : KV) : Sm (svF size x lo hi mx fun v => c v σ) c (oSlSl std size (αV x) (lo.map αV) (hi.map αV) (mx.map αV) (αH σ)) := by
  intro h
  unfold svF at h ⊢
  obtain ⟨g1, g2⟩ := Ah h
  rw [g2] at h ⊢
  rcases kSN_cases h with ⟨b, o, n, k, e, z, rfl, h1⟩ | ⟨rfl, h1⟩
  · rw [h1] at h ⊢
    obtain ⟨g3, g4⟩ := Ah h
    rw [g4] at h ⊢
    obtain ⟨m, a1, a2, _⟩ := Dh h
    rw [a2] at h ⊢
    obtain ⟨hh, b1, b2, _⟩ := Dh h
    rw [b2] at h ⊢
    obtain ⟨l, d1, d2, _⟩ := Dh h
    rw [d2, Aj, Aj, Aj]
    refine ⟨.sl b (o + l * size) (hh - l) (m - l) e z, σ, ?_, rfl⟩
    simp only [αV, oSlSl, a1, b1, d1, Jk, Jl, g1, g3, Bool.and_true]
    rfl
  · rw [h1] at h ⊢
    obtain ⟨m, a1, a2, _⟩ := Dh h
    rw [a2] at h ⊢
    obtain ⟨hh, b1, b2, _⟩ := Dh h
    rw [b2] at h ⊢
    obtain ⟨l, d1, d2, _⟩ := Dh h
    rw [d2]
    refine ⟨.o .sl, σ, ?_, rfl⟩
    simp only [αV, Nl.av, oSlSl, a1, b1, d1, Jk, Jl, g1, Bool.and_true]
def roF (ob : FObj) (off n : Nat) (r : FR) : FR := FObj.rec (motive := fun _ => FR) .bad (fun l _ _ => Bj l 0 fun m => gT (Nat.ble (Nat.add off n) m) r) (fun s _ _ => gT (Nat.ble (Nat.add off n) (bl s)) r) (fun _ l _ _ => Bj l 0 fun m => gT (Nat.ble (Nat.add off n) m) r) (fun _ => .bad) .bad ob
theorem roF_cases {ob : FObj} {off n : Nat} {r : FR} (h : roF ob off n r ≠ .bad) : (αO ob).readOk std off n = true ∧ roF ob off n r = r := by
  cases ob with
  | cells l e t =>
    have h : (Bj l 0 fun m => gT (Nat.ble (Nat.add off n) m) r) ≠ .bad := h
    show _ ∧ (Bj l 0 fun m => gT (Nat.ble (Nat.add off n) m) r) = r
    rw [Bv, Nat.zero_add] at h ⊢
    obtain ⟨h1, h2⟩ := Ah h
    exact ⟨by show Nat.ble (off + n) (αL l).length = true; rw [αL_length]; exact h1, h2⟩
  | bs s e t =>
    have h : gT (Nat.ble (Nat.add off n) (bl s)) r ≠ .bad := h
    obtain ⟨h1, h2⟩ := Ah h
    exact ⟨by show Nat.ble (off + n) (B4 s).length = true; rw [Ba]; exact h1, h2⟩
  | ints k l e t =>
    have h : (Bj l 0 fun m => gT (Nat.ble (Nat.add off n) m) r) ≠ .bad := h
    show _ ∧ (Bj l 0 fun m => gT (Nat.ble (Nat.add off n) m) r) = r
    rw [Bv, Nat.zero_add] at h ⊢
    obtain ⟨h1, h2⟩ := Ah h
    exact ⟨h1, h2⟩
  | _ => exact absurd rfl h
def saF (len size : Nat) (x : FV) (lo hi mx : Option FV) (σ : FH) (c : FV → FR) : FR := gT (hi.isSome || mx.isNone) (kP (fun b o => gM σ b fun ob => roF ob o (Nat.mul len size) (bF mx len len fun m => bF hi len m fun h => bF lo 0 h fun l => fN (Nat.add o (Nat.mul l size)) fun o => fN (Nat.sub h l) fun n => fN (Nat.sub m l) fun k => c (.sl b o n k true size))) x)
theorem saF_sm (len size : Nat) (x : FV) (lo hi mx : Option FV) (σ : FH) (c : KV) : Sm (saF len size x lo hi mx σ fun v => c v σ) c (Lg std len size (αV x) (lo.map αV) (hi.map αV) (mx.map αV) (αH σ)) := by
  intro h
  unfold saF at h ⊢
  obtain ⟨g1, g2⟩ := Ah h
  rw [g2] at h ⊢
  obtain ⟨b, o, rfl, h1⟩ := Ek h
  rw [h1] at h ⊢
  obtain ⟨ob, _, h3, h4⟩ := Bz h
  rw [h4] at h ⊢
  obtain ⟨h5, h6⟩ := roF_cases h
  rw [h6] at h ⊢
  obtain ⟨m, a1, a2, _⟩ := Dh h
  rw [a2] at h ⊢
  obtain ⟨hh, b1, b2, _⟩ := Dh h
  rw [b2] at h ⊢
  obtain ⟨l, d1, d2, _⟩ := Dh h
  rw [d2, Aj, Aj, Aj]
  refine ⟨.sl b (o + l * size) (hh - l) (m - l) true size, σ, ?_, rfl⟩
  have h5 : (αO ob).readOk std o (len * size) = true := h5
  simp only [αV, Lg, h3, a1, b1, d1, Jk, Jl, g1, h5, Bool.and_true]
  rfl
def exF (x : FV) (n : Nat) (c : FV → FR) : FR := kTup (fun l => Fh l n c) x
theorem exF_sm (x : FV) (n : Nat) (σ : FH) (c : KV) : Sm (exF x n fun v => c v σ) c (match αV x with | .tup l => (Nat.blt n l.length, l.getD n .top, αH σ) | _ => bad (αH σ)) := by
  intro h
  unfold exF at h ⊢
  obtain ⟨l, rfl, h1⟩ := kTup_cases h
  rw [h1] at h ⊢
  obtain ⟨a, ha, h2⟩ := D9 h
  refine ⟨a, σ, ?_, h2⟩
  have hlt := (List.getElem?_eq_some_iff.1 ha).1
  simp only [αV, Prod.mk.injEq, and_true]
  rw [αL_length]
  exact ⟨by rw [Nat.blt_eq]; exact hlt, by rw [List.getD_eq_getElem?_getD, αL_get, ha]; rfl⟩
def ncF (x : FV) (c : FV → FR) : FR := FV.rec (motive_1 := fun _ => FR) (motive_2 := fun _ => FR) (fun _ _ => .bad) (fun _ _ => .bad) (fun _ => .bad) (fun _ => .bad) (fun b o => c (.p b o)) (fun _ _ _ _ _ _ => .bad) (fun _ => .bad) (fun _ => .bad) (fun f a b _ _ => Fn.rec (motive := fun _ => FR) (fun g => c (.fn (.func g) a b)) (fun _ => .bad) (fun _ _ => .bad) (fun _ _ _ _ => .bad) (fun _ => .bad) f) (fun _ _ _ => .bad) (fun _ _ => .bad) (fun _ => .bad) (fun _ _ => .bad) (fun _ _ => .bad) (fun _ => .bad) .bad (fun _ _ _ _ => .bad) x
theorem ncF_sm (x : FV) (σ : FH) (c : KV) : Sm (ncF x fun v => c v σ) c (match αV x with | .ptr b o => (true, .ptr b o, αH σ) | .fn (.func f) first cap => (true, .fn (.func f) first cap, αH σ) | _ => bad (αH σ)) := by
  intro h
  cases x with
  | p b o => exact ⟨.p b o, σ, rfl, rfl⟩
  | fn f a b => cases f <;> first | exact ⟨.fn (.func _) a b, σ, rfl, rfl⟩ | exact absurd rfl h
  | _ => exact absurd rfl h
def lsF (x : FV) (c : FV → FR) : FR := kS (fun s => fN (bl s) fun m => c (.n .i64 m)) x
theorem lsF_sm (x : FV) (σ : FH) (c : KV) : Sm (lsF x fun v => c v σ) c (match αV x with | .str l => (true, .int .i64 (std.slen l), αH σ) | _ => bad (αH σ)) := by
  intro h
  unfold lsF at h ⊢
  obtain ⟨s, rfl, h1⟩ := C2 h
  rw [h1, Aj]
  refine ⟨.n .i64 (bl s), σ, ?_, rfl⟩
  simp only [αV]
  rw [show std.slen (unp s) = bl s from B8 s]; rfl
def lvF (x : FV) (c : FV → FR) : FR := kSN (fun _ _ n _ _ _ => c (.n .i64 n)) (c (.n .i64 0)) x
theorem lvF_sm (x : FV) (σ : FH) (c : KV) : Sm (lvF x fun v => c v σ) c (match αV x with | .sl _ _ n _ _ _ => (true, .int .i64 n, αH σ) | .nilsl => (true, .int .i64 0, αH σ) | _ => bad (αH σ)) := by
  intro h
  unfold lvF at h ⊢
  rcases kSN_cases h with ⟨b, o, n, k, e, z, rfl, h1⟩ | ⟨rfl, h1⟩
  · exact ⟨.n .i64 n, σ, rfl, h1⟩
  · exact ⟨.n .i64 0, σ, rfl, h1⟩
/-! New blocks. -/
def alF (o : FObj) (σ : FH) (k : KV) : FR := nM σ o fun b σ => k (.p b 0) σ
theorem alF_sm (o : FObj) (σ : FH) (k : KV) : Sm (alF o σ k) k (Nat.blt (αH σ).next 1000000, .ptr (αH σ).next 0, (αH σ).new (αO o)) := by
  intro h
  obtain ⟨h1, σ', h2, h3⟩ := Dp h
  exact ⟨.p σ.next 0, σ', by rw [h1, h2]; rfl, h3⟩
theorem allInt_map (k : IntKind) : ∀ l : List Int, Cv k (l.map (AV.int k)) = some l
  | [] => rfl
  | n :: l => by rw [List.map_cons, Cv, if_pos rfl, allInt_map k l]; rfl
theorem of_ints (k : IntKind) (l : List Int) (e : TypeId) (t : Tl) (h : 0 < l.length) : AObj.of (l.map (AV.int k)) e t = .ints k l e t := by
  cases l with
  | nil => cases h
  | cons n l => rw [List.map_cons, AObj.of, allInt_map]
def bxO (e : TypeId) (x : FV) (c : FObj → FR) : FR := FV.rec (motive_1 := fun _ => FR) (motive_2 := fun _ => FR) (fun k m => c (.ints k [Int.ofNat m] e .exact)) (fun k m => c (.ints k [Int.negSucc m] e .exact)) (fun t => c (.cells [.b t] e .exact)) (fun s => c (.cells [.s s] e .exact)) (fun b o => c (.cells [.p b o] e .exact)) (fun b o n k u z => c (.cells [.sl b o n k u z] e .exact)) (fun b => c (.cells [.m b] e .exact)) (fun b => c (.cells [.y b] e .exact)) (fun f a b _ _ => c (.cells [.fn f a b] e .exact)) (fun t v _ => c (.cells [.ifc t v] e .exact)) (fun l _ => fO (βO (AObj.of (αL l) e .exact)) c) (fun s => gT (Nat.ble 1 (bl s)) (c (.bs s e .exact))) (fun k l => fO (βO (L3 (.ints k l) e)) c) (fun l _ => .bad) (fun j => Nl.rec (motive := fun _ => FR) (c (.cells [] e .exact)) (c (.cells [.o .ptr] e .exact)) (c (.cells [.o .sl] e .exact)) (c (.cells [.o .map] e .exact)) (c (.cells [.o .fn] e .exact)) (c (.cells [.o .ifc] e .exact)) j) .bad (fun _ _ _ _ => .bad) x
theorem bxO_cases {e : TypeId} {x : FV} {c : FObj → FR} (h : bxO e x c ≠ .bad) : ∃ o, αO o = L3 (αV x) e ∧ bxO e x c = c o := by
  cases x with
  | n k m => exact ⟨.ints k [Int.ofNat m] e .exact, rfl, rfl⟩
  | z k m => exact ⟨.ints k [Int.negSucc m] e .exact, rfl, rfl⟩
  | agg l => exact ⟨βO (AObj.of (αL l) e .exact), by rw [αβO]; rfl, Gf _ _⟩
  | bs s =>
    have h : gT (Nat.ble 1 (bl s)) (c (.bs s e .exact)) ≠ .bad := h
    obtain ⟨h1, h2⟩ := Ah h
    refine ⟨.bs s e .exact, ?_, h2⟩
    show _ = AObj.of ((B4 s).map (AV.int .u8)) e .exact
    rw [of_ints _ _ _ _ (by rw [Ba]; exact Ds h1)]; rfl
  | ints k l => exact ⟨βO (L3 (.ints k l) e), αβO _, Gf _ _⟩
  | tup l => exact absurd rfl h
  | o j => cases j <;> exact ⟨_, rfl, rfl⟩
  | _ => exact ⟨.cells [_] e .exact, rfl, rfl⟩
def bxF (e : TypeId) (x : FV) (σ : FH) (k : KV) : FR := bxO e x fun o => nM σ o fun b σ => k (.p b 0) σ
theorem bxF_sm (e : TypeId) (x : FV) (σ : FH) (k : KV) : Sm (bxF e x σ k) k (Nat.blt (αH σ).next 1000000, .ptr (αH σ).next 0, (αH σ).new (L3 (αV x) e)) := by
  intro h
  unfold bxF at h ⊢
  obtain ⟨o, ho, h1⟩ := bxO_cases h
  rw [h1] at h ⊢
  rw [← ho]
  exact alF_sm o σ k h
/-! Stores. -/
def slW (ob : FObj) (n off : Nat) (x : FV) (c : FObj → FR) : FR := gT ((αO ob).writeOk std off (αV x) && Nat.beq ((αV x).size std) n) (fO (βO ((αO ob).write std off (αV x))) c)
def WrOk (ob : FObj) (n off : Nat) (x : FV) (r : FR) (c : FObj → FR) : Prop := r ≠ .bad → ∃ o, ((αO ob).writeOk std off (αV x) && Nat.beq ((αV x).size std) n) = true ∧ αO o = (αO ob).write std off (αV x) ∧ r = c o
theorem slW_ok (ob : FObj) (n off : Nat) (x : FV) (c : FObj → FR) : WrOk ob n off x (slW ob n off x c) c := fun h => by
  unfold slW at h ⊢
  obtain ⟨h1, h2⟩ := Ah h
  exact ⟨βO ((αO ob).write std off (αV x)), h1, αβO _, h2.trans (Gf _ _)⟩
def wcF (l : List FV) (e : TypeId) (t : Tl) (n off : Nat) (x : FV) (c : FObj → FR) : FR := kC (gT (Nat.beq 1 n) (gW t (Hk l off x fun l => c (.cells l e t))))
  (fun m => gW t (Ep m (Bj m 0 fun q => gT (Nat.beq q n) (Bw off l fun l1 => Ce (Nat.add off q) l fun l2 => Bj l1 q fun s1 => Bj l2 s1 fun s2 => Bj l 0 fun s0 => gT (Nat.beq s2 s0 && Nat.ble (Nat.add off q) s0) (Dn m l2 fun l2 => Dn l1 l2 fun l => c (.cells l e t))))))
  (slW (.cells l e t) n off x c) x
theorem wcF_ok (l : List FV) (e : TypeId) (t : Tl) (n off : Nat) (x : FV) (c : FObj → FR) : WrOk (.cells l e t) n off x (wcF l e t n off x c) c := fun h => by
  have h0 := h
  unfold wcF at h ⊢
  rcases kC_cases (gT (Nat.beq 1 n) (gW t (Hk l off x fun l => c (.cells l e t)))) (fun m => gW t (Ep m (Bj m 0 fun q => gT (Nat.beq q n) (Bw off l fun l1 => Ce (Nat.add off q) l fun l2 => Bj l1 q fun s1 => Bj l2 s1 fun s2 => Bj l 0 fun s0 => gT (Nat.beq s2 s0 && Nat.ble (Nat.add off q) s0) (Dn m l2 fun l2 => Dn l1 l2 fun l => c (.cells l e t))))))
    (slW (.cells l e t) n off x c) x with ⟨h1, h2⟩ | ⟨m, rfl, h2⟩ | h2
  · rw [h2] at h ⊢
    obtain ⟨g1, g2⟩ := Ah h
    rw [g2] at h ⊢
    obtain ⟨g3, g4⟩ := Gb h
    rw [g4] at h ⊢
    rw [Gl] at h ⊢
    by_cases hl : off < l.length
    · rw [if_pos hl]
      obtain ⟨s1, s2, s3, s4⟩ := Jv h1
      refine ⟨.cells (l.set off x) e t, ?_, ?_, rfl⟩
      · simp only [αO, AObj.writeOk, g3, s1, s3, s4, List.all_cons, s2, List.all_nil, List.length_cons, List.length_nil, Bool.true_and, Bool.and_true, αL_length]
        rw [Bool.and_eq_true]
        exact ⟨by rw [Nat.ble_eq]; omega, g1⟩
      · simp only [αO, αL_set]
        cases x <;> first | rfl | (cases h1; done) | skip
        rename_i j
        cases j <;> first | rfl | (cases h1; done)
    · rw [if_neg hl] at h; exact absurd rfl h
  · rw [h2] at h ⊢
    obtain ⟨g3, g4⟩ := Gb h
    rw [g4] at h ⊢
    obtain ⟨o1, o2⟩ := Jg h
    rw [o2] at h ⊢
    rw [Bv, Nat.zero_add] at h ⊢
    obtain ⟨g5, g6⟩ := Ah h
    rw [g6] at h ⊢
    rw [Ca, Cr, Bv, Bv, Bv] at h ⊢
    obtain ⟨g7, g8⟩ := Ah h
    rw [g8, Dk, Dk]
    rw [Bool.and_eq_true] at g7
    have hle := Ds g7.2
    rw [Nat.zero_add] at hle
    refine ⟨.cells (l.take off ++ (m ++ l.drop (Nat.add off m.length))) e t, ?_, ?_, rfl⟩
    · show ((!t.isRo) && (true && (αL m).all AV.one && Nat.ble (off + (αL m).length) (αL l).length) && Nat.beq (αL m).length n) = true
      rw [g3, o1, αL_length, αL_length, g5]
      simp only [Bool.true_and, Bool.and_true]
      rw [Nat.ble_eq]; exact hle
    · simp only [αO, αV, AObj.write, αL_append, αL_take, αL_drop, αL_length, List.append_assoc]
      rfl
  · rw [h2] at h ⊢; exact slW_ok _ _ _ _ _ h
theorem unpN_set : ∀ (n c i x : Nat), x < 256 → i < n → ∃ c', c' = c + x * 256 ^ i - (c / 256 ^ i % 256) * 256 ^ i ∧ Dz n c' = (Dz n c).set i (UInt8.ofNat x)
  | 0, _, _, _, _, h => by omega
  | n + 1, c, 0, x, hx, _ => by
    refine ⟨_, rfl, ?_⟩
    simp only [Nat.pow_zero, Nat.mul_one, Nat.div_one, Dz, List.set_cons_zero]
    have h1 : (c + x - c % 256) % 256 = x := by omega
    have h2 : (c + x - c % 256) / 256 = c / 256 := by omega
    rw [h1, h2]
  | n + 1, c, i + 1, x, hx, h => by
    refine ⟨_, rfl, ?_⟩
    obtain ⟨c', e1, e2⟩ := unpN_set n (c / 256) i x hx (by omega)
    simp only [Dz, List.set_cons_succ]
    rw [Nat.div_div_eq_div_mul, Nat.mul_comm 256, ← Nat.pow_succ] at e1
    have hd := Nat.div_add_mod c 256
    have key : c + x * 256 ^ (i + 1) - c / 256 ^ (i + 1) % 256 * 256 ^ (i + 1) = 256 * c' + c % 256 := by
      have hle : (c / 256 ^ (i + 1) % 256) * 256 ^ i ≤ c / 256 := by
        have h1 : c / 256 ^ (i + 1) = c / 256 / 256 ^ i := by rw [Nat.div_div_eq_div_mul, Nat.mul_comm 256, ← Nat.pow_succ]
        rw [h1]
        exact Nat.le_trans (Nat.mul_le_mul_right _ (Nat.mod_le _ _)) (Nat.div_mul_le_self _ _)
      rw [e1, Nat.pow_succ, ← Nat.mul_assoc, ← Nat.mul_assoc]
      rw [Nat.pow_succ] at hle
      omega
    rw [key]
    rw [show (256 * c' + c % 256) % 256 = c % 256 by omega, show (256 * c' + c % 256) / 256 = c' by omega, e2]
theorem bset_eq (c i x : Nat) : bset c i x = c + x * 256 ^ i - (c / 256 ^ i % 256) * 256 ^ i := by
  unfold bset
  rw [bat_eq, sh3]
  show c + x <<< (8 * i) - (c / 256 ^ i % 256) <<< (8 * i) = _
  rw [Nat.shiftLeft_eq, Nat.shiftLeft_eq, p256]
end
end Go.Proofs.YtjoakhpdajlhiaaGreatDoor.V2
namespace Go.Proofs.YtjoakhpdajlhiaaGreatDoor.V2
open Go
noncomputable section
theorem Gc {k k' : IntKind} {r : FR} (h : gK k k' r ≠ .bad) : k = k' ∧ gK k k' r = r := by
  unfold gK at h ⊢
  cases hb : Nat.beq (ix k) (ix k')
  · rw [hb] at h; exact absurd rfl h
  · exact ⟨ix_inj hb, rfl⟩
theorem Ky (a b : Nat) : B4 (Be a b) = B4 a ++ B4 b := by unfold B4; rw [bapp_unp, List.map_append]
theorem E0 {c o n : Nat} (h : o + n ≤ bl c) : B4 (Au c o n) = ((B4 c).drop o).take n := by unfold B4; rw [(Iq h).1, List.map_take, List.map_drop]
theorem unpI_bset {s i m : Nat} (hm : m < 256) (hi : i < bl s) (hb : bl (bset s i m) = bl s) : B4 (bset s i m) = (B4 s).set i (Int.ofNat m) := by
  obtain ⟨c', e1, e2⟩ := unpN_set (bl s) s i m hm hi
  unfold B4 unp
  rw [hb, bset_eq, ← e1, e2, List.map_set]
  congr 1
  simp [UInt8.toNat_ofNat']; omega
def wbF (s : Nat) (e : TypeId) (t : Tl) (n off : Nat) (x : FV) (c : FObj → FR) : FR := gW t (FV.rec (motive_1 := fun _ => FR) (motive_2 := fun _ => FR) (fun k m => gK .u8 k (gT (Nat.beq 1 n) (gT (Nat.ble (Nat.succ m) 256) (gT (Nat.ble (Nat.succ off) (bl s)) (fN (bset s off m) fun s' => gT (Nat.beq (bl s') (bl s)) (c (.bs s' e t))))))) (fun _ _ => .bad) (fun _ => .bad) (fun _ => .bad) (fun _ _ => .bad) (fun _ _ _ _ _ _ => .bad) (fun _ => .bad) (fun _ => .bad) (fun _ _ _ _ _ => .bad) (fun _ _ _ => .bad) (fun _ _ => .bad) (fun q => gT (Nat.beq (bl q) n) (gT (Nat.ble (Nat.add off (bl q)) (bl s)) (fN (Be (Au s 0 off) (Be q (Au s (Nat.add off (bl q)) (Nat.sub (bl s) (Nat.add off (bl q)))))) fun s' => c (.bs s' e t)))) (fun _ _ => .bad) (fun _ _ => .bad) (fun _ => .bad) .bad (fun _ _ _ _ => .bad) x)
theorem wbF_ok (s : Nat) (e : TypeId) (t : Tl) (n off : Nat) (x : FV) (c : FObj → FR) : WrOk (.bs s e t) n off x (wbF s e t n off x c) c := fun h => by
  unfold wbF at h ⊢
  obtain ⟨g1, g2⟩ := Gb h
  rw [g2] at h ⊢
  cases x with
  | n k m =>
    have h : gK .u8 k (gT (Nat.beq 1 n) (gT (Nat.ble (Nat.succ m) 256) (gT (Nat.ble (Nat.succ off) (bl s)) (fN (bset s off m) fun s' => gT (Nat.beq (bl s') (bl s)) (c (.bs s' e t)))))) ≠ .bad := h
    show ∃ o, _ ∧ _ ∧ gK .u8 k (gT (Nat.beq 1 n) (gT (Nat.ble (Nat.succ m) 256) (gT (Nat.ble (Nat.succ off) (bl s)) (fN (bset s off m) fun s' => gT (Nat.beq (bl s') (bl s)) (c (.bs s' e t)))))) = _
    obtain ⟨rfl, a2⟩ := Gc h
    rw [a2] at h ⊢
    obtain ⟨b1, b2⟩ := Ah h
    rw [b2] at h ⊢
    obtain ⟨c1, c2⟩ := Ah h
    rw [c2] at h ⊢
    obtain ⟨d1, d2⟩ := Ah h
    rw [d2, Aj] at h ⊢
    obtain ⟨e1, e2⟩ := Ah h
    rw [e2]
    have hm : m < 256 := Ds c1
    have ho : off < bl s := Ds d1
    refine ⟨.bs (bset s off m) e t, ?_, ?_, rfl⟩
    · show (((!t.isRo) && (decide (IntKind.u8 = .u8) && Nat.blt off (B4 s).length)) && Nat.beq 1 n) = true
      rw [g1, b1, Ba]
      simp only [decide_true, Bool.true_and, Bool.and_true]; exact d1
    · show AObj.ints .u8 (B4 (bset s off m)) e t = .ints .u8 ((B4 s).set off (Int.ofNat m)) e t
      rw [unpI_bset hm ho (Nat.eq_of_beq_eq_true e1)]
  | bs q =>
    have h : gT (Nat.beq (bl q) n) (gT (Nat.ble (Nat.add off (bl q)) (bl s)) (fN (Be (Au s 0 off) (Be q (Au s (Nat.add off (bl q)) (Nat.sub (bl s) (Nat.add off (bl q)))))) fun s' => c (.bs s' e t))) ≠ .bad := h
    show ∃ o, _ ∧ _ ∧ gT (Nat.beq (bl q) n) (gT (Nat.ble (Nat.add off (bl q)) (bl s)) (fN (Be (Au s 0 off) (Be q (Au s (Nat.add off (bl q)) (Nat.sub (bl s) (Nat.add off (bl q)))))) fun s' => c (.bs s' e t))) = _
    obtain ⟨b1, b2⟩ := Ah h
    rw [b2] at h ⊢
    obtain ⟨c1, c2⟩ := Ah h
    rw [c2, Aj]
    have hle : off + bl q ≤ bl s := Ds c1
    refine ⟨.bs _ e t, ?_, ?_, rfl⟩
    · show (((!t.isRo) && (decide (IntKind.u8 = .u8) && Nat.ble (off + (B4 q).length) (B4 s).length)) && Nat.beq (B4 q).length n) = true
      rw [g1, Ba, Ba, b1]
      simp only [decide_true, Bool.true_and, Bool.and_true]; exact c1
    · show AObj.ints .u8 (B4 _) e t = .ints .u8 ((B4 s).take off ++ B4 q ++ (B4 s).drop (off + (B4 q).length)) e t
      rw [Ky, Ky, E0 (by omega), E0 (show Nat.add off (bl q) + Nat.sub (bl s) (Nat.add off (bl q)) ≤ bl s by show off + bl q + (bl s - (off + bl q)) ≤ bl s; omega), Ba, List.append_assoc, List.drop_zero]
      congr 3
      rw [List.take_of_length_le (by rw [List.length_drop, Ba]; exact Nat.le_refl _)]
      rfl
  | _ => exact absurd rfl h
def wiF (k : IntKind) (l : List Int) (e : TypeId) (t : Tl) (n off : Nat) (x : FV) (c : FObj → FR) : FR := FV.rec (motive_1 := fun _ => FR) (motive_2 := fun _ => FR) (fun k' m => gW t (gK k k' (gT (Nat.beq 1 n) (Hk l off (Int.ofNat m) fun l => c (.ints k l e t))))) (fun k' m => gW t (gK k k' (gT (Nat.beq 1 n) (Hk l off (Int.negSucc m) fun l => c (.ints k l e t))))) (fun _ => .bad) (fun _ => .bad) (fun _ _ => .bad) (fun _ _ _ _ _ _ => .bad) (fun _ => .bad) (fun _ => .bad) (fun _ _ _ _ _ => .bad) (fun _ _ _ => .bad) (fun _ _ => .bad) (fun q => slW (.ints k l e t) n off (.bs q) c) (fun k' l' => slW (.ints k l e t) n off (.ints k' l') c) (fun _ _ => .bad) (fun _ => .bad) .bad (fun _ _ _ _ => .bad) x
theorem wi1 {k k' : IntKind} {l : List Int} {e : TypeId} {t : Tl} {n off : Nat} {x : FV} {i : Int} {c : FObj → FR} (hx : αV x = .int k' i) : WrOk (.ints k l e t) n off x (gW t (gK k k' (gT (Nat.beq 1 n) (Hk l off i fun l => c (.ints k l e t))))) c := fun h => by
  obtain ⟨g1, g2⟩ := Gb h
  rw [g2] at h ⊢
  obtain ⟨rfl, a2⟩ := Gc h
  rw [a2] at h ⊢
  obtain ⟨b1, b2⟩ := Ah h
  rw [b2] at h ⊢
  rw [Gl] at h ⊢
  by_cases hl : off < l.length
  · rw [if_pos hl]
    refine ⟨.ints k (l.set off i) e t, ?_, ?_, rfl⟩
    · rw [hx]
      show (((!t.isRo) && (decide (k = k) && Nat.blt off l.length)) && Nat.beq 1 n) = true
      rw [g1, b1]
      simp only [decide_true, Bool.true_and, Bool.and_true]; rw [Nat.blt_eq]; exact hl
    · rw [hx]; rfl
  · rw [if_neg hl] at h; exact absurd rfl h
theorem wiF_ok (k : IntKind) (l : List Int) (e : TypeId) (t : Tl) (n off : Nat) (x : FV) (c : FObj → FR) : WrOk (.ints k l e t) n off x (wiF k l e t n off x c) c := by
  cases x with
  | n k' m => exact wi1 rfl
  | z k' m => exact wi1 rfl
  | ints k' l' => exact slW_ok _ _ _ _ _
  | bs q => exact slW_ok _ _ _ _ _
  | _ => exact fun h => absurd rfl h
def woF (ob : FObj) (n off : Nat) (x : FV) (c : FObj → FR) : FR := FObj.rec (motive := fun _ => FR) .bad (fun l e t => wcF l e t n off x c) (fun s e t => wbF s e t n off x c) (fun k l e t => wiF k l e t n off x c) (fun _ => .bad) .bad ob
theorem woF_ok (ob : FObj) (n off : Nat) (x : FV) (c : FObj → FR) : WrOk ob n off x (woF ob n off x c) c := by
  cases ob with
  | cells l e t => exact wcF_ok _ _ _ _ _ _ _
  | bs s e t => exact wbF_ok _ _ _ _ _ _ _
  | ints k l e t => exact wiF_ok _ _ _ _ _ _ _ _
  | _ => exact fun h => absurd rfl h
def stF (n : Nat) (p x : FV) (σ : FH) (k : KV) : FR := kP (fun b off => gM σ b fun ob => woF ob n off x fun ob => pM σ b ob fun σ => k (.tup []) σ) p
theorem stF_sm (n : Nat) (p x : FV) (σ : FH) (k : KV) : Sm (stF n p x σ k) k (Ld std n (αV p) (αV x) (αH σ)) := by
  intro h
  unfold stF at h ⊢
  obtain ⟨b, off, rfl, h1⟩ := Ek h
  rw [h1] at h ⊢
  obtain ⟨ob, _, h3, h4⟩ := Bz h
  rw [h4] at h ⊢
  obtain ⟨o, g1, g2, g3⟩ := woF_ok _ _ _ _ _ h
  rw [g3]
  dsimp only
  rw [pM_eq]
  refine ⟨.tup [], ⟨σ.next, σ.mem.put b o⟩, ?_, rfl⟩
  simp only [αV, Ld, h3]
  rw [pM_α, g2]
  have g1 : ((αO ob).writeOk std off (αV x) && std.eqN ((αV x).size std) n) = true := g1
  rw [g1]; rfl
/-! Parts of values. -/
def f1F (off : Nat) (x : FV) (c : FV → FR) : FR := FV.rec (motive_1 := fun _ => FR) (motive_2 := fun _ => FR) (fun _ _ => .bad) (fun _ _ => .bad) (fun _ => .bad) (fun _ => .bad) (fun _ _ => .bad) (fun _ _ _ _ _ _ => .bad) (fun _ => .bad) (fun _ => .bad) (fun _ _ _ _ _ => .bad) (fun _ _ _ => .bad) (fun l _ => Fh l off c) (fun s => gT (Nat.ble (Nat.succ off) (bl s)) (fN (bat s off) fun m => c (.n .u8 m))) (fun k l => Fh l off fun i => vI k i c) (fun _ _ => .bad) (fun _ => .bad) .bad (fun _ _ _ _ => .bad) x
theorem f1F_sv (off : Nat) (x : FV) (c : FV → FR) : Sv (f1F off x c) c (Hm std (αV x) off) := by
  intro h
  cases x with
  | agg l =>
    obtain ⟨a, ha, h5⟩ := D9 (l := l) (i := off) (k := c) h
    have hlt := (List.getElem?_eq_some_iff.1 ha).1
    refine ⟨a, ?_, h5⟩
    simp only [αV, Hm, Prod.mk.injEq]
    rw [αL_length]
    exact ⟨by rw [Nat.blt_eq]; exact hlt, by rw [List.getD_eq_getElem?_getD, αL_get, ha]; rfl⟩
  | bs s =>
    have h : gT (Nat.ble (Nat.succ off) (bl s)) (fN (bat s off) fun m => c (.n .u8 m)) ≠ .bad := h
    obtain ⟨h1, h2⟩ := Ah h
    refine ⟨.n .u8 (bat s off), ?_, h2.trans (Aj _ _)⟩
    simp only [αV, Hm, std, Prod.mk.injEq, AV.int.injEq, true_and]
    rw [Ba]
    exact ⟨h1, by rw [List.getD_eq_getElem?_getD, unpI_at (Ds h1)]; rfl⟩
  | ints k l =>
    obtain ⟨a, ha, h5⟩ := D9 (l := l) (i := off) (k := fun i => vI k i c) h
    have hlt := (List.getElem?_eq_some_iff.1 ha).1
    obtain ⟨v, h6, h7⟩ := vI_of k a c
    refine ⟨v, ?_, h5.trans h7⟩
    simp only [αV, Hm, h6, std, Prod.mk.injEq, AV.int.injEq, true_and]
    exact ⟨by rw [Nat.blt_eq]; exact hlt, by rw [List.getD_eq_getElem?_getD, ha]; rfl⟩
  | _ => exact absurd rfl h
def fnF (off size : Nat) (x : FV) (c : FV → FR) : FR := FV.rec (motive_1 := fun _ => FR) (motive_2 := fun _ => FR) (fun _ _ => .bad) (fun _ _ => .bad) (fun _ => .bad) (fun _ => .bad) (fun _ _ => .bad) (fun _ _ _ _ _ _ => .bad) (fun _ => .bad) (fun _ => .bad) (fun _ _ _ _ _ => .bad) (fun _ _ _ => .bad) (fun l _ => Ce off l fun l => Bw size l fun l => Bj l 0 fun m => gT (Nat.beq m size && Nat.ble 1 size) (agF l c)) (fun s => gT (Nat.ble (Nat.add off size) (bl s)) (fN (Au s off size) fun m => c (.bs m))) (fun k l => slV (Hl std (.ints k l) off size) c) (fun _ _ => .bad) (fun _ => .bad) .bad (fun _ _ _ _ => .bad) x
theorem fnF_sv (off size : Nat) (x : FV) (c : FV → FR) : Sv (fnF off size x c) c (Hl std (αV x) off size) := by
  intro h
  cases x with
  | agg l =>
    have h : (Ce off l fun l => Bw size l fun l => Bj l 0 fun m => gT (Nat.beq m size && Nat.ble 1 size) (agF l c)) ≠ .bad := h
    show ∃ v, _ ∧ (Ce off l fun l => Bw size l fun l => Bj l 0 fun m => gT (Nat.beq m size && Nat.ble 1 size) (agF l c)) = _
    rw [Cr, Ca, Bv] at h ⊢
    obtain ⟨hb, h2⟩ := Ah h
    rw [h2]
    rw [Bool.and_eq_true] at hb
    have hn := Ds hb.2
    have hb := Nat.eq_of_beq_eq_true hb.1
    obtain ⟨v, h5, h6⟩ := agF_of ((l.drop off).take size) c
    refine ⟨v, ?_, h6⟩
    simp only [αV, Hl, Prod.mk.injEq]
    rw [h5, αL_take, αL_drop, αL_length]
    refine ⟨?_, rfl⟩
    rw [Nat.ble_eq]
    simp only [List.length_take, List.length_drop] at hb
    omega
  | bs s =>
    have h : gT (Nat.ble (Nat.add off size) (bl s)) (fN (Au s off size) fun m => c (.bs m)) ≠ .bad := h
    obtain ⟨h1, h2⟩ := Ah h
    refine ⟨.bs (Au s off size), ?_, h2.trans (Aj _ _)⟩
    simp only [αV, Hl, std, Prod.mk.injEq, AV.ints.injEq, true_and]
    rw [Ba]
    exact ⟨h1, (E0 (Ds h1)).symm⟩
  | ints k l => exact Dr _ _ h
  | _ => exact absurd rfl h
def sAt (x i : FV) (c : FV → FR) : FR := kS (fun s => kNn (fun _ n => gT (Nat.ble (Nat.succ n) (bl s)) (fN (bat s n) fun m => c (.n .u8 m))) i) x
theorem sAt_sv (x i : FV) (c : FV → FR) : Sv (sAt x i c) c (Aq std .idxStr [αV x, αV i]) := by
  intro h
  unfold sAt at h ⊢
  obtain ⟨s, rfl, h1⟩ := C2 h
  rw [h1] at h ⊢
  obtain ⟨k, n, rfl, h2⟩ := Dv h
  rw [h2] at h ⊢
  obtain ⟨h3, h4⟩ := Ah h
  rw [h4, Aj]
  refine ⟨.n .u8 (bat s n), ?_, rfl⟩
  show (decide ((0 : Int) ≤ Int.ofNat n) && Nat.blt n (unp s).length, AV.int .u8 ((B4 s).getD n 0)) = _
  rw [dec0, Bool.true_and, B8, List.getD_eq_getElem?_getD, unpI_at (Ds h3)]
  exact congrArg (fun z => (z, AV.int .u8 (Int.ofNat (bat s n)))) h3
def mfF (f : Fn) (n : Nat) (l : List FV) (c : FV → FR) : FR := Bw n l fun a => Ce n l fun b => c (.fn f a b)
theorem mfF_sv (f : Fn) (n : Nat) (l : List FV) (c : FV → FR) : Sv (mfF f n l c) c (Aq std (.mkFn f n) (αL l)) := by
  intro h
  unfold mfF
  rw [Ca, Cr]
  refine ⟨.fn f (l.take n) (l.drop n), ?_, rfl⟩
  simp only [αV, Aq, αL_take, αL_drop]
def atF (t : TypeId) (commaOk : Bool) (zero : FV) (x : FV) (c : FV → FR) : FR := FV.rec (motive_1 := fun _ => FR) (motive_2 := fun _ => FR) (fun _ _ => .bad) (fun _ _ => .bad) (fun _ => .bad) (fun _ => .bad) (fun _ _ => .bad) (fun _ _ _ _ _ _ => .bad) (fun _ => .bad) (fun _ => .bad) (fun _ _ _ _ _ => .bad) (fun t' v _ => Bool.rec (gT commaOk (c (.tup [zero, .b false]))) (c (Bool.rec v (.tup [v, .b true]) commaOk)) (Nat.beq t' t)) (fun _ _ => .bad) (fun _ => .bad) (fun _ _ => .bad) (fun _ _ => .bad) (fun j => Nl.rec (motive := fun _ => FR) .bad .bad .bad .bad .bad (gT commaOk (c (.tup [zero, .b false]))) j) .bad (fun _ _ _ _ => .bad) x
theorem atF_sv (t : TypeId) (commaOk : Bool) (zero : FV) (z : AV) (hz : αV zero = z) (x : FV) (c : FV → FR) : Sv (atF t commaOk zero x c) c (Aq std (.assertT t commaOk z) [αV x]) := by
  intro h
  subst hz
  cases x with
  | ifc t' v =>
    have h : (Bool.rec (gT commaOk (c (.tup [zero, .b false]))) (c (Bool.rec v (.tup [v, .b true]) commaOk)) (Nat.beq t' t) : FR) ≠ .bad := h
    show ∃ w, (match Nat.beq t' t with | true => (true, bif commaOk then AV.tup [αV v, .bool true] else αV v) | false => (commaOk, .tup [αV zero, .bool false])) = (true, αV w) ∧ (Bool.rec (gT commaOk (c (.tup [zero, .b false]))) (c (Bool.rec v (.tup [v, .b true]) commaOk)) (Nat.beq t' t) : FR) = c w
    cases hb : Nat.beq t' t with
    | true => cases commaOk <;> exact ⟨_, rfl, rfl⟩
    | false =>
      rw [hb] at h
      obtain ⟨rfl, h2⟩ := Ah h
      exact ⟨_, rfl, rfl⟩
  | o j =>
    cases j with
    | ifc =>
      obtain ⟨rfl, h2⟩ := Ah (show gT commaOk (c (.tup [zero, .b false])) ≠ .bad from h)
      exact ⟨_, rfl, rfl⟩
    | _ => exact absurd rfl h
  | _ => exact absurd rfl h
def nlF (j : Nl) (x : FV) (y n : FR) : FR := FV.rec (motive_1 := fun _ => FR) (motive_2 := fun _ => FR) (fun _ _ => .bad) (fun _ _ => .bad) (fun _ => .bad) (fun _ => .bad) (fun b o => Nl.rec (motive := fun _ => FR) .bad n .bad .bad .bad .bad j) (fun b o n1 k e z => Nl.rec (motive := fun _ => FR) .bad .bad n .bad .bad .bad j) (fun b => Nl.rec (motive := fun _ => FR) .bad .bad .bad n .bad .bad j) (fun _ => .bad) (fun f a b _ _ => Nl.rec (motive := fun _ => FR) .bad .bad .bad .bad n .bad j) (fun t v _ => Nl.rec (motive := fun _ => FR) .bad .bad .bad .bad .bad n j) (fun _ _ => .bad) (fun _ => .bad) (fun _ _ => .bad) (fun _ _ => .bad) (fun i => Nl.rec (motive := fun _ => FR) .bad (Nl.rec (motive := fun _ => FR) .bad y .bad .bad .bad .bad j) (Nl.rec (motive := fun _ => FR) .bad .bad y .bad .bad .bad j) (Nl.rec (motive := fun _ => FR) .bad .bad .bad y .bad .bad j) (Nl.rec (motive := fun _ => FR) .bad .bad .bad .bad y .bad j) (Nl.rec (motive := fun _ => FR) .bad .bad .bad .bad .bad y j) i) .bad (fun _ _ _ _ => .bad) x
end
end Go.Proofs.YtjoakhpdajlhiaaGreatDoor.V2
