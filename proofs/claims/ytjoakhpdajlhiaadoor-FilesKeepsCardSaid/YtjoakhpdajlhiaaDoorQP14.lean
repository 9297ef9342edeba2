/- Part 14 of the proof: texts of the proof. -/
import Derived.Test.YtjoakhpdajlhiaaDoorQP13
namespace Go.Proofs.YtjoakhpdajlhiaaDoor.V2.S
open Go
set_option linter.unusedVariables false
set_option maxRecDepth 100000
noncomputable def qeL : List Qe := [⟨3, eZ Tryd.f3, p3 zO⟩, ⟨7, eZ Tryd.f7, p7 zO⟩, ⟨8, eZ Tryd.f8, p8 zO⟩, ⟨9, eZ Tryd.f9, p9 zO⟩, ⟨10, eZ Tryd.f10, p10 zO⟩, ⟨11, eZ Tryd.f11, p11 zO⟩, ⟨12, eZ Tryd.f12, p12 zO⟩, ⟨13, eZ Tryd.f13, p13 zO⟩, ⟨14, eZ Tryd.f14, p14 zO⟩, ⟨15, eZ Tryd.f15, p15 zO⟩, ⟨16, eZ Tryd.f16, p16 zO⟩, ⟨17, eZ Tryd.f17, p17 zO⟩, ⟨18, eZ Tryd.f18, p18 zO⟩, ⟨19, eZ Tryd.f19, p19 zO⟩, ⟨20, eZ Tryd.f20, p20 zO⟩, ⟨26, eZ Tryd.f26, p26 zO⟩, ⟨28, eZ Tryd.f28, p28 zO⟩, ⟨30, eZ Tryd.f30, p30 zO⟩, ⟨31, eZ Tryd.f31, p31 zO⟩, ⟨32, eZ Tryd.f32, p32 zO⟩, ⟨33, eZ Tryd.f33, p33 zO⟩, ⟨34, eZ Tryd.f34, p34 zO⟩, ⟨35, eZ Tryd.f35, p35 zO⟩, ⟨36, eZ Tryd.f36, p36 zO⟩, ⟨37, eZ Tryd.f37, p37 zO⟩, ⟨38, eZ Tryd.f38, p38 zO⟩, ⟨39, eZ Tryd.f39, p39 zO⟩, ⟨41, eZ Tryd.f41, p41 zO⟩, ⟨52, eZ Tryd.f52, p52 zO⟩, ⟨66, eZ Tryd.f66, p66 zO⟩, ⟨67, eZ Tryd.f67, p67 zO⟩, ⟨68, eZ Tryd.f68, p68 zO⟩, ⟨69, eZ Tryd.f69, p69 zO⟩, ⟨70, eZ Tryd.f70, p70 zO⟩, ⟨71, eZ Tryd.f71, p71 zO⟩, ⟨77, eZ Tryd.f77, p77 zO⟩, ⟨90, eZ Tryd.f90, p90 zO⟩, ⟨92, eZ Tryd.f92, p92 zO⟩, ⟨111, eZ Tryd.f111, p111 zO⟩]
theorem qeL_ok : ∀ p ∈ qeL, QeOk p := by
  unfold qeL
  exact List.forall_mem_cons.2 ⟨k3, List.forall_mem_cons.2 ⟨k7, List.forall_mem_cons.2 ⟨k8, List.forall_mem_cons.2 ⟨k9, List.forall_mem_cons.2 ⟨k10, List.forall_mem_cons.2 ⟨k11, List.forall_mem_cons.2 ⟨k12, List.forall_mem_cons.2 ⟨k13, List.forall_mem_cons.2 ⟨k14, List.forall_mem_cons.2 ⟨k15, List.forall_mem_cons.2 ⟨k16, List.forall_mem_cons.2 ⟨k17, List.forall_mem_cons.2 ⟨k18, List.forall_mem_cons.2 ⟨k19, List.forall_mem_cons.2 ⟨k20, List.forall_mem_cons.2 ⟨k26, List.forall_mem_cons.2 ⟨k28, List.forall_mem_cons.2 ⟨k30, List.forall_mem_cons.2 ⟨k31, List.forall_mem_cons.2 ⟨k32, List.forall_mem_cons.2 ⟨k33, List.forall_mem_cons.2 ⟨k34, List.forall_mem_cons.2 ⟨k35, List.forall_mem_cons.2 ⟨k36, List.forall_mem_cons.2 ⟨k37, List.forall_mem_cons.2 ⟨k38, List.forall_mem_cons.2 ⟨k39, List.forall_mem_cons.2 ⟨k41, List.forall_mem_cons.2 ⟨k52, List.forall_mem_cons.2 ⟨k66, List.forall_mem_cons.2 ⟨k67, List.forall_mem_cons.2 ⟨k68, List.forall_mem_cons.2 ⟨k69, List.forall_mem_cons.2 ⟨k70, List.forall_mem_cons.2 ⟨k71, List.forall_mem_cons.2 ⟨k77, List.forall_mem_cons.2 ⟨k90, List.forall_mem_cons.2 ⟨k92, List.forall_mem_cons.2 ⟨k111, fun p hp => absurd hp List.not_mem_nil⟩⟩⟩⟩⟩⟩⟩⟩⟩⟩⟩⟩⟩⟩⟩⟩⟩⟩⟩⟩⟩⟩⟩⟩⟩⟩⟩⟩⟩⟩⟩⟩⟩⟩⟩⟩⟩⟩⟩
noncomputable def tEL : T Ent := tabE qeL
noncomputable def tQL : T (Phi → HF) := tabP qeL
theorem tQL_ok : TabQ 1000000 tEL tQL := ⟨fun f => (tabE_get qeL_ok f).2, fun f x hx => by
  obtain ⟨q, h1, h2, _⟩ := (tabE_get qeL_ok f).1 x hx
  exact ⟨q, h1, h2⟩⟩
theorem tEL_ok : TabOk Tryd.prog 3 (fun _ => false) tEL := fun f x h => by
  obtain ⟨_, _, _, h3⟩ := (tabE_get qeL_ok f).1 x h
  exact h3
def noF (_ : FuncId) (_ : List AV) (σ : AH) : Out := bad σ
theorem noF_ok {Y : List Yl} : FnOk Tryd.prog 3 noF Y := fun _ _ _ h => by cases h
noncomputable def gL : FuncId → List AV → AH → Out := wnF (srF (ciF noF))
theorem gL_ok : FnOk Tryd.prog 3 gL [] := wnF_ok (srF_ok (ciF_ok noF_ok))
theorem gamL_ok : GamOk Tryd.prog 3 (Gam.grow std 1000000 tEL Sp.none (.of gL) 41) [] := (grow_ok mixed tEL_ok Sp.none_ok (fun f h => by cases h) 41 (.of gL_ok) hpu0').1
noncomputable def bQL : FuncId → HF := fun f l σ k => Bool.rec (Bool.rec (Bool.rec (Bool.rec .bad (ixQ l σ k) (Nat.beq f 89)) (ctQ l σ k) (Nat.beq f 88)) (srQ l σ k) (Nat.beq f 29)) (wiQ l σ k) (Nat.beq f 40)
theorem bQL_ok (f : FuncId) : HOk (bQL f) ((Gam.of gL).fn f) := fun l σ k => by
  show Sm (Bool.rec (Bool.rec (Bool.rec (Bool.rec .bad (ixQ l σ k) (Nat.beq f 89)) (ctQ l σ k) (Nat.beq f 88)) (srQ l σ k) (Nat.beq f 29)) (wiQ l σ k) (Nat.beq f 40)) k (gL f (αL l) (αH σ))
  have e : gL f (αL l) (αH σ) = bif Nat.beq f 40 then wiA (αL l) (αH σ) else bif Nat.beq f 29 then srtA (αL l) (αH σ) else bif Nat.beq f 88 then ctA (αL l) (αH σ) else bif Nat.beq f 89 then ixA (αL l) (αH σ) else bad (αH σ) := by unfold gL wnF srF ciF noF; rfl
  rw [e]
  cases Nat.beq f 40 with
  | true => exact wiQ_sm l σ k
  | false =>
  cases Nat.beq f 29 with
  | true => exact srQ_sm l σ k
  | false =>
  cases Nat.beq f 88 with
  | true => exact ctQ_sm l σ k
  | false =>
  cases Nat.beq f 89 with
  | true => exact ixQ_sm l σ k
  | false =>
  exact Sm.bad
noncomputable def y0L : Nat → HF := fun _ _ _ _ => .bad
noncomputable def ΦG (n : Nat) (y : Nat → HF) : Phi := PhiG tQL n bQL y
theorem ΦG_at (n : Nat) (y : Nat → HF) {f : Nat} {q : Phi → HF} (h : tQL.get f = some q) : Phi.fn (ΦG (n + 1) y) f = q (ΦG n y) := by
  funext l σ k
  show tg tQL f (bQL f l σ k) (fun q => q (PhiG tQL n bQL y) l σ k) = _
  rw [tg_eq, h]; rfl
theorem ΦG_no (n : Nat) (y : Nat → HF) {f : Nat} (h : tQL.get f = none) : Phi.fn (ΦG (n + 1) y) f = bQL f := by
  funext l σ k
  show tg tQL f (bQL f l σ k) (fun q => q (PhiG tQL n bQL y) l σ k) = _
  rw [tg_eq, h]
theorem ΦG_up (n : Nat) (y : Nat → HF) (j : Nat) (Y : HF) : Phi.up (ΦG (n + 1) y) j Y = ΦG n fun i => Bool.rec (y i) Y (Nat.beq i j) := rfl
theorem ΦG_yl (n : Nat) (y : Nat → HF) : Phi.yl (ΦG n y) = y := by cases n <;> rfl
theorem at3 (n : Nat) (y : Nat → HF) : Phi.fn (ΦG (n + 1) y) 3 = p3 zO (ΦG n y) := ΦG_at n y (q := p3 zO) (by kernel_rfl)
theorem at7 (n : Nat) (y : Nat → HF) : Phi.fn (ΦG (n + 1) y) 7 = p7 zO (ΦG n y) := ΦG_at n y (q := p7 zO) (by kernel_rfl)
theorem at8 (n : Nat) (y : Nat → HF) : Phi.fn (ΦG (n + 1) y) 8 = p8 zO (ΦG n y) := ΦG_at n y (q := p8 zO) (by kernel_rfl)
theorem at9 (n : Nat) (y : Nat → HF) : Phi.fn (ΦG (n + 1) y) 9 = p9 zO (ΦG n y) := ΦG_at n y (q := p9 zO) (by kernel_rfl)
theorem at10 (n : Nat) (y : Nat → HF) : Phi.fn (ΦG (n + 1) y) 10 = p10 zO (ΦG n y) := ΦG_at n y (q := p10 zO) (by kernel_rfl)
theorem at11 (n : Nat) (y : Nat → HF) : Phi.fn (ΦG (n + 1) y) 11 = p11 zO (ΦG n y) := ΦG_at n y (q := p11 zO) (by kernel_rfl)
theorem at12 (n : Nat) (y : Nat → HF) : Phi.fn (ΦG (n + 1) y) 12 = p12 zO (ΦG n y) := ΦG_at n y (q := p12 zO) (by kernel_rfl)
theorem at13 (n : Nat) (y : Nat → HF) : Phi.fn (ΦG (n + 1) y) 13 = p13 zO (ΦG n y) := ΦG_at n y (q := p13 zO) (by kernel_rfl)
theorem at14 (n : Nat) (y : Nat → HF) : Phi.fn (ΦG (n + 1) y) 14 = p14 zO (ΦG n y) := ΦG_at n y (q := p14 zO) (by kernel_rfl)
theorem at15 (n : Nat) (y : Nat → HF) : Phi.fn (ΦG (n + 1) y) 15 = p15 zO (ΦG n y) := ΦG_at n y (q := p15 zO) (by kernel_rfl)
theorem at16 (n : Nat) (y : Nat → HF) : Phi.fn (ΦG (n + 1) y) 16 = p16 zO (ΦG n y) := ΦG_at n y (q := p16 zO) (by kernel_rfl)
theorem at17 (n : Nat) (y : Nat → HF) : Phi.fn (ΦG (n + 1) y) 17 = p17 zO (ΦG n y) := ΦG_at n y (q := p17 zO) (by kernel_rfl)
theorem at18 (n : Nat) (y : Nat → HF) : Phi.fn (ΦG (n + 1) y) 18 = p18 zO (ΦG n y) := ΦG_at n y (q := p18 zO) (by kernel_rfl)
theorem at19 (n : Nat) (y : Nat → HF) : Phi.fn (ΦG (n + 1) y) 19 = p19 zO (ΦG n y) := ΦG_at n y (q := p19 zO) (by kernel_rfl)
theorem at20 (n : Nat) (y : Nat → HF) : Phi.fn (ΦG (n + 1) y) 20 = p20 zO (ΦG n y) := ΦG_at n y (q := p20 zO) (by kernel_rfl)
theorem at26 (n : Nat) (y : Nat → HF) : Phi.fn (ΦG (n + 1) y) 26 = p26 zO (ΦG n y) := ΦG_at n y (q := p26 zO) (by kernel_rfl)
theorem at28 (n : Nat) (y : Nat → HF) : Phi.fn (ΦG (n + 1) y) 28 = p28 zO (ΦG n y) := ΦG_at n y (q := p28 zO) (by kernel_rfl)
theorem at30 (n : Nat) (y : Nat → HF) : Phi.fn (ΦG (n + 1) y) 30 = p30 zO (ΦG n y) := ΦG_at n y (q := p30 zO) (by kernel_rfl)
theorem at31 (n : Nat) (y : Nat → HF) : Phi.fn (ΦG (n + 1) y) 31 = p31 zO (ΦG n y) := ΦG_at n y (q := p31 zO) (by kernel_rfl)
theorem at32 (n : Nat) (y : Nat → HF) : Phi.fn (ΦG (n + 1) y) 32 = p32 zO (ΦG n y) := ΦG_at n y (q := p32 zO) (by kernel_rfl)
theorem at33 (n : Nat) (y : Nat → HF) : Phi.fn (ΦG (n + 1) y) 33 = p33 zO (ΦG n y) := ΦG_at n y (q := p33 zO) (by kernel_rfl)
theorem at34 (n : Nat) (y : Nat → HF) : Phi.fn (ΦG (n + 1) y) 34 = p34 zO (ΦG n y) := ΦG_at n y (q := p34 zO) (by kernel_rfl)
theorem at35 (n : Nat) (y : Nat → HF) : Phi.fn (ΦG (n + 1) y) 35 = p35 zO (ΦG n y) := ΦG_at n y (q := p35 zO) (by kernel_rfl)
theorem at36 (n : Nat) (y : Nat → HF) : Phi.fn (ΦG (n + 1) y) 36 = p36 zO (ΦG n y) := ΦG_at n y (q := p36 zO) (by kernel_rfl)
theorem at37 (n : Nat) (y : Nat → HF) : Phi.fn (ΦG (n + 1) y) 37 = p37 zO (ΦG n y) := ΦG_at n y (q := p37 zO) (by kernel_rfl)
theorem at38 (n : Nat) (y : Nat → HF) : Phi.fn (ΦG (n + 1) y) 38 = p38 zO (ΦG n y) := ΦG_at n y (q := p38 zO) (by kernel_rfl)
theorem at39 (n : Nat) (y : Nat → HF) : Phi.fn (ΦG (n + 1) y) 39 = p39 zO (ΦG n y) := ΦG_at n y (q := p39 zO) (by kernel_rfl)
theorem at41 (n : Nat) (y : Nat → HF) : Phi.fn (ΦG (n + 1) y) 41 = p41 zO (ΦG n y) := ΦG_at n y (q := p41 zO) (by kernel_rfl)
theorem at52 (n : Nat) (y : Nat → HF) : Phi.fn (ΦG (n + 1) y) 52 = p52 zO (ΦG n y) := ΦG_at n y (q := p52 zO) (by kernel_rfl)
theorem at66 (n : Nat) (y : Nat → HF) : Phi.fn (ΦG (n + 1) y) 66 = p66 zO (ΦG n y) := ΦG_at n y (q := p66 zO) (by kernel_rfl)
theorem at67 (n : Nat) (y : Nat → HF) : Phi.fn (ΦG (n + 1) y) 67 = p67 zO (ΦG n y) := ΦG_at n y (q := p67 zO) (by kernel_rfl)
theorem at68 (n : Nat) (y : Nat → HF) : Phi.fn (ΦG (n + 1) y) 68 = p68 zO (ΦG n y) := ΦG_at n y (q := p68 zO) (by kernel_rfl)
theorem at69 (n : Nat) (y : Nat → HF) : Phi.fn (ΦG (n + 1) y) 69 = p69 zO (ΦG n y) := ΦG_at n y (q := p69 zO) (by kernel_rfl)
theorem at70 (n : Nat) (y : Nat → HF) : Phi.fn (ΦG (n + 1) y) 70 = p70 zO (ΦG n y) := ΦG_at n y (q := p70 zO) (by kernel_rfl)
theorem at71 (n : Nat) (y : Nat → HF) : Phi.fn (ΦG (n + 1) y) 71 = p71 zO (ΦG n y) := ΦG_at n y (q := p71 zO) (by kernel_rfl)
theorem at77 (n : Nat) (y : Nat → HF) : Phi.fn (ΦG (n + 1) y) 77 = p77 zO (ΦG n y) := ΦG_at n y (q := p77 zO) (by kernel_rfl)
theorem at90 (n : Nat) (y : Nat → HF) : Phi.fn (ΦG (n + 1) y) 90 = p90 zO (ΦG n y) := ΦG_at n y (q := p90 zO) (by kernel_rfl)
theorem at92 (n : Nat) (y : Nat → HF) : Phi.fn (ΦG (n + 1) y) 92 = p92 zO (ΦG n y) := ΦG_at n y (q := p92 zO) (by kernel_rfl)
theorem at111 (n : Nat) (y : Nat → HF) : Phi.fn (ΦG (n + 1) y) 111 = p111 zO (ΦG n y) := ΦG_at n y (q := p111 zO) (by kernel_rfl)
theorem at88 (n : Nat) (y : Nat → HF) : Phi.fn (ΦG (n + 1) y) 88 = ctQ := (ΦG_no n y (by kernel_rfl)).trans rfl
theorem at89 (n : Nat) (y : Nat → HF) : Phi.fn (ΦG (n + 1) y) 89 = ixQ := (ΦG_no n y (by kernel_rfl)).trans rfl
theorem at29 (n : Nat) (y : Nat → HF) : Phi.fn (ΦG (n + 1) y) 29 = srQ := (ΦG_no n y (by kernel_rfl)).trans rfl
theorem at40 (n : Nat) (y : Nat → HF) : Phi.fn (ΦG (n + 1) y) 40 = wiQ := (ΦG_no n y (by kernel_rfl)).trans rfl
theorem xCnt (n : Nat) (y : Nat → HF) : CntS (Phi.fn (ΦG (n + 1) y) 88) := by rw [at88]; exact ct_s
theorem xIx (n : Nat) (y : Nat → HF) : IxS (Phi.fn (ΦG (n + 1) y) 89) := by rw [at89]; exact ix_s
theorem xWi (n : Nat) (y : Nat → HF) : WithinS (Phi.fn (ΦG (n + 1) y) 40) := by rw [at40]; exact wi_s
theorem xNone (n : Nat) (y : Nat → HF) : NoneS (Phi.fn (ΦG (n + 1) y) 28) := by rw [at28]; exact fun hT => none_s rfl _ hT
theorem xKind (n : Nat) (y : Nat → HF) : KindS (Phi.fn (ΦG (n + 1) y) 35) := by rw [at35]; exact fun hT h1 h2 p => kind_s rfl _ hT h1 h2 p
theorem xHp (n : Nat) (y : Nat → HF) : HpS (Phi.fn (ΦG (n + 2) y) 33) := by rw [at33]; exact fun s p hs n1 m => hp_s rfl _ _ (at66 n y) s p hs n1 m
theorem xNamed (n : Nat) (y : Nat → HF) : NamedS (Phi.fn (ΦG (n + 4) y) 36) := by rw [at36]; exact fun s n1 m hs => named_s rfl _ _ _ _ (at69 (n + 2) y) (at90 (n + 1) y) (at68 n y) s (Nat.le_trans hs (by decide))
theorem xSplit (n : Nat) (y : Nat → HF) : SplitS (Phi.fn (ΦG (n + 3) y) 34) := by rw [at34]; exact split_s rfl _ _ (at67 (n + 1) y) (xCnt n y) (xIx n y)
theorem xLi (n : Nat) (y : Nat → HF) : LiS (Phi.fn (ΦG (n + 2) y) 70) := by rw [at70]; exact li_s rfl _ _ (at77 n y)
theorem xPar (n : Nat) (y : Nat → HF) : ParS (Phi.fn (ΦG (n + 3) y) 37) := by rw [at37]; exact par_s rfl _ (xLi n y)
theorem xJoin (n : Nat) (y : Nat → HF) : JoinS (Phi.fn (ΦG (n + 4) y) 38) := by rw [at38]; exact join_s rfl _ _ _ _ (at71 (n + 2) y) (at92 (n + 1) y) (at111 n y)
theorem xAbs (n : Nat) (y : Nat → HF) : AbsS (Phi.fn (ΦG (n + 5) y) 12) := by rw [at12]; exact abs_s rfl _ (xNone (n + 3) y) (xKind (n + 3) y) (xHp (n + 2) y) (xNamed n y) (xSplit (n + 1) y) (xPar (n + 1) y) (xJoin n y)
theorem xKeys (n : Nat) (y : Nat → HF) : KeysS (ΦG (n + 1) y) := keys_s rfl _ _ (at30 n y) (at29 n y)
theorem xWalk (n : Nat) (y : Nat → HF) (j : Nat) (Y : HF) : WalkS (Phi.fn (Phi.up (ΦG (n + 3) y) j Y) 9) j Y := by
  rw [ΦG_up, at9]
  exact walk_s rfl _ (xNone n _) (xKeys n _) j Y (by rw [ΦG_yl]; show Bool.rec (y j) Y (Nat.beq j j) = Y; rw [Nat.beq_refl])
theorem xUsed (n : Nat) (y : Nat → HF) : UsedS (Phi.fn (ΦG (n + 4) y) 52) := by rw [at52]; exact used_s rfl _ fun j Y => xWalk n y j Y
theorem xPut (n : Nat) (y : Nat → HF) : PutS (Phi.fn (ΦG (n + 5) y) 39) := by rw [at39]; exact put_s rfl _ (xUsed n y)
theorem xMake (n : Nat) (y : Nat → HF) : MakeS (Phi.fn (ΦG (n + 6) y) 14) := by rw [at14]; exact make_s rfl _ (xAbs n y) (xKind (n + 4) y) (xPut n y)
theorem xIs (n : Nat) (y : Nat → HF) : IsS (Phi.fn (ΦG (n + 6) y) 41) := by rw [at41]; exact is_s rfl _ (xAbs n y) (xKind (n + 4) y)
theorem xRead (n : Nat) (y : Nat → HF) : ReadS (Phi.fn (ΦG (n + 7) y) 20) := by rw [at20]; exact read_s rfl _ (xIs n y)
theorem xWrite (n : Nat) (y : Nat → HF) : WriteS (Phi.fn (ΦG (n + 6) y) 13) := by rw [at13]; exact write_s rfl _ (xAbs n y) (xKind (n + 4) y) (xPut n y)
theorem xCd (n : Nat) (y : Nat → HF) : CdS (Phi.fn (ΦG (n + 7) y) 16) := by rw [at16]; exact cd_s rfl _ (xIs n y)
theorem xNew (n : Nat) (y : Nat → HF) : NewS (Phi.fn (ΦG (n + 1) y) 26) := by rw [at26]; exact new_s rfl _
theorem xCwd (n : Nat) (y : Nat → HF) : CwdS (Phi.fn (ΦG (n + 2) y) 11) := by rw [at11]; exact cwd_s rfl _ (xNone n y)
theorem xRemove (n : Nat) (y : Nat → HF) : RemoveS (Phi.fn (ΦG (n + 6) y) 15) := by rw [at15]; exact remove_s rfl _ (xAbs n y) (xKind (n + 4) y) (xJoin (n + 1) y) (xHp (n + 3) y) (xWi (n + 4) y)
theorem xFewL (n : Nat) (y : Nat → HF) : FewL (Phi.fn (ΦG (n + 1) y) 8) := by rw [at8]; exact few_l rfl _
theorem xRunR (n : Nat) (y : Nat → HF) : RunR (Phi.fn (ΦG (n + 8) y) 7) := by rw [at7]; exact run_r rfl _ (xNew (n + 6) y) (xFewL (n + 6) y) (xWrite (n + 1) y) (xMake (n + 1) y) (xRemove (n + 1) y) (xCd n y)
theorem xTells (n : Nat) (y : Nat → HF) : TellsS (Phi.fn (ΦG (n + 8) y) 18) := by rw [at18]; exact tells_s rfl _ (xNew (n + 6) y) (xMake (n + 1) y) (xWrite (n + 1) y) (xCd n y) (xRead n y) (xCwd (n + 5) y)
theorem xWalkN (n : Nat) (y : Nat → HF) (j : Nat) (Y : HF) : WalkN (Phi.fn (Phi.up (ΦG (n + 3) y) j Y) 9) j Y := by
  rw [ΦG_up, at9]
  exact walkN_s rfl _ (xNone n _) (xKeys n _) j Y (by rw [ΦG_yl]; show Bool.rec (y j) Y (Nat.beq j j) = Y; rw [Nat.beq_refl])
theorem xTwo (n : Nat) (y : Nat → HF) : TwoS (Phi.fn (ΦG (n + 1) y) 32) := by rw [at32]; exact two_s rfl _
theorem xTold (n : Nat) (y : Nat → HF) : ToldS (Phi.fn (ΦG (n + 2) y) 31) := by rw [at31]; exact told_s rfl _ (xTwo n y)
theorem xBytes (n : Nat) (y : Nat → HF) : BytesS (Phi.fn (ΦG (n + 4) y) 10) := by rw [at10]; exact bytes_s rfl _ (xNone (n + 2) y) (xTold (n + 1) y) (xTwo (n + 2) y) fun j Y => xWalkN n y j Y
theorem xEqB (n : Nat) (y : Nat → HF) : EqBS (Phi.fn (ΦG (n + 1) y) 17) := by rw [at17]; exact eqB_s rfl _
theorem xKindE (n : Nat) (y : Nat → HF) : KindES (Phi.fn (ΦG (n + 6) y) 19) := by rw [at19]; exact kindE_s rfl _ (xAbs n y) (xKind (n + 4) y)
theorem xKeeps (n : Nat) (y : Nat → HF) : KeepsS (Phi.fn (ΦG (n + 9) y) 3) := by rw [at3]; exact keeps_s rfl _ (xRunR n y) (xFewL (n + 7) y) (xBytes (n + 4) y) (xEqB (n + 7) y) (xAbs (n + 3) y) (xCwd (n + 6) y) (xWrite (n + 2) y) (xMake (n + 2) y) (xRemove (n + 2) y) (xCd (n + 1) y) (xKindE (n + 2) y) (xRead (n + 1) y) (xTells n y) fun j Y => xWalkN (n + 5) y j Y
end Go.Proofs.YtjoakhpdajlhiaaDoor.V2.S
namespace Go.Proofs.YtjoakhpdajlhiaaDoor.V2.S
open Go
set_option linter.unusedVariables false
set_option maxRecDepth 100000
open Go.RowKit
def kE : KV := fun v _ => .ok v ⟨0, .leaf⟩
theorem finish {w : World} (hs : 3 ≤ w.heap.size) {os : List AObj} {rs : List (Option (Nat × (Nat × Nat)))} (hl : os.length ≤ 900000) (hlen : rs.length = os.length) (hsh : ∀ o ∈ os, o.isSh = true)
    (h : ∀ (i c : Nat) (d : Nat × Nat) (o : AObj), rs[i]? = some (some (c, d)) → os[i]? = some o → c < w.heap.size ∧ ∀ ρ, OR ρ d o w.heap[c]?) {f : Nat} {l : List FV} {vs : List Value} (hv : VRs (rL (rF rs)) (αL l) vs)
    (hrun : Phi.fn (ΦG 41 y0L) f l ⟨3 + os.length, sF os⟩ kE = .ok (.b true) ⟨0, .leaf⟩) : Calls Tryd.prog f vs.toArray w fun e w' => e = .returned (.bool true) ∧ Below w.heap.size w w' := by
  have hΦ : PhiOk (ΦG 41 y0L) (Gam.grow std 1000000 tEL Sp.none (.of gL) 41) := PhiG_ok tQL_ok 41 bQL_ok fun j l σ k => Sm.bad
  have hσ : αH ⟨3 + os.length, sF os⟩ = hL (memF os) := by
    have := αβH (hL (memF os))
    rw [show 3 + os.length = (hL (memF os)).next by show _ = os.length + 1 + 1 + 1; omega]
    exact this
  obtain ⟨x, σ', h1, h2⟩ := hΦ.fn f l ⟨3 + os.length, sF os⟩ kE (by rw [hrun]; exact fun h => by cases h)
  rw [hrun] at h2
  rw [hσ] at h1
  cases h2
  have hh := hrF hs hl hlen hsh h
  refine ((gamL_ok.fn f (αL l) (hL (memF os)) (by rw [h1])).2 (rL (rF rs)) w vs (fun y hy => absurd hy List.not_mem_nil) (rF_glob rs) hh hv).mono fun e W' ⟨u, ρ', e1, e2, e3, e4⟩ => ?_
  rw [h1] at e2 e3 e4
  subst e1
  refine ⟨by rw [show u = .bool true from e4], Below.ofStp (by show os.length + 1 + 1 + 1 ≤ _; omega) hh (fun o ho => AObj.isSh_ro (memF_sh hsh o ho)) e3⟩
theorem filesKeepsM (w : World) (hs : 3 ≤ w.heap.size) {v1 : Value} {l : List Ac} {a : Ac} (h1 : RowV w v1 4 l.length (aAs l)) (hm : ∀ a ∈ l, a.m ≤ 65535) (ha : a.m ≤ 65535) : Calls Tryd.prog 3 #[v1, .agg ((aA a).map vO).toArray] w fun e w' => e = .returned (.bool true) ∧ Below w.heap.size w w' := by
  have hA := rowA_of (os := [.cells (aAs l) 25 .ro]) (i := 0) (by show 1 ≤ _; omega) h1 rfl
  have hv2 : ∀ ρ : Ren, VR ρ (αV (.agg (acV a))) (.agg ((aA a).map vO).toArray) := fun ρ => by
    rw [show αV (.agg (acV a)) = .agg (aA a) from by rw [αV, ← aA_β, αβL]]
    unfold VR
    exact ⟨_, rfl, _, _, rfl, Sc.vr rfl, _, _, rfl, Sc.vr rfl, _, _, rfl, Sc.vr rfl, _, _, rfl, Sc.vr rfl, rfl⟩
  refine finish hs (os := [.cells (aAs l) 25 .ro]) (rs := [reF v1 4]) (by show 1 ≤ _; omega) rfl (fun o ho => ?_) (fun i c d o hi ho => ?_) (l := [fvF v1 3 4 l.length, .agg (acV a)]) (vs := [v1, _]) ⟨_, _, rfl, h1.vr rfl, _, _, rfl, hv2 _, rfl⟩ ?_
  · simp only [List.mem_cons, List.not_mem_nil, or_false] at ho
    subst ho; rfl
  · match i with
    | 0 => cases ho; exact h1.or c d (Option.some.inj hi)
    | i + 1 => cases hi
  · exact xKeeps 32 y0L hA hm ha kE _ (by show 3 + 1 + _ ≤ _; decide) (fun n' m' _ _ _ => rfl)
end Go.Proofs.YtjoakhpdajlhiaaDoor.V2.S
