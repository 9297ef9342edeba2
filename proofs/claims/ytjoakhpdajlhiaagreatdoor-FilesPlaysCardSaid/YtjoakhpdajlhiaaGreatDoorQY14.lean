/- Part 14 of the proof: texts of the proof. -/
import Derived.Test.YtjoakhpdajlhiaaGreatDoorQY13
namespace Go.Proofs.YtjoakhpdajlhiaaGreatDoor.V2.S
open Go
set_option linter.unusedVariables false
set_option maxRecDepth 100000
noncomputable def qeL : List Qe := [⟨3, eZ Tryz.f3, p3 zO⟩, ⟨4, eZ Tryz.f4, p4 zO⟩, ⟨5, eZ Tryz.f5, p5 zO⟩, ⟨6, eZ Tryz.f6, p6 zO⟩, ⟨7, eZ Tryz.f7, p7 zO⟩, ⟨8, eZ Tryz.f8, p8 zO⟩, ⟨9, eZ Tryz.f9, p9 zO⟩, ⟨10, eZ Tryz.f10, p10 zO⟩, ⟨11, eZ Tryz.f11, p11 zO⟩, ⟨12, eZ Tryz.f12, p12 zO⟩, ⟨13, eZ Tryz.f13, p13 zO⟩, ⟨15, eZ Tryz.f15, p15 zO⟩, ⟨16, eZ Tryz.f16, p16 zO⟩, ⟨17, eZ Tryz.f17, p17 zO⟩, ⟨18, eZ Tryz.f18, p18 zO⟩, ⟨19, eZ Tryz.f19, p19 zO⟩, ⟨20, eZ Tryz.f20, p20 zO⟩, ⟨21, eZ Tryz.f21, p21 zO⟩, ⟨22, eZ Tryz.f22, p22 zO⟩, ⟨23, eZ Tryz.f23, p23 zO⟩, ⟨24, eZ Tryz.f24, p24 zO⟩, ⟨25, eZ Tryz.f25, p25 zO⟩, ⟨26, eZ Tryz.f26, p26 zO⟩, ⟨27, eZ Tryz.f27, p27 zO⟩, ⟨28, eZ Tryz.f28, p28 zO⟩, ⟨29, eZ Tryz.f29, p29 zO⟩, ⟨30, eZ Tryz.f30, p30 zO⟩, ⟨31, eZ Tryz.f31, p31 zO⟩, ⟨32, eZ Tryz.f32, p32 zO⟩, ⟨33, eZ Tryz.f33, p33 zO⟩, ⟨34, eZ Tryz.f34, p34 zO⟩, ⟨35, eZ Tryz.f35, p35 zO⟩, ⟨36, eZ Tryz.f36, p36 zO⟩, ⟨37, eZ Tryz.f37, p37 zO⟩, ⟨38, eZ Tryz.f38, p38 zO⟩, ⟨40, eZ Tryz.f40, p40 zO⟩, ⟨41, eZ Tryz.f41, p41 zO⟩, ⟨42, eZ Tryz.f42, p42 zO⟩, ⟨43, eZ Tryz.f43, p43 zO⟩, ⟨44, eZ Tryz.f44, p44 zO⟩, ⟨45, eZ Tryz.f45, p45 zO⟩, ⟨46, eZ Tryz.f46, p46 zO⟩, ⟨47, eZ Tryz.f47, p47 zO⟩, ⟨49, eZ Tryz.f49, p49 zO⟩, ⟨50, eZ Tryz.f50, p50 zO⟩, ⟨51, eZ Tryz.f51, p51 zO⟩, ⟨52, eZ Tryz.f52, p52 zO⟩, ⟨53, eZ Tryz.f53, p53 zO⟩, ⟨54, eZ Tryz.f54, p54 zO⟩, ⟨55, eZ Tryz.f55, p55 zO⟩, ⟨57, eZ Tryz.f57, p57 zO⟩, ⟨58, eZ Tryz.f58, p58 zO⟩, ⟨59, eZ Tryz.f59, p59 zO⟩, ⟨60, eZ Tryz.f60, p60 zO⟩, ⟨61, eZ Tryz.f61, p61 zO⟩, ⟨62, eZ Tryz.f62, p62 zO⟩, ⟨63, eZ Tryz.f63, p63 zO⟩, ⟨70, eZ Tryz.f70, p70 zO⟩, ⟨71, eZ Tryz.f71, p71 zO⟩, ⟨73, eZ Tryz.f73, p73 zO⟩, ⟨82, eZ Tryz.f82, p82 zO⟩]
theorem qeL_ok : ∀ p ∈ qeL, QeOk p := by
  unfold qeL
  exact List.forall_mem_cons.2 ⟨k3, List.forall_mem_cons.2 ⟨k4, List.forall_mem_cons.2 ⟨k5, List.forall_mem_cons.2 ⟨k6, List.forall_mem_cons.2 ⟨k7, List.forall_mem_cons.2 ⟨k8, List.forall_mem_cons.2 ⟨k9, List.forall_mem_cons.2 ⟨k10, List.forall_mem_cons.2 ⟨k11, List.forall_mem_cons.2 ⟨k12, List.forall_mem_cons.2 ⟨k13, List.forall_mem_cons.2 ⟨k15, List.forall_mem_cons.2 ⟨k16, List.forall_mem_cons.2 ⟨k17, List.forall_mem_cons.2 ⟨k18, List.forall_mem_cons.2 ⟨k19, List.forall_mem_cons.2 ⟨k20, List.forall_mem_cons.2 ⟨k21, List.forall_mem_cons.2 ⟨k22, List.forall_mem_cons.2 ⟨k23, List.forall_mem_cons.2 ⟨k24, List.forall_mem_cons.2 ⟨k25, List.forall_mem_cons.2 ⟨k26, List.forall_mem_cons.2 ⟨k27, List.forall_mem_cons.2 ⟨k28, List.forall_mem_cons.2 ⟨k29, List.forall_mem_cons.2 ⟨k30, List.forall_mem_cons.2 ⟨k31, List.forall_mem_cons.2 ⟨k32, List.forall_mem_cons.2 ⟨k33, List.forall_mem_cons.2 ⟨k34, List.forall_mem_cons.2 ⟨k35, List.forall_mem_cons.2 ⟨k36, List.forall_mem_cons.2 ⟨k37, List.forall_mem_cons.2 ⟨k38, List.forall_mem_cons.2 ⟨k40, List.forall_mem_cons.2 ⟨k41, List.forall_mem_cons.2 ⟨k42, List.forall_mem_cons.2 ⟨k43, List.forall_mem_cons.2 ⟨k44, List.forall_mem_cons.2 ⟨k45, List.forall_mem_cons.2 ⟨k46, List.forall_mem_cons.2 ⟨k47, List.forall_mem_cons.2 ⟨k49, List.forall_mem_cons.2 ⟨k50, List.forall_mem_cons.2 ⟨k51, List.forall_mem_cons.2 ⟨k52, List.forall_mem_cons.2 ⟨k53, List.forall_mem_cons.2 ⟨k54, List.forall_mem_cons.2 ⟨k55, List.forall_mem_cons.2 ⟨k57, List.forall_mem_cons.2 ⟨k58, List.forall_mem_cons.2 ⟨k59, List.forall_mem_cons.2 ⟨k60, List.forall_mem_cons.2 ⟨k61, List.forall_mem_cons.2 ⟨k62, List.forall_mem_cons.2 ⟨k63, List.forall_mem_cons.2 ⟨k70, List.forall_mem_cons.2 ⟨k71, List.forall_mem_cons.2 ⟨k73, List.forall_mem_cons.2 ⟨k82, fun p hp => absurd hp List.not_mem_nil⟩⟩⟩⟩⟩⟩⟩⟩⟩⟩⟩⟩⟩⟩⟩⟩⟩⟩⟩⟩⟩⟩⟩⟩⟩⟩⟩⟩⟩⟩⟩⟩⟩⟩⟩⟩⟩⟩⟩⟩⟩⟩⟩⟩⟩⟩⟩⟩⟩⟩⟩⟩⟩⟩⟩⟩⟩⟩⟩⟩⟩
noncomputable def tEL : T Ent := tabE qeL
noncomputable def tQL : T (Phi → HF) := tabP qeL
theorem tQL_ok : TabQ 1000000 tEL tQL := ⟨fun f => (Js qeL_ok f).2, fun f x hx => by
  obtain ⟨q, h1, h2, _⟩ := (Js qeL_ok f).1 x hx
  exact ⟨q, h1, h2⟩⟩
theorem tEL_ok : TabOk Tryz.prog 3 (fun _ => false) tEL := fun f x h => by
  obtain ⟨_, _, _, h3⟩ := (Js qeL_ok f).1 x h
  exact h3
def noF (_ : FuncId) (_ : List AV) (σ : AH) : Out := bad σ
theorem noF_ok {Y : List Yl} : FnOk Tryz.prog 3 noF Y := fun _ _ _ h => by cases h
noncomputable def gL : FuncId → List AV → AH → Out := wnF (srF (mdF (ciF noF)))
theorem gL_ok : FnOk Tryz.prog 3 gL [] := wnF_ok (srF_ok (mdF_ok (ciF_ok noF_ok)))
theorem gamL_ok : GamOk Tryz.prog 3 (Gam.grow std 1000000 tEL Sp.none (.of gL) 41) [] := (grow_ok mixed tEL_ok Sp.none_ok (fun f h => by cases h) 41 (.of gL_ok) hpu0').1
noncomputable def bQL : FuncId → HF := fun f l σ k => Bool.rec (Bool.rec (Bool.rec (Bool.rec (Bool.rec .bad (ixQ l σ k) (Nat.beq f 69)) (ctQ l σ k) (Nat.beq f 68)) (cmQ l σ k) (Nat.beq f 14)) (srQ l σ k) (Nat.beq f 56)) (wiQ l σ k) (Nat.beq f 48)
theorem bQL_ok (f : FuncId) : HOk (bQL f) ((Gam.of gL).fn f) := fun l σ k => by
  show Sm (Bool.rec (Bool.rec (Bool.rec (Bool.rec (Bool.rec .bad (ixQ l σ k) (Nat.beq f 69)) (ctQ l σ k) (Nat.beq f 68)) (cmQ l σ k) (Nat.beq f 14)) (srQ l σ k) (Nat.beq f 56)) (wiQ l σ k) (Nat.beq f 48)) k (gL f (αL l) (αH σ))
  have e : gL f (αL l) (αH σ) = bif Nat.beq f 48 then wiA (αL l) (αH σ) else bif Nat.beq f 56 then srtA (αL l) (αH σ) else bif Nat.beq f 14 then cmA (αL l) (αH σ) else bif Nat.beq f 68 then ctA (αL l) (αH σ) else bif Nat.beq f 69 then ixA (αL l) (αH σ) else bad (αH σ) := by unfold gL wnF srF mdF ciF noF cmA; rfl
  rw [e]
  cases Nat.beq f 48 with
  | true => exact wiQ_sm l σ k
  | false =>
  cases Nat.beq f 56 with
  | true => exact srQ_sm l σ k
  | false =>
  cases Nat.beq f 14 with
  | true => exact cmQ_sm l σ k
  | false =>
  cases Nat.beq f 68 with
  | true => exact ctQ_sm l σ k
  | false =>
  cases Nat.beq f 69 with
  | true => exact ixQ_sm l σ k
  | false =>
  exact Sm.bad
noncomputable def y0L : Nat → HF := fun _ _ _ _ => .bad
noncomputable def ΦG (n : Nat) (y : Nat → HF) : Phi := PhiG tQL n bQL y
theorem ΦG_at (n : Nat) (y : Nat → HF) {f : Nat} {q : Phi → HF} (h : tQL.get f = some q) : Phi.fn (ΦG (n + 1) y) f = q (ΦG n y) := by
  funext l σ k
  show tg tQL f (bQL f l σ k) (fun q => q (PhiG tQL n bQL y) l σ k) = _
  rw [tg_eq, h]; rfl
theorem ΦG_no (n : Nat) (y : Nat → HF) {f : Nat} (h : tQL.get f = none) : Phi.fn (ΦG (n + 1) y) f = bQL f := by
  funext l σ k
  show tg tQL f (bQL f l σ k) (fun q => q (PhiG tQL n bQL y) l σ k) = _
  rw [tg_eq, h]
theorem ΦG_up (n : Nat) (y : Nat → HF) (j : Nat) (Y : HF) : Phi.up (ΦG (n + 1) y) j Y = ΦG n fun i => Bool.rec (y i) Y (Nat.beq i j) := rfl
theorem ΦG_yl (n : Nat) (y : Nat → HF) : Phi.yl (ΦG n y) = y := by cases n <;> rfl
theorem at3 (n : Nat) (y : Nat → HF) : Phi.fn (ΦG (n + 1) y) 3 = p3 zO (ΦG n y) := ΦG_at n y (q := p3 zO) (by kernel_rfl)
theorem at4 (n : Nat) (y : Nat → HF) : Phi.fn (ΦG (n + 1) y) 4 = p4 zO (ΦG n y) := ΦG_at n y (q := p4 zO) (by kernel_rfl)
theorem at5 (n : Nat) (y : Nat → HF) : Phi.fn (ΦG (n + 1) y) 5 = p5 zO (ΦG n y) := ΦG_at n y (q := p5 zO) (by kernel_rfl)
theorem at6 (n : Nat) (y : Nat → HF) : Phi.fn (ΦG (n + 1) y) 6 = p6 zO (ΦG n y) := ΦG_at n y (q := p6 zO) (by kernel_rfl)
theorem at7 (n : Nat) (y : Nat → HF) : Phi.fn (ΦG (n + 1) y) 7 = p7 zO (ΦG n y) := ΦG_at n y (q := p7 zO) (by kernel_rfl)
theorem at8 (n : Nat) (y : Nat → HF) : Phi.fn (ΦG (n + 1) y) 8 = p8 zO (ΦG n y) := ΦG_at n y (q := p8 zO) (by kernel_rfl)
theorem at9 (n : Nat) (y : Nat → HF) : Phi.fn (ΦG (n + 1) y) 9 = p9 zO (ΦG n y) := ΦG_at n y (q := p9 zO) (by kernel_rfl)
theorem at10 (n : Nat) (y : Nat → HF) : Phi.fn (ΦG (n + 1) y) 10 = p10 zO (ΦG n y) := ΦG_at n y (q := p10 zO) (by kernel_rfl)
theorem at11 (n : Nat) (y : Nat → HF) : Phi.fn (ΦG (n + 1) y) 11 = p11 zO (ΦG n y) := ΦG_at n y (q := p11 zO) (by kernel_rfl)
theorem at12 (n : Nat) (y : Nat → HF) : Phi.fn (ΦG (n + 1) y) 12 = p12 zO (ΦG n y) := ΦG_at n y (q := p12 zO) (by kernel_rfl)
theorem at13 (n : Nat) (y : Nat → HF) : Phi.fn (ΦG (n + 1) y) 13 = p13 zO (ΦG n y) := ΦG_at n y (q := p13 zO) (by kernel_rfl)
theorem at15 (n : Nat) (y : Nat → HF) : Phi.fn (ΦG (n + 1) y) 15 = p15 zO (ΦG n y) := ΦG_at n y (q := p15 zO) (by kernel_rfl)
theorem at16 (n : Nat) (y : Nat → HF) : Phi.fn (ΦG (n + 1) y) 16 = p16 zO (ΦG n y) := ΦG_at n y (q := p16 zO) (by kernel_rfl)
theorem at17 (n : Nat) (y : Nat → HF) : Phi.fn (ΦG (n + 1) y) 17 = p17 zO (ΦG n y) := ΦG_at n y (q := p17 zO) (by kernel_rfl)
theorem at18 (n : Nat) (y : Nat → HF) : Phi.fn (ΦG (n + 1) y) 18 = p18 zO (ΦG n y) := ΦG_at n y (q := p18 zO) (by kernel_rfl)
theorem at19 (n : Nat) (y : Nat → HF) : Phi.fn (ΦG (n + 1) y) 19 = p19 zO (ΦG n y) := ΦG_at n y (q := p19 zO) (by kernel_rfl)
theorem at20 (n : Nat) (y : Nat → HF) : Phi.fn (ΦG (n + 1) y) 20 = p20 zO (ΦG n y) := ΦG_at n y (q := p20 zO) (by kernel_rfl)
theorem at21 (n : Nat) (y : Nat → HF) : Phi.fn (ΦG (n + 1) y) 21 = p21 zO (ΦG n y) := ΦG_at n y (q := p21 zO) (by kernel_rfl)
theorem at22 (n : Nat) (y : Nat → HF) : Phi.fn (ΦG (n + 1) y) 22 = p22 zO (ΦG n y) := ΦG_at n y (q := p22 zO) (by kernel_rfl)
theorem at23 (n : Nat) (y : Nat → HF) : Phi.fn (ΦG (n + 1) y) 23 = p23 zO (ΦG n y) := ΦG_at n y (q := p23 zO) (by kernel_rfl)
theorem at24 (n : Nat) (y : Nat → HF) : Phi.fn (ΦG (n + 1) y) 24 = p24 zO (ΦG n y) := ΦG_at n y (q := p24 zO) (by kernel_rfl)
theorem at25 (n : Nat) (y : Nat → HF) : Phi.fn (ΦG (n + 1) y) 25 = p25 zO (ΦG n y) := ΦG_at n y (q := p25 zO) (by kernel_rfl)
theorem at26 (n : Nat) (y : Nat → HF) : Phi.fn (ΦG (n + 1) y) 26 = p26 zO (ΦG n y) := ΦG_at n y (q := p26 zO) (by kernel_rfl)
theorem at27 (n : Nat) (y : Nat → HF) : Phi.fn (ΦG (n + 1) y) 27 = p27 zO (ΦG n y) := ΦG_at n y (q := p27 zO) (by kernel_rfl)
theorem at28 (n : Nat) (y : Nat → HF) : Phi.fn (ΦG (n + 1) y) 28 = p28 zO (ΦG n y) := ΦG_at n y (q := p28 zO) (by kernel_rfl)
theorem at29 (n : Nat) (y : Nat → HF) : Phi.fn (ΦG (n + 1) y) 29 = p29 zO (ΦG n y) := ΦG_at n y (q := p29 zO) (by kernel_rfl)
theorem at30 (n : Nat) (y : Nat → HF) : Phi.fn (ΦG (n + 1) y) 30 = p30 zO (ΦG n y) := ΦG_at n y (q := p30 zO) (by kernel_rfl)
theorem at31 (n : Nat) (y : Nat → HF) : Phi.fn (ΦG (n + 1) y) 31 = p31 zO (ΦG n y) := ΦG_at n y (q := p31 zO) (by kernel_rfl)
theorem at32 (n : Nat) (y : Nat → HF) : Phi.fn (ΦG (n + 1) y) 32 = p32 zO (ΦG n y) := ΦG_at n y (q := p32 zO) (by kernel_rfl)
theorem at33 (n : Nat) (y : Nat → HF) : Phi.fn (ΦG (n + 1) y) 33 = p33 zO (ΦG n y) := ΦG_at n y (q := p33 zO) (by kernel_rfl)
theorem at34 (n : Nat) (y : Nat → HF) : Phi.fn (ΦG (n + 1) y) 34 = p34 zO (ΦG n y) := ΦG_at n y (q := p34 zO) (by kernel_rfl)
theorem at35 (n : Nat) (y : Nat → HF) : Phi.fn (ΦG (n + 1) y) 35 = p35 zO (ΦG n y) := ΦG_at n y (q := p35 zO) (by kernel_rfl)
theorem at36 (n : Nat) (y : Nat → HF) : Phi.fn (ΦG (n + 1) y) 36 = p36 zO (ΦG n y) := ΦG_at n y (q := p36 zO) (by kernel_rfl)
theorem at37 (n : Nat) (y : Nat → HF) : Phi.fn (ΦG (n + 1) y) 37 = p37 zO (ΦG n y) := ΦG_at n y (q := p37 zO) (by kernel_rfl)
theorem at38 (n : Nat) (y : Nat → HF) : Phi.fn (ΦG (n + 1) y) 38 = p38 zO (ΦG n y) := ΦG_at n y (q := p38 zO) (by kernel_rfl)
theorem at40 (n : Nat) (y : Nat → HF) : Phi.fn (ΦG (n + 1) y) 40 = p40 zO (ΦG n y) := ΦG_at n y (q := p40 zO) (by kernel_rfl)
theorem at41 (n : Nat) (y : Nat → HF) : Phi.fn (ΦG (n + 1) y) 41 = p41 zO (ΦG n y) := ΦG_at n y (q := p41 zO) (by kernel_rfl)
theorem at42 (n : Nat) (y : Nat → HF) : Phi.fn (ΦG (n + 1) y) 42 = p42 zO (ΦG n y) := ΦG_at n y (q := p42 zO) (by kernel_rfl)
theorem at43 (n : Nat) (y : Nat → HF) : Phi.fn (ΦG (n + 1) y) 43 = p43 zO (ΦG n y) := ΦG_at n y (q := p43 zO) (by kernel_rfl)
theorem at44 (n : Nat) (y : Nat → HF) : Phi.fn (ΦG (n + 1) y) 44 = p44 zO (ΦG n y) := ΦG_at n y (q := p44 zO) (by kernel_rfl)
theorem at45 (n : Nat) (y : Nat → HF) : Phi.fn (ΦG (n + 1) y) 45 = p45 zO (ΦG n y) := ΦG_at n y (q := p45 zO) (by kernel_rfl)
theorem at46 (n : Nat) (y : Nat → HF) : Phi.fn (ΦG (n + 1) y) 46 = p46 zO (ΦG n y) := ΦG_at n y (q := p46 zO) (by kernel_rfl)
theorem at47 (n : Nat) (y : Nat → HF) : Phi.fn (ΦG (n + 1) y) 47 = p47 zO (ΦG n y) := ΦG_at n y (q := p47 zO) (by kernel_rfl)
theorem at49 (n : Nat) (y : Nat → HF) : Phi.fn (ΦG (n + 1) y) 49 = p49 zO (ΦG n y) := ΦG_at n y (q := p49 zO) (by kernel_rfl)
theorem at50 (n : Nat) (y : Nat → HF) : Phi.fn (ΦG (n + 1) y) 50 = p50 zO (ΦG n y) := ΦG_at n y (q := p50 zO) (by kernel_rfl)
theorem at51 (n : Nat) (y : Nat → HF) : Phi.fn (ΦG (n + 1) y) 51 = p51 zO (ΦG n y) := ΦG_at n y (q := p51 zO) (by kernel_rfl)
theorem at52 (n : Nat) (y : Nat → HF) : Phi.fn (ΦG (n + 1) y) 52 = p52 zO (ΦG n y) := ΦG_at n y (q := p52 zO) (by kernel_rfl)
theorem at53 (n : Nat) (y : Nat → HF) : Phi.fn (ΦG (n + 1) y) 53 = p53 zO (ΦG n y) := ΦG_at n y (q := p53 zO) (by kernel_rfl)
theorem at54 (n : Nat) (y : Nat → HF) : Phi.fn (ΦG (n + 1) y) 54 = p54 zO (ΦG n y) := ΦG_at n y (q := p54 zO) (by kernel_rfl)
theorem at55 (n : Nat) (y : Nat → HF) : Phi.fn (ΦG (n + 1) y) 55 = p55 zO (ΦG n y) := ΦG_at n y (q := p55 zO) (by kernel_rfl)
theorem at57 (n : Nat) (y : Nat → HF) : Phi.fn (ΦG (n + 1) y) 57 = p57 zO (ΦG n y) := ΦG_at n y (q := p57 zO) (by kernel_rfl)
theorem at58 (n : Nat) (y : Nat → HF) : Phi.fn (ΦG (n + 1) y) 58 = p58 zO (ΦG n y) := ΦG_at n y (q := p58 zO) (by kernel_rfl)
theorem at59 (n : Nat) (y : Nat → HF) : Phi.fn (ΦG (n + 1) y) 59 = p59 zO (ΦG n y) := ΦG_at n y (q := p59 zO) (by kernel_rfl)
theorem at60 (n : Nat) (y : Nat → HF) : Phi.fn (ΦG (n + 1) y) 60 = p60 zO (ΦG n y) := ΦG_at n y (q := p60 zO) (by kernel_rfl)
theorem at61 (n : Nat) (y : Nat → HF) : Phi.fn (ΦG (n + 1) y) 61 = p61 zO (ΦG n y) := ΦG_at n y (q := p61 zO) (by kernel_rfl)
theorem at62 (n : Nat) (y : Nat → HF) : Phi.fn (ΦG (n + 1) y) 62 = p62 zO (ΦG n y) := ΦG_at n y (q := p62 zO) (by kernel_rfl)
theorem at63 (n : Nat) (y : Nat → HF) : Phi.fn (ΦG (n + 1) y) 63 = p63 zO (ΦG n y) := ΦG_at n y (q := p63 zO) (by kernel_rfl)
theorem at70 (n : Nat) (y : Nat → HF) : Phi.fn (ΦG (n + 1) y) 70 = p70 zO (ΦG n y) := ΦG_at n y (q := p70 zO) (by kernel_rfl)
theorem at71 (n : Nat) (y : Nat → HF) : Phi.fn (ΦG (n + 1) y) 71 = p71 zO (ΦG n y) := ΦG_at n y (q := p71 zO) (by kernel_rfl)
theorem at73 (n : Nat) (y : Nat → HF) : Phi.fn (ΦG (n + 1) y) 73 = p73 zO (ΦG n y) := ΦG_at n y (q := p73 zO) (by kernel_rfl)
theorem at82 (n : Nat) (y : Nat → HF) : Phi.fn (ΦG (n + 1) y) 82 = p82 zO (ΦG n y) := ΦG_at n y (q := p82 zO) (by kernel_rfl)
theorem at68 (n : Nat) (y : Nat → HF) : Phi.fn (ΦG (n + 1) y) 68 = ctQ := (ΦG_no n y (by kernel_rfl)).trans rfl
theorem at69 (n : Nat) (y : Nat → HF) : Phi.fn (ΦG (n + 1) y) 69 = ixQ := (ΦG_no n y (by kernel_rfl)).trans rfl
theorem at56 (n : Nat) (y : Nat → HF) : Phi.fn (ΦG (n + 1) y) 56 = srQ := (ΦG_no n y (by kernel_rfl)).trans rfl
theorem at48 (n : Nat) (y : Nat → HF) : Phi.fn (ΦG (n + 1) y) 48 = wiQ := (ΦG_no n y (by kernel_rfl)).trans rfl
theorem at14 (n : Nat) (y : Nat → HF) : Phi.fn (ΦG (n + 1) y) 14 = cmQ := (ΦG_no n y (by kernel_rfl)).trans rfl
theorem xCnt (n : Nat) (y : Nat → HF) : CntS (Phi.fn (ΦG (n + 1) y) 68) := by rw [at68]; exact ct_s
theorem xIx (n : Nat) (y : Nat → HF) : IxS (Phi.fn (ΦG (n + 1) y) 69) := by rw [at69]; exact ix_s
theorem xWi (n : Nat) (y : Nat → HF) : WithinS (Phi.fn (ΦG (n + 1) y) 48) := by rw [at48]; exact wi_s
theorem xNone (n : Nat) (y : Nat → HF) : NoneS (Phi.fn (ΦG (n + 1) y) 13) := by rw [at13]; exact fun hT => none_s rfl _ hT
theorem xKind (n : Nat) (y : Nat → HF) : KindS (Phi.fn (ΦG (n + 1) y) 16) := by rw [at16]; exact fun hT h1 h2 p => kind_s rfl _ hT h1 h2 p
theorem xHp (n : Nat) (y : Nat → HF) : HpS (Phi.fn (ΦG (n + 2) y) 40) := by rw [at40]; exact fun s p hs n1 m => hp_s rfl _ _ (at58 n y) s p hs n1 m
theorem xNamed (n : Nat) (y : Nat → HF) : NamedS (Phi.fn (ΦG (n + 4) y) 42) := by rw [at42]; exact fun s n1 m hs => named_s rfl _ _ _ _ (at61 (n + 2) y) (at70 (n + 1) y) (at60 n y) s (Nat.le_trans hs (by decide))
theorem xSplit (n : Nat) (y : Nat → HF) : SplitS (Phi.fn (ΦG (n + 3) y) 41) := by rw [at41]; exact split_s rfl _ _ (at59 (n + 1) y) (xCnt n y) (xIx n y)
theorem xLi (n : Nat) (y : Nat → HF) : LiS (Phi.fn (ΦG (n + 2) y) 62) := by rw [at62]; exact li_s rfl _ _ (at71 n y)
theorem xPar (n : Nat) (y : Nat → HF) : ParS (Phi.fn (ΦG (n + 3) y) 43) := by rw [at43]; exact par_s rfl _ (xLi n y)
theorem xJoin (n : Nat) (y : Nat → HF) : JoinS (Phi.fn (ΦG (n + 4) y) 44) := by rw [at44]; exact join_s rfl _ _ _ _ (at63 (n + 2) y) (at73 (n + 1) y) (at82 n y)
theorem xAbs (n : Nat) (y : Nat → HF) : AbsS (Phi.fn (ΦG (n + 5) y) 15) := by rw [at15]; exact abs_s rfl _ (xNone (n + 3) y) (xKind (n + 3) y) (xHp (n + 2) y) (xNamed n y) (xSplit (n + 1) y) (xPar (n + 1) y) (xJoin n y)
theorem xKeys (n : Nat) (y : Nat → HF) : KeysS (ΦG (n + 1) y) := keys_s rfl _ _ (at57 n y) (at56 n y)
theorem xWalk (n : Nat) (y : Nat → HF) (j : Nat) (Y : HF) : WalkS (Phi.fn (Phi.up (ΦG (n + 3) y) j Y) 38) j Y := by
  rw [ΦG_up, at38]
  exact walk_s rfl _ (xNone n _) (xKeys n _) j Y (by rw [ΦG_yl]; show Bool.rec (y j) Y (Nat.beq j j) = Y; rw [Nat.beq_refl])
theorem xUsed (n : Nat) (y : Nat → HF) : UsedS (Phi.fn (ΦG (n + 4) y) 33) := by rw [at33]; exact used_s rfl _ fun j Y => xWalk n y j Y
theorem xPut (n : Nat) (y : Nat → HF) : PutS (Phi.fn (ΦG (n + 5) y) 17) := by rw [at17]; exact put_s rfl _ (xUsed n y)
theorem xMake (n : Nat) (y : Nat → HF) : MakeS (Phi.fn (ΦG (n + 6) y) 8) := by rw [at8]; exact make_s rfl _ (xAbs n y) (xKind (n + 4) y) (xPut n y)
theorem xIs (n : Nat) (y : Nat → HF) : IsS (Phi.fn (ΦG (n + 6) y) 18) := by rw [at18]; exact is_s rfl _ (xAbs n y) (xKind (n + 4) y)
theorem xRead (n : Nat) (y : Nat → HF) : ReadS (Phi.fn (ΦG (n + 7) y) 25) := by rw [at25]; exact read_s rfl _ (xIs n y)
theorem xWrite (n : Nat) (y : Nat → HF) : WriteS (Phi.fn (ΦG (n + 6) y) 19) := by rw [at19]; exact write_s rfl _ (xAbs n y) (xKind (n + 4) y) (xPut n y)
theorem xCd (n : Nat) (y : Nat → HF) : CdS (Phi.fn (ΦG (n + 7) y) 9) := by rw [at9]; exact cd_s rfl _ (xIs n y)
theorem xNew (n : Nat) (y : Nat → HF) : NewS (Phi.fn (ΦG (n + 1) y) 4) := by rw [at4]; exact new_s rfl _
theorem xCwd (n : Nat) (y : Nat → HF) : CwdS (Phi.fn (ΦG (n + 2) y) 35) := by rw [at35]; exact cwd_s rfl _ (xNone n y)
theorem xRemove (n : Nat) (y : Nat → HF) : RemoveS (Phi.fn (ΦG (n + 6) y) 22) := by rw [at22]; exact remove_s rfl _ (xAbs n y) (xKind (n + 4) y) (xJoin (n + 1) y) (xHp (n + 3) y) (xWi (n + 4) y)
theorem xFewL (n : Nat) (y : Nat → HF) : FewL (Phi.fn (ΦG (n + 1) y) 6) := by rw [at6]; exact few_l rfl _
theorem xTells (n : Nat) (y : Nat → HF) : TellsS (Phi.fn (ΦG (n + 8) y) 12) := by rw [at12]; exact tells_s rfl _ (xNew (n + 6) y) (xMake (n + 1) y) (xWrite (n + 1) y) (xCd n y) (xRead n y) (xCwd (n + 5) y)
theorem xWalkN (n : Nat) (y : Nat → HF) (j : Nat) (Y : HF) : WalkN (Phi.fn (Phi.up (ΦG (n + 3) y) j Y) 38) j Y := by
  rw [ΦG_up, at38]
  exact walkN_s rfl _ (xNone n _) (xKeys n _) j Y (by rw [ΦG_yl]; show Bool.rec (y j) Y (Nat.beq j j) = Y; rw [Nat.beq_refl])
theorem xTwo (n : Nat) (y : Nat → HF) : TwoS (Phi.fn (ΦG (n + 1) y) 54) := by rw [at54]; exact two_s rfl _
theorem xTold (n : Nat) (y : Nat → HF) : ToldS (Phi.fn (ΦG (n + 2) y) 53) := by rw [at53]; exact told_s rfl _ (xTwo n y)
theorem xBytes (n : Nat) (y : Nat → HF) : BytesS (Phi.fn (ΦG (n + 4) y) 36) := by rw [at36]; exact bytes_s rfl _ (xNone (n + 2) y) (xTold (n + 1) y) (xTwo (n + 2) y) fun j Y => xWalkN n y j Y
theorem xKindE (n : Nat) (y : Nat → HF) : KindES (Phi.fn (ΦG (n + 6) y) 30) := by rw [at30]; exact kindE_s rfl _ (xAbs n y) (xKind (n + 4) y)
theorem xClone (n : Nat) (y : Nat → HF) : CloneS (Phi.fn (ΦG (n + 1) y) 14) := by rw [at14]; exact clone_s
theorem xCopy (n : Nat) (y : Nat → HF) : CopyS (Phi.fn (ΦG (n + 2) y) 7) := by rw [at7]; exact copy_s rfl _ (xNone n y) (xClone n y)
theorem xFindR (n : Nat) (y : Nat → HF) : FindR (Phi.fn (ΦG (n + 1) y) 46) := by rw [at46]; exact find_r rfl _
theorem I7 (n : Nat) (y : Nat → HF) : Ks (Phi.fn (ΦG (n + 2) y) 45) := by rw [at45]; exact kind_r rfl _ (xFindR n y)
theorem xNamedR (n : Nat) (y : Nat → HF) : NamedR (Phi.fn (ΦG (n + 1) y) 52) := by rw [at52]; exact named_r rfl _
theorem xParR (n : Nat) (y : Nat → HF) : ParR (Phi.fn (ΦG (n + 1) y) 49) := by rw [at49]; exact par_r rfl _
theorem xNewR (n : Nat) (y : Nat → HF) : NewR (Phi.fn (ΦG (n + 1) y) 5) := by rw [at5]; exact new_r rfl _
theorem xUsedR (n : Nat) (y : Nat → HF) : UsedR (Phi.fn (ΦG (n + 1) y) 34) := by rw [at34]; exact used_r rfl _
theorem xToldR (n : Nat) (y : Nat → HF) : ToldR (Phi.fn (ΦG (n + 1) y) 55) := by rw [at55]; exact told_r rfl _
theorem xAbsR (n : Nat) (y : Nat → HF) : AbsR (Phi.fn (ΦG (n + 3) y) 32) := by rw [at32]; exact abs_r rfl _ (xNamedR (n + 1) y) (I7 n y) (xParR (n + 1) y)
theorem xIsR (n : Nat) (y : Nat → HF) : IsR (Phi.fn (ΦG (n + 4) y) 51) := by rw [at51]; exact is_r rfl _ (xAbsR n y) (I7 (n + 1) y)
theorem xCdR (n : Nat) (y : Nat → HF) : CdR (Phi.fn (ΦG (n + 5) y) 24) := by rw [at24]; exact cd_r rfl _ (xIsR n y)
theorem xBytesR (n : Nat) (y : Nat → HF) : BytesR (Phi.fn (ΦG (n + 2) y) 37) := by rw [at37]; exact bytes_r rfl _ (xToldR n y)
theorem xPutR (n : Nat) (y : Nat → HF) : PutR (Phi.fn (ΦG (n + 2) y) 47) := by rw [at47]; exact put_r rfl _ (xUsedR n y)
theorem xSame (n : Nat) (y : Nat → HF) : SameS (Phi.fn (ΦG (n + 5) y) 11) := by rw [at11]; exact same_s rfl _ (xUsed n y) (xUsedR (n + 3) y) (xCwd (n + 2) y) (xBytes n y) (xBytesR (n + 2) y) fun j Y => xWalkN (n + 1) y j Y
theorem xKindRE (n : Nat) (y : Nat → HF) : KindRE (Phi.fn (ΦG (n + 4) y) 31) := by rw [at31]; exact kindE_r rfl _ (xAbsR n y) (I7 (n + 1) y)
theorem xIsR2 (n : Nat) (y : Nat → HF) : IsR2 (Phi.fn (ΦG (n + 4) y) 51) := by rw [at51]; exact is_r2 rfl _ (xAbsR n y) (I7 (n + 1) y)
theorem xReadR (n : Nat) (y : Nat → HF) : ReadR (Phi.fn (ΦG (n + 5) y) 26) := by rw [at26]; exact read_r rfl _ (xIsR2 n y) (xFindR (n + 3) y)
theorem xMakeR (n : Nat) (y : Nat → HF) : MakeR (Phi.fn (ΦG (n + 4) y) 21) := by rw [at21]; exact make_r rfl _ (xAbsR n y) (I7 (n + 1) y) (xPutR (n + 1) y)
theorem xWriteR (n : Nat) (y : Nat → HF) : WriteR (Phi.fn (ΦG (n + 4) y) 20) := by rw [at20]; exact write_r rfl _ (xAbsR n y) (I7 (n + 1) y) (xFindR (n + 2) y) (xPutR (n + 1) y)
theorem xWithinR (n : Nat) (y : Nat → HF) : M6 (Phi.fn (ΦG (n + 2) y) 50) := by rw [at50]; exact within_r rfl _ (xParR n y)
theorem xListR (n : Nat) (y : Nat → HF) : ListR (Phi.fn (ΦG (n + 5) y) 28) := by rw [at28]; exact list_r rfl _ (xIsR n y) (xWithinR (n + 2) y)
theorem xListEq (n : Nat) (y : Nat → HF) : ListEq (Phi.fn (ΦG (n + 1) y) 29) := by rw [at29]; exact listeq_s rfl _
theorem xRemoveR (n : Nat) (y : Nat → HF) : RemoveR (Phi.fn (ΦG (n + 4) y) 23) := by rw [at23]; exact remove_r rfl _ (xAbsR n y) (I7 (n + 1) y) (xParR (n + 2) y) (xWithinR (n + 1) y) (xFindR (n + 2) y)
theorem xWithF (n : Nat) (y : Nat → HF) : WithF (Phi.fn (ΦG (n + 1) y) 48) := by rw [at48]; exact wi_f
theorem xListF (n : Nat) (y : Nat → HF) : ListF (Phi.fn (ΦG (n + 7) y) 27) := by rw [at27]; exact list_f rfl _ (xIs n y) (xWithF (n + 5) y)
theorem xOne (n : Nat) (y : Nat → HF) : OneR (Phi.fn (ΦG (n + 8) y) 10) := by rw [at10]; exact one_r rfl _ (xWrite (n + 1) y) (xWriteR (n + 3) y) (xMake (n + 1) y) (xMakeR (n + 3) y) (xRemove (n + 1) y) (xRemoveR (n + 3) y) (xCd n y) (xCdR (n + 2) y) (xRead n y) (xReadR (n + 2) y) (xListF n y) (xListR (n + 2) y) (xListEq (n + 6) y) (xKindE (n + 1) y) (xKindRE (n + 3) y) (xAbs (n + 2) y) (xAbsR (n + 4) y)
theorem xPLaw (n : Nat) (y : Nat → HF) : PLaw (Phi.fn (ΦG (n + 9) y) 3) := by rw [at3]; exact plaw_s rfl _ (xNew (n + 7) y) (xNewR (n + 7) y) (xFewL (n + 7) y) (xCopy (n + 6) y) (xMake (n + 2) y) (xCd (n + 1) y) (xOne n y) (xSame (n + 3) y) (xTells n y)
end Go.Proofs.YtjoakhpdajlhiaaGreatDoor.V2.S
namespace Go.Proofs.YtjoakhpdajlhiaaGreatDoor.V2.S
open Go
set_option linter.unusedVariables false
set_option maxRecDepth 100000
open Go.RowKit
def kE : KV := fun v _ => .ok v ⟨0, .leaf⟩
theorem finish {w : World} (hs : 3 ≤ w.heap.size) {os : List AObj} {rs : List (Option (Nat × (Nat × Nat)))} (hl : os.length ≤ 900000) (hlen : rs.length = os.length) (hsh : ∀ o ∈ os, o.isSh = true)
    (h : ∀ (i c : Nat) (d : Nat × Nat) (o : AObj), rs[i]? = some (some (c, d)) → os[i]? = some o → c < w.heap.size ∧ ∀ ρ, OR ρ d o w.heap[c]?) {f : Nat} {l : List FV} {vs : List Value} (hv : VRs (rL (rF rs)) (αL l) vs)
    (hrun : Phi.fn (ΦG 41 y0L) f l ⟨3 + os.length, sF os⟩ kE = .ok (.b true) ⟨0, .leaf⟩) : Calls Tryz.prog f vs.toArray w fun e w' => e = .returned (.bool true) ∧ Below w.heap.size w w' := by
  have hΦ : PhiOk (ΦG 41 y0L) (Gam.grow std 1000000 tEL Sp.none (.of gL) 41) := PhiG_ok tQL_ok 41 bQL_ok fun j l σ k => Sm.bad
  have hσ : αH ⟨3 + os.length, sF os⟩ = hL (memF os) := by
    have := αβH (hL (memF os))
    rw [show 3 + os.length = (hL (memF os)).next by show _ = os.length + 1 + 1 + 1; omega]
    exact this
  obtain ⟨x, σ', h1, h2⟩ := hΦ.fn f l ⟨3 + os.length, sF os⟩ kE (by rw [hrun]; exact fun h => by cases h)
  rw [hrun] at h2
  rw [hσ] at h1
  cases h2
  have hh := hrF hs hl hlen hsh h
  refine ((gamL_ok.fn f (αL l) (hL (memF os)) (by rw [h1])).2 (rL (rF rs)) w vs (fun y hy => absurd hy List.not_mem_nil) (rF_glob rs) hh hv).mono fun e W' ⟨u, ρ', e1, e2, e3, e4⟩ => ?_
  rw [h1] at e2 e3 e4
  subst e1
  refine ⟨by rw [show u = .bool true from e4], Below.ofStp (by show os.length + 1 + 1 + 1 ≤ _; omega) hh (fun o ho => AObj.isSh_ro (memF_sh hsh o ho)) e3⟩
theorem filesPlaysM (w : World) (hs : 3 ≤ w.heap.size) {v1 : Value} {l : List Ac} (h1 : RowV w v1 4 l.length (aAs l)) (hm : ∀ a ∈ l, a.m ≤ 65535) : Calls Tryz.prog 3 #[v1] w fun e w' => e = .returned (.bool true) ∧ Below w.heap.size w w' := by
  have hA := rowA_of (os := [.cells (aAs l) 30 .ro]) (i := 0) (by show 1 ≤ _; omega) h1 rfl
  refine finish hs (os := [.cells (aAs l) 30 .ro]) (rs := [reF v1 4]) (by show 1 ≤ _; omega) rfl (fun o ho => ?_) (fun i c d o hi ho => ?_) (l := [fvF v1 3 4 l.length]) (vs := [v1]) ⟨_, _, rfl, h1.vr rfl, rfl⟩ ?_
  · simp only [List.mem_cons, List.not_mem_nil, or_false] at ho
    subst ho; rfl
  · match i with
    | 0 => cases ho; exact h1.or c d (Option.some.inj hi)
    | i + 1 => cases hi
  · exact xPLaw 32 y0L hA hm kE _ (by show 3 + 1 + _ ≤ _; decide) (fun n' m' _ _ _ => rfl)
end Go.Proofs.YtjoakhpdajlhiaaGreatDoor.V2.S
