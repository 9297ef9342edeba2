/- Part 13 of the proof: texts of the proof. -/
import Derived.Test.YtfdfdagbeeeomaaDoorQL12
import Derived.Test.YtfdfdagbeeeomaaDoorCards
import Derived.Test.YtfdfdagbeeeomaaDoorTie
import Derived.LaidMore
import Derived.ProofKit
import Derived.OpenShut
import Derived.Carry
import Derived.Deep.DeepHandedRow
import Derived.Deep.Matrix
import Derived.Lib.LaidTab
import Derived.Stop.LaidErr
namespace Go.Proofs.YtfdfdagbeeeomaaDoor.V2.S
open Go
set_option linter.unusedVariables false
set_option maxRecDepth 100000
noncomputable def qeL:List Qe:=[⟨3,eZ Tryd.f3,p3 zO⟩,⟨5,eZ Tryd.f5,p5 zO⟩,⟨6,eZ Tryd.f6,p6 zO⟩,⟨7,eZ Tryd.f7,p7 zO⟩,⟨8,eZ Tryd.f8,p8 zO⟩,⟨9,eZ Tryd.f9,p9 zO⟩,⟨10,eZ Tryd.f10,p10 zO⟩,⟨11,eZ Tryd.f11,p11 zO⟩,⟨12,eZ Tryd.f12,p12 zO⟩,⟨20,eZ Tryd.f20,p20 zO⟩,⟨21,eZ Tryd.f21,p21 zO⟩,⟨22,eZ Tryd.f22,p22 zO⟩,⟨23,eZ Tryd.f23,p23 zO⟩,⟨24,eZ Tryd.f24,p24 zO⟩,⟨25,eZ Tryd.f25,p25 zO⟩,⟨26,eZ Tryd.f26,p26 zO⟩,⟨27,eZ Tryd.f27,p27 zO⟩,⟨28,eZ Tryd.f28,p28 zO⟩,⟨29,eZ Tryd.f29,p29 zO⟩,⟨30,eZ Tryd.f30,p30 zO⟩,⟨31,eZ Tryd.f31,p31 zO⟩,⟨32,eZ Tryd.f32,p32 zO⟩,⟨33,eZ Tryd.f33,p33 zO⟩,⟨34,eZ Tryd.f34,p34 zO⟩,⟨35,eZ Tryd.f35,p35 zO⟩,⟨36,eZ Tryd.f36,p36 zO⟩,⟨37,eZ Tryd.f37,p37 zO⟩,⟨38,eZ Tryd.f38,p38 zO⟩,⟨39,eZ Tryd.f39,p39 zO⟩,⟨40,eZ Tryd.f40,p40 zO⟩,⟨41,eZ Tryd.f41,p41 zO⟩,⟨42,eZ Tryd.f42,p42 zO⟩,⟨43,eZ Tryd.f43,p43 zO⟩,⟨44,eZ Tryd.f44,p44 zO⟩,⟨45,eZ Tryd.f45,p45 zO⟩,⟨46,eZ Tryd.f46,p46 zO⟩,⟨47,eZ Tryd.f47,p47 zO⟩,⟨48,eZ Tryd.f48,p48 zO⟩,⟨49,eZ Tryd.f49,p49 zO⟩,⟨50,eZ Tryd.f50,p50 zO⟩,⟨51,eZ Tryd.f51,p51 zO⟩,⟨52,eZ Tryd.f52,p52 zO⟩,⟨53,eZ Tryd.f53,p53 zO⟩,⟨54,eZ Tryd.f54,p54 zO⟩,⟨55,eZ Tryd.f55,p55 zO⟩,⟨56,eZ Tryd.f56,p56 zO⟩,⟨57,eZ Tryd.f57,p57 zO⟩,⟨58,eZ Tryd.f58,p58 zO⟩,⟨59,eZ Tryd.f59,p59 zO⟩,⟨60,eZ Tryd.f60,p60 zO⟩,⟨61,eZ Tryd.f61,p61 zO⟩,⟨62,eZ Tryd.f62,p62 zO⟩,⟨63,eZ Tryd.f63,p63 zO⟩,⟨64,eZ Tryd.f64,p64 zO⟩,⟨65,eZ Tryd.f65,p65 zO⟩,⟨66,eZ Tryd.f66,p66 zO⟩,⟨69,eZ Tryd.f69,p69 zO⟩,⟨70,eZ Tryd.f70,p70 zO⟩,⟨71,eZ Tryd.f71,p71 zO⟩,⟨72,eZ Tryd.f72,p72 zO⟩,⟨74,eZ Tryd.f74,p74 zO⟩,⟨75,eZ Tryd.f75,p75 zO⟩,⟨81,eZ Tryd.f81,p81 zO⟩,⟨82,eZ Tryd.f82,p82 zO⟩,⟨83,eZ Tryd.f83,p83 zO⟩,⟨92,eZ Tryd.f92,p92 zO⟩,⟨93,eZ Tryd.f93,p93 zO⟩,⟨120,eZ Tryd.f120,p120 zO⟩]
theorem qeL_ok:∀ p ∈ qeL,QeOk p:=by
 unfold qeL
 exact List.forall_mem_cons.2 ⟨k3,List.forall_mem_cons.2 ⟨k5,List.forall_mem_cons.2 ⟨k6,List.forall_mem_cons.2 ⟨k7,List.forall_mem_cons.2 ⟨k8,List.forall_mem_cons.2 ⟨k9,List.forall_mem_cons.2 ⟨k10,List.forall_mem_cons.2 ⟨k11,List.forall_mem_cons.2 ⟨k12,List.forall_mem_cons.2 ⟨k20,List.forall_mem_cons.2 ⟨k21,List.forall_mem_cons.2 ⟨k22,List.forall_mem_cons.2 ⟨k23,List.forall_mem_cons.2 ⟨k24,List.forall_mem_cons.2 ⟨k25,List.forall_mem_cons.2 ⟨k26,List.forall_mem_cons.2 ⟨k27,List.forall_mem_cons.2 ⟨k28,List.forall_mem_cons.2 ⟨k29,List.forall_mem_cons.2 ⟨k30,List.forall_mem_cons.2 ⟨k31,List.forall_mem_cons.2 ⟨k32,List.forall_mem_cons.2 ⟨k33,List.forall_mem_cons.2 ⟨k34,List.forall_mem_cons.2 ⟨k35,List.forall_mem_cons.2 ⟨k36,List.forall_mem_cons.2 ⟨k37,List.forall_mem_cons.2 ⟨k38,List.forall_mem_cons.2 ⟨k39,List.forall_mem_cons.2 ⟨k40,List.forall_mem_cons.2 ⟨k41,List.forall_mem_cons.2 ⟨k42,List.forall_mem_cons.2 ⟨k43,List.forall_mem_cons.2 ⟨k44,List.forall_mem_cons.2 ⟨k45,List.forall_mem_cons.2 ⟨k46,List.forall_mem_cons.2 ⟨k47,List.forall_mem_cons.2 ⟨k48,List.forall_mem_cons.2 ⟨k49,List.forall_mem_cons.2 ⟨k50,List.forall_mem_cons.2 ⟨k51,List.forall_mem_cons.2 ⟨k52,List.forall_mem_cons.2 ⟨k53,List.forall_mem_cons.2 ⟨k54,List.forall_mem_cons.2 ⟨k55,List.forall_mem_cons.2 ⟨k56,List.forall_mem_cons.2 ⟨k57,List.forall_mem_cons.2 ⟨k58,List.forall_mem_cons.2 ⟨k59,List.forall_mem_cons.2 ⟨k60,List.forall_mem_cons.2 ⟨k61,List.forall_mem_cons.2 ⟨k62,List.forall_mem_cons.2 ⟨k63,List.forall_mem_cons.2 ⟨k64,List.forall_mem_cons.2 ⟨k65,List.forall_mem_cons.2 ⟨k66,List.forall_mem_cons.2 ⟨k69,List.forall_mem_cons.2 ⟨k70,List.forall_mem_cons.2 ⟨k71,List.forall_mem_cons.2 ⟨k72,List.forall_mem_cons.2 ⟨k74,List.forall_mem_cons.2 ⟨k75,List.forall_mem_cons.2 ⟨k81,List.forall_mem_cons.2 ⟨k82,List.forall_mem_cons.2 ⟨k83,List.forall_mem_cons.2 ⟨k92,List.forall_mem_cons.2 ⟨k93,List.forall_mem_cons.2 ⟨k120,fun p hp=>absurd hp List.not_mem_nil⟩⟩⟩⟩⟩⟩⟩⟩⟩⟩⟩⟩⟩⟩⟩⟩⟩⟩⟩⟩⟩⟩⟩⟩⟩⟩⟩⟩⟩⟩⟩⟩⟩⟩⟩⟩⟩⟩⟩⟩⟩⟩⟩⟩⟩⟩⟩⟩⟩⟩⟩⟩⟩⟩⟩⟩⟩⟩⟩⟩⟩⟩⟩⟩⟩⟩⟩⟩
noncomputable def tEL:T Ent:=tabE qeL
noncomputable def tQL:T (Phi → HF):=tabP qeL
theorem tQL_ok:TabQ 1000000 tEL tQL:=⟨fun f=>(Kn qeL_ok f).2,fun f x hx=>by
 obtain ⟨q,h1,h2,_⟩:=(Kn qeL_ok f).1 x hx
 exact ⟨q,h1,h2⟩⟩
theorem tEL_ok:TabOk Tryd.prog 4 (fun _=>false) tEL:=fun f x h=>by
 obtain ⟨_,_,_,h3⟩:=(Kn qeL_ok f).1 x h
 exact h3
def noF (_:FuncId) (_:List AV) (σ:AH):Out:=bad σ
theorem noF_ok {Y:List Yl}:FnOk Tryd.prog 4 noF Y:=fun _ _ _ h=>by cases h
noncomputable def gL:FuncId → List AV → AH → Out:=hmF (crF noF)
theorem gL_ok:FnOk Tryd.prog 4 gL []:=hmF_ok (crF_ok noF_ok)
theorem gamL_ok:GamOk Tryd.prog 4 (Gam.grow std 1000000 tEL Sp.none (.of gL) 41) []:=(grow_ok mixed tEL_ok Sp.none_ok (fun f h=>by cases h) 41 (.of gL_ok) hpu0').1
noncomputable def bQL:FuncId → HF:=fun f l σ k=>Bool.rec (Bool.rec .bad (crQ l σ k) (Nat.beq f 67)) (hmQ l σ k) (Nat.beq f 68)
theorem bQL_ok (f:FuncId):HOk (bQL f) ((Gam.of gL).fn f):=fun l σ k=>by
 show Sm (Bool.rec (Bool.rec .bad (crQ l σ k) (Nat.beq f 67)) (hmQ l σ k) (Nat.beq f 68)) k (gL f (αL l) (αH σ))
 have e:gL f (αL l) (αH σ)=bif Nat.beq f 68 then hmA (αL l) (αH σ) else bif Nat.beq f 67 then crA (αL l) (αH σ) else bad (αH σ):=by unfold gL hmF crF noF;rfl
 rw [e]
 cases Nat.beq f 68 with
 | true=>exact hmQ_sm l σ k
 | false =>
 cases Nat.beq f 67 with
 | true=>exact crQ_sm l σ k
 | false =>
 exact Sm.bad
noncomputable def y0L:Nat → HF:=fun _ _ _ _=>.bad
noncomputable def ΦG (n:Nat) (y:Nat → HF):Phi:=PhiG tQL n bQL y
theorem ΦG_at (n:Nat) (y:Nat → HF) {f:Nat} {q:Phi → HF} (h:tQL.get f=some q):Phi.fn (ΦG (n + 1) y) f=q (ΦG n y):=by
 funext l σ k
 show tg tQL f (bQL f l σ k) (fun q=>q (PhiG tQL n bQL y) l σ k)=_
 rw [tg_eq,h];rfl
theorem ΦG_no (n:Nat) (y:Nat → HF) {f:Nat} (h:tQL.get f=none):Phi.fn (ΦG (n + 1) y) f=bQL f:=by
 funext l σ k
 show tg tQL f (bQL f l σ k) (fun q=>q (PhiG tQL n bQL y) l σ k)=_
 rw [tg_eq,h]
theorem ΦG_up (n:Nat) (y:Nat → HF) (j:Nat) (Y:HF):Phi.up (ΦG (n + 1) y) j Y=ΦG n fun i=>Bool.rec (y i) Y (Nat.beq i j):=rfl
theorem at3 (n:Nat) (y:Nat → HF):Phi.fn (ΦG (n + 1) y) 3=p3 zO (ΦG n y):=ΦG_at n y (q:=p3 zO) (by kernel_rfl)
theorem at5 (n:Nat) (y:Nat → HF):Phi.fn (ΦG (n + 1) y) 5=p5 zO (ΦG n y):=ΦG_at n y (q:=p5 zO) (by kernel_rfl)
theorem at6 (n:Nat) (y:Nat → HF):Phi.fn (ΦG (n + 1) y) 6=p6 zO (ΦG n y):=ΦG_at n y (q:=p6 zO) (by kernel_rfl)
theorem at7 (n:Nat) (y:Nat → HF):Phi.fn (ΦG (n + 1) y) 7=p7 zO (ΦG n y):=ΦG_at n y (q:=p7 zO) (by kernel_rfl)
theorem at8 (n:Nat) (y:Nat → HF):Phi.fn (ΦG (n + 1) y) 8=p8 zO (ΦG n y):=ΦG_at n y (q:=p8 zO) (by kernel_rfl)
theorem at9 (n:Nat) (y:Nat → HF):Phi.fn (ΦG (n + 1) y) 9=p9 zO (ΦG n y):=ΦG_at n y (q:=p9 zO) (by kernel_rfl)
theorem at10 (n:Nat) (y:Nat → HF):Phi.fn (ΦG (n + 1) y) 10=p10 zO (ΦG n y):=ΦG_at n y (q:=p10 zO) (by kernel_rfl)
theorem at11 (n:Nat) (y:Nat → HF):Phi.fn (ΦG (n + 1) y) 11=p11 zO (ΦG n y):=ΦG_at n y (q:=p11 zO) (by kernel_rfl)
theorem at12 (n:Nat) (y:Nat → HF):Phi.fn (ΦG (n + 1) y) 12=p12 zO (ΦG n y):=ΦG_at n y (q:=p12 zO) (by kernel_rfl)
theorem at20 (n:Nat) (y:Nat → HF):Phi.fn (ΦG (n + 1) y) 20=p20 zO (ΦG n y):=ΦG_at n y (q:=p20 zO) (by kernel_rfl)
theorem at21 (n:Nat) (y:Nat → HF):Phi.fn (ΦG (n + 1) y) 21=p21 zO (ΦG n y):=ΦG_at n y (q:=p21 zO) (by kernel_rfl)
theorem at22 (n:Nat) (y:Nat → HF):Phi.fn (ΦG (n + 1) y) 22=p22 zO (ΦG n y):=ΦG_at n y (q:=p22 zO) (by kernel_rfl)
theorem at23 (n:Nat) (y:Nat → HF):Phi.fn (ΦG (n + 1) y) 23=p23 zO (ΦG n y):=ΦG_at n y (q:=p23 zO) (by kernel_rfl)
theorem at24 (n:Nat) (y:Nat → HF):Phi.fn (ΦG (n + 1) y) 24=p24 zO (ΦG n y):=ΦG_at n y (q:=p24 zO) (by kernel_rfl)
theorem at25 (n:Nat) (y:Nat → HF):Phi.fn (ΦG (n + 1) y) 25=p25 zO (ΦG n y):=ΦG_at n y (q:=p25 zO) (by kernel_rfl)
theorem at26 (n:Nat) (y:Nat → HF):Phi.fn (ΦG (n + 1) y) 26=p26 zO (ΦG n y):=ΦG_at n y (q:=p26 zO) (by kernel_rfl)
theorem at27 (n:Nat) (y:Nat → HF):Phi.fn (ΦG (n + 1) y) 27=p27 zO (ΦG n y):=ΦG_at n y (q:=p27 zO) (by kernel_rfl)
theorem at28 (n:Nat) (y:Nat → HF):Phi.fn (ΦG (n + 1) y) 28=p28 zO (ΦG n y):=ΦG_at n y (q:=p28 zO) (by kernel_rfl)
theorem at29 (n:Nat) (y:Nat → HF):Phi.fn (ΦG (n + 1) y) 29=p29 zO (ΦG n y):=ΦG_at n y (q:=p29 zO) (by kernel_rfl)
theorem at30 (n:Nat) (y:Nat → HF):Phi.fn (ΦG (n + 1) y) 30=p30 zO (ΦG n y):=ΦG_at n y (q:=p30 zO) (by kernel_rfl)
theorem at31 (n:Nat) (y:Nat → HF):Phi.fn (ΦG (n + 1) y) 31=p31 zO (ΦG n y):=ΦG_at n y (q:=p31 zO) (by kernel_rfl)
theorem at32 (n:Nat) (y:Nat → HF):Phi.fn (ΦG (n + 1) y) 32=p32 zO (ΦG n y):=ΦG_at n y (q:=p32 zO) (by kernel_rfl)
theorem at33 (n:Nat) (y:Nat → HF):Phi.fn (ΦG (n + 1) y) 33=p33 zO (ΦG n y):=ΦG_at n y (q:=p33 zO) (by kernel_rfl)
theorem at34 (n:Nat) (y:Nat → HF):Phi.fn (ΦG (n + 1) y) 34=p34 zO (ΦG n y):=ΦG_at n y (q:=p34 zO) (by kernel_rfl)
theorem at35 (n:Nat) (y:Nat → HF):Phi.fn (ΦG (n + 1) y) 35=p35 zO (ΦG n y):=ΦG_at n y (q:=p35 zO) (by kernel_rfl)
theorem at36 (n:Nat) (y:Nat → HF):Phi.fn (ΦG (n + 1) y) 36=p36 zO (ΦG n y):=ΦG_at n y (q:=p36 zO) (by kernel_rfl)
theorem at37 (n:Nat) (y:Nat → HF):Phi.fn (ΦG (n + 1) y) 37=p37 zO (ΦG n y):=ΦG_at n y (q:=p37 zO) (by kernel_rfl)
theorem at38 (n:Nat) (y:Nat → HF):Phi.fn (ΦG (n + 1) y) 38=p38 zO (ΦG n y):=ΦG_at n y (q:=p38 zO) (by kernel_rfl)
theorem at39 (n:Nat) (y:Nat → HF):Phi.fn (ΦG (n + 1) y) 39=p39 zO (ΦG n y):=ΦG_at n y (q:=p39 zO) (by kernel_rfl)
theorem at40 (n:Nat) (y:Nat → HF):Phi.fn (ΦG (n + 1) y) 40=p40 zO (ΦG n y):=ΦG_at n y (q:=p40 zO) (by kernel_rfl)
theorem at41 (n:Nat) (y:Nat → HF):Phi.fn (ΦG (n + 1) y) 41=p41 zO (ΦG n y):=ΦG_at n y (q:=p41 zO) (by kernel_rfl)
theorem at42 (n:Nat) (y:Nat → HF):Phi.fn (ΦG (n + 1) y) 42=p42 zO (ΦG n y):=ΦG_at n y (q:=p42 zO) (by kernel_rfl)
theorem at43 (n:Nat) (y:Nat → HF):Phi.fn (ΦG (n + 1) y) 43=p43 zO (ΦG n y):=ΦG_at n y (q:=p43 zO) (by kernel_rfl)
theorem at44 (n:Nat) (y:Nat → HF):Phi.fn (ΦG (n + 1) y) 44=p44 zO (ΦG n y):=ΦG_at n y (q:=p44 zO) (by kernel_rfl)
theorem at45 (n:Nat) (y:Nat → HF):Phi.fn (ΦG (n + 1) y) 45=p45 zO (ΦG n y):=ΦG_at n y (q:=p45 zO) (by kernel_rfl)
theorem at46 (n:Nat) (y:Nat → HF):Phi.fn (ΦG (n + 1) y) 46=p46 zO (ΦG n y):=ΦG_at n y (q:=p46 zO) (by kernel_rfl)
theorem at47 (n:Nat) (y:Nat → HF):Phi.fn (ΦG (n + 1) y) 47=p47 zO (ΦG n y):=ΦG_at n y (q:=p47 zO) (by kernel_rfl)
theorem at48 (n:Nat) (y:Nat → HF):Phi.fn (ΦG (n + 1) y) 48=p48 zO (ΦG n y):=ΦG_at n y (q:=p48 zO) (by kernel_rfl)
theorem at49 (n:Nat) (y:Nat → HF):Phi.fn (ΦG (n + 1) y) 49=p49 zO (ΦG n y):=ΦG_at n y (q:=p49 zO) (by kernel_rfl)
theorem at50 (n:Nat) (y:Nat → HF):Phi.fn (ΦG (n + 1) y) 50=p50 zO (ΦG n y):=ΦG_at n y (q:=p50 zO) (by kernel_rfl)
theorem at51 (n:Nat) (y:Nat → HF):Phi.fn (ΦG (n + 1) y) 51=p51 zO (ΦG n y):=ΦG_at n y (q:=p51 zO) (by kernel_rfl)
theorem at52 (n:Nat) (y:Nat → HF):Phi.fn (ΦG (n + 1) y) 52=p52 zO (ΦG n y):=ΦG_at n y (q:=p52 zO) (by kernel_rfl)
theorem at53 (n:Nat) (y:Nat → HF):Phi.fn (ΦG (n + 1) y) 53=p53 zO (ΦG n y):=ΦG_at n y (q:=p53 zO) (by kernel_rfl)
theorem at54 (n:Nat) (y:Nat → HF):Phi.fn (ΦG (n + 1) y) 54=p54 zO (ΦG n y):=ΦG_at n y (q:=p54 zO) (by kernel_rfl)
theorem at55 (n:Nat) (y:Nat → HF):Phi.fn (ΦG (n + 1) y) 55=p55 zO (ΦG n y):=ΦG_at n y (q:=p55 zO) (by kernel_rfl)
theorem at56 (n:Nat) (y:Nat → HF):Phi.fn (ΦG (n + 1) y) 56=p56 zO (ΦG n y):=ΦG_at n y (q:=p56 zO) (by kernel_rfl)
theorem at57 (n:Nat) (y:Nat → HF):Phi.fn (ΦG (n + 1) y) 57=p57 zO (ΦG n y):=ΦG_at n y (q:=p57 zO) (by kernel_rfl)
theorem at58 (n:Nat) (y:Nat → HF):Phi.fn (ΦG (n + 1) y) 58=p58 zO (ΦG n y):=ΦG_at n y (q:=p58 zO) (by kernel_rfl)
theorem at59 (n:Nat) (y:Nat → HF):Phi.fn (ΦG (n + 1) y) 59=p59 zO (ΦG n y):=ΦG_at n y (q:=p59 zO) (by kernel_rfl)
theorem at60 (n:Nat) (y:Nat → HF):Phi.fn (ΦG (n + 1) y) 60=p60 zO (ΦG n y):=ΦG_at n y (q:=p60 zO) (by kernel_rfl)
theorem at61 (n:Nat) (y:Nat → HF):Phi.fn (ΦG (n + 1) y) 61=p61 zO (ΦG n y):=ΦG_at n y (q:=p61 zO) (by kernel_rfl)
theorem at62 (n:Nat) (y:Nat → HF):Phi.fn (ΦG (n + 1) y) 62=p62 zO (ΦG n y):=ΦG_at n y (q:=p62 zO) (by kernel_rfl)
theorem at63 (n:Nat) (y:Nat → HF):Phi.fn (ΦG (n + 1) y) 63=p63 zO (ΦG n y):=ΦG_at n y (q:=p63 zO) (by kernel_rfl)
theorem at64 (n:Nat) (y:Nat → HF):Phi.fn (ΦG (n + 1) y) 64=p64 zO (ΦG n y):=ΦG_at n y (q:=p64 zO) (by kernel_rfl)
theorem at65 (n:Nat) (y:Nat → HF):Phi.fn (ΦG (n + 1) y) 65=p65 zO (ΦG n y):=ΦG_at n y (q:=p65 zO) (by kernel_rfl)
theorem at66 (n:Nat) (y:Nat → HF):Phi.fn (ΦG (n + 1) y) 66=p66 zO (ΦG n y):=ΦG_at n y (q:=p66 zO) (by kernel_rfl)
theorem at69 (n:Nat) (y:Nat → HF):Phi.fn (ΦG (n + 1) y) 69=p69 zO (ΦG n y):=ΦG_at n y (q:=p69 zO) (by kernel_rfl)
theorem at70 (n:Nat) (y:Nat → HF):Phi.fn (ΦG (n + 1) y) 70=p70 zO (ΦG n y):=ΦG_at n y (q:=p70 zO) (by kernel_rfl)
theorem at71 (n:Nat) (y:Nat → HF):Phi.fn (ΦG (n + 1) y) 71=p71 zO (ΦG n y):=ΦG_at n y (q:=p71 zO) (by kernel_rfl)
theorem at72 (n:Nat) (y:Nat → HF):Phi.fn (ΦG (n + 1) y) 72=p72 zO (ΦG n y):=ΦG_at n y (q:=p72 zO) (by kernel_rfl)
theorem at74 (n:Nat) (y:Nat → HF):Phi.fn (ΦG (n + 1) y) 74=p74 zO (ΦG n y):=ΦG_at n y (q:=p74 zO) (by kernel_rfl)
theorem at75 (n:Nat) (y:Nat → HF):Phi.fn (ΦG (n + 1) y) 75=p75 zO (ΦG n y):=ΦG_at n y (q:=p75 zO) (by kernel_rfl)
theorem at81 (n:Nat) (y:Nat → HF):Phi.fn (ΦG (n + 1) y) 81=p81 zO (ΦG n y):=ΦG_at n y (q:=p81 zO) (by kernel_rfl)
theorem at82 (n:Nat) (y:Nat → HF):Phi.fn (ΦG (n + 1) y) 82=p82 zO (ΦG n y):=ΦG_at n y (q:=p82 zO) (by kernel_rfl)
theorem at83 (n:Nat) (y:Nat → HF):Phi.fn (ΦG (n + 1) y) 83=p83 zO (ΦG n y):=ΦG_at n y (q:=p83 zO) (by kernel_rfl)
theorem at92 (n:Nat) (y:Nat → HF):Phi.fn (ΦG (n + 1) y) 92=p92 zO (ΦG n y):=ΦG_at n y (q:=p92 zO) (by kernel_rfl)
theorem at93 (n:Nat) (y:Nat → HF):Phi.fn (ΦG (n + 1) y) 93=p93 zO (ΦG n y):=ΦG_at n y (q:=p93 zO) (by kernel_rfl)
theorem at120 (n:Nat) (y:Nat → HF):Phi.fn (ΦG (n + 1) y) 120=p120 zO (ΦG n y):=ΦG_at n y (q:=p120 zO) (by kernel_rfl)
theorem at68 (n:Nat) (y:Nat → HF):Phi.fn (ΦG (n + 1) y) 68=hmQ:=(ΦG_no n y (by kernel_rfl)).trans rfl
theorem at67 (n:Nat) (y:Nat → HF):Phi.fn (ΦG (n + 1) y) 67=crQ:=(ΦG_no n y (by kernel_rfl)).trans rfl
theorem xHm (n:Nat) (y:Nat → HF):HmacY Yr (Phi.fn (ΦG (n + 1) y) 68):=by rw [at68];exact hm_y
theorem xCr (n:Nat) (y:Nat → HF):CrcY Yr (Phi.fn (ΦG (n + 1) y) 67):=by rw [at67];exact crc_y
theorem x_may_s (n:Nat) (y:Nat → HF):MayS (Phi.fn (ΦG (n + 1) y) 57):=by rw [at57];exact may_s rfl _ 
theorem Dd (n:Nat) (y:Nat → HF):F0 (Phi.fn (ΦG (n + 1) y) 29):=by rw [at29];exact clone_s rfl _ 
theorem x_newg_s (n:Nat) (y:Nat → HF):NewG (Phi.fn (ΦG (n + 2) y) 45):=by rw [at45];exact newg_s rfl _ (x_may_s (n + 0) y) (Dd (n + 0) y)
theorem x_ring_s (n:Nat) (y:Nat → HF):RingS (Phi.fn (ΦG (n + 3) y) 12):=by rw [at12];exact ring_s rfl _ (x_newg_s (n + 0) y)
theorem x_newc_s (n:Nat) (y:Nat → HF):NewC (Phi.fn (ΦG (n + 1) y) 20):=by rw [at20];exact newc_s rfl _ 
theorem x_newv_s (n:Nat) (y:Nat → HF):NewV (Phi.fn (ΦG (n + 1) y) 21):=by rw [at21];exact newv_s rfl _ 
theorem x_pair_s (n:Nat) (y:Nat → HF):PairS (Phi.fn (ΦG (n + 4) y) 5):=by rw [at5];exact pair_s rfl _ (x_ring_s (n + 0) y) (x_newc_s (n + 2) y) (x_newv_s (n + 2) y)
theorem E9 (n:Nat) (y:Nat → HF):M8 (Phi.fn (ΦG (n + 1) y) 23):=by rw [at23];exact nonec_s rfl _ 
theorem x_maya_s (n:Nat) (y:Nat → HF):MayA (Phi.fn (ΦG (n + 1) y) 46):=by rw [at46];exact maya_s rfl _ 
theorem x_byte_x (n:Nat) (y:Nat → HF):ByteX (Phi.fn (ΦG (n + 1) y) 26):=by rw [at26];exact byte_x rfl _ 
theorem x_two_x (n:Nat) (y:Nat → HF):LayX (Phi.fn (ΦG (n + 2) y) 59) .u16 2 65536 2 D2:=by rw [at59];exact two_x rfl _ (x_byte_x (n + 0) y)
theorem x_four_x (n:Nat) (y:Nat → HF):LayX (Phi.fn (ΦG (n + 3) y) 39) .u32 4 4294967296 4 Ak:=by rw [at39];exact four_x rfl _ (x_two_x (n + 0) y)
theorem Fe (n:Nat) (y:Nat → HF):Ll (Phi.fn (ΦG (n + 1) y) 26):=by rw [at26];exact byte_s rfl _ 
theorem Cq (n:Nat) (y:Nat → HF):It (Phi.fn (ΦG (n + 2) y) 27):=by rw [at27];exact done_s rfl _ (Fe (n + 0) y) (Dd (n + 0) y)
theorem x_bytesa_s (n:Nat) (y:Nat → HF):BytesA (Phi.fn (ΦG (n + 4) y) 24):=by rw [at24];exact bytesa_s rfl _ (x_maya_s (n + 2) y) (x_four_x (n + 0) y) (Fe (n + 2) y) (Cq (n + 1) y)
theorem x_two_s (n:Nat) (y:Nat → HF):Hf (Phi.fn (ΦG (n + 2) y) 59) .u16 2 65536 2 D2:=by rw [at59];exact two_s rfl _ (Fe (n + 0) y)
theorem El (n:Nat) (y:Nat → HF):Hf (Phi.fn (ΦG (n + 3) y) 39) .u32 4 4294967296 4 Ak:=by rw [at39];exact four_s rfl _ (x_two_s (n + 0) y)
theorem Fa (n:Nat) (y:Nat → HF):Hf (Phi.fn (ΦG (n + 4) y) 25) .u64 8 18446744073709551616 8 Ae:=by rw [at25];exact eight_s rfl _ (El (n + 0) y)
theorem x_text_s (n:Nat) (y:Nat → HF):LayT (Phi.fn (ΦG (n + 3) y) 75):=by rw [at75];exact text_s rfl _ (Fe (n + 1) y) (x_two_s (n + 0) y)
theorem x_derive_s (n:Nat) (y:Nat → HF):DeriveS Yr (Phi.fn (ΦG (n + 4) y) 74):=by rw [at74];exact derive_s (Y:=Yr) rfl _ (x_may_s (n + 2) y) (x_text_s (n + 0) y) (El (n + 0) y) (Fe (n + 2) y) (Cq (n + 1) y) (xHm (n + 2) y)
theorem x_key_s (n:Nat) (y:Nat → HF):KeyS Yr (Phi.fn (ΦG (n + 5) y) 58):=by rw [at58];exact key_s (Y:=Yr) rfl _ (x_derive_s (n + 0) y)
theorem x_hello_s (n:Nat) (y:Nat → HF):HelloS Yr (Phi.fn (ΦG (n + 6) y) 48):=by rw [at48];exact hello_s (Y:=Yr) rfl _ (x_key_s (n + 0) y)
theorem x_bare_s (n:Nat) (y:Nat → HF):BareS (Phi.fn (ΦG (n + 1) y) 120):=by rw [at120];exact bare_s rfl _ 
theorem x_mayf_s (n:Nat) (y:Nat → HF):MayF (Phi.fn (ΦG (n + 2) y) 65):=by rw [at65];exact mayf_s rfl _ (x_bare_s (n + 0) y)
theorem x_layf_s (n:Nat) (y:Nat → HF):LayF (Phi.fn (ΦG (n + 4) y) 66):=by rw [at66];exact layf_s rfl _ (Fe (n + 2) y) (El (n + 0) y) (x_text_s (n + 0) y)
theorem x_sign_s (n:Nat) (y:Nat → HF):SignS (Phi.fn (ΦG (n + 5) y) 50):=by rw [at50];exact sign_s rfl _ (x_mayf_s (n + 2) y) (x_layf_s (n + 0) y) (Cq (n + 2) y)
theorem E4 (n:Nat) (y:Nat → HF):NewR (Phi.fn (ΦG (n + 2) y) 32):=by rw [at32];exact new_r rfl _ (Dd (n + 0) y)
theorem x_take_r (n:Nat) (y:Nat → HF):TakeR (Phi.fn (ΦG (n + 2) y) 55):=by rw [at55];exact take_r rfl _ (Dd (n + 0) y)
theorem Kj (n:Nat) (y:Nat → HF):NumR (Phi.fn (ΦG (n + 3) y) 53):=by rw [at53];exact num_r rfl _ (x_take_r (n + 0) y)
theorem x_eight_g (n:Nat) (y:Nat → HF):EightG (Phi.fn (ΦG (n + 4) y) 33):=by rw [at33];exact eight_g rfl _ (Kj (n + 0) y)
theorem x_tag_s (n:Nat) (y:Nat → HF):TagS Yr (Phi.fn (ΦG (n + 5) y) 49):=by rw [at49];exact tag_s (Y:=Yr) rfl _ (xHm (n + 3) y) (E4 (n + 2) y) (x_eight_g (n + 0) y)
theorem x_enc_s (n:Nat) (y:Nat → HF):EncS Yr (Phi.fn (ΦG (n + 5) y) 47):=by rw [at47];exact enc_s (Y:=Yr) rfl _ (x_mayf_s (n + 2) y) (x_layf_s (n + 0) y) (Fa (n + 0) y) (Cq (n + 2) y) (xCr (n + 3) y) (El (n + 1) y)
theorem x_seal_s (n:Nat) (y:Nat → HF):SealS Yr (Phi.fn (ΦG (n + 7) y) 28):=by rw [at28];exact seal_s (Y:=Yr) rfl _ (x_hello_s (n + 0) y) (x_sign_s (n + 1) y) (x_tag_s (n + 1) y) (x_enc_s (n + 1) y)
theorem x_start_s (n:Nat) (y:Nat → HF):StartS Yr (Phi.fn (ΦG (n + 8) y) 6):=by rw [at6];exact start_s (Y:=Yr) rfl _ (E9 (n + 6) y) (x_bytesa_s (n + 3) y) (Fa (n + 3) y) (Fe (n + 6) y) (Cq (n + 5) y) (x_seal_s (n + 0) y) (Dd (n + 6) y)
theorem Gt (n:Nat) (y:Nat → HF):NoneV (Phi.fn (ΦG (n + 1) y) 30):=by rw [at30];exact nonev_s rfl _ 
theorem x_by_r (n:Nat) (y:Nat → HF):ByR (Phi.fn (ΦG (n + 4) y) 54):=by rw [at54];exact by_r rfl _ (Kj (n + 0) y)
theorem H6 (n:Nat) (y:Nat → HF):FourR (Phi.fn (ΦG (n + 4) y) 42):=by rw [at42];exact four_r rfl _ (Kj (n + 0) y)
theorem x_two_r (n:Nat) (y:Nat → HF):TwoR (Phi.fn (ΦG (n + 4) y) 81):=by rw [at81];exact two_r rfl _ (Kj (n + 0) y)
theorem x_text_r (n:Nat) (y:Nat → HF):TextR (Phi.fn (ΦG (n + 5) y) 69):=by rw [at69];exact text_r rfl _ (x_two_r (n + 0) y) (x_take_r (n + 2) y)
theorem D7 (n:Nat) (y:Nat → HF):Hs (Phi.fn (ΦG (n + 4) y) 33):=by rw [at33];exact eight_r rfl _ (Kj (n + 0) y)
theorem F6 (n:Nat) (y:Nat → HF):ErrR (Phi.fn (ΦG (n + 1) y) 34):=by rw [at34];exact err_r rfl _ 
theorem Gu (n:Nat) (y:Nat → HF):M9 (Phi.fn (ΦG (n + 1) y) 43):=by rw [at43];exact left_r rfl _ 
theorem x_dec_s (n:Nat) (y:Nat → HF):DecS Yr (Phi.fn (ΦG (n + 6) y) 51):=by rw [at51];exact dec_s (Y:=Yr) rfl _ (E4 (n + 3) y) (x_by_r (n + 1) y) (H6 (n + 1) y) (x_text_r (n + 0) y) (Dd (n + 4) y) (D7 (n + 1) y) (F6 (n + 4) y) (Gu (n + 4) y) (xCr (n + 4) y) (x_mayf_s (n + 3) y)
theorem x_idxk_s (n:Nat) (y:Nat → HF):IdxK (Phi.fn (ΦG (n + 1) y) 70):=by rw [at70];exact idxk_s rfl _ 
theorem x_contk_s (n:Nat) (y:Nat → HF):ContK (Phi.fn (ΦG (n + 2) y) 52):=by rw [at52];exact contk_s rfl _ (x_idxk_s (n + 0) y)
theorem Gs (n:Nat) (y:Nat → HF):M7 Yr (Phi.fn (ΦG (n + 7) y) 31):=by rw [at31];exact open_s (Y:=Yr) rfl _ (x_dec_s (n + 0) y) (x_contk_s (n + 4) y) (x_hello_s (n + 0) y) (x_sign_s (n + 1) y) (x_tag_s (n + 1) y)
theorem x_rest_r (n:Nat) (y:Nat → HF):RestR (Phi.fn (ΦG (n + 3) y) 36):=by rw [at36];exact rest_r rfl _ (Gu (n + 1) y) (x_take_r (n + 0) y)
theorem Jz (n:Nat) (y:Nat → HF):ParseA (Phi.fn (ΦG (n + 5) y) 35):=by rw [at35];exact parsea_s rfl _ (E4 (n + 2) y) (H6 (n + 0) y) (x_by_r (n + 0) y) (F6 (n + 3) y) (Gu (n + 3) y) (x_maya_s (n + 3) y)
theorem x_abovea_s (n:Nat) (y:Nat → HF):AboveA (Phi.fn (ΦG (n + 1) y) 71):=by rw [at71];exact abovea_s rfl _ 
theorem x_all_s (n:Nat) (y:Nat → HF):AllS (Phi.fn (ΦG (n + 1) y) 83):=by rw [at83];exact all_s rfl _ 
theorem x_miss_s (n:Nat) (y:Nat → HF):MissS (Phi.fn (ΦG (n + 2) y) 72):=by rw [at72];exact miss_s rfl _ _ (x_all_s (n + 0) y) (at82 (n + 0) y)
theorem x_all1_s (n:Nat) (y:Nat → HF):All1 (Phi.fn (ΦG (n + 1) y) 93):=by rw [at93];exact all1_s rfl _ 
theorem x_those1_s (n:Nat) (y:Nat → HF):Those1 (Phi.fn (ΦG (n + 3) y) 92):=by rw [at92];exact those1_s rfl _ (fun j Y=>by rw [ΦG_up];exact x_all1_s (n + 0) _)
theorem x_fitsa_s (n:Nat) (y:Nat → HF):FitsA (Phi.fn (ΦG (n + 5) y) 56):=by rw [at56];exact fitsa_s rfl _ (x_maya_s (n + 3) y) (x_abovea_s (n + 3) y) (x_miss_s (n + 2) y) (fun j Y=>by rw [ΦG_up];exact x_those1_s (n + 0) _)
theorem x_token_s (n:Nat) (y:Nat → HF):TokenS Yr (Phi.fn (ΦG (n + 6) y) 38):=by rw [at38];exact token_s (Y:=Yr) rfl _ (x_may_s (n + 4) y) (El (n + 2) y) (Cq (n + 3) y) (x_key_s (n + 0) y) (x_tag_s (n + 0) y)
theorem x_accv_s (n:Nat) (y:Nat → HF):AccV Yr (Phi.fn (ΦG (n + 7) y) 37):=by rw [at37];exact accv_s (Y:=Yr) rfl _ (x_fitsa_s (n + 1) y) (x_token_s (n + 0) y)
theorem x_c61 (n:Nat) (y:Nat → HF):LayC (Phi.fn (ΦG (n + 4) y) 61) .u32 4294967296 Ak:=by rw [at61];exact (lay4_s rfl _ (El (n + 0) y)).1
theorem x_p61 (n:Nat) (y:Nat → HF):Lk (Phi.fn (ΦG (n + 5) y) 60) 61 .u32 4294967296 Ak:=by rw [at60];exact part_s rfl _ (x_c61 (n + 0) y) (Cq (n + 2) y) K8 (fun a=>by rw [Ai];decide)
theorem x_c62 (n:Nat) (y:Nat → HF):LayC (Phi.fn (ΦG (n + 4) y) 62) .u32 4294967296 Ak:=by rw [at62];exact (lay4_s rfl _ (El (n + 0) y)).2
theorem x_p62 (n:Nat) (y:Nat → HF):Lk (Phi.fn (ΦG (n + 5) y) 60) 62 .u32 4294967296 Ak:=by rw [at60];exact part_s rfl _ (x_c62 (n + 0) y) (Cq (n + 2) y) K8 (fun a=>by rw [Ai];decide)
theorem x_c63 (n:Nat) (y:Nat → HF):LayC (Phi.fn (ΦG (n + 5) y) 63) .u64 18446744073709551616 Ae:=by rw [at63];exact (lay8_s rfl _ (Fa (n + 0) y)).1
theorem x_p63 (n:Nat) (y:Nat → HF):Lk (Phi.fn (ΦG (n + 6) y) 60) 63 .u64 18446744073709551616 Ae:=by rw [at60];exact part_s rfl _ (x_c63 (n + 0) y) (Cq (n + 3) y) Ef (fun a=>by rw [Ad];decide)
theorem x_c64 (n:Nat) (y:Nat → HF):LayC (Phi.fn (ΦG (n + 5) y) 64) .u64 18446744073709551616 Ae:=by rw [at64];exact (lay8_s rfl _ (Fa (n + 0) y)).2
theorem x_p64 (n:Nat) (y:Nat → HF):Lk (Phi.fn (ΦG (n + 6) y) 60) 64 .u64 18446744073709551616 Ae:=by rw [at60];exact part_s rfl _ (x_c64 (n + 0) y) (Cq (n + 3) y) Ef (fun a=>by rw [Ad];decide)
theorem x_way_s (n:Nat) (y:Nat → HF):WayS Yr (Phi.fn (ΦG (n + 7) y) 41):=by rw [at41];exact way_s (Y:=Yr) rfl _ (x_p61 (n + 1) y) (x_p62 (n + 1) y) (x_p63 (n + 0) y) (x_p64 (n + 0) y) (x_key_s (n + 1) y)
theorem x_keyv_s (n:Nat) (y:Nat → HF):KeyV Yr (Phi.fn (ΦG (n + 8) y) 40):=by rw [at40];exact keyv_s (Y:=Yr) rfl _ (x_way_s (n + 0) y)
theorem x_takea_s (n:Nat) (y:Nat → HF):TakeA Yr (Phi.fn (ΦG (n + 9) y) 7):=by rw [at7];exact takea_s (Y:=Yr) rfl _ (Gt (n + 7) y) (Gs (n + 1) y) (E4 (n + 6) y) (D7 (n + 4) y) (F6 (n + 7) y) (x_rest_r (n + 5) y) (Jz (n + 3) y) (Dd (n + 7) y) (x_accv_s (n + 1) y) (Fa (n + 4) y) (El (n + 5) y) (Cq (n + 6) y) (x_seal_s (n + 1) y) (x_token_s (n + 2) y) (x_keyv_s (n + 0) y)
theorem x_taker0_s (n:Nat) (y:Nat → HF):TakeR0 Yr (Phi.fn (ΦG (n + 8) y) 7):=by rw [at7];exact taker0_s (Y:=Yr) rfl _ (Gt (n + 6) y) (Gs (n + 0) y) (E4 (n + 5) y) (D7 (n + 3) y) (F6 (n + 6) y) (x_rest_r (n + 4) y) (Jz (n + 2) y) (Dd (n + 6) y)
theorem Lm (n:Nat) (y:Nat → HF):WaitC (Phi.fn (ΦG (n + 2) y) 22):=by rw [at22];exact waitc_s rfl _ (E9 (n + 0) y)
theorem Jy (n:Nat) (y:Nat → HF):WaitC0 (Phi.fn (ΦG (n + 2) y) 22):=by rw [at22];exact waitc0_s rfl _ (E9 (n + 0) y)
theorem x_keyc_s (n:Nat) (y:Nat → HF):KeyC Yr (Phi.fn (ΦG (n + 8) y) 44):=by rw [at44];exact keyc_s (Y:=Yr) rfl _ (x_way_s (n + 0) y)
theorem x_takeb_s (n:Nat) (y:Nat → HF):TakeB Yr (Phi.fn (ΦG (n + 9) y) 8):=by rw [at8];exact takeb_s (Y:=Yr) rfl _ (E9 (n + 7) y) (Gs (n + 1) y) (E4 (n + 6) y) (D7 (n + 4) y) (H6 (n + 4) y) (F6 (n + 7) y) (Gu (n + 7) y) (Lm (n + 6) y) (Jy (n + 6) y) (x_keyc_s (n + 0) y)
theorem x_markv_s (n:Nat) (y:Nat → HF):MarkV (Phi.fn (ΦG (n + 2) y) 10):=by rw [at10];exact markv_s rfl _ (Gt (n + 0) y)
theorem x_rejv_s (n:Nat) (y:Nat → HF):RejV Yr (Phi.fn (ΦG (n + 6) y) 37):=by rw [at37];exact rejv_s (Y:=Yr) rfl _ (x_fitsa_s (n + 0) y)
theorem x_takerj_s (n:Nat) (y:Nat → HF):TakeRj Yr (Phi.fn (ΦG (n + 8) y) 7):=by rw [at7];exact takerj_s (Y:=Yr) rfl _ (Gt (n + 6) y) (Gs (n + 0) y) (E4 (n + 5) y) (D7 (n + 3) y) (F6 (n + 6) y) (x_rest_r (n + 4) y) (Jz (n + 2) y) (Dd (n + 6) y) (x_rejv_s (n + 1) y) (Fa (n + 3) y) (Cq (n + 5) y) (x_seal_s (n + 0) y)
theorem x_takest_s (n:Nat) (y:Nat → HF):TakeSt Yr (Phi.fn (ΦG (n + 9) y) 8):=by rw [at8];exact takest_s (Y:=Yr) rfl _ (E9 (n + 7) y) (Gs (n + 1) y) (E4 (n + 6) y) (D7 (n + 4) y) (H6 (n + 4) y) (F6 (n + 7) y) (Gu (n + 7) y) (Lm (n + 6) y) (Jy (n + 6) y) (x_keyc_s (n + 0) y)
theorem x_takef_s (n:Nat) (y:Nat → HF):TakeF Yr (Phi.fn (ΦG (n + 9) y) 8):=by rw [at8];exact takef_s (Y:=Yr) rfl _ (E9 (n + 7) y) (Gs (n + 1) y) (E4 (n + 6) y) (D7 (n + 4) y) (H6 (n + 4) y) (F6 (n + 7) y) (Gu (n + 7) y) (Lm (n + 6) y) (Jy (n + 6) y) (x_keyc_s (n + 0) y)
theorem x_confv_s (n:Nat) (y:Nat → HF):ConfV (Phi.fn (ΦG (n + 2) y) 9):=by rw [at9];exact confv_s rfl _ (Gt (n + 0) y)
theorem x_tells_s (n:Nat) (y:Nat → HF):TellsS Yr (Phi.fn (ΦG (n + 10) y) 11):=by rw [at11];exact tells_s (Y:=Yr) rfl _ (x_pair_s (n + 5) y) (x_start_s (n + 1) y) (x_takea_s (n + 0) y) (x_taker0_s (n + 1) y) (x_takeb_s (n + 0) y) (x_markv_s (n + 7) y)
theorem x_late_s (n:Nat) (y:Nat → HF):LateS Yr (Phi.fn (ΦG (n + 11) y) 3):=by rw [at3];exact late_s (Y:=Yr) rfl _ (x_pair_s (n + 6) y) (x_start_s (n + 2) y) (x_takea_s (n + 1) y) (x_taker0_s (n + 2) y) (x_takeb_s (n + 1) y) (x_markv_s (n + 8) y) (x_takerj_s (n + 2) y) (x_takest_s (n + 1) y) (x_takef_s (n + 1) y) (x_confv_s (n + 8) y) (x_tells_s (n + 0) y)
end Go.Proofs.YtfdfdagbeeeomaaDoor.V2.S
namespace Go.Proofs.YtfdfdagbeeeomaaDoor.V2
open Go
set_option linter.unusedVariables false
open Go.RowKit
def memM:List AObj:=[(AObj.cells [AV.nilfn,AV.fn (Go.Fn.func 120) [] [],AV.fn (Go.Fn.func 120) [] [],AV.fn (Go.Fn.func 121) [] [],AV.fn (Go.Fn.func 122) [] [],AV.fn (Go.Fn.func 120) [] []] 145 (Tl.ro)),(AObj.ints (IntKind.u32) [0,498536548,997073096,651767980,1994146192,1802195444,1303535960,1342533948,3988292384,4027552580,3604390888,3412177804,2607071920,2262029012,2685067896,3183342108] 158 (Tl.ro)),(AObj.ints (IntKind.u32) [1779033703,3144134277,1013904242,2773480762,1359893119,2600822924,528734635,1541459225] 161 (Tl.ro)),(AObj.ints (IntKind.u32) [1116352408,1899447441,3049323471,3921009573,961987163,1508970993,2453635748,2870763221,3624381080,310598401,607225278,1426881987,1925078388,2162078206,2614888103,3248222580,3835390401,4022224774,264347078,604807628,770255983,1249150122,1555081692,1996064986,2554220882,2821834349,2952996808,3210313671,3336571891,3584528711,113926993,338241895,666307205,773529912,1294757372,1396182291,1695183700,1986661051,2177026350,2456956037,2730485921,2820302411,3259730800,3345764771,3516065817,3600352804,4094571909,275423344,430227734,506948616,659060556,883997877,958139571,1322822218,1537002063,1747873779,1955562222,2024104815,2227730452,2361852424,2428436474,2756734187,3204031479,3329325298] 171 (Tl.ro))]
def TM:List UInt32:=[0,498536548,997073096,651767980,1994146192,1802195444,1303535960,1342533948,3988292384,4027552580,3604390888,3412177804,2607071920,2262029012,2685067896,3183342108]
def mayM:List Value:=[.nilFunc,.func (.func 120) #[] #[],.func (.func 120) #[] #[],.func (.func 121) #[] #[],.func (.func 122) #[] #[],.func (.func 120) #[] #[]]
def GlobFM (w:World):Prop:=∀ i,i < 6 → w.cell? ⟨0,i,none⟩=some (mayM.getD i .nilFunc)
def GlobTM (w:World):Prop:=∀ i,i < 16 → w.cell? ⟨1,i,none⟩=some (.int .u32 (N32 (at32 TM i)))
structure GlobM (w:World):Prop where
 f:GlobFM w
 t:GlobTM w
 s:GlobS w
 k:GlobK w
 size:3 < w.heap.size
def rM:Ren:=rL [some (0,(0,6)),some (1,(0,16)),some (2,(0,8)),some (3,(0,64))]
theorem rM_glob:∀ g,g < 4 → ∃ s,rM g=some (g,(0,s)):=fun g hg=>by
 match g,hg with
 | 0,_=>exact ⟨6,rfl⟩
 | 1,_=>exact ⟨16,rfl⟩
 | 2,_=>exact ⟨8,rfl⟩
 | 3,_=>exact ⟨64,rfl⟩
theorem memM_sh:∀ o ∈ memM,o.isSh=true:=by
 intro o ho
 simp only [memM,List.mem_cons,List.not_mem_nil,or_false] at ho
 rcases ho with rfl | rfl | rfl | rfl <;> rfl
theorem memM_ro:∀ o ∈ memM,o.isRo=true:=fun o ho=>AObj.isSh_ro (memM_sh o ho)
theorem or_croM {ρ:Ren} {w:World} {b D:Nat} {l:List AV} {e:TypeId} (hD:l.length ≤ D) (hl:0 < l.length) (h:∀ i a,l[i]?=some a → ∃ v,w.cell? ⟨b,i,none⟩=some v ∧ VR ρ a v):OR ρ (0,D) (.cells l e .ro) w.heap[b]?:=⟨fun _=>by
 refine ⟨hD,fun _=>?_⟩
 obtain ⟨v0,h0,_⟩:=h (l.length - 1) l[l.length - 1] (List.getElem?_eq_getElem (by omega))
 obtain ⟨c,t,fr,hb,hc⟩:=Li h0
 refine ⟨c,t,fr,hb,(fun hh=>by cases hh),?_,hD,fun i a hi=>?_⟩
 ·have:=(Array.getElem?_eq_some_iff.1 hc).1
  show l.length + 0 ≤ c.size
  omega
 ·obtain ⟨v,hv,hr⟩:=h i a hi
  obtain ⟨c',t',fr',hb',hc'⟩:=Li hv
  rw [hb] at hb';cases hb'
  exact ⟨v,hc',hr⟩,fun l e=>by cases e⟩
theorem vr_fnM {ρ:Ren} (n:Nat):VR ρ (.fn (.func n) [] []) (.func (.func n) #[] #[]):=by
 unfold VR;exact ⟨[],[],rfl,rfl,rfl⟩
theorem row_ofM {w:World} {b n k:Nat} {T:List UInt32} {l:List Int} {e:TypeId} (hn:T.length=n) (hl:l=wI T) (h:∀ i,i < n → w.cell? ⟨b,i,none⟩=some (.int .u32 (N32 (at32 T i)))) (hk:n=k):∀ ρ,OR ρ (0,k) (.ints .u32 l e .ro) w.heap[b]?:=fun ρ=>by
 subst hl hk
 refine or_ro (by rw [Lp];omega) fun i hi=>?_
 rw [wI_getD,Nat.zero_add];exact h i (by rw [Lp] at hi;omega)
theorem hrM {w:World} (h:GlobM w):HR rM (hL memM) w:=by
 refine hr_ro (by show 4 ≤ _;omega) rfl memM_sh fun b c d o hb ho=>?_
 have hs:=h.size
 match b with
 | 0 =>
  cases hb;cases ho
  refine ⟨by omega,or_croM (Nat.le_refl _) (by decide) fun i a hi=>?_⟩
  match i,hi with
  | 0,hi=>cases hi;exact ⟨_,h.f 0 (by omega),rfl⟩
  | 1,hi=>cases hi;exact ⟨_,h.f 1 (by omega),vr_fnM 120⟩
  | 2,hi=>cases hi;exact ⟨_,h.f 2 (by omega),vr_fnM 120⟩
  | 3,hi=>cases hi;exact ⟨_,h.f 3 (by omega),vr_fnM 121⟩
  | 4,hi=>cases hi;exact ⟨_,h.f 4 (by omega),vr_fnM 122⟩
  | 5,hi=>cases hi;exact ⟨_,h.f 5 (by omega),vr_fnM 120⟩
  | n + 6,hi=>cases hi
 | 1=>cases hb;cases ho;exact ⟨by omega,row_ofM (T:=TM) (n:=16) rfl (by decide +kernel) h.t rfl _⟩
 | 2=>cases hb;cases ho;exact ⟨by omega,row_ofM (T:=S0) (n:=8) rfl (by decide +kernel) h.s rfl _⟩
 | 3=>cases hb;cases ho;exact ⟨by omega,row_ofM (T:=KK) (n:=64) rfl (by decide +kernel) h.k rfl _⟩
 | n + 4=>cases hb
end Go.Proofs.YtfdfdagbeeeomaaDoor.V2
namespace Go.Proofs.YtfdfdagbeeeomaaDoor.V2.S
open Go
set_option linter.unusedVariables false
set_option maxRecDepth 100000
open Go.RowKit
noncomputable def sM:T FObj:=(hL memM).mem.map βO
theorem sM_am {b:Nat} {o:AObj} (h:memM[b]?=some o):Am sM b (βO o):=by
 unfold Am
 show ((hL memM).mem.map βO).get b=_
 rw [T.map_get]
 have:=Mh (l:=memM) (by show 4 ≤ _;omega) b
 show ((hL memM).get b).map βO=_
 rw [this,h];rfl
theorem glM:Gl sM:=⟨⟨_,_,sM_am (b:=0) rfl⟩,⟨_,_,_,sM_am (b:=1) rfl,by decide +kernel⟩,⟨_,_,_,sM_am (b:=2) rfl,by decide +kernel⟩,⟨_,_,_,sM_am (b:=3) rfl,by decide +kernel⟩⟩
def kE:KV:=fun v _=>.ok v ⟨0,.leaf⟩
theorem finish {w:World} (hG:GlobM w) {f:Nat} {l:List FV} {vs:List Value} (hv:∀ ρ:Ren,VRs ρ (αL l) vs)
  (hrun:Phi.fn (ΦG 41 y0L) f l ⟨4,sM⟩ kE=.ok (.b true) ⟨0,.leaf⟩):Calls Tryd.prog f vs.toArray w fun e w'=>e=.returned (.bool true) ∧ Below w.heap.size w w':=by
 have hΦ:PhiOk (ΦG 41 y0L) (Gam.grow std 1000000 tEL Sp.none (.of gL) 41):=PhiG_ok tQL_ok 41 bQL_ok fun j l σ k=>Sm.bad
 have hσ:αH ⟨4,sM⟩=hL memM:=αβH (hL memM)
 obtain ⟨x,σ',h1,h2⟩:=hΦ.fn f l ⟨4,sM⟩ kE (by rw [hrun];exact fun h=>by cases h)
 rw [hrun] at h2
 rw [hσ] at h1
 cases h2
 have hh:=hrM hG
 refine ((gamL_ok.fn f (αL l) (hL memM) (by rw [h1])).2 rM w vs (fun y hy=>absurd hy List.not_mem_nil) rM_glob hh (hv _)).mono fun e W' ⟨u,ρ',e1,e2,e3,e4⟩=>?_
 rw [h1] at e2 e3 e4
 subst e1
 refine ⟨by rw [show u=.bool true from e4],Below.ofStp (by show 4 ≤ _;omega) hh memM_ro e3⟩
theorem sessionLateM (w:World) (hG:GlobM w) {a b c:Nat} (ha:a < 256) (hb:b < 256) (hc:c < 18446744073709551616):Calls Tryd.prog 3 #[.int .u8 a,.int .u8 b,.int .u64 c] w fun e w'=>e=.returned (.bool true) ∧ Below w.heap.size w w':=by
 refine finish hG (f:=3) (l:=[.n .u8 a,.n .u8 b,.n .u64 c]) (vs:=[.int .u8 a,.int .u8 b,.int .u64 c]) (fun ρ=>⟨_,_,rfl,rfl,_,_,rfl,rfl,_,_,rfl,rfl,rfl⟩) ?_
 exact x_late_s 30 y0L glM (Nat.le_refl _) ha hb hc kE _ (by decide) (fun n' m' _ _ _=>rfl)
end Go.Proofs.YtfdfdagbeeeomaaDoor.V2.S
namespace Go.Proofs.YtfdfdagbeeeomaaDoor
open Go.ChangeShapes Go.WideShapes Go.ChangeAt Go.RowKit
section
variable {H:Type} {enc:TypeId × Value → H} {P:Program}
theorem Jk (hl:laidOutB P=true) {W W':World} {sp':Nat → Bool}:∀ {ts:List TypeId} {vs:List Value} {ds:List (DataW H)} {ps:List MemPlace},(∀ t ∈ ts,P.readableRec t=true ∧ t < P.types.size) →
  DataW.TrodAll enc P W 0 (fun _=>true) true ts vs ds ps → (∀ p ∈ ps,W.sameAt W' p) → (∀ p ∈ ps,sp' p.block=true) → DataW.TrodAll enc P W' 0 sp' true ts vs ds ps
 | [],_,_,_,_,h,_,_=>by
  obtain ⟨rfl,rfl,rfl⟩:=trodAll_nil h
  exact trodAll_mk0
 | t :: ts,_,_,_,ht,h,h1,h2=>by
  obtain ⟨v,vs1,d,ds1,a,b,rfl,rfl,rfl,ha,hb⟩:=trodAll_cons h
  exact trodAll_cons_mk (WideElems.Trod_stays hl (ht t (by simp)).1 (ht t (by simp)).2 ha (fun p hp=>h1 p (by simp [hp])) (fun p hp=>h2 p (by simp [hp])))
   (Jk hl (fun t' h'=>ht t' (by simp [h'])) hb (fun p hp=>h1 p (by simp [hp])) (fun p hp=>h2 p (by simp [hp])))
theorem post_of_below {f:Func} {s:ChangeSpec} {apart fresh handsOn again:Bool} {W W':World} {args:Array Value} {v:Value} {ds gs:List (DataW H)} {before:List MemPlace}
  (hW:DataW.Whole enc P f.params.toList s.vars apart W args.toList ds gs before) (hl:laidOutB P=true) (hsv:s.vars=[]) (hts:∀ t ∈ f.params.toList,P.readableRec t=true ∧ t < P.types.size)
  (hb:Below W.heap.size W W') (ha:(s.fn H (ds ++ gs)).args=ds) (hgv:(s.fn H (ds ++ gs)).vars=[])
  (hres:∀ (b:Nat) (sp:Nat → Bool) (hd:Bool),DataW.TrodAll enc P W' b sp hd f.resultTypes.toList (v.resultList f.resultTypes.size) (s.fn H (ds ++ gs)).results [])
  (hok:∀ (j:Nat) (t:TypeId) (r:Value),f.resultTypes[j]?=some t → (v.resultList f.resultTypes.size)[j]?=some r → Value.okWide P W' .any 0 t r) :
  s.post enc P f apart fresh handsOn again W args v W':=by
 have hlt:=hW.lt
 have hW0:=hW
 obtain ⟨p,q,hA0,hV,rfl,hz,hn⟩:=hW
 have hA:DataW.TrodAll enc P W 0 (fun _=>true) true f.params.toList args.toList ds p:=hA0
 rw [hsv] at hV
 obtain ⟨rfl,rfl⟩:=trodVars_none hV
 rw [List.append_nil] at hlt hz hn
 have hs:∀ x ∈ p,W.sameAt W' x:=fun x hx=>hb.same (hlt x hx)
 have hargs:∀ sp:Nat → Bool,(∀ x ∈ p,sp x.block=true) → DataW.TrodAll enc P W' 0 sp true f.params.toList args.toList (s.fn H (ds ++ [])).args p:=fun sp hsp=>by
  rw [ha];exact Jk hl hts hA hs hsp
 have hvars:∀ sp:Nat → Bool,DataW.TrodVars enc P W' sp s.vars (s.fn H (ds ++ [])).vars []:=fun sp=>by rw [hgv,hsv];rfl
 have hold:∀ x ∈ p,(fun b=>decide (b < W.heap.size)) x.block=true:=fun x hx=>by simpa using hlt x hx
 refine ⟨ds,[],p ++ [],[],p,[],hW0,hres _ _ _,hargs _ hold,hvars _,?_,fun _=>?_⟩
 ·exact hb.frame _
 ·refine ⟨hok,_,_,([] ++ p) ++ [],⟨[] ++ p,[],trodAll_append (hargs _ (fun _ _=>rfl)) (hres _ _ _),hvars _,rfl,?_,?_⟩,?_⟩
  ·intro b off hp
   simp only [List.nil_append,List.append_nil] at hp
   rw [hb.frozen (hlt _ hp)]
   exact hz b off hp
  ·intro h'
   simpa using hn h'
  ·intro x hx _
   simpa using hx
end
theorem laidOut:laidOutB Tryd.prog=true:=by kernel_rfl
theorem own:ownKnob Tryd.prog.godebug=none:=by kernel_rfl
/-! The program's tables. -/
theorem gStart : Tryd.prog.globalNamed "longwire/hash.start" = some 2 := by kernel_rfl
theorem gConst : Tryd.prog.globalNamed "longwire/hash.constants" = some 3 := by kernel_rfl
theorem gTable : Tryd.prog.globalNamed "longwire/scribe.table" = some 1 := by kernel_rfl
theorem gMay : Tryd.prog.globalNamed "longwire/frame.may" = some 0 := by kernel_rfl
theorem gStartType:(Tryd.prog.globals[2]?).map (·.type)=some 161:=by kernel_rfl
theorem gConstType:(Tryd.prog.globals[3]?).map (·.type)=some 171:=by kernel_rfl
theorem gTableType:(Tryd.prog.globals[1]?).map (·.type)=some 158:=by kernel_rfl
theorem gMayType:(Tryd.prog.globals[0]?).map (·.type)=some 145:=by kernel_rfl
theorem cells23_:Tryd.prog.cellsOf 32=1:=by kernel_rfl
theorem cells351_:Tryd.prog.cellsOf 161=8:=by kernel_rfl
theorem cells374_:Tryd.prog.cellsOf 171=64:=by kernel_rfl
theorem cells349_:Tryd.prog.cellsOf 158=16:=by kernel_rfl
theorem cells325_:Tryd.prog.cellsOf 144=1:=by kernel_rfl
theorem tabS_eq {H:Type}:(Rows.laid_longwire_hash_start:DataW H)=Lib.tabData .u32 (S0.map N32):=by kernel_rfl
theorem tabK_eq {H:Type}:(Rows.laid_longwire_hash_constants:DataW H)=Lib.tabData .u32 (KK.map N32):=by kernel_rfl
theorem tabT_eq {H:Type}:(Rows.laid_longwire_scribe_table:DataW H)=Lib.tabData .u32 (V2.TM.map N32):=by kernel_rfl
theorem row_laid {W:World} {name:String} {g t:Nat} {n:Nat} {T:List UInt32} {data:DataW Unit} {rest:List (String × DataW Unit)} (hg:Tryd.prog.globalNamed name=some g) (ht:(Tryd.prog.globals[g]?).map (·.type)=some t)
  (hu:Tryd.prog.underlying t=some (.array n 32)) (hc:Tryd.prog.cellsOf t=n) (hd:data=Lib.tabData .u32 (T.map N32)) (h:laidMet Tryd.prog ((name,data) :: rest) W):∀ i,i < T.length → W.cell? ⟨g,i,none⟩=some (.int .u32 (N32 (at32 T i))):=by
 rw [hd] at h
 intro i hi
 have:=(Lib.tabIs_of_head hg ht hu Tryd.underlying32 cells23_ hc h).cell hg i (by simpa using hi)
 rw [this]
 simp [at32,List.getD_eq_getElem?_getD,hi]
theorem nil_of_trod {w:World} {sp:Nat → Bool} {fuel:Nat} {t:TypeId} {ps rs:Array TypeId} {va:Bool} {v:Value} {q:List MemPlace} (ht:Tryd.prog.underlying t=some (.func ps rs va))
  (h:DataW.trod (funcToken Tryd.prog) Tryd.prog w 0 sp true fuel t [v]=some (.nil,q)):v=.nilFunc:=by
 cases fuel with
 | zero=>simp [DataW.trod] at h
 | succ n=>cases v <;> simp [DataW.trod,ht] at h ⊢
set_option maxRecDepth 100000 in
theorem globF_of {W : World} (h : funcsAt Tryd.prog W "longwire/frame.may" (.agg [.nil, .iface "func" (.lit (.string [108, 111, 110, 103, 119, 105, 114, 101, 47, 102, 114, 97, 109, 101, 46, 98, 97, 114, 101])), .iface "func" (.lit (.string [108, 111, 110, 103, 119, 105, 114, 101, 47, 102, 114, 97, 109, 101, 46, 98, 97, 114, 101])), .iface "func" (.lit (.string [108, 111, 110, 103, 119, 105, 114, 101, 47, 102, 114, 97, 109, 101, 46, 109, 97, 121, 36, 49])), .iface "func" (.lit (.string [108, 111, 110, 103, 119, 105, 114, 101, 47, 102, 114, 97, 109, 101, 46, 109, 97, 121, 36, 50])), .iface "func" (.lit (.string [108, 111, 110, 103, 119, 105, 114, 101, 47, 102, 114, 97, 109, 101, 46, 98, 97, 114, 101]))])) : V2.GlobFM W := by
 obtain ⟨g,t,cs,fuel,p,hg,ht,hv,hd⟩:=h
 obtain rfl:=Option.some.inj (gMay.symm.trans hg)
 obtain rfl:=Option.some.inj (gMayType.symm.trans ht)
 obtain ⟨xs,m,_,hx,_,hlen,hel⟩:=DataW.trod_array Tryd.underlying145 hd
 rw [cells325_] at hel
 have hx2:(DataW.agg ([.nil,.held [108,111,110,103,119,105,114,101,47,102,114,97,109,101,46,98,97,114,101],.held [108,111,110,103,119,105,114,101,47,102,114,97,109,101,46,98,97,114,101],.held [108,111,110,103,119,105,114,101,47,102,114,97,109,101,46,109,97,121,36,49],.held [108,111,110,103,119,105,114,101,47,102,114,97,109,101,46,109,97,121,36,50],.held [108,111,110,103,119,105,114,101,47,102,114,97,109,101,46,98,97,114,101]]:List (DataW (List UInt8))),p)=(.agg (xs.map (·.1)),xs.flatMap (·.2)):=hx
 have hx1:xs.map (·.1)=([.nil,.held [108,111,110,103,119,105,114,101,47,102,114,97,109,101,46,98,97,114,101],.held [108,111,110,103,119,105,114,101,47,102,114,97,109,101,46,98,97,114,101],.held [108,111,110,103,119,105,114,101,47,102,114,97,109,101,46,109,97,121,36,49],.held [108,111,110,103,119,105,114,101,47,102,114,97,109,101,46,109,97,121,36,50],.held [108,111,110,103,119,105,114,101,47,102,114,97,109,101,46,98,97,114,101]]:List (DataW (List UInt8))):=(DataW.agg.inj (Prod.mk.inj hx2).1).symm
 have key:∀ (i:Nat) (d:DataW (List UInt8)),i < 6 → ([.nil,.held [108,111,110,103,119,105,114,101,47,102,114,97,109,101,46,98,97,114,101],.held [108,111,110,103,119,105,114,101,47,102,114,97,109,101,46,98,97,114,101],.held [108,111,110,103,119,105,114,101,47,102,114,97,109,101,46,109,97,121,36,49],.held [108,111,110,103,119,105,114,101,47,102,114,97,109,101,46,109,97,121,36,50],.held [108,111,110,103,119,105,114,101,47,102,114,97,109,101,46,98,97,114,101]]:List (DataW (List UInt8)))[i]?=some d → ∃ v q,cs[i]?=some v ∧ DataW.trod (funcToken Tryd.prog) Tryd.prog W 0 (fun _=>true) true m 144 [v]=some (d,q):=fun i d hi hd=>by
  have h1:=hel i hi
  rw [← hx1,List.getElem?_map,Option.map_eq_some_iff] at hd
  obtain ⟨⟨d',q⟩,hq,rfl⟩:=hd
  rw [hq,Nat.mul_one] at h1
  cases hc:cs.toList.drop i with
  | nil=>rw [hc] at h1;cases m <;> simp [DataW.trod,Tryd.underlying144] at h1
  | cons v r =>
   rw [hc] at h1
   refine ⟨v,q,?_,h1⟩
   rw [← Array.getElem?_toList,← Nat.add_zero i,← List.getElem?_drop,hc];rfl
 intro i hi
 rw [World.var?_cell hg hv i]
 match i,hi with
 | 0,_ =>
  obtain ⟨v,q,hc,hr⟩:=key 0 _ (by omega) rfl
  rw [hc]
  rw [nil_of_trod Tryd.underlying144 hr];rfl
 | 1,_ =>
  obtain ⟨v,q,hc,hr⟩:=key 1 _ (by omega) rfl
  rw [hc]
  rw [func_of_trod (f0:=120) Tryd.underlying144 (by kernel_rfl) hr];rfl
 | 2,_ =>
  obtain ⟨v,q,hc,hr⟩:=key 2 _ (by omega) rfl
  rw [hc]
  rw [func_of_trod (f0:=120) Tryd.underlying144 (by kernel_rfl) hr];rfl
 | 3,_ =>
  obtain ⟨v,q,hc,hr⟩:=key 3 _ (by omega) rfl
  rw [hc]
  rw [func_of_trod (f0:=121) Tryd.underlying144 (by kernel_rfl) hr];rfl
 | 4,_ =>
  obtain ⟨v,q,hc,hr⟩:=key 4 _ (by omega) rfl
  rw [hc]
  rw [func_of_trod (f0:=122) Tryd.underlying144 (by kernel_rfl) hr];rfl
 | 5,_ =>
  obtain ⟨v,q,hc,hr⟩:=key 5 _ (by omega) rfl
  rw [hc]
  rw [func_of_trod (f0:=120) Tryd.underlying144 (by kernel_rfl) hr];rfl
theorem globs_of {W:World} (h:laidMetH Tryd.prog Rows.sessionLateRow.laid W):V2.GlobM W:=by
 have hd : laidMet Tryd.prog [("longwire/hash.start", Rows.laid_longwire_hash_start), ("longwire/hash.constants", Rows.laid_longwire_hash_constants), ("longwire/scribe.table", Rows.laid_longwire_scribe_table)] W := h.1
 have hK:=row_laid gConst gConstType Tryd.underlying171 cells374_ tabK_eq hd.tail
 refine ⟨globF_of (h.funcs (by simp [Rows.sessionLateRow,Rows.laid_longwire_frame_may])),row_laid gTable gTableType Tryd.underlying158 cells349_ tabT_eq hd.tail.tail,row_laid gStart gStartType Tryd.underlying161 cells351_ tabS_eq hd,hK,?_⟩
 have:=hK 0 (by decide)
 unfold World.cell? at this
 split at this
 ·rename_i hh;exact (Array.getElem?_eq_some_iff.1 hh).1
 ·cases this
end Go.Proofs.YtfdfdagbeeeomaaDoor
