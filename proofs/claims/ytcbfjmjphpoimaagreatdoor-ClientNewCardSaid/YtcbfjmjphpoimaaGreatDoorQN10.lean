/- Part 10 of the proof: texts of the proof. -/
import Derived.Test.YtcbfjmjphpoimaaGreatDoorQN9
import Derived.Test.YtcbfjmjphpoimaaGreatDoorChecked
import Derived.Deep.LoopGhost
import Derived.Test.YtcbfjmjphpoimaaGreatDoorRows
import Derived.Sort.Row
import Derived.Sort.LotA
import Derived.WalkKit
import Derived.WalkSpells
import Derived.WalkLawsBesides
import Derived.BigGuard
import Derived.BigCall
import Derived.CellFam
import Derived.Lib.Hide
import Derived.Deep.Draws
import Derived.Deep.QuietTactic
import Derived.BigQuiet
import Derived.RangeFuncMany
import Derived.Sort.MapsRangeIn
import Derived.Shelf.SlIter.Nil
import Derived.RangeFuncBox
import Derived.RangeFuncLeaves
import Derived.RangeFuncFrom
import Derived.Shelf.Abstract
import Derived.OwnWalkIn
import Derived.TacticsInMore
import Derived.LoopNIn
import Derived.LoopIn
import Derived.Maps.AppendAt
import Derived.Sort.Statements
namespace Go.Proofs.YtcbfjmjphpoimaaGreatDoor.V2
open Go
set_option linter.unusedVariables false
theorem qz {n : Nat} {f : Func} (nt np : Nat) (kp : List Nat) {q : Phi → HF} (h : Tryz.prog.funcs[n]? = some f) (hb : okZ f = true) (hq : thrF 1000000 (drOf nt kp) np (eZ f) = q) (hf : Nat.blt n 1048576 = true := by rfl) : QeOk ⟨n, eZ f, q⟩ := qe_of (nt := nt) (np := np) (kp := kp) (eokZ h hb) hq hf
noncomputable section
def q4 : Phi → HF := p4 stdO
theorem qp4 : q4 = p4 stdO := rfl
theorem k4 : QeOk ⟨4, eZ Tryz.f4, q4⟩ := qz 55 1 [2, 3] Tryz.func4 (by kernel_rfl) (by kernel_rfl)
def q5 : Phi → HF := p5 stdO
theorem qp5 : q5 = p5 stdO := rfl
theorem k5 : QeOk ⟨5, eZ Tryz.f5, q5⟩ := qz 51 1 [2, 3] Tryz.func5 (by kernel_rfl) (by kernel_rfl)
def q7 : Phi → HF := p7 stdO
theorem qp7 : q7 = p7 stdO := rfl
theorem k7 : QeOk ⟨7, eZ Tryz.f7, q7⟩ := qz 11 1 [2, 3] Tryz.func7 (by kernel_rfl) (by kernel_rfl)
def q8 : Phi → HF := p8 stdO
theorem qp8 : q8 = p8 stdO := rfl
theorem k8 : QeOk ⟨8, eZ Tryz.f8, q8⟩ := qz 36 2 [4, 5] Tryz.func8 (by kernel_rfl) (by kernel_rfl)
def q9 : Phi → HF := p9 stdO
theorem qp9 : q9 = p9 stdO := rfl
theorem k9 : QeOk ⟨9, eZ Tryz.f9, q9⟩ := qz 8 1 [2] Tryz.func9 (by kernel_rfl) (by kernel_rfl)
def q10 : Phi → HF := p10 stdO
theorem qp10 : q10 = p10 stdO := rfl
theorem k10 : QeOk ⟨10, eZ Tryz.f10, q10⟩ := qz 21 2 [4, 5] Tryz.func10 (by kernel_rfl) (by kernel_rfl)
def q11 : Phi → HF := p11 stdO
theorem qp11 : q11 = p11 stdO := rfl
theorem k11 : QeOk ⟨11, eZ Tryz.f11, q11⟩ := qz 36 2 [4, 5] Tryz.func11 (by kernel_rfl) (by kernel_rfl)
def q12 : Phi → HF := p12 stdO
theorem qp12 : q12 = p12 stdO := rfl
theorem k12 : QeOk ⟨12, eZ Tryz.f12, q12⟩ := qz 28 2 [4, 5] Tryz.func12 (by kernel_rfl) (by kernel_rfl)
def q13 : Phi → HF := thrF 1000000 (drOf 7 [2]) 1 (eZ Tryz.f13)
theorem k13 : QeOk ⟨13, eZ Tryz.f13, q13⟩ := qz 7 1 [2] Tryz.func13 (by kernel_rfl) (by kernel_rfl)
def q14 : Phi → HF := thrF 1000000 (drOf 30 [2]) 1 (eZ Tryz.f14)
theorem k14 : QeOk ⟨14, eZ Tryz.f14, q14⟩ := qz 30 1 [2] Tryz.func14 (by kernel_rfl) (by kernel_rfl)
def q15 : Phi → HF := thrF 1000000 (drOf 36 [4, 5]) 2 (eZ Tryz.f15)
theorem k15 : QeOk ⟨15, eZ Tryz.f15, q15⟩ := qz 36 2 [4, 5] Tryz.func15 (by kernel_rfl) (by kernel_rfl)
def q16 : Phi → HF := thrF 1000000 (drOf 125 [6, 9]) 3 (eZ Tryz.f16)
theorem k16 : QeOk ⟨16, eZ Tryz.f16, q16⟩ := qz 125 3 [6, 9] Tryz.func16 (by kernel_rfl) (by kernel_rfl)
def q17 : Phi → HF := thrF 1000000 (drOf 166 [6, 7, 123]) 3 (eZ Tryz.f17)
theorem k17 : QeOk ⟨17, eZ Tryz.f17, q17⟩ := qz 166 3 [6, 7, 123] Tryz.func17 (by kernel_rfl) (by kernel_rfl)
def q18 : Phi → HF := thrF 1000000 (drOf 113 [6, 77]) 3 (eZ Tryz.f18)
theorem k18 : QeOk ⟨18, eZ Tryz.f18, q18⟩ := qz 113 3 [6, 77] Tryz.func18 (by kernel_rfl) (by kernel_rfl)
def q19 : Phi → HF := thrF 1000000 (drOf 13 [2]) 1 (eZ Tryz.f19)
theorem k19 : QeOk ⟨19, eZ Tryz.f19, q19⟩ := qz 13 1 [2] Tryz.func19 (by kernel_rfl) (by kernel_rfl)
def q20 : Phi → HF := thrF 1000000 (drOf 51 [4, 10, 29]) 5 (eZ Tryz.f20)
theorem k20 : QeOk ⟨20, eZ Tryz.f20, q20⟩ := qz 51 5 [4, 10, 29] Tryz.func20 (by kernel_rfl) (by kernel_rfl)
def q21 : Phi → HF := thrF 1000000 (drOf 22 [4]) 2 (eZ Tryz.f21)
theorem k21 : QeOk ⟨21, eZ Tryz.f21, q21⟩ := qz 22 2 [4] Tryz.func21 (by kernel_rfl) (by kernel_rfl)
def q22 : Phi → HF := thrF 1000000 (drOf 21 [4, 5]) 2 (eZ Tryz.f22)
theorem k22 : QeOk ⟨22, eZ Tryz.f22, q22⟩ := qz 21 2 [4, 5] Tryz.func22 (by kernel_rfl) (by kernel_rfl)
def q23 : Phi → HF := thrF 1000000 (drOf 27 [2, 3, 13]) 1 (eZ Tryz.f23)
theorem k23 : QeOk ⟨23, eZ Tryz.f23, q23⟩ := qz 27 1 [2, 3, 13] Tryz.func23 (by kernel_rfl) (by kernel_rfl)
def q24 : Phi → HF := p24 stdO
theorem qp24 : q24 = p24 stdO := rfl
theorem k24 : QeOk ⟨24, eZ Tryz.f24, q24⟩ := qz 11 1 [2] Tryz.func24 (by kernel_rfl) (by kernel_rfl)
def q25 : Phi → HF := p25 stdO
theorem qp25 : q25 = p25 stdO := rfl
theorem k25 : QeOk ⟨25, eZ Tryz.f25, q25⟩ := qz 8 1 [2] Tryz.func25 (by kernel_rfl) (by kernel_rfl)
def q26 : Phi → HF := p26 stdO
theorem qp26 : q26 = p26 stdO := rfl
theorem k26 : QeOk ⟨26, eZ Tryz.f26, q26⟩ := qz 24 1 [2, 3] Tryz.func26 (by kernel_rfl) (by kernel_rfl)
def q27 : Phi → HF := p27 stdO
theorem qp27 : q27 = p27 stdO := rfl
theorem k27 : QeOk ⟨27, eZ Tryz.f27, q27⟩ := qz 60 3 [6, 7, 24] Tryz.func27 (by kernel_rfl) (by kernel_rfl)
def q28 : Phi → HF := p28 stdO
theorem qp28 : q28 = p28 stdO := rfl
theorem k28 : QeOk ⟨28, eZ Tryz.f28, q28⟩ := qz 25 1 [2, 3] Tryz.func28 (by kernel_rfl) (by kernel_rfl)
def q29 : Phi → HF := p29 stdO
theorem qp29 : q29 = p29 stdO := rfl
theorem k29 : QeOk ⟨29, eZ Tryz.f29, q29⟩ := qz 46 3 [6, 7, 9] Tryz.func29 (by kernel_rfl) (by kernel_rfl)
def q30 : Phi → HF := thrF 1000000 (drOf 24 [4, 5]) 2 (eZ Tryz.f30)
theorem k30 : QeOk ⟨30, eZ Tryz.f30, q30⟩ := qz 24 2 [4, 5] Tryz.func30 (by kernel_rfl) (by kernel_rfl)
def q31 : Phi → HF := fnQ (aLet fun v1 => (aEnd (cWr X2 (.b false) (cLet (o2 (eqQ1 false .ptr) (rdV v1) (rdV (.o .ptr))) fun v2 => (cLet (oG false (rdV v2) (oV (rdV v1))) fun v3 => (cLet (oG false (rdV v2) (o1 ncF (rdV v3))) fun v4 => (cLet (oG false (rdV v2) (o1 (faF 7) (rdV v4))) fun v5 => (cLet (oG false (rdV v2) (m1 ldF (rdV v5))) fun v6 => (cLet (oG false (rdV v2) (o2 (eqQ1 false .ptr) (rdV v6) (rdV (.o .ptr)))) fun v7 => (cLet (o3 pkF (rdV v2) (rdV (.b true)) (rdV v7)) fun v8 => (cWr X2 v8 cRet))))))))) [vT R2]))
theorem k31 : QeOk ⟨31, eZ Tryz.f31, q31⟩ := qz 12 1 [2] Tryz.func31 (by kernel_rfl) (by kernel_rfl)
def q32 : Phi → HF := thrF 1000000 (drOf 11 [2]) 1 (eZ Tryz.f32)
theorem k32 : QeOk ⟨32, eZ Tryz.f32, q32⟩ := qz 11 1 [2] Tryz.func32 (by kernel_rfl) (by kernel_rfl)
def q33 : Phi → HF := thrF 1000000 (drOf 22 [2]) 1 (eZ Tryz.f33)
theorem k33 : QeOk ⟨33, eZ Tryz.f33, q33⟩ := qz 22 1 [2] Tryz.func33 (by kernel_rfl) (by kernel_rfl)
def q35 : Phi → HF := thrF 1000000 (drOf 86 [48]) 1 (eZ Tryz.f35)
theorem k35 : QeOk ⟨35, eZ Tryz.f35, q35⟩ := qz 86 1 [48] Tryz.func35 (by kernel_rfl) (by kernel_rfl)
def q36 : Phi → HF := thrF 1000000 (drOf 25 [4, 5, 7]) 2 (eZ Tryz.f36)
theorem k36 : QeOk ⟨36, eZ Tryz.f36, q36⟩ := qz 25 2 [4, 5, 7] Tryz.func36 (by kernel_rfl) (by kernel_rfl)
def q37 : Phi → HF := thrF 1000000 (drOf 10 [2]) 1 (eZ Tryz.f37)
theorem k37 : QeOk ⟨37, eZ Tryz.f37, q37⟩ := qz 10 1 [2] Tryz.func37 (by kernel_rfl) (by kernel_rfl)
def q38 : Phi → HF := thrF 1000000 (drOf 13 [2]) 1 (eZ Tryz.f38)
theorem k38 : QeOk ⟨38, eZ Tryz.f38, q38⟩ := qz 13 1 [2] Tryz.func38 (by kernel_rfl) (by kernel_rfl)
def q39 : Phi → HF := thrF 1000000 (drOf 73 [6, 7, 10]) 3 (eZ Tryz.f39)
theorem k39 : QeOk ⟨39, eZ Tryz.f39, q39⟩ := qz 73 3 [6, 7, 10] Tryz.func39 (by kernel_rfl) (by kernel_rfl)
def q40 : Phi → HF := thrF 1000000 (drOf 59 [2, 18]) 1 (eZ Tryz.f40)
theorem k40 : QeOk ⟨40, eZ Tryz.f40, q40⟩ := qz 59 1 [2, 18] Tryz.func40 (by kernel_rfl) (by kernel_rfl)
def q41 : Phi → HF := fnQ (aLet fun v1 => (aEnd (cLetW (n0 (.cells [.n .u8 0, .n .u32 0, .n .u32 0, .n .u32 0, .n .u32 0, .n .u32 0, .o .sl] 128 .exact)) X2 fun v2 => (cWr X3 (.n .u64 0) (cWr X4 (.n .i64 0) (cLet (oCallS 47 [(rdV v1)]) fun v3 => (cLet (oCallS 76 [(rdV v3)]) fun v4 => (cLet (nL (buN [.n .u8 0, .n .u32 0, .n .u32 0, .n .u32 0, .n .u32 0, .n .u32 0, .o .sl] [(.int .u8 0), (.int .u32 0), (.int .u32 0), (.int .u32 0), (.int .u32 0), (.int .u32 0), .nilsl] [(0, 1)]) [(rdV v4)]) fun v5 => (cLet (n0 (.cells [.n .u8 0, .n .u32 0, .n .u32 0, .n .u32 0, .n .u32 0, .n .u32 0, .o .sl] 128 .exact)) fun v6 => (cDo (n2 (stF 7) (rdV v6) (rdV v5)) (cLet (o1 (faF 1) (rdV v6)) fun v7 => (cLet (o1 (faF 2) (rdV v6)) fun v8 => (cLet (o1 (faF 3) (rdV v6)) fun v9 => (cLet (o1 (faF 4) (rdV v6)) fun v10 => (cLet (o1 (faF 5) (rdV v6)) fun v11 => (cLet (nL (buN [.o .ptr, .o .ptr, .o .ptr, .o .ptr, .o .ptr] [.nilptr, .nilptr, .nilptr, .nilptr, .nilptr] [(0, 1), (1, 1), (2, 1), (3, 1), (4, 1)]) [(rdV v7), (rdV v8), (rdV v9), (rdV v10), (rdV v11)]) fun v12 => (cWr X22 (.n .i64 0) (cSeq (cBlk 0 (cLoop 1000000 (cLet (o2 bLss R22 (rdV (.n .i64 5))) fun v13 => (cSeq (cCond (rdV v13) cSkip (cExit 0)) (cSeq (cBlk 1 (cLet (nL (pQ (.idxArr 5 1 false)) [(rdV v12), R22]) fun v14 => (cLet (oCallS 48 [(rdV v3)]) fun v15 => (cLet (o1 ncF (rdV v14)) fun v16 => (cDo (n2 (stF 1) (rdV v16) (rdV v15)) cSkip))))) (cLet (o2 bAdd R22 (rdV (.n .i64 1))) fun v17 => (cWr X22 v17 cSkip))))))) (cLet (oCallS 77 [(rdV v3)]) fun v18 => (cLet (n1 (ssQ 5) (rdV v18)) fun v19 => (cLet (oCallS 25 [(rdV v19)]) fun v20 => (cLet (o1 (faF 6) (rdV v6)) fun v21 => (cDo (n2 (stF 1) (rdV v21) (rdV v20)) (cLet (oCallS 78 [(rdV v3)]) fun v22 => (cLet (oCallS 48 [(rdV v3)]) fun v23 => (cSeq (cBlk 2 (cLet (oCallS 49 [(rdV v3)]) fun v24 => (cLet (o2 bNeq (rdV v24) (rdV (.n .i64 0))) fun v25 => (cSeq (cCond (rdV v25) (cLet (nL (buN [.n .u8 0, .n .u32 0, .n .u32 0, .n .u32 0, .n .u32 0, .n .u32 0, .o .sl] [(.int .u8 0), (.int .u32 0), (.int .u32 0), (.int .u32 0), (.int .u32 0), (.int .u32 0), .nilsl] []) []) fun v26 => (cDo (n2 (stF 7) (rdV v2) (rdV v26)) (cWr X3 (.n .u64 0) (cWr X4 (.n .i64 4) cRet)))) (cLet (oCallS 79 [(rdV v3)]) fun v27 => (cLet (o2 bGtr (rdV v27) (rdV (.n .i64 0))) fun v28 => (cSeq (cCond (rdV v28) (cLet (nL (buN [.n .u8 0, .n .u32 0, .n .u32 0, .n .u32 0, .n .u32 0, .n .u32 0, .o .sl] [(.int .u8 0), (.int .u32 0), (.int .u32 0), (.int .u32 0), (.int .u32 0), (.int .u32 0), .nilsl] []) []) fun v29 => (cDo (n2 (stF 7) (rdV v2) (rdV v29)) (cWr X3 (.n .u64 0) (cWr X4 (.n .i64 5) cRet)))) (cLet (o1 lvF (rdV v1)) fun v30 => (cLet (o2 bSub (rdV v30) (rdV (.n .i64 4))) fun v31 => (cLet (oSv 1 (rdV v1) none (some (rdV v31)) none) fun v32 => (cLet (oCallS 80 [(rdV v32)]) fun v33 => (cLet (o2 bNeq (rdV v23) (rdV v33)) fun v34 => (cSeq (cCond (rdV v34) (cLet (nL (buN [.n .u8 0, .n .u32 0, .n .u32 0, .n .u32 0, .n .u32 0, .n .u32 0, .o .sl] [(.int .u8 0), (.int .u32 0), (.int .u32 0), (.int .u32 0), (.int .u32 0), (.int .u32 0), .nilsl] []) []) fun v35 => (cDo (n2 (stF 7) (rdV v2) (rdV v35)) (cWr X3 (.n .u64 0) (cWr X4 (.n .i64 11) cRet)))) (cLet (m1 (lnF 7) (rdV v6)) fun v36 => (cLet (oCallS 81 [(rdV v36)]) fun v37 => (cLet (o1 notF (rdV v37)) fun v38 => (cSeq (cCond (rdV v38) (cLet (nL (buN [.n .u8 0, .n .u32 0, .n .u32 0, .n .u32 0, .n .u32 0, .n .u32 0, .o .sl] [(.int .u8 0), (.int .u32 0), (.int .u32 0), (.int .u32 0), (.int .u32 0), (.int .u32 0), .nilsl] []) []) fun v39 => (cDo (n2 (stF 7) (rdV v2) (rdV v39)) (cWr X3 (.n .u64 0) (cWr X4 (.n .i64 5) cRet)))) cSkip) cSkip))))) cSkip))))))) cSkip)))) cSkip)))) (cLet (m1 (lnF 7) (rdV v6)) fun v40 => (cDo (n2 (stF 7) (rdV v2) (rdV v40)) (cWr X3 v22 (cWr X4 (.n .i64 0) cRet)))))))))))))))))))))))))))) [vN 7 R2, vT R3, vT R4]))
theorem k41 : QeOk ⟨41, eZ Tryz.f41, q41⟩ := qz 66 1 [2, 3, 4, 22] Tryz.func41 (by kernel_rfl) (by kernel_rfl)
def q42 : Phi → HF := thrF 1000000 (drOf 180 [8, 9]) 4 (eZ Tryz.f42)
theorem k42 : QeOk ⟨42, eZ Tryz.f42, q42⟩ := qz 180 4 [8, 9] Tryz.func42 (by kernel_rfl) (by kernel_rfl)
def q43 : Phi → HF := thrF 1000000 (drOf 10 [2]) 1 (eZ Tryz.f43)
theorem k43 : QeOk ⟨43, eZ Tryz.f43, q43⟩ := qz 10 1 [2] Tryz.func43 (by kernel_rfl) (by kernel_rfl)
def q44 : Phi → HF := thrF 1000000 (drOf 87 [4, 5, 9, 31]) 2 (eZ Tryz.f44)
theorem k44 : QeOk ⟨44, eZ Tryz.f44, q44⟩ := qz 87 2 [4, 5, 9, 31] Tryz.func44 (by kernel_rfl) (by kernel_rfl)
def q45 : Phi → HF := thrF 1000000 (drOf 27 [2]) 1 (eZ Tryz.f45)
theorem k45 : QeOk ⟨45, eZ Tryz.f45, q45⟩ := qz 27 1 [2] Tryz.func45 (by kernel_rfl) (by kernel_rfl)
def q46 : Phi → HF := thrF 1000000 (drOf 62 [6]) 3 (eZ Tryz.f46)
theorem k46 : QeOk ⟨46, eZ Tryz.f46, q46⟩ := qz 62 3 [6] Tryz.func46 (by kernel_rfl) (by kernel_rfl)
def q47 : Phi → HF := fnQ (aLet fun v1 => (aEnd (cWr X2 (.o .ptr) (cLet (oCallS 25 [(rdV v1)]) fun v2 => (cLet (nL (buN [.o .sl, .b false] [.nilsl, (.bool false)] [(0, 1)]) [(rdV v2)]) fun v3 => (cLet (n1 (bxF 230) (rdV v3)) fun v4 => (cWr X2 v4 cRet))))) [vT R2]))
theorem k47 : QeOk ⟨47, eZ Tryz.f47, q47⟩ := qz 7 1 [2] Tryz.func47 (by kernel_rfl) (by kernel_rfl)
def q48 : Phi → HF := fnQ (aLet fun v1 => (aEnd (cWr X2 (.n .u32 0) (cLet (oCallS 96 [(rdV v1), (rdV (.n .i64 4))]) fun v2 => (cLet (o1 (cvF .u32) (rdV v2)) fun v3 => (cWr X2 v3 cRet)))) [vT R2]))
theorem k48 : QeOk ⟨48, eZ Tryz.f48, q48⟩ := qz 6 1 [2] Tryz.func48 (by kernel_rfl) (by kernel_rfl)
def q49 : Phi → HF := fnQ (aLet fun v1 => (aEnd (cWr X2 (.n .i64 0) (cLet (o2 (eqQ1 false .ptr) (rdV v1) (rdV (.o .ptr))) fun v2 => (cLet (oG false (rdV v2) (oV (rdV v1))) fun v3 => (cLet (oG false (rdV v2) (o1 ncF (rdV v3))) fun v4 => (cLet (oG false (rdV v2) (o1 (faF 1) (rdV v4))) fun v5 => (cLet (oG false (rdV v2) (m1 ldF (rdV v5))) fun v6 => (cLet (o3 pkF (rdV v2) (rdV (.b true)) (rdV v6)) fun v7 => (cSeq (cCond (rdV v7) (cWr X2 (.n .i64 4) cRet) cSkip) (cWr X2 (.n .i64 0) cRet))))))))) [vT R2]))
theorem k49 : QeOk ⟨49, eZ Tryz.f49, q49⟩ := qz 11 1 [2] Tryz.func49 (by kernel_rfl) (by kernel_rfl)
def q50 : Phi → HF := thrF 1000000 (drOf 135 [4, 5, 11, 12]) 2 (eZ Tryz.f50)
theorem k50 : QeOk ⟨50, eZ Tryz.f50, q50⟩ := qz 135 2 [4, 5, 11, 12] Tryz.func50 (by kernel_rfl) (by kernel_rfl)
def q51 : Phi → HF := thrF 1000000 (drOf 42 [34]) 3 (eZ Tryz.f51)
theorem k51 : QeOk ⟨51, eZ Tryz.f51, q51⟩ := qz 42 3 [34] Tryz.func51 (by kernel_rfl) (by kernel_rfl)
def q52 : Phi → HF := thrF 1000000 (drOf 3 [0]) 0 (eZ Tryz.f52)
theorem k52 : QeOk ⟨52, eZ Tryz.f52, q52⟩ := qz 3 0 [0] Tryz.func52 (by kernel_rfl) (by kernel_rfl)
def q53 : Phi → HF := fnQ (aLet fun v1 => (aLet fun v2 => (aEnd (cWr X4 (.o .ptr) (cLet (o2 bShr (rdV v2) (rdV (.n .u64 16))) fun v3 => (cLet (o1 (cvF .u16) (rdV v3)) fun v4 => (cLet (oCallS 100 [(rdV v1), (rdV v4)]) fun v5 => (cLet (o1 (cvF .u16) (rdV v2)) fun v6 => (cLet (oCallS 100 [(rdV v5), (rdV v6)]) fun v7 => (cWr X4 v7 cRet))))))) [vT R4])))
theorem k53 : QeOk ⟨53, eZ Tryz.f53, q53⟩ := qz 13 2 [4] Tryz.func53 (by kernel_rfl) (by kernel_rfl)
def q54 : Phi → HF := fnQ (aLetW X0 fun v1 => (aLet fun v2 => (aEnd (cWr X4 (.o .ptr) (cLet (o2 (eqQ1 false .ptr) (rdV v1) (rdV (.o .ptr))) fun v3 => (cSeq (cCond (rdV v3) (cLet (nL (buN [.o .sl, .n .i64 0] [.nilsl, (.int .i64 0)] []) []) fun v4 => (cLet (n1 (bxF 151) (rdV v4)) fun v5 => (cWr X0 v5 cSkip))) cSkip) (cLet (oV R0) fun v6 => (cLet (o1 ncF (rdV v6)) fun v7 => (cLet (o1 (faF 1) (rdV v7)) fun v8 => (cLet (m1 ldF (rdV v8)) fun v9 => (cLet (o2 bEql (rdV v9) (rdV (.n .i64 0))) fun v10 => (cSeq (cCond (rdV v10) (cLet (oV R0) fun v11 => (cLet (oV R0) fun v12 => (cLet (o1 ncF (rdV v12)) fun v13 => (cLet (o1 (faF 0) (rdV v13)) fun v14 => (cLet (m1 ldF (rdV v14)) fun v15 => (cLet (n2 (apQ 5 false 1) (rdV v15) (rdV v2)) fun v16 => (cLet (o1 ncF (rdV v11)) fun v17 => (cLet (o1 (faF 0) (rdV v17)) fun v18 => (cDo (n2 (stF 1) (rdV v18) (rdV v16)) cSkip))))))))) cSkip) (cLet (oV R0) fun v19 => (cWr X4 v19 cRet))))))))))) [vT R4])))
theorem k54 : QeOk ⟨54, eZ Tryz.f54, q54⟩ := qz 24 2 [0, 4] Tryz.func54 (by kernel_rfl) (by kernel_rfl)
def q55 : Phi → HF := fnQ (aLet fun v1 => (aEnd (cWr X2 (.o .sl) (cWr X3 (.n .i64 0) (cLet (oCallS 54 [(rdV v1), (rdV (.o .sl))]) fun v2 => (cLet (o1 ncF (rdV v2)) fun v3 => (cLet (o1 (faF 1) (rdV v3)) fun v4 => (cLet (m1 ldF (rdV v4)) fun v5 => (cLet (o2 bNeq (rdV v5) (rdV (.n .i64 0))) fun v6 => (cSeq (cCond (rdV v6) (cLet (o1 ncF (rdV v2)) fun v7 => (cLet (o1 (faF 1) (rdV v7)) fun v8 => (cLet (m1 ldF (rdV v8)) fun v9 => (cWr X2 (.o .sl) (cWr X3 v9 cRet))))) cSkip) (cLet (o1 ncF (rdV v2)) fun v10 => (cLet (o1 (faF 0) (rdV v10)) fun v11 => (cLet (m1 ldF (rdV v11)) fun v12 => (cLet (oCallS 25 [(rdV v12)]) fun v13 => (cWr X2 v13 (cWr X3 (.n .i64 0) cRet)))))))))))))) [vT R2, vT R3]))
theorem k55 : QeOk ⟨55, eZ Tryz.f55, q55⟩ := qz 20 1 [2, 3] Tryz.func55 (by kernel_rfl) (by kernel_rfl)
def q56 : Phi → HF := thrF 1000000 (drOf 100 [4, 9, 63]) 2 (eZ Tryz.f56)
theorem k56 : QeOk ⟨56, eZ Tryz.f56, q56⟩ := qz 100 2 [4, 9, 63] Tryz.func56 (by kernel_rfl) (by kernel_rfl)
def q57 : Phi → HF := fnQ (aLet fun v1 => (aLet fun v2 => (aEnd (cWr X4 (.o .ptr) (cLet (o2 bEql (rdV v2) (rdV (.n .u32 0))) fun v3 => (cLet (oG false (rdV v3) (oV (rdV v2))) fun v4 => (cLet (oG false (rdV v3) (o1 (cvF .i64) (rdV v4))) fun v5 => (cLet (oG false (rdV v3) (oV (rdV v1))) fun v6 => (cLet (oG false (rdV v3) (o1 ncF (rdV v6))) fun v7 => (cLet (oG false (rdV v3) (o1 (faF 9) (rdV v7))) fun v8 => (cLet (oG false (rdV v3) (m1 ldF (rdV v8))) fun v9 => (cLet (oG false (rdV v3) (o1 lvF (rdV v9))) fun v10 => (cLet (oG false (rdV v3) (o2 bGtr (rdV v5) (rdV v10))) fun v11 => (cLet (o3 pkF (rdV v3) (rdV (.b true)) (rdV v11)) fun v12 => (cSeq (cCond (rdV v12) (cWr X4 (.o .ptr) cRet) cSkip) (cLet (o1 ncF (rdV v1)) fun v13 => (cLet (o1 (faF 9) (rdV v13)) fun v14 => (cLet (m1 ldF (rdV v14)) fun v15 => (cLet (o2 bSub (rdV v2) (rdV (.n .u32 1))) fun v16 => (cLet (o2 (isF 1) (rdV v15) (rdV v16)) fun v17 => (cLet (m1 ldF (rdV v17)) fun v18 => (cWr X4 v18 cRet))))))))))))))))))) [vT R4])))
theorem k57 : QeOk ⟨57, eZ Tryz.f57, q57⟩ := qz 25 2 [4] Tryz.func57 (by kernel_rfl) (by kernel_rfl)
def q58 : Phi → HF := p58 stdO
theorem qp58 : q58 = p58 stdO := rfl
theorem k58 : QeOk ⟨58, eZ Tryz.f58, q58⟩ := qz 36 3 [6, 7] Tryz.func58 (by kernel_rfl) (by kernel_rfl)
def q59 : Phi → HF := p59 stdO
theorem qp59 : q59 = p59 stdO := rfl
theorem k59 : QeOk ⟨59, eZ Tryz.f59, q59⟩ := qz 4 0 [0] Tryz.func59 (by kernel_rfl) (by kernel_rfl)
def q60 : Phi → HF := p60 stdO
theorem qp60 : q60 = p60 stdO := rfl
theorem k60 : QeOk ⟨60, eZ Tryz.f60, q60⟩ := qz 16 1 [2, 3] Tryz.func60 (by kernel_rfl) (by kernel_rfl)
def q61 : Phi → HF := p61 stdO
theorem qp61 : q61 = p61 stdO := rfl
theorem k61 : QeOk ⟨61, eZ Tryz.f61, q61⟩ := qz 16 1 [2, 3] Tryz.func61 (by kernel_rfl) (by kernel_rfl)
def q62 : Phi → HF := p62 stdO
theorem qp62 : q62 = p62 stdO := rfl
theorem k62 : QeOk ⟨62, eZ Tryz.f62, q62⟩ := qz 25 1 [2] Tryz.func62 (by kernel_rfl) (by kernel_rfl)
def q63 : Phi → HF := p63 stdO
theorem qp63 : q63 = p63 stdO := rfl
theorem k63 : QeOk ⟨63, eZ Tryz.f63, q63⟩ := qz 35 3 [6, 7] Tryz.func63 (by kernel_rfl) (by kernel_rfl)
def q64 : Phi → HF := p64 stdO
theorem qp64 : q64 = p64 stdO := rfl
theorem k64 : QeOk ⟨64, eZ Tryz.f64, q64⟩ := qz 9 1 [2] Tryz.func64 (by kernel_rfl) (by kernel_rfl)
def q65 : Phi → HF := fnQ (aLet fun v1 => (aEnd (cWr X2 (.b false) (cLet (o2 (eqQ1 false .ptr) (rdV v1) (rdV (.o .ptr))) fun v2 => (cLet (oG false (rdV v2) (oV (rdV v1))) fun v3 => (cLet (oG false (rdV v2) (o1 ncF (rdV v3))) fun v4 => (cLet (oG false (rdV v2) (o1 (faF 1) (rdV v4))) fun v5 => (cLet (oG false (rdV v2) (m1 ldF (rdV v5))) fun v6 => (cLet (oG false (rdV v2) (o2 (eqQ1 false .ptr) (rdV v6) (rdV (.o .ptr)))) fun v7 => (cLet (o3 pkF (rdV v2) (rdV (.b true)) (rdV v7)) fun v8 => (cWr X2 v8 cRet))))))))) [vT R2]))
theorem k65 : QeOk ⟨65, eZ Tryz.f65, q65⟩ := qz 12 1 [2] Tryz.func65 (by kernel_rfl) (by kernel_rfl)
def q66 : Phi → HF := thrF 1000000 (drOf 16 [2, 3]) 1 (eZ Tryz.f66)
theorem k66 : QeOk ⟨66, eZ Tryz.f66, q66⟩ := qz 16 1 [2, 3] Tryz.func66 (by kernel_rfl) (by kernel_rfl)
def q67 : Phi → HF := thrF 1000000 (drOf 26 [2, 3, 17]) 1 (eZ Tryz.f67)
theorem k67 : QeOk ⟨67, eZ Tryz.f67, q67⟩ := qz 26 1 [2, 3, 17] Tryz.func67 (by kernel_rfl) (by kernel_rfl)
def q68 : Phi → HF := thrF 1000000 (drOf 22 [6]) 3 (eZ Tryz.f68)
theorem k68 : QeOk ⟨68, eZ Tryz.f68, q68⟩ := qz 22 3 [6] Tryz.func68 (by kernel_rfl) (by kernel_rfl)
def q69 : Phi → HF := fnQ (aLet fun v1 => (aEnd (cWr X2 (.n .i64 0) (cSeq (cBlk 0 (cLet (oCallS 65 [(rdV v1)]) fun v2 => (cSeq (cCond (rdV v2) (cWr X2 (.n .i64 2) cRet) (cLet (o1 ncF (rdV v1)) fun v3 => (cLet (o1 (faF 21) (rdV v3)) fun v4 => (cLet (m1 ldF (rdV v4)) fun v5 => (cSeq (cCond (rdV v5) (cWr X2 (.n .i64 10) cRet) cSkip) cSkip))))) cSkip))) (cWr X2 (.n .i64 0) cRet))) [vT R2]))
theorem k69 : QeOk ⟨69, eZ Tryz.f69, q69⟩ := qz 11 1 [2] Tryz.func69 (by kernel_rfl) (by kernel_rfl)
def q70 : Phi → HF := thrF 1000000 (drOf 64 [4, 13]) 2 (eZ Tryz.f70)
theorem k70 : QeOk ⟨70, eZ Tryz.f70, q70⟩ := qz 64 2 [4, 13] Tryz.func70 (by kernel_rfl) (by kernel_rfl)
def q71 : Phi → HF := thrF 1000000 (drOf 69 [4, 5, 8, 21, 51]) 2 (eZ Tryz.f71)
theorem k71 : QeOk ⟨71, eZ Tryz.f71, q71⟩ := qz 69 2 [4, 5, 8, 21, 51] Tryz.func71 (by kernel_rfl) (by kernel_rfl)
def q72 : Phi → HF := fnQ (aLet fun v1 => (aEnd (cWr X2 (.b false) (cLet (o2 (eqQ1 false .ptr) (rdV v1) (rdV (.o .ptr))) fun v2 => (cLet (oG false (rdV v2) (oV (rdV v1))) fun v3 => (cLet (oG false (rdV v2) (o1 ncF (rdV v3))) fun v4 => (cLet (oG false (rdV v2) (o1 (faF 0) (rdV v4))) fun v5 => (cLet (oG false (rdV v2) (m1 ldF (rdV v5))) fun v6 => (cLet (oG false (rdV v2) (o2 (eqQ1 false .ptr) (rdV v6) (rdV (.o .ptr)))) fun v7 => (cLet (o3 pkF (rdV v2) (rdV (.b true)) (rdV v7)) fun v8 => (cWr X2 v8 cRet))))))))) [vT R2]))
theorem k72 : QeOk ⟨72, eZ Tryz.f72, q72⟩ := qz 12 1 [2] Tryz.func72 (by kernel_rfl) (by kernel_rfl)
def q73 : Phi → HF := thrF 1000000 (drOf 45 [2, 3, 7, 23]) 1 (eZ Tryz.f73)
theorem k73 : QeOk ⟨73, eZ Tryz.f73, q73⟩ := qz 45 1 [2, 3, 7, 23] Tryz.func73 (by kernel_rfl) (by kernel_rfl)
def q74 : Phi → HF := fnQ (aLet fun v1 => (aLet fun v2 => (aEnd (cWr X4 (.o .ptr) (cLet (o2 bShr (rdV v2) (rdV (.n .u64 32))) fun v3 => (cLet (o1 (cvF .u32) (rdV v3)) fun v4 => (cLet (oCallS 53 [(rdV v1), (rdV v4)]) fun v5 => (cLet (o1 (cvF .u32) (rdV v2)) fun v6 => (cLet (oCallS 53 [(rdV v5), (rdV v6)]) fun v7 => (cWr X4 v7 cRet))))))) [vT R4])))
theorem k74 : QeOk ⟨74, eZ Tryz.f74, q74⟩ := qz 13 2 [4] Tryz.func74 (by kernel_rfl) (by kernel_rfl)
def q75 : Phi → HF := thrF 1000000 (drOf 18 [4]) 2 (eZ Tryz.f75)
theorem k75 : QeOk ⟨75, eZ Tryz.f75, q75⟩ := qz 18 2 [4] Tryz.func75 (by kernel_rfl) (by kernel_rfl)
def q76 : Phi → HF := fnQ (aLet fun v1 => (aEnd (cWr X2 (.n .u8 0) (cLet (oCallS 96 [(rdV v1), (rdV (.n .i64 1))]) fun v2 => (cLet (o1 (cvF .u8) (rdV v2)) fun v3 => (cWr X2 v3 cRet)))) [vT R2]))
theorem k76 : QeOk ⟨76, eZ Tryz.f76, q76⟩ := qz 6 1 [2] Tryz.func76 (by kernel_rfl) (by kernel_rfl)
def q77 : Phi → HF := fnQ (aLet fun v1 => (aEnd (cWr X2 (.s 1) (cLet (oCallS 120 [(rdV v1)]) fun v2 => (cLet (o1 (cvF .i64) (rdV v2)) fun v3 => (cLet (oCallS 119 [(rdV v1), (rdV v3)]) fun v4 => (cLet (m1 s2Q (rdV v4)) fun v5 => (cWr X2 v5 cRet)))))) [vT R2]))
theorem k77 : QeOk ⟨77, eZ Tryz.f77, q77⟩ := qz 9 1 [2] Tryz.func77 (by kernel_rfl) (by kernel_rfl)
def q78 : Phi → HF := fnQ (aLet fun v1 => (aEnd (cWr X2 (.n .u64 0) (cLet (oCallS 96 [(rdV v1), (rdV (.n .i64 8))]) fun v2 => (cWr X2 v2 cRet))) [vT R2]))
theorem k78 : QeOk ⟨78, eZ Tryz.f78, q78⟩ := qz 5 1 [2] Tryz.func78 (by kernel_rfl) (by kernel_rfl)
def q79 : Phi → HF := fnQ (aLet fun v1 => (aEnd (cWr X2 (.n .i64 0) (cLet (o2 (eqQ1 false .ptr) (rdV v1) (rdV (.o .ptr))) fun v2 => (cSeq (cCond (rdV v2) (cWr X2 (.n .i64 0) cRet) cSkip) (cLet (o1 ncF (rdV v1)) fun v3 => (cLet (o1 (faF 0) (rdV v3)) fun v4 => (cLet (m1 ldF (rdV v4)) fun v5 => (cLet (o1 lvF (rdV v5)) fun v6 => (cWr X2 v6 cRet)))))))) [vT R2]))
theorem k79 : QeOk ⟨79, eZ Tryz.f79, q79⟩ := qz 10 1 [2] Tryz.func79 (by kernel_rfl) (by kernel_rfl)
def q81 : Phi → HF := fnQ (aLet fun v1 => (aEnd (cLet (n1 (bxF 128) (rdV v1)) fun v2 => (cWr X2 (.b false) (cLet (o1 (faF 0) (rdV v2)) fun v3 => (cLet (m1 ldF (rdV v3)) fun v4 => (cLet (o2 bGeq (rdV v4) (rdV (.n .u8 1))) fun v5 => (cLet (oG true (rdV v5) (o1 (faF 0) (rdV v2))) fun v6 => (cLet (oG true (rdV v5) (m1 ldF (rdV v6))) fun v7 => (cLet (oG true (rdV v5) (o2 bLeq (rdV v7) (rdV (.n .u8 5)))) fun v8 => (cLet (o3 pkF (rdV v5) (rdV v8) (rdV (.b false))) fun v9 => (cLet (oG true (rdV v9) (o1 (faF 6) (rdV v2))) fun v10 => (cLet (oG true (rdV v9) (m1 ldF (rdV v10))) fun v11 => (cLet (oG true (rdV v9) (o1 lvF (rdV v11))) fun v12 => (cLet (oG true (rdV v9) (o2 bLeq (rdV v12) (rdV (.n .i64 256)))) fun v13 => (cLet (o3 pkF (rdV v9) (rdV v13) (rdV (.b false))) fun v14 => (cLet (oG true (rdV v14) (o1 (faF 0) (rdV v2))) fun v15 => (cLet (oG true (rdV v14) (m1 ldF (rdV v15))) fun v16 => (cLet (oG true (rdV v14) (o2 (iaF 6 1) (rdV (.p 0 0)) (rdV v16))) fun v17 => (cLet (oG true (rdV v14) (m1 ldF (rdV v17))) fun v18 => (cLet (oG true (rdV v14) (m1 (lnF 7) (rdV v2))) fun v19 => (cLet (oG true (rdV v14) (oCall (rdV v18) [(rdV v19)])) fun v20 => (cLet (o3 pkF (rdV v14) (rdV v20) (rdV (.b false))) fun v21 => (cWr X2 v21 cRet)))))))))))))))))))))) [vT R2]))
theorem k81 : QeOk ⟨81, eZ Tryz.f81, q81⟩ := qz 25 1 [2] Tryz.func81 (by kernel_rfl) (by kernel_rfl)
def q82 : Phi → HF := thrF 1000000 (drOf 12 [2]) 1 (eZ Tryz.f82)
theorem k82 : QeOk ⟨82, eZ Tryz.f82, q82⟩ := qz 12 1 [2] Tryz.func82 (by kernel_rfl) (by kernel_rfl)
def q83 : Phi → HF := thrF 1000000 (drOf 39 [6, 7]) 3 (eZ Tryz.f83)
theorem k83 : QeOk ⟨83, eZ Tryz.f83, q83⟩ := qz 39 3 [6, 7] Tryz.func83 (by kernel_rfl) (by kernel_rfl)
def q84 : Phi → HF := thrF 1000000 (drOf 63 [2, 3, 6, 16]) 1 (eZ Tryz.f84)
theorem k84 : QeOk ⟨84, eZ Tryz.f84, q84⟩ := qz 63 1 [2, 3, 6, 16] Tryz.func84 (by kernel_rfl) (by kernel_rfl)
def q85 : Phi → HF := thrF 1000000 (drOf 7 [2]) 1 (eZ Tryz.f85)
theorem k85 : QeOk ⟨85, eZ Tryz.f85, q85⟩ := qz 7 1 [2] Tryz.func85 (by kernel_rfl) (by kernel_rfl)
def q86 : Phi → HF := thrF 1000000 (drOf 85 [10]) 5 (eZ Tryz.f86)
theorem k86 : QeOk ⟨86, eZ Tryz.f86, q86⟩ := qz 85 5 [10] Tryz.func86 (by kernel_rfl) (by kernel_rfl)
def q87 : Phi → HF := thrF 1000000 (drOf 32 [6]) 3 (eZ Tryz.f87)
theorem k87 : QeOk ⟨87, eZ Tryz.f87, q87⟩ := qz 32 3 [6] Tryz.func87 (by kernel_rfl) (by kernel_rfl)
def q88 : Phi → HF := thrF 1000000 (drOf 20 [6]) 5 (eZ Tryz.f88)
theorem k88 : QeOk ⟨88, eZ Tryz.f88, q88⟩ := qz 20 5 [6] Tryz.func88 (by kernel_rfl) (by kernel_rfl)
def q89 : Phi → HF := thrF 1000000 (drOf 39 [12]) 6 (eZ Tryz.f89)
theorem k89 : QeOk ⟨89, eZ Tryz.f89, q89⟩ := qz 39 6 [12] Tryz.func89 (by kernel_rfl) (by kernel_rfl)
def q90 : Phi → HF := thrF 1000000 (drOf 92 [4, 5]) 2 (eZ Tryz.f90)
theorem k90 : QeOk ⟨90, eZ Tryz.f90, q90⟩ := qz 92 2 [4, 5] Tryz.func90 (by kernel_rfl) (by kernel_rfl)
def q92 : Phi → HF := thrF 1000000 (drOf 101 [4, 5, 6]) 2 (eZ Tryz.f92)
theorem k92 : QeOk ⟨92, eZ Tryz.f92, q92⟩ := qz 101 2 [4, 5, 6] Tryz.func92 (by kernel_rfl) (by kernel_rfl)
def q93 : Phi → HF := fnQ (aLet fun v1 => (aLet fun v2 => (aEnd (cWr X4 (.b false) (cLet (o2 bGeq (rdV v1) (rdV (.n .i64 0))) fun v3 => (cLet (oG true (rdV v3) (oV (rdV v1))) fun v4 => (cLet (oG true (rdV v3) (o2 bLss (rdV v4) (rdV (.n .i64 5)))) fun v5 => (cLet (o3 pkF (rdV v3) (rdV v5) (rdV (.b false))) fun v6 => (cLet (oG true (rdV v6) (oV (rdV v1))) fun v7 => (cLet (oG true (rdV v6) (o2 (iaF 5 1) (rdV (.p 1 0)) (rdV v7))) fun v8 => (cLet (oG true (rdV v6) (m1 ldF (rdV v8))) fun v9 => (cLet (oG true (rdV v6) (oV (rdV v2))) fun v10 => (cLet (oG true (rdV v6) (o2 bEql (rdV v9) (rdV v10))) fun v11 => (cLet (o3 pkF (rdV v6) (rdV v11) (rdV (.b false))) fun v12 => (cWr X4 v12 cRet)))))))))))) [vT R4])))
theorem k93 : QeOk ⟨93, eZ Tryz.f93, q93⟩ := qz 18 2 [4] Tryz.func93 (by kernel_rfl) (by kernel_rfl)
def q94 : Phi → HF := thrF 1000000 (drOf 33 [4]) 2 (eZ Tryz.f94)
theorem k94 : QeOk ⟨94, eZ Tryz.f94, q94⟩ := qz 33 2 [4] Tryz.func94 (by kernel_rfl) (by kernel_rfl)
def q95 : Phi → HF := thrF 1000000 (drOf 51 [2, 3]) 1 (eZ Tryz.f95)
theorem k95 : QeOk ⟨95, eZ Tryz.f95, q95⟩ := qz 51 1 [2, 3] Tryz.func95 (by kernel_rfl) (by kernel_rfl)
def q96 : Phi → HF := fnQ (aLet fun v1 => (aLet fun v2 => (aEnd (cWr X4 (.n .u64 0) (cWr X5 (.n .u64 0) (cLet (oCallS 119 [(rdV v1), (rdV v2)]) fun v3 => (cLet (o1 lvF (rdV v3)) fun v4 => (cWr X12 (.n .i64 0) (cSeq (cBlk 0 (cLoop 1000000 (cLet (o2 bLss R12 (rdV v4)) fun v5 => (cSeq (cCond (rdV v5) cSkip (cExit 0)) (cSeq (cBlk 1 (cLet (o2 (isF 1) (rdV v3) R12) fun v6 => (cLet (m1 ldF (rdV v6)) fun v7 => (cLet (oV R5) fun v8 => (cLet (o2 bShl (rdV v8) (rdV (.n .u64 8))) fun v9 => (cLet (o1 (cvF .u64) (rdV v7)) fun v10 => (cLet (o2 bOr (rdV v9) (rdV v10)) fun v11 => (cWr X5 v11 cSkip)))))))) (cLet (o2 bAdd R12 (rdV (.n .i64 1))) fun v12 => (cWr X12 v12 cSkip))))))) (cLet (oV R5) fun v13 => (cWr X4 v13 cRet)))))))) [vT R4])))
theorem k96 : QeOk ⟨96, eZ Tryz.f96, q96⟩ := qz 23 2 [4, 5, 12] Tryz.func96 (by kernel_rfl) (by kernel_rfl)
def q97 : Phi → HF := thrF 1000000 (drOf 19 [6]) 5 (eZ Tryz.f97)
theorem k97 : QeOk ⟨97, eZ Tryz.f97, q97⟩ := qz 19 5 [6] Tryz.func97 (by kernel_rfl) (by kernel_rfl)
def q98 : Phi → HF := thrF 1000000 (drOf 98 [7]) 2 (eZ Tryz.f98)
theorem k98 : QeOk ⟨98, eZ Tryz.f98, q98⟩ := qz 98 2 [7] Tryz.func98 (by kernel_rfl) (by kernel_rfl)
def q99 : Phi → HF := thrF 1000000 (drOf 65 []) 2 (eZ Tryz.f99)
theorem k99 : QeOk ⟨99, eZ Tryz.f99, q99⟩ := qz 65 2 [] Tryz.func99 (by kernel_rfl) (by kernel_rfl)
def q100 : Phi → HF := fnQ (aLet fun v1 => (aLet fun v2 => (aEnd (cWr X4 (.o .ptr) (cLet (o2 bShr (rdV v2) (rdV (.n .u64 8))) fun v3 => (cLet (o1 (cvF .u8) (rdV v3)) fun v4 => (cLet (o1 (cvF .u8) (rdV v2)) fun v5 => (cLet (nL (bsQ 5 1 2) [(rdV v4), (rdV v5)]) fun v6 => (cLet (oCallS 54 [(rdV v1), (rdV v6)]) fun v7 => (cWr X4 v7 cRet))))))) [vT R4])))
theorem k100 : QeOk ⟨100, eZ Tryz.f100, q100⟩ := qz 13 2 [4] Tryz.func100 (by kernel_rfl) (by kernel_rfl)
def q101 : Phi → HF := thrF 1000000 (drOf 33 [4]) 2 (eZ Tryz.f101)
theorem k101 : QeOk ⟨101, eZ Tryz.f101, q101⟩ := qz 33 2 [4] Tryz.func101 (by kernel_rfl) (by kernel_rfl)
def q102 : Phi → HF := thrF 1000000 (drOf 36 [2, 3, 6, 11, 27]) 1 (eZ Tryz.f102)
theorem k102 : QeOk ⟨102, eZ Tryz.f102, q102⟩ := qz 36 1 [2, 3, 6, 11, 27] Tryz.func102 (by kernel_rfl) (by kernel_rfl)
def q103 : Phi → HF := p103 stdO
theorem qp103 : q103 = p103 stdO := rfl
theorem k103 : QeOk ⟨103, eZ Tryz.f103, q103⟩ := qz 13 1 [2, 3] Tryz.func103 (by kernel_rfl) (by kernel_rfl)
def q104 : Phi → HF := p104 stdO
theorem qp104 : q104 = p104 stdO := rfl
theorem k104 : QeOk ⟨104, eZ Tryz.f104, q104⟩ := qz 16 1 [2, 3] Tryz.func104 (by kernel_rfl) (by kernel_rfl)
def q105 : Phi → HF := p105 stdO
theorem qp105 : q105 = p105 stdO := rfl
theorem k105 : QeOk ⟨105, eZ Tryz.f105, q105⟩ := qz 12 1 [2] Tryz.func105 (by kernel_rfl) (by kernel_rfl)
def q106 : Phi → HF := p106 stdO
theorem qp106 : q106 = p106 stdO := rfl
theorem k106 : QeOk ⟨106, eZ Tryz.f106, q106⟩ := qz 27 1 [2] Tryz.func106 (by kernel_rfl) (by kernel_rfl)
def q107 : Phi → HF := p107 stdO
theorem qp107 : q107 = p107 stdO := rfl
theorem k107 : QeOk ⟨107, eZ Tryz.f107, q107⟩ := qz 16 1 [2] Tryz.func107 (by kernel_rfl) (by kernel_rfl)
def q108 : Phi → HF := p108 stdO
theorem qp108 : q108 = p108 stdO := rfl
theorem k108 : QeOk ⟨108, eZ Tryz.f108, q108⟩ := qz 13 1 [2, 3] Tryz.func108 (by kernel_rfl) (by kernel_rfl)
def q109 : Phi → HF := thrF 1000000 (drOf 10 [2]) 1 (eZ Tryz.f109)
theorem k109 : QeOk ⟨109, eZ Tryz.f109, q109⟩ := qz 10 1 [2] Tryz.func109 (by kernel_rfl) (by kernel_rfl)
def q110 : Phi → HF := thrF 1000000 (drOf 10 [2]) 1 (eZ Tryz.f110)
theorem k110 : QeOk ⟨110, eZ Tryz.f110, q110⟩ := qz 10 1 [2] Tryz.func110 (by kernel_rfl) (by kernel_rfl)
def q111 : Phi → HF := thrF 1000000 (drOf 22 [6]) 3 (eZ Tryz.f111)
theorem k111 : QeOk ⟨111, eZ Tryz.f111, q111⟩ := qz 22 3 [6] Tryz.func111 (by kernel_rfl) (by kernel_rfl)
def q112 : Phi → HF := thrF 1000000 (drOf 68 [4, 5, 22]) 2 (eZ Tryz.f112)
theorem k112 : QeOk ⟨112, eZ Tryz.f112, q112⟩ := qz 68 2 [4, 5, 22] Tryz.func112 (by kernel_rfl) (by kernel_rfl)
def q113 : Phi → HF := thrF 1000000 (drOf 43 [4]) 2 (eZ Tryz.f113)
theorem k113 : QeOk ⟨113, eZ Tryz.f113, q113⟩ := qz 43 2 [4] Tryz.func113 (by kernel_rfl) (by kernel_rfl)
def q114 : Phi → HF := thrF 1000000 (drOf 37 [2, 3, 9]) 1 (eZ Tryz.f114)
theorem k114 : QeOk ⟨114, eZ Tryz.f114, q114⟩ := qz 37 1 [2, 3, 9] Tryz.func114 (by kernel_rfl) (by kernel_rfl)
def q115 : Phi → HF := fnQ (aLet fun v1 => (aLet fun v2 => (aEnd (cLet (n1 (bxF 128) (rdV v1)) fun v3 => (cWr X4 (.o .sl) (cWr X5 (.n .i64 0) (cLet (m1 (lnF 7) (rdV v3)) fun v4 => (cLet (oCallS 81 [(rdV v4)]) fun v5 => (cLet (o1 notF (rdV v5)) fun v6 => (cSeq (cCond (rdV v6) (cWr X4 (.o .sl) (cWr X5 (.n .i64 1) cRet)) cSkip) (cLet (m1 (lnF 7) (rdV v3)) fun v7 => (cLet (oCallS 148 [(rdV v7)]) fun v8 => (cLet (oCallS 74 [(rdV v8), (rdV v2)]) fun v9 => (cLet (oCallS 55 [(rdV v9)]) fun v10 => (cLet (o1 (exG 0) (rdV v10)) fun v11 => (cLet (o1 (exG 1) (rdV v10)) fun v12 => (cLet (o2 bNeq (rdV v12) (rdV (.n .i64 0))) fun v13 => (cSeq (cCond (rdV v13) (cWr X4 (.o .sl) (cWr X5 v12 cRet)) cSkip) (cLet (oCallS 80 [(rdV v11)]) fun v14 => (cLet (oCallS 53 [(rdV v9), (rdV v14)]) fun v15 => (cLet (oCallS 55 [(rdV v15)]) fun v16 => (cLet (o1 (exG 0) (rdV v16)) fun v17 => (cLet (o1 (exG 1) (rdV v16)) fun v18 => (cWr X4 v17 (cWr X5 v18 cRet)))))))))))))))))))))) [vT R4, vT R5])))
theorem k115 : QeOk ⟨115, eZ Tryz.f115, q115⟩ := qz 31 2 [4, 5] Tryz.func115 (by kernel_rfl) (by kernel_rfl)
def q116 : Phi → HF := thrF 1000000 (drOf 5 [2]) 1 (eZ Tryz.f116)
theorem k116 : QeOk ⟨116, eZ Tryz.f116, q116⟩ := qz 5 1 [2] Tryz.func116 (by kernel_rfl) (by kernel_rfl)
def q117 : Phi → HF := fnQ (aLet fun v1 => (aLet fun v2 => (aEnd (cLet (n1 (bxF 43) (rdV v1)) fun v3 => (cWr X4 (.n .u64 0) (cLet (oSa 32 1 (rdV v3) none none none) fun v4 => (cLet (nL (bsQ 22 1 1) [(rdV v2)]) fun v5 => (cLet (oCallS 149 [(rdV v4), (rdV v5)]) fun v6 => (cLet (n0 (.bs 115792089237316195423570985008687907853269984665640564039457584007913129639936 304 .exact)) fun v7 => (cDo (n2 (stF 32) (rdV v7) (rdV v6)) (cLet (oSa 32 1 (rdV v7) none none none) fun v8 => (cLet (oCallS 47 [(rdV v8)]) fun v9 => (cLet (oCallS 78 [(rdV v9)]) fun v10 => (cWr X4 v10 cRet))))))))))) [vT R4])))
theorem k117 : QeOk ⟨117, eZ Tryz.f117, q117⟩ := qz 13 2 [4] Tryz.func117 (by kernel_rfl) (by kernel_rfl)
def q118 : Phi → HF := fnQ (aLet fun v1 => (aEnd (cLet (n1 (bxF 128) (rdV v1)) fun v2 => (cWr X2 (.o .sl) (cLet (m1 (lnF 7) (rdV v2)) fun v3 => (cLet (oCallS 81 [(rdV v3)]) fun v4 => (cLet (o1 notF (rdV v4)) fun v5 => (cSeq (cCond (rdV v5) (cWr X2 (.o .sl) cRet) cSkip) (cLet (m1 (lnF 7) (rdV v2)) fun v6 => (cLet (oCallS 148 [(rdV v6)]) fun v7 => (cLet (oCallS 55 [(rdV v7)]) fun v8 => (cLet (o1 (exG 0) (rdV v8)) fun v9 => (cLet (o1 (exG 1) (rdV v8)) fun v10 => (cWr X2 v9 cRet)))))))))))) [vT R2]))
theorem k118 : QeOk ⟨118, eZ Tryz.f118, q118⟩ := qz 15 1 [2] Tryz.func118 (by kernel_rfl) (by kernel_rfl)
def q119 : Phi → HF := fnQ (aLet fun v1 => (aLet fun v2 => (aEnd (cWr X4 (.o .sl) (cLet (nL (pQ .maxI) [(rdV v2), (rdV (.n .i64 0))]) fun v3 => (cLet (o2 (eqQ1 false .ptr) (rdV v1) (rdV (.o .ptr))) fun v4 => (cLet (oG false (rdV v4) (oV (rdV v1))) fun v5 => (cLet (oG false (rdV v4) (o1 ncF (rdV v5))) fun v6 => (cLet (oG false (rdV v4) (o1 (faF 1) (rdV v6))) fun v7 => (cLet (oG false (rdV v4) (m1 ldF (rdV v7))) fun v8 => (cLet (o3 pkF (rdV v4) (rdV (.b true)) (rdV v8)) fun v9 => (cSeq (cCond (rdV v9) (cWr X4 (.o .sl) cRet) cSkip) (cLet (o1 ncF (rdV v1)) fun v10 => (cLet (o1 (faF 0) (rdV v10)) fun v11 => (cLet (m1 ldF (rdV v11)) fun v12 => (cLet (o1 lvF (rdV v12)) fun v13 => (cLet (o2 bGtr (rdV v3) (rdV v13)) fun v14 => (cSeq (cCond (rdV v14) (cLet (o1 ncF (rdV v1)) fun v15 => (cLet (o1 (faF 0) (rdV v15)) fun v16 => (cDo (n2 (stF 1) (rdV v16) (rdV (.o .sl))) (cLet (o1 ncF (rdV v1)) fun v17 => (cLet (o1 (faF 1) (rdV v17)) fun v18 => (cDo (n2 (stF 1) (rdV v18) (rdV (.b true))) (cWr X4 (.o .sl) cRet))))))) cSkip) (cLet (o1 ncF (rdV v1)) fun v19 => (cLet (o1 (faF 0) (rdV v19)) fun v20 => (cLet (m1 ldF (rdV v20)) fun v21 => (cLet (oSv 1 (rdV v21) none (some (rdV v3)) none) fun v22 => (cLet (oCallS 25 [(rdV v22)]) fun v23 => (cLet (o1 ncF (rdV v1)) fun v24 => (cLet (o1 (faF 0) (rdV v24)) fun v25 => (cLet (m1 ldF (rdV v25)) fun v26 => (cLet (oSv 1 (rdV v26) (some (rdV v3)) none none) fun v27 => (cLet (o1 ncF (rdV v1)) fun v28 => (cLet (o1 (faF 0) (rdV v28)) fun v29 => (cDo (n2 (stF 1) (rdV v29) (rdV v27)) (cWr X4 v23 cRet)))))))))))))))))))))))))))) [vT R4])))
theorem k119 : QeOk ⟨119, eZ Tryz.f119, q119⟩ := qz 46 2 [4] Tryz.func119 (by kernel_rfl) (by kernel_rfl)
def q120 : Phi → HF := fnQ (aLet fun v1 => (aEnd (cWr X2 (.n .u16 0) (cLet (oCallS 96 [(rdV v1), (rdV (.n .i64 2))]) fun v2 => (cLet (o1 (cvF .u16) (rdV v2)) fun v3 => (cWr X2 v3 cRet)))) [vT R2]))
theorem k120 : QeOk ⟨120, eZ Tryz.f120, q120⟩ := qz 6 1 [2] Tryz.func120 (by kernel_rfl) (by kernel_rfl)
def q122 : Phi → HF := thrF 1000000 (drOf 9 [4]) 2 (eZ Tryz.f122)
theorem k122 : QeOk ⟨122, eZ Tryz.f122, q122⟩ := qz 9 2 [4] Tryz.func122 (by kernel_rfl) (by kernel_rfl)
def q123 : Phi → HF := thrF 1000000 (drOf 21 [4, 20]) 2 (eZ Tryz.f123)
theorem k123 : QeOk ⟨123, eZ Tryz.f123, q123⟩ := qz 21 2 [4, 20] Tryz.func123 (by kernel_rfl) (by kernel_rfl)
def q124 : Phi → HF := fnQ (aLet fun v1 => (aLet fun v2 => (aLet fun v3 => (aEnd (cLetW (n0 (.bs 115792089237316195423570985008687907853269984665640564039457584007913129639936 43 .exact)) X6 fun v4 => (cLet (o2 (eqQ1 false .ptr) (rdV v1) (rdV (.o .ptr))) fun v5 => (cSeq (cCond (rdV v5) (cLet (nL (buN y8 x8 []) []) fun v6 => (cDo (n2 (stF 32) (rdV v4) (rdV v6)) cRet)) cSkip) (cLet (o1 ncF (rdV v1)) fun v7 => (cLet (o1 (faF 0) (rdV v7)) fun v8 => (cLet (m1 ldF (rdV v8)) fun v9 => (cLet (oCallS 154 [(rdV v9), (rdV v2), (rdV v3)]) fun v10 => (cLet (o1 (exG 0) (rdV v10)) fun v11 => (cLet (o1 (exG 1) (rdV v10)) fun v12 => (cLet (n0 (.bs 115792089237316195423570985008687907853269984665640564039457584007913129639936 43 .exact)) fun v13 => (cDo (n2 (stF 32) (rdV v13) (rdV v11)) (cLet (m1 (lnF 32) (rdV v13)) fun v14 => (cDo (n2 (stF 32) (rdV v4) (rdV v14)) cRet))))))))))))) [vN 32 R6]))))
theorem k124 : QeOk ⟨124, eZ Tryz.f124, q124⟩ := qz 23 3 [6] Tryz.func124 (by kernel_rfl) (by kernel_rfl)
def q125 : Phi → HF := fnQ (aLet fun v1 => (aEnd (cWr X2 (.o .sl) (cLet (n0 (.cells [.o .sl, .n .i64 0] 151 .exact)) fun v2 => (cLet (oCall (rdV v1) [(rdV v2)]) fun v3 => (cLet (oCallS 55 [(rdV v2)]) fun v4 => (cLet (o1 (exG 0) (rdV v4)) fun v5 => (cLet (o1 (exG 1) (rdV v4)) fun v6 => (cWr X2 v5 cRet))))))) [vT R2]))
theorem k125 : QeOk ⟨125, eZ Tryz.f125, q125⟩ := qz 13 1 [2] Tryz.func125 (by kernel_rfl) (by kernel_rfl)
def q126 : Phi → HF := fnQ (aLet fun v1 => (aLet fun v2 => (aEnd (cLet (m1 ldF (rdV v2)) fun v3 => (cLet (oCallS 53 [(rdV v1), (rdV v3)]) fun v4 => cSkip)) [])))
theorem k126 : QeOk ⟨126, eZ Tryz.f126, q126⟩ := qz 6 2 [] Tryz.func126 (by kernel_rfl) (by kernel_rfl)
def q127 : Phi → HF := fnQ (aLet fun v1 => (aLet fun v2 => (aEnd (cLet (m1 ldF (rdV v2)) fun v3 => (cLet (oCallS 53 [(rdV v1), (rdV v3)]) fun v4 => cSkip)) [])))
theorem k127 : QeOk ⟨127, eZ Tryz.f127, q127⟩ := qz 6 2 [] Tryz.func127 (by kernel_rfl) (by kernel_rfl)
def q128 : Phi → HF := fnQ (aLet fun v1 => (aLet fun v2 => (aEnd (cLet (m1 ldF (rdV v2)) fun v3 => (cLet (oCallS 74 [(rdV v1), (rdV v3)]) fun v4 => cSkip)) [])))
theorem k128 : QeOk ⟨128, eZ Tryz.f128, q128⟩ := qz 6 2 [] Tryz.func128 (by kernel_rfl) (by kernel_rfl)
def q129 : Phi → HF := fnQ (aLet fun v1 => (aLet fun v2 => (aEnd (cLet (m1 ldF (rdV v2)) fun v3 => (cLet (oCallS 74 [(rdV v1), (rdV v3)]) fun v4 => cSkip)) [])))
theorem k129 : QeOk ⟨129, eZ Tryz.f129, q129⟩ := qz 6 2 [] Tryz.func129 (by kernel_rfl) (by kernel_rfl)
def q131 : Phi → HF := thrF 1000000 (drOf 46 [6, 7, 8]) 3 (eZ Tryz.f131)
theorem k131 : QeOk ⟨131, eZ Tryz.f131, q131⟩ := qz 46 3 [6, 7, 8] Tryz.func131 (by kernel_rfl) (by kernel_rfl)
def q133 : Phi → HF := thrF 1000000 (drOf 33 [4]) 2 (eZ Tryz.f133)
theorem k133 : QeOk ⟨133, eZ Tryz.f133, q133⟩ := qz 33 2 [4] Tryz.func133 (by kernel_rfl) (by kernel_rfl)
def q134 : Phi → HF := fnQ (aLet fun v1 => (aEnd (cWr X2 (.b false) (cLet (o2 (eqQ1 false .ptr) (rdV v1) (rdV (.o .ptr))) fun v2 => (cLet (oG false (rdV v2) (oV (rdV v1))) fun v3 => (cLet (oG false (rdV v2) (o1 ncF (rdV v3))) fun v4 => (cLet (oG false (rdV v2) (o1 (faF 0) (rdV v4))) fun v5 => (cLet (oG false (rdV v2) (o1 (faF 0) (rdV v5))) fun v6 => (cLet (oG false (rdV v2) (m1 ldF (rdV v6))) fun v7 => (cLet (oG false (rdV v2) (o2 bEql (rdV v7) (rdV (.n .u64 0)))) fun v8 => (cLet (o3 pkF (rdV v2) (rdV (.b true)) (rdV v8)) fun v9 => (cWr X2 v9 cRet)))))))))) [vT R2]))
theorem k134 : QeOk ⟨134, eZ Tryz.f134, q134⟩ := qz 13 1 [2] Tryz.func134 (by kernel_rfl) (by kernel_rfl)
def q135 : Phi → HF := fnQ (aLet fun v1 => (aLet fun v2 => (aLet fun v3 => (aEnd (cWr X6 (.b false) (cLet (o1 (cvF .u64) (rdV v2)) fun v4 => (cLet (o2 bSub (rdV v3) (rdV v1)) fun v5 => (cLet (o2 bLeq (rdV v4) (rdV v5)) fun v6 => (cWr X6 v6 cRet))))) [vT R6]))))
theorem k135 : QeOk ⟨135, eZ Tryz.f135, q135⟩ := qz 13 3 [6] Tryz.func135 (by kernel_rfl) (by kernel_rfl)
def q136 : Phi → HF := thrF 1000000 (drOf 46 []) 1 (eZ Tryz.f136)
theorem k136 : QeOk ⟨136, eZ Tryz.f136, q136⟩ := qz 46 1 [] Tryz.func136 (by kernel_rfl) (by kernel_rfl)
def q137 : Phi → HF := thrF 1000000 (drOf 13 [2]) 1 (eZ Tryz.f137)
theorem k137 : QeOk ⟨137, eZ Tryz.f137, q137⟩ := qz 13 1 [2] Tryz.func137 (by kernel_rfl) (by kernel_rfl)
def q138 : Phi → HF := thrF 1000000 (drOf 27 [0, 4]) 2 (eZ Tryz.f138)
theorem k138 : QeOk ⟨138, eZ Tryz.f138, q138⟩ := qz 27 2 [0, 4] Tryz.func138 (by kernel_rfl) (by kernel_rfl)
def q139 : Phi → HF := p139 stdO
theorem qp139 : q139 = p139 stdO := rfl
theorem k139 : QeOk ⟨139, eZ Tryz.f139, q139⟩ := qz 12 1 [2] Tryz.func139 (by kernel_rfl) (by kernel_rfl)
def q141 : Phi → HF := p141 stdO
theorem qp141 : q141 = p141 stdO := rfl
theorem k141 : QeOk ⟨141, eZ Tryz.f141, q141⟩ := qz 12 1 [2] Tryz.func141 (by kernel_rfl) (by kernel_rfl)
def q143 : Phi → HF := thrF 1000000 (drOf 54 [6, 7]) 3 (eZ Tryz.f143)
theorem k143 : QeOk ⟨143, eZ Tryz.f143, q143⟩ := qz 54 3 [6, 7] Tryz.func143 (by kernel_rfl) (by kernel_rfl)
def q145 : Phi → HF := thrF 1000000 (drOf 4 [2]) 1 (eZ Tryz.f145)
theorem k145 : QeOk ⟨145, eZ Tryz.f145, q145⟩ := qz 4 1 [2] Tryz.func145 (by kernel_rfl) (by kernel_rfl)
def q146 : Phi → HF := thrF 1000000 (drOf 30 [1, 4, 5]) 2 (eZ Tryz.f146)
theorem k146 : QeOk ⟨146, eZ Tryz.f146, q146⟩ := qz 30 2 [1, 4, 5] Tryz.func146 (by kernel_rfl) (by kernel_rfl)
def q147 : Phi → HF := thrF 1000000 (drOf 17 [2, 3]) 1 (eZ Tryz.f147)
theorem k147 : QeOk ⟨147, eZ Tryz.f147, q147⟩ := qz 17 1 [2, 3] Tryz.func147 (by kernel_rfl) (by kernel_rfl)
def q148 : Phi → HF := fnQ (aLet fun v1 => (aEnd (cLet (n1 (bxF 128) (rdV v1)) fun v2 => (cWr X2 (.o .ptr) (cLet (n0 (.cells [.o .sl, .n .i64 0] 151 .exact)) fun v3 => (cLet (o1 (faF 0) (rdV v2)) fun v4 => (cLet (m1 ldF (rdV v4)) fun v5 => (cLet (nL (bsQ 5 1 1) [(rdV v5)]) fun v6 => (cLet (oCallS 54 [(rdV v3), (rdV v6)]) fun v7 => (cLet (o1 (faF 1) (rdV v2)) fun v8 => (cLet (m1 ldF (rdV v8)) fun v9 => (cLet (o1 (faF 2) (rdV v2)) fun v10 => (cLet (m1 ldF (rdV v10)) fun v11 => (cLet (o1 (faF 3) (rdV v2)) fun v12 => (cLet (m1 ldF (rdV v12)) fun v13 => (cLet (o1 (faF 4) (rdV v2)) fun v14 => (cLet (m1 ldF (rdV v14)) fun v15 => (cLet (o1 (faF 5) (rdV v2)) fun v16 => (cLet (m1 ldF (rdV v16)) fun v17 => (cLet (nL (buN [.n .u32 0, .n .u32 0, .n .u32 0, .n .u32 0, .n .u32 0] [(.int .u32 0), (.int .u32 0), (.int .u32 0), (.int .u32 0), (.int .u32 0)] [(0, 1), (1, 1), (2, 1), (3, 1), (4, 1)]) [(rdV v9), (rdV v11), (rdV v13), (rdV v15), (rdV v17)]) fun v18 => (cWr X23 (.n .i64 0) (cSeq (cBlk 0 (cLoop 1000000 (cLet (o2 bLss R23 (rdV (.n .i64 5))) fun v19 => (cSeq (cCond (rdV v19) cSkip (cExit 0)) (cSeq (cBlk 1 (cLet (nL (pQ (.idxArr 5 1 false)) [(rdV v18), R23]) fun v20 => (cLet (oCallS 53 [(rdV v3), (rdV v20)]) fun v21 => cSkip))) (cLet (o2 bAdd R23 (rdV (.n .i64 1))) fun v22 => (cWr X23 v22 cSkip))))))) (cLet (o1 (faF 6) (rdV v2)) fun v23 => (cLet (m1 ldF (rdV v23)) fun v24 => (cLet (m1 s2Q (rdV v24)) fun v25 => (cLet (oCallS 166 [(rdV v3), (rdV v25)]) fun v26 => (cWr X2 v26 cRet))))))))))))))))))))))))) [vT R2]))
theorem k148 : QeOk ⟨148, eZ Tryz.f148, q148⟩ := qz 35 1 [2, 23] Tryz.func148 (by kernel_rfl) (by kernel_rfl)
def q150 : Phi → HF := thrF 1000000 (drOf 19 [4, 8]) 2 (eZ Tryz.f150)
theorem k150 : QeOk ⟨150, eZ Tryz.f150, q150⟩ := qz 19 2 [4, 8] Tryz.func150 (by kernel_rfl) (by kernel_rfl)
def q151 : Phi → HF := thrF 1000000 (drOf 10 [4]) 2 (eZ Tryz.f151)
theorem k151 : QeOk ⟨151, eZ Tryz.f151, q151⟩ := qz 10 2 [4] Tryz.func151 (by kernel_rfl) (by kernel_rfl)
def q152 : Phi → HF := thrF 1000000 (drOf 9 [4]) 2 (eZ Tryz.f152)
theorem k152 : QeOk ⟨152, eZ Tryz.f152, q152⟩ := qz 9 2 [4] Tryz.func152 (by kernel_rfl) (by kernel_rfl)
def q153 : Phi → HF := thrF 1000000 (drOf 9 [4]) 2 (eZ Tryz.f153)
theorem k153 : QeOk ⟨153, eZ Tryz.f153, q153⟩ := qz 9 2 [4] Tryz.func153 (by kernel_rfl) (by kernel_rfl)
def q154 : Phi → HF := fnQ (aLet fun v1 => (aLet fun v2 => (aLet fun v3 => (aEnd (cLetW (n0 (.bs 115792089237316195423570985008687907853269984665640564039457584007913129639936 43 .exact)) X6 fun v4 => (cWr X7 (.n .i64 0) (cLet (oCallS 24 [(rdV v1)]) fun v5 => (cLet (o1 notF (rdV v5)) fun v6 => (cLet (oG false (rdV v6) (oV (rdV v2))) fun v7 => (cLet (oG false (rdV v6) (o1 lsF (rdV v7))) fun v8 => (cLet (oG false (rdV v6) (o2 bGtr (rdV v8) (rdV (.n .i64 65535)))) fun v9 => (cLet (o3 pkF (rdV v6) (rdV (.b true)) (rdV v9)) fun v10 => (cSeq (cCond (rdV v10) (cLet (nL (buN y8 x8 []) []) fun v11 => (cDo (n2 (stF 32) (rdV v4) (rdV v11)) (cWr X7 (.n .i64 1) cRet))) cSkip) (cLet (n0 (.cells [.o .sl, .n .i64 0] 151 .exact)) fun v12 => (cLet (oCallS 166 [(rdV v12), (rdV v2)]) fun v13 => (cLet (o1 lvF (rdV v3)) fun v14 => (cWr X26 (.n .i64 0) (cSeq (cBlk 0 (cLoop 1000000 (cLet (o2 bLss R26 (rdV v14)) fun v15 => (cSeq (cCond (rdV v15) cSkip (cExit 0)) (cSeq (cBlk 1 (cLet (o2 (isF 1) (rdV v3) R26) fun v16 => (cLet (m1 ldF (rdV v16)) fun v17 => (cLet (o1 lvF (rdV v17)) fun v18 => (cLet (o1 (cvF .u32) (rdV v18)) fun v19 => (cLet (oCallS 53 [(rdV v12), (rdV v19)]) fun v20 => (cLet (oCallS 54 [(rdV v20), (rdV v17)]) fun v21 => cSkip))))))) (cLet (o2 bAdd R26 (rdV (.n .i64 1))) fun v22 => (cWr X26 v22 cSkip))))))) (cLet (oCallS 55 [(rdV v12)]) fun v23 => (cLet (o1 (exG 0) (rdV v23)) fun v24 => (cLet (o1 (exG 1) (rdV v23)) fun v25 => (cLet (nL (bsQ 22 1 1) [(rdV v24)]) fun v26 => (cLet (oCallS 149 [(rdV v1), (rdV v26)]) fun v27 => (cDo (n2 (stF 32) (rdV v4) (rdV v27)) (cWr X7 (.n .i64 0) cRet))))))))))))))))))))) [vN 32 R6, vT R7]))))
theorem k154 : QeOk ⟨154, eZ Tryz.f154, q154⟩ := qz 45 3 [6, 7, 26] Tryz.func154 (by kernel_rfl) (by kernel_rfl)
def q155 : Phi → HF := thrF 1000000 (drOf 9 [2]) 1 (eZ Tryz.f155)
theorem k155 : QeOk ⟨155, eZ Tryz.f155, q155⟩ := qz 9 1 [2] Tryz.func155 (by kernel_rfl) (by kernel_rfl)
def q156 : Phi → HF := thrF 1000000 (drOf 9 [4]) 2 (eZ Tryz.f156)
theorem k156 : QeOk ⟨156, eZ Tryz.f156, q156⟩ := qz 9 2 [4] Tryz.func156 (by kernel_rfl) (by kernel_rfl)
def q157 : Phi → HF := fnQ (aLet fun v1 => (aLet fun v2 => (aEnd (cWr X4 (.b false) (cLet (o1 ncF (rdV v1)) fun v3 => (cLet (o1 (faF 1) (rdV v3)) fun v4 => (cLet (m1 ldF (rdV v4)) fun v5 => (cLet (n2 (lkG true [.int] true (.o .sl)) (rdV v5) (rdV v2)) fun v6 => (cLet (o1 (exG 0) (rdV v6)) fun v7 => (cLet (o1 (exG 1) (rdV v6)) fun v8 => (cWr X4 v8 cRet)))))))) [vT R4])))
theorem k157 : QeOk ⟨157, eZ Tryz.f157, q157⟩ := qz 17 2 [4] Tryz.func157 (by kernel_rfl) (by kernel_rfl)
def q158 : Phi → HF := fnQ (aLet fun v1 => (aEnd (cWr X2 (.o .sl) (cLet (oCallS 179 [(rdV (.o .sl)), (rdV v1)]) fun v2 => (cWr X2 v2 cRet))) [vT R2]))
theorem k158 : QeOk ⟨158, eZ Tryz.f158, q158⟩ := qz 5 1 [2] Tryz.func158 (by kernel_rfl) (by kernel_rfl)
def q159 : Phi → HF := thrF 1000000 (drOf 4 [2]) 1 (eZ Tryz.f159)
theorem k159 : QeOk ⟨159, eZ Tryz.f159, q159⟩ := qz 4 1 [2] Tryz.func159 (by kernel_rfl) (by kernel_rfl)
def q161 : Phi → HF := thrF 1000000 (drOf 29 [2, 3]) 1 (eZ Tryz.f161)
theorem k161 : QeOk ⟨161, eZ Tryz.f161, q161⟩ := qz 29 1 [2, 3] Tryz.func161 (by kernel_rfl) (by kernel_rfl)
def q165 : Phi → HF := thrF 1000000 (drOf 20 [4, 6, 11]) 2 (eZ Tryz.f165)
theorem k165 : QeOk ⟨165, eZ Tryz.f165, q165⟩ := qz 20 2 [4, 6, 11] Tryz.func165 (by kernel_rfl) (by kernel_rfl)
def q166 : Phi → HF := fnQ (aLet fun v1 => (aLet fun v2 => (aEnd (cWr X4 (.o .ptr) (cLet (oCallS 54 [(rdV v1), (rdV (.o .sl))]) fun v3 => (cLet (o1 lsF (rdV v2)) fun v4 => (cLet (o2 bGtr (rdV v4) (rdV (.n .i64 65535))) fun v5 => (cSeq (cCond (rdV v5) (cLet (o1 ncF (rdV v3)) fun v6 => (cLet (o1 (faF 1) (rdV v6)) fun v7 => (cDo (n2 (stF 1) (rdV v7) (rdV (.n .i64 3))) (cWr X4 v3 cRet)))) cSkip) (cLet (o1 lsF (rdV v2)) fun v8 => (cLet (o1 (cvF .u16) (rdV v8)) fun v9 => (cLet (oCallS 100 [(rdV v3), (rdV v9)]) fun v10 => (cLet (n1 (ssQ 5) (rdV v2)) fun v11 => (cLet (oCallS 54 [(rdV v10), (rdV v11)]) fun v12 => (cWr X4 v12 cRet))))))))))) [vT R4])))
theorem k166 : QeOk ⟨166, eZ Tryz.f166, q166⟩ := qz 22 2 [4] Tryz.func166 (by kernel_rfl) (by kernel_rfl)
def q171 : Phi → HF := fnQ (aLet fun v1 => (aLet fun v2 => (aEnd (cLet (n1 (bxF 297) (rdV v1)) fun v3 => (cLet (n1 (bxF 312) (rdV v2)) fun v4 => (cWr X4 (.o .fn) (cLet (nL (mfG (.func 188) 0) [(rdV v3), (rdV v4)]) fun v5 => (cWr X4 v5 cRet))))) [vT R4])))
theorem k171 : QeOk ⟨171, eZ Tryz.f171, q171⟩ := qz 6 2 [4] Tryz.func171 (by kernel_rfl) (by kernel_rfl)
def q172 : Phi → HF := thrF 1000000 (drOf 4 [2]) 1 (eZ Tryz.f172)
theorem k172 : QeOk ⟨172, eZ Tryz.f172, q172⟩ := qz 4 1 [2] Tryz.func172 (by kernel_rfl) (by kernel_rfl)
def q173 : Phi → HF := thrF 1000000 (drOf 8 [3]) 2 (eZ Tryz.f173)
theorem k173 : QeOk ⟨173, eZ Tryz.f173, q173⟩ := qz 8 2 [3] Tryz.func173 (by kernel_rfl) (by kernel_rfl)
def q174 : Phi → HF := thrF 1000000 (drOf 9 [4]) 2 (eZ Tryz.f174)
theorem k174 : QeOk ⟨174, eZ Tryz.f174, q174⟩ := qz 9 2 [4] Tryz.func174 (by kernel_rfl) (by kernel_rfl)
def q175 : Phi → HF := thrF 1000000 (drOf 8 [3]) 2 (eZ Tryz.f175)
theorem k175 : QeOk ⟨175, eZ Tryz.f175, q175⟩ := qz 8 2 [3] Tryz.func175 (by kernel_rfl) (by kernel_rfl)
def q176 : Phi → HF := fnQ (aLet fun v1 => (aEnd (cWr X2 (.b false) (cLet (o2 (eqQ1 false .ptr) (rdV v1) (rdV (.o .ptr))) fun v2 => (cLet (oG false (rdV v2) (oV (rdV v1))) fun v3 => (cLet (oG false (rdV v2) (o1 ncF (rdV v3))) fun v4 => (cLet (oG false (rdV v2) (o1 (faF 1) (rdV v4))) fun v5 => (cLet (oG false (rdV v2) (m1 ldF (rdV v5))) fun v6 => (cLet (oG false (rdV v2) (o2 bEql (rdV v6) (rdV (.n .u32 0)))) fun v7 => (cLet (o3 pkF (rdV v2) (rdV (.b true)) (rdV v7)) fun v8 => (cWr X2 v8 cRet))))))))) [vT R2]))
theorem k176 : QeOk ⟨176, eZ Tryz.f176, q176⟩ := qz 12 1 [2] Tryz.func176 (by kernel_rfl) (by kernel_rfl)
def q177 : Phi → HF := fnQ (aLet fun v1 => (aEnd (cLet (n1 (bxF 23) (rdV v1)) fun v2 => (cWr X2 (.o .fn) (cLet (nL (mfG (.func 191) 0) [(rdV v2)]) fun v3 => (cWr X2 v3 cRet)))) [vT R2]))
theorem k177 : QeOk ⟨177, eZ Tryz.f177, q177⟩ := qz 4 1 [2] Tryz.func177 (by kernel_rfl) (by kernel_rfl)
def q178 : Phi → HF := fnQ (aLet fun v1 => (aLet fun v2 => (aLet fun v3 => (aEnd (cWr X4 (.b false) (cLet (m1 ldF (rdV v2)) fun v4 => (cLet (m1 ldF (rdV v3)) fun v5 => (cLet (o2 bSub (rdV v1) (rdV v5)) fun v6 => (cLet (o2 bSub (rdV v6) (rdV (.n .u32 1))) fun v7 => (cLet (o2 bShr (rdV v4) (rdV v7)) fun v8 => (cLet (o2 bAnd (rdV v8) (rdV (.n .u32 1))) fun v9 => (cLet (o2 bEql (rdV v9) (rdV (.n .u32 1))) fun v10 => (cWr X4 v10 cRet))))))))) [vT R4]))))
theorem k178 : QeOk ⟨178, eZ Tryz.f178, q178⟩ := qz 13 3 [4] Tryz.func178 (by kernel_rfl) (by kernel_rfl)
def q179 : Phi → HF := thrF 1000000 (drOf 13 [4, 5, 7]) 2 (eZ Tryz.f179)
theorem k179 : QeOk ⟨179, eZ Tryz.f179, q179⟩ := qz 13 2 [4, 5, 7] Tryz.func179 (by kernel_rfl) (by kernel_rfl)
def q180 : Phi → HF := thrF 1000000 (drOf 38 []) 2 (eZ Tryz.f180)
theorem k180 : QeOk ⟨180, eZ Tryz.f180, q180⟩ := qz 38 2 [] Tryz.func180 (by kernel_rfl) (by kernel_rfl)
def q188 : Phi → HF := fnQ (aLet fun v1 => (aLet fun v2 => (aLet fun v3 => (aEnd (cLet (n1 (bxF 312) (rdV v1)) fun v4 => (cLet (m1 ldF (rdV v2)) fun v5 => (cSeq (cBlk 0 (cSeq (cRf (rdV v5) [X6] (cLetW (oV R6) X4 fun v6 => cSkip) (cSeq (cBlk 1 (cLet (m1 ldF (rdV v3)) fun v7 => (cLet (oV R4) fun v8 => (cLet (oCall (rdV v7) [(rdV v8)]) fun v9 => (cLet (oG true (rdV v9) (m1 ldF (rdV v4))) fun v10 => (cLet (oG true (rdV v9) (oV R4)) fun v11 => (cLet (oG true (rdV v9) (oCall (rdV v10) [(rdV v11)])) fun v12 => (cLet (oG true (rdV v9) (o1 notF (rdV v12))) fun v13 => (cLet (o3 pkF (rdV v9) (rdV v13) (rdV (.b false))) fun v14 => (cSeq (cCond (rdV v14) cRet cSkip) cSkip)))))))))) cSkip)) cSkip)) cSkip))) []))))
theorem k188 : QeOk ⟨188, eZ Tryz.f188, q188⟩ := qz 16 3 [4, 6] Tryz.func188 (by kernel_rfl) (by kernel_rfl)
def q189 : Phi → HF := thrF 1000000 (drOf 16 [3]) 2 (eZ Tryz.f189)
theorem k189 : QeOk ⟨189, eZ Tryz.f189, q189⟩ := qz 16 2 [3] Tryz.func189 (by kernel_rfl) (by kernel_rfl)
def q190 : Phi → HF := thrF 1000000 (drOf 19 [4, 8]) 2 (eZ Tryz.f190)
theorem k190 : QeOk ⟨190, eZ Tryz.f190, q190⟩ := qz 19 2 [4, 8] Tryz.func190 (by kernel_rfl) (by kernel_rfl)
def q191 : Phi → HF := fnQ (aLet fun v1 => (aLet fun v2 => (aEnd (cWr X5 (.n .u32 0) (cSeq (cBlk 0 (cLoop 1000000 (cLet (o2 bLss R5 (rdV (.n .u32 32))) fun v3 => (cSeq (cCond (rdV v3) cSkip (cExit 0)) (cSeq (cBlk 1 (cLet (oV R5) fun v4 => (cLet (m1 ldF (rdV v2)) fun v5 => (cLet (o2 bAdd (rdV v5) (rdV (.n .u32 1))) fun v6 => (cLet (o2 bAdd (rdV v6) (rdV v4)) fun v7 => (cLet (m1 ldF (rdV v2)) fun v8 => (cLet (o2 bLeq (rdV v7) (rdV v8)) fun v9 => (cLet (oG false (rdV v9) (oV (rdV v1))) fun v10 => (cLet (oG false (rdV v9) (oV (rdV v7))) fun v11 => (cLet (oG false (rdV v9) (oCall (rdV v10) [(rdV v11)])) fun v12 => (cLet (oG false (rdV v9) (o1 notF (rdV v12))) fun v13 => (cLet (o3 pkF (rdV v9) (rdV (.b true)) (rdV v13)) fun v14 => (cSeq (cCond (rdV v14) cRet cSkip) cSkip))))))))))))) (cLet (o2 bAdd R5 (rdV (.n .u32 1))) fun v15 => (cWr X5 v15 cSkip))))))) cSkip)) [])))
theorem k191 : QeOk ⟨191, eZ Tryz.f191, q191⟩ := qz 22 2 [5] Tryz.func191 (by kernel_rfl) (by kernel_rfl)
def q250 : Phi → HF := fnQ (aLet fun v1 => (aEnd (cLet (n1 (bxF 128) (rdV v1)) fun v2 => (cWr X2 (.b false) (cLet (o1 (faF 3) (rdV v2)) fun v3 => (cLet (m1 ldF (rdV v3)) fun v4 => (cLet (o2 bEql (rdV v4) (rdV (.n .u32 0))) fun v5 => (cLet (oG true (rdV v5) (o1 (faF 4) (rdV v2))) fun v6 => (cLet (oG true (rdV v5) (m1 ldF (rdV v6))) fun v7 => (cLet (oG true (rdV v5) (o2 bEql (rdV v7) (rdV (.n .u32 0)))) fun v8 => (cLet (o3 pkF (rdV v5) (rdV v8) (rdV (.b false))) fun v9 => (cLet (oG true (rdV v9) (o1 (faF 5) (rdV v2))) fun v10 => (cLet (oG true (rdV v9) (m1 ldF (rdV v10))) fun v11 => (cLet (oG true (rdV v9) (o2 bEql (rdV v11) (rdV (.n .u32 0)))) fun v12 => (cLet (o3 pkF (rdV v9) (rdV v12) (rdV (.b false))) fun v13 => (cWr X2 v13 cRet)))))))))))))) [vT R2]))
theorem k250 : QeOk ⟨250, eZ Tryz.f250, q250⟩ := qz 16 1 [2] Tryz.func250 (by kernel_rfl) (by kernel_rfl)
def q251 : Phi → HF := fnQ (aLet fun v1 => (aEnd (cLet (n1 (bxF 128) (rdV v1)) fun v2 => (cWr X2 (.b false) (cLet (o1 (faF 3) (rdV v2)) fun v3 => (cLet (m1 ldF (rdV v3)) fun v4 => (cLet (o2 bLss (rdV v4) (rdV (.n .u32 2147483648))) fun v5 => (cWr X2 v5 cRet)))))) [vT R2]))
theorem k251 : QeOk ⟨251, eZ Tryz.f251, q251⟩ := qz 6 1 [2] Tryz.func251 (by kernel_rfl) (by kernel_rfl)
end
end Go.Proofs.YtcbfjmjphpoimaaGreatDoor.V2
namespace Go.Proofs.YtcbfjmjphpoimaaGreatDoor.V2
open Go
set_option linter.unusedVariables false
noncomputable section
def p3 (O : Ops) : Phi → HF := fnQ (aLet fun v1 => (aEnd (cLet (n1 (O.bx 25) (rdV v1)) fun v2 => (cWr X2 (.b false) (cLet (o1 (faF 0) (rdV v2)) fun v3 => (cLet (m1 O.ld (rdV v3)) fun v4 => (cLet (o1 (faF 0) (rdV v2)) fun v5 => (cLet (m1 O.ld (rdV v5)) fun v6 => (cLet (o1 lvF (rdV v6)) fun v7 => (cLet (nL (pQ .minI) [(rdV v7), (rdV (.n .i64 80))]) fun v8 => (cLet (oSv 1 (rdV v4) none (some (rdV v8)) none) fun v9 => (cLet (o1 (faF 0) (rdV v2)) fun v10 => (cDo (n2 (O.st 1) (rdV v10) (rdV v9)) (cLet (m1 (O.ln 6) (rdV v2)) fun v11 => (cLet (oCallS 4 [(rdV v11)]) fun v12 => (cLet (o1 (exG 0) (rdV v12)) fun v13 => (cLet (o1 (exG 1) (rdV v12)) fun v14 => (cLet (m1 (O.ln 6) (rdV v2)) fun v15 => (cLet (oCallS 5 [(rdV v15)]) fun v16 => (cLet (o1 (exG 0) (rdV v16)) fun v17 => (cLet (o1 (exG 1) (rdV v16)) fun v18 => (cLet (o2 bEql (rdV v14) (rdV v18)) fun v19 => (cLet (oG true (rdV v19) (oV (rdV v13))) fun v20 => (cLet (oG true (rdV v19) (o2 (eqQ1 true .ptr) (rdV v20) (rdV (.o .ptr)))) fun v21 => (cLet (oG true (rdV v19) (oV (rdV v14))) fun v22 => (cLet (oG true (rdV v19) (o2 bEql (rdV v22) (rdV (.n .i64 0)))) fun v23 => (cLet (oG true (rdV v19) (o2 (eqQ1 false .bool) (rdV v21) (rdV v23))) fun v24 => (cLet (o3 pkF (rdV v19) (rdV v24) (rdV (.b false))) fun v25 => (cLet (oG true (rdV v25) (oCallS 6 [])) fun v26 => (cLet (o3 pkF (rdV v25) (rdV v26) (rdV (.b false))) fun v27 => (cWr X2 v27 cRet))))))))))))))))))))))))))))) [vT R2]))
def q3 : Phi → HF := p3 stdO
theorem k3 : QeOk ⟨3, eZ Tryz.f3, q3⟩ := qz 38 1 [2] Tryz.func3 (by kernel_rfl) (by kernel_rfl)
theorem qp3 : q3 = p3 stdO := rfl
end
end Go.Proofs.YtcbfjmjphpoimaaGreatDoor.V2
namespace Go.Proofs.YtcbfjmjphpoimaaGreatDoor.V2
open Go
set_option maxRecDepth 100000
set_option maxHeartbeats 4000000
attribute [local irreducible] fN fO nM gM pM Phi.fn mp bl bpart bapp top1 eqQ
theorem law_s {O : Ops} (hO : O = stdO) (Φ : Phi) (H4 : ClientNewS (Phi.fn Φ 4)) (H5 : RNewS (Phi.fn Φ 5)) {b o L K : Nat} {e : Bool} {cb : Nat} {ty : TypeId} {tl : Tl} {l : Nat} {f t c p : Int} {n : Nat} {m : T FObj} {k : KV} {P : FR} (hn : n + 300 ≤ 1000000) (hb : b < n) (hab : Am m b (.bs cb ty tl)) (hol : o + L ≤ bl cb) (hLK : L ≤ K)
    (H6 : ∀ n' m' k, Kp n m m' → Phi.fn Φ 6 [] ⟨n', m'⟩ k = k (.b true) ⟨n', m'⟩) (hfin : ∀ n' m', k (.b true) ⟨n', m'⟩ = P) : p3 O Φ [.agg [.sl b o L K e 1, .n .u32 l, iF f, iF t, iF c, iF p]] ⟨n, m⟩ k = P := by
  repeat' ((conv => lhs; whnf); first | (with_reducible refine bx_cl hO (by omega) ?_) | (with_reducible refine ln_cl hO (by repeat (first | assumption | exact am_same (by omega) | apply am_ne (by omega) (by omega) | apply kp_am (by assumption) (by omega))) ?_) | (with_reducible refine ldO hO ?_) | (with_reducible refine stO hO ?_) | (with_reducible refine (fN_eq _ _).trans ?_) | (with_reducible refine pM_mp.trans ?_) | (((with_reducible apply gM_amP); · repeat (first | assumption | exact am_same (by omega) | apply am_ne (by omega) (by omega) | apply kp_am (by assumption) (by omega)))) | ((with_reducible refine atFn ?_); first | refine H4 _ _ _ _ _ cb _ ty tl f t c p _ _ _ _ (by omega) (by omega) (by repeat (first | assumption | exact am_same (by omega) | apply am_ne (by omega) (by omega) | apply kp_am (by assumption) (by omega))) (by first | exact hol | (show o + 80 ≤ bl cb; omega)) (fun q1 b3 n3 m3 h3 g3 k3 => ?_) (fun q1 n3 m3 h3 g3 k3 => ?_) | refine H5 _ _ _ _ _ _ f t c p _ _ _ _ (by omega) (fun q2 b4 n4 m4 h4 g4 k4 => ?_) (fun q2 n4 m4 h4 g4 k4 => ?_) | refine (H6 _ _ _ (by repeat (first | assumption | exact Kp.refl _ _ | refine Kp.mp ?_ (by omega) (by omega) | refine Kp.trans ?_ (by assumption) (by omega)))).trans ?_) | ((with_reducible refine atB ?_); first | refine brecBT (by omega) ?_ | refine brecB (fun h => ?_) (fun h => ?_)))
  all_goals (conv => lhs; whnf)
  all_goals first
    | exact hfin _ _
    | (exfalso; have h' : K < 80 := h; omega)
    | exact absurd q1 q2
    | exact absurd q2 q1
theorem law_n {O : Ops} (hO : O = stdO) (Φ : Phi) (H4 : ClientNewS_n (Phi.fn Φ 4)) (H5 : RNewS_n (Phi.fn Φ 5))  {l : Nat} {f t c p : Int} {n : Nat} {m : T FObj} {k : KV} {P : FR} (hn : n + 300 ≤ 1000000) 
    (H6 : ∀ n' m' k, Kp n m m' → Phi.fn Φ 6 [] ⟨n', m'⟩ k = k (.b true) ⟨n', m'⟩) (hfin : ∀ n' m', k (.b true) ⟨n', m'⟩ = P) : p3 O Φ [.agg [.o .sl, .n .u32 l, iF f, iF t, iF c, iF p]] ⟨n, m⟩ k = P := by
  repeat' ((conv => lhs; whnf); first | (with_reducible refine bx_cl_n hO (by omega) ?_) | (with_reducible refine ln_cl_n hO (by repeat (first | assumption | exact am_same (by omega) | apply am_ne (by omega) (by omega) | apply kp_am (by assumption) (by omega))) ?_) | (with_reducible refine ldO hO ?_) | (with_reducible refine stO hO ?_) | (with_reducible refine (fN_eq _ _).trans ?_) | (with_reducible refine pM_mp.trans ?_) | (((with_reducible apply gM_amP); · repeat (first | assumption | exact am_same (by omega) | apply am_ne (by omega) (by omega) | apply kp_am (by assumption) (by omega)))) | ((with_reducible refine atFn ?_); first | refine H4 _ f t c p _ _ _ _ (by omega) (fun q1 b3 n3 m3 h3 g3 k3 => ?_) (fun q1 n3 m3 h3 g3 k3 => ?_) | refine H5 _ f t c p _ _ _ _ (by omega) (fun q2 b4 n4 m4 h4 g4 k4 => ?_) (fun q2 n4 m4 h4 g4 k4 => ?_) | refine (H6 _ _ _ (by repeat (first | assumption | exact Kp.refl _ _ | refine Kp.mp ?_ (by omega) (by omega) | refine Kp.trans ?_ (by assumption) (by omega)))).trans ?_))
  all_goals (conv => lhs; whnf)
  all_goals first
    | exact hfin _ _
    | exact absurd q1 q2
    | exact absurd q2 q1
end Go.Proofs.YtcbfjmjphpoimaaGreatDoor.V2
namespace Go.Proofs.YtcbfjmjphpoimaaGreatDoor.V2
open Go
set_option linter.unusedVariables false
open Go.RowKit
def memM : List AObj := [(AObj.cells [AV.nilfn, AV.fn (Go.Fn.func 250) [] [], AV.fn (Go.Fn.func 250) [] [], AV.fn (Go.Fn.func 251) [] [], AV.fn (Go.Fn.func 252) [] [], AV.fn (Go.Fn.func 250) [] []] 274 (Tl.ro)), (AObj.ints (IntKind.i64) [0, 0, 1, 1, 1] 172 (Tl.ro)), (AObj.ints (IntKind.u32) [0, 498536548, 997073096, 651767980, 1994146192, 1802195444, 1303535960, 1342533948, 3988292384, 4027552580, 3604390888, 3412177804, 2607071920, 2262029012, 2685067896, 3183342108] 306 (Tl.ro)), (AObj.ints (IntKind.u32) [1779033703, 3144134277, 1013904242, 2773480762, 1359893119, 2600822924, 528734635, 1541459225] 341 (Tl.ro)), (AObj.ints (IntKind.u32) [1116352408, 1899447441, 3049323471, 3921009573, 961987163, 1508970993, 2453635748, 2870763221, 3624381080, 310598401, 607225278, 1426881987, 1925078388, 2162078206, 2614888103, 3248222580, 3835390401, 4022224774, 264347078, 604807628, 770255983, 1249150122, 1555081692, 1996064986, 2554220882, 2821834349, 2952996808, 3210313671, 3336571891, 3584528711, 113926993, 338241895, 666307205, 773529912, 1294757372, 1396182291, 1695183700, 1986661051, 2177026350, 2456956037, 2730485921, 2820302411, 3259730800, 3345764771, 3516065817, 3600352804, 4094571909, 275423344, 430227734, 506948616, 659060556, 883997877, 958139571, 1322822218, 1537002063, 1747873779, 1955562222, 2024104815, 2227730452, 2361852424, 2428436474, 2756734187, 3204031479, 3329325298] 359 (Tl.ro))]
def TM : List UInt32 := [0, 498536548, 997073096, 651767980, 1994146192, 1802195444, 1303535960, 1342533948, 3988292384, 4027552580, 3604390888, 3412177804, 2607071920, 2262029012, 2685067896, 3183342108]
def mayM : List Value := [.nilFunc, .func (.func 250) #[] #[], .func (.func 250) #[] #[], .func (.func 251) #[] #[], .func (.func 252) #[] #[], .func (.func 250) #[] #[]]
def GlobTM (w : World) : Prop := ∀ i, i < 16 → w.cell? ⟨2, i, none⟩ = some (.int .u32 (N32 (at32 TM i)))
def GlobFM (w : World) : Prop := ∀ i, i < 6 → w.cell? ⟨0, i, none⟩ = some (mayM.getD i .nilFunc)
def zM : List Int := [0, 0, 1, 1, 1]
def GlobZM (w : World) : Prop := ∀ i, i < 5 → w.cell? ⟨1, i, none⟩ = some (.int .i64 (zM.getD i 0))
structure GlobM (w : World) : Prop where
  z : GlobZM w
  f : GlobFM w
  t : GlobTM w
  s : GlobS w
  k : GlobK w
  size : 4 < w.heap.size
def rM : Ren := rL [some (0, (0, 6)), some (1, (0, 5)), some (2, (0, 16)), some (3, (0, 8)), some (4, (0, 64))]
theorem rM_glob : ∀ g, g < 5 → ∃ s, rM g = some (g, (0, s)) := fun g hg => by
  match g, hg with
  | 0, _ => exact ⟨6, rfl⟩
  | 1, _ => exact ⟨5, rfl⟩
  | 2, _ => exact ⟨16, rfl⟩
  | 3, _ => exact ⟨8, rfl⟩
  | 4, _ => exact ⟨64, rfl⟩
theorem memM_sh : ∀ o ∈ memM, o.isSh = true := by
  intro o ho
  simp only [memM, List.mem_cons, List.not_mem_nil, or_false] at ho
  rcases ho with rfl | rfl | rfl | rfl | rfl <;> rfl
theorem memM_ro : ∀ o ∈ memM, o.isRo = true := fun o ho => AObj.isSh_ro (memM_sh o ho)
theorem or_croM {ρ : Ren} {w : World} {b D : Nat} {l : List AV} {e : TypeId} (hD : l.length ≤ D) (hl : 0 < l.length) (h : ∀ i a, l[i]? = some a → ∃ v, w.cell? ⟨b, i, none⟩ = some v ∧ VR ρ a v) : OR ρ (0, D) (.cells l e .ro) w.heap[b]? := ⟨fun _ => by
  refine ⟨hD, fun _ => ?_⟩
  obtain ⟨v0, h0, _⟩ := h (l.length - 1) l[l.length - 1] (List.getElem?_eq_getElem (by omega))
  obtain ⟨c, t, fr, hb, hc⟩ := cell_row h0
  refine ⟨c, t, fr, hb, (fun hh => by cases hh), ?_, hD, fun i a hi => ?_⟩
  · have := (Array.getElem?_eq_some_iff.1 hc).1
    show l.length + 0 ≤ c.size
    omega
  · obtain ⟨v, hv, hr⟩ := h i a hi
    obtain ⟨c', t', fr', hb', hc'⟩ := cell_row hv
    rw [hb] at hb'; cases hb'
    exact ⟨v, hc', hr⟩, fun l e => by cases e⟩
theorem vr_fnM {ρ : Ren} (n : Nat) : VR ρ (.fn (.func n) [] []) (.func (.func n) #[] #[]) := by
  unfold VR; exact ⟨[], [], rfl, rfl, rfl⟩
theorem row_ofM {w : World} {b n k : Nat} {T : List UInt32} {l : List Int} {e : TypeId} (hn : T.length = n) (hl : l = wI T) (h : ∀ i, i < n → w.cell? ⟨b, i, none⟩ = some (.int .u32 (N32 (at32 T i)))) (hk : n = k) : ∀ ρ, OR ρ (0, k) (.ints .u32 l e .ro) w.heap[b]? := fun ρ => by
  subst hl hk
  refine or_ro (by rw [wI_length]; omega) fun i hi => ?_
  rw [wI_getD, Nat.zero_add]; exact h i (by rw [wI_length] at hi; omega)
theorem hrM {w : World} (h : GlobM w) : HR rM (hL memM) w := by
  refine hr_ro (by show 5 ≤ _; omega) rfl memM_sh fun b c d o hb ho => ?_
  have hs := h.size
  match b with
  | 1 => cases hb; cases ho; exact ⟨by omega, or_ro (k := .i64) (l := zM) (Nat.le_refl _) fun i hi => by rw [Nat.zero_add]; exact h.z i hi⟩
  | 0 =>
    cases hb; cases ho
    refine ⟨by omega, or_croM (Nat.le_refl _) (by decide) fun i a hi => ?_⟩
    match i, hi with
    | 0, hi => cases hi; exact ⟨_, h.f 0 (by omega), rfl⟩
    | 1, hi => cases hi; exact ⟨_, h.f 1 (by omega), vr_fnM 250⟩
    | 2, hi => cases hi; exact ⟨_, h.f 2 (by omega), vr_fnM 250⟩
    | 3, hi => cases hi; exact ⟨_, h.f 3 (by omega), vr_fnM 251⟩
    | 4, hi => cases hi; exact ⟨_, h.f 4 (by omega), vr_fnM 252⟩
    | 5, hi => cases hi; exact ⟨_, h.f 5 (by omega), vr_fnM 250⟩
    | n + 6, hi => cases hi
  | 2 => cases hb; cases ho; exact ⟨by omega, row_ofM (T := TM) (n := 16) rfl (by decide +kernel) h.t rfl _⟩
  | 3 => cases hb; cases ho; exact ⟨by omega, row_ofM (T := S0) (n := 8) rfl (by decide +kernel) h.s rfl _⟩
  | 4 => cases hb; cases ho; exact ⟨by omega, row_ofM (T := KK) (n := 64) rfl (by decide +kernel) h.k rfl _⟩
  | n + 5 => cases hb
def funKM : AV → Option (Option Nat)
  | .nilfn => some none
  | .fn f xs ys => match f with
    | .func n => match xs, ys with
      | [], [] => some (some n)
      | _, _ => none
    | _ => none
  | _ => none
theorem funM_nil {v : AV} (h : funKM v = some none) : v = .nilfn := by
  unfold funKM at h
  split at h
  · rfl
  · split at h
    · split at h <;> cases h
    · cases h
  · cases h
theorem funM_fn {v : AV} {n : Nat} (h : funKM v = some (some n)) : v = .fn (.func n) [] [] := by
  unfold funKM at h
  split at h
  · cases h
  · split at h
    · split at h
      · cases h; rfl
      · cases h
    · cases h
  · cases h
noncomputable def funAM (σ : AH) : Bool := match σ.get 0 with
  | some ob => match ob with
    | .cells l _ _ => decide (l.map funKM = [some none, some (some 250), some (some 250), some (some 251), some (some 252), some (some 250)])
    | _ => false
  | none => false
theorem fun_ofM {ρ : Ren} {σ : AH} {W : World} (hr : HR ρ σ W) (hg : ∃ s, ρ 0 = some (0, (0, s))) (h : funAM σ = true) : GlobFM W := by
  unfold funAM at h
  split at h
  case h_2 => cases h
  rename_i ob hob
  split at h
  case h_2 => cases h
  rename_i l e tl
  have h := of_decide_eq_true h
  obtain ⟨s, hs⟩ := hg
  have hlen : l.length = 6 := by rw [← List.length_map (f := funKM), h]; rfl
  have key : ∀ i k, ([some none, some (some 250), some (some 250), some (some 251), some (some 252), some (some 250)] : List (Option (Option Nat)))[i]? = some k → ∃ a v, funKM a = k ∧ W.cell? ⟨0, i, none⟩ = some v ∧ VR ρ a v := fun i k hk => by
    rw [← h, List.getElem?_map, Option.map_eq_some_iff] at hk
    obtain ⟨a, ha, hk⟩ := hk
    obtain ⟨u, hu, hur⟩ := hr.load (i := i) (a := a) hs hob ha
    exact ⟨a, u, hk, hu, hur⟩
  intro i hi
  match i, hi with
  | 0, _ =>
    obtain ⟨a, v, ha, hv, hr⟩ := key 0 _ rfl
    rw [funM_nil ha] at hr
    unfold VR at hr; subst hr
    rw [hv]; rfl
  | 1, _ =>
    obtain ⟨a, v, ha, hv, hr⟩ := key 1 _ rfl
    rw [funM_fn ha] at hr
    unfold VR at hr
    obtain ⟨us, vs, e1, e2, e3⟩ := hr
    have e2 : us = [] := e2
    have e3 : vs = [] := e3
    subst e2 e3 e1
    rw [hv]; rfl
  | 2, _ =>
    obtain ⟨a, v, ha, hv, hr⟩ := key 2 _ rfl
    rw [funM_fn ha] at hr
    unfold VR at hr
    obtain ⟨us, vs, e1, e2, e3⟩ := hr
    have e2 : us = [] := e2
    have e3 : vs = [] := e3
    subst e2 e3 e1
    rw [hv]; rfl
  | 3, _ =>
    obtain ⟨a, v, ha, hv, hr⟩ := key 3 _ rfl
    rw [funM_fn ha] at hr
    unfold VR at hr
    obtain ⟨us, vs, e1, e2, e3⟩ := hr
    have e2 : us = [] := e2
    have e3 : vs = [] := e3
    subst e2 e3 e1
    rw [hv]; rfl
  | 4, _ =>
    obtain ⟨a, v, ha, hv, hr⟩ := key 4 _ rfl
    rw [funM_fn ha] at hr
    unfold VR at hr
    obtain ⟨us, vs, e1, e2, e3⟩ := hr
    have e2 : us = [] := e2
    have e3 : vs = [] := e3
    subst e2 e3 e1
    rw [hv]; rfl
  | 5, _ =>
    obtain ⟨a, v, ha, hv, hr⟩ := key 5 _ rfl
    rw [funM_fn ha] at hr
    unfold VR at hr
    obtain ⟨us, vs, e1, e2, e3⟩ := hr
    have e2 : us = [] := e2
    have e3 : vs = [] := e3
    subst e2 e3 e1
    rw [hv]; rfl
def isTM (l : List Int) : Bool := decide (l = wI TM)
noncomputable def zA (σ : AH) : Bool := match σ.get 1 with
  | some ob => match ob with
    | .ints k l _ _ => match k with
      | .i64 => decide (l = zM)
      | _ => false
    | _ => false
  | none => false
theorem z_of {ρ : Ren} {σ : AH} {W : World} (hr : HR ρ σ W) (hg : ∃ s, ρ 1 = some (1, (0, s))) (h : zA σ = true) : GlobZM W := by
  unfold zA at h
  split at h
  case h_2 => cases h
  rename_i ob hob
  split at h
  case h_2 => cases h
  split at h
  case h_2 => cases h
  rename_i l e tl
  have h := of_decide_eq_true h
  subst h
  obtain ⟨s, hs⟩ := hg
  intro i hi
  have hi' : i < zM.length := hi
  obtain ⟨u, hu, hur⟩ := hr.load (i := i) (a := .int .i64 (zM[i])) hs hob (by simp [AObj.at, hi'])
  unfold VR at hur
  subst hur
  have hu : W.cell? ⟨1, i, none⟩ = some (.int .i64 zM[i]) := hu
  rw [hu]
  simp [List.getD_eq_getElem?_getD, hi']
end Go.Proofs.YtcbfjmjphpoimaaGreatDoor.V2
namespace Go.Proofs.YtcbfjmjphpoimaaGreatDoor.V2
open Go
set_option linter.unusedVariables false
noncomputable def c130 : ACode := (.seq (.reg [⟨(.aop (.box 158 (.slot 0))), (some 3), none⟩, ⟨(.aop (.mov (.lit (.int .i64 (0))))), (some 6), none⟩]) (.seq (.seq (.reg [⟨(.aop (.load1 (.slot 3))), (some 10), none⟩, ⟨(.call (.lit (.fn (.func 139) [] [])) [(.slot 10)]), (some 11), none⟩, ⟨(.aop (.mov (.slot 11))), (some 12), none⟩, ⟨(.aop (.mov (.slot 1))), (some 13), (some ((.slot 12), false))⟩, ⟨(.aop (.load1 (.slot 3))), (some 14), (some ((.slot 12), false))⟩, ⟨(.aop (.nilCheck (.slot 14))), (some 15), (some ((.slot 12), false))⟩, ⟨(.aop (.fieldAddr 0 (.slot 15))), (some 16), (some ((.slot 12), false))⟩, ⟨(.aop (.load1 (.slot 16))), (some 17), (some ((.slot 12), false))⟩, ⟨(.call (.lit (.fn (.func 155) [] [])) [(.slot 17)]), (some 18), (some ((.slot 12), false))⟩, ⟨(.aop (.bin .gtr (.slot 13) (.slot 18))), (some 19), (some ((.slot 12), false))⟩, ⟨(.aop (.pick (.slot 12) (.lit (.bool true)) (.slot 19))), (some 20), none⟩]) (.cond (.slot 20) (.seq (.reg [⟨(.aop (.mov (.lit (.int .i64 (0))))), (some 6), none⟩]) .ret) .skip)) (.seq (.reg [⟨(.aop (.load1 (.slot 3))), (some 21), none⟩, ⟨(.aop (.nilCheck (.slot 21))), (some 22), none⟩, ⟨(.aop (.fieldAddr 3 (.slot 22))), (some 23), none⟩, ⟨(.aop (.load1 (.slot 23))), (some 24), none⟩, ⟨(.aop (.rd .lenMap [(.slot 24)])), (some 25), none⟩, ⟨(.aop (.mov (.slot 25))), (some 7), none⟩]) (.seq (.mfor [⟨(.aop (.load1 (.slot 3))), (some 26), none⟩, ⟨(.aop (.nilCheck (.slot 26))), (some 27), none⟩, ⟨(.aop (.fieldAddr 3 (.slot 27))), (some 28), none⟩, ⟨(.aop (.load1 (.slot 28))), (some 29), none⟩] (.slot 29) ⟨30, 31, 32, 33, 1, [⟨(.aop (.extract (.slot 31) 0)), (some 32), none⟩], [⟨(.aop (.extract (.slot 33) 0)), (some 34), none⟩, ⟨(.aop (.mov (.slot 34))), (some 8), none⟩]⟩ .skip (some ⟨[⟨(.aop (.mov (.slot 8))), (some 35), none⟩, ⟨(.aop (.mov (.slot 1))), (some 36), none⟩, ⟨(.aop (.bin .lss (.slot 35) (.slot 36))), (some 37), none⟩], (.slot 37), [⟨(.aop (.load1 (.slot 3))), (some 38), none⟩, ⟨(.aop (.nilCheck (.slot 38))), (some 39), none⟩, ⟨(.aop (.fieldAddr 3 (.slot 39))), (some 40), none⟩, ⟨(.aop (.load1 (.slot 40))), (some 41), none⟩, ⟨(.aop (.mov (.slot 8))), (some 42), none⟩], (.slot 41), (.slot 42), [.int], none⟩)) (.seq (.seq (.reg [⟨(.aop (.mov (.slot 1))), (some 43), none⟩, ⟨(.aop (.mov (.slot 2))), (some 44), none⟩, ⟨(.call (.lit (.fn (.func 156) [] [])) [(.slot 43), (.slot 44)]), (some 45), none⟩]) (.block 2 (.rfun (.slot 45) [46] (.reg [⟨(.aop (.mov (.slot 46))), (some 9), none⟩]) (.block 3 (.reg [⟨(.aop (.load1 (.slot 3))), (some 47), none⟩, ⟨(.aop (.nilCheck (.slot 47))), (some 48), none⟩, ⟨(.aop (.fieldAddr 3 (.slot 48))), (some 49), none⟩, ⟨(.aop (.load1 (.slot 49))), (some 50), none⟩, ⟨(.aop (.mov (.slot 9))), (some 51), none⟩, ⟨(.aop (.ext (.mapDel true [.int]) [(.slot 50), (.slot 51)])), none, none⟩]))))) (.seq (.reg [⟨(.aop (.mov (.slot 7))), (some 52), none⟩, ⟨(.aop (.load1 (.slot 3))), (some 53), none⟩, ⟨(.aop (.nilCheck (.slot 53))), (some 54), none⟩, ⟨(.aop (.fieldAddr 3 (.slot 54))), (some 55), none⟩, ⟨(.aop (.load1 (.slot 55))), (some 56), none⟩, ⟨(.aop (.rd .lenMap [(.slot 56)])), (some 57), none⟩, ⟨(.aop (.bin .sub (.slot 52) (.slot 57))), (some 58), none⟩, ⟨(.aop (.mov (.slot 58))), (some 6), none⟩]) .ret))))))
theorem comp130 : (V2.compC Tryz.prog 5 Tryz.f130.ntmps (fun _ => false) (Tryz.f130.body.getD .skip), V2.compR Tryz.prog Tryz.f130.results.toList) = (some c130, some [(.tmp 6)]) := by kernel_rfl
theorem body130 : Tryz.f130.body = some (Tryz.f130.body.getD .skip) := by kernel_rfl
noncomputable def c139 : ACode := (.seq (.reg [⟨(.aop (.mov (.lit (.bool false)))), (some 2), none⟩]) (.seq (.reg [⟨(.aop (.mov (.slot 0))), (some 3), none⟩, ⟨(.aop (.pur (.eqv false .ptr) [(.slot 3), (.lit .nilptr)])), (some 4), none⟩, ⟨(.aop (.mov (.slot 4))), (some 5), none⟩, ⟨(.aop (.mov (.slot 0))), (some 6), (some ((.slot 5), false))⟩, ⟨(.aop (.nilCheck (.slot 6))), (some 7), (some ((.slot 5), false))⟩, ⟨(.aop (.fieldAddr 3 (.slot 7))), (some 8), (some ((.slot 5), false))⟩, ⟨(.aop (.load1 (.slot 8))), (some 9), (some ((.slot 5), false))⟩, ⟨(.aop (.pur (.eqv false .map) [(.slot 9), (.lit .nilmap)])), (some 10), (some ((.slot 5), false))⟩, ⟨(.aop (.pick (.slot 5) (.lit (.bool true)) (.slot 10))), (some 11), none⟩, ⟨(.aop (.mov (.slot 11))), (some 2), none⟩]) .ret))
theorem comp139 : (V2.compC Tryz.prog 5 Tryz.f139.ntmps (fun _ => false) (Tryz.f139.body.getD .skip), V2.compR Tryz.prog Tryz.f139.results.toList) = (some c139, some [(.tmp 2)]) := by kernel_rfl
theorem body139 : Tryz.f139.body = some (Tryz.f139.body.getD .skip) := by kernel_rfl
noncomputable def c155 : ACode := (.seq (.reg [⟨(.aop (.mov (.lit (.int .u32 (0))))), (some 2), none⟩]) (.seq (.seq (.reg [⟨(.aop (.mov (.slot 0))), (some 3), none⟩, ⟨(.call (.lit (.fn (.func 176) [] [])) [(.slot 3)]), (some 4), none⟩]) (.cond (.slot 4) (.seq (.reg [⟨(.aop (.mov (.lit (.int .u32 (0))))), (some 2), none⟩]) .ret) .skip)) (.seq (.reg [⟨(.aop (.mov (.slot 0))), (some 5), none⟩, ⟨(.aop (.nilCheck (.slot 5))), (some 6), none⟩, ⟨(.aop (.fieldAddr 0 (.slot 6))), (some 7), none⟩, ⟨(.aop (.load1 (.slot 7))), (some 8), none⟩, ⟨(.aop (.mov (.slot 8))), (some 2), none⟩]) .ret)))
theorem comp155 : (V2.compC Tryz.prog 5 Tryz.f155.ntmps (fun _ => false) (Tryz.f155.body.getD .skip), V2.compR Tryz.prog Tryz.f155.results.toList) = (some c155, some [(.tmp 2)]) := by kernel_rfl
theorem body155 : Tryz.f155.body = some (Tryz.f155.body.getD .skip) := by kernel_rfl
noncomputable def c156 : ACode := (.seq (.reg [⟨(.aop (.box 23 (.slot 0))), (some 2), none⟩, ⟨(.aop (.box 23 (.slot 1))), (some 3), none⟩, ⟨(.aop (.mov (.lit .nilfn))), (some 4), none⟩]) (.seq (.reg [⟨(.aop (.load1 (.slot 2))), (some 5), none⟩, ⟨(.call (.lit (.fn (.func 177) [] [])) [(.slot 5)]), (some 6), none⟩, ⟨(.aop (.pur (.mkFn (.func 178) 0) [(.slot 3), (.slot 2)])), (some 7), none⟩, ⟨(.call (.lit (.fn (.func 171) [] [])) [(.slot 6), (.slot 7)]), (some 8), none⟩, ⟨(.aop (.mov (.slot 8))), (some 4), none⟩]) .ret))
theorem comp156 : (V2.compC Tryz.prog 5 Tryz.f156.ntmps (fun _ => false) (Tryz.f156.body.getD .skip), V2.compR Tryz.prog Tryz.f156.results.toList) = (some c156, some [(.tmp 4)]) := by kernel_rfl
theorem body156 : Tryz.f156.body = some (Tryz.f156.body.getD .skip) := by kernel_rfl
noncomputable def c171 : ACode := (.seq (.reg [⟨(.aop (.box 297 (.slot 0))), (some 2), none⟩, ⟨(.aop (.box 312 (.slot 1))), (some 3), none⟩, ⟨(.aop (.mov (.lit .nilfn))), (some 4), none⟩]) (.seq (.reg [⟨(.aop (.pur (.mkFn (.func 188) 0) [(.slot 2), (.slot 3)])), (some 5), none⟩, ⟨(.aop (.mov (.slot 5))), (some 4), none⟩]) .ret))
theorem comp171 : (V2.compC Tryz.prog 5 Tryz.f171.ntmps (fun _ => false) (Tryz.f171.body.getD .skip), V2.compR Tryz.prog Tryz.f171.results.toList) = (some c171, some [(.tmp 4)]) := by kernel_rfl
theorem body171 : Tryz.f171.body = some (Tryz.f171.body.getD .skip) := by kernel_rfl
noncomputable def c176 : ACode := (.seq (.reg [⟨(.aop (.mov (.lit (.bool false)))), (some 2), none⟩]) (.seq (.reg [⟨(.aop (.mov (.slot 0))), (some 3), none⟩, ⟨(.aop (.pur (.eqv false .ptr) [(.slot 3), (.lit .nilptr)])), (some 4), none⟩, ⟨(.aop (.mov (.slot 4))), (some 5), none⟩, ⟨(.aop (.mov (.slot 0))), (some 6), (some ((.slot 5), false))⟩, ⟨(.aop (.nilCheck (.slot 6))), (some 7), (some ((.slot 5), false))⟩, ⟨(.aop (.fieldAddr 1 (.slot 7))), (some 8), (some ((.slot 5), false))⟩, ⟨(.aop (.load1 (.slot 8))), (some 9), (some ((.slot 5), false))⟩, ⟨(.aop (.bin .eql (.slot 9) (.lit (.int .u32 (0))))), (some 10), (some ((.slot 5), false))⟩, ⟨(.aop (.pick (.slot 5) (.lit (.bool true)) (.slot 10))), (some 11), none⟩, ⟨(.aop (.mov (.slot 11))), (some 2), none⟩]) .ret))
theorem comp176 : (V2.compC Tryz.prog 5 Tryz.f176.ntmps (fun _ => false) (Tryz.f176.body.getD .skip), V2.compR Tryz.prog Tryz.f176.results.toList) = (some c176, some [(.tmp 2)]) := by kernel_rfl
theorem body176 : Tryz.f176.body = some (Tryz.f176.body.getD .skip) := by kernel_rfl
noncomputable def c177 : ACode := (.seq (.reg [⟨(.aop (.box 23 (.slot 0))), (some 1), none⟩, ⟨(.aop (.mov (.lit .nilfn))), (some 2), none⟩]) (.seq (.reg [⟨(.aop (.pur (.mkFn (.func 191) 0) [(.slot 1)])), (some 3), none⟩, ⟨(.aop (.mov (.slot 3))), (some 2), none⟩]) .ret))
theorem comp177 : (V2.compC Tryz.prog 5 Tryz.f177.ntmps (fun _ => false) (Tryz.f177.body.getD .skip), V2.compR Tryz.prog Tryz.f177.results.toList) = (some c177, some [(.tmp 2)]) := by kernel_rfl
theorem body177 : Tryz.f177.body = some (Tryz.f177.body.getD .skip) := by kernel_rfl
noncomputable def c178 : ACode := (.seq (.reg [⟨(.aop (.mov (.lit (.bool false)))), (some 4), none⟩]) (.seq (.reg [⟨(.aop (.load1 (.slot 1))), (some 5), none⟩, ⟨(.aop (.mov (.slot 0))), (some 6), none⟩, ⟨(.aop (.load1 (.slot 2))), (some 7), none⟩, ⟨(.aop (.bin .sub (.slot 6) (.slot 7))), (some 8), none⟩, ⟨(.aop (.bin .sub (.slot 8) (.lit (.int .u32 (1))))), (some 9), none⟩, ⟨(.aop (.bin .shr (.slot 5) (.slot 9))), (some 10), none⟩, ⟨(.aop (.bin .and (.slot 10) (.lit (.int .u32 (1))))), (some 11), none⟩, ⟨(.aop (.bin .eql (.slot 11) (.lit (.int .u32 (1))))), (some 12), none⟩, ⟨(.aop (.mov (.slot 12))), (some 4), none⟩]) .ret))
theorem comp178 : (V2.compC Tryz.prog 5 Tryz.f178.ntmps (fun _ => false) (Tryz.f178.body.getD .skip), V2.compR Tryz.prog Tryz.f178.results.toList) = (some c178, some [(.tmp 4)]) := by kernel_rfl
theorem body178 : Tryz.f178.body = some (Tryz.f178.body.getD .skip) := by kernel_rfl
noncomputable def c188 : ACode := (.seq (.reg [⟨(.aop (.box 312 (.slot 0))), (some 3), none⟩]) (.seq (.reg [⟨(.aop (.load1 (.slot 1))), (some 5), none⟩]) (.block 0 (.rfun (.slot 5) [6] (.reg [⟨(.aop (.mov (.slot 6))), (some 4), none⟩]) (.block 1 (.seq (.reg [⟨(.aop (.load1 (.slot 2))), (some 7), none⟩, ⟨(.aop (.mov (.slot 4))), (some 8), none⟩, ⟨(.call (.slot 7) [(.slot 8)]), (some 9), none⟩, ⟨(.aop (.mov (.slot 9))), (some 10), none⟩, ⟨(.aop (.load1 (.slot 3))), (some 11), (some ((.slot 10), true))⟩, ⟨(.aop (.mov (.slot 4))), (some 12), (some ((.slot 10), true))⟩, ⟨(.call (.slot 11) [(.slot 12)]), (some 13), (some ((.slot 10), true))⟩, ⟨(.aop (.un .not (.slot 13))), (some 14), (some ((.slot 10), true))⟩, ⟨(.aop (.pick (.slot 10) (.slot 14) (.lit (.bool false)))), (some 15), none⟩]) (.cond (.slot 15) .ret .skip)))))))
theorem comp188 : (V2.compC Tryz.prog 5 Tryz.f188.ntmps (fun _ => false) (Tryz.f188.body.getD .skip), V2.compR Tryz.prog Tryz.f188.results.toList) = (some c188, some []) := by kernel_rfl
theorem body188 : Tryz.f188.body = some (Tryz.f188.body.getD .skip) := by kernel_rfl
noncomputable def c191 : ACode := (.seq (.reg [⟨(.aop (.mov (.lit (.int .u32 (0))))), (some 5), none⟩]) (.block 0 (.loop (.seq (.reg [⟨(.aop (.bin .lss (.slot 5) (.lit (.int .u32 (32))))), (some 6), none⟩]) (.seq (.cond (.slot 6) .skip (.exit 0)) (.seq (.block 1 (.seq (.reg [⟨(.aop (.mov (.slot 5))), (some 7), none⟩, ⟨(.aop (.mov (.slot 7))), (some 3), none⟩]) (.seq (.reg [⟨(.aop (.load1 (.slot 1))), (some 8), none⟩, ⟨(.aop (.bin .add (.slot 8) (.lit (.int .u32 (1))))), (some 9), none⟩, ⟨(.aop (.mov (.slot 3))), (some 10), none⟩, ⟨(.aop (.bin .add (.slot 9) (.slot 10))), (some 11), none⟩, ⟨(.aop (.mov (.slot 11))), (some 4), none⟩]) (.seq (.reg [⟨(.aop (.mov (.slot 4))), (some 12), none⟩, ⟨(.aop (.load1 (.slot 1))), (some 13), none⟩, ⟨(.aop (.bin .leq (.slot 12) (.slot 13))), (some 14), none⟩, ⟨(.aop (.mov (.slot 14))), (some 15), none⟩, ⟨(.aop (.mov (.slot 0))), (some 16), (some ((.slot 15), false))⟩, ⟨(.aop (.mov (.slot 4))), (some 17), (some ((.slot 15), false))⟩, ⟨(.call (.slot 16) [(.slot 17)]), (some 18), (some ((.slot 15), false))⟩, ⟨(.aop (.un .not (.slot 18))), (some 19), (some ((.slot 15), false))⟩, ⟨(.aop (.pick (.slot 15) (.lit (.bool true)) (.slot 19))), (some 20), none⟩]) (.cond (.slot 20) .ret .skip))))) (.reg [⟨(.aop (.bin .add (.slot 5) (.lit (.int .u32 (1))))), (some 21), none⟩, ⟨(.aop (.mov (.slot 21))), (some 5), none⟩])))))))
theorem comp191 : (V2.compC Tryz.prog 5 Tryz.f191.ntmps (fun _ => false) (Tryz.f191.body.getD .skip), V2.compR Tryz.prog Tryz.f191.results.toList) = (some c191, some []) := by kernel_rfl
theorem body191 : Tryz.f191.body = some (Tryz.f191.body.getD .skip) := by kernel_rfl
noncomputable def c6 : ACode := (compC Tryz.prog 5 Tryz.f6.ntmps (fun _ => false) (Tryz.f6.body.getD .skip)).getD .bad
theorem comp6 : (V2.compC Tryz.prog 5 Tryz.f6.ntmps (fun _ => false) (Tryz.f6.body.getD .skip), V2.compR Tryz.prog Tryz.f6.results.toList) = (some c6, some [(.tmp 0)]) := by kernel_rfl
theorem body6 : Tryz.f6.body = some (Tryz.f6.body.getD .skip) := by kernel_rfl
end Go.Proofs.YtcbfjmjphpoimaaGreatDoor.V2
namespace Go.Proofs.YtcbfjmjphpoimaaGreatDoor.V2
open Go
set_option linter.unusedVariables false
attribute [local irreducible] c130 c139 c155 c156 c171 c176 c177 c178 c188 c191
noncomputable def en130 : Ent := ⟨Tryz.f130.ntmps, c130, [(.tmp 6)]⟩
theorem eok130 : EntOk (130, en130) := ⟨_, _, Tryz.func130, body130, by kernel_rfl, rfl, (Prod.mk.inj comp130).1, (Prod.mk.inj comp130).2, by kernel_rfl⟩
noncomputable def en139 : Ent := ⟨Tryz.f139.ntmps, c139, [(.tmp 2)]⟩
theorem eok139 : EntOk (139, en139) := ⟨_, _, Tryz.func139, body139, by kernel_rfl, rfl, (Prod.mk.inj comp139).1, (Prod.mk.inj comp139).2, by kernel_rfl⟩
noncomputable def en155 : Ent := ⟨Tryz.f155.ntmps, c155, [(.tmp 2)]⟩
theorem eok155 : EntOk (155, en155) := ⟨_, _, Tryz.func155, body155, by kernel_rfl, rfl, (Prod.mk.inj comp155).1, (Prod.mk.inj comp155).2, by kernel_rfl⟩
noncomputable def en156 : Ent := ⟨Tryz.f156.ntmps, c156, [(.tmp 4)]⟩
theorem eok156 : EntOk (156, en156) := ⟨_, _, Tryz.func156, body156, by kernel_rfl, rfl, (Prod.mk.inj comp156).1, (Prod.mk.inj comp156).2, by kernel_rfl⟩
noncomputable def en171 : Ent := ⟨Tryz.f171.ntmps, c171, [(.tmp 4)]⟩
theorem eok171 : EntOk (171, en171) := ⟨_, _, Tryz.func171, body171, by kernel_rfl, rfl, (Prod.mk.inj comp171).1, (Prod.mk.inj comp171).2, by kernel_rfl⟩
noncomputable def en176 : Ent := ⟨Tryz.f176.ntmps, c176, [(.tmp 2)]⟩
theorem eok176 : EntOk (176, en176) := ⟨_, _, Tryz.func176, body176, by kernel_rfl, rfl, (Prod.mk.inj comp176).1, (Prod.mk.inj comp176).2, by kernel_rfl⟩
noncomputable def en177 : Ent := ⟨Tryz.f177.ntmps, c177, [(.tmp 2)]⟩
theorem eok177 : EntOk (177, en177) := ⟨_, _, Tryz.func177, body177, by kernel_rfl, rfl, (Prod.mk.inj comp177).1, (Prod.mk.inj comp177).2, by kernel_rfl⟩
noncomputable def en178 : Ent := ⟨Tryz.f178.ntmps, c178, [(.tmp 4)]⟩
theorem eok178 : EntOk (178, en178) := ⟨_, _, Tryz.func178, body178, by kernel_rfl, rfl, (Prod.mk.inj comp178).1, (Prod.mk.inj comp178).2, by kernel_rfl⟩
noncomputable def en188 : Ent := ⟨Tryz.f188.ntmps, c188, []⟩
theorem eok188 : EntOk (188, en188) := ⟨_, _, Tryz.func188, body188, by kernel_rfl, rfl, (Prod.mk.inj comp188).1, (Prod.mk.inj comp188).2, by kernel_rfl⟩
noncomputable def en191 : Ent := ⟨Tryz.f191.ntmps, c191, []⟩
theorem eok191 : EntOk (191, en191) := ⟨_, _, Tryz.func191, body191, by kernel_rfl, rfl, (Prod.mk.inj comp191).1, (Prod.mk.inj comp191).2, by kernel_rfl⟩
noncomputable def entsY : List (Nat × Ent) := [(130, en130), (139, en139), (155, en155), (156, en156), (171, en171), (176, en176), (177, en177), (178, en178), (188, en188), (191, en191)]
theorem entsY_ok : ∀ p ∈ entsY, EntOk p := by
  unfold entsY
  refine List.forall_mem_cons.2 ⟨eok130, ?_⟩
  refine List.forall_mem_cons.2 ⟨eok139, ?_⟩
  refine List.forall_mem_cons.2 ⟨eok155, ?_⟩
  refine List.forall_mem_cons.2 ⟨eok156, ?_⟩
  refine List.forall_mem_cons.2 ⟨eok171, ?_⟩
  refine List.forall_mem_cons.2 ⟨eok176, ?_⟩
  refine List.forall_mem_cons.2 ⟨eok177, ?_⟩
  refine List.forall_mem_cons.2 ⟨eok178, ?_⟩
  refine List.forall_mem_cons.2 ⟨eok188, ?_⟩
  refine List.forall_mem_cons.2 ⟨eok191, ?_⟩
  exact fun p hp => absurd hp List.not_mem_nil
theorem entsY_lt : ∀ p ∈ entsY, Nat.blt p.1 1048576 = true := by
  unfold entsY
  refine List.forall_mem_cons.2 ⟨rfl, ?_⟩
  refine List.forall_mem_cons.2 ⟨rfl, ?_⟩
  refine List.forall_mem_cons.2 ⟨rfl, ?_⟩
  refine List.forall_mem_cons.2 ⟨rfl, ?_⟩
  refine List.forall_mem_cons.2 ⟨rfl, ?_⟩
  refine List.forall_mem_cons.2 ⟨rfl, ?_⟩
  refine List.forall_mem_cons.2 ⟨rfl, ?_⟩
  refine List.forall_mem_cons.2 ⟨rfl, ?_⟩
  refine List.forall_mem_cons.2 ⟨rfl, ?_⟩
  refine List.forall_mem_cons.2 ⟨rfl, ?_⟩
  exact fun p hp => absurd hp List.not_mem_nil
noncomputable def tabY : T Ent := tabL entsY
theorem tabY_ok : TabOk Tryz.prog 5 (fun _ => false) tabY := fun f x h => by
  have hm := tabL_get entsY_lt f x h
  have he : EntOk (f, x) := entsY_ok (f, x) hm
  exact he
def noF (_ : FuncId) (_ : List AV) (σ : AH) : Out := bad σ
theorem noF_ok {Y : List Yl} : FnOk Tryz.prog 5 noF Y := fun _ _ _ h => by cases h
noncomputable def Γm : Gam := Gam.grow std 1000 tabY Sp.none (.of noF) 40
theorem gamm_ok : GamOk Tryz.prog 5 Γm [] := (grow_ok mixed tabY_ok Sp.none_ok (fun f h => by cases h) 40 (.of noF_ok) hpu0').1
noncomputable def slF (g : FuncId → List AV → AH → Out) (f : FuncId) (args : List AV) (σ : AH) : Out := bif Nat.beq f 130 then Γm.fn f args σ else g f args σ
theorem slF_ok {g : FuncId → List AV → AH → Out} (hg : FnOk Tryz.prog 5 g []) : FnOk Tryz.prog 5 (slF g) [] := fun f args σ h => by
  unfold slF at h ⊢
  cases hf : Nat.beq f 130 with
  | true => rw [hf] at h; exact gamm_ok.fn f args σ h
  | false => rw [hf] at h; exact hg f args σ h
end Go.Proofs.YtcbfjmjphpoimaaGreatDoor.V2
namespace Go.Proofs.YtcbfjmjphpoimaaGreatDoor
open Go.RowKit
def TC : List UInt32 := [0, 498536548, 997073096, 651767980, 1994146192, 1802195444, 1303535960, 1342533948, 3988292384, 4027552580, 3604390888, 3412177804, 2607071920, 2262029012, 2685067896, 3183342108]
def halfW (n : UInt32) : UInt32 := sror n 4 ^^^ TC.getD (n &&& 15).toNat 0
def stepW (n : UInt32) (c : UInt8) : UInt32 := halfW (halfW (n ^^^ c.toUInt32))
def crcW (bs : List UInt8) : UInt32 := bs.foldl stepW 4294967295
def TabC (w : World) : Prop := ∀ i, i < 16 → w.cell? ⟨2, i, none⟩ = some (.int .u32 (N32 (TC.getD i 0)))
attribute [local go_sem] u32_bits_xor u32_bits_and u32_bits_or
theorem and15 (n : UInt32) : (n &&& 15).toNat < 16 := by
  have : (n &&& 15).toNat = n.toNat &&& 15 := rfl
  rw [this]
  exact Nat.lt_of_le_of_lt Nat.and_le_right (by omega)
set_option maxHeartbeats 400000 in
theorem half_any (n : UInt32) (w : World) (hT : TabC w) : Calls Tryz.prog 121 #[.int .u32 (N32 n)] w fun e w' => e = .returned (.int .u32 (N32 (halfW n))) ∧ w' = w := by
  have hs : N32 n / 16 = N32 (sror n 4) := sror_eq n 4
  have h15 : (15 : Int) = N32 15 := rfl
  have hlt := and15 n
  have hcell : w.cell? ⟨2, (N32 (n &&& 15)).toNat, none⟩ = some (.int .u32 (N32 (TC.getD (n &&& 15).toNat 0))) := hT (n &&& 15).toNat hlt
  have hb : 0 ≤ N32 (n &&& 15) ∧ N32 (n &&& 15) < 16 := by
    have : N32 (n &&& 15) = ((n &&& 15).toNat : Int) := rfl
    omega
  go_enter Tryz.func121, Tryz.ntmps121
  go_wp2
  go_ret
  exact ⟨rfl, rfl⟩
theorem u8_u32 (c : UInt8) : IntKind.u32.wrap (N8 c) = N32 c.toUInt32 := by
  have h := c.toNat_lt
  have e : N8 c = ((c.toNat : Nat) : Int) := rfl
  rw [e, wrap_u32, Nat.mod_eq_of_lt (by omega)]
  unfold N32
  rw [UInt8.toNat_toUInt32]
theorem crc_step (n : UInt32) (bs : List UInt8) (k : Nat) (h : k < bs.length) : (bs.take (k + 1)).foldl stepW n = stepW ((bs.take k).foldl stepW n) (at8 bs k) := by
  rw [List.take_succ_eq_append_getElem h, List.foldl_append]
  simp [at8, List.getD_eq_getElem?_getD, h]
def CrcR (bs : List UInt8) (n _c i : Value) : Prop := ∃ k : Nat, k ≤ bs.length ∧ i = .int .i64 k ∧ n = .int .u32 (N32 ((bs.take k).foldl stepW 4294967295))
set_option maxHeartbeats 1000000 in
theorem crc_some (b off c : Nat) (bs : List UInt8) (w : World) (hT : TabC w) (hcell : ∀ j, j < bs.length → w.cell? ⟨b, off + j, none⟩ = some (.int .u8 (N8 (at8 bs j)))) (hl : bs.length ≤ 1000000000) :
    Calls Tryz.prog 80 #[.slice (some ⟨b, off, none⟩) bs.length c] w fun e w' => e = .returned (.int .u32 (N32 (~~~ crcW bs))) ∧ w' = w := by
  have HC := Lib.hid hcell
  clear hcell
  go_enter Tryz.func80, Tryz.ntmps80
  go_wp2
  go_loop [3, 5, 8] (CrcR bs) (fun _ _ i => bs.length - (intOf i).toNat)
  case atStart => exact ⟨0, by omega, rfl, rfl⟩
  case round =>
    obtain ⟨k, hk, rfl, rfl⟩ := hrel
    by_cases hlt : k < bs.length
    · have d1 : decide ((k : Int) < (bs.length : Int)) = true := decide_eq_true (by omega)
      have g1 : w.cell? ⟨b, off + k, none⟩ = some (.int .u8 (N8 (at8 bs k))) := HC.out k hlt
      have hu := u8_u32 (at8 bs k)
      have HS := Lib.hid (crc_step 4294967295 bs k hlt)
      go_wp2_with (go_at_call 121; refine (half_any _ _ hT).mono ?_; rintro e w' ⟨rfl, hw⟩; rw [hw]; clear hw w')
      go_round
      case rel => exact ⟨k + 1, by omega, by go_num, by rw [HS.out]; rfl⟩
      case measure => simp [intOf]; omega
    · have d1 : decide ((k : Int) < (bs.length : Int)) = false := decide_eq_false (by omega)
      obtain rfl : k = bs.length := by omega
      go_wp2
      go_ret
      exact ⟨ret_int (u32_bits_not2 _), rfl⟩
set_option maxHeartbeats 1000000 in
theorem crc_none (a : Option Addr) (w : World) : Calls Tryz.prog 80 #[.slice a 0 0] w fun e w' => e = .returned (.int .u32 (N32 (~~~ crcW []))) ∧ w' = w := by
  go_enter Tryz.func80, Tryz.ntmps80
  go_wp2
  go_loop [3, 5, 8] (fun n _ i => n = .int .u32 (N32 4294967295) ∧ i = .int .i64 0) (fun _ _ _ => 0)
  case atStart => exact ⟨rfl, rfl⟩
  case round =>
    obtain ⟨rfl, rfl⟩ := hrel
    go_wp2
    go_ret
    exact ⟨ret_int (u32_bits_not2 _), rfl⟩
theorem crc_any (v : Value) (bs : List UInt8) (w : World) (hT : TabC w) (h : BSl w v bs) (hl : bs.length ≤ 1000000000) :
    Calls Tryz.prog 80 #[v] w fun e w' => e = .returned (.int .u32 (N32 (~~~ crcW bs))) ∧ w' = w := by
  rcases h with ⟨rfl, rfl⟩ | ⟨b, off, c, rfl, _, _, hc⟩ | ⟨a, rfl, rfl⟩
  · exact crc_none none w
  · exact crc_some b off c bs w hT hc hl
  · exact crc_none (some a) w
end Go.Proofs.YtcbfjmjphpoimaaGreatDoor
namespace Go.Proofs.YtcbfjmjphpoimaaGreatDoor.V2
open Go
open Go.RowKit
def isTC (l : List Int) : Bool := decide (l = wI TC)
noncomputable def crA (args : List AV) (σ : AH) : Out := match args with
  | [s] => ((bytesA std byI σ s).1 && globA σ 2 isTC && Nat.ble (bytesA std byI σ s).2.length 1000000000, .int .u32 (N32 (~~~ crcW (toBs (bytesA std byI σ s).2))), σ)
  | _ => bad σ
noncomputable def crF (g : FuncId → List AV → AH → Out) (f : FuncId) (args : List AV) (σ : AH) : Out := bif Nat.beq f 80 then crA args σ else g f args σ
theorem crF_ok {Y : List Yl} {g : FuncId → List AV → AH → Out} (hg : FnOk Tryz.prog 5 g Y) : FnOk Tryz.prog 5 (crF g) Y := by
  intro f args σ h
  unfold crF at h ⊢
  cases hf : Nat.beq f 80
  case false => rw [hf] at h; rw [cond_false] at h ⊢; exact hg f args σ h
  rw [hf] at h
  simp only [cond_true] at h ⊢
  have e := Nat.eq_of_beq_eq_true hf
  subst e
  refine ⟨⟨_, Tryz.func80, by kernel_rfl, by kernel_rfl⟩, fun ρ W vs _ hG hr hvs => ?_⟩
  unfold crA at h ⊢
  split at h
  case h_2 => cases h
  rename_i s
  obtain ⟨v, mm, rfl, hv, hmm⟩ := hvs
  have hmm : mm = [] := hmm
  subst hmm
  simp only [Bool.and_eq_true, Nat.ble_eq] at h
  obtain ⟨⟨h1, h2⟩, h3⟩ := h
  have hB := (bytes_of hr hv h1).1
  have hlen : (toBs (bytesA std byI σ s).2).length ≤ 1000000000 := by unfold toBs; rw [List.length_map]; exact h3
  have hT : TabC W := glob_of hr (fun l h => by simpa [isTC] using h) rfl (hG 2 (by decide)) h2
  refine (crc_any v _ W hT hB hlen).mono ?_
  rintro e W' ⟨rfl, hw⟩
  subst hw
  exact ⟨_, ρ, rfl, hr, .refl (Nat.le_refl _), by unfold VR; rfl⟩
noncomputable section
def tcN : Nat := 9937593612760466100516450665319420528403982636753068485404800763335476026940182181175496972418787619281442302519629725716261212251300561153615832085954560
def hfN (y : Nat) : Nat := Nat.xor (Nat.shiftRight y 4) (Nat.land (Nat.shiftRight tcN (Nat.shiftLeft (Nat.land y 15) 5)) 4294967295)
theorem tc_at : ∀ i, i < 16 → Nat.land (Nat.shiftRight tcN (Nat.shiftLeft i 5)) 4294967295 = (TC.getD i 0).toNat := by
  intro i hi
  match i, hi with
  | 0, _ => rfl
  | 1, _ => rfl
  | 2, _ => rfl
  | 3, _ => rfl
  | 4, _ => rfl
  | 5, _ => rfl
  | 6, _ => rfl
  | 7, _ => rfl
  | 8, _ => rfl
  | 9, _ => rfl
  | 10, _ => rfl
  | 11, _ => rfl
  | 12, _ => rfl
  | 13, _ => rfl
  | 14, _ => rfl
  | 15, _ => rfl
  | n + 16, h => exact absurd h (by omega)
theorem hfN_eq (n : UInt32) : hfN n.toNat = (halfW n).toNat := by
  unfold hfN halfW
  have e1 : Nat.land n.toNat 15 = (n &&& 15).toNat := rfl
  rw [e1, tc_at _ (and15 n), UInt32.toNat_xor]
  congr 1
  unfold sror
  rw [UInt32.toNat_ofNat']
  have h1 : n.toNat / 2 ^ 4 < 2 ^ 32 := Nat.lt_of_le_of_lt (Nat.div_le_self _ _) n.toNat_lt
  rw [Nat.mod_eq_of_lt h1]
  exact Nat.shiftRight_eq_div_pow _ _
def crcK (n : Nat) (k : Nat → FR) : Nat → Nat → FR := Nat.rec (motive := fun _ => Nat → Nat → FR) (fun _ x => k x)
  (fun _ ih c x => fN (Nat.div c 256) fun c' => fN (hfN (Nat.xor x (Nat.mod c 256))) fun y => fN (hfN y) fun y => ih c' y) n
theorem crcK_eq : ∀ (n : Nat) (k : Nat → FR) (c : Nat) (x : UInt32), crcK n k c x.toNat = k ((unpN n c).foldl stepW x).toNat
  | 0, _, _, _ => rfl
  | n + 1, k, c, x => by
    show (fN (Nat.div c 256) fun c' => fN (hfN (Nat.xor x.toNat (Nat.mod c 256))) fun y => fN (hfN y) fun y => crcK n k c' y) = _
    rw [fN_eq, fN_eq, fN_eq]
    have e : Nat.xor x.toNat (Nat.mod c 256) = (x ^^^ (UInt8.ofNat (c % 256)).toUInt32).toNat := by
      rw [UInt32.toNat_xor, UInt8.toNat_toUInt32, UInt8.toNat_ofNat']
      show x.toNat ^^^ (c % 256) = _
      rw [Nat.mod_mod]
    rw [e, hfN_eq, hfN_eq]
    exact crcK_eq n k (c / 256) _
theorem unpN_add : ∀ (a b c : Nat), unpN (a + b) c = unpN a c ++ unpN b (c / 256 ^ a)
  | 0, b, c => by rw [Nat.zero_add, Nat.pow_zero, Nat.div_one]; rfl
  | a + 1, b, c => by
    rw [Nat.succ_add]
    show UInt8.ofNat (c % 256) :: unpN (a + b) (c / 256) = UInt8.ofNat (c % 256) :: (unpN a (c / 256) ++ unpN b (c / 256 ^ (a + 1)))
    rw [unpN_add a b, Nat.div_div_eq_div_mul, Nat.pow_succ, Nat.mul_comm 256]
theorem unpN_mod (a c : Nat) : unpN a (c % 256 ^ a) = unpN a c := by
  refine ext_unp (unpN_length a c) fun i hi => ?_
  rw [unpN_at a c i hi, mod_div_mod c a i hi]
def crcG (q : Nat) (k : Nat → Nat → FR) : Nat → Nat → FR := Nat.rec (motive := fun _ => Nat → Nat → FR) k
  (fun _ ih c x => fN (Nat.land c 115792089237316195423570985008687907853269984665640564039457584007913129639935) fun d => fN (Nat.shiftRight c 256) fun c' => crcK 32 (fun y => ih c' y) d x) q
theorem crcG_eq : ∀ (q r : Nat) (k : Nat → FR) (c : Nat) (x : UInt32), crcG q (fun c x => crcK r k c x) c x.toNat = k ((unpN (32 * q + r) c).foldl stepW x).toNat
  | 0, r, k, c, x => by
    show crcK r k c x.toNat = _
    rw [crcK_eq, Nat.mul_zero, Nat.zero_add]
  | q + 1, r, k, c, x => by
    show (fN (Nat.land c 115792089237316195423570985008687907853269984665640564039457584007913129639935) fun d => fN (Nat.shiftRight c 256) fun c' => crcK 32 (fun y => crcG q (fun c x => crcK r k c x) c' y) d x.toNat) = _
    rw [fN_eq, fN_eq]
    have e1 : Nat.land c 115792089237316195423570985008687907853269984665640564039457584007913129639935 = c % 256 ^ 32 := by
      have := Nat.and_two_pow_sub_one_eq_mod c 256
      rw [show (2 : Nat) ^ 256 = 256 ^ 32 by rw [show (256 : Nat) = 2 ^ 8 by rfl, ← Nat.pow_mul]] at this
      exact this
    have e2 : Nat.shiftRight c 256 = c / 256 ^ 32 := by
      have := Nat.shiftRight_eq_div_pow c 256
      rw [show (2 : Nat) ^ 256 = 256 ^ 32 by rw [show (256 : Nat) = 2 ^ 8 by rfl, ← Nat.pow_mul]] at this
      exact this
    rw [e1, e2, crcK_eq 32 (fun y => crcG q (fun c x => crcK r k c x) (c / 256 ^ 32) y)]
    show crcG q (fun c x => crcK r k c x) (c / 256 ^ 32) _ = _
    rw [crcG_eq q r k, unpN_mod, ← List.foldl_append, ← unpN_add, show 32 + (32 * q + r) = 32 * (q + 1) + r by omega]
def crB (c : Nat) (σ : FH) (k : KV) : FR := fN (bl c) fun n => gB (Nat.ble n 1000000000) (crcG (Nat.div n 32) (fun c x => crcK (Nat.mod n 32) (fun x => fN (Nat.xor 4294967295 x) fun x => k (.n .u32 x) σ) c x) c 4294967295)
def crQ (l : List FV) (σ : FH) (k : KV) : FR := k1L l fun x => gB (globA (αH σ) 2 isTC) (rowQ false 1 σ x fun _ R => kR (fun c => crB c σ k) (fun l => List.rec (motive := fun _ => FR) (crB 1 σ k) (fun _ _ _ => .bad) l) (fun _ _ => .bad) R)
theorem not32 (x : UInt32) : Nat.xor 4294967295 x.toNat = (~~~ x).toNat := by
  have h : (4294967295 : UInt32) ^^^ x = ~~~ x := by
    apply UInt32.toBitVec_inj.1
    simp [← BitVec.allOnes_xor]
  rw [← h, UInt32.toNat_xor]; rfl
theorem crB_ok {c : Nat} {σ : FH} {k : KV} (h : crB c σ k ≠ .bad) : Nat.ble (unp c).length 1000000000 = true ∧ crB c σ k = k (.n .u32 (~~~ crcW (unp c)).toNat) σ := by
  unfold crB at h ⊢
  rw [fN_eq] at h ⊢
  rw [gB_eq] at h ⊢
  cases hb : Nat.ble (bl c) 1000000000 <;> rw [hb] at h
  · exact absurd rfl h
  refine ⟨by rw [unp_length]; exact hb, ?_⟩
  rw [cond_true]
  have := crcG_eq (Nat.div (bl c) 32) (Nat.mod (bl c) 32) (fun x => fN (Nat.xor 4294967295 x) fun x => k (.n .u32 x) σ) c 4294967295
  have e : (4294967295 : UInt32).toNat = 4294967295 := rfl
  rw [e] at this
  have hd : 32 * Nat.div (bl c) 32 + Nat.mod (bl c) 32 = bl c := Nat.div_add_mod (bl c) 32
  rw [hd] at this
  rw [this, fN_eq, not32]
  rfl
theorem toBs_unpI (c : Nat) : toBs (unpI c) = unp c := by
  unfold toBs unpI
  rw [List.map_map]
  conv => rhs; rw [← List.map_id (unp c)]
  exact List.map_congr_left fun b _ => by simp
theorem byI_unpI (c : Nat) : byI (unpI c) = true := by
  unfold byI unpI
  rw [List.all_map, List.all_eq_true]
  intro b _
  have := b.toNat_lt
  simp; omega
theorem crQ_sm (l : List FV) (σ : FH) (k : KV) : Sm (crQ l σ k) k (crA (αL l) (αH σ)) := by
  intro h
  unfold crQ at h ⊢
  obtain ⟨x, rfl, h1⟩ := k1L_cases h
  rw [h1] at h ⊢
  rw [gB_eq] at h ⊢
  cases hg : globA (αH σ) 2 isTC <;> rw [hg] at h
  · exact absurd rfl h
  rw [cond_true] at h ⊢
  obtain ⟨m, R, h2, h3⟩ := rowQ_cases h
  rw [h3] at h ⊢
  have fin : ∀ (c : Nat) (L : List Int), rowB (αR R) = some L → L = unpI c → crB c σ k ≠ .bad → ∃ v σ', crA (αL [x]) (αH σ) = (true, αV v, αH σ') ∧ crB c σ k = k v σ' := fun c L e1 e2 hc => by
    obtain ⟨g1, g2⟩ := crB_ok hc
    refine ⟨_, σ, ?_, g2⟩
    have hbA : bytesA std byI (αH σ) (αV x) = (true, unpI c) := by
      unfold bytesA
      rw [h2]
      simp only [e1]
      rw [e2, byI_unpI]; rfl
    show ((bytesA std byI (αH σ) (αV x)).1 && globA (αH σ) 2 isTC && Nat.ble (bytesA std byI (αH σ) (αV x)).2.length 1000000000, AV.int .u32 (N32 (~~~ crcW (toBs (bytesA std byI (αH σ) (αV x)).2))), αH σ) = _
    rw [hbA, hg, toBs_unpI]
    have hl : (unpI c).length = (unp c).length := by unfold unpI; rw [List.length_map]
    simp only [hl, g1]
    rfl
  cases R with
  | bs c => exact fin c _ rfl rfl h
  | cells l =>
    cases l with
    | nil => exact fin 1 [] rfl rfl h
    | cons _ _ => exact absurd rfl h
  | ints k l => exact absurd rfl h
end
end Go.Proofs.YtcbfjmjphpoimaaGreatDoor.V2
namespace Go.Proofs.YtcbfjmjphpoimaaGreatDoor
open Go.RowKit Go.Sort
def uC (n : Int) : Value := .int .u32 n
set_option maxHeartbeats 1000000 in
theorem nan_u (x : Int) (w : World) : Calls Tryz.prog 212 #[.int .u32 x] w fun e w' => e = .returned (.bool false) ∧ w' = w := by
  go_enter Tryz.func212, Tryz.ntmps212
  go_wp2
  go_ret
  exact ⟨by simp, rfl⟩
set_option maxHeartbeats 1000000 in
theorem less_u (x y : Int) (w : World) : Calls Tryz.prog 198 #[.int .u32 x, .int .u32 y] w fun e w' => e = .returned (.bool (ltInt x y)) ∧ w' = w := by
  go_enter Tryz.func198, Tryz.ntmps198
  go_wp2_with (go_at_call 212; refine (nan_u _ _).mono ?_; rintro e w' ⟨rfl, rfl⟩)
  go_ret
  exact ⟨rfl, rfl⟩
section
variable {α : Type} [Inhabited α] (lt : α → α → Bool)
theorem inner_on (a j : Nat) (d : Array α) (hj : a < j) (hl : lt d[j]! d[j - 1]! = true) : insInner lt a j d = insInner lt a (j - 1) (swp d j (j - 1)) := by
  cases j with
  | zero => omega
  | succ k => simp only [Nat.add_sub_cancel] at hl ⊢; rw [insInner]; simp [hj, hl]
theorem inner_end (a j : Nat) (d : Array α) (h : j ≤ a ∨ lt d[j]! d[j - 1]! = false) : insInner lt a j d = d := by
  cases j with
  | zero => rw [insInner]
  | succ k =>
    rw [insInner]
    simp only [Nat.add_sub_cancel] at h
    rcases h with h | h
    · simp [show ¬ k + 1 > a by omega]
    · simp [h]
theorem outer_on (a b i : Nat) (d : Array α) (h : i < b) : insOuter lt a b i d = insOuter lt a b (i + 1) (insInner lt a i d) := by rw [insOuter, if_pos h]
theorem outer_end (a b i : Nat) (d : Array α) (h : ¬ i < b) : insOuter lt a b i d = d := by rw [insOuter, if_neg h]
end
theorem put_draws (w : World) (m q blk off : Nat) (d : Array Int) : (putRow uC (Sort.ahead w m) blk off d).drewN q = putRow uC (Sort.ahead w (m + q)) blk off d := by
  show Sort.ahead (putRow uC (Sort.ahead w m) blk off d) q = _
  rw [putRow_ahead uC w m, ahead_ahead, ← putRow_ahead]
theorem put_swap (w : World) (m q blk off : Nat) (d : Array Int) (j k : Nat) (hj : j < d.size) (hk : k < d.size) :
    (((putRow uC (Sort.ahead w m) blk off d).drewN q).setCell ⟨blk, off + j, none⟩ (uC d[k]!)).setCell ⟨blk, off + k, none⟩ (uC d[j]!) = putRow uC (Sort.ahead w (m + q)) blk off (swp d j k) := by
  rw [put_draws]
  exact putRow_swp uC _ blk off d j k hj hk
set_option maxRecDepth 100000 in
theorem ins_u (blk off cap n : Nat) (d : Array Int) (w : World) (hH : Holds uC w blk off d) (hn : d.size = n) (hsz : n < 4611686018427387904) :
    Calls Tryz.prog 192 #[.slice (some ⟨blk, off, none⟩) n cap, .int .i64 (0 : Nat), .int .i64 n] w fun e w' =>
      e = .returned (.tuple #[]) ∧ ∃ m, w' = putRow uC (Sort.ahead w m) blk off (insertionSort ltInt d 0 n) := by
  subst hn
  obtain ⟨a, ha⟩ : ∃ a : Nat, a = 0 := ⟨_, rfl⟩
  obtain ⟨b, hb⟩ : ∃ b : Nat, b = d.size := ⟨_, rfl⟩
  rw [show (Value.int .i64 ((0 : Nat) : Int)) = .int .i64 (a : Nat) by rw [ha], show (Value.int .i64 (d.size : Int)) = .int .i64 (b : Nat) by rw [hb], show insertionSort ltInt d 0 d.size = insertionSort ltInt d a b by rw [ha, hb]]
  have hab : a ≤ b := by omega
  have hbs : b ≤ d.size := by omega
  clear ha hb
  go_enter Tryz.func192, Tryz.ntmps192
  go_wp2
  go_loopw [6] (fun vi wr => ∃ (i n : Nat) (dk : Array Int), vi = .int .i64 i ∧ a < i ∧ i ≤ b + 1 ∧ dk.size = d.size ∧ wr = putRow uC (Sort.ahead w n) blk off dk ∧
      insOuter ltInt a b i dk = insOuter ltInt a b (a + 1) d) (fun vi _ => b + 1 - (intOf vi).toNat)
  case atStart => exact ⟨a + 1, 0, d, by go_num, by omega, by omega, rfl, (putRow_self _ _ _ _ _ hH).symm, rfl⟩
  case round =>
    obtain ⟨i, n, dk, rfl, hai, hib, hsk, hwr, hO⟩ := hrel
    have HO := Lib.hid hO
    clear hO
    go_wp2
    · go_loopw [7] (fun vj wr2 => ∃ (j m : Nat) (dj : Array Int), vj = .int .i64 j ∧ a ≤ j ∧ j ≤ i ∧ dj.size = d.size ∧ wr2 = putRow uC (Sort.ahead w m) blk off dj ∧
          insInner ltInt a j dj = insInner ltInt a i dk) (fun vj _ => (intOf vj).toNat)
      case atStart => exact ⟨i, n, dk, rfl, by omega, Nat.le_refl _, hsk, rfl, rfl⟩
      case round =>
        obtain ⟨j, m, dj, rfl, haj, hji, hsj, hw2, hI⟩ := hrel
        have hlt : i < b := by assumption
        obtain ⟨G, hG⟩ : ∃ G : Nat → Int, ∀ t, G t = dj[t]! := ⟨fun t => dj[t]!, fun _ => rfl⟩
        have hcw : ∀ t, t < d.size → wr.cell? ⟨blk, off + t, none⟩ = some (.int .u32 (G t)) := fun t ht => by
          rw [hw2, hG]; exact cell?_putRow _ _ _ _ d dj (holds_ahead _ _ _ _ _ _ hH) hsj t (by omega)
        have hfw : ∀ t, t < d.size → wr.frozen? ⟨blk, off + t, none⟩ = false := fun t ht => by
          rw [hw2, frozen?_putRow]; exact ((holds_ahead _ _ m _ _ _ hH) t ht).2
        have HW := Lib.hid hw2
        have HG := Lib.hid hG
        have HI := Lib.hid hI
        clear hw2 hG hI hH
        have OUT := Lib.hid (show (j ≤ a ∨ ltInt dj[j]! dj[j - 1]! = false) → ∀ q, ∃ i' n' dk', Value.int .i64 ((i : Int) + 1) = .int .i64 (i' : Nat) ∧ a < i' ∧ i' ≤ b + 1 ∧ dk'.size = d.size ∧
            wr.drewN q = putRow uC (Sort.ahead w n') blk off dk' ∧ insOuter ltInt a b i' dk' = insOuter ltInt a b (a + 1) d from fun hs q =>
          ⟨i + 1, m + q, dj, by go_num, by omega, by omega, hsj, by rw [HW.out]; exact put_draws _ _ _ _ _ _,
            by rw [← HO.out, outer_on _ _ _ _ _ hlt, ← HI.out, inner_end _ _ _ _ hs]⟩)
        go_wp2
        by_cases hja : a < j
        · go_quiet (first | (go_at_call 198; refine Calls.quiet_of_same (less_u _ _ _)))
          go_wp2
          · have hl : ltInt (G j) (G (j - 1)) = true := by assumption
            go_region
            all_goals go_wp2
            go_roundw
            case rel =>
              refine ⟨j - 1, m + (nq + 1), swp dj j (j - 1), by congr 1; omega, by omega, by omega, by rw [size_swp]; exact hsj, ?_, ?_⟩
              · rw [HW.out, HG.out, HG.out]
                exact put_swap w m (nq + 1) blk off dj j (j - 1) (by omega) (by omega)
              · rw [← HI.out, inner_on ltInt a j dj hja (by rw [← HG.out, ← HG.out]; exact hl)]
            case measure => simp [intOf]; omega
          · have hl : ltInt (G j) (G (j - 1)) = false := by assumption
            go_roundw
            case rel => exact OUT.out (Or.inr (by rw [← HG.out, ← HG.out]; exact hl)) nq
            case measure => simp [intOf]; omega
        · go_quiet (first | (go_at_call 198; refine Calls.quiet_of_same (less_u _ _ _)))
          go_wp2
          go_roundw
          case rel => exact OUT.out (Or.inl (by omega)) nq
          case measure => simp [intOf]; omega
    · have hge : ¬ i < b := by assumption
      go_end0
      exact ⟨rfl, n, by unfold insertionSort; rw [← HO.out, outer_end _ _ _ _ _ hge]⟩
end Go.Proofs.YtcbfjmjphpoimaaGreatDoor
namespace Go.Proofs.YtcbfjmjphpoimaaGreatDoor
open Go.RowKit Go.Sort
set_option maxRecDepth 100000 in
set_option maxHeartbeats 1000000 in
theorem bits_0 (w : World) : Calls Tryz.prog 202 #[.int .u64 0] w fun e w' => (∃ k : Int, e = .returned (.int .i64 k)) ∧ w' = w := by
  go_enter Tryz.func202, Tryz.ntmps202
  go_wp2
  go_ret
  exact ⟨⟨_, rfl⟩, rfl⟩
set_option maxRecDepth 100000 in
set_option maxHeartbeats 1000000 in
theorem bits_1 (w : World) : Calls Tryz.prog 202 #[.int .u64 1] w fun e w' => (∃ k : Int, e = .returned (.int .i64 k)) ∧ w' = w := by
  go_enter Tryz.func202, Tryz.ntmps202
  go_wp2
  go_ret
  exact ⟨⟨_, rfl⟩, rfl⟩
set_option maxRecDepth 100000 in
set_option maxHeartbeats 1000000 in
theorem bits_2 (w : World) : Calls Tryz.prog 202 #[.int .u64 2] w fun e w' => (∃ k : Int, e = .returned (.int .i64 k)) ∧ w' = w := by
  go_enter Tryz.func202, Tryz.ntmps202
  go_wp2
  go_ret
  exact ⟨⟨_, rfl⟩, rfl⟩
set_option maxRecDepth 100000 in
set_option maxHeartbeats 1000000 in
theorem bits_3 (w : World) : Calls Tryz.prog 202 #[.int .u64 3] w fun e w' => (∃ k : Int, e = .returned (.int .i64 k)) ∧ w' = w := by
  go_enter Tryz.func202, Tryz.ntmps202
  go_wp2
  go_ret
  exact ⟨⟨_, rfl⟩, rfl⟩
set_option maxRecDepth 100000 in
set_option maxHeartbeats 1000000 in
theorem bits_4 (w : World) : Calls Tryz.prog 202 #[.int .u64 4] w fun e w' => (∃ k : Int, e = .returned (.int .i64 k)) ∧ w' = w := by
  go_enter Tryz.func202, Tryz.ntmps202
  go_wp2
  go_ret
  exact ⟨⟨_, rfl⟩, rfl⟩
set_option maxRecDepth 100000 in
set_option maxHeartbeats 1000000 in
theorem bits_5 (w : World) : Calls Tryz.prog 202 #[.int .u64 5] w fun e w' => (∃ k : Int, e = .returned (.int .i64 k)) ∧ w' = w := by
  go_enter Tryz.func202, Tryz.ntmps202
  go_wp2
  go_ret
  exact ⟨⟨_, rfl⟩, rfl⟩
set_option maxRecDepth 100000 in
set_option maxHeartbeats 1000000 in
theorem bits_6 (w : World) : Calls Tryz.prog 202 #[.int .u64 6] w fun e w' => (∃ k : Int, e = .returned (.int .i64 k)) ∧ w' = w := by
  go_enter Tryz.func202, Tryz.ntmps202
  go_wp2
  go_ret
  exact ⟨⟨_, rfl⟩, rfl⟩
set_option maxRecDepth 100000 in
set_option maxHeartbeats 1000000 in
theorem bits_7 (w : World) : Calls Tryz.prog 202 #[.int .u64 7] w fun e w' => (∃ k : Int, e = .returned (.int .i64 k)) ∧ w' = w := by
  go_enter Tryz.func202, Tryz.ntmps202
  go_wp2
  go_ret
  exact ⟨⟨_, rfl⟩, rfl⟩
set_option maxRecDepth 100000 in
set_option maxHeartbeats 1000000 in
theorem bits_8 (w : World) : Calls Tryz.prog 202 #[.int .u64 8] w fun e w' => (∃ k : Int, e = .returned (.int .i64 k)) ∧ w' = w := by
  go_enter Tryz.func202, Tryz.ntmps202
  go_wp2
  go_ret
  exact ⟨⟨_, rfl⟩, rfl⟩
set_option maxRecDepth 100000 in
set_option maxHeartbeats 1000000 in
theorem bits_9 (w : World) : Calls Tryz.prog 202 #[.int .u64 9] w fun e w' => (∃ k : Int, e = .returned (.int .i64 k)) ∧ w' = w := by
  go_enter Tryz.func202, Tryz.ntmps202
  go_wp2
  go_ret
  exact ⟨⟨_, rfl⟩, rfl⟩
set_option maxRecDepth 100000 in
set_option maxHeartbeats 1000000 in
theorem bits_10 (w : World) : Calls Tryz.prog 202 #[.int .u64 10] w fun e w' => (∃ k : Int, e = .returned (.int .i64 k)) ∧ w' = w := by
  go_enter Tryz.func202, Tryz.ntmps202
  go_wp2
  go_ret
  exact ⟨⟨_, rfl⟩, rfl⟩
set_option maxRecDepth 100000 in
set_option maxHeartbeats 1000000 in
theorem bits_11 (w : World) : Calls Tryz.prog 202 #[.int .u64 11] w fun e w' => (∃ k : Int, e = .returned (.int .i64 k)) ∧ w' = w := by
  go_enter Tryz.func202, Tryz.ntmps202
  go_wp2
  go_ret
  exact ⟨⟨_, rfl⟩, rfl⟩
set_option maxRecDepth 100000 in
set_option maxHeartbeats 1000000 in
theorem bits_12 (w : World) : Calls Tryz.prog 202 #[.int .u64 12] w fun e w' => (∃ k : Int, e = .returned (.int .i64 k)) ∧ w' = w := by
  go_enter Tryz.func202, Tryz.ntmps202
  go_wp2
  go_ret
  exact ⟨⟨_, rfl⟩, rfl⟩
theorem bits_any (n : Nat) (h : n ≤ 12) (w : World) : Calls Tryz.prog 202 #[.int .u64 n] w fun e w' => (∃ k : Int, e = .returned (.int .i64 k)) ∧ w' = w := by
  match n, h with
  | 0, _ => exact bits_0 w
  | 1, _ => exact bits_1 w
  | 2, _ => exact bits_2 w
  | 3, _ => exact bits_3 w
  | 4, _ => exact bits_4 w
  | 5, _ => exact bits_5 w
  | 6, _ => exact bits_6 w
  | 7, _ => exact bits_7 w
  | 8, _ => exact bits_8 w
  | 9, _ => exact bits_9 w
  | 10, _ => exact bits_10 w
  | 11, _ => exact bits_11 w
  | 12, _ => exact bits_12 w
  | k + 13, h => omega
theorem len_any (n : Nat) (h : n ≤ 12) (w : World) : Calls Tryz.prog 183 #[.int .u64 n] w fun e w' => (∃ k : Int, e = .returned (.int .i64 k)) ∧ w' = w := by
  go_enter Tryz.func183, Tryz.ntmps183
  go_wp2_with (go_at_call 202; refine (bits_any n h _).mono ?_; rintro e w' ⟨⟨k, rfl⟩, rfl⟩)
  go_ret
  exact ⟨⟨_, rfl⟩, rfl⟩
set_option maxRecDepth 100000 in
set_option maxHeartbeats 1000000 in
theorem pdq_u (blk off cap n : Nat) (lim : Int) (d : Array Int) (w : World) (hH : Holds uC w blk off d) (hn : d.size = n) (h12 : n ≤ 12) :
    Calls Tryz.prog 182 #[.slice (some ⟨blk, off, none⟩) n cap, .int .i64 (0 : Nat), .int .i64 n, .int .i64 lim] w fun e w' =>
      e = .returned (.tuple #[]) ∧ ∃ m, w' = putRow uC (Sort.ahead w m) blk off (insertionSort ltInt d 0 n) := by
  have HH := Lib.hid hH
  have d12 : decide ((n : Int) ≤ 12) = true := decide_eq_true (by omega)
  go_enter Tryz.func182, Tryz.ntmps182
  go_wp2
  go_loop [1, 2, 3, 8, 9] (fun s1 s2 s3 s8 s9 => s1 = .int .i64 (0 : Nat) ∧ s2 = .int .i64 n ∧ s3 = .int .i64 lim ∧ s8 = .bool true ∧ s9 = .bool true) (fun _ _ _ _ _ => 0)
  case atStart => exact ⟨rfl, rfl, rfl, rfl, rfl⟩
  case round =>
    obtain ⟨rfl, rfl, rfl, rfl, rfl⟩ := hrel
    go_wp2_with (go_at_call 192; refine (ins_u blk off cap n d _ HH.out hn (by omega)).mono ?_; rintro e w' ⟨rfl, m, hw⟩)
    refine bodyPost_ret (results_none rfl _ _ _) rfl ?_
    exact ⟨rfl, m, rfl⟩
set_option maxHeartbeats 1000000 in
theorem sort_u (blk off cap n : Nat) (d : Array Int) (w : World) (hH : Holds uC w blk off d) (hn : d.size = n) (h12 : n ≤ 12) :
    Calls Tryz.prog 163 #[.slice (some ⟨blk, off, none⟩) n cap] w fun e w' =>
      e = .returned (.tuple #[]) ∧ ∃ m, w' = putRow uC (Sort.ahead w m) blk off (insertionSort ltInt d 0 n) := by
  have HH := Lib.hid hH
  go_enter Tryz.func163, Tryz.ntmps163
  go_wp2_with (first | (go_at_call 183; refine (len_any n h12 _).mono ?_; rintro e w' ⟨⟨k, rfl⟩, rfl⟩) | (go_at_call 182; refine (pdq_u blk off cap n _ d _ HH.out hn h12).mono ?_; rintro e w' ⟨rfl, m, hw⟩))
  go_end0
  exact ⟨rfl, m, rfl⟩
/-! No row at all. -/
theorem ins_u0 (a : Option Addr) (c : Nat) (w : World) : Calls Tryz.prog 192 #[.slice a 0 c, .int .i64 0, .int .i64 0] w fun e w' => e = .returned (.tuple #[]) ∧ w' = w := by
  go_enter Tryz.func192, Tryz.ntmps192
  go_wp2
  go_loop [6] (fun i => i = .int .i64 1) (fun _ => 0)
  case atStart => rfl
  case round =>
    subst hrel
    go_wp2
    go_end0
    exact ⟨rfl, rfl⟩
set_option maxRecDepth 100000 in
theorem pdq_u0 (a : Option Addr) (c : Nat) (lim : Int) (w : World) : Calls Tryz.prog 182 #[.slice a 0 c, .int .i64 0, .int .i64 0, .int .i64 lim] w fun e w' => e = .returned (.tuple #[]) ∧ w' = w := by
  go_enter Tryz.func182, Tryz.ntmps182
  go_wp2
  go_loop [1, 2, 3, 8, 9] (fun s1 s2 s3 s8 s9 => s1 = .int .i64 0 ∧ s2 = .int .i64 0 ∧ s3 = .int .i64 lim ∧ s8 = .bool true ∧ s9 = .bool true) (fun _ _ _ _ _ => 0)
  case atStart => exact ⟨rfl, rfl, rfl, rfl, rfl⟩
  case round =>
    obtain ⟨rfl, rfl, rfl, rfl, rfl⟩ := hrel
    go_wp2_with (go_at_call 192; refine (ins_u0 a c _).mono ?_; rintro e w' ⟨rfl, rfl⟩)
    refine bodyPost_ret (results_none rfl _ _ _) rfl ?_
    exact ⟨rfl, rfl⟩
theorem sort_u0 (a : Option Addr) (c : Nat) (w : World) : Calls Tryz.prog 163 #[.slice a 0 c] w fun e w' => e = .returned (.tuple #[]) ∧ w' = w := by
  go_enter Tryz.func163, Tryz.ntmps163
  go_wp2_with (first | (go_at_call 183; refine (len_any 0 (by omega) _).mono ?_; rintro e w' ⟨⟨k, rfl⟩, rfl⟩) | (go_at_call 182; refine (pdq_u0 a c _ _).mono ?_; rintro e w' ⟨rfl, rfl⟩))
  go_end0
  exact ⟨rfl, rfl⟩
end Go.Proofs.YtcbfjmjphpoimaaGreatDoor
namespace Go.Proofs.YtcbfjmjphpoimaaGreatDoor.V2
open Go Go.RowKit Go.Maps Go.Sort
theorem lawU : Keyed Tryz.prog 23 := int_keyed Tryz.underlying23
def CollU {H : Type} (D0 : DataW H) (left : Lit → Bool) (ss : List Int) : Prop := ss.Nodup ∧ ∀ x, x ∈ ss ↔ (has D0 (.int .u32 x) = true ∧ left (.int .u32 x) = false)
theorem CollU.start {H : Type} (D0 : DataW H) : CollU D0 (has D0) [] := ⟨List.nodup_nil, fun x => by cases has D0 (.int .u32 x) <;> simp⟩
theorem CollU.step {H : Type} {D0 : DataW H} {left : Lit → Bool} {ss : List Int} (h : CollU D0 left ss) {x : Int} {y : DataW H} (hlk : left (.int .u32 x) = true) (hat : ∀ zd, D0.atKey (.int .u32 x) zd = y) :
    CollU D0 (fun z => left z && !z.sameKey (.int .u32 x)) (ss ++ [x]) := by
  have hh : has D0 (.int .u32 x) = true := has_true_of_atKey hat
  have hnew : x ∉ ss := fun hx => by have := ((h.2 x).1 hx).2; rw [hlk] at this; cases this
  refine ⟨List.nodup_append.2 ⟨h.1, by simp, fun a ha b hb => by simp at hb; subst hb; exact fun e => hnew (e ▸ ha)⟩, fun y => ?_⟩
  by_cases hy : y = x
  · subst hy; simp [hh, Lit.sameKey]
  · simp [h.2 y, hy, Lit.sameKey]
def KeysU {H : Type} (D0 : DataW H) (ss : List Int) : Prop := ss.Nodup ∧ ∀ x, x ∈ ss ↔ has D0 (.int .u32 x) = true
theorem CollU.all {H : Type} {D0 : DataW H} {left : Lit → Bool} {ss : List Int} (h : CollU D0 left ss) (hl : ∀ kl, left kl = false) : KeysU D0 ss := ⟨h.1, fun x => by rw [h.2 x, hl]; simp⟩
set_option maxRecDepth 100000 in
set_option maxHeartbeats 1000000 in
theorem keysU {H : Type} (n : Nat) (hn : 1 ≤ n) (l Bm o b nn : Nat) (D0 : DataW H) {R : Value → Option (DataW H × List MemPlace)} (J Jx : List Int → World → Prop)
    (hY : ∀ pre x W, J pre W → pre.length < Maps.size D0 → YieldAt Fence.wide (n - 1) Tryz.prog l #[uC x] W fun e W' => (e = .returned (.bool true) ∧ J (pre ++ [x]) W' ∧ KeepsWalks W W') ∨ (e = .returned (.bool false) ∧ Jx (pre ++ [x]) W'))
    (W : World) (hJ : AbidesFrom W.heap.size J) (hm : W.cell? ⟨Bm, o, none⟩ = some (.map (some b))) (hown : W.ownsMap Tryz.prog 23 R b nn D0) (h0 : J [] W) :
    CallsIn Fence.wide n Tryz.prog 164 #[.func (.yield l) #[] #[], .pointer (some ⟨Bm, o, none⟩)] W fun e W' => (∃ v, e = .returned v) ∧ ((∃ ss, KeysU D0 ss ∧ J ss W') ∨ (∃ pre, True ∧ Jx pre W')) := by
  refine callsIn_of_wp Tryz.func164 rfl trivial ?_ rfl
  simp only [Tryz.ntmps164, List.size_toArray, List.length_cons, List.length_nil, Nat.reduceAdd, Nat.reduceSub, Array.replicate_succ, Array.replicate_zero, List.push_toArray, List.append_toArray, List.nil_append, List.cons_append]
  gi_wp2_with (first
    | (gi_at_range; refine wpListIn_range_own _ rfl _ 240 rfl 23 291 lawU Tryz.underlying240 _ b nn _ rfl hown ?_; intro w0 hrg0 hg0 hs0)
    | gi_in)
  go_frame
  gi_loopw [3] (fun _ wr => ∃ (left : Lit → Bool) (cnt : Nat) (ss : List Int), wr.ranges Tryz.prog 23 R b W.heap.size nn D0 left cnt ∧ ss.length + cnt ≤ Maps.size D0 ∧ CollU D0 left ss ∧ J ss wr)
    (fun _ wr => wr.rangeLeft b W.heap.size)
  case atStart =>
    exact ⟨_, _, [], hrg0, by simp, CollU.start D0, hJ [] W w0 none h0 hg0 (fun r e => by cases e)⟩
  case round =>
    obtain ⟨left, cnt, ss, hrg, hcs, hC, hJs⟩ := hrel
    gi_wp2_with (first
      | (gi_at_next; refine wpListIn_next_ranges _ rfl _ rfl 23 lawU R uC id (fun key kl hk => by obtain ⟨x, hx, _⟩ := Maps.keyOf_int_inv Tryz.underlying23 hk; exact ⟨x, hx⟩) (fun v _ _ => ⟨v, rfl⟩) b W.heap.size nn _ _ _ rfl hrg ?_ ?_)
      | gi_in)
    · intro hc0 hl0
      gi_wp2
      go_end0
      exact ⟨⟨_, rfl⟩, .inl ⟨ss, hC.all hl0, hJs⟩⟩
    · intro x c kl yd yp w2 cnt2 hkey hlk hv hat hrg2 hlt hg2 hs2 hen
      obtain ⟨x', ex, rfl, _⟩ := Maps.keyOf_int_inv Tryz.underlying23 hkey
      obtain rfl : x = x' := by simpa [uC] using ex
      have hJ2 : J ss w2 := hJ ss wr w2 (some W.heap.size) hJs hg2 (fun r e => by cases e; exact ⟨Nat.le_refl _, hrg.iter_walk⟩)
      obtain ⟨fn, tmps, assign, body, hy, hR⟩ := hY ss x w2 hJ2 (by omega)
      unfold uC at hy
      clear hs2
      gi_wp2
      refine hR.mono ?_
      rintro e W3 (⟨rfl, hJ3, hk3⟩ | ⟨rfl, hJx3⟩)
      · gi_wp2
        have hrg3 := hrg2.of_walks hk3
        go_roundw
        case rel => exact ⟨_, cnt2, ss ++ [x], hrg3, by simp; omega, hC.step hlk hat, hJ3⟩
        case measure => rw [hrg3.left_eq, hrg.left_eq]; exact hlt
      · gi_wp2
        refine bodyPost_ret (results_none rfl _ _ _) rfl ?_
        exact ⟨⟨_, rfl⟩, .inr ⟨_, trivial, hJx3⟩⟩
theorem keysU_stops {H : Type} (n : Nat) (hn : 1 ≤ n) (Bm o b nn : Nat) (D0 : DataW H) {R : Value → Option (DataW H × List MemPlace)} (w : World) (hBm : Bm < w.heap.size)
    (hm : w.cell? ⟨Bm, o, none⟩ = some (.map (some b))) (hown : w.ownsMap Tryz.prog 23 R b nn D0) :
    SeqStopsA Fence.wide n Tryz.prog 164 #[.pointer (some ⟨Bm, o, none⟩)] (fun x : Int => #[uC x]) (KeysU D0) (fun _ => True) (Maps.size D0) w := fun l J Jx W hW hJ _ hY h0 => by
  have hown' : W.ownsMap Tryz.prog 23 R b nn D0 := by
    have hbl := hown.lt
    obtain ⟨es, clock, hb, Ft, hs, hD⟩ := hown
    exact ⟨es, clock, (hW.block b hbl).trans hb, Ft, hs, hD⟩
  exact keysU n hn l Bm o b nn D0 J Jx hY W hJ ((hW.cell (p := ⟨Bm, o, none⟩) hBm).trans hm) hown' h0
def keysI : List (AV × AV) → Option (List Int)
  | [] => some []
  | p :: l => match p.1 with
    | .int k n => match k with
      | .u32 => match keysI l with
        | some m => some (n :: m)
        | none => none
      | _ => none
    | _ => none
theorem keysI_spec {ρ : Ren} : ∀ {l : List (AV × AV)} {ks : List Int} {es : List MapEntry}, keysI l = some ks → MapL ρ l es → es.map (·.key) = ks.map uC
  | [], ks, es, h, hm => by cases h; rw [show es = [] from hm]; rfl
  | p :: l, ks, es, h, hm => by
    obtain ⟨e, m, rfl, h1, h2, h3⟩ := hm
    obtain ⟨a, b⟩ := p
    cases a <;> first | (cases h; done) | skip
    rename_i k n
    cases k <;> first | (cases h; done) | skip
    simp only [keysI] at h
    cases hk : keysI l <;> rw [hk] at h
    · cases h
    rename_i m'
    cases h
    have h1 : e.key = .int .u32 n := h1
    rw [List.map_cons, List.map_cons, keysI_spec hk h3, h1]; rfl
def inU (l : List Int) : Bool := l.all fun n => decide (0 ≤ n) && decide (n < 4294967296)
def RNil (_ : Value) : Option (DataW Nat × List MemPlace) := some (.nil, [])
theorem uC_inj {a b : Int} (h : uC a = uC b) : a = b := by simpa [uC] using h
theorem own_ofU {ρ : Ren} {l : List (AV × AV)} {c : Nat} {W : World} (hM : MR ρ l W.heap[c]?) {ks : List Int} (hk : keysI l = some ks) (hn : ks.Nodup) (hs : inU ks = true) (hl : ks.length ≤ 1000000) :
    ∃ D : DataW Nat, W.ownsMap Tryz.prog 23 RNil c ks.length D ∧ (∀ x, has D (.int .u32 x) = true ↔ x ∈ ks) ∧ Maps.size D = ks.length := by
  obtain ⟨es, ck, hb, h1, h2, h3⟩ := hM
  have hkey := keysI_spec hk h1
  have hlen : es.size = ks.length := by have := congrArg List.length hkey; simpa using this
  have hrd : ∀ x ∈ es.toList, ∃ s, s ∈ ks ∧ x.key = uC s ∧ Go.WideElems.rd Tryz.prog 23 RNil x = some (.int .u32 s, .nil) := fun x hx => by
    have : x.key ∈ ks.map uC := by rw [← hkey]; exact List.mem_map_of_mem hx
    obtain ⟨s, hs1, hs2⟩ := List.mem_map.1 this
    refine ⟨s, hs1, hs2.symm, ?_⟩
    have hsl := List.all_eq_true.1 hs s hs1
    simp only [Bool.and_eq_true, decide_eq_true_eq] at hsl
    have hko : keyOf Tryz.prog 23 (uC s) = some (.int .u32 s) := keyOf_int_mk Tryz.underlying23 (by simp only [Lit.wf, Bool.and_eq_true, decide_eq_true_eq]; exact ⟨hsl.1, by show s ≤ 4294967295; omega⟩)
    exact Go.WideElems.rd_mk (yv := (.nil, [])) (by rw [← hs2]; exact hko) rfl
  have F : Go.WideElems.Fit Tryz.prog 23 RNil es ck := ⟨by rw [hlen]; simp only [maxLen]; omega, ⟨h3, nodup_born h2, by rw [hkey]; exact List.pairwise_map.2 (hn.imp fun {a b} hab e => hab (uC_inj e))⟩, fun x hx => by obtain ⟨s, _, _, h⟩ := hrd x hx; exact ⟨_, h⟩⟩
  have e2 : ∀ x ∈ es.toList, ∃ s, s ∈ ks ∧ x.key = uC s ∧ (Go.WideElems.rg Tryz.prog 23 RNil x).1 = .int .u32 s := fun x hx => by
    obtain ⟨s, h4, h5, h6⟩ := hrd x hx
    exact ⟨s, h4, h5, by rw [Go.WideElems.rg_of h6]⟩
  refine ⟨_, ⟨es, ck, hb, F, Nat.le_of_eq hlen, rfl⟩, fun x => ?_, ?_⟩
  · rw [has_eq, List.any_eq_true]
    constructor
    · rintro ⟨p, hp, hq⟩
      have hp := (WideShapes.sorted_perm _).mem_iff.1 hp
      obtain ⟨e, he, rfl⟩ := List.mem_map.1 hp
      obtain ⟨s, h4, _, h6⟩ := e2 e he
      rw [h6] at hq
      have : s = x := by simpa [Lit.sameKey] using hq
      rw [← this]; exact h4
    · intro hx
      have : uC x ∈ es.toList.map (·.key) := by rw [hkey]; exact List.mem_map_of_mem hx
      obtain ⟨e, he, hke⟩ := List.mem_map.1 this
      obtain ⟨s, h4, h5, h6⟩ := e2 e he
      have hsx : s = x := uC_inj (h5.symm.trans hke)
      refine ⟨_, (WideShapes.sorted_perm _).mem_iff.2 (List.mem_map_of_mem he), ?_⟩
      rw [h6, hsx]; simp [Lit.sameKey]
  · show ((es.toList.map (Go.WideElems.rg Tryz.prog 23 RNil)).foldr DataW.insert []).length = _
    rw [(WideShapes.sorted_perm _).length_eq, List.length_map, Array.length_toList, hlen]
end Go.Proofs.YtcbfjmjphpoimaaGreatDoor.V2
namespace Go.Proofs.YtcbfjmjphpoimaaGreatDoor.V2
open Go Go.RowKit Go.Maps Go.Sort Go.Shelf
attribute [local go_sem] Oper.semAt_some
theorem infoU : (Tryz.prog.info? 23).map (fun i => (i.zero, i.size, i.bytes)) = some (some (.int .u32 0), 1, 4) := by kernel_rfl
def seqU (Bm o : Nat) : Value := .func (.func 164) #[] #[.pointer (some ⟨Bm, o, none⟩)]
set_option maxRecDepth 100000 in
set_option maxHeartbeats 2000000 in
theorem appendU {H : Type} (Bm o b nn : Nat) (D0 : DataW H) {R : Value → Option (DataW H × List MemPlace)} (w : World) (hBm : Bm < w.heap.size)
    (hm : w.cell? ⟨Bm, o, none⟩ = some (.map (some b))) (hown : w.ownsMap Tryz.prog 23 R b nn D0) (hmax : Maps.size D0 ≤ 1000000) :
    CallsIn Fence.wide 5 Tryz.prog 181 #[.slice none 0 0, seqU Bm o] w fun e W' => ∃ (v : Value) (ss : List Int), e = .returned v ∧ KeysU D0 ss ∧ W'.ownsRow w.heap.size 23 1 v ss.length (ss.map uC) ∧ (v = .slice none 0 0 ↔ ss = []) ∧ RowKit.Below w.heap.size w W' := by
  obtain ⟨i0, hi, hz0, hz1, hz2⟩ := info_parts infoU
  unfold seqU
  refine callsIn_of_wp_marks (n := 5) Tryz.func181 rfl trivial ?_ rfl
  simp only [Tryz.ntmps181, List.size_toArray, List.length_cons, List.length_nil, Nat.reduceAdd, Nat.reduceSub, Array.replicate_succ, Array.replicate_zero, List.push_toArray, List.append_toArray, List.nil_append, List.cons_append]
  gi_wp2
  have bO := Boxed.new w 80 (.slice none 0 0)
  have hB0 : RowKit.Below w.heap.size w (w.alloc (.cells #[.slice none 0 0] 80)) := (RowKit.Below.refl _ w).alloc (Nat.le_refl _) _
  have hown1 : (w.alloc (.cells #[.slice none 0 0] 80)).ownsMap Tryz.prog 23 R b nn D0 := by
    have hbl := hown.lt
    obtain ⟨es, clock, hb, Ft, hs, hD⟩ := hown
    exact ⟨es, clock, (hB0.block b hbl).trans hb, Ft, hs, hD⟩
  refine wpIn_rangeFunc_ownF (F := Fence.wide) (n := 5) rfl (by decide) (gf := 164) (lb := #[.pointer (some ⟨Bm, o, none⟩)]) rfl trivial (enters_of Tryz.func164 (by kernel_rfl) rfl)
    (keysU_stops 4 (by omega) Bm o b nn D0 _ (by simp; omega) ((hB0.cell (p := ⟨Bm, o, none⟩) hBm).trans hm) hown1) walksK_t walksK_b (RowKit.Below.refl _ _) (fun _ => rfl)
    (fun pre W => (∃ v, Boxed W w.heap.size 80 v ∧ W.ownsRow w.heap.size 23 1 v pre.length (pre.map uC) ∧ (v = .slice none 0 0 ↔ pre = [])) ∧ RowKit.Below w.heap.size w W)
    (fun _ _ _ => False)
    (OwnFrom.and (Own.from (holdsRow_own w.heap.size w.heap.size 80 23 1 (fun pre => pre.length) (fun pre => pre.map uC) (fun pre v => v = .slice none 0 0 ↔ pre = [])) _) (ownFrom_below (Nat.le_refl _) (by simp)))
    (fun _ _ _ _ _ hs _ _ => hs)
    ⟨⟨_, bO, World.ownsRow_nil _ _ _ _, by simp⟩, hB0⟩
    (fun x => { tmps := #[.slice none 0 0, .func (.func 164) #[] #[.pointer (some ⟨Bm, o, none⟩)], .pointer (some ⟨w.heap.size, 0, none⟩), undef, .slice none 0 0, .int .u32 x, .func (.func 164) #[] #[.pointer (some ⟨Bm, o, none⟩)], .int .u32 x, undef, undef, undef, undef, undef], defers := [] }) ?assign ?body ?done ?stop
  case assign =>
    intro l x W K hK
    gi_wp2
    exact hK
  case body =>
    rintro l pre x W ⟨⟨v, hv, hrow, hnil⟩, hB⟩ hlt
    have hc := hv.cell
    gi_wp2_with (gi_at_builtin; refine wpListIn_append_own _ rfl _ _ 80 rfl w.heap.size 23 i0 (.int .u32 0) 1 4 Tryz.underlying80 hi hz0 hz1 hz2 rfl (by decide) _ _ _ rfl (hrow.alloc _) ⟨W.heap.size, 0, none⟩ 1 1 [.int .u32 x] rfl rfl (cell_one_new _ _ _) (by simp [Value.oneCell']) (by unfold maxLen; omega) (by omega) (by have := hB.size; simp; omega) ?_; intro v' w1 hown' hgrow _; obtain ⟨g', cap', rfl⟩ := ownsRow_succ hown'; obtain ⟨hv1, hv2, hr2, hk2, hb2⟩ := hv.appended (by decide) hrow hB.size (Nat.le_refl _) hown' hgrow; have hc1 := hv1.cell; have hf1 := hv1.frozen)
    exact ⟨hk2, hk2.walks, ⟨_, hv2, by simpa [uC] using hr2, by simp⟩, hB.trans hb2⟩
  case done =>
    rintro D ys W hD hS ⟨⟨v, hv, hrow, hnil⟩, hB⟩ hK
    have hc := hv.cell
    gi_wp2
    refine ⟨by simp, .inl ⟨_, _, rfl, run_takeDeferred hK, ?_⟩⟩
    exact ⟨_, results_tmp rfl _ _ _, v, ys, rfl, hS, ownsRow_putObj hrow _ hK rfl, hnil, hB.trans (belowK_b (w := w) (Nat.le_refl _) W D _ _ (by simp at hD; omega) hK rfl rfl)⟩
  case stop =>
    rintro D c pre W _ _ h _
    exact h.elim
theorem collectU {H : Type} (Bm o b nn : Nat) (D0 : DataW H) {R : Value → Option (DataW H × List MemPlace)} (w : World) (hBm : Bm < w.heap.size)
    (hm : w.cell? ⟨Bm, o, none⟩ = some (.map (some b))) (hown : w.ownsMap Tryz.prog 23 R b nn D0) (hmax : Maps.size D0 ≤ 1000000) :
    Calls Tryz.prog 162 #[seqU Bm o] w fun e W' => ∃ (v : Value) (ss : List Int), e = .returned v ∧ KeysU D0 ss ∧ W'.ownsRow w.heap.size 23 1 v ss.length (ss.map uC) ∧ (v = .slice none 0 0 ↔ ss = []) ∧ RowKit.Below w.heap.size w W' := by
  have hA := callsIn_wide.1 (appendU Bm o b nn D0 w hBm hm hown hmax)
  unfold seqU at hA ⊢
  go_enter Tryz.func162, Tryz.ntmps162
  go_wp2_with (go_at_call 181; refine hA.mono ?_; rintro e w' ⟨v, ss, rfl, hS, hrow, hnil, hb⟩)
  go_ret
  exact ⟨v, ss, rfl, hS, hrow, hnil, hb⟩
theorem holdsU {w : World} {g : Nat} {cur : Array Value} {e : TypeId} {ss : List Int} (hb : w.heap[g]? = some (.cells cur e (0, 0))) (ht : cur.toList.take ss.length = ss.map uC) : Holds uC w g 0 ss.toArray := fun j hj => by
  have hj' : j < ss.length := by simpa using hj
  have h1 : cur[j]? = (ss.map uC)[j]? := by rw [← ht, List.getElem?_take_of_lt hj', Array.getElem?_toList]
  refine ⟨?_, by simp [World.frozen?, hb]⟩
  simp [World.cell?, hb, h1, hj']
theorem takeU (cur : Array Value) (ts : List Int) (h : ts.length ≤ cur.size) : (putCells uC 0 ts.toArray cur).toList.take ts.length = ts.map uC := by
  apply List.ext_getElem?
  intro j
  by_cases hj : j < ts.length
  · rw [List.getElem?_take_of_lt hj, Array.getElem?_toList]
    simp [putCells, hj, show j < cur.size by omega]
  · rw [List.getElem?_take_eq_none (by omega), List.getElem?_eq_none (by simp; omega)]
theorem heapU {w : World} {g n : Nat} {cur : Array Value} {e : TypeId} {fr : Nat × Nat} (d : Array Int) (hb : w.heap[g]? = some (.cells cur e fr)) :
    (putRow uC (Sort.ahead w n) g 0 d).heap[g]? = some (.cells (putCells uC 0 d cur) e fr) := by
  simp [putRow, mapBlock, Sort.ahead, Array.getElem?_modify, hb, onCells]
theorem growsU {w : World} {g n : Nat} (d : Array Int) : w.grownBy (putRow uC (Sort.ahead w n) g 0 d) (some g) :=
  ⟨rfl, rfl, rfl, by simp, fun k _ hne => by
    have : g ≠ k := fun e => hne (by rw [e])
    simp [putRow, mapBlock, Sort.ahead, Array.getElem?_modify, this]⟩
def srtL (ss : List Int) : List Int := (insertionSort ltInt ss.toArray 0 ss.length).toList
theorem srtL_length (ss : List Int) : (srtL ss).length = ss.length := by
  have h := (insertionSort_holds (lt := ltInt) swo_ltInt ss.toArray 0 ss.length (Nat.zero_le _) (by simp)).1.1
  unfold srtL
  simpa using h
theorem srtL_eq (ss : List Int) : srtL ss = ss.mergeSort (fun x y => !ltInt y x) := by
  obtain ⟨h1, h2⟩ := insertionSort_holds (lt := ltInt) swo_ltInt ss.toArray 0 ss.length (Nat.zero_le _) (by simp)
  have := sorted_unique_holds swo_ltInt (fun x y h1 h2 => by simp only [ltInt, decide_eq_false_iff_not] at h1 h2; omega) ss.toArray _ (by simpa using h1) (by simpa using h2)
  simpa [srtL] using this
set_option maxHeartbeats 1000000 in
theorem sortedU {H : Type} (Bm o b nn : Nat) (D0 : DataW H) {R : Value → Option (DataW H × List MemPlace)} (w : World) (hBm : Bm < w.heap.size)
    (hm : w.cell? ⟨Bm, o, none⟩ = some (.map (some b))) (hown : w.ownsMap Tryz.prog 23 R b nn D0) (hmax : Maps.size D0 ≤ 12) (hK : ∀ ss, KeysU D0 ss → ss.length ≤ 12) :
    Calls Tryz.prog 144 #[seqU Bm o] w fun e W' => ∃ (v : Value) (ss : List Int), e = .returned v ∧ KeysU D0 ss ∧ W'.ownsRow w.heap.size 23 1 v ss.length ((srtL ss).map uC) ∧ (v = .slice none 0 0 ↔ ss = []) ∧ RowKit.Below w.heap.size w W' := by
  have hA := collectU Bm o b nn D0 w hBm hm hown (by omega)
  unfold seqU at hA ⊢
  go_enter Tryz.func144, Tryz.ntmps144
  go_wp2_with (go_at_call 162; refine hA.mono ?_; rintro e w1 ⟨v, ss, rfl, hS, hrow, hnil, hb⟩)
  have hn12 := hK ss hS
  rcases hrow.2 with ⟨rfl, h0⟩ | ⟨g, cap, cur, rfl, hg, hgb, hnc, hcm, hcs, htk⟩
  · have hss : ss = [] := hnil.1 rfl
    subst hss
    go_wp2_with (go_at_call 163; refine (sort_u0 none 0 _).mono ?_; rintro e w2 ⟨rfl, rfl⟩)
    go_ret
    exact ⟨_, [], rfl, hS, by rw [List.eq_nil_of_length_eq_zero (srtL_length [])]; exact hrow, by simp, hb⟩
  · have hH := Lib.hid (holdsU hgb (by rw [Nat.mul_one] at htk; exact htk))
    have HS := Lib.hid hS
    have HB := Lib.hid hb
    have HG := Lib.hid hgb
    have HN := Lib.hid hnil
    clear hS hb hnil htk hrow hgb
    go_wp2_with (go_at_call 163; refine (sort_u g 0 cap ss.length ss.toArray _ hH.out (by simp) hn12).mono ?_; rintro e w2 ⟨rfl, m, rfl⟩)
    go_ret
    refine ⟨_, ss, rfl, HS.out, ⟨by simp [srtL_length], .inr ⟨g, cap, _, rfl, hg, heapU _ HG.out, hnc, hcm, by simp [putCells, hcs], ?_⟩⟩, HN.out, HB.out.grown (growsU _) HB.out.size (fun k e => by cases e; exact hg)⟩
    have e1 : (insertionSort ltInt ss.toArray 0 ss.length) = (srtL ss).toArray := by simp [srtL]
    have hl := srtL_length ss
    rw [e1, Nat.mul_one, ← hl]
    exact takeU cur _ (by rw [hcs]; omega)
end Go.Proofs.YtcbfjmjphpoimaaGreatDoor.V2
