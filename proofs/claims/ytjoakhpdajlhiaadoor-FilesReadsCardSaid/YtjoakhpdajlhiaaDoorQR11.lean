/- Part 11 of the proof: texts of the proof. -/
import Derived.Test.YtjoakhpdajlhiaaDoorQR10
import Derived.Laws.Externs
import Derived.MapKept
namespace Go.Proofs.YtjoakhpdajlhiaaDoor.V2.S
open Go
set_option linter.unusedVariables false
noncomputable section
def p4 (O : Oz) : Phi → HF := fnQ (aLet fun v1 => (aEnd (cWr X2 (.b false) (cLet (o1 O.lv (rdV v1)) fun v2 => (cLet (nL (O.pq .minI) [(rdV v2), (rdV (.n .i64 3000))]) fun v3 => (cLet (oVz O.sv 1 (rdV v1) none (some (rdV v3)) none) fun v4 => (cLet (oCallS 21 [(rdV v4)]) fun v5 => (cLet (o1 (exG 0) (rdV v5)) fun v6 => (cLet (o1 (exG 1) (rdV v5)) fun v7 => (cLet (oCallS 22 [(rdV v4)]) fun v8 => (cLet (o1 (exG 0) (rdV v8)) fun v9 => (cLet (o1 (exG 1) (rdV v8)) fun v10 => (cLet (o2 O.eq (rdV v7) (rdV v10)) fun v11 => (cLet (oG true (rdV v11) (oV (rdV v6))) fun v12 => (cLet (oG true (rdV v11) (o2 (eqQ1 false .ptr) (rdV v12) (rdV (.o .ptr)))) fun v13 => (cLet (oG true (rdV v11) (oV (rdV v9))) fun v14 => (cLet (oG true (rdV v11) (o2 (eqQ1 false .ptr) (rdV v14) (rdV (.o .ptr)))) fun v15 => (cLet (oG true (rdV v11) (o2 (eqQ1 false .bool) (rdV v13) (rdV v15))) fun v16 => (cLet (o3 pkF (rdV v11) (rdV v16) (rdV (.b false))) fun v17 => (cLet (oG true (rdV v17) (oV (rdV v6))) fun v18 => (cLet (oG true (rdV v17) (o2 (eqQ1 false .ptr) (rdV v18) (rdV (.o .ptr)))) fun v19 => (cLet (oG true (rdV v17) (oV (rdV v19))) fun v20 => (cLet (oG false (rdV v20) (oV (rdV v6))) fun v21 => (cLet (oG false (rdV v20) (oV (rdV v9))) fun v22 => (cLet (oG false (rdV v20) (oCallS 23 [(rdV v21), (rdV v22)])) fun v23 => (cLet (oG true (rdV v17) (o3 pkF (rdV v20) (rdV (.b true)) (rdV v23))) fun v24 => (cLet (o3 pkF (rdV v17) (rdV v24) (rdV (.b false))) fun v25 => (cLet (oG true (rdV v25) (oCallS 18 [])) fun v26 => (cLet (o3 pkF (rdV v25) (rdV v26) (rdV (.b false))) fun v27 => (cWr X2 v27 cRet)))))))))))))))))))))))))))) [vT R2]))
theorem k4 : QeOk ⟨4, eZ Tryd.f4, p4 zO⟩ := qz 44 1 [2] Tryd.func4 (by kernel_rfl) (by kernel_rfl)
def p22 (O : Oz) : Phi → HF := fnQ (aLet fun v1 => (aEnd (cWr X2 (.o .ptr) (cWr X3 (.n .i64 0) (cLet (oCallS 45 []) fun v2 => (cLet (oCallS 46 [(rdV v1), (rdV (.n .i64 0))]) fun v3 => (cLet (o1 (exG 0) (rdV v3)) fun v4 => (cLet (o1 (exG 1) (rdV v3)) fun v5 => (cWr X6 v5 (cLet (o2 O.lt (rdV v5) (rdV (.n .i64 0))) fun v6 => (cLet (oG false (rdV v6) (oV (rdV v5))) fun v7 => (cLet (oG false (rdV v6) (o2 O.ad (rdV v7) (rdV (.n .i64 2)))) fun v8 => (cLet (oG false (rdV v6) (oV (rdV v1))) fun v9 => (cLet (oG false (rdV v6) (o1 O.lv (rdV v9))) fun v10 => (cLet (oG false (rdV v6) (o2 O.gt (rdV v8) (rdV v10))) fun v11 => (cLet (o3 pkF (rdV v6) (rdV (.b true)) (rdV v11)) fun v12 => (cSeq (cCond (rdV v12) (cWr X2 (.o .ptr) (cWr X3 (.n .i64 4) cRet)) cSkip) (cLet (o2 (O.ix 1) (rdV v1) (rdV v5)) fun v13 => (cLet (m1 O.ld (rdV v13)) fun v14 => (cLet (o1 (O.cv .i64) (rdV v14)) fun v15 => (cLet (o2 O.mt (rdV (.n .i64 256)) (rdV v15)) fun v16 => (cLet (o2 O.ad (rdV v5) (rdV (.n .i64 1))) fun v17 => (cLet (o2 (O.ix 1) (rdV v1) (rdV v17)) fun v18 => (cLet (m1 O.ld (rdV v18)) fun v19 => (cLet (o1 (O.cv .i64) (rdV v19)) fun v20 => (cLet (o2 O.ad (rdV v16) (rdV v20)) fun v21 => (cLet (o2 O.ad (rdV v5) (rdV (.n .i64 2))) fun v22 => (cWr X6 v22 (cWr X8 (.b false) (cWr X9 (.n .i64 0) (cSeq (cBlk 0 (O.lp 1000000 (cLet (oV R9) fun v23 => (cLet (o2 O.lt (rdV v23) (rdV v21)) fun v24 => (cSeq (cCond (rdV v24) cSkip (cExit 0)) (cSeq (cBlk 1 (cLet (oV R6) fun v25 => (cLet (o1 O.lv (rdV v1)) fun v26 => (cLet (o2 O.ge (rdV v25) (rdV v26)) fun v27 => (cSeq (cCond (rdV v27) (cWr X2 (.o .ptr) (cWr X3 (.n .i64 4) cRet)) cSkip) (cLet (oV R6) fun v28 => (cLet (o2 (O.ix 1) (rdV v1) (rdV v28)) fun v29 => (cLet (m1 O.ld (rdV v29)) fun v30 => (cLet (o1 (O.cv .i64) (rdV v30)) fun v31 => (cLet (oV R6) fun v32 => (cLet (o2 O.ad (rdV v32) (rdV (.n .i64 1))) fun v33 => (cLet (oCallS 46 [(rdV v1), (rdV v33)]) fun v34 => (cLet (o1 (exG 0) (rdV v34)) fun v35 => (cLet (o1 (exG 1) (rdV v34)) fun v36 => (cWr X12 v36 (cWr X13 (.s (pack [])) (cLet (o2 O.eq (rdV v31) (rdV (.n .i64 2))) fun v37 => (cSeq (cCond (rdV v37) (cLet (oCallS 46 [(rdV v1), (rdV v36)]) fun v38 => (cLet (o1 (exG 0) (rdV v38)) fun v39 => (cLet (o1 (exG 1) (rdV v38)) fun v40 => (cWr X13 v39 (cWr X12 v40 cSkip))))) cSkip) (cLet (oV R12) fun v41 => (cLet (o2 O.lt (rdV v41) (rdV (.n .i64 0))) fun v42 => (cSeq (cCond (rdV v42) (cWr X2 (.o .ptr) (cWr X3 (.n .i64 4) cRet)) cSkip) (cLet (oV R12) fun v43 => (cWr X6 v43 (cLet (oCallS 47 [(rdV v2), (rdV v35)]) fun v44 => (cLet (o1 (exG 0) (rdV v44)) fun v45 => (cLet (o1 (exG 1) (rdV v44)) fun v46 => (cLet (o2 O.ne (rdV v46) (rdV (.n .i64 0))) fun v47 => (cLet (oG false (rdV v47) (oV (rdV v45))) fun v48 => (cLet (oG false (rdV v47) (oV (rdV v35))) fun v49 => (cLet (oG false (rdV v47) (o2 O.ne (rdV v48) (rdV v49))) fun v50 => (cLet (o3 pkF (rdV v47) (rdV (.b true)) (rdV v50)) fun v51 => (cLet (oG false (rdV v51) (oV (rdV v2))) fun v52 => (cLet (oG false (rdV v51) (oV (rdV v45))) fun v53 => (cLet (oG false (rdV v51) (oCallS 48 [(rdV v52), (rdV v53)])) fun v54 => (cLet (oG false (rdV v51) (o2 O.ne (rdV v54) (rdV (.n .i64 0)))) fun v55 => (cLet (o3 pkF (rdV v51) (rdV (.b true)) (rdV v55)) fun v56 => (cLet (oG false (rdV v56) (oV (rdV v31))) fun v57 => (cLet (oG false (rdV v56) (o2 O.ne (rdV v57) (rdV (.n .i64 1)))) fun v58 => (cLet (oG false (rdV v56) (oV (rdV v58))) fun v59 => (cLet (oG true (rdV v59) (oV (rdV v31))) fun v60 => (cLet (oG true (rdV v59) (o2 O.ne (rdV v60) (rdV (.n .i64 2)))) fun v61 => (cLet (oG false (rdV v56) (o3 pkF (rdV v59) (rdV v61) (rdV (.b false)))) fun v62 => (cLet (o3 pkF (rdV v56) (rdV (.b true)) (rdV v62)) fun v63 => (cLet (oG false (rdV v63) (oV (rdV v2))) fun v64 => (cLet (oG false (rdV v63) (oV (rdV v45))) fun v65 => (cLet (oG false (rdV v63) (oV (rdV v31))) fun v66 => (cLet (oG false (rdV v63) (o2 O.eq (rdV v66) (rdV (.n .i64 1)))) fun v67 => (cLet (oG false (rdV v63) (oV R13)) fun v68 => (cLet (oG false (rdV v63) (nL (O.bu [.s (pack []), .b false, .s (pack [])] [(.str []), (.bool false), (.str [])] [(0, 1), (1, 1), (2, 1)]) [(rdV v65), (rdV v67), (rdV v68)])) fun v69 => (cLet (oG false (rdV v63) (oCallS 49 [(rdV v64), (rdV v69)])) fun v70 => (cLet (oG false (rdV v63) (o2 O.ne (rdV v70) (rdV (.n .i64 0)))) fun v71 => (cLet (o3 pkF (rdV v63) (rdV (.b true)) (rdV v71)) fun v72 => (cSeq (cCond (rdV v72) (cWr X8 (.b true) cSkip) cSkip) cSkip))))))))))))))))))))))))))))))))))))))))))))))))))))) (cLet (oV R9) fun v73 => (cLet (o2 O.ad (rdV v73) (rdV (.n .i64 1))) fun v74 => (cWr X9 v74 cSkip))))))))) (cLet (oV R8) fun v75 => (cLet (oG false (rdV v75) (oV (rdV v2))) fun v76 => (cLet (oG false (rdV v75) (oV (rdV v4))) fun v77 => (cLet (oG false (rdV v75) (oCallS 50 [(rdV v76), (rdV v77)])) fun v78 => (cLet (oG false (rdV v75) (o2 O.ne (rdV v78) (rdV (.n .i64 0)))) fun v79 => (cLet (o3 pkF (rdV v75) (rdV (.b true)) (rdV v79)) fun v80 => (cLet (oG false (rdV v80) (oV (rdV v2))) fun v81 => (cLet (oG false (rdV v80) (oV (rdV v1))) fun v82 => (cLet (oG false (rdV v80) (m1 O.bS (rdV v82))) fun v83 => (cLet (oG false (rdV v80) (oCallS 51 [(rdV v81)])) fun v84 => (cRz O.rc (oG false (rdV v80) (m1 O.bS (rdV v82))) v83 (cLet (oG false (rdV v80) (m1 O.bS (rdV v84))) fun v85 => (cLet (oG false (rdV v80) (o2 O.ne (rdV v85) (rdV v83))) fun v86 => (cLet (o3 pkF (rdV v80) (rdV (.b true)) (rdV v86)) fun v87 => (cSeq (cCond (rdV v87) (cWr X2 (.o .ptr) (cWr X3 (.n .i64 5) cRet)) cSkip) (cWr X2 v2 (cWr X3 (.n .i64 0) cRet)))))))))))))))))))))))))))))))))))))))))))))) [vT R2, vT R3]))
theorem k22 : QeOk ⟨22, eZ Tryd.f22, p22 zO⟩ := qz 131 1 [2, 3, 6, 8, 9, 12, 13] Tryd.func22 (by kernel_rfl) (by kernel_rfl)
def p23 (O : Oz) : Phi → HF := fnQ (aLet fun v1 => (aLet fun v2 => (aEnd (cLet (n1 (O.bx 48) (rdV v2)) fun v3 => (cLetW (n0Z O.al (.cells [.b false] 4 .exact)) X4 fun v4 => (cLet (oCallS 52 [(rdV v1)]) fun v5 => (cLet (o1 (exG 0) (rdV v5)) fun v6 => (cLet (o1 (exG 1) (rdV v5)) fun v7 => (cLet (m1 O.ld (rdV v3)) fun v8 => (cLet (oCallS 53 [(rdV v8)]) fun v9 => (cLet (o1 (exG 0) (rdV v9)) fun v10 => (cLet (o1 (exG 1) (rdV v9)) fun v11 => (cLet (o2 O.ne (rdV v6) (rdV v10)) fun v12 => (cLet (oG false (rdV v12) (oV (rdV v7))) fun v13 => (cLet (oG false (rdV v12) (oV (rdV v11))) fun v14 => (cLet (oG false (rdV v12) (o2 O.ne (rdV v13) (rdV v14))) fun v15 => (cLet (o3 pkF (rdV v12) (rdV (.b true)) (rdV v15)) fun v16 => (cLet (oG false (rdV v16) (oV (rdV v1))) fun v17 => (cLet (oG false (rdV v16) (m1 O.ld (rdV v3))) fun v18 => (cLet (oG false (rdV v16) (o1 ncF (rdV v18))) fun v19 => (cLet (oG false (rdV v16) (o1 (O.fa 1) (rdV v19))) fun v20 => (cLet (oG false (rdV v16) (m1 O.ld (rdV v20))) fun v21 => (cLet (oG false (rdV v16) (oCallS 11 [(rdV v17)])) fun v22 => (cRz O.rc (oG false (rdV v16) (m1 O.ld (rdV v3))) v18 (cRz O.rc (oG false (rdV v16) (m1 O.ld (rdV v20))) v21 (cLet (oG false (rdV v16) (o2 O.ne (rdV v22) (rdV v21))) fun v23 => (cLet (o3 pkF (rdV v16) (rdV (.b true)) (rdV v23)) fun v24 => (cLet (oG false (rdV v24) (oV (rdV v1))) fun v25 => (cLet (oG false (rdV v24) (m1 O.ld (rdV v3))) fun v26 => (cLet (oG false (rdV v24) (oCallS 10 [(rdV v25)])) fun v27 => (cRz O.rc (oG false (rdV v24) (m1 O.ld (rdV v3))) v26 (cLet (oG false (rdV v24) (m1 O.bS (rdV v27))) fun v28 => (cLet (oG false (rdV v24) (oCallS 51 [(rdV v26)])) fun v29 => (cRz O.rc (oG false (rdV v24) (m1 O.bS (rdV v27))) v28 (cLet (oG false (rdV v24) (m1 O.bS (rdV v29))) fun v30 => (cLet (oG false (rdV v24) (o2 O.ne (rdV v28) (rdV v30))) fun v31 => (cLet (o3 pkF (rdV v24) (rdV (.b true)) (rdV v31)) fun v32 => (cSeq (cCond (rdV v32) (cDo (n2 (O.st 1) (rdV v4) (rdV (.b false))) cRet) cSkip) (cLet (n0Z O.al (.ints .i64 [Int.ofNat 0] 3 .exact)) fun v33 => (cDo (n2 (O.st 1) (rdV v33) (rdV (.n .i64 0))) (cLet (nL (mfG (.func 9) 1) [(rdV v1)]) fun v34 => (cSeq (cBlk 0 (cSeq (cRf (rdV v34) [X49] (cLetW (n0Z O.al (.cells [.s (pack []), .b false, .s (pack [])] 32 .exact)) X10 fun v35 => (cDo (n2 (O.st 3) (rdV v35) R49) cSkip)) (cSeq (cBlk 1 (cLet (m1 O.ld (rdV v33)) fun v36 => (cLet (m1 O.ld (rdV v3)) fun v37 => (cLet (o1 ncF (rdV v37)) fun v38 => (cLet (o1 (O.fa 0) (rdV v38)) fun v39 => (cLet (m1 O.ld (rdV v39)) fun v40 => (cLet (o1 O.lv (rdV v40)) fun v41 => (cLet (o2 O.ge (rdV v36) (rdV v41)) fun v42 => (cLet (oG false (rdV v42) (m1 (O.ln 3) R10)) fun v43 => (cLet (oG false (rdV v42) (m1 O.ld (rdV v3))) fun v44 => (cLet (oG false (rdV v42) (o1 ncF (rdV v44))) fun v45 => (cLet (oG false (rdV v42) (o1 (O.fa 0) (rdV v45))) fun v46 => (cLet (oG false (rdV v42) (m1 O.ld (rdV v46))) fun v47 => (cLet (oG false (rdV v42) (m1 O.ld (rdV v33))) fun v48 => (cLet (oG false (rdV v42) (o2 (O.ix 3) (rdV v47) (rdV v48))) fun v49 => (cLet (oG false (rdV v42) (m1 (O.ln 3) (rdV v49))) fun v50 => (cLet (oG false (rdV v42) (nL (O.pq (.eqF true [.str, .bool, .str])) [(rdV v43), (rdV v50)])) fun v51 => (cLet (o3 pkF (rdV v42) (rdV (.b true)) (rdV v51)) fun v52 => (cSeq (cCond (rdV v52) (cDo (n2 (O.st 1) (rdV v4) (rdV (.b false))) cRet) cSkip) (cLet (m1 O.ld (rdV v33)) fun v53 => (cLet (o2 O.ad (rdV v53) (rdV (.n .i64 1))) fun v54 => (cDo (n2 (O.st 1) (rdV v33) (rdV v54)) cSkip)))))))))))))))))))))) cSkip)) cSkip)) (cLet (m1 O.ld (rdV v33)) fun v55 => (cLet (m1 O.ld (rdV v3)) fun v56 => (cLet (o1 ncF (rdV v56)) fun v57 => (cLet (o1 (O.fa 0) (rdV v57)) fun v58 => (cLet (m1 O.ld (rdV v58)) fun v59 => (cLet (o1 O.lv (rdV v59)) fun v60 => (cLet (o2 O.eq (rdV v55) (rdV v60)) fun v61 => (cLet (n2 (O.st 1) (rdV v4) (rdV v61)) fun v62 => cRet))))))))))))))))))))))))))))))))))))))))))))))) [vC R4])))
theorem k23 : QeOk ⟨23, eZ Tryd.f23, p23 zO⟩ := qz 77 2 [4, 10, 49] Tryd.func23 (by kernel_rfl) (by kernel_rfl)
def p45 (O : Oz) : Phi → HF := fnQ (aEnd (cWr X0 (.o .ptr) (cLet (nL (O.bu [.o .sl, .s (pack [])] [.nilsl, (.str [])] [(1, 1)]) [(rdV (.s (pack [47])))]) fun v1 => (cLet (n1 (O.bx 91) (rdV v1)) fun v2 => (cWr X0 v2 cRet)))) [vT R0])
theorem k45 : QeOk ⟨45, eZ Tryd.f45, p45 zO⟩ := qz 3 0 [0] Tryd.func45 (by kernel_rfl) (by kernel_rfl)
def p46 (O : Oz) : Phi → HF := fnQ (aLet fun v1 => (aLet fun v2 => (aEnd (cWr X4 (.s (pack [])) (cWr X5 (.n .i64 0) (cLet (o2 O.lt (rdV v2) (rdV (.n .i64 0))) fun v3 => (cLet (oG false (rdV v3) (oV (rdV v2))) fun v4 => (cLet (oG false (rdV v3) (o2 O.ad (rdV v4) (rdV (.n .i64 2)))) fun v5 => (cLet (oG false (rdV v3) (oV (rdV v1))) fun v6 => (cLet (oG false (rdV v3) (o1 O.lv (rdV v6))) fun v7 => (cLet (oG false (rdV v3) (o2 O.gt (rdV v5) (rdV v7))) fun v8 => (cLet (o3 pkF (rdV v3) (rdV (.b true)) (rdV v8)) fun v9 => (cSeq (cCond (rdV v9) (cWr X4 (.s (pack [])) (cWr X5 (.z .i64 0) cRet)) cSkip) (cLet (o2 (O.ix 1) (rdV v1) (rdV v2)) fun v10 => (cLet (m1 O.ld (rdV v10)) fun v11 => (cLet (o1 (O.cv .i64) (rdV v11)) fun v12 => (cLet (o2 O.mt (rdV (.n .i64 256)) (rdV v12)) fun v13 => (cLet (o2 O.ad (rdV v2) (rdV (.n .i64 1))) fun v14 => (cLet (o2 (O.ix 1) (rdV v1) (rdV v14)) fun v15 => (cLet (m1 O.ld (rdV v15)) fun v16 => (cLet (o1 (O.cv .i64) (rdV v16)) fun v17 => (cLet (o2 O.ad (rdV v13) (rdV v17)) fun v18 => (cLet (o2 O.ad (rdV v2) (rdV (.n .i64 2))) fun v19 => (cLet (o2 O.ad (rdV v19) (rdV v18)) fun v20 => (cLet (o1 O.lv (rdV v1)) fun v21 => (cLet (o2 O.gt (rdV v20) (rdV v21)) fun v22 => (cSeq (cCond (rdV v22) (cWr X4 (.s (pack [])) (cWr X5 (.z .i64 0) cRet)) cSkip) (cLet (o2 O.ad (rdV v2) (rdV (.n .i64 2))) fun v23 => (cLet (o2 O.ad (rdV v2) (rdV (.n .i64 2))) fun v24 => (cLet (o2 O.ad (rdV v24) (rdV v18)) fun v25 => (cLet (oVz O.sv 1 (rdV v1) (some (rdV v23)) (some (rdV v25)) none) fun v26 => (cLet (m1 O.bS (rdV v26)) fun v27 => (cLet (o2 O.ad (rdV v2) (rdV (.n .i64 2))) fun v28 => (cLet (o2 O.ad (rdV v28) (rdV v18)) fun v29 => (cWr X4 v27 (cWr X5 v29 cRet))))))))))))))))))))))))))))))))) [vT R4, vT R5])))
theorem k46 : QeOk ⟨46, eZ Tryd.f46, p46 zO⟩ := qz 49 2 [4, 5] Tryd.func46 (by kernel_rfl) (by kernel_rfl)
def p47 (O : Oz) : Phi → HF := fnQ (aLet fun v1 => (aLet fun v2 => (aEnd (cWr X4 (.s (pack [])) (cWr X5 (.n .i64 0) (cLet (o1 O.ls (rdV v2)) fun v3 => (cLet (o2 O.lt (rdV v3) (rdV (.n .i64 1))) fun v4 => (cLet (oG false (rdV v4) (oV (rdV v2))) fun v5 => (cLet (oG false (rdV v4) (o1 O.ls (rdV v5))) fun v6 => (cLet (oG false (rdV v4) (o2 O.gt (rdV v6) (rdV (.n .i64 256)))) fun v7 => (cLet (o3 pkF (rdV v4) (rdV (.b true)) (rdV v7)) fun v8 => (cSeq (cCond (rdV v8) (cWr X4 (.s (pack [])) (cWr X5 (.n .i64 23) cRet)) cSkip) (cLet (o1 ncF (rdV v1)) fun v9 => (cLet (o1 (O.fa 1) (rdV v9)) fun v10 => (cLet (m1 O.ld (rdV v10)) fun v11 => (cWr X6 v11 (cLet (o2 O.tx (rdV v2) (rdV (.n .i64 0))) fun v12 => (cLet (o2 O.eq (rdV v12) (rdV (.n .u8 47))) fun v13 => (cSeq (cCond (rdV v13) (cWr X6 (.s (pack [47])) cSkip) cSkip) (cWr X7 (.n .i64 0) (cWr X8 (.n .i64 0) (cSeq (cBlk 0 (O.lp 1000000 (cLet (oV R8) fun v14 => (cLet (o1 O.ls (rdV v2)) fun v15 => (cLet (o2 O.le (rdV v14) (rdV v15)) fun v16 => (cSeq (cCond (rdV v16) cSkip (cExit 0)) (cSeq (cBlk 1 (cLet (oV R8) fun v17 => (cLet (o1 O.ls (rdV v2)) fun v18 => (cLet (o2 O.lt (rdV v17) (rdV v18)) fun v19 => (cLet (oG true (rdV v19) (oV (rdV v2))) fun v20 => (cLet (oG true (rdV v19) (oV R8)) fun v21 => (cLet (oG true (rdV v19) (o2 O.tx (rdV v20) (rdV v21))) fun v22 => (cLet (oG true (rdV v19) (o2 O.ne (rdV v22) (rdV (.n .u8 47)))) fun v23 => (cLet (o3 pkF (rdV v19) (rdV v23) (rdV (.b false))) fun v24 => (cSeq (cCond (rdV v24) (cExit 1) cSkip) (cLet (oV R7) fun v25 => (cLet (oV R8) fun v26 => (cLet (oSz O.ss (rdV v2) (some (rdV v25)) (some (rdV v26))) fun v27 => (cLet (oV R8) fun v28 => (cLet (o2 O.ad (rdV v28) (rdV (.n .i64 1))) fun v29 => (cWr X7 v29 (cLet (o2 O.eq (rdV v27) (rdV (.s (pack [])))) fun v30 => (cLet (oG false (rdV v30) (oV (rdV v27))) fun v31 => (cLet (oG false (rdV v30) (o2 O.eq (rdV v31) (rdV (.s (pack [46]))))) fun v32 => (cLet (o3 pkF (rdV v30) (rdV (.b true)) (rdV v32)) fun v33 => (cSeq (cCond (rdV v33) (cExit 1) cSkip) (cLet (o2 O.ne (rdV v27) (rdV (.s (pack [46, 46])))) fun v34 => (cLet (oG true (rdV v34) (oV (rdV v27))) fun v35 => (cLet (oG true (rdV v34) (oCallS 72 [(rdV v35)])) fun v36 => (cLet (oG true (rdV v34) (o1 notF (rdV v36))) fun v37 => (cLet (o3 pkF (rdV v34) (rdV v37) (rdV (.b false))) fun v38 => (cSeq (cCond (rdV v38) (cWr X4 (.s (pack [])) (cWr X5 (.n .i64 23) cRet)) cSkip) (cLet (oV R6) fun v39 => (cLet (oCallS 48 [(rdV v1), (rdV v39)]) fun v40 => (cLet (o2 O.eq (rdV v40) (rdV (.n .i64 0))) fun v41 => (cSeq (cCond (rdV v41) (cWr X4 (.s (pack [])) (cWr X5 (.n .i64 6) cRet)) cSkip) (cLet (o2 O.eq (rdV v40) (rdV (.n .i64 2))) fun v42 => (cSeq (cCond (rdV v42) (cWr X4 (.s (pack [])) (cWr X5 (.n .i64 5) cRet)) cSkip) (cLet (o2 O.eq (rdV v27) (rdV (.s (pack [46, 46])))) fun v43 => (cSeq (cCond (rdV v43) (cLet (oV R6) fun v44 => (cLet (oCallS 73 [(rdV v44)]) fun v45 => (cWr X6 v45 cSkip))) (cLet (oV R6) fun v46 => (cLet (o2 O.eq (rdV v46) (rdV (.s (pack [47])))) fun v47 => (cSeq (cCond (rdV v47) (cLet (o2 O.ad (rdV (.s (pack [47]))) (rdV v27)) fun v48 => (cWr X6 v48 cSkip)) (cLet (oV R6) fun v49 => (cLet (o2 O.ad (rdV v49) (rdV (.s (pack [47])))) fun v50 => (cLet (o2 O.ad (rdV v50) (rdV v27)) fun v51 => (cWr X6 v51 cSkip))))) cSkip)))) cSkip))))))))))))))))))))))))))))))))))) (cLet (oV R8) fun v52 => (cLet (o2 O.ad (rdV v52) (rdV (.n .i64 1))) fun v53 => (cWr X8 v53 cSkip)))))))))) (cLet (oV R6) fun v54 => (cWr X4 v54 (cWr X5 (.n .i64 0) cRet)))))))))))))))))))))) [vT R4, vT R5])))
theorem k47 : QeOk ⟨47, eZ Tryd.f47, p47 zO⟩ := qz 81 2 [4, 5, 6, 7, 8] Tryd.func47 (by kernel_rfl) (by kernel_rfl)
def p48 (O : Oz) : Phi → HF := fnQ (aLet fun v1 => (aLet fun v2 => (aEnd (cWr X4 (.n .i64 0) (cLet (o2 O.eq (rdV v2) (rdV (.s (pack [47])))) fun v3 => (cSeq (cCond (rdV v3) (cWr X4 (.n .i64 1) cRet) cSkip) (cLet (oCallS 74 [(rdV v1), (rdV v2)]) fun v4 => (cLet (o2 O.lt (rdV v4) (rdV (.n .i64 0))) fun v5 => (cSeq (cCond (rdV v5) (cWr X4 (.n .i64 0) cRet) cSkip) (cLet (o1 ncF (rdV v1)) fun v6 => (cLet (o1 (O.fa 0) (rdV v6)) fun v7 => (cLet (m1 O.ld (rdV v7)) fun v8 => (cLet (o2 (O.ix 3) (rdV v8) (rdV v4)) fun v9 => (cLet (o1 (O.fa 1) (rdV v9)) fun v10 => (cLet (m1 O.ld (rdV v10)) fun v11 => (cSeq (cCond (rdV v11) (cWr X4 (.n .i64 1) cRet) cSkip) (cWr X4 (.n .i64 2) cRet)))))))))))))) [vT R4])))
theorem k48 : QeOk ⟨48, eZ Tryd.f48, p48 zO⟩ := qz 21 2 [4] Tryd.func48 (by kernel_rfl) (by kernel_rfl)
def p49 (O : Oz) : Phi → HF := fnQ (aLet fun v1 => (aLet fun v2 => (aEnd (cLet (n1 (O.bx 86) (rdV v2)) fun v3 => (cWr X4 (.n .i64 0) (cLet (o1 (O.fa 0) (rdV v3)) fun v4 => (cLet (m1 O.ld (rdV v4)) fun v5 => (cLet (o1 O.ls (rdV v5)) fun v6 => (cLet (o2 O.gt (rdV v6) (rdV (.n .i64 256))) fun v7 => (cLet (oG false (rdV v7) (o1 (O.fa 2) (rdV v3))) fun v8 => (cLet (oG false (rdV v7) (m1 O.ld (rdV v8))) fun v9 => (cLet (oG false (rdV v7) (o1 O.ls (rdV v9))) fun v10 => (cLet (oG false (rdV v7) (o2 O.gt (rdV v10) (rdV (.n .i64 8192)))) fun v11 => (cLet (o3 pkF (rdV v7) (rdV (.b true)) (rdV v11)) fun v12 => (cSeq (cCond (rdV v12) (cWr X4 (.n .i64 3) cRet) cSkip) (cWr X5 (.o .sl) (cWr X6 (.b false) (cWr X7 (.n .i64 0) (cSeq (cBlk 0 (O.lp 1000000 (cLet (oV R7) fun v13 => (cLet (o1 ncF (rdV v1)) fun v14 => (cLet (o1 (O.fa 0) (rdV v14)) fun v15 => (cLet (m1 O.ld (rdV v15)) fun v16 => (cLet (o1 O.lv (rdV v16)) fun v17 => (cLet (o2 O.lt (rdV v13) (rdV v17)) fun v18 => (cSeq (cCond (rdV v18) cSkip (cExit 0)) (cSeq (cBlk 1 (cLet (oV R6) fun v19 => (cLet (o1 notF (rdV v19)) fun v20 => (cLet (oG true (rdV v20) (oV (rdV v1))) fun v21 => (cLet (oG true (rdV v20) (o1 ncF (rdV v21))) fun v22 => (cLet (oG true (rdV v20) (o1 (O.fa 0) (rdV v22))) fun v23 => (cLet (oG true (rdV v20) (m1 O.ld (rdV v23))) fun v24 => (cLet (oG true (rdV v20) (oV R7)) fun v25 => (cLet (oG true (rdV v20) (o2 (O.ix 3) (rdV v24) (rdV v25))) fun v26 => (cLet (oG true (rdV v20) (o1 (O.fa 0) (rdV v26))) fun v27 => (cLet (oG true (rdV v20) (m1 O.ld (rdV v27))) fun v28 => (cLet (oG true (rdV v20) (o1 (O.fa 0) (rdV v3))) fun v29 => (cLet (oG true (rdV v20) (m1 O.ld (rdV v29))) fun v30 => (cLet (oG true (rdV v20) (o2 O.ge (rdV v28) (rdV v30))) fun v31 => (cLet (o3 pkF (rdV v20) (rdV v31) (rdV (.b false))) fun v32 => (cSeq (cCond (rdV v32) (cLet (oV R5) fun v33 => (cLet (m1 (O.ln 3) (rdV v3)) fun v34 => (cLet (nL (O.bs 86 3 1) [(rdV v34)]) fun v35 => (cLet (n2 (O.ap 86 false 3) (rdV v33) (rdV v35)) fun v36 => (cWr X5 v36 (cWr X6 (.b true) cSkip)))))) cSkip) (cLet (o1 ncF (rdV v1)) fun v37 => (cLet (o1 (O.fa 0) (rdV v37)) fun v38 => (cLet (m1 O.ld (rdV v38)) fun v39 => (cLet (oV R7) fun v40 => (cLet (o2 (O.ix 3) (rdV v39) (rdV v40)) fun v41 => (cLet (o1 (O.fa 0) (rdV v41)) fun v42 => (cLet (m1 O.ld (rdV v42)) fun v43 => (cLet (o1 (O.fa 0) (rdV v3)) fun v44 => (cLet (m1 O.ld (rdV v44)) fun v45 => (cLet (o2 O.ne (rdV v43) (rdV v45)) fun v46 => (cSeq (cCond (rdV v46) (cLet (oV R5) fun v47 => (cLet (o1 ncF (rdV v1)) fun v48 => (cLet (o1 (O.fa 0) (rdV v48)) fun v49 => (cLet (m1 O.ld (rdV v49)) fun v50 => (cLet (oV R7) fun v51 => (cLet (o2 (O.ix 3) (rdV v50) (rdV v51)) fun v52 => (cLet (m1 (O.ln 3) (rdV v52)) fun v53 => (cLet (nL (O.bs 86 3 1) [(rdV v53)]) fun v54 => (cLet (n2 (O.ap 86 false 3) (rdV v47) (rdV v54)) fun v55 => (cWr X5 v55 cSkip)))))))))) cSkip) cSkip))))))))))))))))))))))))))) (cLet (oV R7) fun v56 => (cLet (o2 O.ad (rdV v56) (rdV (.n .i64 1))) fun v57 => (cWr X7 v57 cSkip))))))))))))) (cLet (oV R6) fun v58 => (cLet (o1 notF (rdV v58)) fun v59 => (cSeq (cCond (rdV v59) (cLet (oV R5) fun v60 => (cLet (m1 (O.ln 3) (rdV v3)) fun v61 => (cLet (nL (O.bs 86 3 1) [(rdV v61)]) fun v62 => (cLet (n2 (O.ap 86 false 3) (rdV v60) (rdV v62)) fun v63 => (cWr X5 v63 cSkip))))) cSkip) (cLet (oV R5) fun v64 => (cLet (nL (O.bu [.o .sl, .s (pack [])] [.nilsl, (.str [])] [(0, 1)]) [(rdV v64)]) fun v65 => (cLet (n1 (O.bx 91) (rdV v65)) fun v66 => (cLet (oCallS 53 [(rdV v66)]) fun v67 => (cLet (o1 (exG 0) (rdV v67)) fun v68 => (cLet (o1 (exG 1) (rdV v67)) fun v69 => (cLet (o2 O.gt (rdV v68) (rdV (.n .i64 128))) fun v70 => (cLet (oG false (rdV v70) (oV (rdV v69))) fun v71 => (cLet (oG false (rdV v70) (o2 O.gt (rdV v71) (rdV (.n .i64 32768)))) fun v72 => (cLet (o3 pkF (rdV v70) (rdV (.b true)) (rdV v72)) fun v73 => (cSeq (cCond (rdV v73) (cWr X4 (.n .i64 7) cRet) cSkip) (cLet (oV R5) fun v74 => (cLet (o1 ncF (rdV v1)) fun v75 => (cLet (o1 (O.fa 0) (rdV v75)) fun v76 => (cDo (n2 (O.st 1) (rdV v76) (rdV v74)) (cWr X4 (.n .i64 0) cRet))))))))))))))))))))))))))))))))))) [vT R4])))
theorem k49 : QeOk ⟨49, eZ Tryd.f49, p49 zO⟩ := qz 94 2 [4, 5, 6, 7] Tryd.func49 (by kernel_rfl) (by kernel_rfl)
def p50 (O : Oz) : Phi → HF := fnQ (aLet fun v1 => (aLet fun v2 => (aEnd (cWr X4 (.n .i64 0) (cLet (oCallS 75 [(rdV v1), (rdV v2), (rdV (.n .i64 1))]) fun v3 => (cLet (o1 (exG 0) (rdV v3)) fun v4 => (cLet (o1 (exG 1) (rdV v3)) fun v5 => (cLet (o2 O.eq (rdV v5) (rdV (.n .i64 0))) fun v6 => (cSeq (cCond (rdV v6) (cLet (o1 ncF (rdV v1)) fun v7 => (cLet (o1 (O.fa 1) (rdV v7)) fun v8 => (cDo (n2 (O.st 1) (rdV v8) (rdV v4)) cSkip))) cSkip) (cWr X4 v5 cRet))))))) [vT R4])))
theorem k50 : QeOk ⟨50, eZ Tryd.f50, p50 zO⟩ := qz 20 2 [4] Tryd.func50 (by kernel_rfl) (by kernel_rfl)
def p51 (O : Oz) : Phi → HF := fnQ (aLet fun v1 => (aEnd (cWr X2 (.o .sl) (cLet (o1 ncF (rdV v1)) fun v2 => (cLet (o1 (O.fa 1) (rdV v2)) fun v3 => (cLet (m1 O.ld (rdV v3)) fun v4 => (cLet (oCallS 76 [(rdV v4)]) fun v5 => (cWr X3 v5 (cLet (o1 ncF (rdV v1)) fun v6 => (cLet (o1 (O.fa 0) (rdV v6)) fun v7 => (cLet (m1 O.ld (rdV v7)) fun v8 => (cLet (o1 O.lv (rdV v8)) fun v9 => (cLet (o2 O.qu (rdV v9) (rdV (.n .i64 256))) fun v10 => (cLet (o1 (O.cv .u8) (rdV v10)) fun v11 => (cLet (o1 ncF (rdV v1)) fun v12 => (cLet (o1 (O.fa 0) (rdV v12)) fun v13 => (cLet (m1 O.ld (rdV v13)) fun v14 => (cLet (o1 O.lv (rdV v14)) fun v15 => (cLet (o2 O.rm (rdV v15) (rdV (.n .i64 256))) fun v16 => (cLet (o1 (O.cv .u8) (rdV v16)) fun v17 => (cLet (nL (O.bs 5 1 2) [(rdV v11), (rdV v17)]) fun v18 => (cLet (n2 (O.ap 5 false 1) (rdV v5) (rdV v18)) fun v19 => (cWr X3 v19 (cWr X4 (.n .i64 0) (cSeq (cBlk 0 (O.lp 1000000 (cLet (oV R4) fun v20 => (cLet (o1 ncF (rdV v1)) fun v21 => (cLet (o1 (O.fa 0) (rdV v21)) fun v22 => (cLet (m1 O.ld (rdV v22)) fun v23 => (cLet (o1 O.lv (rdV v23)) fun v24 => (cLet (o2 O.lt (rdV v20) (rdV v24)) fun v25 => (cSeq (cCond (rdV v25) cSkip (cExit 0)) (cSeq (cBlk 1 (cLet (o1 ncF (rdV v1)) fun v26 => (cLet (o1 (O.fa 0) (rdV v26)) fun v27 => (cLet (m1 O.ld (rdV v27)) fun v28 => (cLet (oV R4) fun v29 => (cLet (o2 (O.ix 3) (rdV v28) (rdV v29)) fun v30 => (cLet (o1 (O.fa 1) (rdV v30)) fun v31 => (cLet (m1 O.ld (rdV v31)) fun v32 => (cSeq (cCond (rdV v32) (cLet (oV R3) fun v33 => (cLet (nL (O.bs 5 1 1) [(rdV (.n .u8 1))]) fun v34 => (cLet (n2 (O.ap 5 false 1) (rdV v33) (rdV v34)) fun v35 => (cWr X3 v35 (cLet (o1 ncF (rdV v1)) fun v36 => (cLet (o1 (O.fa 0) (rdV v36)) fun v37 => (cLet (m1 O.ld (rdV v37)) fun v38 => (cLet (oV R4) fun v39 => (cLet (o2 (O.ix 3) (rdV v38) (rdV v39)) fun v40 => (cLet (o1 (O.fa 0) (rdV v40)) fun v41 => (cLet (m1 O.ld (rdV v41)) fun v42 => (cLet (oCallS 76 [(rdV v42)]) fun v43 => (cLet (n2 (O.ap 5 false 1) (rdV v35) (rdV v43)) fun v44 => (cWr X3 v44 (cExit 1))))))))))))))) cSkip) (cLet (oV R3) fun v45 => (cLet (nL (O.bs 5 1 1) [(rdV (.n .u8 2))]) fun v46 => (cLet (n2 (O.ap 5 false 1) (rdV v45) (rdV v46)) fun v47 => (cWr X3 v47 (cLet (o1 ncF (rdV v1)) fun v48 => (cLet (o1 (O.fa 0) (rdV v48)) fun v49 => (cLet (m1 O.ld (rdV v49)) fun v50 => (cLet (oV R4) fun v51 => (cLet (o2 (O.ix 3) (rdV v50) (rdV v51)) fun v52 => (cLet (o1 (O.fa 0) (rdV v52)) fun v53 => (cLet (m1 O.ld (rdV v53)) fun v54 => (cLet (oCallS 76 [(rdV v54)]) fun v55 => (cLet (n2 (O.ap 5 false 1) (rdV v47) (rdV v55)) fun v56 => (cWr X3 v56 (cLet (o1 ncF (rdV v1)) fun v57 => (cLet (o1 (O.fa 0) (rdV v57)) fun v58 => (cLet (m1 O.ld (rdV v58)) fun v59 => (cLet (oV R4) fun v60 => (cLet (o2 (O.ix 3) (rdV v59) (rdV v60)) fun v61 => (cLet (o1 (O.fa 2) (rdV v61)) fun v62 => (cLet (m1 O.ld (rdV v62)) fun v63 => (cLet (oCallS 76 [(rdV v63)]) fun v64 => (cLet (n2 (O.ap 5 false 1) (rdV v56) (rdV v64)) fun v65 => (cWr X3 v65 cSkip))))))))))))))))))))))))))))))))) (cLet (oV R4) fun v66 => (cLet (o2 O.ad (rdV v66) (rdV (.n .i64 1))) fun v67 => (cWr X4 v67 cSkip))))))))))))) (cLet (oV R3) fun v68 => (cWr X2 v68 cRet))))))))))))))))))))))))) [vT R2]))
theorem k51 : QeOk ⟨51, eZ Tryd.f51, p51 zO⟩ := qz 84 1 [2, 3, 4] Tryd.func51 (by kernel_rfl) (by kernel_rfl)
def p53 (O : Oz) : Phi → HF := fnQ (aLet fun v1 => (aEnd (cWr X2 (.n .i64 0) (cWr X3 (.n .i64 0) (cWr X4 (.n .i64 0) (cWr X5 (.n .i64 0) (cSeq (cBlk 0 (O.lp 1000000 (cLet (oV R5) fun v2 => (cLet (o1 ncF (rdV v1)) fun v3 => (cLet (o1 (O.fa 0) (rdV v3)) fun v4 => (cLet (m1 O.ld (rdV v4)) fun v5 => (cLet (o1 O.lv (rdV v5)) fun v6 => (cLet (o2 O.lt (rdV v2) (rdV v6)) fun v7 => (cSeq (cCond (rdV v7) cSkip (cExit 0)) (cSeq (cBlk 1 (cLet (oV R4) fun v8 => (cLet (o1 ncF (rdV v1)) fun v9 => (cLet (o1 (O.fa 0) (rdV v9)) fun v10 => (cLet (m1 O.ld (rdV v10)) fun v11 => (cLet (oV R5) fun v12 => (cLet (o2 (O.ix 3) (rdV v11) (rdV v12)) fun v13 => (cLet (o1 (O.fa 0) (rdV v13)) fun v14 => (cLet (m1 O.ld (rdV v14)) fun v15 => (cLet (o1 O.ls (rdV v15)) fun v16 => (cLet (o2 O.ad (rdV v8) (rdV v16)) fun v17 => (cLet (o1 ncF (rdV v1)) fun v18 => (cLet (o1 (O.fa 0) (rdV v18)) fun v19 => (cLet (m1 O.ld (rdV v19)) fun v20 => (cLet (oV R5) fun v21 => (cLet (o2 (O.ix 3) (rdV v20) (rdV v21)) fun v22 => (cLet (o1 (O.fa 2) (rdV v22)) fun v23 => (cLet (m1 O.ld (rdV v23)) fun v24 => (cLet (o1 O.ls (rdV v24)) fun v25 => (cLet (o2 O.ad (rdV v17) (rdV v25)) fun v26 => (cWr X4 v26 cSkip))))))))))))))))))))) (cLet (oV R5) fun v27 => (cLet (o2 O.ad (rdV v27) (rdV (.n .i64 1))) fun v28 => (cWr X5 v28 cSkip))))))))))))) (cLet (o1 ncF (rdV v1)) fun v29 => (cLet (o1 (O.fa 0) (rdV v29)) fun v30 => (cLet (m1 O.ld (rdV v30)) fun v31 => (cLet (o1 O.lv (rdV v31)) fun v32 => (cLet (oV R4) fun v33 => (cWr X2 v32 (cWr X3 v33 cRet)))))))))))) [vT R2, vT R3]))
theorem k53 : QeOk ⟨53, eZ Tryd.f53, p53 zO⟩ := qz 42 1 [2, 3, 4, 5] Tryd.func53 (by kernel_rfl) (by kernel_rfl)
def p72 (O : Oz) : Phi → HF := fnQ (aLet fun v1 => (aEnd (cWr X2 (.b false) (cWr X3 (.n .i64 0) (cSeq (cBlk 0 (O.lp 1000000 (cLet (oV R3) fun v2 => (cLet (o1 O.ls (rdV v1)) fun v3 => (cLet (o2 O.lt (rdV v2) (rdV v3)) fun v4 => (cSeq (cCond (rdV v4) cSkip (cExit 0)) (cSeq (cBlk 1 (cLet (oV R3) fun v5 => (cLet (o2 O.tx (rdV v1) (rdV v5)) fun v6 => (cLet (o2 O.lt (rdV v6) (rdV (.n .u8 32))) fun v7 => (cLet (oG false (rdV v7) (oV (rdV v1))) fun v8 => (cLet (oG false (rdV v7) (oV R3)) fun v9 => (cLet (oG false (rdV v7) (o2 O.tx (rdV v8) (rdV v9))) fun v10 => (cLet (oG false (rdV v7) (o2 O.eq (rdV v10) (rdV (.n .u8 127)))) fun v11 => (cLet (o3 pkF (rdV v7) (rdV (.b true)) (rdV v11)) fun v12 => (cLet (oG false (rdV v12) (oV (rdV v1))) fun v13 => (cLet (oG false (rdV v12) (oV R3)) fun v14 => (cLet (oG false (rdV v12) (o2 O.tx (rdV v13) (rdV v14))) fun v15 => (cLet (oG false (rdV v12) (o2 O.eq (rdV v15) (rdV (.n .u8 47)))) fun v16 => (cLet (o3 pkF (rdV v12) (rdV (.b true)) (rdV v16)) fun v17 => (cSeq (cCond (rdV v17) (cWr X2 (.b false) cRet) cSkip) cSkip))))))))))))))) (cLet (oV R3) fun v18 => (cLet (o2 O.ad (rdV v18) (rdV (.n .i64 1))) fun v19 => (cWr X3 v19 cSkip)))))))))) (cLet (o1 O.ls (rdV v1)) fun v20 => (cLet (o2 O.ge (rdV v20) (rdV (.n .i64 1))) fun v21 => (cLet (oG true (rdV v21) (oV (rdV v1))) fun v22 => (cLet (oG true (rdV v21) (o1 O.ls (rdV v22))) fun v23 => (cLet (oG true (rdV v21) (o2 O.le (rdV v23) (rdV (.n .i64 32)))) fun v24 => (cLet (o3 pkF (rdV v21) (rdV v24) (rdV (.b false))) fun v25 => (cLet (oG true (rdV v25) (oV (rdV v1))) fun v26 => (cLet (oG true (rdV v25) (o2 O.ne (rdV v26) (rdV (.s (pack [46]))))) fun v27 => (cLet (o3 pkF (rdV v25) (rdV v27) (rdV (.b false))) fun v28 => (cLet (oG true (rdV v28) (oV (rdV v1))) fun v29 => (cLet (oG true (rdV v28) (o2 O.ne (rdV v29) (rdV (.s (pack [46, 46]))))) fun v30 => (cLet (o3 pkF (rdV v28) (rdV v30) (rdV (.b false))) fun v31 => (cWr X2 v31 cRet)))))))))))))))) [vT R2]))
theorem k72 : QeOk ⟨72, eZ Tryd.f72, p72 zO⟩ := qz 42 1 [2, 3] Tryd.func72 (by kernel_rfl) (by kernel_rfl)
def p73 (O : Oz) : Phi → HF := fnQ (aLet fun v1 => (aEnd (cWr X2 (.s (pack [])) (cLet (o1 O.ls (rdV v1)) fun v2 => (cLet (o2 O.sb (rdV v2) (rdV (.n .i64 1))) fun v3 => (cWr X3 v3 (cSeq (cBlk 0 (O.lp 1000000 (cLet (oV R3) fun v4 => (cLet (o2 O.gt (rdV v4) (rdV (.n .i64 0))) fun v5 => (cLet (oG true (rdV v5) (oV (rdV v1))) fun v6 => (cLet (oG true (rdV v5) (oV R3)) fun v7 => (cLet (oG true (rdV v5) (o2 O.tx (rdV v6) (rdV v7))) fun v8 => (cLet (oG true (rdV v5) (o2 O.ne (rdV v8) (rdV (.n .u8 47)))) fun v9 => (cLet (o3 pkF (rdV v5) (rdV v9) (rdV (.b false))) fun v10 => (cSeq (cCond (rdV v10) cSkip (cExit 0)) (cSeq (cBlk 1 (cLet (oV R3) fun v11 => (cLet (o2 O.sb (rdV v11) (rdV (.n .i64 1))) fun v12 => (cWr X3 v12 cSkip)))) cSkip))))))))))) (cLet (oV R3) fun v13 => (cLet (o2 O.eq (rdV v13) (rdV (.n .i64 0))) fun v14 => (cSeq (cCond (rdV v14) (cWr X2 (.s (pack [47])) cRet) cSkip) (cLet (oV R3) fun v15 => (cLet (oSz O.ss (rdV v1) none (some (rdV v15))) fun v16 => (cWr X2 v16 cRet))))))))))) [vT R2]))
theorem k73 : QeOk ⟨73, eZ Tryd.f73, p73 zO⟩ := qz 22 1 [2, 3] Tryd.func73 (by kernel_rfl) (by kernel_rfl)
def p74 (O : Oz) : Phi → HF := fnQ (aLet fun v1 => (aLet fun v2 => (aEnd (cWr X4 (.n .i64 0) (cWr X5 (.n .i64 0) (cSeq (cBlk 0 (O.lp 1000000 (cLet (oV R5) fun v3 => (cLet (o1 ncF (rdV v1)) fun v4 => (cLet (o1 (O.fa 0) (rdV v4)) fun v5 => (cLet (m1 O.ld (rdV v5)) fun v6 => (cLet (o1 O.lv (rdV v6)) fun v7 => (cLet (o2 O.lt (rdV v3) (rdV v7)) fun v8 => (cSeq (cCond (rdV v8) cSkip (cExit 0)) (cSeq (cBlk 1 (cLet (o1 ncF (rdV v1)) fun v9 => (cLet (o1 (O.fa 0) (rdV v9)) fun v10 => (cLet (m1 O.ld (rdV v10)) fun v11 => (cLet (oV R5) fun v12 => (cLet (o2 (O.ix 3) (rdV v11) (rdV v12)) fun v13 => (cLet (o1 (O.fa 0) (rdV v13)) fun v14 => (cLet (m1 O.ld (rdV v14)) fun v15 => (cLet (o2 O.eq (rdV v15) (rdV v2)) fun v16 => (cSeq (cCond (rdV v16) (cLet (oV R5) fun v17 => (cWr X4 v17 cRet)) cSkip) cSkip)))))))))) (cLet (oV R5) fun v18 => (cLet (o2 O.ad (rdV v18) (rdV (.n .i64 1))) fun v19 => (cWr X5 v19 cSkip))))))))))))) (cWr X4 (.z .i64 0) cRet)))) [vT R4])))
theorem k74 : QeOk ⟨74, eZ Tryd.f74, p74 zO⟩ := qz 26 2 [4, 5] Tryd.func74 (by kernel_rfl) (by kernel_rfl)
def p75 (O : Oz) : Phi → HF := fnQ (aLet fun v1 => (aLet fun v2 => (aLet fun v3 => (aEnd (cWr X6 (.s (pack [])) (cWr X7 (.n .i64 0) (cLet (oCallS 47 [(rdV v1), (rdV v2)]) fun v4 => (cLet (o1 (exG 0) (rdV v4)) fun v5 => (cLet (o1 (exG 1) (rdV v4)) fun v6 => (cLet (o2 O.ne (rdV v6) (rdV (.n .i64 0))) fun v7 => (cSeq (cCond (rdV v7) (cWr X6 (.s (pack [])) (cWr X7 v6 cRet)) cSkip) (cLet (oCallS 48 [(rdV v1), (rdV v5)]) fun v8 => (cLet (o2 O.eq (rdV v8) (rdV (.n .i64 0))) fun v9 => (cSeq (cCond (rdV v9) (cWr X6 (.s (pack [])) (cWr X7 (.n .i64 6) cRet)) cSkip) (cLet (o2 O.ne (rdV v8) (rdV v3)) fun v10 => (cSeq (cCond (rdV v10) (cWr X6 (.s (pack [])) (cWr X7 (.n .i64 5) cRet)) cSkip) (cWr X6 v5 (cWr X7 (.n .i64 0) cRet)))))))))))))) [vT R6, vT R7]))))
theorem k75 : QeOk ⟨75, eZ Tryd.f75, p75 zO⟩ := qz 29 3 [6, 7] Tryd.func75 (by kernel_rfl) (by kernel_rfl)
def p76 (O : Oz) : Phi → HF := fnQ (aLet fun v1 => (aEnd (cWr X2 (.o .sl) (cLet (o1 O.ls (rdV v1)) fun v2 => (cLet (o2 O.qu (rdV v2) (rdV (.n .i64 256))) fun v3 => (cLet (o1 (O.cv .u8) (rdV v3)) fun v4 => (cLet (o1 O.ls (rdV v1)) fun v5 => (cLet (o2 O.rm (rdV v5) (rdV (.n .i64 256))) fun v6 => (cLet (o1 (O.cv .u8) (rdV v6)) fun v7 => (cLet (nL (O.bs 5 1 2) [(rdV v4), (rdV v7)]) fun v8 => (cLet (n2 (O.ap 5 true 1) (rdV v8) (rdV v1)) fun v9 => (cWr X2 v9 cRet)))))))))) [vT R2]))
theorem k76 : QeOk ⟨76, eZ Tryd.f76, p76 zO⟩ := qz 16 1 [2] Tryd.func76 (by kernel_rfl) (by kernel_rfl)
end
end Go.Proofs.YtjoakhpdajlhiaaDoor.V2.S
namespace Go.Proofs.YtjoakhpdajlhiaaDoor.V2.S
open Go
set_option maxRecDepth 100000
set_option maxHeartbeats 4000000
set_option linter.unusedVariables false
attribute [local irreducible] fN fO nM gM pM Phi.fn mp bl bpart bapp top1 pack
/-! Rows of entries: their cells. -/
def enV (e : En) : List FV := [.s (pack e.path), .b e.dir, .s (pack e.data)]
def ens : List En → List FV
  | [] => []
  | a :: l => enV a ++ ens l
theorem ens_len : ∀ l : List En, (ens l).length = l.length * 3
  | [] => rfl
  | a :: l => by rw [ens, List.length_append, ens_len l, List.length_cons]; show 3 + _ = _; omega
theorem ens_app : ∀ a b : List En, ens (a ++ b) = ens a ++ ens b
  | [], b => rfl
  | x :: a, b => by rw [List.cons_append, ens, ens, ens_app a b, List.append_assoc]
theorem ens_one1 (a : En) : ens [a] = enV a := by rw [ens, ens, List.append_nil]
theorem ens_one : ∀ (l : List En) (r : FR), oneK (ens l) r = r
  | [], r => rfl
  | a :: l, r => ens_one l r
theorem enV_one (a : En) (x : FR) : oneK (enV a) x = x := rfl
theorem ens_drop : ∀ {l : List En} {i : Nat} {a : En}, l[i]? = some a → (ens l).drop (i * 3) = enV a ++ ens (l.drop (i + 1))
  | [], i, a, h => by simp at h
  | b :: l, 0, a, h => by simp at h; subst h; rfl
  | b :: l, i + 1, a, h => by
    have h' : l[i]? = some a := by simpa using h
    have := ens_drop h'
    rw [ens, show (i + 1) * 3 = (enV b).length + i * 3 by show _ = 3 + _; omega, List.drop_length_add_append]; exact this
theorem ens_at {l : List En} {i j : Nat} {a : En} (h : l[i]? = some a) (hj : j < 3) : (ens l)[i * 3 + j]? = (enV a)[j]? := by
  have h1 := ens_drop h
  rw [← List.getElem?_drop, h1, List.getElem?_append_left (by show j < 3; exact hj)]
theorem ens_at0 {l : List En} {i : Nat} {a : En} (h : l[i]? = some a) : (ens l)[i * 3]? = some (.s (pack a.path)) := ens_at (j := 0) h (by decide)
theorem ens_at1 {l : List En} {i : Nat} {a : En} (h : l[i]? = some a) : (ens l)[i * 3 + 1]? = some (.b a.dir) := ens_at (j := 1) h (by decide)
theorem ens_at2 {l : List En} {i : Nat} {a : En} (h : l[i]? = some a) : (ens l)[i * 3 + 2]? = some (.s (pack a.data)) := ens_at (j := 2) h (by decide)
theorem enV_agg (a : En) : βV (aggOf (αL (enV a))) = .agg (enV a) := by
  unfold enV
  simp only [αL, αV, aggOf, allInt, βV, βL, unp_pack]
theorem lnEn {O : Oz} (hO : O = zO) {P : FR} {c : FV → FR} {n : Nat} {m : T FObj} {b i : Nat} {a : En} {l : List En} {e : TypeId} {t : Tl} (ha : Am m b (.cells (ens l) e t)) (hi : l[i]? = some a) (h : c (entV a) = P) : O.ln 3 (.p b (i * 3)) ⟨n, m⟩ c = P := by
  subst hO
  show (gM ⟨n, m⟩ b fun ob => FObj.rec (motive := fun _ => FR) .bad (fun l _ _ => dropK (i * 3) l fun l => takeK 3 l fun l => lenK l 0 fun m => Bool.rec .bad (agF l c) (Nat.beq m 3 && Nat.ble 1 3)) (fun s _ _ => Bool.rec .bad (fN (bpart s (i * 3) 3) fun m => c (.bs m)) (Nat.ble (Nat.add (i * 3) 3) (bl s))) (fun k l e t => slV ((αO (.ints k l e t)).readOk std (i * 3) 3, (αO (.ints k l e t)).read std (i * 3) 3) c) (fun _ => .bad) .bad ob) = P
  rw [gM_am ha]
  show (dropK (i * 3) (ens l) fun l => takeK 3 l fun l => lenK l 0 fun m => (Bool.rec .bad (agF l c) (Nat.beq m 3 && Nat.ble 1 3) : FR)) = P
  rw [dropK_eq, takeK_eq, ens_drop hi, show (enV a ++ ens (l.drop (i + 1))).take 3 = enV a from rfl]
  rw [lenK_eq]; show agF (enV a) c = P
  rw [agF_cells (enV_agg a)]; exact h
theorem lnE1 {O : Oz} (hO : O = zO) {P : FR} {c : FV → FR} {n : Nat} {m : T FObj} {b : Nat} {a : En} {e : TypeId} {t : Tl} (ha : Am m b (.cells (enV a) e t)) (h : c (entV a) = P) : O.ln 3 (.p b 0) ⟨n, m⟩ c = P := lnA hO ha rfl rfl (enV_agg a) h
theorem bsEn {O : Oz} (hO : O = zO) {P : FR} {k : KV} {n : Nat} {m : T FObj} {e : TypeId} {a : En} (hn : n < 1000000) (h : k (.sl n 0 1 1 true 3) ⟨n + 1, mp m n (.cells (enV a) e .exact)⟩ = P) : O.bs e 3 1 [entV a] ⟨n, m⟩ k = P := by
  subst hO
  show slN (nstep std (.bslice e 3 1) (αL [.agg (enV a)])) ⟨n, m⟩ k = P
  have e1 : nstep std (.bslice e 3 1) (αL [.agg (enV a)]) = (true, fun b => αV (.sl b 0 1 1 true 3), αO (.cells (enV a) e .exact)) := by
    unfold enV
    generalize pack _ = s1; generalize pack _ = s2; rfl
  rw [e1]
  show (fO (βO (αO (.cells (enV a) e .exact))) fun o => nM ⟨n, m⟩ o fun b σ => fV (βV (αV (.sl b 0 1 1 true 3))) fun w => k w σ) = P
  have e2 : βO (αO (.cells (enV a) e .exact)) = .cells (enV a) e .exact := by
    unfold enV
    simp only [αO, αL, αV, βO, βV, βL, unp_pack]
  rw [fO_eq, e2, nM_mp hn, fV_eq]; exact h
theorem bxEn {O : Oz} (hO : O = zO) {P : FR} {k : KV} {n : Nat} {m : T FObj} {e : TypeId} {a : En} (hn : n < 1000000) (h : k (.p n 0) ⟨n + 1, mp m n (.cells (enV a) e .exact)⟩ = P) : O.bx e (entV a) ⟨n, m⟩ k = P := bxA hO hn (by simp only [αL, αV, AObj.of, allInt, βO, βL, βV, unp_pack]) h
theorem ofQ_ens (a : En) (l : List En) (e : TypeId) (t : Tl) (c : FObj → FR) : ofQ (ens (a :: l)) e t c = c (.cells (ens (a :: l)) e t) := rfl
theorem ofQ_ens2 (l : List En) (a : En) (e : TypeId) (t : Tl) (c : FObj → FR) : ofQ (ens (l ++ [a])) e t c = c (.cells (ens (l ++ [a])) e t) := by
  cases l with
  | nil => exact ofQ_ens a [] e t c
  | cons x l => exact ofQ_ens x _ e t c
theorem ens_cat (l : List En) (a : En) : ((ens l).drop 0).take (l.length * 3) ++ ((enV a).drop 0).take (1 * 3) = ens (l ++ [a]) := by
  rw [ens_app, ens_one1, List.drop_zero, List.drop_zero, List.take_of_length_le (by rw [ens_len]; exact Nat.le_refl _)]; rfl
def EnAt (m : T FObj) (lo hi : Nat) (v : FV) (o : List En) : Prop := (o = [] ∧ v = .o .sl) ∨ ∃ b, v = .sl b 0 o.length o.length false 3 ∧ lo ≤ b ∧ b < hi ∧ Am m b (.cells (ens o) 86 .more)
theorem apEn {O : Oz} (hO : O = zO) {P : FR} {k : KV} {lo n : Nat} {m : T FObj} {e' : TypeId} {tl' : Tl} {out : List En} {a : En} {v : FV} {b' K' : Nat} {x' : Bool} (hE : EnAt m lo b' v out) (ha' : Am m b' (.cells (enV a) e' tl')) (hb : out.length ≤ 1000) (hlo : lo ≤ n) (hbn : b' < n) (hn : n < 1000000)
    (h : ∀ m2, (∀ b o, b < lo → Am m b o → Am m2 b o) → EnAt m2 lo (n + 1) (.sl n 0 (out.length + 1) (out.length + 1) false 3) (out ++ [a]) → k (.sl n 0 (out.length + 1) (out.length + 1) false 3) ⟨n + 1, m2⟩ = P) : O.ap 86 false 3 v (.sl b' 0 1 K' x' 3) ⟨n, m⟩ k = P := by
  rcases hE with ⟨rfl, rfl⟩ | ⟨b, rfl, h1, h2, h3⟩
  · refine apNC hO ha' (by show 0 + 1 * 3 ≤ 3; omega) (enV_one _) (by omega) (by omega) hn (fun c => ofQ_ens2 [] a 86 _ c) (h _ (fun b o hb ha => am_ne hn (by omega) ha) (.inr ⟨n, rfl, hlo, by omega, am_same hn⟩))
  · refine apCC hO h3 ha' (by rw [ens_len]; omega) (by show 0 + 1 * 3 ≤ 3; omega) (ens_one _) (enV_one _) (by omega) (by rfl) (fun _ => rfl) (by omega) hn (fun c => ?_) ?_
    · rw [ens_cat]; exact ofQ_ens2 _ _ _ _ _
    · rw [ens_cat]
      refine h _ (fun b o hb ha => am_ne hn (by omega) (am_ne (by omega) (by omega) ha)) (.inr ⟨n, by rw [List.length_append]; rfl, hlo, by omega, am_same hn⟩)
def RowE (m : T FObj) (n : Nat) (v : FV) (l : List En) : Prop := (l = [] ∧ v = .o .sl) ∨ ∃ b K x e tl, v = .sl b 0 l.length K x 3 ∧ b < n ∧ Am m b (.cells (ens l) e tl)
theorem RowE.kq {m m' : T FObj} {n k : Nat} {v : FV} {l : List En} {xs : List Nat} (h : RowE m n v l) (hk : Kq xs k m m') (hn : n ≤ k) (hx : ∀ x ∈ xs, n ≤ x) : RowE m' n v l := by
  rcases h with h | ⟨b, K, x, e, tl, h1, h2, h3⟩
  · exact .inl h
  · exact .inr ⟨b, K, x, e, tl, h1, h2, hk _ _ (by omega) (fun x hx2 => by have := hx x hx2; omega) h3⟩
theorem RowE.kp {m m' : T FObj} {n k : Nat} {v : FV} {l : List En} (h : RowE m n v l) (hk : Kp k m m') (hn : n ≤ k) : RowE m' n v l := h.kq (Kq.of hk []) hn (fun x hx => absurd hx List.not_mem_nil)
theorem RowE.up {m : T FObj} {n n' : Nat} {v : FV} {l : List En} (h : RowE m n v l) (hn : n ≤ n') : RowE m n' v l := by
  rcases h with h | ⟨b, K, x, e, tl, h1, h2, h3⟩
  · exact .inl h
  · exact .inr ⟨b, K, x, e, tl, h1, by omega, h3⟩
theorem EnAt.row {m : T FObj} {lo hi : Nat} {v : FV} {o : List En} (h : EnAt m lo hi v o) : RowE m hi v o := by
  rcases h with h | ⟨b, h1, h2, h3, h4⟩
  · exact .inl h
  · exact .inr ⟨b, _, _, _, _, h1, h3, h4⟩
theorem EnAt.nil (m : T FObj) (lo hi : Nat) : EnAt m lo hi (.o .sl) [] := .inl ⟨rfl, rfl⟩
theorem EnAt.kp {m m' : T FObj} {lo hi k : Nat} {v : FV} {o : List En} (h : EnAt m lo hi v o) (hk : Kp k m m') (hn : hi ≤ k) : EnAt m' lo hi v o := by
  rcases h with h | ⟨b, h1, h2, h3, h4⟩
  · exact .inl h
  · exact .inr ⟨b, h1, h2, h3, hk _ _ (by omega) h4⟩
theorem EnAt.up {m : T FObj} {lo hi hi' : Nat} {v : FV} {o : List En} (h : EnAt m lo hi v o) (hn : hi ≤ hi') : EnAt m lo hi' v o := by
  rcases h with h | ⟨b, h1, h2, h3, h4⟩
  · exact .inl h
  · exact .inr ⟨b, h1, h2, by omega, h4⟩
theorem lvE {O : Oz} (hO : O = zO) {P : FR} {c : FV → FR} {m : T FObj} {n : Nat} {v : FV} {l : List En} (h : RowE m n v l) (hc : c (.n .i64 l.length) = P) : O.lv v c = P := by
  rcases h with ⟨rfl, rfl⟩ | ⟨b, K, x, e, tl, rfl, h2, h3⟩
  · exact lvN hO hc
  · exact lvS hO hc
structure RTree (m : T FObj) (rb n : Nat) (v : FV) (t : Tr) : Prop where
  s : Am m rb (.cells [v, .s (pack t.cwd)] 91 .exact)
  r : RowE m n v t.L
/-! Strings compared. -/
theorem geSB {O : Oz} (hO : O = zO) {P : FR} {c : FV → FR} {a b : Bs} (h1 : ¬ a < b → c (.b true) = P) (h0 : a < b → c (.b false) = P) : O.ge (.s (pack a)) (.s (pack b)) c = P := by
  subst hO
  show gS .geq (pack a) (pack b) c = P
  unfold gS
  rw [unp_pack, unp_pack]
  show gB true (c (.b (!Op.bytesLess a b))) = P
  rw [bytesLess_eq]
  by_cases h : a < b
  · rw [decide_eq_true h]; exact h0 h
  · rw [decide_eq_false h]; exact h1 h
end Go.Proofs.YtjoakhpdajlhiaaDoor.V2.S
namespace Go.Proofs.YtjoakhpdajlhiaaDoor.V2.S
open Go
set_option maxRecDepth 100000
set_option linter.unusedVariables false
theorem top_pack : ∀ a : Nat, top1 a = pack (List.replicate a 0)
  | 0 => by rw [top1_eq]; rfl
  | a + 1 => by
    have := top_pack a
    rw [top1_eq] at this
    rw [top1_eq, List.replicate_succ]
    show _ = (0 : UInt8).toNat + 256 * pack (List.replicate a 0)
    rw [← this, Nat.pow_succ]
    show _ = 0 + _
    omega
section
variable {O : Oz} (hO : O = zO) {P : FR} {c : FV → FR} {k : KV} {n : Nat} {m : T FObj}
include hO
theorem hl8 {a : Nat} (ha : a ≤ 255) (hc : c (.n .i64 (a * 256)) = P) : O.hl (.n .i64 a) (.n .u64 8) c = P := by
  subst hO
  show (Bool.rec (gI .shl .i64 (Int.ofNat a) (Int.ofNat 8) c) (wN .i64 (Nat.shiftLeft a 8) c) (Nat.ble 8 (bitsF .i64)) : FR) = P
  rw [show Nat.ble 8 (bitsF .i64) = true from rfl, show Nat.shiftLeft a 8 = a * 256 from Nat.shiftLeft_eq a 8]
  show (fN (a * 256) fun m => Bool.rec (sW .i64 (Int.ofNat m) c) (c (.n .i64 m)) (Nat.ble m (lim .i64)) : FR) = P
  rw [fN_eq, show Nat.ble (a * 256) (lim .i64) = true from ble_t (show a * 256 ≤ 9223372036854775807 by omega)]; exact hc
theorem roB {a b : Nat} (ha : a ≤ 255) (hb : b ≤ 255) (hc : c (.n .i64 (a * 256 + b)) = P) : O.ro (.n .i64 (a * 256)) (.n .i64 b) c = P := by
  subst hO
  show gK .i64 .i64 (Bool.rec (gI .or .i64 (Int.ofNat (a * 256)) (Int.ofNat b) c) (Bool.rec (gI .or .i64 (Int.ofNat (a * 256)) (Int.ofNat b) c) (fN (Nat.lor (a * 256) b) fun r => c (.n .i64 r)) (Nat.ble b (lim .i64))) (Nat.ble (a * 256) (lim .i64)) : FR) = P
  rw [show Nat.ble (a * 256) (lim .i64) = true from ble_t (show a * 256 ≤ 9223372036854775807 by omega), show Nat.ble b (lim .i64) = true from ble_t (show b ≤ 9223372036854775807 by omega)]
  have e : Nat.lor (a * 256) b = a * 256 + b := by
    have := (Nat.shiftLeft_add_eq_or_of_lt (i := 8) (b := b) (by omega) a).symm
    rw [Nat.shiftLeft_eq] at this
    exact this
  show (fN (Nat.lor (a * 256) b) fun r => c (.n .i64 r)) = P
  rw [fN_eq, e]; exact hc
theorem hl0 (hc : c (.n .i64 0) = P) : O.hl (.n .i64 0) (.n .u64 8) c = P := hl8 hO (a := 0) (by decide) hc
theorem ro0 (hc : c (.n .i64 0) = P) : O.ro (.n .i64 0) (.n .i64 0) c = P := roB hO (a := 0) (b := 0) (by decide) (by decide) hc
theorem mkB {a : Nat} {e : TypeId} (ha : a ≤ 1000000) (hn : n < 1000000) (h : k (.sl n 0 a a true 1) ⟨n + 1, mp m n (.bs (pack (List.replicate a 0)) e .exact)⟩ = P) : O.nq (.makeSl e 1 [.int .u8 0]) [.n .i64 a, .n .i64 a] ⟨n, m⟩ k = P := by
  subst hO
  show gT (Nat.ble a a) (gT (Nat.ble a 1000000) (fN (top1 a) fun z => nM ⟨n, m⟩ (.bs z e .exact) fun b σ => k (.sl b 0 a a true 1) σ)) = P
  rw [gTt (ble_t (Nat.le_refl a)), gTt (ble_t ha), fN_eq, nM_mp hn, top_pack]; exact h
theorem bSP {b o L Kk : Nat} {x : Bool} {l : Bs} {e : TypeId} {t : Tl} (ha : Am m b (.bs (pack l) e t)) (hl : o + L ≤ l.length) (h : c (.s (pack ((l.drop o).take L))) = P) : O.bS (.sl b o L Kk x 1) ⟨n, m⟩ c = P := by
  subst hO
  show (rowQ false 1 ⟨n, m⟩ (.sl b o L Kk x 1) fun _ R => kR (fun s => c (.s s)) (fun l => List.rec (motive := fun _ => FR) (c (.s 1)) (fun _ _ _ => .bad) l) (fun _ _ => slV (lstep std (αH ⟨n, m⟩) .sl2str [αV (.sl b o L Kk x 1)]) c) R) = P
  rw [rowQs, rowSb ha hl]; exact h
end
end Go.Proofs.YtjoakhpdajlhiaaDoor.V2.S
namespace Go.Proofs.YtjoakhpdajlhiaaDoor.V2.S
open Go
set_option maxRecDepth 100000
set_option maxHeartbeats 4000000
set_option linter.unusedVariables false
attribute [local irreducible] fN fO nM gM pM Phi.fn mp bl bpart bapp top1 pack
def RdS (m : T FObj) (rb Bb o R : Nat) (s : Bool) : Prop := ∃ K x, R ≤ K ∧ Am m rb (.cells [.sl Bb o R K x 1, .b s] 79 .exact)
def TakeS (H : HF) : Prop := ∀ {rb Bb o R many n : Nat} {s : Bool} {l : Bs} {e : TypeId} {tl : Tl} {m : T FObj}, RdS m rb Bb o R s → Am m Bb (.bs (pack l) e tl) → rb < n → Bb < n → rb ≠ Bb → o + R = l.length → l.length ≤ 900000 → many ≤ 900000 → ∀ (k : KV) (P : FR), n + 1 ≤ 1000000 →
  (s = true ∨ R < many → ∀ m', Kq [rb] n m m' → RdS m' rb Bb o R true → Am m' n (.bs (pack (List.replicate (min many 2) 0)) 5 .exact) → k (.sl n 0 (min many 2) (min many 2) true 1) ⟨n + 1, m'⟩ = P) →
  (s = false → many ≤ R → ∀ m' K x, Kq [rb] n m m' → RdS m' rb Bb (o + many) (R - many) false → k (.sl Bb o many K x 1) ⟨n, m'⟩ = P) → H [.p rb 0, .n .i64 many] ⟨n, m⟩ k = P
theorem take_s {O : Oz} (hO : O = zO) (Φ : Phi) : TakeS (p44 O Φ) := fun {rb Bb o R many n s l e tl m} hR ha hrb hBb hne hl hl9 hmany k P hn h1 h2 => by
  obtain ⟨K, x, hK, hr⟩ := hR
  cases s
  repeat' ((conv => lhs; whnf); first | ((with_reducible refine mkB hO (by omega) (by omega) ?_)) | ((with_reducible refine fa0 hO ?_)) | ((with_reducible refine atLd ?_); refine ldC hO aQ (by rfl) ?_) | ((with_reducible refine lvS hO ?_)) | ((with_reducible refine gtB hO (fun h => ?_) (fun h => ?_))) | ((with_reducible refine mnI hO ?_)) | ((with_reducible refine svH hO (by omega) ?_)) | ((with_reducible refine svL hO (by omega) ?_)) | ((with_reducible refine atSt ?_); refine stC hO aQ (by kernel_rfl) (fun _ _ _ => rfl) (fun _ => rfl) ?_))
  all_goals (conv => lhs; whnf)
  all_goals first
    | exact h1 (.inl rfl) _ qQ ⟨K, x, hK, aQ⟩ (am_same (by omega))
    | exact h1 (.inr (by omega)) _ qQ ⟨K, x, hK, aQ⟩ (am_same (by omega))
    | exact h2 rfl (by omega) _ _ _ qQ ⟨K - many, x, by omega, by rw [show o + many = o + many * 1 by omega]; repeat (first | assumption | exact am_same (by omega) | apply am_ne (by omega) (by omega) | apply kp_am (by assumption) (by omega) | apply Kq.am (by assumption) (by omega) (by simp only [List.mem_cons, List.not_mem_nil, or_false, forall_eq_or_imp, forall_eq, false_implies, implies_true, ne_eq, and_true]; omega))⟩
end Go.Proofs.YtjoakhpdajlhiaaDoor.V2.S
namespace Go.Proofs.YtjoakhpdajlhiaaDoor.V2.S
open Go
set_option maxRecDepth 100000
set_option maxHeartbeats 4000000
set_option linter.unusedVariables false
attribute [local irreducible] fN fO nM gM pM Phi.fn mp bl bpart bapp top1 pack
theorem bt_rep (k i : Nat) : bt (List.replicate k 0) i = 0 := by
  unfold bt
  rw [List.getD_eq_getElem?_getD, List.getElem?_replicate]
  split <;> rfl
theorem bt_le (l : Bs) (i : Nat) : bt l i ≤ 255 := by
  unfold bt
  have := (l.getD i 0).toNat_lt
  omega
def numV (l : Bs) (o : Nat) : Nat := bt l o * 256 + bt l (o + 1)
theorem numV_le (l : Bs) (o : Nat) : numV l o ≤ 65535 := by
  unfold numV
  have := bt_le l o
  have := bt_le l (o + 1)
  omega
theorem roN {O : Oz} (hO : O = zO) {P : FR} {c : FV → FR} {l : Bs} {o : Nat} (hc : c (.n .i64 (numV l o)) = P) : O.ro (.n .i64 (bt l o * 256)) (.n .i64 (bt l (o + 1))) c = P := roB hO (bt_le l o) (bt_le l (o + 1)) hc
attribute [local irreducible] numV
def NumS (H : HF) : Prop := ∀ {rb Bb o R n : Nat} {s : Bool} {l : Bs} {e : TypeId} {tl : Tl} {m : T FObj}, RdS m rb Bb o R s → Am m Bb (.bs (pack l) e tl) → rb < n → Bb < n → rb ≠ Bb → o + R = l.length → l.length ≤ 900000 → ∀ (k : KV) (P : FR), n + 1 ≤ 1000000 →
  (s = true ∨ R < 2 → ∀ n' m', n ≤ n' → n' ≤ n + 1 → Kq [rb] n m m' → RdS m' rb Bb o R true → k (.n .i64 0) ⟨n', m'⟩ = P) →
  (s = false → 2 ≤ R → ∀ m', Kq [rb] n m m' → RdS m' rb Bb (o + 2) (R - 2) false → k (.n .i64 (numV l o)) ⟨n, m'⟩ = P) → H [.p rb 0] ⟨n, m⟩ k = P
theorem num_s {O : Oz} (hO : O = zO) (Φ : Phi) (H : TakeS (Phi.fn Φ 44)) : NumS (p43 O Φ) := fun {rb Bb o R n s l e tl m} hR ha hrb hBb hne hl hl9 k P hn h1 h2 => by
  have hb0 := bt_le l o
  have hb1 := bt_le l (o + 1)
  repeat' ((conv => lhs; whnf); first | ((with_reducible refine hl0 hO ?_)) | ((with_reducible refine ro0 hO ?_)) | ((with_reducible refine hl8 hO (by omega) ?_)) | ((refine roN (l := l) (o := o) hO ?_)) | ((with_reducible refine atFn ?_); (refine H hR ha (by omega) (by omega) hne hl hl9 (by omega) _ _ (by omega) (fun hs m1 k1 r1 a1 => ?_) (fun hs hm m1 K1 x1 k1 r1 => ?_); rw [Nat.min_self])) | ((with_reducible refine atLd ?_); first | (refine ldB hO a1 (by rw [List.length_replicate]; decide) ?_; rw [bt_rep]) | (refine ldB hO aQ (by omega) ?_; first | rw [show o + 0 = o from rfl] | rw [show o + 1 * 1 = o + 1 from rfl] | skip)) | ((with_reducible refine cvI hO (by omega) ?_)) | ((with_reducible refine ix01 hO (by omega) ?_)) | ((with_reducible refine ix1 hO (by omega) ?_)))
  all_goals (conv => lhs; whnf)
  all_goals first
    | exact h1 (by assumption) _ _ (by omega) (by omega) qQ r1
    | exact h2 (by assumption) (by assumption) _ qQ r1
def TextS (H : HF) : Prop := ∀ {rb Bb o R n : Nat} {s : Bool} {l : Bs} {e : TypeId} {tl : Tl} {m : T FObj}, RdS m rb Bb o R s → Am m Bb (.bs (pack l) e tl) → rb < n → Bb < n → rb ≠ Bb → o + R = l.length → l.length ≤ 900000 → ∀ (k : KV) (P : FR), n + 2 ≤ 1000000 →
  (s = true ∨ R < 2 ∨ R - 2 < numV l o → ∀ z o' R' n' m', z.length ≤ 2 → o' + R' = l.length → n ≤ n' → n' ≤ n + 2 → Kq [rb] n m m' → RdS m' rb Bb o' R' true → k (.s (pack z)) ⟨n', m'⟩ = P) →
  (s = false → 2 ≤ R → numV l o ≤ R - 2 → ∀ m', Kq [rb] n m m' → RdS m' rb Bb (o + 2 + numV l o) (R - 2 - numV l o) false → k (.s (pack ((l.drop (o + 2)).take (numV l o)))) ⟨n, m'⟩ = P) → H [.p rb 0] ⟨n, m⟩ k = P
theorem text_s {O : Oz} (hO : O = zO) (Φ : Phi) (HN : NumS (Phi.fn Φ 43)) (H : TakeS (Phi.fn Φ 44)) : TextS (p42 O Φ) := fun {rb Bb o R n s l e tl m} hR ha hrb hBb hne hl hl9 k P hn h1 h2 => by
  have hnv := numV_le l o
  repeat' ((conv => lhs; whnf); first | (refine bSP hO aQ (by first | omega | (rw [List.length_replicate]; omega)) ?_) | ((with_reducible refine atFn ?_); first | refine HN hR ha (by omega) (by omega) hne hl hl9 _ _ (by omega) (fun hs n1 m1 h3 g3 k1 r1 => ?_) (fun hs hm m1 k1 r1 => ?_) | refine H r1 aQ (by omega) (by omega) hne (by omega) hl9 (by omega) _ _ (by omega) (fun hs2 m2 k2 r2 a2 => ?_) (fun hs2 hm2 m2 K2 x2 k2 r2 => ?_)))
  all_goals (conv => lhs; whnf)
  all_goals first
    | exact absurd hs2 (by decide)
    | exact h1 (hs.elim .inl fun h => .inr (.inl h)) _ o R _ _ (by rw [List.length_take, List.length_drop, List.length_replicate]; omega) (by omega) (by omega) (by omega) qQ (by assumption)
    | exact h1 (.inr (.inr (by rcases hs2 with h | h; cases h; exact h))) _ (o + 2) (R - 2) _ _ (by rw [List.length_take, List.length_drop, List.length_replicate]; omega) (by omega) (by omega) (by omega) qQ (by assumption)
    | exact h2 (by assumption) (by assumption) (by assumption) _ qQ (by assumption)
end Go.Proofs.YtjoakhpdajlhiaaDoor.V2.S
namespace Go.Proofs.YtjoakhpdajlhiaaDoor.V2.S
open Go
set_option maxRecDepth 100000
set_option linter.unusedVariables false
theorem good_of {n : Bs} (h : nameB n = true) : Good n := by
  have h' := h
  unfold nameB at h
  simp only [Bool.and_eq_true, decide_eq_true_eq, Bool.not_eq_true'] at h
  obtain ⟨⟨⟨⟨h1, h2⟩, h3⟩, h4⟩, h5⟩ := h
  refine ⟨h', ?_, h1, h2, h3⟩
  unfold countS
  rw [List.count_eq_zero]
  intro hm
  rw [List.any_eq_false] at h5
  exact h5 47 hm (by decide)
structure St (t : Tr) (a : Bs) (ns : List Bs) : Prop where
  g : ∀ x ∈ ns, Good x
  e : a = dirP ns
  k : ∀ j, j < ns.length → kindG t (dirP (ns.take j)) = 1
theorem dirP_long {a : List Bs} {n : Bs} (hn : Good n) : dirP (a ++ [n]) ≠ [47] := by
  rw [dirP_snoc]
  intro h
  have := congrArg List.length h
  have h1 := List.length_pos_iff.2 hn.e1
  simp only [List.length_append, List.length_cons, List.length_nil] at this
  omega
theorem dirP_inj {a b : List Bs} (ha : ∀ x ∈ a, Good x) (hb : ∀ x ∈ b, Good x) (h : dirP a = dirP b) : a = b := by
  rcases List.eq_nil_or_concat a with rfl | ⟨c, x, rfl⟩
  · rcases List.eq_nil_or_concat b with rfl | ⟨d, y, rfl⟩
    · rfl
    · rw [List.concat_eq_append] at *
      exact absurd h.symm (dirP_long (hb y (by simp)))
  · rw [List.concat_eq_append] at *
    rcases List.eq_nil_or_concat b with rfl | ⟨d, y, rfl⟩
    · exact absurd h (dirP_long (ha x (by simp)))
    · rw [List.concat_eq_append] at *
      rw [dirP, if_neg (by simp), dirP, if_neg (by simp)] at h
      have := congrArg splitB h
      rw [split_pF fun n hn => (ha n hn).c0, split_pF fun n hn => (hb n hn).c0] at this
      exact (List.cons.inj this).2
theorem kind_some {t : Tr} {p : Bs} (h : kindG t p ≠ 0) (hp : p ≠ [47]) : ∃ e, look t p = some e ∧ e ∈ t.L ∧ e.path = p ∧ kindG t p = if e.dir then 1 else 2 := by
  unfold kindG at h ⊢
  rw [if_neg hp] at h ⊢
  cases hl : look t p with
  | none => rw [hl] at h; exact absurd rfl h
  | some e => exact ⟨e, rfl, look_in hl, (look_sizes hl).2, rfl⟩
theorem kind_le (t : Tr) (p : Bs) : kindG t p = 0 ∨ kindG t p = 1 ∨ kindG t p = 2 := by
  unfold kindG
  split
  · exact .inr (.inl rfl)
  split
  · split
    · exact .inr (.inl rfl)
    · exact .inr (.inr rfl)
  · exact .inl rfl
structure OkT (t : Tr) : Prop where
  en : ∀ e ∈ t.L, ∃ ns n, (∀ x ∈ ns, Good x) ∧ Good n ∧ e.path = dirP (ns ++ [n]) ∧ kindG t (dirP ns) = 1
  cw : ∃ ns, (∀ x ∈ ns, Good x) ∧ t.cwd = dirP ns ∧ kindG t t.cwd = 1
  dd : ∀ e ∈ t.L, e.dir = true → e.data = []
theorem OkT.up {t : Tr} (h : OkT t) {ms : List Bs} {n : Bs} (hm : ∀ x ∈ ms, Good x) (hn : Good n) (hk : kindG t (dirP (ms ++ [n])) ≠ 0) : kindG t (dirP ms) = 1 := by
  obtain ⟨e, h1, h2, h3, _⟩ := kind_some hk (dirP_long hn)
  obtain ⟨ns, n', g1, g2, g3, g4⟩ := h.en e h2
  have : ms ++ [n] = ns ++ [n'] := dirP_inj (fun x hx => (List.mem_append.1 hx).elim (hm x) fun h => by rw [List.mem_singleton.1 h]; exact hn) (fun x hx => (List.mem_append.1 hx).elim (g1 x) fun h => by rw [List.mem_singleton.1 h]; exact g2) (h3.symm.trans g3)
  obtain ⟨rfl, _⟩ := List.append_inj' this rfl
  exact g4
theorem OkT.chain {t : Tr} (h : OkT t) : ∀ (k : Nat) (ns : List Bs), ns.length = k → (∀ x ∈ ns, Good x) → kindG t (dirP ns) ≠ 0 → ∀ j, j < ns.length → kindG t (dirP (ns.take j)) = 1
  | 0, ns, hl, _, _, j, hj => by omega
  | k + 1, ns, hl, hg, hk, j, hj => by
    rcases List.eq_nil_or_concat ns with rfl | ⟨ms, n, rfl⟩
    · cases hl
    · rw [List.concat_eq_append] at *
      rw [List.length_append, List.length_singleton] at hl hj
      have hm : ∀ x ∈ ms, Good x := fun x hx => hg x (by simp [hx])
      have h1 := h.up hm (hg n (by simp)) hk
      rcases Nat.lt_or_ge j ms.length with h2 | h2
      · rw [List.take_append_of_le_length (by omega)]
        exact OkT.chain h k ms (by omega) hm (by omega) j h2
      · rw [List.take_left' (by omega)]; exact h1
theorem OkT.st {t : Tr} (h : OkT t) {ns : List Bs} (hg : ∀ x ∈ ns, Good x) (hk : kindG t (dirP ns) ≠ 0) : St t (dirP ns) ns := ⟨hg, rfl, h.chain _ ns rfl hg hk⟩
theorem step_st {t : Tr} {a b p : Bs} {ns : List Bs} (hs : St t a ns) (h : stepG t a p = .inr b) : ∃ ms, St t b ms := by
  obtain ⟨hg, rfl, hk⟩ := hs
  unfold stepG at h
  split at h
  · cases h; exact ⟨ns, hg, rfl, hk⟩
  rename_i h1
  split at h
  · cases h
  rename_i h2
  split at h
  · cases h
  rename_i h3
  split at h
  · cases h
  rename_i h4
  have h5 : kindG t (dirP ns) = 1 := by have := kind_le t (dirP ns); omega
  split at h
  · cases h
    rcases List.eq_nil_or_concat ns with rfl | ⟨ms, n, rfl⟩
    · exact ⟨[], hg, by decide, hk⟩
    · rw [List.concat_eq_append] at *
      rw [par_dirP ms (hg n (by simp))]
      exact ⟨ms, fun x hx => hg x (by simp [hx]), rfl, fun j hj => by
        have := hk j (by rw [List.length_append]; omega)
        rwa [List.take_append_of_le_length (by omega)] at this⟩
  · rename_i h6
    cases h
    have hn : Good p := good_of (by
      cases hq : nameB p with
      | true => rfl
      | false => exact absurd ⟨h6, hq⟩ h2)
    rw [join_dirP hg]
    refine ⟨ns ++ [p], fun x hx => (List.mem_append.1 hx).elim (hg x) fun h => by rw [List.mem_singleton.1 h]; exact hn, rfl, fun j hj => ?_⟩
    rw [List.length_append, List.length_singleton] at hj
    rcases Nat.lt_or_ge j ns.length with h7 | h7
    · rw [List.take_append_of_le_length (by omega)]; exact hk j h7
    · rw [List.take_left' (by omega)]; exact h5
theorem loop_st {t : Tr} : ∀ {ps : List Bs} {a b : Bs} {ns : List Bs}, St t a ns → loopG t a ps = .inr b → ∃ ms, St t b ms
  | [], a, b, ns, hs, h => by unfold loopG at h; cases h; exact ⟨ns, hs⟩
  | p :: ps, a, b, ns, hs, h => by
    unfold loopG at h
    cases hq : stepG t a p with
    | inl e => rw [hq] at h; cases h
    | inr c =>
      rw [hq] at h
      obtain ⟨ms, h1⟩ := step_st hs hq
      exact loop_st h1 h
theorem OkT.abs {t : Tr} (h : OkT t) {path : Bs} (h0 : (absG t path).2 = 0) : ∃ ns, St t (absG t path).1 ns := by
  unfold absG at h0 ⊢
  split
  · rename_i hh; rw [if_pos hh] at h0; cases h0
  · rename_i hh
    rw [if_neg hh] at h0
    cases hl : loopG t (if hasPre path [47] then [47] else t.cwd) (splitB path) with
    | inl e =>
      rw [hl] at h0
      have : e = 0 := h0
      exact absurd hl (by subst this; exact loopG_ne0)
    | inr a =>
      obtain ⟨ns, g1, g2, g3⟩ := h.cw
      have hc : St t t.cwd ns := ⟨g1, g2, h.chain _ ns rfl g1 (by rw [← g2, g3]; decide)⟩
      by_cases hp : hasPre path [47] = true
      · rw [if_pos hp] at hl
        exact loop_st (ns := []) ⟨fun x hx => absurd hx List.not_mem_nil, rfl, fun j hj => absurd hj (Nat.not_lt_zero _)⟩ hl
      · rw [if_neg hp] at hl
        exact loop_st hc hl
theorem look_set (p : Bs) (x : En) : ∀ L : List En, lookM En.path p (setM En.path x L) = if x.path = p then some x else lookM En.path p L
  | [] => rfl
  | a :: L => by
    unfold setM
    by_cases ha : a.path = x.path
    · rw [if_pos ha]
      unfold lookM
      by_cases hp : x.path = p
      · rw [if_pos hp, if_pos hp]
      · rw [if_neg hp, if_neg hp, if_neg (by rw [ha]; exact hp)]
    · rw [if_neg ha]
      unfold lookM
      by_cases hp : a.path = p
      · rw [if_pos hp, if_pos hp, if_neg (fun h => ha (by rw [hp, h]))]
      · rw [if_neg hp, if_neg hp, look_set p x L]
theorem kind_set {t : Tr} {x : En} {p : Bs} (hx : x.path ≠ [47]) : kindG { t with L := setM En.path x t.L } p = if x.path = p then (if x.dir then 1 else 2) else kindG t p := by
  unfold kindG look
  rw [look_set]
  by_cases hp : x.path = p
  · rw [if_pos hp, if_pos hp, if_neg (fun h => hx (by rw [hp, h]))]
  · rw [if_neg hp, if_neg hp]
theorem putG_ok {t : Tr} {x : En} (h : (putG t x).2 = 0) : (putG t x).1 = { t with L := setM En.path x t.L } ∧ x.path.length ≤ 256 ∧ x.data.length ≤ 8192 := by
  unfold putG at h ⊢
  split
  · rename_i hh; rw [if_pos hh] at h; cases h
  rename_i h1
  rw [if_neg h1] at h
  split
  · rename_i hh; rw [if_pos hh] at h; cases h
  · exact ⟨rfl, by omega, by omega⟩
theorem putG_no {t : Tr} {x : En} (h : (putG t x).2 ≠ 0) : (putG t x).1 = t := by
  unfold putG at h ⊢
  split
  · rfl
  rename_i h1
  rw [if_neg h1] at h
  split
  · rfl
  rename_i h2
  rw [if_neg h2] at h; exact absurd rfl h
theorem OkT.set {t : Tr} (h : OkT t) {x : En} {ns : List Bs} {n : Bs} (hg : ∀ y ∈ ns, Good y) (hn : Good n) (hx : x.path = dirP (ns ++ [n])) (hp : kindG t (dirP ns) = 1) (hk : x.dir = true ∧ x.data = [] ∨ x.dir = false ∧ kindG t x.path ≠ 1) : OkT { t with L := setM En.path x t.L } := by
  have hxn : x.path ≠ [47] := by rw [hx]; exact dirP_long hn
  have keep : ∀ p, kindG t p = 1 → kindG { t with L := setM En.path x t.L } p = 1 := fun p hp => by
    rw [kind_set hxn]
    split
    · rename_i he
      subst he
      rcases hk with ⟨h1, _⟩ | ⟨h1, h2⟩
      · rw [if_pos h1]
      · exact absurd hp h2
    · exact hp
  refine ⟨fun e he => ?_, ?_, fun e he hd => ?_⟩
  · rcases setM_mem he with rfl | he
    · exact ⟨ns, n, hg, hn, hx, keep _ hp⟩
    · obtain ⟨ms, m, h1, h2, h3, h4⟩ := h.en e he
      exact ⟨ms, m, h1, h2, h3, keep _ h4⟩
  · obtain ⟨ms, h1, h2, h3⟩ := h.cw
    exact ⟨ms, h1, h2, keep _ h3⟩
  · rcases setM_mem he with rfl | he
    · rcases hk with ⟨_, h1⟩ | ⟨h1, _⟩
      · exact h1
      · rw [hd] at h1; cases h1
    · exact h.dd e he hd
theorem St.last {t : Tr} {a : Bs} {ns : List Bs} (h : St t a ns) (ha : a ≠ [47]) : ∃ ms m, (∀ y ∈ ms, Good y) ∧ Good m ∧ a = dirP (ms ++ [m]) ∧ kindG t (dirP ms) = 1 ∧ ns = ms ++ [m] := by
  obtain ⟨hg, rfl, hk⟩ := h
  rcases List.eq_nil_or_concat ns with rfl | ⟨ms, m, rfl⟩
  · exact absurd rfl ha
  · rw [List.concat_eq_append] at *
    refine ⟨ms, m, fun y hy => hg y (by simp [hy]), hg m (by simp), rfl, ?_, rfl⟩
    have := hk ms.length (by simp)
    rwa [List.take_left' rfl] at this
theorem is_eq {t : Tr} {path : Bs} {kd : Nat} (h : (isG t path kd).2 = 0) : (absG t path).2 = 0 ∧ kindG t (absG t path).1 = kd ∧ (isG t path kd).1 = (absG t path).1 := by
  unfold isG at h ⊢
  by_cases h1 : (absG t path).2 ≠ 0
  · rw [if_pos h1] at h; exact absurd h h1
  rw [if_neg h1] at h ⊢
  by_cases h2 : kindG t (absG t path).1 = kd
  · rw [if_pos h2]; exact ⟨by omega, h2, rfl⟩
  rw [if_neg h2] at h
  split at h <;> cases h
theorem cd_no {t : Tr} {path : Bs} (h : (cdG t path).2 ≠ 0) : (cdG t path).1 = t := by
  unfold cdG at h ⊢
  split
  · rfl
  rename_i h1
  rw [if_neg h1] at h; exact absurd rfl h
theorem cd_eq {t : Tr} {path : Bs} (h : (cdG t path).2 = 0) : (absG t path).2 = 0 ∧ kindG t (absG t path).1 = 1 ∧ (cdG t path).1 = { t with cwd := (absG t path).1 } := by
  unfold cdG at h ⊢
  by_cases h1 : (isG t path 1).2 ≠ 0
  · rw [if_pos h1] at h; exact absurd h h1
  rw [if_neg h1]
  obtain ⟨g1, g2, g3⟩ := is_eq (by omega : (isG t path 1).2 = 0)
  exact ⟨g1, g2, by rw [g3]⟩
theorem OkT.new : OkT newG := ⟨fun e he => absurd he List.not_mem_nil, ⟨[], fun x hx => absurd hx List.not_mem_nil, rfl, rfl⟩, fun e he => absurd he List.not_mem_nil⟩
theorem OkT.cd {t : Tr} (h : OkT t) (path : Bs) : OkT (cdG t path).1 := by
  by_cases h0 : (cdG t path).2 = 0
  · obtain ⟨h1, h2, h3⟩ := cd_eq h0
    rw [h3]
    obtain ⟨ns, hs⟩ := h.abs h1
    exact ⟨fun e he => h.en e he, ⟨ns, hs.g, hs.e, h2⟩, h.dd⟩
  · rw [cd_no h0]; exact h
end Go.Proofs.YtjoakhpdajlhiaaDoor.V2.S
namespace Go.Proofs.YtjoakhpdajlhiaaDoor.V2.S
open Go
set_option maxRecDepth 100000
set_option linter.unusedVariables false
def twoB (a : Nat) : Bs := [UInt8.ofNat (a / 256 % 256), UInt8.ofNat (a % 256)]
def toldB (s : Bs) : Bs := (twoB s.length).take 2 ++ s
theorem toldB_len (s : Bs) : (toldB s).length = 2 + s.length := by unfold toldB; rw [List.length_append]; rfl
def entB (e : En) : Bs := [if e.dir then 1 else 2] ++ toldB e.path ++ (if e.dir then [] else toldB e.data)
def treeB (t : Tr) : Bs := toldB t.cwd ++ twoB t.L.length ++ (sortE t.L).flatMap entB
def preB (t : Tr) : Bs := toldB t.cwd ++ twoB t.L.length
def byI (t : Tr) (i : Nat) : Bs := preB t ++ ((sortE t.L).take i).flatMap entB
theorem byI_0 (t : Tr) : byI t 0 = preB t := by unfold byI; rw [List.take_zero, List.flatMap_nil, List.append_nil]
theorem byI_all (t : Tr) : byI t t.L.length = treeB t := by unfold byI treeB preB; rw [List.take_of_length_le (by rw [sortE_len]; exact Nat.le_refl _)]
theorem byI_succ {t : Tr} {i : Nat} {e : En} (h : (sortE t.L)[i]? = some e) : byI t (i + 1) = byI t i ++ entB e := by
  unfold byI
  rw [List.take_add_one, h, List.flatMap_append, List.append_assoc]
  show _ ++ (_ ++ [e].flatMap entB) = _
  rw [List.flatMap_singleton]
theorem entB_len (e : En) : (entB e).length ≤ 5 + e.path.length + e.data.length := by
  unfold entB
  split <;> simp only [List.length_append, toldB_len, List.length_cons, List.length_nil] <;> omega
theorem ents_len : ∀ l : List En, (l.flatMap entB).length ≤ 5 * l.length + sizesG l
  | [] => Nat.le_refl _
  | e :: l => by
    rw [List.flatMap_cons, List.length_append, List.length_cons]
    have := entB_len e
    have := ents_len l
    show _ ≤ _ + (e.path.length + e.data.length + sizesG l)
    omega
theorem byI_len {t : Tr} (hW : WfT t) (i : Nat) : (byI t i).length ≤ 34000 := by
  unfold byI preB
  rw [List.length_append, List.length_append, toldB_len]
  have h1 := ents_len ((sortE t.L).take i)
  have h2 := sizesG_le_take (sortE t.L) i
  rw [sizesG_perm (sortE_perm t.L)] at h2
  have h3 := hW.len
  have h4 := hW.sz
  have h5 := hW.c2
  have h6 : ((sortE t.L).take i).length ≤ t.L.length := by rw [List.length_take, sortE_len]; omega
  show _ + 2 + _ ≤ _
  omega
theorem tk0 {l : Bs} {L : Nat} (h : L = l.length) : (l.drop 0).take L = l := by rw [List.drop_zero, h, List.take_length]
theorem preB_eq (t : Tr) : preB t = ((toldB t.cwd).drop 0).take (2 + t.cwd.length) ++ ((twoB t.L.length).drop 0).take 2 := by
  rw [tk0 (toldB_len _).symm]; rfl
theorem preB_len (t : Tr) : 2 + t.cwd.length + 2 = (byI t 0).length := by rw [byI_0]; unfold preB; rw [List.length_append, toldB_len]; rfl
theorem ent_dir {t : Tr} {i L : Nat} {e : En} (hL : L = (byI t i).length) (he : (sortE t.L)[i]? = some e) (hd : e.dir = true) : byI t (i + 1) = ((((byI t i).drop 0).take L ++ (([UInt8.ofNat 1] : Bs).drop 0).take 1).drop 0).take (L + 1) ++ ((toldB e.path).drop 0).take (2 + e.path.length) := by
  rw [tk0 hL, tk0 (l := [UInt8.ofNat 1]) (L := 1) rfl, tk0 (by rw [List.length_append, hL]; rfl), tk0 (toldB_len _).symm, byI_succ he]
  unfold entB
  rw [if_pos hd, if_pos hd, List.append_nil, ← List.append_assoc]; rfl
theorem ent_file {t : Tr} {i L : Nat} {e : En} (hL : L = (byI t i).length) (he : (sortE t.L)[i]? = some e) (hd : e.dir = false) : byI t (i + 1) = ((((((byI t i).drop 0).take L ++ (([UInt8.ofNat 2] : Bs).drop 0).take 1).drop 0).take (L + 1) ++ ((toldB e.path).drop 0).take (2 + e.path.length)).drop 0).take (L + 1 + (2 + e.path.length)) ++ ((toldB e.data).drop 0).take (2 + e.data.length) := by
  rw [tk0 hL, tk0 (l := [UInt8.ofNat 2]) (L := 1) rfl, tk0 (l := byI t i ++ [UInt8.ofNat 2]) (L := L + 1) (by rw [List.length_append, hL]; rfl), tk0 (l := toldB e.path) (toldB_len _).symm, tk0 (l := toldB e.data) (toldB_len _).symm, tk0 (l := byI t i ++ [UInt8.ofNat 2] ++ toldB e.path) (L := L + 1 + (2 + e.path.length)) (by rw [List.length_append, List.length_append, toldB_len, hL]; rfl), byI_succ he]
  unfold entB
  rw [if_neg (by simp [hd]), if_neg (by simp [hd]), ← List.append_assoc, ← List.append_assoc]; rfl
theorem len_dir {t : Tr} {i L : Nat} {e : En} (hL : L = (byI t i).length) (he : (sortE t.L)[i]? = some e) (hd : e.dir = true) : L + 1 + (2 + e.path.length) = (byI t (i + 1)).length := by
  rw [byI_succ he, List.length_append, ← hL]
  unfold entB
  rw [if_pos hd, if_pos hd, List.append_nil, List.length_append, toldB_len, List.length_singleton]; omega
theorem len_file {t : Tr} {i L : Nat} {e : En} (hL : L = (byI t i).length) (he : (sortE t.L)[i]? = some e) (hd : e.dir = false) : L + 1 + (2 + e.path.length) + (2 + e.data.length) = (byI t (i + 1)).length := by
  rw [byI_succ he, List.length_append, ← hL]
  unfold entB
  rw [if_neg (by simp [hd]), if_neg (by simp [hd]), List.length_append, List.length_append, toldB_len, toldB_len, List.length_singleton]; omega
theorem bt_ext {a b : Bs} (hl : a.length = b.length) (h : ∀ j, j < a.length → bt a j = bt b j) : a = b := by
  refine List.ext_getElem hl fun i h1 h2 => ?_
  have := h i h1
  unfold bt at this
  rw [List.getD_eq_getElem?_getD, List.getD_eq_getElem?_getD, List.getElem?_eq_getElem h1, List.getElem?_eq_getElem h2, Option.getD_some, Option.getD_some] at this
  exact UInt8.toNat_inj.1 this
end Go.Proofs.YtjoakhpdajlhiaaDoor.V2.S
namespace Go.Proofs.YtjoakhpdajlhiaaDoor.V2.S
open Go
set_option maxRecDepth 100000
set_option linter.unusedVariables false
/-! Bytes read as a tree, in plain words. -/
def textO (l : Bs) (o : Nat) : Option (Bs × Nat) := if o + 2 ≤ l.length ∧ o + 2 + numV l o ≤ l.length then some ((l.drop (o + 2)).take (numV l o), o + 2 + numV l o) else none
def entO (l : Bs) (o : Nat) : Option (Nat × Bs × Bs × Nat) :=
  if o + 1 ≤ l.length then match textO l (o + 1) with
    | none => none
    | some (p, o2) => if bt l o = 2 then match textO l o2 with
      | none => none
      | some (d, o3) => some (bt l o, p, d, o3) else some (bt l o, p, [], o2) else none
def okE (t : Tr) (kd : Nat) (p : Bs) : Prop := (absG t p).2 = 0 ∧ (absG t p).1 = p ∧ kindG t p = 0 ∧ (kd = 1 ∨ kd = 2)
instance (t : Tr) (kd : Nat) (p : Bs) : Decidable (okE t kd p) := by unfold okE; exact inferInstance
def addE (t : Tr) (kd : Nat) (p d : Bs) : Tr × Bool := if okE t kd p then ((putG t ⟨p, decide (kd = 1), d⟩).1, decide ((putG t ⟨p, decide (kd = 1), d⟩).2 = 0)) else (t, false)
def loopP (l : Bs) : Nat → Nat → Tr → Bool → Option (Tr × Bool)
  | 0, _, t, g => some (t, g)
  | c + 1, o, t, g => match entO l o with
    | none => none
    | some (kd, p, d, o') => loopP l c o' (addE t kd p d).1 (g && (addE t kd p d).2)
def parseG (l : Bs) : Option Tr × Nat := match textO l 0 with
  | none => (none, 4)
  | some (c, o1) => if o1 + 2 ≤ l.length then match loopP l (numV l o1) (o1 + 2) newG true with
    | none => (none, 4)
    | some (t, g) => if g = true ∧ (cdG t c).2 = 0 ∧ treeB (cdG t c).1 = l then (some (cdG t c).1, 0) else (none, 5) else (none, 4)
theorem textO_len {l p : Bs} {o o2 : Nat} (h : textO l o = some (p, o2)) : o + 2 ≤ o2 ∧ o2 ≤ l.length ∧ p.length = o2 - (o + 2) := by
  unfold textO at h
  split at h
  · rename_i hh
    cases h
    refine ⟨by omega, hh.2, ?_⟩
    rw [List.length_take, List.length_drop]; omega
  · cases h
theorem entO_len {l p d : Bs} {o o2 kd : Nat} (h : entO l o = some (kd, p, d, o2)) : o + 3 ≤ o2 ∧ o2 ≤ l.length ∧ p.length + d.length ≤ o2 - o ∧ (kd = 1 → d = []) := by
  unfold entO at h
  split at h
  · split at h
    · cases h
    · rename_i q oq hq
      have h1 := textO_len hq
      split at h
      · rename_i hk
        split at h
        · cases h
        · rename_i dq o3 hd
          have h2 := textO_len hd
          cases h
          exact ⟨by omega, by omega, by omega, fun h => by omega⟩
      · cases h
        exact ⟨by omega, by omega, by simp only [List.length_nil]; omega, fun _ => rfl⟩
  · cases h
theorem addE_ok {t : Tr} (hW : WfT t) (hO : OkT t) {kd : Nat} {p d : Bs} (hd : kd = 1 → d = []) : WfT (addE t kd p d).1 ∧ OkT (addE t kd p d).1 := by
  unfold addE
  split
  · rename_i h
    obtain ⟨h1, h2, h3, h4⟩ := h
    obtain ⟨ns, hs⟩ := hO.abs h1
    rw [h2] at hs
    have hx : p ≠ [47] := fun he => by rw [he] at h3; cases h3
    obtain ⟨ms, m, g1, g2, g3, g4, _⟩ := hs.last hx
    have hh : p.head? = some 47 := by rw [← h2]; exact absG_head hW.hc h1
    refine ⟨putG_wf hW hh, ?_⟩
    by_cases h0 : (putG t ⟨p, decide (kd = 1), d⟩).2 = 0
    · rw [(putG_ok h0).1]
      refine hO.set g1 g2 g3 g4 ?_
      rcases h4 with h4 | h4
      · exact .inl ⟨decide_eq_true h4, hd h4⟩
      · exact .inr ⟨decide_eq_false (by omega), by show kindG t p ≠ 1; omega⟩
    · rw [putG_no h0]; exact hO
  · exact ⟨hW, hO⟩
theorem loopP_ok {l : Bs} : ∀ {c o : Nat} {t t2 : Tr} {g g2 : Bool}, WfT t → OkT t → loopP l c o t g = some (t2, g2) → WfT t2 ∧ OkT t2
  | 0, o, t, t2, g, g2, hW, hO, h => by unfold loopP at h; cases h; exact ⟨hW, hO⟩
  | c + 1, o, t, t2, g, g2, hW, hO, h => by
    unfold loopP at h
    split at h
    · cases h
    · rename_i kd p d o' he
      obtain ⟨h1, h2⟩ := addE_ok hW hO (entO_len he).2.2.2
      exact loopP_ok h1 h2 h
theorem parseG_ok {l : Bs} {t : Tr} {e : Nat} (h : parseG l = (some t, e)) : WfT t ∧ OkT t ∧ treeB t = l ∧ e = 0 := by
  unfold parseG at h
  split at h
  · cases h
  · rename_i c o1 hc
    split at h
    · split at h
      · cases h
      · rename_i t2 g hl
        split at h
        · rename_i hh
          cases h
          obtain ⟨h1, h2⟩ := loopP_ok newG_wf .new hl
          exact ⟨cdG_wf h1 c, h2.cd c, hh.2.2, rfl⟩
        · cases h
    · cases h
end Go.Proofs.YtjoakhpdajlhiaaDoor.V2.S
namespace Go.Proofs.YtjoakhpdajlhiaaDoor.V2.S
open Go
set_option maxRecDepth 100000
set_option maxHeartbeats 4000000
set_option linter.unusedVariables false
attribute [local irreducible] fN fO nM gM pM Phi.fn mp bl bpart bapp top1 pack
def AbsF (H : HF) : Prop := ∀ {tb mb : Nat} {t : Tr} {n : Nat} {m : T FObj}, TreeAt m tb mb 65 t → tb < n → mb < n → 1 ≤ t.cwd.length → t.cwd.length ≤ 256 → ∀ (path : Bs), path.length ≤ 900000 → Ret (5 + 2 * min path.length 256) H [.p tb 0, .s (pack path)] n m (.tup [.s (pack (absG t path).1), .n .i64 (absG t path).2])
theorem abs_f {O : Oz} (hO : O = zO) (Φ : Phi) (H1 : NoneS (Phi.fn Φ 28)) (H2 : KindS (Phi.fn Φ 35)) (H3 : HpS (Phi.fn Φ 33)) (H4 : NamedS (Phi.fn Φ 36)) (H5 : SplitS (Phi.fn Φ 34)) (H6 : ParS (Phi.fn Φ 37)) (H7 : JoinS (Phi.fn Φ 38)) : AbsF (p12 O Φ) := fun {tb mb t n m} hT htb hmb hc1 hc2 path hpl k P hn hf => by
  have hcsl := countS_le path
  have hT1 := hT.s
  have hT2 := hT.m
  have fin : ∀ n' m', path.length ≤ 256 → path ≠ [] → n ≤ n' → n' ≤ n + (5 + 2 * min path.length 256) → Kp n m m' → ∀ (r : Nat ⊕ Bs), loopG t (if hasPre path [47] then [47] else t.cwd) (splitB path) = r → k (.tup [.s (pack (match r with | .inl _ => [] | .inr a => a)), .n .i64 (match r with | .inl e => e | .inr _ => 0)]) ⟨n', m'⟩ = P := fun n' m' h1 h2 h3 h4 h5 r hr => by
    have := hf n' m' h3 h4 h5
    unfold absG at this
    rw [if_neg (by rintro (h | h); exact h2 h; omega), hr] at this
    cases r <;> exact this
  have key : ∀ (at0 : Bs), (if hasPre path [47] then [47] else t.cwd) = at0 → path.length ≤ 256 → path ≠ [] → 1 ≤ at0.length → at0.length ≤ 256 → ∀ (b Kk n1 : Nat) (m1 : T FObj), n ≤ n1 → n1 ≤ n + 1 → n ≤ b → b < n1 → Kp n m m1 → Am m1 b (.cells (vsL (splitB path)) 9 .exact) → ∀ (kn kr : K2) (ke : Nat → K2) (cd : Cd),
      (∀ i at_ n' m' (ih : K2), i ≤ countS path + 1 → n ≤ n' → n' ≤ n + 1 + 2 * i → Kp n m m' → Am m' b (.cells (vsL (splitB path)) 9 .exact) → loopG t at0 (splitB path) = loopG t at_ ((splitB path).drop i) → 1 ≤ at_.length → at_.length ≤ 256 + 33 * i → b < n' →
        (∀ at2 n2 m2, i < countS path + 1 → n ≤ n2 → n2 ≤ n + 1 + 2 * (i + 1) → Kp n m m2 → Am m2 b (.cells (vsL (splitB path)) 9 .exact) → loopG t at0 (splitB path) = loopG t at2 ((splitB path).drop (i + 1)) → 1 ≤ at2.length → at2.length ≤ 256 + 33 * (i + 1) → b < n2 → ih (eof [(4, .s (pack [])), (5, .n .i64 0), (6, .s (pack at2)), (30, .n .i64 (i + 1))]) ⟨n2, m2⟩ = P) →
        cd Φ n ih kr ke (eof [(4, .s (pack [])), (5, .n .i64 0), (6, .s (pack at_)), (30, .n .i64 i)]) ⟨n', m'⟩ = P) →
      O.lp 1000000 cd Φ n kn kr ke (eof [(4, .s (pack [])), (5, .n .i64 0), (6, .s (pack at0)), (30, .n .i64 0)]) ⟨n1, m1⟩ = P := fun at0 hat h1 h2 h3 h4 b Kk n1 m1 g1 g2 g3 g4 g5 g6 kn kr ke cd hs => by
    have hcl := countS_le path
    refine lpI hO (fun q e n' m' => ∃ i at_, i ≤ countS path + 1 ∧ q = countS path + 1 - i ∧ n ≤ n' ∧ n' ≤ n + 1 + 2 * i ∧ Kp n m m' ∧ Am m' b (.cells (vsL (splitB path)) 9 .exact) ∧ loopG t at0 (splitB path) = loopG t at_ ((splitB path).drop i) ∧ 1 ≤ at_.length ∧ at_.length ≤ 256 + 33 * i ∧ b < n' ∧ e = eof [(4, .s (pack [])), (5, .n .i64 0), (6, .s (pack at_)), (30, .n .i64 i)]) ?_ ?_ _ (countS path + 1) _ _ _ (by omega) ⟨0, at0, by omega, by omega, g1, by omega, g5, g6, rfl, h3, by omega, g4, rfl⟩
    · rintro q e n' m' ⟨i, at_, _, _, h, _⟩; exact h
    · rintro q e n' m' ih ⟨i, at_, q1, rfl, q2, q3, q4, q5, q6, q7, q8, q9, rfl⟩ hih
      exact hs i at_ n' m' ih q1 q2 q3 q4 q5 q6 q7 q8 q9 fun at2 n2 m2 r0 r1 r2 r3 r4 r5 r6 r7 r8 => hih (countS path + 1 - (i + 1)) _ _ _ (by omega) ⟨i + 1, at2, by omega, rfl, r1, r2, r3, r4, r5, r6, r7, r8, rfl⟩
  repeat' ((conv => lhs; whnf); first | ((with_reducible refine atFn ?_); first | refine H1 (hT.kp kQ htb hmb) _ _ ?_ | refine H3 _ _ (by omega) _ _ _ _ ?_ | (refine H5 _ (by omega) _ _ _ _ (by omega) ?_; rintro v1 n1 m1 h1 g1 hk1 ⟨b, Kk, rfl, q1, q2, q3⟩)) | ((with_reducible refine fa0 hO ?_)) | ((with_reducible refine atLd ?_); refine ldC hO aQ (by rfl) ?_) | (((with_reducible refine lsS hO ?_); try simp only [List.length_cons, List.length_nil, Nat.zero_add])) | ((with_reducible refine lvS hO ?_)) | ((with_reducible refine gtB hO (fun h => ?_) (fun h => ?_))) | ((with_reducible refine eqSB hO (fun h => ?_) (fun h => ?_))) | ((with_reducible refine atB ?_); refine brec (fun h => ?_) (fun h => ?_)))
  all_goals (conv => lhs; whnf)
  all_goals first
    | (have e : absG t path = ([], 23) := by unfold absG; rw [if_pos (by first | exact .inl (by assumption) | exact .inr (by omega))]
       rw [e] at hf; exact hf _ _ (by omega) (by omega) kQ)
    | (have hne : path ≠ [] := by assumption
       have hk2 : Kp n m m1 := hk1.kp
       clear hf
       have hle : path.length ≤ 256 := by omega
       first
         | refine key [47] (if_pos (by assumption)) hle hne (by decide) (by decide) b Kk n1 m1 h1 g1 q1 q2 hk2 q3 _ _ _ _ ?_
         | refine key t.cwd (if_neg (by simp [*])) hle hne hc1 hc2 b Kk n1 m1 h1 g1 q1 q2 hk2 q3 _ _ _ _ ?_)
  all_goals (
    intro i at_ n' m' ih z1 z2 z3 z4 z5 z6 z7 z8 z9 hih
    have hcl := countS_le path
    have e1 := parG_le at_
    have e2 := parG_pos z7
    rcases Nat.lt_or_ge i (countS path + 1) with hlt | hge)
  all_goals first
    | (have hi1 : i < countS path + 1 := hlt
       obtain ⟨p, hp⟩ : ∃ p, (splitB path)[i]? = some p := ⟨_, List.getElem?_eq_getElem (by rw [split_len]; omega)⟩
       have hdr := drop_of_get hp
       have hpm : p.length ≤ path.length := split_mem_le (List.mem_of_getElem? hp)
       have e3 := joinG_le at_ p
       have e4 := joinG_pos at_ p
       repeat' ((conv => lhs; whnf); first | ((with_reducible refine atFn ?_); first | refine H2 (hT.kp kQ htb hmb) (by omega) (by omega) _ _ _ (by omega) (fun n3 m3 h3 g3 k3 => ?_) | refine H4 _ _ _ (by omega) _ _ (by omega) (fun n3 m3 h3 g3 k3 => ?_) | refine H6 _ _ _ (by omega) (by omega) _ _ ?_ | refine H7 _ _ _ _ (by omega) (by omega) _ _ ?_) | ((with_reducible refine atLd ?_); refine ldC hO aQ (vsL_at hp) ?_) | ((with_reducible refine ltT hO (by omega) ?_)) | ((with_reducible refine eqB hO (fun h => ?_) (fun h => ?_))) | ((with_reducible refine eqST hO (by first | rfl | assumption) ?_)) | ((with_reducible refine eqSF hO (by first | assumption | decide) ?_)) | ((with_reducible refine eqSB hO (fun h => ?_) (fun h => ?_))) | ((with_reducible refine neSB hO (fun h => ?_) (fun h => ?_))) | ((with_reducible refine adI hO (by omega) ?_)) | ((with_reducible refine ix01 hO (by omega) ?_)) | ((with_reducible refine atB ?_); refine brec (fun h => ?_) (fun h => ?_)))
       all_goals (conv => lhs; whnf)
       all_goals first
         | exact hih at_ _ _ hi1 (by omega) (by omega) kQ aQ (by rw [z6, hdr, loopG_step (b := at_) (by unfold stepG; rw [if_pos (by first | exact .inl (by assumption) | exact .inr (by assumption))])]) (by omega) (by omega) (by omega)
         | exact fin _ _ hle hne (by omega) (by omega) kQ (.inl 23) (by (first | rw [if_pos (by assumption), z6, hdr] | rw [if_neg (by simp [*]), z6, hdr]); exact loopG_err (by unfold stepG; simp [*]))
         | exact fin _ _ hle hne (by omega) (by omega) kQ (.inl 6) (by (first | rw [if_pos (by assumption), z6, hdr] | rw [if_neg (by simp [*]), z6, hdr]); exact loopG_err (by unfold stepG; simp [*]))
         | exact fin _ _ hle hne (by omega) (by omega) kQ (.inl 5) (by (first | rw [if_pos (by assumption), z6, hdr] | rw [if_neg (by simp [*]), z6, hdr]); exact loopG_err (by unfold stepG; simp [*]))
         | exact hih (parG at_) _ _ hi1 (by omega) (by omega) kQ aQ (by rw [z6, hdr]; exact loopG_step (by unfold stepG; simp [*])) (by omega) (by omega) (by omega)
         | (have e5 := nameB_le (s := p) (by assumption)
            exact hih (joinG at_ p) _ _ hi1 (by omega) (by omega) kQ aQ (by rw [z6, hdr]; exact loopG_step (by unfold stepG; simp [*])) (by omega) (by omega) (by omega)))
    | (have hi1 : countS path + 1 ≤ i := hge
       repeat' ((conv => lhs; whnf); first | ((with_reducible refine ltF hO (by omega) ?_)))
       all_goals (conv => lhs; whnf)
       all_goals first
         | exact fin _ _ hle hne (by omega) (by omega) kQ (.inr at_) (by (first | rw [if_pos (by assumption), z6, List.drop_of_length_le (by rw [split_len]; omega)] | rw [if_neg (by simp [*]), z6, List.drop_of_length_le (by rw [split_len]; omega)]); rfl))
end Go.Proofs.YtjoakhpdajlhiaaDoor.V2.S
namespace Go.Proofs.YtjoakhpdajlhiaaDoor.V2.S
open Go
set_option maxRecDepth 100000
set_option maxHeartbeats 4000000
set_option linter.unusedVariables false
attribute [local irreducible] fN fO nM gM pM Phi.fn mp bl bpart bapp top1 pack
def TwoS (H : HF) : Prop := ∀ (a n : Nat) (m : T FObj), a ≤ 65535 → RetX 1 [] H [.n .i64 a] n m (fun v n' m' => ∃ b, v = .sl b 0 2 2 true 1 ∧ n ≤ b ∧ b < n' ∧ Am m' b (.bs (pack (twoB a)) 5 .exact))
theorem two_s {O : Oz} (hO : O = zO) (Φ : Phi) : TwoS (p32 O Φ) := fun a n m ha k P hn hf => by
  repeat' ((conv => lhs; whnf); first | ((with_reducible refine hr8 hO ?_)) | ((with_reducible refine cvW hO ?_)) | ((with_reducible refine bs2 hO (by omega) (by omega) (by omega) ?_)))
  all_goals (conv => lhs; whnf)
  all_goals first
    | exact hf _ _ _ (by omega) (by omega) qQ ⟨n, rfl, by omega, by omega, am_same (by omega)⟩
def ToldS (H : HF) : Prop := ∀ (s : Bs) (n : Nat) (m : T FObj), s.length ≤ 65535 → RetX 2 [] H [.s (pack s)] n m (fun v n' m' => ∃ b x tl, v = .sl b 0 (2 + s.length) (2 + s.length) x 1 ∧ n ≤ b ∧ b < n' ∧ Am m' b (.bs (pack (toldB s)) 5 tl) ∧ (s ≠ [] → x = false ∧ tl = .more))
theorem told_s {O : Oz} (hO : O = zO) (Φ : Phi) (H : TwoS (Phi.fn Φ 32)) : ToldS (p31 O Φ) := fun s n m hs k P hn hf => by
  by_cases h0 : s = []
  · subst h0
    repeat' ((conv => lhs; whnf); first | ((with_reducible refine atFn ?_); (refine H _ _ _ (by first | omega | decide) _ _ (by omega) (fun v2 n2 m2 h2 g2 k2 q2 => ?_); obtain ⟨b2, rfl, q3, q4, q5⟩ := q2; have k2p := Kq.kp k2)) | (((with_reducible refine lsS hO ?_); try simp only [List.length_cons, List.length_nil, Nat.zero_add])) | ((with_reducible refine atAp ?_); refine apS0 hO ?_))
    all_goals (conv => lhs; whnf)
    all_goals first
      | exact hf _ _ _ (by omega) (by omega) qQ ⟨b2, true, .exact, rfl, by omega, by omega, q5, fun h => absurd rfl h⟩
  · have hp := List.length_pos_iff.2 h0
    repeat' ((conv => lhs; whnf); first | ((with_reducible refine atFn ?_); (refine H _ _ _ (by omega) _ _ (by omega) (fun v2 n2 m2 h2 g2 k2 q2 => ?_); obtain ⟨b2, rfl, q3, q4, q5⟩ := q2; have k2p := Kq.kp k2)) | (((with_reducible refine lsS hO ?_); try simp only [List.length_cons, List.length_nil, Nat.zero_add])) | ((with_reducible refine atAp ?_); refine apXS hO q5 (by show 2 ≤ 2; omega) rfl hp (by omega) (by omega) ?_))
    all_goals (conv => lhs; whnf)
    all_goals first
      | exact hf _ _ _ (by omega) (by omega) qQ ⟨_, false, .more, rfl, by omega, by omega, am_same (by omega), fun _ => ⟨rfl, rfl⟩⟩
def EqBS (H : HF) : Prop := ∀ {a b : Bs} {b1 b2 K1 K2 n : Nat} {m : T FObj} {x1 x2 : Bool} {e1 e2 : TypeId} {t1 t2 : Tl}, Am m b1 (.bs (pack a) e1 t1) → Am m b2 (.bs (pack b) e2 t2) → a.length ≤ 900000 → b.length ≤ 900000 → Ret0 H [.sl b1 0 a.length K1 x1 1, .sl b2 0 b.length K2 x2 1] n m (.b (decide (a = b)))
theorem eqB_s {O : Oz} (hO : O = zO) (Φ : Phi) : EqBS (p17 O Φ) := fun {a b b1 b2 K1 K2 n m x1 x2 e1 e2 t1 t2} ha1 ha2 hl1 hl2 k P hf => by
  repeat' ((conv => lhs; whnf); first | ((with_reducible refine lvS hO ?_)) | ((with_reducible refine neB hO (fun h => ?_) (fun h => ?_))))
  all_goals (conv => lhs; whnf)
  all_goals first
    | (rw [decide_eq_false (fun e : a = b => by subst e; first | omega | (rename_i hne; exact hne rfl) | exact absurd rfl (by assumption))] at hf; exact hf)
    | (refine lpI hO (fun q e n' m' => ∃ i, i ≤ a.length ∧ q = a.length - i ∧ n' = n ∧ m' = m ∧ (∀ j, j < i → bt a j = bt b j) ∧ e = eof [(4, .b false), (13, .n .i64 i)]) ?_ ?_ _ a.length _ _ _ (by omega) ⟨0, by omega, by omega, rfl, rfl, fun j hj => absurd hj (Nat.not_lt_zero _), rfl⟩
       · rintro q e n' m' ⟨i, _, _, h, _⟩; omega
       · rintro q e n' m' ih ⟨i, hi, rfl, rfl, rfl, hj, rfl⟩ hih
         repeat' ((conv => lhs; whnf); first | ((with_reducible refine atLd ?_); first | refine ldB hO ha1 (by omega) ?_ | refine ldB hO ha2 (by omega) ?_) | ((with_reducible refine ltB hO (fun h => ?_) (fun h => ?_))) | ((with_reducible refine neB hO (fun h => ?_) (fun h => ?_))) | ((with_reducible refine adI hO (by omega) ?_)) | ((with_reducible refine ix01 hO (by omega) ?_)))
         all_goals (conv => lhs; whnf)
         all_goals first
           | exact hih (a.length - (i + 1)) _ _ _ (by omega) ⟨i + 1, by omega, rfl, rfl, rfl, fun j hj2 => by
               rcases Nat.lt_or_ge j i with h2 | h2
               · exact hj j h2
               · rw [show j = i by omega]; omega, rfl⟩
           | (rw [decide_eq_true (bt_ext (by omega) fun j hj2 => hj j (by omega))] at hf; exact hf)
           | (rw [decide_eq_false (fun e : a = b => by subst e; first | omega | (rename_i hne; exact hne rfl) | exact absurd rfl (by assumption))] at hf; exact hf))
end Go.Proofs.YtjoakhpdajlhiaaDoor.V2.S
namespace Go.Proofs.YtjoakhpdajlhiaaDoor.V2.S
open Go
set_option maxRecDepth 100000
set_option maxHeartbeats 4000000
set_option linter.unusedVariables false
attribute [local irreducible] fN fO nM gM pM Phi.fn Phi.yl Phi.up mp bl bpart bapp top1 pack
def WalkN (H : HF) (y : Nat) (Y : HF) : Prop := ∀ {tb mb : Nat} {t : Tr} {n : Nat} {m : T FObj} (c : Nat) (xs : List Nat) (I : Nat → Nat → Nat → T FObj → Prop), TreeAt m tb mb 65 t → tb < n → mb < n → WfT t → (∀ x ∈ xs, x < n) → (∀ x ∈ xs, tb ≠ x) → (∀ x ∈ xs, mb ≠ x) →
  (∀ N i e n1 m1 (k : KV) (P : FR), (sortE t.L)[i]? = some e → n ≤ N → N ≤ n1 → n1 + c ≤ 1000000 → Kq xs n m m1 → I N i n1 m1 → (∀ n2 m2, n1 ≤ n2 → n2 ≤ n1 + c → Kq xs N m1 m2 → I N (i + 1) n2 m2 → k (.b true) ⟨n2, m2⟩ = P) → Y [entV e] ⟨n1, m1⟩ k = P) →
  ∀ (k : KV) (P : FR), n + 2 + c * t.L.length ≤ 1000000 → (∀ N m1, n ≤ N → N ≤ n + 2 → Kp n m m1 → I N 0 N m1) → (∀ N n' m', n ≤ N → N ≤ n' → n' ≤ n + 2 + c * t.L.length → Kq xs n m m' → I N t.L.length n' m' → k (.tup []) ⟨n', m'⟩ = P) → H [.p tb 0, .y y] ⟨n, m⟩ k = P
theorem walkN_s {O : Oz} (hO : O = zO) (Φ : Phi) (H1 : NoneS (Phi.fn Φ 28)) (H2 : KeysS Φ) (y : Nat) (Y : HF) (hy : Phi.yl Φ y = Y) : WalkN (p9 O Φ) y Y := fun {tb mb t n m} c xs I hT htb hmb hW hx1 hx2 hx3 hY k P hn h0 hf => by
  have hT1 := hT.s
  have hT2 := hT.m
  have hwl := hW.len
  have hpw : ∀ e ∈ t.L, e.path.length ≤ 1000000 := fun e he => by have := (hW.pl e he).1; omega
  by_cases hL : t.L = []
  · have hl0 : t.L.length = 0 := by rw [hL]; rfl
    rw [hl0] at hf hn
    repeat' ((conv => lhs; whnf); first | ((with_reducible refine atFn ?_); first | refine H1 (hT.kp kQ htb hmb) _ _ ?_ | (refine H2 hT2 hmb hW.nd (by omega) hpw _ _ (by omega) ?_; rintro v1 n1 m1 h1 g1 k1 q0 q1; obtain rfl := q0 hL)) | ((with_reducible refine fa0 hO ?_)) | ((with_reducible refine atLd ?_); refine ldC hO aQ (by rfl) ?_) | ((with_reducible refine lvN hO ?_)))
    all_goals (conv => lhs; whnf)
    all_goals first
      | exact hf n _ _ (by omega) (by omega) (by omega) qQ (h0 n _ (by omega) (by omega) kQ)
      | (refine lpI hO (fun t e n' m' => t = 0 ∧ n' = n1 ∧ m' = m1 ∧ e = eof [(15, .n .i64 0)]) ?_ ?_ _ 0 _ _ _ (by omega) ⟨rfl, rfl, rfl, rfl⟩
         · rintro t e n' m' ⟨_, rfl, _⟩; omega
         · rintro t e n' m' ih ⟨rfl, rfl, rfl, rfl⟩ hih
           repeat' ((conv => lhs; whnf); first | ((with_reducible refine ltF hO (by omega) ?_)))
           all_goals (conv => lhs; whnf)
           all_goals first
             | exact hf _ _ _ (by omega) (Nat.le_refl _) (by omega) (Kq.of kQ _) (h0 _ _ (by omega) (by omega) kQ))
  · 
    repeat' ((conv => lhs; whnf); first | ((with_reducible refine atFn ?_); first | refine H1 (hT.kp kQ htb hmb) _ _ ?_ | (refine H2 hT2 hmb hW.nd (by omega) hpw _ _ (by omega) ?_; rintro v1 n1 m1 h1 g1 k1 q0 q1; obtain ⟨b, rfl, q1, q2, q3⟩ := q1 hL)) | ((with_reducible refine fa0 hO ?_)) | ((with_reducible refine atLd ?_); refine ldC hO aQ (by rfl) ?_) | ((with_reducible refine lvS hO ?_)))
    all_goals (conv => lhs; whnf)
    all_goals first
      | exact absurd rfl hL
      | (refine lpI hO (fun q e n' m' => ∃ i, i ≤ t.L.length ∧ q = t.L.length - i ∧ n1 ≤ n' ∧ n' ≤ n1 + c * i ∧ Kq xs n m m' ∧ Kq xs n1 m1 m' ∧ I n1 i n' m' ∧ e = eof [(15, .n .i64 i)]) ?_ ?_ _ t.L.length _ _ _ (by omega) ⟨0, Nat.zero_le _, by omega, Nat.le_refl _, by omega, Kq.of kQ _, Kq.refl _ _ _, h0 _ _ (by omega) (by omega) kQ, rfl⟩
         · rintro q e n' m' ⟨i, _, _, h, _⟩; omega
         · rintro q e n' m' ih ⟨i, z1, rfl, z2, z3, z4, z5, z6, rfl⟩ hih
           have hT' := hT.kq z4 htb hmb hx2 hx3
           have hT1' := hT'.s
           have hT2' := hT'.m
           have hb' : Am m' b (.cells (vsL (sortB (t.L.map En.path))) 9 .more) := z5 _ _ q2 (fun x hx => by have := hx1 x hx; omega) q3
           clear hT1 hT2
           rcases Nat.lt_or_ge i t.L.length with hlt | hge
           · obtain ⟨e1, he⟩ : ∃ e1, (sortE t.L)[i]? = some e1 := ⟨_, List.getElem?_eq_getElem (by rw [sortE_len]; omega)⟩
             have hle := sortE_at hW.nd he
             have hci : c * (i + 1) ≤ c * t.L.length := Nat.mul_le_mul_left c (by omega)
             have hcs : c * (i + 1) = c * i + c := Nat.mul_succ c i
             repeat' ((conv => lhs; whnf); first | ((rw [hy]; refine hY n1 _ _ _ _ _ _ he (by omega) (by omega) (by omega) z4 z6 (fun n5 m5 h5 g5 k5 q5 => ?_))) | ((with_reducible refine fa0 hO ?_)) | ((with_reducible refine atLd ?_); first | refine ldC hO aQ (vsL_at (sortB_at he)) ?_ | refine ldC hO aQ (by rfl) ?_) | ((with_reducible refine ltT hO (by omega) ?_)) | ((with_reducible refine adI hO (by omega) ?_)) | ((with_reducible refine ix01 hO (by omega) ?_)) | ((with_reducible refine atLk ?_); (refine lkS1 hO aQ (fun a hla => ?_) (fun hla => absurd hla (by rw [hle]; simp)); obtain rfl : e1 = a := by rw [hle] at hla; exact Option.some.inj hla)))
             all_goals (conv => lhs; whnf)
             all_goals first
               | exact hih (t.L.length - (i + 1)) _ _ _ (by omega) ⟨i + 1, by omega, rfl, by omega, by omega, z4.trans k5 (by omega), z5.trans k5 (by omega), q5, rfl⟩
           · obtain rfl : i = t.L.length := by omega
             repeat' ((conv => lhs; whnf); first | ((with_reducible refine ltF hO (by omega) ?_)))
             all_goals (conv => lhs; whnf)
             all_goals first
               | exact hf n1 _ _ (by omega) (by omega) (by omega) z4 z6)
end Go.Proofs.YtjoakhpdajlhiaaDoor.V2.S
namespace Go.Proofs.YtjoakhpdajlhiaaDoor.V2.S
open Go
set_option maxRecDepth 100000
set_option maxHeartbeats 4000000
set_option linter.unusedVariables false
attribute [local irreducible] fN fO nM gM pM Phi.fn Phi.yl Phi.up mp bl bpart bapp top1 pack
theorem used_aux {t : Tr} {i : Nat} {e : En} (hW : WfT t) (he : (sortE t.L)[i]? = some e) : i < 128 ∧ sizesG ((sortE t.L).take i) + (e.path.length + e.data.length) ≤ 32768 := by
  have h1 := (List.getElem?_eq_some_iff.1 he).1
  rw [sortE_len] at h1
  have h2 := sizesG_take he
  have h3 := sizesG_le_take (sortE t.L) (i + 1)
  rw [sizesG_perm (sortE_perm t.L)] at h3
  exact ⟨by have := hW.len; omega, by have := hW.sz; omega⟩
theorem used_s {O : Oz} (hO : O = zO) (Φ : Phi) (H : ∀ y Y, WalkS (Phi.fn (Phi.up Φ y Y) 9) y Y) : UsedS (p52 O Φ) := fun {tb mb t n m} hT htb hmb hW k P hn hf => by
  have hlen := hW.len
  have ez : sizesG ((sortE t.L).take t.L.length) = sizesG t.L := by rw [List.take_of_length_le (by rw [sortE_len]; exact Nat.le_refl _), sizesG_perm (sortE_perm t.L)]
  rw [← ez] at hf
  repeat' ((conv => lhs; whnf); first | ((with_reducible refine atFn ?_); refine H _ _ 1 [n, n + 1] (fun i m2 => Am m2 n (.ints .i64 [Int.ofNat i] 3 .exact) ∧ Am m2 (n + 1) (.ints .i64 [Int.ofNat (sizesG ((sortE t.L).take i))] 3 .exact)) (hT.kp kQ htb hmb) (by omega) (by omega) hW (fun x hx => by simp only [List.mem_cons, List.not_mem_nil, or_false] at hx; omega) (fun x hx => by simp only [List.mem_cons, List.not_mem_nil, or_false] at hx; omega) (fun x hx => by simp only [List.mem_cons, List.not_mem_nil, or_false] at hx; omega) (fun i n1 m1 m2 h1 hk hI => ⟨hk _ _ (by omega) hI.1, hk _ _ (by omega) hI.2⟩) (fun i e n1 m1 k5 P5 he hn1 hc5 hq5 hI5 hk5 => hI5.elim fun ha5 hb5 => (used_aux hW he).elim fun z1 z2 => ?_) _ _ (by omega) ⟨aQ, aQ⟩ (fun n4 m4 h4 g4 k4 hI4 => hI4.elim fun ha4 hb4 => (fun k4l => ?_) (Kq.low (n := n) k4 (by omega) (by simp)))) | ((with_reducible refine fa0 hO ?_)) | ((with_reducible refine atLd ?_); first | refine ldC hO aQ (by rfl) ?_ | refine ldI hO aQ (by rfl) ?_) | (((with_reducible refine lsS hO ?_); try simp only [List.length_cons, List.length_nil, Nat.zero_add])) | ((with_reducible refine adI hO (by omega) ?_)) | ((with_reducible refine atSt ?_); refine ust hO ?_) | ((with_reducible refine alO hO (by omega) ?_)) | ((with_reducible refine rcE hO (by kernel_rfl) rfl ?_)) | (with_reducible refine (fN_eq _ _).trans ?_) | (with_reducible refine (nM_mp (by omega)).trans ?_) | (with_reducible refine pM_mp.trans ?_) | (refine gM_amP aQ ?_))
  all_goals (conv => lhs; whnf)
  all_goals first
    | exact hf _ _ (by omega) (by omega) kQ
    | exact hk5 _ _ (by omega) (by omega) qQ ⟨aQ, by rw [sizesG_take he, ← Nat.add_assoc]; repeat (first | assumption | exact am_same (by omega) | apply am_ne (by omega) (by omega) | apply kp_am (by assumption) (by omega) | apply Kq.am (by assumption) (by omega) (by simp only [List.mem_cons, List.not_mem_nil, or_false, forall_eq_or_imp, forall_eq, false_implies, implies_true, ne_eq, and_true]; omega))⟩
end Go.Proofs.YtjoakhpdajlhiaaDoor.V2.S
namespace Go.Proofs.YtjoakhpdajlhiaaDoor.V2.S
open Go
set_option maxRecDepth 100000
set_option maxHeartbeats 4000000
set_option linter.unusedVariables false
attribute [local irreducible] fN fO nM gM pM Phi.fn Phi.yl Phi.up mp bl bpart bapp top1 pack
def BytesS (H : HF) : Prop := ∀ {tb mb : Nat} {t : Tr} {n : Nat} {m : T FObj}, TreeAt m tb mb 65 t → tb < n → mb < n → WfT t → RetX 1160 [] H [.p tb 0] n m (fun v n' m' => ∃ b, v = .sl b 0 (treeB t).length (treeB t).length false 1 ∧ n ≤ b ∧ b < n' ∧ Am m' b (.bs (pack (treeB t)) 5 .more))
theorem bytes_s {O : Oz} (hO : O = zO) (Φ : Phi) (HN : NoneS (Phi.fn Φ 28)) (HT : ToldS (Phi.fn Φ 31)) (H2 : TwoS (Phi.fn Φ 32)) (H : ∀ y Y, WalkN (Phi.fn (Phi.up Φ y Y) 9) y Y) : BytesS (p10 O Φ) := fun {tb mb t n m} hT htb hmb hW k P hn hf => by
  have hT1 := hT.s
  have hT2 := hT.m
  have hlen := hW.len
  have hc1 := hW.c1
  have hc2 := hW.c2
  have hcn : t.cwd ≠ [] := fun h => by rw [h] at hc1; simp at hc1
  repeat' ((conv => lhs; whnf); first | ((with_reducible refine bs1 hO (by omega) (by omega) ?_)) | ((with_reducible refine mlS hO aQ ?_)) | ((with_reducible refine atFn ?_); first | refine HN (hT.kp kQ htb hmb) _ _ ?_ | (refine HT _ _ _ (by omega) _ _ (by omega) (fun v1 n1 m1 h1 g1 k1 q1 => ?_); obtain ⟨b1, x1, tl1, rfl, r1, r2, r3, r4⟩ := q1; obtain ⟨rfl, rfl⟩ := r4 hcn; have k1p := Kq.kp k1) | (refine H2 _ _ _ (by omega) _ _ (by omega) (fun v2 n2 m2 h2 g2 k2 q2 => ?_); obtain ⟨b2, rfl, s1, s2, s3⟩ := q2; have k2p := Kq.kp k2) | refine H _ _ 9 [n, n2] (fun N i n1 m1 => ∃ b L, (b = n2 ∨ N ≤ b) ∧ b < n1 ∧ L = (byI t i).length ∧ Am m1 n (.cells [.sl b 0 L L false 1] 33 .exact) ∧ Am m1 b (.bs (pack (byI t i)) 5 .more)) (hT.kp kQ htb hmb) (by omega) (by omega) hW (fun x hx => by simp only [List.mem_cons, List.not_mem_nil, or_false] at hx; omega) (fun x hx => by simp only [List.mem_cons, List.not_mem_nil, or_false] at hx; omega) (fun x hx => by simp only [List.mem_cons, List.not_mem_nil, or_false] at hx; omega) (fun N i e n5 m5 k5 P5 he hN hn5 hc5 hq5 hI5 hk5 => hI5.elim fun b5 hI6 => hI6.elim fun L5 hI7 => hI7.elim fun hb5 hI8 => hI8.elim fun hb6 hI9 => hI9.elim fun hL5 hI10 => hI10.elim fun ha5 hd5 => (used_aux hW he).elim fun z1 z2 => (fun z3 => ?_) (byI_len hW i)) _ _ (by omega) (fun N m4 h4 g4 k4 => ⟨n2, 2 + t.cwd.length + 2, .inl rfl, by omega, preB_len t, aQ, by rw [byI_0, preB_eq]; repeat (first | assumption | exact am_same (by omega) | apply am_ne (by omega) (by omega) | apply kp_am (by assumption) (by omega) | apply Kq.am (by assumption) (by omega) (by simp only [List.mem_cons, List.not_mem_nil, or_false, forall_eq_or_imp, forall_eq, false_implies, implies_true, ne_eq, and_true]; omega))⟩) (fun N n4 m4 h4 g4 l4 k4 hI4 => (fun k4l => hI4.elim fun b4 hI6 => hI6.elim fun L4 hI7 => hI7.elim fun hb4 hI8 => hI8.elim fun hb6 hI9 => hI9.elim fun hL4 hI10 => hI10.elim fun ha4 hd4 => ?_) (Kq.low (n := n) k4 (by omega) (fun x hx => by simp only [List.mem_cons, List.not_mem_nil, or_false] at hx; omega))) | (rw [bare_fn]; refine HT _ _ _ (by omega) _ _ (by omega) (fun v6 n6 m6 h6 g6 k6 q6 => ?_); obtain ⟨b6, x6, tl6, rfl, u2, u3, u4, u5⟩ := q6; have k6p := Kq.kp k6)) | ((with_reducible refine fa0 hO ?_)) | ((with_reducible refine atLd ?_); refine ldC hO aQ (by rfl) ?_) | ((with_reducible refine cvB hO (by omega) ?_)) | ((with_reducible refine atSt ?_); first | refine stC hO aQ (by kernel_rfl) (fun _ _ _ => rfl) (fun _ => rfl) ?_ | refine ust hO ?_) | ((with_reducible refine alO hO (by omega) ?_)) | ((with_reducible refine rcE hO (by kernel_rfl) rfl ?_)) | ((with_reducible refine atAp ?_); first | refine apBB hO aQ aQ (by rw [toldB_len]; omega) (by show 2 ≤ 2; omega) (by omega) (by rfl) (fun _ => rfl) (by omega) (by omega) ?_ | refine apBB hO aQ aQ (by omega) (by show 1 ≤ 1; omega) (by omega) (by rfl) (fun _ => rfl) (by omega) (by omega) ?_ | refine apBB hO aQ aQ (by simp only [List.length_append, List.length_take, List.drop_zero, List.length_singleton]; omega) (by rw [toldB_len]; omega) (by omega) (by rfl) (fun _ => rfl) (by omega) (by omega) ?_ | refine apBB hO aQ aQ (by simp only [List.length_append, List.length_take, List.drop_zero, List.length_singleton, toldB_len]; omega) (by rw [toldB_len]; omega) (by omega) (by rfl) (fun _ => rfl) (by omega) (by omega) ?_) | (with_reducible refine (fN_eq _ _).trans ?_) | (with_reducible refine (nM_mp (by omega)).trans ?_) | (with_reducible refine pM_mp.trans ?_) | (refine gM_amP aQ ?_) | ((with_reducible refine atB ?_); first | refine brecT (by assumption) ?_ | refine brecF (by assumption) ?_ | refine brec (fun h => ?_) (fun h => ?_)))
  all_goals (conv => lhs; whnf)
  all_goals first
    | (rcases hb5 with rfl | hb5 <;> exact hk5 _ _ (by omega) (by omega) qQ ⟨n6, _, .inr (by omega), by omega, len_dir hL5 he (by assumption), aQ, by rw [ent_dir hL5 he (by assumption)]; repeat (first | assumption | exact am_same (by omega) | apply am_ne (by omega) (by omega) | apply kp_am (by assumption) (by omega) | apply Kq.am (by assumption) (by omega) (by simp only [List.mem_cons, List.not_mem_nil, or_false, forall_eq_or_imp, forall_eq, false_implies, implies_true, ne_eq, and_true]; omega))⟩)
    | (rcases hb5 with rfl | hb5 <;> exact hk5 _ _ (by omega) (by omega) qQ ⟨n6, _, .inr (by omega), by omega, len_file hL5 he (by assumption), aQ, by rw [ent_file hL5 he (by assumption)]; repeat (first | assumption | exact am_same (by omega) | apply am_ne (by omega) (by omega) | apply kp_am (by assumption) (by omega) | apply Kq.am (by assumption) (by omega) (by simp only [List.mem_cons, List.not_mem_nil, or_false, forall_eq_or_imp, forall_eq, false_implies, implies_true, ne_eq, and_true]; omega))⟩)
    | (rw [byI_all] at hL4 hd4; subst hL4; exact hf _ _ _ (by omega) (by omega) qQ ⟨b4, rfl, by omega, by omega, hd4⟩)
end Go.Proofs.YtjoakhpdajlhiaaDoor.V2.S
namespace Go.Proofs.YtjoakhpdajlhiaaDoor.V2.S
open Go
set_option maxRecDepth 100000
set_option linter.unusedVariables false
theorem entV_eq (a b : En) : a = b ↔ a.path = b.path ∧ a.dir = b.dir ∧ a.data = b.data := by
  cases a; cases b; simp
instance : DecidableEq En := fun a b => decidable_of_iff _ (entV_eq a b).symm
theorem pqE {O : Oz} (hO : O = zO) {P : FR} {k : KV} {σ : FH} {neg : Bool} {a b : En} (h : k (.b (bif neg then !decide (a = b) else decide (a = b))) σ = P) : O.pq (.eqF neg [.str, .bool, .str]) [entV a, entV b] σ k = P := by
  subst hO
  show slV (pstep std (.eqF neg [.str, .bool, .str]) [αV (entV a), αV (entV b)]) (fun v => k v σ) = P
  have e : pstep std (.eqF neg [.str, .bool, .str]) [αV (entV a), αV (entV b)] = (true, .bool (bif neg then !decide (a = b) else decide (a = b))) := by
    have e1 : flatEq std false [.str, .bool, .str] (αV (entV a)) (αV (entV b)) = (true, decide (a = b)) := by
      show (true && (true && (true && true)), (unp (pack a.path) == unp (pack b.path)) && ((a.dir == b.dir) && ((unp (pack a.data) == unp (pack b.data)) && true))) = _
      rw [unp_pack, unp_pack, unp_pack, unp_pack]
      congr 1
      rw [Bool.and_true]
      by_cases h : a = b
      · rw [decide_eq_true h]; subst h; simp
      · rw [decide_eq_false h]
        rw [entV_eq] at h
        rw [Bool.eq_false_iff]
        intro h2
        simp only [Bool.and_eq_true, beq_iff_eq] at h2
        exact h ⟨h2.1, h2.2.1, h2.2.2⟩
    simp only [pstep, e1]
  rw [e]
  show (fV (βV (.bool _)) fun v => k v σ) = P
  rw [fV_eq]; exact h
theorem pqSame {O : Oz} (hO : O = zO) {P : FR} {k : KV} {σ : FH} {a : En} (h : k (.b false) σ = P) : O.pq (.eqF true [.str, .bool, .str]) [entV a, entV a] σ k = P := pqE hO (by rw [decide_eq_true rfl]; exact h)
end Go.Proofs.YtjoakhpdajlhiaaDoor.V2.S
namespace Go.Proofs.YtjoakhpdajlhiaaDoor.V2.S
open Go
theorem nm0 {y : Nat} : ∀ x ∈ ([] : List Nat), y ≠ x := fun x hx => absurd hx List.not_mem_nil
theorem nm1 {y a : Nat} (h : y ≠ a) : ∀ x ∈ [a], y ≠ x := fun x hx => by rw [List.mem_singleton.1 hx]; exact h
end Go.Proofs.YtjoakhpdajlhiaaDoor.V2.S
