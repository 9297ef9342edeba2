/- Part 13 of the proof: texts of the proof. -/
import Derived.Test.YtjoakhpdajlhiaaGreatDoorQY12
namespace Go.Proofs.YtjoakhpdajlhiaaGreatDoor.V2.S
open Go
set_option linter.unusedVariables false
noncomputable section
def p3 (O : Oz) : Phi → HF := fnQ (Aw fun v1 => (Bc (cWr X2 (.b false) (Aa (Ad 4 []) fun v2 => (Aa (Ad 5 []) fun v3 => (cWr X3 v2 (Aa (Ad 6 [(rdV v1)]) fun v4 => (Aa (o1 O.lv (rdV v4)) fun v5 => (cWr X13 (.n .i64 0) (Ai (Bo 0 (O.lp 1000000 (Aa (o2 O.lt R13 (rdV v5)) fun v6 => (Ai (Af (rdV v6) Ab (Cu 0)) (Ai (Bo 1 (Aa (o2 (O.ix 4) (rdV v4) R13) fun v7 => (Aa (m1 (O.ln 4) (rdV v7)) fun v8 => (Aa (n0Z O.al (.cells [.n .i64 0, .s (pack []), .s (pack []), .n .u16 0] 30 .exact)) fun v9 => (cDo (n2 (O.st 4) (rdV v9) (rdV v8)) (Aa (o1 (O.fa 0) (rdV v9)) fun v10 => (Aa (m1 O.ld (rdV v10)) fun v11 => (Aa (o2 O.eq (rdV v11) (rdV (.n .i64 12))) fun v12 => (Ai (Af (rdV v12) (Aa (oV R3) fun v13 => (Aa (Ad 7 [(rdV v13)]) fun v14 => (Aa (Ad 8 [(rdV v14), (rdV (.s (pack [99, 111, 112, 121])))]) fun v15 => (Aa (Ad 9 [(rdV v14), (rdV (.s (pack [99, 111, 112, 121])))]) fun v16 => (Aa (oV R3) fun v17 => (Aa (Ad 7 [(rdV v17)]) fun v18 => (cWr X3 v18 Ab))))))) Ab) (Aa (oV R3) fun v19 => (Aa (m1 (O.ln 4) (rdV v9)) fun v20 => (Aa (Ad 10 [(rdV v19), (rdV v3), (rdV v20)]) fun v21 => (Aa (o1 Mp (rdV v21)) fun v22 => (Aa (oG false (rdV v22) (oV R3)) fun v23 => (Aa (oG false (rdV v22) (oV (rdV v3))) fun v24 => (Aa (oG false (rdV v22) (Ad 11 [(rdV v23), (rdV v24)])) fun v25 => (Aa (oG false (rdV v22) (o1 Mp (rdV v25))) fun v26 => (Aa (o3 pkF (rdV v22) (rdV (.b true)) (rdV v26)) fun v27 => (Ai (Af (rdV v27) (cWr X2 (.b false) Ao) Ab) Ab))))))))))))))))))) (Aa (o2 O.ad R13 (rdV (.n .i64 1))) fun v28 => (cWr X13 v28 Ab))))))) (Aa (Ad 12 []) fun v29 => (cWr X2 v29 Ao)))))))))) [vT R2]))
theorem k3 : QeOk ⟨3, eZ Tryz.f3, p3 zO⟩ := qz 41 1 [2, 3, 13] Tryz.func3 (by kernel_rfl) (by kernel_rfl)
def p10 (O : Oz) : Phi → HF := fnQ (Aw fun v1 => (Aw fun v2 => (Aw fun v3 => (Bc (Aa (n1 (O.bx 30) (rdV v3)) fun v4 => (cWr X6 (.b false) (Aa (o1 (O.fa 0) (rdV v4)) fun v5 => (Aa (m1 O.ld (rdV v5)) fun v6 => (Ai (Bo 0 (Aa (o2 O.eq (rdV v6) (rdV (.n .i64 0))) fun v7 => (cWr X25 v7 (Ai (Af (rdV v7) Ab (Aa (o2 O.eq (rdV v6) (rdV (.n .i64 1))) fun v8 => (cWr X25 v8 (Ai (Af (rdV v8) Ab (Aa (o2 O.eq (rdV v6) (rdV (.n .i64 2))) fun v9 => (cWr X25 v9 (Ai (Af (rdV v9) Ab (Aa (o2 O.eq (rdV v6) (rdV (.n .i64 3))) fun v10 => (cWr X25 v10 Ab))) Ab)))) Ab)))) (Ai (Af R25 (Aa (o1 (O.fa 1) (rdV v4)) fun v11 => (Aa (m1 O.ld (rdV v11)) fun v12 => (Aa (o1 (O.fa 2) (rdV v4)) fun v13 => (Aa (m1 O.ld (rdV v13)) fun v14 => (Aa (o1 (O.fa 0) (rdV v4)) fun v15 => (Aa (m1 O.ld (rdV v15)) fun v16 => (Aa (o2 O.eq (rdV v16) (rdV (.n .i64 3))) fun v17 => (Aa (o1 (O.fa 1) (rdV v4)) fun v18 => (Aa (m1 O.ld (rdV v18)) fun v19 => (Aa (o1 (O.fa 2) (rdV v4)) fun v20 => (Aa (m1 O.ld (rdV v20)) fun v21 => (Aa (o1 (O.fa 0) (rdV v4)) fun v22 => (Aa (m1 O.ld (rdV v22)) fun v23 => (Aa (o2 O.eq (rdV v23) (rdV (.n .i64 3))) fun v24 => (Aa (Ad 19 [(rdV v1), (rdV v12), (rdV v14), (rdV v17)]) fun v25 => (cRz O.rc (m1 O.ld (rdV v18)) v19 (cRz O.rc (m1 O.ld (rdV v20)) v21 (cRz O.rc (m1 O.ld (rdV v22)) v23 (Aa (Ad 20 [(rdV v2), (rdV v19), (rdV v21), (rdV v24)]) fun v26 => (Aa (o2 O.eq (rdV v25) (rdV v26)) fun v27 => (cWr X6 v27 Ao))))))))))))))))))))) (Aa (o2 O.eq (rdV v6) (rdV (.n .i64 4))) fun v28 => (cWr X49 v28 (Ai (Af (rdV v28) Ab (Aa (o2 O.eq (rdV v6) (rdV (.n .i64 5))) fun v29 => (cWr X49 v29 Ab))) (Ai (Af R49 (Aa (o1 (O.fa 1) (rdV v4)) fun v30 => (Aa (m1 O.ld (rdV v30)) fun v31 => (Aa (o1 (O.fa 1) (rdV v4)) fun v32 => (Aa (m1 O.ld (rdV v32)) fun v33 => (Aa (Ad 8 [(rdV v1), (rdV v31)]) fun v34 => (cRz O.rc (m1 O.ld (rdV v32)) v33 (Aa (Ad 21 [(rdV v2), (rdV v33)]) fun v35 => (Aa (o2 O.eq (rdV v34) (rdV v35)) fun v36 => (cWr X6 v36 Ao))))))))) (Aa (o2 O.eq (rdV v6) (rdV (.n .i64 6))) fun v37 => (Ai (Af (rdV v37) (Aa (o1 (O.fa 1) (rdV v4)) fun v38 => (Aa (m1 O.ld (rdV v38)) fun v39 => (Aa (o1 (O.fa 1) (rdV v4)) fun v40 => (Aa (m1 O.ld (rdV v40)) fun v41 => (Aa (Ad 22 [(rdV v1), (rdV v39)]) fun v42 => (cRz O.rc (m1 O.ld (rdV v40)) v41 (Aa (Ad 23 [(rdV v2), (rdV v41)]) fun v43 => (Aa (o2 O.eq (rdV v42) (rdV v43)) fun v44 => (cWr X6 v44 Ao))))))))) (Aa (o2 O.eq (rdV v6) (rdV (.n .i64 7))) fun v45 => (Ai (Af (rdV v45) (Aa (o1 (O.fa 1) (rdV v4)) fun v46 => (Aa (m1 O.ld (rdV v46)) fun v47 => (Aa (o1 (O.fa 1) (rdV v4)) fun v48 => (Aa (m1 O.ld (rdV v48)) fun v49 => (Aa (Ad 9 [(rdV v1), (rdV v47)]) fun v50 => (cRz O.rc (m1 O.ld (rdV v48)) v49 (Aa (Ad 24 [(rdV v2), (rdV v49)]) fun v51 => (Aa (o2 O.eq (rdV v50) (rdV v51)) fun v52 => (cWr X6 v52 Ao))))))))) (Aa (o2 O.eq (rdV v6) (rdV (.n .i64 8))) fun v53 => (Ai (Af (rdV v53) (Aa (o1 (O.fa 1) (rdV v4)) fun v54 => (Aa (m1 O.ld (rdV v54)) fun v55 => (Aa (Ad 25 [(rdV v1), (rdV v55)]) fun v56 => (Aa (o1 (exG 0) (rdV v56)) fun v57 => (Aa (o1 (exG 1) (rdV v56)) fun v58 => (Aa (o1 (O.fa 1) (rdV v4)) fun v59 => (Aa (m1 O.ld (rdV v59)) fun v60 => (Aa (Ad 26 [(rdV v2), (rdV v60)]) fun v61 => (Aa (o1 (exG 0) (rdV v61)) fun v62 => (Aa (o1 (exG 1) (rdV v61)) fun v63 => (Aa (o2 O.eq (rdV v57) (rdV v62)) fun v64 => (Aa (oG true (rdV v64) (oV (rdV v58))) fun v65 => (Aa (oG true (rdV v64) (oV (rdV v63))) fun v66 => (Aa (oG true (rdV v64) (o2 O.eq (rdV v65) (rdV v66))) fun v67 => (Aa (o3 pkF (rdV v64) (rdV v67) (rdV (.b false))) fun v68 => (cWr X6 v68 Ao)))))))))))))))) (Aa (o2 O.eq (rdV v6) (rdV (.n .i64 9))) fun v69 => (Ai (Af (rdV v69) (Aa (o1 (O.fa 1) (rdV v4)) fun v70 => (Aa (m1 O.ld (rdV v70)) fun v71 => (Aa (Ad 27 [(rdV v1), (rdV v71)]) fun v72 => (Aa (o1 (exG 0) (rdV v72)) fun v73 => (Aa (o1 (exG 1) (rdV v72)) fun v74 => (Aa (o1 (O.fa 1) (rdV v4)) fun v75 => (Aa (m1 O.ld (rdV v75)) fun v76 => (Aa (Ad 28 [(rdV v2), (rdV v76)]) fun v77 => (Aa (o1 (exG 0) (rdV v77)) fun v78 => (Aa (o1 (exG 1) (rdV v77)) fun v79 => (Aa (Ad 29 [(rdV v73), (rdV v78)]) fun v80 => (Aa (oG true (rdV v80) (oV (rdV v74))) fun v81 => (Aa (oG true (rdV v80) (oV (rdV v79))) fun v82 => (Aa (oG true (rdV v80) (o2 O.eq (rdV v81) (rdV v82))) fun v83 => (Aa (o3 pkF (rdV v80) (rdV v83) (rdV (.b false))) fun v84 => (cWr X6 v84 Ao)))))))))))))))) (Aa (o2 O.eq (rdV v6) (rdV (.n .i64 10))) fun v85 => (Ai (Af (rdV v85) (Aa (o1 (O.fa 1) (rdV v4)) fun v86 => (Aa (m1 O.ld (rdV v86)) fun v87 => (Aa (Ad 30 [(rdV v1), (rdV v87)]) fun v88 => (Aa (o1 (exG 0) (rdV v88)) fun v89 => (Aa (o1 (exG 1) (rdV v88)) fun v90 => (Aa (o1 (O.fa 1) (rdV v4)) fun v91 => (Aa (m1 O.ld (rdV v91)) fun v92 => (Aa (Ad 31 [(rdV v2), (rdV v92)]) fun v93 => (Aa (o1 (exG 0) (rdV v93)) fun v94 => (Aa (o1 (exG 1) (rdV v93)) fun v95 => (Aa (o2 O.eq (rdV v89) (rdV v94)) fun v96 => (Aa (oG true (rdV v96) (oV (rdV v90))) fun v97 => (Aa (oG true (rdV v96) (oV (rdV v95))) fun v98 => (Aa (oG true (rdV v96) (o2 O.eq (rdV v97) (rdV v98))) fun v99 => (Aa (o3 pkF (rdV v96) (rdV v99) (rdV (.b false))) fun v100 => (cWr X6 v100 Ao)))))))))))))))) (Aa (o2 O.eq (rdV v6) (rdV (.n .i64 11))) fun v101 => (Ai (Af (rdV v101) (Aa (o1 (O.fa 1) (rdV v4)) fun v102 => (Aa (m1 O.ld (rdV v102)) fun v103 => (Aa (Ad 15 [(rdV v1), (rdV v103)]) fun v104 => (Aa (o1 (exG 0) (rdV v104)) fun v105 => (Aa (o1 (exG 1) (rdV v104)) fun v106 => (Aa (o1 (O.fa 1) (rdV v4)) fun v107 => (Aa (m1 O.ld (rdV v107)) fun v108 => (Aa (Ad 32 [(rdV v2), (rdV v108)]) fun v109 => (Aa (o1 (exG 0) (rdV v109)) fun v110 => (Aa (o1 (exG 1) (rdV v109)) fun v111 => (Aa (o2 O.eq (rdV v105) (rdV v110)) fun v112 => (Aa (oG true (rdV v112) (oV (rdV v106))) fun v113 => (Aa (oG true (rdV v112) (oV (rdV v111))) fun v114 => (Aa (oG true (rdV v112) (o2 O.eq (rdV v113) (rdV v114))) fun v115 => (Aa (o3 pkF (rdV v112) (rdV v115) (rdV (.b false))) fun v116 => (cWr X6 v116 Ao)))))))))))))))) Ab) Ab))) Ab))) Ab))) Ab))) Ab))) Ab))) Ab))))) Ab))))) (cWr X6 (.b true) Ao)))))) [vT R6]))))
theorem k10 : QeOk ⟨10, eZ Tryz.f10, p10 zO⟩ := qz 179 3 [6, 25, 49] Tryz.func10 (by kernel_rfl) (by kernel_rfl)
def p20 (O : Oz) : Phi → HF := fnQ (Aw fun v1 => (Aw fun v2 => (aLetW X2 fun v3 => (Aw fun v4 => (Bc (cWr X8 (.n .i64 0) (Aa (Ad 32 [(rdV v1), (rdV v2)]) fun v5 => (Aa (o1 (exG 0) (rdV v5)) fun v6 => (Aa (o1 (exG 1) (rdV v5)) fun v7 => (Aa (o2 O.ne (rdV v7) (rdV (.n .i64 0))) fun v8 => (Ai (Af (rdV v8) (cWr X8 v7 Ao) Ab) (Aa (Ad 45 [(rdV v1), (rdV v6)]) fun v9 => (Aa (o2 O.eq (rdV v9) (rdV (.n .i64 1))) fun v10 => (Ai (Af (rdV v10) (cWr X8 (.n .i64 5) Ao) Ab) (Aa (oG true (rdV v4) (oV (rdV v9))) fun v11 => (Aa (oG true (rdV v4) (o2 O.eq (rdV v11) (rdV (.n .i64 2)))) fun v12 => (Aa (o3 pkF (rdV v4) (rdV v12) (rdV (.b false))) fun v13 => (Ai (Af (rdV v13) (Aa (o1 ncF (rdV v1)) fun v14 => (Aa (o1 (O.fa 0) (rdV v14)) fun v15 => (Aa (m1 O.ld (rdV v15)) fun v16 => (Aa (Ad 46 [(rdV v1), (rdV v6)]) fun v17 => (cRz O.rc (m1 O.ld (rdV v15)) v16 (Aa (o2 (O.ix 3) (rdV v16) (rdV v17)) fun v18 => (Aa (o1 (O.fa 2) (rdV v18)) fun v19 => (Aa (m1 O.ld (rdV v19)) fun v20 => (Aa (o2 O.ad (rdV v20) (rdV v3)) fun v21 => (cWr X2 v21 Ab)))))))))) Ab) (Aa (oV R2) fun v22 => (Aa (nL (O.bu [.s (pack []), .b false, .s (pack [])] [(.str []), (.bool false), (.str [])] [(0, 1), (2, 1)]) [(rdV v6), (rdV v22)]) fun v23 => (Aa (Ad 47 [(rdV v1), (rdV v23)]) fun v24 => (cWr X8 v24 Ao))))))))))))))))) [vT R8])))))
theorem k20 : QeOk ⟨20, eZ Tryz.f20, p20 zO⟩ := qz 48 4 [2, 8] Tryz.func20 (by kernel_rfl) (by kernel_rfl)
def p21 (O : Oz) : Phi → HF := fnQ (Aw fun v1 => (Aw fun v2 => (Bc (cWr X4 (.n .i64 0) (Aa (Ad 32 [(rdV v1), (rdV v2)]) fun v3 => (Aa (o1 (exG 0) (rdV v3)) fun v4 => (Aa (o1 (exG 1) (rdV v3)) fun v5 => (Aa (o2 O.ne (rdV v5) (rdV (.n .i64 0))) fun v6 => (Ai (Af (rdV v6) (cWr X4 v5 Ao) Ab) (Aa (Ad 45 [(rdV v1), (rdV v4)]) fun v7 => (Aa (o2 O.ne (rdV v7) (rdV (.n .i64 0))) fun v8 => (Ai (Af (rdV v8) (cWr X4 (.n .i64 9) Ao) Ab) (Aa (nL (O.bu [.s (pack []), .b false, .s (pack [])] [(.str []), (.bool false), (.str [])] [(0, 1), (1, 1)]) [(rdV v4), (rdV (.b true))]) fun v9 => (Aa (Ad 47 [(rdV v1), (rdV v9)]) fun v10 => (cWr X4 v10 Ao)))))))))))) [vT R4])))
theorem k21 : QeOk ⟨21, eZ Tryz.f21, p21 zO⟩ := qz 24 2 [4] Tryz.func21 (by kernel_rfl) (by kernel_rfl)
def p23 (O : Oz) : Phi → HF := fnQ (Aw fun v1 => (Aw fun v2 => (Bc (cWr X4 (.n .i64 0) (Aa (Ad 32 [(rdV v1), (rdV v2)]) fun v3 => (Aa (o1 (exG 0) (rdV v3)) fun v4 => (Aa (o1 (exG 1) (rdV v3)) fun v5 => (Aa (o2 O.ne (rdV v5) (rdV (.n .i64 0))) fun v6 => (Ai (Af (rdV v6) (cWr X4 v5 Ao) Ab) (Aa (Ad 45 [(rdV v1), (rdV v4)]) fun v7 => (Aa (o2 O.eq (rdV v7) (rdV (.n .i64 0))) fun v8 => (Ai (Af (rdV v8) (cWr X4 (.n .i64 6) Ao) Ab) (Aa (o1 ncF (rdV v1)) fun v9 => (Aa (o1 (O.fa 1) (rdV v9)) fun v10 => (Aa (m1 O.ld (rdV v10)) fun v11 => (cWr X7 v11 (Ai (Bo 0 (O.lp 1000000 (Ai (Bo 1 (Aa (oV R7) fun v12 => (Aa (o2 O.eq (rdV v12) (rdV v4)) fun v13 => (Ai (Af (rdV v13) (cWr X4 (.n .i64 1) Ao) Ab) (Aa (oV R7) fun v14 => (Aa (o2 O.eq (rdV v14) (rdV (.s (pack [47])))) fun v15 => (Ai (Af (rdV v15) (Cu 0) Ab) (Aa (oV R7) fun v16 => (Aa (Ad 49 [(rdV v16)]) fun v17 => (cWr X7 v17 Ab)))))))))) Ab))) (Aa (Ad 45 [(rdV v1), (rdV v4)]) fun v18 => (Aa (o2 O.eq (rdV v18) (rdV (.n .i64 1))) fun v19 => (Aa (oG true (rdV v19) (oV (rdV v1))) fun v20 => (Aa (oG true (rdV v19) (oV (rdV v4))) fun v21 => (Aa (oG true (rdV v19) (Ad 50 [(rdV v20), (rdV v21)])) fun v22 => (Aa (oG true (rdV v19) (o1 O.lv (rdV v22))) fun v23 => (Aa (oG true (rdV v19) (o2 O.gt (rdV v23) (rdV (.n .i64 0)))) fun v24 => (Aa (o3 pkF (rdV v19) (rdV v24) (rdV (.b false))) fun v25 => (Ai (Af (rdV v25) (cWr X4 (.n .i64 10) Ao) Ab) (Aa (Ad 46 [(rdV v1), (rdV v4)]) fun v26 => (Aa (o1 ncF (rdV v1)) fun v27 => (Aa (o1 (O.fa 0) (rdV v27)) fun v28 => (Aa (m1 O.ld (rdV v28)) fun v29 => (Aa (oVz O.sv 3 (rdV v29) none (some (rdV v26)) none) fun v30 => (Aa (n2 (O.ap 70 false 3) (rdV (.o .sl)) (rdV v30)) fun v31 => (Aa (o1 ncF (rdV v1)) fun v32 => (Aa (o1 (O.fa 0) (rdV v32)) fun v33 => (Aa (m1 O.ld (rdV v33)) fun v34 => (Aa (o2 O.ad (rdV v26) (rdV (.n .i64 1))) fun v35 => (Aa (oVz O.sv 3 (rdV v34) (some (rdV v35)) none none) fun v36 => (Aa (n2 (O.ap 70 false 3) (rdV v31) (rdV v36)) fun v37 => (Aa (o1 ncF (rdV v1)) fun v38 => (Aa (o1 (O.fa 0) (rdV v38)) fun v39 => (cDo (n2 (O.st 1) (rdV v39) (rdV v37)) (cWr X4 (.n .i64 0) Ao))))))))))))))))))))))))))))))))))))))) [vT R4])))
theorem k23 : QeOk ⟨23, eZ Tryz.f23, p23 zO⟩ := qz 68 2 [4, 7] Tryz.func23 (by kernel_rfl) (by kernel_rfl)
def p26 (O : Oz) : Phi → HF := fnQ (Aw fun v1 => (Aw fun v2 => (Bc (cWr X4 (.s (pack [])) (cWr X5 (.n .i64 0) (Aa (Ad 51 [(rdV v1), (rdV v2), (rdV (.n .i64 2))]) fun v3 => (Aa (o1 (exG 0) (rdV v3)) fun v4 => (Aa (o1 (exG 1) (rdV v3)) fun v5 => (Aa (o2 O.ne (rdV v5) (rdV (.n .i64 0))) fun v6 => (Ai (Af (rdV v6) (cWr X4 (.s (pack [])) (cWr X5 v5 Ao)) Ab) (Aa (o1 ncF (rdV v1)) fun v7 => (Aa (o1 (O.fa 0) (rdV v7)) fun v8 => (Aa (m1 O.ld (rdV v8)) fun v9 => (Aa (Ad 46 [(rdV v1), (rdV v4)]) fun v10 => (cRz O.rc (m1 O.ld (rdV v8)) v9 (Aa (o2 (O.ix 3) (rdV v9) (rdV v10)) fun v11 => (Aa (o1 (O.fa 2) (rdV v11)) fun v12 => (Aa (m1 O.ld (rdV v12)) fun v13 => (cWr X4 v13 (cWr X5 (.n .i64 0) Ao))))))))))))))))) [vT R4, vT R5])))
theorem k26 : QeOk ⟨26, eZ Tryz.f26, p26 zO⟩ := qz 27 2 [4, 5] Tryz.func26 (by kernel_rfl) (by kernel_rfl)
def p28 (O : Oz) : Phi → HF := fnQ (Aw fun v1 => (Aw fun v2 => (Bc (cWr X4 (.o .sl) (cWr X5 (.n .i64 0) (Aa (Ad 51 [(rdV v1), (rdV v2), (rdV (.n .i64 1))]) fun v3 => (Aa (o1 (exG 0) (rdV v3)) fun v4 => (Aa (o1 (exG 1) (rdV v3)) fun v5 => (Aa (o2 O.ne (rdV v5) (rdV (.n .i64 0))) fun v6 => (Ai (Af (rdV v6) (cWr X4 (.o .sl) (cWr X5 v5 Ao)) Ab) (Aa (Ad 50 [(rdV v1), (rdV v4)]) fun v7 => (cWr X4 v7 (cWr X5 (.n .i64 0) Ao)))))))))) [vT R4, vT R5])))
theorem k28 : QeOk ⟨28, eZ Tryz.f28, p28 zO⟩ := qz 20 2 [4, 5] Tryz.func28 (by kernel_rfl) (by kernel_rfl)
def p29 (O : Oz) : Phi → HF := fnQ (Aw fun v1 => (Aw fun v2 => (Bc (cWr X4 (.b false) (Aa (o1 O.lv (rdV v1)) fun v3 => (Aa (o1 O.lv (rdV v2)) fun v4 => (Aa (o2 O.ne (rdV v3) (rdV v4)) fun v5 => (Ai (Af (rdV v5) (cWr X4 (.b false) Ao) Ab) (cWr X5 (.n .i64 0) (Ai (Bo 0 (O.lp 1000000 (Aa (oV R5) fun v6 => (Aa (o1 O.lv (rdV v1)) fun v7 => (Aa (o2 O.lt (rdV v6) (rdV v7)) fun v8 => (Ai (Af (rdV v8) Ab (Cu 0)) (Ai (Bo 1 (Aa (oV R5) fun v9 => (Aa (o2 (O.ix 1) (rdV v1) (rdV v9)) fun v10 => (Aa (m1 O.ld (rdV v10)) fun v11 => (Aa (oV R5) fun v12 => (Aa (o2 (O.ix 1) (rdV v2) (rdV v12)) fun v13 => (Aa (m1 O.ld (rdV v13)) fun v14 => (Aa (o2 O.ne (rdV v11) (rdV v14)) fun v15 => (Ai (Af (rdV v15) (cWr X4 (.b false) Ao) Ab) Ab))))))))) (Aa (oV R5) fun v16 => (Aa (o2 O.ad (rdV v16) (rdV (.n .i64 1))) fun v17 => (cWr X5 v17 Ab)))))))))) (cWr X4 (.b true) Ao)))))))) [vT R4])))
theorem k29 : QeOk ⟨29, eZ Tryz.f29, p29 zO⟩ := qz 26 2 [4, 5] Tryz.func29 (by kernel_rfl) (by kernel_rfl)
def p31 (O : Oz) : Phi → HF := fnQ (Aw fun v1 => (Aw fun v2 => (Bc (cWr X4 (.n .i64 0) (cWr X5 (.n .i64 0) (Aa (Ad 32 [(rdV v1), (rdV v2)]) fun v3 => (Aa (o1 (exG 0) (rdV v3)) fun v4 => (Aa (o1 (exG 1) (rdV v3)) fun v5 => (Aa (o2 O.ne (rdV v5) (rdV (.n .i64 0))) fun v6 => (Ai (Af (rdV v6) (cWr X4 (.n .i64 0) (cWr X5 v5 Ao)) Ab) (Aa (Ad 45 [(rdV v1), (rdV v4)]) fun v7 => (cWr X4 v7 (cWr X5 (.n .i64 0) Ao)))))))))) [vT R4, vT R5])))
theorem k31 : QeOk ⟨31, eZ Tryz.f31, p31 zO⟩ := qz 20 2 [4, 5] Tryz.func31 (by kernel_rfl) (by kernel_rfl)
def p50 (O : Oz) : Phi → HF := fnQ (Aw fun v1 => (Aw fun v2 => (Bc (cWr X4 (.o .sl) (cWr X5 (.o .sl) (cWr X6 (.n .i64 0) (Ai (Bo 0 (O.lp 1000000 (Aa (oV R6) fun v3 => (Aa (o1 ncF (rdV v1)) fun v4 => (Aa (o1 (O.fa 0) (rdV v4)) fun v5 => (Aa (m1 O.ld (rdV v5)) fun v6 => (Aa (o1 O.lv (rdV v6)) fun v7 => (Aa (o2 O.lt (rdV v3) (rdV v7)) fun v8 => (Ai (Af (rdV v8) Ab (Cu 0)) (Ai (Bo 1 (Aa (o1 ncF (rdV v1)) fun v9 => (Aa (o1 (O.fa 0) (rdV v9)) fun v10 => (Aa (m1 O.ld (rdV v10)) fun v11 => (Aa (oV R6) fun v12 => (Aa (o2 (O.ix 3) (rdV v11) (rdV v12)) fun v13 => (Aa (o1 (O.fa 0) (rdV v13)) fun v14 => (Aa (m1 O.ld (rdV v14)) fun v15 => (Aa (Ad 49 [(rdV v15)]) fun v16 => (Aa (o2 O.ne (rdV v16) (rdV v2)) fun v17 => (Ai (Af (rdV v17) (Cu 1) Ab) (Aa (o1 O.ls (rdV v15)) fun v18 => (cWr X8 v18 (Ai (Bo 2 (O.lp 1000000 (Aa (oV R8) fun v19 => (Aa (o2 O.sb (rdV v19) (rdV (.n .i64 1))) fun v20 => (Aa (o2 O.tx (rdV v15) (rdV v20)) fun v21 => (Aa (o2 O.ne (rdV v21) (rdV (.n .u8 47))) fun v22 => (Ai (Af (rdV v22) Ab (Cu 2)) (Ai (Bo 3 (Aa (oV R8) fun v23 => (Aa (o2 O.sb (rdV v23) (rdV (.n .i64 1))) fun v24 => (cWr X8 v24 Ab)))) Ab)))))))) (Aa (oV R5) fun v25 => (Aa (oV R8) fun v26 => (Aa (oSz O.ss (rdV v15) (some (rdV v26)) none) fun v27 => (Aa (nL (O.bs 9 1 1) [(rdV v27)]) fun v28 => (Aa (n2 (O.ap 9 false 1) (rdV v25) (rdV v28)) fun v29 => (cWr X5 v29 (Aa (o1 O.lv (rdV v29)) fun v30 => (Aa (o2 O.sb (rdV v30) (rdV (.n .i64 1))) fun v31 => (cWr X9 v31 (Ai (Bo 4 (O.lp 1000000 (Aa (oV R9) fun v32 => (Aa (o2 O.gt (rdV v32) (rdV (.n .i64 0))) fun v33 => (Aa (oG true (rdV v33) (oV (rdV v29))) fun v34 => (Aa (oG true (rdV v33) (oV R9)) fun v35 => (Aa (oG true (rdV v33) (o2 (O.ix 1) (rdV v34) (rdV v35))) fun v36 => (Aa (oG true (rdV v33) (m1 O.ld (rdV v36))) fun v37 => (Aa (oG true (rdV v33) (oV (rdV v29))) fun v38 => (Aa (oG true (rdV v33) (oV R9)) fun v39 => (Aa (oG true (rdV v33) (o2 O.sb (rdV v39) (rdV (.n .i64 1)))) fun v40 => (Aa (oG true (rdV v33) (o2 (O.ix 1) (rdV v38) (rdV v40))) fun v41 => (Aa (oG true (rdV v33) (m1 O.ld (rdV v41))) fun v42 => (Aa (oG true (rdV v33) (o2 O.lt (rdV v37) (rdV v42))) fun v43 => (Aa (o3 pkF (rdV v33) (rdV v43) (rdV (.b false))) fun v44 => (Ai (Af (rdV v44) Ab (Cu 4)) (Ai (Bo 5 (Aa (oV R9) fun v45 => (Aa (oV R9) fun v46 => (Aa (o2 O.sb (rdV v46) (rdV (.n .i64 1))) fun v47 => (Aa (oV R9) fun v48 => (Aa (o2 O.sb (rdV v48) (rdV (.n .i64 1))) fun v49 => (Aa (o2 (O.ix 1) (rdV v29) (rdV v49)) fun v50 => (Aa (m1 O.ld (rdV v50)) fun v51 => (Aa (oV R9) fun v52 => (Aa (o2 (O.ix 1) (rdV v29) (rdV v52)) fun v53 => (Aa (m1 O.ld (rdV v53)) fun v54 => (Aa (o2 (O.ix 1) (rdV v29) (rdV v45)) fun v55 => (Aa (n2 (O.st 1) (rdV v55) (rdV v51)) fun v56 => (Aa (o2 (O.ix 1) (rdV v29) (rdV v47)) fun v57 => (Aa (n2 (O.st 1) (rdV v57) (rdV v54)) fun v58 => Ab))))))))))))))) (Aa (oV R9) fun v59 => (Aa (o2 O.sb (rdV v59) (rdV (.n .i64 1))) fun v60 => (cWr X9 v60 Ab)))))))))))))))))))) Ab)))))))))))))))))))))))) (Aa (oV R6) fun v61 => (Aa (o2 O.ad (rdV v61) (rdV (.n .i64 1))) fun v62 => (cWr X6 v62 Ab))))))))))))) (Aa (oV R5) fun v63 => (cWr X4 v63 Ao)))))) [vT R4])))
theorem k50 : QeOk ⟨50, eZ Tryz.f50, p50 zO⟩ := qz 82 2 [4, 5, 6, 8, 9] Tryz.func50 (by kernel_rfl) (by kernel_rfl)
end
end Go.Proofs.YtjoakhpdajlhiaaGreatDoor.V2.S
namespace Go.Proofs.YtjoakhpdajlhiaaGreatDoor.V2.S
open Go
set_option maxRecDepth 100000
set_option maxHeartbeats 4000000
set_option linter.unusedVariables false
attribute [local irreducible] fN fO nM gM pM Phi.fn mp bl Au Be Bh pack
theorem look_kind0 {t : Tr} {p : Bs} (h : Al t p = 0) : C3 t p = [] := by
  unfold C3
  cases hl : Dy t p with
  | none => rfl
  | some e =>
    exfalso
    by_cases hp : p = [47]
    · unfold Al at h; rw [if_pos hp] at h; cases h
    · rw [kind_of hl hp] at h; cases hd : e.dir <;> rw [hd] at h <;> cases h
theorem look_kind2 {t : Tr} {p : Bs} (h : Al t p = 2) (hl : Dy t p = none) : False := by
  unfold Al at h
  rw [hl] at h
  split at h <;> cases h
def KindRE (H : HF) : Prop := ∀ {rb nn n : Nat} {v : FV} {t : Tr} {m : T FObj}, RTree m rb nn v (srt t) → WfT t → OkT t → rb < n → nn ≤ n → ∀ (path : Bs), path.length ≤ 900000 → Eq H [.p rb 0, .s (pack path)] n m (.tup [.n .i64 (G4 t path).1, .n .i64 (G4 t path).2])
theorem kindE_r {O : Oz} (hO : O = zO) (Φ : Phi) (HA : AbsR (Phi.fn Φ 32)) (HK : Ks (Phi.fn Φ 45)) : KindRE (p31 O Φ) := fun {rb nn n v t m} hR hW hOk hrb hnn path hpl k P hf => by
  have hwl := hW.len
  repeat' ((conv => lhs; whnf); first | ((with_reducible refine A4 ?_); first | (refine HA hR (by rw [A7]; omega) (Hg hW hOk) hW.c2 path (by omega) _ _ ?_; rw [Gj hW]) | (refine HK hR (by rw [A7]; omega) (Ae t path).1 _ _ ?_; rw [D1 hW])) | ((with_reducible refine neB hO (fun h => ?_) (fun h => ?_))))
  all_goals (conv => lhs; whnf)
  all_goals first
    | (rw [show G4 t path = (0, (Ae t path).2) by unfold G4; rw [if_pos (by assumption)]] at hf; exact hf)
    | (rw [show G4 t path = (Al t (Ae t path).1, 0) by unfold G4; rw [if_neg (by simp [*])]] at hf; exact hf)
def IsR2 (H : HF) : Prop := ∀ {rb nn n : Nat} {v : FV} {t : Tr} {m : T FObj}, RTree m rb nn v (srt t) → WfT t → OkT t → rb < n → nn ≤ n → ∀ (path : Bs), path.length ≤ 900000 → Eq H [.p rb 0, .s (pack path), .n .i64 2] n m (.tup [.s (pack (isG t path 2).1), .n .i64 (isG t path 2).2])
theorem is_r2 {O : Oz} (hO : O = zO) (Φ : Phi) (HA : AbsR (Phi.fn Φ 32)) (HK : Ks (Phi.fn Φ 45)) : IsR2 (p51 O Φ) := fun {rb nn n v t m} hR hW hOk hrb hnn path hpl k P hf => by
  have hwl := hW.len
  repeat' ((conv => lhs; whnf); first | ((with_reducible refine A4 ?_); first | (refine HA hR (by rw [A7]; omega) (Hg hW hOk) hW.c2 path (by omega) _ _ ?_; rw [Gj hW]) | (refine HK hR (by rw [A7]; omega) (Ae t path).1 _ _ ?_; rw [D1 hW])) | ((with_reducible refine eqB hO (fun h => ?_) (fun h => ?_))) | ((with_reducible refine neB hO (fun h => ?_) (fun h => ?_))))
  all_goals (conv => lhs; whnf)
  all_goals first
    | (rw [show isG t path 2 = ([], (Ae t path).2) by unfold isG; rw [if_pos (by assumption)]] at hf; exact hf)
    | (rw [show isG t path 2 = ((Ae t path).1, 0) by unfold isG; rw [if_neg (by simp [*]), if_pos (by omega)]] at hf; exact hf)
    | (rw [show isG t path 2 = ([], 6) by unfold isG; rw [if_neg (by simp [*]), if_neg (by omega), if_pos (by omega)]] at hf; exact hf)
    | (rw [show isG t path 2 = ([], 5) by unfold isG; rw [if_neg (by simp [*]), if_neg (by omega), if_neg (by omega)]] at hf; exact hf)
def ReadR (H : HF) : Prop := ∀ {rb nn n : Nat} {v : FV} {t : Tr} {m : T FObj}, RTree m rb nn v (srt t) → WfT t → OkT t → rb < n → nn ≤ n → ∀ (path : Bs), path.length ≤ 900000 → Eq H [.p rb 0, .s (pack path)] n m (.tup [.s (pack (E5 t path).1), .n .i64 (E5 t path).2])
theorem read_r {O : Oz} (hO : O = zO) (Φ : Phi) (HI : IsR2 (Phi.fn Φ 51)) (HF : FindR (Phi.fn Φ 46)) : ReadR (p26 O Φ) := fun {rb nn n v t m} hR hW hOk hrb hnn path hpl k P hf => by
  have hwl := hW.len
  have hS := hR.s
  have hRw := hR.r
  rcases hRw with ⟨h00, rfl⟩ | ⟨b, Kb, xb, eb, tlb, rfl, hbn, hbm⟩
  all_goals
    repeat' ((conv => lhs; whnf); first | ((with_reducible refine A4 ?_); first | refine HI hR hW hOk hrb hnn path hpl _ _ ?_ | (refine HF hR (by rw [A7]; omega) (isG t path 2).1 _ _ (fun i e hix hlk => ?_) (fun hlk => ?_); rw [E3 hW] at hlk; have hel := (List.getElem?_eq_some_iff.1 hix).1; have hem := hW.pl e ((A0 t.L).mem_iff.1 (List.mem_of_getElem? hix)); rotate_left; rw [E3 hW] at hlk; rotate_left)) | ((with_reducible refine fa0 hO ?_)) | ((with_reducible refine faN hO ?_)) | ((with_reducible refine Br ?_); first | refine ldC hO hS (by rfl) ?_ | refine ldC hO hbm (M4 hix) ?_) | ((with_reducible refine neB hO (fun h => ?_) (fun h => ?_))) | ((with_reducible refine ix0 hO (by omega) ?_)) | ((with_reducible refine rcE hO (by kernel_rfl) rfl ?_)))
    all_goals (conv => lhs; whnf)
    all_goals first
      | (exfalso; rw [h00] at hel; exact absurd hel (Nat.not_lt_zero _))
      | (rw [show E5 t path = ([], (isG t path 2).2) by unfold E5; rw [if_pos (by assumption)]] at hf; exact hf)
      | (exfalso
         have h0 : (isG t path 2).2 = 0 := by assumption
         obtain ⟨g1, g2, g3⟩ := is_eq h0
         rw [g3] at hlk
         exact look_kind2 g2 hlk)
      | (have h0 : (isG t path 2).2 = 0 := by assumption
         rw [show E5 t path = (C3 t (isG t path 2).1, 0) by unfold E5; rw [if_neg (by omega)], show C3 t (isG t path 2).1 = e.data by unfold C3; rw [hlk]] at hf
         exact hf)
def MakeR (H : HF) : Prop := ∀ {rb nn n : Nat} {v : FV} {t : Tr} {m : T FObj}, RTree m rb nn v (srt t) → WfT t → OkT t → rb < n → nn ≤ n → ∀ (path : Bs), path.length ≤ 900000 → ∀ (k : KV) (P : FR), n + 520 ≤ 1000000 → (∀ n' m' v', n ≤ n' → n' ≤ n + 520 → Kq [rb] n m m' → RTree m' rb n' v' (srt (Co t path).1) → (∀ G : Nat → Prop, (∀ b, n ≤ b → G b) → GG G v → GG G v') → k (.n .i64 (Co t path).2) ⟨n', m'⟩ = P) → H [.p rb 0, .s (pack path)] ⟨n, m⟩ k = P
theorem make_r {O : Oz} (hO : O = zO) (Φ : Phi) (HA : AbsR (Phi.fn Φ 32)) (HK : Ks (Phi.fn Φ 45)) (HP : PutR (Phi.fn Φ 47)) : MakeR (p21 O Φ) := fun {rb nn n v t m} hR hW hOk hrb hnn path hpl k P hn hf => by
  have hwl := hW.len
  repeat' ((conv => lhs; whnf); first | ((with_reducible refine A4 ?_); first | (refine HA hR (by rw [A7]; omega) (Hg hW hOk) hW.c2 path (by omega) _ _ ?_; rw [Gj hW]) | (refine HK hR (by rw [A7]; omega) (Ae t path).1 _ _ ?_; rw [D1 hW]) | (refine HP hR hW (by omega) (by omega) ⟨(Ae t path).1, true, []⟩ (by show (Ae t path).1.length ≤ 900000; have := Ew (t := t) (path := path) hW.c2 (by omega); omega) (by first | exact Nat.zero_le _ | (show d.length ≤ 900000; omega) | (show (e.data ++ d).length ≤ 900000; rw [List.length_append]; omega)) _ _ (by omega) (fun n6 m6 w6 h6 g6 k6 hR6 hG6 => ?_))) | ((with_reducible refine neB hO (fun h => ?_) (fun h => ?_))) | ((with_reducible first | refine umt hO ?_ | refine uqu hO ?_ | refine urm hO ?_ | refine uan hO ?_ | refine uro hO ?_ | refine uxr hO ?_ | refine uhl hO ?_ | refine uhr hO ?_ | refine uad hO ?_ | refine usb hO ?_ | refine ult hO ?_ | refine ule hO ?_ | refine ugt hO ?_ | refine uge hO ?_ | refine ueq hO ?_ | refine une hO ?_ | refine ucv hO ?_ | refine uia hO ?_ | refine usv hO ?_ | refine ubu hO ?_ | refine uap hO ?_ | refine ubs hO ?_ | refine umm hO ?_ | refine upq hO ?_ | refine unq hO ?_ | refine uln hO ?_)))
  all_goals (conv => lhs; whnf)
  all_goals first
    | (rw [show Co t path = (t, (Ae t path).2) by unfold Co; rw [if_pos (by assumption)]] at hf; exact hf _ _ _ (Nat.le_refl _) (by omega) (Kq.refl _ _ _) (hR.up hnn) (fun _ _ h => h))
    | (rw [show Co t path = (t, 9) by unfold Co; rw [if_neg (by simp [*]), if_pos (by omega)]] at hf; exact hf _ _ _ (Nat.le_refl _) (by omega) (Kq.refl _ _ _) (hR.up hnn) (fun _ _ h => h))
    | (rw [show Co t path = Cn t ⟨(Ae t path).1, true, []⟩ by unfold Co; rw [if_neg (by simp [*]), if_neg (by omega)]] at hf; exact hf _ _ _ h6 g6 k6 hR6 hG6)
def WriteR (H : HF) : Prop := ∀ {rb nn n : Nat} {v : FV} {t : Tr} {m : T FObj}, RTree m rb nn v (srt t) → WfT t → OkT t → rb < n → nn ≤ n → ∀ (path d : Bs) (more : Bool), path.length ≤ 900000 → d.length ≤ 800000 → ∀ (k : KV) (P : FR), n + 520 ≤ 1000000 → (∀ n' m' v', n ≤ n' → n' ≤ n + 520 → Kq [rb] n m m' → RTree m' rb n' v' (srt (Bp t path d more).1) → (∀ G : Nat → Prop, (∀ b, n ≤ b → G b) → GG G v → GG G v') → k (.n .i64 (Bp t path d more).2) ⟨n', m'⟩ = P) → H [.p rb 0, .s (pack path), .s (pack d), .b more] ⟨n, m⟩ k = P
theorem write_r {O : Oz} (hO : O = zO) (Φ : Phi) (HA : AbsR (Phi.fn Φ 32)) (HK : Ks (Phi.fn Φ 45)) (HF : FindR (Phi.fn Φ 46)) (HP : PutR (Phi.fn Φ 47)) : WriteR (p20 O Φ) := fun {rb nn n v t m} hR hW hOk hrb hnn path d more hpl hdl k P hn hf => by
  have hwl := hW.len
  have hS := hR.s
  have hRw := hR.r
  have e1 : (Ae t path).2 ≠ 0 → Bp t path d more = (t, (Ae t path).2) := fun h => by unfold Bp; rw [if_pos h]
  have e2 : (Ae t path).2 = 0 → Al t (Ae t path).1 = 1 → Bp t path d more = (t, 5) := fun h h1 => by unfold Bp; rw [if_neg (by omega), if_pos h1]
  have e3 : (Ae t path).2 = 0 → Al t (Ae t path).1 ≠ 1 → Bp t path d more = Cn t ⟨(Ae t path).1, false, if more then C3 t (Ae t path).1 ++ d else d⟩ := fun h h1 => by unfold Bp; rw [if_neg (by omega), if_neg h1]
  rcases hRw with ⟨h00, rfl⟩ | ⟨b, Kb, xb, eb, tlb, rfl, hbn, hbm⟩
  all_goals rcases more with _ | _
  all_goals
    repeat' ((conv => lhs; whnf); first | ((with_reducible refine adS hO (by omega) ?_)) | ((with_reducible refine A4 ?_); first | (refine HA hR (by rw [A7]; omega) (Hg hW hOk) hW.c2 path (by omega) _ _ ?_; rw [Gj hW]) | (refine HK hR (by rw [A7]; omega) (Ae t path).1 _ _ ?_; rw [D1 hW]) | (refine HF hR (by rw [A7]; omega) (Ae t path).1 _ _ (fun i e hix hlk => ?_) (fun hlk => ?_); rw [E3 hW] at hlk; have hel := (List.getElem?_eq_some_iff.1 hix).1; have hem := hW.pl e ((A0 t.L).mem_iff.1 (List.mem_of_getElem? hix)); rotate_left; rw [E3 hW] at hlk; rotate_left) | (refine HP hR hW (by omega) (by omega) ⟨(Ae t path).1, false, e.data ++ d⟩ (by show (Ae t path).1.length ≤ 900000; have := Ew (t := t) (path := path) hW.c2 (by omega); omega) (by first | exact Nat.zero_le _ | (show d.length ≤ 900000; omega) | (show (e.data ++ d).length ≤ 900000; rw [List.length_append]; omega)) _ _ (by omega) (fun n6 m6 w6 h6 g6 k6 hR6 hG6 => ?_)) | (refine HP hR hW (by omega) (by omega) ⟨(Ae t path).1, false, d⟩ (by show (Ae t path).1.length ≤ 900000; have := Ew (t := t) (path := path) hW.c2 (by omega); omega) (by first | exact Nat.zero_le _ | (show d.length ≤ 900000; omega) | (show (e.data ++ d).length ≤ 900000; rw [List.length_append]; omega)) _ _ (by omega) (fun n6 m6 w6 h6 g6 k6 hR6 hG6 => ?_))) | ((with_reducible refine fa0 hO ?_)) | ((with_reducible refine faN hO ?_)) | ((with_reducible refine Br ?_); first | refine ldC hO hS (by rfl) ?_ | refine ldC hO hbm (M4 hix) ?_) | ((with_reducible refine eqB hO (fun h => ?_) (fun h => ?_))) | ((with_reducible refine neB hO (fun h => ?_) (fun h => ?_))) | ((with_reducible refine ix0 hO (by omega) ?_)) | ((with_reducible refine rcE hO (by kernel_rfl) rfl ?_)) | ((with_reducible first | refine umt hO ?_ | refine uqu hO ?_ | refine urm hO ?_ | refine uan hO ?_ | refine uro hO ?_ | refine uxr hO ?_ | refine uhl hO ?_ | refine uhr hO ?_ | refine uad hO ?_ | refine usb hO ?_ | refine ult hO ?_ | refine ule hO ?_ | refine ugt hO ?_ | refine uge hO ?_ | refine ueq hO ?_ | refine une hO ?_ | refine ucv hO ?_ | refine uia hO ?_ | refine usv hO ?_ | refine ubu hO ?_ | refine uap hO ?_ | refine ubs hO ?_ | refine umm hO ?_ | refine upq hO ?_ | refine unq hO ?_ | refine uln hO ?_)))
    all_goals (conv => lhs; whnf)
    all_goals first
      | (exfalso; rw [h00] at hel; exact absurd hel (Nat.not_lt_zero _))
      | (rw [e1 (by assumption)] at hf; exact hf _ _ _ (Nat.le_refl _) (by omega) (Kq.refl _ _ _) (hR.up hnn) (fun _ _ h => h))
      | (rw [e2 (by assumption) (by assumption)] at hf; exact hf _ _ _ (Nat.le_refl _) (by omega) (Kq.refl _ _ _) (hR.up hnn) (fun _ _ h => h))
      | (exfalso; exact look_kind2 (by assumption) hlk)
      | (rw [e3 (by assumption) (by assumption)] at hf; exact hf _ _ _ h6 g6 k6 hR6 hG6)
      | (have hk0 : Al t (Ae t path).1 = 0 := by have := J9 t (Ae t path).1; omega
         rw [e3 (by assumption) (by assumption), if_pos rfl, look_kind0 hk0, List.nil_append] at hf; exact hf _ _ _ h6 g6 k6 hR6 hG6)
      | (rw [e3 (by assumption) (by omega), if_pos rfl, show C3 t (Ae t path).1 = e.data by unfold C3; rw [hlk]] at hf
         exact hf _ _ _ h6 g6 k6 hR6 hG6)
end Go.Proofs.YtjoakhpdajlhiaaGreatDoor.V2.S
namespace Go.Proofs.YtjoakhpdajlhiaaGreatDoor.V2.S
open Go
set_option maxRecDepth 100000
set_option linter.unusedVariables false
theorem bsS1 {O : Oz} (hO : O = zO) {P : FR} {k : KV} {n : Nat} {m : T FObj} {e : TypeId} {s : Bs} (hn : n < 1000000) (h : k (.sl n 0 1 1 true 1) ⟨n + 1, mp m n (.cells (vsL [s]) e .exact)⟩ = P) : O.bs e 1 1 [.s (pack s)] ⟨n, m⟩ k = P := by
  subst hO
  show (ofQ [.s (pack s)] e .exact fun o => nM ⟨n, m⟩ o fun b σ => k (.sl b 0 1 1 true 1) σ) = P
  show (nM ⟨n, m⟩ (.cells [.s (pack s)] e .exact) fun b σ => k (.sl b 0 1 1 true 1) σ) = P
  rw [Dl hn]; exact h
end Go.Proofs.YtjoakhpdajlhiaaGreatDoor.V2.S
namespace Go.Proofs.YtjoakhpdajlhiaaGreatDoor.V2.S
open Go
set_option maxRecDepth 100000
set_option maxHeartbeats 4000000
set_option linter.unusedVariables false
attribute [local irreducible] fN fO nM gM pM Phi.fn mp bl Au Be Bh pack
theorem Mt : ∀ (l : List Bs) (r : FR), Ep (vsL l) r = r
  | [], r => rfl
  | a :: l, r => Mt l r
theorem vsL_app (a b : List Bs) : vsL (a ++ b) = vsL a ++ vsL b := by unfold vsL; rw [List.map_append]
theorem ofQ_vs2 (l : List Bs) (a : Bs) (e : TypeId) (t : Tl) (c : FObj → FR) : ofQ (vsL (l ++ [a])) e t c = c (.cells (vsL (l ++ [a])) e t) := by
  cases l with
  | nil => rfl
  | cons x l => rfl
theorem vs_cat (l : List Bs) (a : Bs) : ((vsL l).drop 0).take (l.length * 1) ++ ((vsL [a]).drop 0).take (1 * 1) = vsL (l ++ [a]) := by
  rw [vsL_app, List.drop_zero, List.drop_zero, List.take_of_length_le (by rw [Jq, Nat.mul_one]; exact Nat.le_refl _)]; rfl
def StrAt (m : T FObj) (lo hi : Nat) (v : FV) (o : List Bs) : Prop := (o = [] ∧ v = .o .sl) ∨ ∃ b, v = .sl b 0 o.length o.length false 1 ∧ lo ≤ b ∧ b < hi ∧ Am m b (.cells (vsL o) 9 .more)
theorem StrAt.kp {m m' : T FObj} {lo hi k : Nat} {v : FV} {o : List Bs} (h : StrAt m lo hi v o) (hk : Kp k m m') (hn : hi ≤ k) : StrAt m' lo hi v o := by
  rcases h with h | ⟨b, h1, h2, h3, h4⟩
  · exact .inl h
  · exact .inr ⟨b, h1, h2, h3, hk _ _ (by omega) h4⟩
theorem apSt {O : Oz} (hO : O = zO) {P : FR} {k : KV} {lo n : Nat} {m : T FObj} {e' : TypeId} {tl' : Tl} {out : List Bs} {a : Bs} {v : FV} {b' K' : Nat} {x' : Bool} (hE : StrAt m lo b' v out) (ha' : Am m b' (.cells (vsL [a]) e' tl')) (hb : out.length ≤ 1000) (hlo : lo ≤ n) (hbn : b' < n) (hn : n < 1000000)
    (h : ∀ m2, (∀ b o, b < lo → Am m b o → Am m2 b o) → Am m2 n (.cells (vsL (out ++ [a])) 9 .more) → k (.sl n 0 (out.length + 1) (out.length + 1) false 1) ⟨n + 1, m2⟩ = P) : O.ap 9 false 1 v (.sl b' 0 1 K' x' 1) ⟨n, m⟩ k = P := by
  rcases hE with ⟨rfl, rfl⟩ | ⟨b, rfl, h1, h2, h3⟩
  · refine apNC hO ha' (by show 0 + 1 * 1 ≤ 1; omega) (Mt _) (by omega) (by omega) hn (fun c => ofQ_vs2 [] a 9 _ c) (h _ (fun b o hb ha => Ff hn (by omega) ha) (Ap hn))
  · refine apCC hO h3 ha' (by rw [Jq]; omega) (by show 0 + 1 * 1 ≤ 1; omega) (Mt _) (Mt _) (by omega) (by rfl) (fun _ => rfl) (by omega) hn (fun c => ?_) ?_
    · rw [vs_cat]; exact ofQ_vs2 _ _ _ _ _
    · rw [vs_cat]
      exact h _ (fun b o hb ha => Ff hn (by omega) (Ff (by omega) (by omega) ha)) (Ap hn)
theorem ltSF {O : Oz} (hO : O = zO) {P : FR} {c : FV → FR} {a b : Bs} (h : ¬ a < b) (hc : c (.b false) = P) : O.lt (.s (pack a)) (.s (pack b)) c = P := by
  subst hO
  show gS .lss (pack a) (pack b) c = P
  unfold gS
  rw [As, As]
  show gB true (c (.b (Op.bytesLess a b))) = P
  rw [bytesLess_eq, decide_eq_false h]; exact hc
theorem out_take1 {d : Bs} {L : List En} {i : Nat} {e : En} (h : L[i]? = some e) : C1 d ((L.take (i + 1)).map En.path) = C1 d ((L.take i).map En.path) ++ (if C9 e.path = d then [e.path.drop (Bt d []).length] else []) := by
  rw [List.take_add_one, h, List.map_append]
  unfold C1
  rw [List.filter_append, List.map_append]
  show _ ++ List.map _ (List.filter _ [e.path]) = _
  by_cases hp : C9 e.path = d
  · rw [if_pos hp, List.filter_cons_of_pos (by simpa using hp)]; rfl
  · rw [if_neg hp, List.filter_cons_of_neg (by simpa using hp)]; rfl
theorem out_le (d : Bs) (l : List Bs) : (C1 d l).length ≤ l.length := by unfold C1; rw [List.length_map]; exact List.length_filter_le _ _
theorem name_at {x d : Bs} (hx : x.head? = some 47) (hd : C9 x = d) {ns : List Bs} {n : Bs} (hg : ∀ y ∈ ns, Good y) (hn : Good n) (hp : x = Ck (ns ++ [n])) : (Bt d []).length = lastS x := by
  rw [← hd, hp, Hn ns hn, Ga hg, C6, C6, Gu _ _ hn.c0, List.length_append]; rfl
theorem last_bt {l : Bs} (h : lastS l ≠ 0) : bt l (lastS l - 1) = 47 ∧ ∀ j, lastS l ≤ j → j < l.length → bt l j ≠ 47 := by
  obtain ⟨h1, h2⟩ := Il h
  refine ⟨by unfold bt; rw [List.getD_eq_getElem?_getD, h1]; rfl, fun j hj hl e => h2 j hj ?_⟩
  unfold bt at e
  rw [List.getD_eq_getElem?_getD, List.getElem?_eq_getElem hl, Option.getD_some] at e
  rw [List.getElem?_eq_getElem hl, UInt8.toNat_inj.1 (show (l[j]).toNat = (47 : UInt8).toNat from e)]
theorem pw_last {o : List Bs} {a : Bs} (h : (o ++ [a]).Pairwise (· < ·)) {j : Nat} {b : Bs} (hb : o[j]? = some b) : ¬ a < b := fun hlt => by
  have := (List.pairwise_append.1 h).2.2 b (List.mem_of_getElem? hb) a (List.mem_singleton.2 rfl)
  exact List.lt_asymm this hlt
def M6 (H : HF) : Prop := ∀ {rb nn n : Nat} {v : FV} {t : Tr} {m : T FObj}, RTree m rb nn v (srt t) → WfT t → OkT t → rb < n → nn ≤ n → ∀ (d : Bs), d.length ≤ 900000 → ∀ (k : KV) (P : FR), n + 260 ≤ 1000000 → (∀ v' n' m', n ≤ n' → n' ≤ n + 260 → Kp n m m' → StrAt m' n n' v' (C1 d ((srt t).L.map En.path)) → k v' ⟨n', m'⟩ = P) → H [.p rb 0, .s (pack d)] ⟨n, m⟩ k = P
theorem within_r {O : Oz} (hO : O = zO) (Φ : Phi) (HP : ParR (Phi.fn Φ 49)) : M6 (p50 O Φ) := fun {rb nn n v t m} hR hW hOk hrb hnn d hdl k P hn hf => by
  have hwl := hW.len
  have hsl := A7 t
  have hS := hR.s
  have hso : ((srt t).L.map En.path).Pairwise (· < ·) := Hi hW
  skip
  all_goals (conv => lhs; whnf)
  refine lpI hO (fun q e n' m' => ∃ i w z8 z9, i ≤ (srt t).L.length ∧ q = (srt t).L.length - i ∧ n ≤ n' ∧ n' ≤ n + 2 * i ∧ Kp n m m' ∧ StrAt m' n n' w (C1 d (((srt t).L.take i).map En.path)) ∧ e = eof [(4, .o .sl), (5, w), (6, .n .i64 i), (8, z8), (9, z9)]) ?_ ?_ _ (srt t).L.length _ _ _ (by omega) ⟨0, .o .sl, .o .top, .o .top, by omega, rfl, Nat.le_refl _, Nat.le_refl _, Kp.refl _ _, .inl ⟨rfl, rfl⟩, rfl⟩
  · rintro q e n' m' ⟨i, w, z8, z9, _, _, h, _⟩; omega
  · rintro q e n1 m1 ih ⟨i, w, z8, z9, hi, rfl, hn1, hn2, k1, hE, rfl⟩ hih
    have hS1 : Am m1 rb (.cells [v, .s (pack t.cwd)] 42 .exact) := k1 _ _ (by omega) hS
    have hRw1 := hR.r.kp k1 hnn
    rcases Nat.lt_or_ge i (srt t).L.length with hlt | hge
    · obtain ⟨y, hy⟩ : ∃ y, (srt t).L[i]? = some y := ⟨_, List.getElem?_eq_getElem hlt⟩
      have hym : y ∈ t.L := (A0 t.L).mem_iff.1 (List.mem_of_getElem? hy)
      have hyh := hW.hd y hym
      have hyl := (hW.pl y hym).1
      obtain ⟨ns, nm, ga, gb, gc, _⟩ := hOk.en y hym
      have hot := out_take1 (d := d) hy
      have hol := out_le d (((srt t).L.take i).map En.path)
      have hol2 : (((srt t).L.take i).map En.path).length ≤ 128 := by rw [List.length_map, List.length_take]; omega
      rcases hRw1 with ⟨h00, rfl⟩ | ⟨b, Kb, xb, eb, tlb, rfl, hbn, hbm⟩
      · rw [h00] at hlt; exact absurd hlt (Nat.not_lt_zero _)
      by_cases hpar : C9 y.path = d
      · rw [if_pos hpar, name_at hyh hpar ga gb gc] at hot
        have hls1 : 1 ≤ lastS y.path := by rw [gc, C6, Gu _ _ gb.c0]; omega
        have hls2 := Ht y.path
        obtain ⟨hlb1, hlb2⟩ := last_bt (l := y.path) (by omega)
        have hpw : (C1 d (((srt t).L.take (i + 1)).map En.path)).Pairwise (· < ·) := out_srt (hso.sublist ((List.take_sublist _ _).map _)) (fun x hx => by
          obtain ⟨z, hz, rfl⟩ := List.mem_map.1 hx
          exact hW.hd z ((A0 t.L).mem_iff.1 (List.mem_of_mem_take hz)))
        rw [hot] at hpw
        generalize hout : C1 d (((srt t).L.take i).map En.path) = out at hE hpw hot hol
        generalize hnm : y.path.drop (lastS y.path) = nam at hpw hot
        repeat' ((conv => lhs; whnf); first | ((with_reducible refine A4 ?_); refine HP y.path _ _ hyh (by omega) _ _ ?_) | ((with_reducible refine fa0 hO ?_)) | ((with_reducible refine faN hO ?_)) | ((with_reducible refine Br ?_); first | refine ldC hO hS1 (by rfl) ?_ | refine ldC hO hbm (In hy) ?_) | (((with_reducible refine lsS hO ?_); try simp only [List.length_cons, List.length_nil, Nat.zero_add])) | ((with_reducible refine lvS hO ?_)) | ((with_reducible refine ltT hO (by omega) ?_)) | ((with_reducible refine neSF hO (by first | rfl | assumption) ?_)) | ((with_reducible refine ix0 hO (by omega) ?_)))
        all_goals (conv => lhs; whnf)
        refine lpI hO (fun q e n' m' => lastS y.path ≤ q ∧ q ≤ y.path.length ∧ n' = n1 ∧ m' = m1 ∧ e = eof [(4, .o .sl), (5, w), (6, .n .i64 i), (8, .n .i64 q), (9, z9)]) ?_ ?_ _ y.path.length _ _ _ (by omega) ⟨hls2, Nat.le_refl _, rfl, rfl, rfl⟩
        · rintro q e n' m' ⟨_, _, h, _⟩; omega
        · rintro q e n' m' ih2 ⟨hq1, hq2, rfl, rfl, rfl⟩ hih2
          by_cases hqe : q = lastS y.path
          · subst hqe
            repeat' ((conv => lhs; whnf); first | ((refine ssL hO (by omega) ?_; rw [hnm])) | ((refine bsS1 hO (by omega) ?_)) | ((with_reducible refine lvS hO ?_)) | ((with_reducible refine neF hO (by omega) ?_)) | ((with_reducible refine sbI hO (by omega) (by omega) ?_)) | ((with_reducible refine txS hO (by first | omega | decide) ?_)) | ((with_reducible refine Ms ?_); refine apSt (lo := n) hO (hE.kp kQ (Nat.le_refl _)) (Ap (by omega)) (by omega) (by omega) (by omega) (by omega) (fun m2 hm2 aN => (fun k2 : Kp n _ m2 => ?_) hm2)))
            all_goals (conv => lhs; whnf)
            refine lpI hO (fun q e n2 m3 => q = 0 ∧ n2 = n' + 1 + 1 ∧ m3 = m2 ∧ e = eof [(4, .o .sl), (5, .sl (n' + 1) 0 (out.length + 1) (out.length + 1) false 1), (6, .n .i64 i), (8, .n .i64 (lastS y.path)), (9, .n .i64 (out.length + 1 - 1))]) ?_ ?_ _ 0 _ _ _ (by omega) ⟨rfl, rfl, rfl, rfl⟩
            · rintro q e n2 m3 ⟨_, h, _⟩; omega
            · rintro q e n2 m3 ih3 ⟨rfl, rfl, rfl, rfl⟩ hih3
              have ht1 : (out ++ [nam])[out.length + 1 - 1]? = some nam := by rw [Nat.add_sub_cancel, List.getElem?_append_right (Nat.le_refl _), Nat.sub_self]; rfl
              have fin : ∀ {z8 z9 : FV}, StrAt m3 n (n' + 1 + 1) (.sl (n' + 1) 0 (out.length + 1) (out.length + 1) false 1) (C1 d (((srt t).L.take (i + 1)).map En.path)) := fun {z8 z9} => by
                rw [hot]; exact .inr ⟨n' + 1, by rw [List.length_append]; rfl, by omega, by omega, aN⟩
              rcases Nat.eq_zero_or_pos out.length with h0 | h0
              rotate_left
              obtain ⟨lst, hlst⟩ : ∃ z, out[out.length - 1]? = some z := ⟨_, List.getElem?_eq_getElem (by omega)⟩
              have ht2 : (out ++ [nam])[out.length + 1 - 1 - 1]? = some lst := by rw [List.getElem?_append_left (by omega)]; exact hlst
              have hnl := pw_last hpw hlst
              all_goals
                repeat' ((conv => lhs; whnf); first | ((refine ltSF hO hnl ?_)) | ((with_reducible refine Br ?_); first | refine ldC hO aN (I8 ht1) ?_ | refine ldC hO aN (I8 ht2) ?_) | ((with_reducible refine gtT hO (by omega) ?_)) | ((with_reducible refine gtF hO (by omega) ?_)) | ((with_reducible refine adI hO (by omega) ?_)) | ((with_reducible refine sbI hO (by omega) (by omega) ?_)) | ((with_reducible refine ix01 hO (by omega) ?_)))
                all_goals (conv => lhs; whnf)
                all_goals first
                  | exact hih ((srt t).L.length - (i + 1)) _ _ _ (by omega) ⟨i + 1, _, _, _, by omega, rfl, by omega, by omega, kQ, fin (z8 := .o .top) (z9 := .o .top), rfl⟩
          · have hne47 := hlb2 (q - 1) (by omega) (by omega)
            repeat' ((conv => lhs; whnf); first | ((with_reducible refine neT hO (by omega) ?_)) | ((with_reducible refine sbI hO (by omega) (by omega) ?_)) | ((with_reducible refine txS hO (by first | omega | decide) ?_)))
            all_goals (conv => lhs; whnf)
            all_goals first
              | exact hih2 (q - 1) _ _ _ (by omega) ⟨by omega, by omega, rfl, rfl, rfl⟩
      · rw [if_neg hpar, List.append_nil] at hot
        repeat' ((conv => lhs; whnf); first | ((with_reducible refine A4 ?_); refine HP y.path _ _ hyh (by omega) _ _ ?_) | ((with_reducible refine fa0 hO ?_)) | ((with_reducible refine faN hO ?_)) | ((with_reducible refine Br ?_); first | refine ldC hO hS1 (by rfl) ?_ | refine ldC hO hbm (In hy) ?_) | ((with_reducible refine lvS hO ?_)) | ((with_reducible refine ltT hO (by omega) ?_)) | ((with_reducible refine neST hO (by first | assumption | decide) ?_)) | ((with_reducible refine adI hO (by omega) ?_)) | ((with_reducible refine ix0 hO (by omega) ?_)))
        all_goals (conv => lhs; whnf)
        all_goals first
          | exact hih ((srt t).L.length - (i + 1)) _ _ _ (by omega) ⟨i + 1, w, z8, z9, by omega, rfl, by omega, by omega, k1, by rw [hot]; exact hE, rfl⟩
    · obtain rfl : i = (srt t).L.length := by omega
      rw [List.take_length] at hE
      repeat' ((conv => lhs; whnf); first | ((refine lvE hO hRw1 ?_)) | ((with_reducible refine fa0 hO ?_)) | ((with_reducible refine Br ?_); refine ldC hO hS1 (by rfl) ?_) | ((with_reducible refine ltF hO (by omega) ?_)))
      all_goals (conv => lhs; whnf)
      all_goals first
        | exact hf _ _ _ (by omega) (by omega) k1 hE
end Go.Proofs.YtjoakhpdajlhiaaGreatDoor.V2.S
namespace Go.Proofs.YtjoakhpdajlhiaaGreatDoor.V2.S
open Go
set_option maxRecDepth 100000
set_option maxHeartbeats 4000000
set_option linter.unusedVariables false
attribute [local irreducible] fN fO nM gM pM Phi.fn mp bl Au Be Bh pack
theorem StrAt.lo {m : T FObj} {lo lo' hi : Nat} {v : FV} {o : List Bs} (h : StrAt m lo hi v o) (hl : lo' ≤ lo) : StrAt m lo' hi v o := by
  rcases h with h | ⟨b, h1, h2, h3, h4⟩
  · exact .inl h
  · exact .inr ⟨b, h1, by omega, h3, h4⟩
def WithF (H : HF) : Prop := ∀ {tb mb : Nat} {t : Tr} {n : Nat} {m : T FObj}, TreeAt m tb mb 39 t → tb < n → mb < n → WfT t → ∀ (d : Bs), d.length ≤ 900000 → ∀ (k : KV) (P : FR), n + 2 ≤ 1000000 → (∀ v' n' m', n ≤ n' → n' ≤ n + 2 → Kp n m m' → StrAt m' n n' v' (C1 d ((srt t).L.map En.path)) → k v' ⟨n', m'⟩ = P) → H [.p tb 0, .s (pack d)] ⟨n, m⟩ k = P
theorem wi_f : WithF wiQ := fun {tb mb t n m} hT htb hmb hW d hdl k P hn hf => by
  show (gM ⟨n, m⟩ tb (kCe fun l => nthK l 0 (kM fun q => wiMQ ⟨n, m⟩ (pack d) q k))) = P
  rw [Cx hT.s]
  show gM ⟨n, m⟩ mb (kMp fun l => Fq l fun cs => wiOQ cs (pack d) ⟨n, m⟩ k) = P
  rw [Cx hT.m]
  show Fq (t.L.map fun a => (.s (pack (En.path a)), Eb a)) (fun cs => wiOQ cs (pack d) ⟨n, m⟩ k) = P
  rw [Gv]
  have hpl : ∀ x ∈ t.L.map En.path, x.head? = some 47 ∧ x.length ≤ 256 := fun x hx => by
    obtain ⟨e, he, rfl⟩ := List.mem_map.1 hx
    exact ⟨hW.hd e he, (hW.pl e he).1⟩
  have hnd := outG_nd (d := d) hW.nd fun x hx => (hpl x hx).1
  have hol : (C1 d (t.L.map En.path)).length ≤ 128 := by
    unfold C1
    rw [List.length_map]
    exact Nat.le_trans (List.length_filter_le _ _) (by rw [List.length_map]; exact hW.len)
  have hop : ∀ x ∈ C1 d (t.L.map En.path), x.length ≤ 1000000 := fun x hx => by
    unfold C1 at hx
    obtain ⟨y, hy, rfl⟩ := List.mem_map.1 hx
    have := (hpl y (List.mem_filter.1 hy).1).2
    rw [List.length_drop]; omega
  have hu : ((t.L.map En.path).map pack).map unp = t.L.map En.path := Kx _
  have hwi : wiS d (t.L.map En.path) = true := by
    unfold wiS
    rw [Bool.and_eq_true]
    refine ⟨A8 (by omega), List.all_eq_true.2 fun x hx => ?_⟩
    obtain ⟨h1, h2⟩ := hpl x hx
    have hne : x.isEmpty = false := by
      cases x with
      | nil => cases h1
      | cons c l => rfl
    rw [hne]
    show (true && (!decide (J3 x = d) || Nat.ble (G7 d []).length x.length)) = true
    rw [Bool.true_and]
    by_cases hp : J3 x = d
    · rw [decide_eq_true hp, show G7 d [] = Bt d [] from join_eq d [], A8 (La h1 ((par_eq x).symm.trans hp)).1]; rfl
    · rw [decide_eq_false hp]; rfl
  have hsp := Da hW.nd
  show gB (wiS (unp (pack d)) (((t.L.map En.path).map pack).map unp)) (shK ((t.L.map En.path).map pack) (gB (Nat.ble ((t.L.map En.path).map pack).length 1000000) (srtK ((t.L.map En.path).map pack) fun r => Ha r (pkK (D5 (unp (pack d)) (((t.L.map En.path).map pack).map unp)) fun os => srtQ os ⟨n, m⟩ k)))) = P
  rw [As, hu, hwi, Hj _ _ fun x hx => by have := (hpl x hx).2; omega, List.length_map, List.length_map, A8 (by have := hW.len; omega), F5, F9 _ hsp, pkK_eq, outS_out, srtQ_bs hnd (by omega) hop (by omega)]
  show (if C1 d (t.L.map En.path) = [] then k (.o .sl) ⟨n, m⟩ else _) = P
  split
  · rename_i h0
    exact hf _ _ _ (Nat.le_refl _) (by omega) (Kp.refl _ _) (.inl ⟨by rw [← J4 hW, h0]; rfl, rfl⟩)
  · rename_i h0
    refine hf _ _ _ (by omega) (by omega) kQ (.inr ⟨n, ?_, Nat.le_refl _, by omega, ?_⟩)
    · rw [← J4 hW, Ev]
    · rw [← J4 hW]; exact Ap (by omega)
def ListF (H : HF) : Prop := ∀ {tb mb : Nat} {t : Tr} {n : Nat} {m : T FObj}, TreeAt m tb mb 39 t → tb < n → mb < n → WfT t → ∀ (path : Bs), path.length ≤ 900000 → ∀ (k : KV) (P : FR), n + 603 ≤ 1000000 → (∀ n' m', (isG t path 1).2 ≠ 0 → n ≤ n' → n' ≤ n + 603 → Kp n m m' → k (.tup [.o .sl, .n .i64 (isG t path 1).2]) ⟨n', m'⟩ = P) → (∀ v' n' m', (isG t path 1).2 = 0 → n ≤ n' → n' ≤ n + 603 → Kp n m m' → StrAt m' n n' v' (C1 (isG t path 1).1 ((srt t).L.map En.path)) → k (.tup [v', .n .i64 0]) ⟨n', m'⟩ = P) → H [.p tb 0, .s (pack path)] ⟨n, m⟩ k = P
theorem list_f {O : Oz} (hO : O = zO) (Φ : Phi) (HI : IsS (Phi.fn Φ 18)) (HW : WithF (Phi.fn Φ 48)) : ListF (p27 O Φ) := fun {tb mb t n m} hT htb hmb hW path hpl k P hn h1 h0 => by
  have hil : (isG t path 1).1.length ≤ 900000 := by
    have := Ew (t := t) (path := path) hW.c2 (by omega)
    unfold isG; split
    · exact Nat.zero_le _
    · split
      · show (Ae t path).1.length ≤ _; omega
      · split <;> exact Nat.zero_le _
  repeat' ((conv => lhs; whnf); first | ((with_reducible refine A4 ?_); first | (refine HI hT htb hmb hW path 1 hpl _ _ (by omega) (fun n1 m1 h1_ g1 k1 => ?_)) | (refine HW (hT.kp k1 htb hmb) (by omega) (by omega) hW (isG t path 1).1 hil _ _ (by omega) (fun w2 n2 m2 h2 g2 k2 hE2 => ?_))) | ((with_reducible refine neB hO (fun h => ?_) (fun h => ?_))))
  all_goals (conv => lhs; whnf)
  all_goals first
    | exact h1 _ _ (by assumption) (by omega) (by omega) kQ
    | exact h0 _ _ _ (by assumption) (by omega) (by omega) kQ (hE2.lo (by omega))
def ListR (H : HF) : Prop := ∀ {rb nn n : Nat} {v : FV} {t : Tr} {m : T FObj}, RTree m rb nn v (srt t) → WfT t → OkT t → rb < n → nn ≤ n → ∀ (path : Bs), path.length ≤ 900000 → ∀ (k : KV) (P : FR), n + 260 ≤ 1000000 → ((isG t path 1).2 ≠ 0 → k (.tup [.o .sl, .n .i64 (isG t path 1).2]) ⟨n, m⟩ = P) → (∀ v' n' m', (isG t path 1).2 = 0 → n ≤ n' → n' ≤ n + 260 → Kp n m m' → StrAt m' n n' v' (C1 (isG t path 1).1 ((srt t).L.map En.path)) → k (.tup [v', .n .i64 0]) ⟨n', m'⟩ = P) → H [.p rb 0, .s (pack path)] ⟨n, m⟩ k = P
theorem list_r {O : Oz} (hO : O = zO) (Φ : Phi) (HI : IsR (Phi.fn Φ 51)) (HW : M6 (Phi.fn Φ 50)) : ListR (p28 O Φ) := fun {rb nn n v t m} hR hW hOk hrb hnn path hpl k P hn h1 h0 => by
  have hwl := hW.len
  have hil : (isG t path 1).1.length ≤ 900000 := by
    have := Ew (t := t) (path := path) hW.c2 (by omega)
    unfold isG; split
    · exact Nat.zero_le _
    · split
      · show (Ae t path).1.length ≤ _; omega
      · split <;> exact Nat.zero_le _
  repeat' ((conv => lhs; whnf); first | ((with_reducible refine A4 ?_); first | (refine HI hR (by rw [A7]; omega) (Hg hW hOk) hW.c2 path hpl _ _ ?_; rw [srt_is hW]) | (refine HW hR hW hOk hrb hnn (isG t path 1).1 hil _ _ (by omega) (fun w2 n2 m2 h2 g2 k2 hE2 => ?_))) | ((with_reducible refine neB hO (fun h => ?_) (fun h => ?_))))
  all_goals (conv => lhs; whnf)
  all_goals first
    | exact h1 (by assumption)
    | exact h0 _ _ _ (by assumption) (by omega) (by omega) k2 hE2
def RowS (m : T FObj) (v : FV) (l : List Bs) : Prop := (l = [] ∧ v = .o .sl) ∨ ∃ b e tl, v = .sl b 0 l.length l.length false 1 ∧ Am m b (.cells (vsL l) e tl)
theorem StrAt.row {m : T FObj} {lo hi : Nat} {v : FV} {o : List Bs} (h : StrAt m lo hi v o) : RowS m v o := by
  rcases h with h | ⟨b, h1, _, _, h4⟩
  · exact .inl h
  · exact .inr ⟨b, _, _, h1, h4⟩
def ListEq (H : HF) : Prop := ∀ {n : Nat} {m : T FObj} {v w : FV} {l : List Bs}, RowS m v l → RowS m w l → l.length ≤ 1000 → Eq H [v, w] n m (.b true)
theorem listeq_s {O : Oz} (hO : O = zO) (Φ : Phi) : ListEq (p29 O Φ) := fun {n m v w l} hv hw hl k P hf => by
  have hv0 := hv
  rcases hv with ⟨h0, rfl⟩ | ⟨b, e, tl, rfl, ha⟩
  · rcases hw with ⟨_, rfl⟩ | ⟨b2, e2, tl2, rfl, ha2⟩
    all_goals (have hl0 : l.length = 0 := by rw [h0]; rfl)
    all_goals
      repeat' ((conv => lhs; whnf); first | ((with_reducible refine lvS hO ?_)) | ((with_reducible refine lvN hO ?_)) | ((with_reducible refine neF hO (by omega) ?_)))
      all_goals (conv => lhs; whnf)
      first
        | (refine lpI hO (fun q e n' m' => q = 0 ∧ n' = n ∧ m' = m ∧ e = eof [(4, .b false), (5, .n .i64 0)]) ?_ ?_ _ 0 _ _ _ (by omega) ⟨rfl, rfl, rfl, rfl⟩
           · rintro q e n' m' ⟨_, h, _⟩; omega
           · rintro q e n' m' ih ⟨rfl, rfl, rfl, rfl⟩ hih
             repeat' ((conv => lhs; whnf); first | ((with_reducible refine lvN hO ?_)) | ((with_reducible refine ltF hO (by omega) ?_)))
             all_goals (conv => lhs; whnf)
             exact hf)
  · rcases hw with ⟨h0, rfl⟩ | ⟨b2, e2, tl2, rfl, ha2⟩
    · have hl0 : l.length = 0 := by rw [h0]; rfl
      repeat' ((conv => lhs; whnf); first | ((with_reducible refine lvS hO ?_)) | ((with_reducible refine lvN hO ?_)) | ((with_reducible refine neF hO (by omega) ?_)))
      all_goals (conv => lhs; whnf)
      refine lpI hO (fun q e n' m' => q = 0 ∧ n' = n ∧ m' = m ∧ e = eof [(4, .b false), (5, .n .i64 0)]) ?_ ?_ _ 0 _ _ _ (by omega) ⟨rfl, rfl, rfl, rfl⟩
      · rintro q e n' m' ⟨_, h, _⟩; omega
      · rintro q e n' m' ih ⟨rfl, rfl, rfl, rfl⟩ hih
        repeat' ((conv => lhs; whnf); first | ((with_reducible refine lvS hO ?_)) | ((with_reducible refine ltF hO (by omega) ?_)))
        all_goals (conv => lhs; whnf)
        exact hf
    · skip
      repeat' ((conv => lhs; whnf); first | ((with_reducible refine lvS hO ?_)) | ((with_reducible refine neF hO (by omega) ?_)))
      all_goals (conv => lhs; whnf)
      refine lpI hO (fun q e n' m' => ∃ i, i ≤ l.length ∧ q = l.length - i ∧ n' = n ∧ m' = m ∧ e = eof [(4, .b false), (5, .n .i64 i)]) ?_ ?_ _ l.length _ _ _ (by omega) ⟨0, by omega, by omega, rfl, rfl, rfl⟩
      · rintro q e n' m' ⟨i, _, _, h, _⟩; omega
      · rintro q e n' m' ih ⟨i, hi, rfl, rfl, rfl, rfl⟩ hih
        rcases Nat.lt_or_ge i l.length with hlt | hge
        · obtain ⟨y, hy⟩ : ∃ y, l[i]? = some y := ⟨_, List.getElem?_eq_getElem hlt⟩
          repeat' ((conv => lhs; whnf); first | ((with_reducible refine Br ?_); first | refine ldC hO ha (I8 hy) ?_ | refine ldC hO ha2 (I8 hy) ?_) | ((with_reducible refine lvS hO ?_)) | ((with_reducible refine ltT hO (by omega) ?_)) | ((with_reducible refine neSF hO (by first | rfl | assumption) ?_)) | ((with_reducible refine adI hO (by omega) ?_)) | ((with_reducible refine ix01 hO (by omega) ?_)))
          all_goals (conv => lhs; whnf)
          exact hih (l.length - (i + 1)) _ _ _ (by omega) ⟨i + 1, by omega, rfl, rfl, rfl, rfl⟩
        · obtain rfl : i = l.length := by omega
          repeat' ((conv => lhs; whnf); first | ((with_reducible refine lvS hO ?_)) | ((with_reducible refine ltF hO (by omega) ?_)))
          all_goals (conv => lhs; whnf)
          exact hf
end Go.Proofs.YtjoakhpdajlhiaaGreatDoor.V2.S
namespace Go.Proofs.YtjoakhpdajlhiaaGreatDoor.V2.S
open Go
set_option maxRecDepth 100000
set_option maxHeartbeats 4000000
set_option linter.unusedVariables false
attribute [local irreducible] fN fO nM gM pM Phi.fn mp bl Au Be Bh pack
theorem ens_take : ∀ (L : List En) (i : Nat), (ens L).take (i * 3) = ens (L.take i)
  | [], i => by simp [ens]
  | a :: L, 0 => by simp [ens]
  | a :: L, i + 1 => by
    rw [List.take_succ_cons, ens, ens, show (i + 1) * 3 = (enV a).length + i * 3 by show _ = 3 + _; omega, List.take_length_add_append, ens_take L i]
theorem ens_dropN : ∀ (L : List En) (i : Nat), (ens L).drop (i * 3) = ens (L.drop i)
  | [], i => by simp [ens]
  | a :: L, 0 => by simp
  | a :: L, i + 1 => by
    rw [List.drop_succ_cons, ens, show (i + 1) * 3 = (enV a).length + i * 3 by show _ = 3 + _; omega, List.drop_length_add_append, ens_dropN L i]
theorem ofQ_ne {l : List En} (h : l ≠ []) (e : TypeId) (t : Tl) (c : FObj → FR) : ofQ (ens l) e t c = c (.cells (ens l) e t) := by
  cases l with
  | nil => exact absurd rfl h
  | cons x l => exact ofQ_ens x l e t c
theorem apE0 {O : Oz} (hO : O = zO) {P : FR} {k : KV} {n : Nat} {m : T FObj} {e el' : TypeId} {tl' : Tl} {l' : List FV} {b' o' K' : Nat} {x' : Bool} {lo hi : Nat} {w : FV} {o : List En} (hE : EnAt m lo hi w o) (ha' : Am m b' (.cells l' el' tl')) (hl' : o' + 0 * 3 ≤ l'.length) (h1' : ∀ r, Ep l' r = r) (h : k w ⟨n, m⟩ = P) : O.ap e false 3 w (.sl b' o' 0 K' x' 3) ⟨n, m⟩ k = P := by
  subst hO
  rcases hE with ⟨rfl, rfl⟩ | ⟨b, rfl, _⟩
  · show J0 3 ⟨n, m⟩ b' o' 0 3 (fun mm R2 => apR e 3 (.o .sl) mm R2 ⟨n, m⟩ k) = P
    rw [rowSc ha' hl' h1']; exact h
  · show J0 3 ⟨n, m⟩ b' o' 0 3 (fun mm R2 => apR e 3 (.sl b 0 o.length o.length false 3) mm R2 ⟨n, m⟩ k) = P
    rw [rowSc ha' hl' h1']; exact h
theorem apTake {O : Oz} (hO : O = zO) {P : FR} {k : KV} {n : Nat} {m : T FObj} {e : TypeId} {tl : Tl} {L : List En} {b i K : Nat} {x : Bool} (ha : Am m b (.cells (ens L) e tl)) (hi : i ≤ L.length) (hL : L.length ≤ 1000) (hn : n < 1000000)
    (h : ∀ w n' m2, n ≤ n' → n' ≤ n + 1 → Kp n m m2 → EnAt m2 n n' w (L.take i) → k w ⟨n', m2⟩ = P) : O.ap 70 false 3 (.o .sl) (.sl b 0 i K x 3) ⟨n, m⟩ k = P := by
  rcases Nat.eq_zero_or_pos i with rfl | hp
  · exact apE0 hO (EnAt.nil m n n) ha (by omega) (Fu _) (h _ _ _ (Nat.le_refl _) (by omega) (Kp.refl _ _) (.inl ⟨rfl, rfl⟩))
  · have e1 : ((ens L).drop 0).take (i * 3) = ens (L.take i) := by rw [List.drop_zero, ens_take]
    have hne : L.take i ≠ [] := fun he => by have := congrArg List.length he; rw [List.length_take, List.length_nil] at this; omega
    have hlen : (L.take i).length = i := by rw [List.length_take]; omega
    refine apNC hO ha (by rw [Ef]; omega) (Fu _) hp (by omega) hn (fun c => ?_) ?_
    · rw [e1]; exact ofQ_ne hne _ _ _
    · rw [e1]; exact h _ _ _ (by omega) (Nat.le_refl _) (Kp.mp (Kp.refl _ _) (Nat.le_refl _) hn) (.inr ⟨n, by rw [hlen], Nat.le_refl _, by omega, Ap hn⟩)
theorem apDrop {O : Oz} (hO : O = zO) {P : FR} {k : KV} {lo n : Nat} {m : T FObj} {e : TypeId} {tl : Tl} {L o : List En} {b i o' K : Nat} {x : Bool} {w : FV} (hE : EnAt m lo n w o) (ha : Am m b (.cells (ens L) e tl)) (hi : i + 1 ≤ L.length) (hL : L.length ≤ 1000) (ho : o.length ≤ 1000) (hlo : lo ≤ n) (hn : n < 1000000) (ho' : o' = (i + 1) * 3)
    (h : ∀ w n' m2, n ≤ n' → n' ≤ n + 1 → Kp lo m m2 → EnAt m2 lo n' w (o ++ L.drop (i + 1)) → k w ⟨n', m2⟩ = P) : O.ap 70 false 3 w (.sl b o' (L.length - (i + 1)) K x 3) ⟨n, m⟩ k = P := by
  subst ho'
  rcases Nat.eq_zero_or_pos (L.length - (i + 1)) with h0 | hp
  · rw [h0]
    have hd : L.drop (i + 1) = [] := List.drop_eq_nil_of_le (by omega)
    rw [hd, List.append_nil] at h
    exact apE0 hO hE ha (by rw [Ef]; omega) (Fu _) (h _ _ _ (Nat.le_refl _) (by omega) (Kp.refl _ _) hE)
  · have e1 : ((ens L).drop ((i + 1) * 3)).take ((L.length - (i + 1)) * 3) = ens (L.drop (i + 1)) := by
      rw [ens_dropN, List.take_of_length_le (by rw [Ef, List.length_drop]; exact Nat.le_refl _)]
    have hne : L.drop (i + 1) ≠ [] := fun he => by have := congrArg List.length he; rw [List.length_drop, List.length_nil] at this; omega
    have hlen : (L.drop (i + 1)).length = L.length - (i + 1) := List.length_drop
    rcases hE with ⟨rfl, rfl⟩ | ⟨b1, rfl, g1, g2, g3⟩
    · refine apNC hO ha (by rw [Ef]; omega) (Fu _) hp (by omega) hn (fun c => ?_) ?_
      · rw [e1]; exact ofQ_ne hne _ _ _
      · rw [e1]; exact h _ _ _ (by omega) (Nat.le_refl _) (Kp.mp (Kp.refl _ _) hlo hn) (.inr ⟨n, by rw [List.nil_append, hlen], hlo, by omega, Ap hn⟩)
    · have e2 : ((ens o).drop 0).take (o.length * 3) ++ ((ens L).drop ((i + 1) * 3)).take ((L.length - (i + 1)) * 3) = ens (o ++ L.drop (i + 1)) := by
        rw [e1, List.drop_zero, List.take_of_length_le (by rw [Ef]; exact Nat.le_refl _), ens_app]
      refine apCC hO g3 ha (by rw [Ef]; omega) (by rw [Ef]; omega) (Fu _) (Fu _) hp (by rfl) (fun _ => rfl) (by omega) hn (fun c => ?_) ?_
      · rw [e2]; exact ofQ_ne (fun he => hne (List.append_eq_nil_iff.1 he).2) _ _ _
      · rw [e2]; exact h _ _ _ (by omega) (Nat.le_refl _) (Kp.mp (Kp.mp (Kp.refl _ _) g1 (by omega)) hlo hn) (.inr ⟨n, by rw [List.length_append, hlen], hlo, by omega, Ap hn⟩)
end Go.Proofs.YtjoakhpdajlhiaaGreatDoor.V2.S
namespace Go.Proofs.YtjoakhpdajlhiaaGreatDoor.V2.S
open Go
set_option maxRecDepth 100000
set_option maxHeartbeats 4000000
set_option linter.unusedVariables false
attribute [local irreducible] fN fO nM gM pM Phi.fn mp bl Au Be Bh pack
theorem pF_long : ∀ cs : List Bs, cs.length ≤ (pF cs).length
  | [] => Nat.le_refl _
  | x :: cs => by
    have := pF_long cs
    show cs.length + 1 ≤ (47 :: x ++ pF cs).length
    rw [List.length_append, List.length_cons]; omega
theorem lvSt {O : Oz} (hO : O = zO) {P : FR} {c : FV → FR} {m : T FObj} {lo hi : Nat} {v : FV} {l : List Bs} (h : StrAt m lo hi v l) (hc : c (.n .i64 l.length) = P) : O.lv v c = P := by
  rcases h with ⟨rfl, rfl⟩ | ⟨b, rfl, _⟩
  · exact lvN hO hc
  · exact lvS hO hc
def RemoveR (H : HF) : Prop := ∀ {rb nn n : Nat} {v : FV} {t : Tr} {m : T FObj}, RTree m rb nn v (srt t) → WfT t → OkT t → rb < n → nn ≤ n → Gt rb v → ∀ (path : Bs), path.length ≤ 900000 → ∀ (k : KV) (P : FR), n + 520 ≤ 1000000 → (∀ n' m' v', n ≤ n' → n' ≤ n + 520 → Kq [rb] n m m' → RTree m' rb n' v' (srt (Ax t path).1) → (∀ G : Nat → Prop, (∀ b, n ≤ b → G b) → GG G v → GG G v') → k (.n .i64 (Ax t path).2) ⟨n', m'⟩ = P) → H [.p rb 0, .s (pack path)] ⟨n, m⟩ k = P
theorem remove_r {O : Oz} (hO : O = zO) (Φ : Phi) (HA : AbsR (Phi.fn Φ 32)) (HK : Ks (Phi.fn Φ 45)) (HP : ParR (Phi.fn Φ 49)) (HW : M6 (Phi.fn Φ 50)) (HF : FindR (Phi.fn Φ 46)) : RemoveR (p23 O Φ) := fun {rb nn n v t m} hR hW hOk hrb hnn hg path hpl k P hn hf => by
  have hwl := hW.len
  have hsl := A7 t
  have hS : Am m rb (.cells [v, .s (pack t.cwd)] 42 .exact) := hR.s
  have hc2 := hW.c2
  have hgt := hg
  rcases hR.r with ⟨h00, rfl⟩ | ⟨b, Kb, xb, eb, tlb, rfl, hbn, hbm⟩
  rotate_left
  have hKb := (hgt _ _ _ _ _ _ rfl).2
  rotate_left
  all_goals
    repeat' ((conv => lhs; whnf); first | ((with_reducible refine A4 ?_); first | (refine HA hR (by rw [A7]; omega) (Hg hW hOk) hW.c2 path (by omega) _ _ ?_; rw [Gj hW]) | (refine HK hR (by rw [A7]; omega) (Ae t path).1 _ _ ?_; rw [D1 hW])) | ((with_reducible refine fa0 hO ?_)) | ((with_reducible refine Br ?_); refine ldC hO hS (by rfl) ?_) | ((with_reducible refine eqB hO (fun h => ?_) (fun h => ?_))) | ((with_reducible refine neB hO (fun h => ?_) (fun h => ?_))))
    all_goals (conv => lhs; whnf)
    all_goals first
      | (rw [rem_abs (by assumption)] at hf; exact hf _ _ _ (Nat.le_refl _) (by omega) (Kq.refl _ _ _) (hR.up hnn) (fun _ _ h => h))
      | (rw [rem_none (by assumption) (by assumption)] at hf; exact hf _ _ _ (Nat.le_refl _) (by omega) (Kq.refl _ _ _) (hR.up hnn) (fun _ _ h => h))
      | (have ha0 : (Ae t path).2 = 0 := by assumption
         have hk0 : Al t (Ae t path).1 ≠ 0 := by assumption
         obtain ⟨az, hsa⟩ := hOk.abs ha0
         obtain ⟨cs, g1, g2, g3⟩ := hOk.cw
         have hsc : St t t.cwd cs := by have := hOk.st g1 (by rw [← g2, g3]; decide); rwa [← g2] at this
         have hcl : cs.length ≤ 256 := by
           by_cases hcn : cs = []
           · subst hcn; exact Nat.zero_le _
           · have e : t.cwd = pF cs := by rw [g2]; unfold Ck; rw [if_neg hcn]
             have := pF_long cs; rw [← e] at this; omega
         refine lpI hO (fun q e n' m' => ∃ av, q ≤ cs.length ∧ n' = n ∧ m' = m ∧ av = Ck (cs.take q) ∧ (∀ i, q < i → i ≤ cs.length → (Ae t path).1 ≠ Ck (cs.take i)) ∧ e = eof [(4, .n .i64 0), (7, .s (pack av))]) ?_ ?_ _ cs.length _ _ _ (by omega) ⟨t.cwd, Nat.le_refl _, rfl, rfl, by rw [List.take_length]; exact g2, fun i h1 h2 => by omega, rfl⟩
         · rintro q e n' m' ⟨av, _, h, _⟩; omega
         · rintro q e n' m' ih ⟨av, hq, hn', hm', hav, hno, rfl⟩ hih
           subst hn' hm'
           have hah : av.head? = some 47 := by rw [hav]; exact st_head (t := t) (ns := cs.take q) ⟨fun x hx => g1 x (List.mem_of_mem_take hx), rfl, fun j hj => by rw [List.take_take]; rw [List.length_take] at hj; rw [show min j q = j by omega]; exact hsc.k j (by omega)⟩
           have havl : av.length ≤ 900000 := by
             rw [hav]
             have h1 : (pF cs).length ≤ 256 := by
               by_cases hcn : cs = []
               · subst hcn; exact Nat.zero_le _
               · have e : t.cwd = pF cs := by rw [g2]; unfold Ck; rw [if_neg hcn]
                 rw [← e]; exact hc2
             have h2 : (pF (cs.take q)).length ≤ (pF cs).length := by
               conv => rhs; rw [← List.take_append_drop q cs, pF_app, List.length_append]
               exact Nat.le_add_right _ _
             unfold Ck; split
             · show 1 ≤ _; omega
             · omega
           have hbz : av = (Ae t path).1 → G9 t (Ae t path).1 := fun h => (busy_iff hsa hsc).2 ⟨q, hq, h.symm.trans hav⟩
           rcases Nat.eq_zero_or_pos q with hq0 | hq0
           · subst hq0
             have hav0 : av = [47] := hav
             have hnb : av ≠ (Ae t path).1 → ¬ G9 t (Ae t path).1 := fun h hb => by
               obtain ⟨j, hj, hja⟩ := (busy_iff hsa hsc).1 hb
               rcases Nat.eq_zero_or_pos j with rfl | hp
               · exact h (hav.trans hja.symm)
               · exact hno j hp hj hja
             repeat' ((conv => lhs; whnf); first | ((refine lvSt hO hE2 ?_)) | ((with_reducible refine A4 ?_); first | (refine HK hR (by rw [A7]; omega) (Ae t path).1 _ _ ?_; rw [D1 hW]) | (refine HW hR hW hOk hrb hnn (Ae t path).1 (by have := Ew (t := t) (path := path) hW.c2 (by omega); omega) _ _ (by omega) (fun w2 n2 m2 h2 g2 k2 hE2 => ?_); have hR := RTree.kp hR k2 hrb hnn; have hS := hR.s; have hRr := hR.r; have hwn := out_within hW (Ae t path).1; (try have hbm := k2 _ _ (by omega) hbm)) | (refine HF hR (by rw [A7]; omega) (Ae t path).1 _ _ (fun i e hix hlk => ?_) (fun hlk => ?_); rw [E3 hW] at hlk; have hel := (List.getElem?_eq_some_iff.1 hix).1; rotate_left; rw [E3 hW] at hlk; rotate_left)) | ((with_reducible refine fa0 hO ?_)) | ((with_reducible refine Br ?_); first | refine ldC hO hS3 (by rfl) ?_ | refine ldC hO hS (by rfl) ?_) | ((with_reducible refine gtB hO (fun h => ?_) (fun h => ?_))) | ((with_reducible refine eqB hO (fun h => ?_) (fun h => ?_))) | ((with_reducible refine eqST hO (by first | rfl | assumption) ?_)) | ((with_reducible refine Ly hO (fun h => ?_) (fun h => ?_))) | ((with_reducible refine adI hO (by omega) ?_)) | ((with_reducible refine svH hO (by omega) ?_)) | ((with_reducible refine svL hO (by omega) ?_)) | ((with_reducible refine Hc ?_); refine stC hO hS4 (by kernel_rfl) (fun _ _ _ => rfl) (fun _ => rfl) ?_) | ((with_reducible refine Ms ?_); first | (refine apDrop hO hE3 hbm3 (by omega) (by omega) (by rw [List.length_take]; omega) (by omega) (by omega) (Nat.zero_add _) (fun w4 n4 m4 h4 g4 k4 hE4 => ?_); have hS4 := k4 _ _ (by omega) hS3; have hRW := hE4.row; rcases hE4 with ⟨h40, rfl⟩ | ⟨b4, rfl, h41, h42, h43⟩) | (refine apTake hO hbm (by omega) (by omega) (by omega) (fun w3 n3 m3 h3 g3 k3 hE3 => ?_); have hS3 := k3 _ _ (by omega) hS; have hbm3 := k3 _ _ (by omega) hbm)) | ((with_reducible first | refine umt hO ?_ | refine uqu hO ?_ | refine urm hO ?_ | refine uan hO ?_ | refine uro hO ?_ | refine uxr hO ?_ | refine uhl hO ?_ | refine uhr hO ?_ | refine uad hO ?_ | refine usb hO ?_ | refine ult hO ?_ | refine ule hO ?_ | refine ugt hO ?_ | refine uge hO ?_ | refine ueq hO ?_ | refine une hO ?_ | refine ucv hO ?_ | refine uia hO ?_ | refine usv hO ?_ | refine ubu hO ?_ | refine uap hO ?_ | refine ubs hO ?_ | refine umm hO ?_ | refine upq hO ?_ | refine unq hO ?_ | refine uln hO ?_)) | ((with_reducible refine atB ?_); refine brecB (fun h => ?_) (fun h => ?_)))
             all_goals (conv => lhs; whnf)
             all_goals first
               | (rw [rem_busy ha0 hk0 (hbz (by assumption))] at hf; exact hf _ _ _ (Nat.le_refl _) (by omega) (Kq.refl _ _ _) (hR.up hnn) (fun _ _ h => h))
               | (exfalso; rw [h00] at hel; exact absurd hel (Nat.not_lt_zero _))
               | (exfalso
                  have hne := hnb (by assumption)
                  have hx : (Ae t path).1 ≠ [47] := fun e => hne (.inl e)
                  exact hk0 (kind_no hlk hx))
               | (have hw : Bk t (Ae t path).1 = true := by
                    cases hwb : Bk t (Ae t path).1 with
                    | true => rfl
                    | false => rw [hwn.2 hwb] at *; simp at *
                  rw [rem_full ha0 hk0 (hnb (by assumption)) hw] at hf
                  exact hf _ _ _ (by omega) (by omega) (Kq.of k2 _) (hR.up (by omega)) (fun _ _ h => h))
               | (have hw : Bk t (Ae t path).1 = false := by
                    first
                    | exact hwn.1 (List.eq_nil_of_length_eq_zero (by omega))
                    | exact Md hOk (by have := J9 t (Ae t path).1; omega)
                  rw [rem_done ha0 hk0 (hnb (by assumption)) hw] at hf
                  have hsr := rem_srt hW (Ae t path).1 hix (B2 hlk).2
                  rw [hsr] at hf
                  have hkq : Kq [rb] n' m' m4 := by
                    first
                    | exact ((Kq.of k2 [rb]).transP k3 (by omega)).transP k4 (by omega)
                    | exact (Kq.of k3 [rb]).transP k4 (by omega)
                  have hgt4 : Gt rb (.o .sl) := fun b o L K x z h => by cases h
                  exact hf n4 _ _ (by omega) (by omega) (hkq.mp (.inr (by simp)) (by omega)) ⟨Ap (by omega), RowE.kg (rb := rb) (k := n4) hRW (Kq.mp (Kq.refl _ _ _) (.inr (by simp)) (by omega)) (Nat.le_refl _) hgt4⟩ (fun G hG _ b o L K x z h => by first | (cases h; done) | (cases h; exact ⟨hG _ (by omega), by omega⟩)))
               | (have hw : Bk t (Ae t path).1 = false := by
                    first
                    | exact hwn.1 (List.eq_nil_of_length_eq_zero (by omega))
                    | exact Md hOk (by have := J9 t (Ae t path).1; omega)
                  rw [rem_done ha0 hk0 (hnb (by assumption)) hw] at hf
                  have hsr := rem_srt hW (Ae t path).1 hix (B2 hlk).2
                  rw [hsr] at hf
                  have hkq : Kq [rb] n' m' m4 := by
                    first
                    | exact ((Kq.of k2 [rb]).transP k3 (by omega)).transP k4 (by omega)
                    | exact (Kq.of k3 [rb]).transP k4 (by omega)
                  have hgt4 : Gt rb (.sl b4 0 ((srt t).L.take i ++ (srt t).L.drop (i + 1)).length ((srt t).L.take i ++ (srt t).L.drop (i + 1)).length false 3) := fun b o L K x z h => by cases h; omega
                  exact hf n4 _ _ (by omega) (by omega) (hkq.mp (.inr (by simp)) (by omega)) ⟨Ap (by omega), RowE.kg (rb := rb) (k := n4) hRW (Kq.mp (Kq.refl _ _ _) (.inr (by simp)) (by omega)) (Nat.le_refl _) hgt4⟩ (fun G hG _ b o L K x z h => by first | (cases h; done) | (cases h; exact ⟨hG _ (by omega), by omega⟩)))
           · obtain ⟨x, hx⟩ : ∃ x, cs[q - 1]? = some x := ⟨_, List.getElem?_eq_getElem (by omega)⟩
             have htk : cs.take q = cs.take (q - 1) ++ [x] := by
               have := List.take_add_one (l := cs) (i := q - 1)
               rw [show q - 1 + 1 = q by omega, hx] at this; exact this
             have hgx := g1 x (List.mem_of_getElem? hx)
             have hpq : C9 av = Ck (cs.take (q - 1)) := by rw [hav, htk, Hn _ hgx]
             have hav1 : av ≠ [47] := by rw [hav, htk]; exact Gh hgx
             repeat' ((conv => lhs; whnf); first | ((with_reducible refine A4 ?_); refine HP av _ _ hah (by omega) _ _ ?_) | ((with_reducible refine eqSF hO (by first | assumption | decide) ?_)) | ((with_reducible refine Ly hO (fun h => ?_) (fun h => ?_))))
             all_goals (conv => lhs; whnf)
             all_goals first
               | (rw [rem_busy ha0 hk0 (hbz (by assumption))] at hf; exact hf _ _ _ (Nat.le_refl _) (by omega) (Kq.refl _ _ _) (hR.up hnn) (fun _ _ h => h))
               | exact hih (q - 1) _ _ _ (by omega) ⟨C9 av, by omega, rfl, rfl, hpq, fun i h1 h2 => by
                   rcases Nat.lt_or_ge q i with h3 | h3
                   · exact hno i h3 h2
                   · rw [show i = q by omega, ← hav]; exact fun e => absurd e.symm (by assumption), rfl⟩)
end Go.Proofs.YtjoakhpdajlhiaaGreatDoor.V2.S
namespace Go.Proofs.YtjoakhpdajlhiaaGreatDoor.V2.S
open Go
set_option maxRecDepth 100000
set_option maxHeartbeats 4000000
set_option linter.unusedVariables false
attribute [local irreducible] fN fO nM gM pM Phi.fn mp bl Au Be Bh pack
theorem RTree.kG {m m' : T FObj} {rb n k : Nat} {v : FV} {t : Tr} {xs : List Nat} (h : RTree m rb n v t) (hk : Kq xs k m m') (hn : n ≤ k) (hr : rb < k) (hx : ∀ x ∈ xs, rb ≠ x) (hg : GG (fun b => ∀ x ∈ xs, b ≠ x) v) : RTree m' rb n v t := ⟨hk _ _ hr hx h.s, by
  rcases h.r with h | ⟨b, K, x, e, tl, h1, h2, h3⟩
  · exact .inl h
  · exact .inr ⟨b, K, x, e, tl, h1, h2, hk _ _ (by omega) (hg _ _ _ _ _ _ h1).1 h3⟩⟩
theorem kq3 {xs ys zs : List Nat} {n n1 n2 : Nat} {a b c d : T FObj} (k0 : Kp n a b) (k1 : Kq xs n1 b c) (k2 : Kq ys n2 c d) (h1 : n ≤ n1) (h2 : n ≤ n2) (hx : ∀ x ∈ xs, x ∈ zs) (hy : ∀ x ∈ ys, x ∈ zs) : Kq zs n a d :=
  ((Kq.of k0 zs).trans (k1.sub fun x h => .inl (hx x h)) h1).trans (k2.sub fun x h => .inl (hy x h)) h2
def OneR (H : HF) : Prop := ∀ {tb mb rb nn n : Nat} {v : FV} {t : Tr} {m : T FObj}, TreeAt m tb mb 39 t → RTree m rb nn v (srt t) → WfT t → OkT t → tb ≠ mb → rb ≠ tb → rb ≠ mb → tb < n → mb < n → rb < n → nn ≤ n → GG (fun b => rb < b ∧ b ≠ tb ∧ b ≠ mb) v → ∀ a : Ac, a.p.length ≤ 300 → a.d.length ≤ 9000 → ∀ (k : KV) (P : FR), n + 1400 ≤ 1000000 → (∀ n' m' v' t', n ≤ n' → n' ≤ n + 1400 → Kq [tb, mb, rb] n m m' → TreeAt m' tb mb 39 t' → RTree m' rb n' v' (srt t') → WfT t' → OkT t' → GG (fun b => rb < b ∧ b ≠ tb ∧ b ≠ mb) v' → k (.b true) ⟨n', m'⟩ = P) → H [.p tb 0, .p rb 0, .agg (acV a)] ⟨n, m⟩ k = P
theorem one_r {O : Oz} (hO : O = zO) (Φ : Phi) (HWr : WriteS (Phi.fn Φ 19)) (HWrR : WriteR (Phi.fn Φ 20)) (HMk : MakeS (Phi.fn Φ 8)) (HMkR : MakeR (Phi.fn Φ 21)) (HRm : RemoveS (Phi.fn Φ 22)) (HRmR : RemoveR (Phi.fn Φ 23)) (HCd : CdS (Phi.fn Φ 9)) (HCdR : CdR (Phi.fn Φ 24)) (HRd : ReadS (Phi.fn Φ 25)) (HRdR : ReadR (Phi.fn Φ 26)) (HLs : ListF (Phi.fn Φ 27)) (HLsR : ListR (Phi.fn Φ 28)) (HLe : ListEq (Phi.fn Φ 29)) (HKd : KindES (Phi.fn Φ 30)) (HKdR : KindRE (Phi.fn Φ 31)) (HAb : AbsS (Phi.fn Φ 15)) (HAbR : AbsR (Phi.fn Φ 32)) : OneR (p10 O Φ) := fun {tb mb rb nn n v t m} hT hR hW hOk htm hrt hrm htb hmb hrb hnn hG a hpl hdl k P hn hf => by
  have hwl := hW.len
  have hc1 := hW.c1
  have hc2 := hW.c2
  have hGt : GG (fun b => ∀ x ∈ [tb], b ≠ x) v := fun b o L K x z h => ⟨nm1 (hG b o L K x z h).1.2.1, (hG b o L K x z h).2⟩
  have hGm : GG (fun b => ∀ x ∈ [mb], b ≠ x) v := fun b o L K x z h => ⟨nm1 (hG b o L K x z h).1.2.2, (hG b o L K x z h).2⟩
  obtain ⟨w, p, d, mm⟩ := a
  have hpl : p.length ≤ 300 := hpl
  have hdl : d.length ≤ 9000 := hdl
  repeat' ((conv => lhs; whnf); first | (refine bxAc hO (by omega) ?_))
  all_goals (conv => lhs; whnf)
  have hA : Am (mp m n (.cells (acV ⟨w, p, d, mm⟩) 30 .exact)) n (.cells (acV ⟨w, p, d, mm⟩) 30 .exact) := Ap (by omega)
  have kk : Kp n m (mp m n (.cells (acV ⟨w, p, d, mm⟩) 30 .exact)) := (Kp.refl n m).mp (Nat.le_refl _) (by omega)
  have hT1 := hT.kp kk htb hmb
  have hR1 := hR.kp kk hrb hnn
  generalize mp m n (.cells (acV ⟨w, p, d, mm⟩) 30 .exact) = m1 at hA kk hT1 hR1 ⊢
  clear hT hR
  rcases w with x | x
  · have hA : Am m1 n (.cells [.n .i64 x, .s (pack p), .s (pack d), .n .u16 mm] 30 .exact) := hA
    repeat' ((conv => lhs; whnf); first | ((with_reducible refine A4 ?_); first | (refine HWr hT1 (by omega) (by omega) htm hW _ _ _ (by omega) (by omega) _ _ (by omega) (fun v5 n5 m5 h5 g5 k5 q5 => ?_); obtain ⟨hv5, hT5⟩ := q5; subst hv5; have hA5 := k5 _ _ (by omega) (nm1 (by omega)) hA; have hR5 := hR1.kG k5 (by omega) (by omega) (nm1 (by omega)) hGm) | (refine HWrR hR5 hW hOk (by omega) (by omega)  _ _ _ (by omega) (by omega) _ _ (by omega) (fun n6 m6 v6 h6 g6 k6 hR6 hG6 => ?_); have hT6 := hT5.kq k6 (by omega) (by omega) (nm1 (by omega)) (nm1 (by omega))) | (refine HMk hT1 (by omega) (by omega) htm hW _ (by omega) _ _ (by omega) (fun v5 n5 m5 h5 g5 k5 q5 => ?_); obtain ⟨hv5, hT5⟩ := q5; subst hv5; have hA5 := k5 _ _ (by omega) (nm1 (by omega)) hA; have hR5 := hR1.kG k5 (by omega) (by omega) (nm1 (by omega)) hGm) | (refine HMkR hR5 hW hOk (by omega) (by omega)  _ (by omega) _ _ (by omega) (fun n6 m6 v6 h6 g6 k6 hR6 hG6 => ?_); have hT6 := hT5.kq k6 (by omega) (by omega) (nm1 (by omega)) (nm1 (by omega))) | (refine HRm hT1 (by omega) (by omega) htm hW _ (by omega) _ _ (by omega) (fun v5 n5 m5 h5 g5 k5 q5 => ?_); obtain ⟨hv5, hT5⟩ := q5; subst hv5; have hA5 := k5 _ _ (by omega) (nm1 (by omega)) hA; have hR5 := hR1.kG k5 (by omega) (by omega) (nm1 (by omega)) hGm) | (refine HRmR hR5 hW hOk (by omega) (by omega) (fun b o L K x z h => ⟨(hG b o L K x z h).1.1, (hG b o L K x z h).2⟩) _ (by omega) _ _ (by omega) (fun n6 m6 v6 h6 g6 k6 hR6 hG6 => ?_); have hT6 := hT5.kq k6 (by omega) (by omega) (nm1 (by omega)) (nm1 (by omega))) | (refine HCd hT1 (by omega) (by omega) hW _ (by omega) _ _ (by omega) (fun v5 n5 m5 h5 g5 k5 q5 => ?_); obtain ⟨hv5, hT5⟩ := q5; subst hv5; have hT5 := hT5 htm; have hA5 := k5 _ _ (by omega) (nm1 (by omega)) hA; have hR5 := hR1.kG k5 (by omega) (by omega) (nm1 (by omega)) hGt) | (refine HCdR hR5 (fun b o L K x z h => ⟨(hG b o L K x z h).1.1, (hG b o L K x z h).2⟩) (by rw [A7]; omega) (Hg hW hOk) hW.c2 (by omega) (by omega) (by omega) _ (by omega) _ _ (fun m6 k6 hR6 => ?_); rw [srt_cd hW] at hR6 ⊢; have hT6 := hT5.kq k6 (by omega) (by omega) (nm1 (by omega)) (nm1 (by omega))) | (refine HRd hT1 (by omega) (by omega) hW _ (by omega) _ _ (by omega) (fun n5 m5 h5 g5 k5 => ?_); have hA5 := k5 _ _ (by omega) hA; have hR5 := hR1.kp k5 (by omega) (by omega); have hT5 := hT1.kp k5 (by omega) (by omega)) | refine HRdR hR5 hW hOk (by omega) (by omega) _ (by omega) _ _ ?_ | (refine HLs hT1 (by omega) (by omega) hW _ (by omega) _ _ (by omega) (fun n5 m5 hz5 h5 g5 k5 => ?_) (fun v5 n5 m5 hz5 h5 g5 k5 hE5 => ?_) <;> (have hA5 := k5 _ _ (by omega) hA; have hR5 := hR1.kp k5 (by omega) (by omega); have hT5 := hT1.kp k5 (by omega) (by omega))) | (refine HLsR hR5 hW hOk (by omega) (by omega) _ (by omega) _ _ (by omega) (fun hz6 => ?_) (fun v6 n6 m6 hz6 h6 g6 k6 hE6 => ?_)) | (refine HLe (l := []) (.inl ⟨rfl, rfl⟩) (.inl ⟨rfl, rfl⟩) (by decide) _ _ ?_) | (refine HLe (hE5.kp k6 (by omega)).row hE6.row (by have := out_le (isG t p 1).1 ((srt t).L.map En.path); rw [List.length_map, A7] at this; omega) _ _ ?_) | (refine HKd hT1 (by omega) (by omega) (by omega) (by omega) _ (by omega) _ _ (by omega) (fun n5 m5 h5 g5 k5 => ?_); have hA5 := k5 _ _ (by omega) hA; have hR5 := hR1.kp k5 (by omega) (by omega); have hT5 := hT1.kp k5 (by omega) (by omega)) | refine HKdR hR5 hW hOk (by omega) (by omega) _ (by omega) _ _ ?_ | (refine HAb hT1 (by omega) (by omega) (by omega) (by omega) _ (by omega) _ _ (by omega) (fun n5 m5 h5 g5 k5 => ?_); have hA5 := k5 _ _ (by omega) hA; have hR5 := hR1.kp k5 (by omega) (by omega); have hT5 := hT1.kp k5 (by omega) (by omega)) | (refine HAbR hR5 (by rw [A7]; omega) (Hg hW hOk) hW.c2 _ (by omega) _ _ ?_; rw [Gj hW])) | ((with_reducible refine fa0 hO ?_)) | ((with_reducible refine Br ?_); first | refine ldC hO hA (by rfl) ?_ | refine ldC hO hA5 (by rfl) ?_) | ((with_reducible refine eqT hO (by omega) ?_)) | ((with_reducible refine eqF hO (by omega) ?_)) | ((with_reducible refine eqB hO (fun h => ?_) (fun h => ?_))) | ((with_reducible refine eqST hO (by first | rfl | assumption) ?_)) | ((with_reducible refine rcE hO (by kernel_rfl) rfl ?_)))
    all_goals (conv => lhs; whnf)
    all_goals first
      | exact hf _ _ _ _ (by omega) (by omega) (kq3 kk k5 k6 (by omega) (by omega) (fun x hx => by first | (rw [List.mem_singleton.1 hx]; simp; done) | exact absurd hx List.not_mem_nil) (fun x hx => by first | (rw [List.mem_singleton.1 hx]; simp; done) | exact absurd hx List.not_mem_nil)) hT6 hR6 (Kt hW _ _ _) (hOk.write _ _ _) (hG6 _ (fun b hb => ⟨by omega, by omega, by omega⟩) hG)
      | exact hf _ _ _ _ (by omega) (by omega) (kq3 kk k5 k6 (by omega) (by omega) (fun x hx => by first | (rw [List.mem_singleton.1 hx]; simp; done) | exact absurd hx List.not_mem_nil) (fun x hx => by first | (rw [List.mem_singleton.1 hx]; simp; done) | exact absurd hx List.not_mem_nil)) hT6 hR6 (J6 hW _) (hOk.make _) (hG6 _ (fun b hb => ⟨by omega, by omega, by omega⟩) hG)
      | exact hf _ _ _ _ (by omega) (by omega) (kq3 kk k5 k6 (by omega) (by omega) (fun x hx => by first | (rw [List.mem_singleton.1 hx]; simp; done) | exact absurd hx List.not_mem_nil) (fun x hx => by first | (rw [List.mem_singleton.1 hx]; simp; done) | exact absurd hx List.not_mem_nil)) hT6 hR6 (removeG_wf hW _) (hOk.remove hW _) (hG6 _ (fun b hb => ⟨by omega, by omega, by omega⟩) hG)
      | exact hf _ _ _ _ (by omega) (by omega) (kq3 kk k5 k6 (by omega) (by omega) (fun x hx => by first | (rw [List.mem_singleton.1 hx]; simp; done) | exact absurd hx List.not_mem_nil) (fun x hx => by first | (rw [List.mem_singleton.1 hx]; simp; done) | exact absurd hx List.not_mem_nil)) hT6 (hR6.up (by omega)) (cdG_wf hW _) (hOk.cd _) hG
      | (exfalso; omega)
      | exact hf _ _ _ t (by omega) (by omega) (Kq.of ((kk.trans k5 (by omega)).trans k6 (by omega)) _) (hT5.kp k6 (by omega) (by omega)) ((hR5.kp k6 (by omega) (by omega)).up (by omega)) hW hOk hG
      | exact hf _ _ _ t (by omega) (by omega) (Kq.of (kk.trans k5 (by omega)) _) hT5 (hR5.up (by omega)) hW hOk hG
      | exact hf _ _ _ t (by omega) (by omega) (Kq.of kk _) hT1 (hR1.up (by omega)) hW hOk hG
  · have hA : Am m1 n (.cells [.z .i64 x, .s (pack p), .s (pack d), .n .u16 mm] 30 .exact) := hA
    repeat' ((conv => lhs; whnf); first | ((with_reducible refine fa0 hO ?_)) | ((with_reducible refine Br ?_); refine ldC hO hA (by rfl) ?_) | ((with_reducible first | refine umt hO ?_ | refine uqu hO ?_ | refine urm hO ?_ | refine uan hO ?_ | refine uro hO ?_ | refine uxr hO ?_ | refine uhl hO ?_ | refine uhr hO ?_ | refine uad hO ?_ | refine usb hO ?_ | refine ult hO ?_ | refine ule hO ?_ | refine ugt hO ?_ | refine uge hO ?_ | refine ueq hO ?_ | refine une hO ?_ | refine ucv hO ?_ | refine uia hO ?_ | refine usv hO ?_ | refine ubu hO ?_ | refine uap hO ?_ | refine ubs hO ?_ | refine umm hO ?_ | refine upq hO ?_ | refine unq hO ?_ | refine uln hO ?_)))
    all_goals (conv => lhs; whnf)
    all_goals first
      | exact hf _ _ _ _ (by omega) (by omega) (kq3 kk k5 k6 (by omega) (by omega) (fun x hx => by first | (rw [List.mem_singleton.1 hx]; simp; done) | exact absurd hx List.not_mem_nil) (fun x hx => by first | (rw [List.mem_singleton.1 hx]; simp; done) | exact absurd hx List.not_mem_nil)) hT6 hR6 (Kt hW _ _ _) (hOk.write _ _ _) (hG6 _ (fun b hb => ⟨by omega, by omega, by omega⟩) hG)
      | exact hf _ _ _ _ (by omega) (by omega) (kq3 kk k5 k6 (by omega) (by omega) (fun x hx => by first | (rw [List.mem_singleton.1 hx]; simp; done) | exact absurd hx List.not_mem_nil) (fun x hx => by first | (rw [List.mem_singleton.1 hx]; simp; done) | exact absurd hx List.not_mem_nil)) hT6 hR6 (J6 hW _) (hOk.make _) (hG6 _ (fun b hb => ⟨by omega, by omega, by omega⟩) hG)
      | exact hf _ _ _ _ (by omega) (by omega) (kq3 kk k5 k6 (by omega) (by omega) (fun x hx => by first | (rw [List.mem_singleton.1 hx]; simp; done) | exact absurd hx List.not_mem_nil) (fun x hx => by first | (rw [List.mem_singleton.1 hx]; simp; done) | exact absurd hx List.not_mem_nil)) hT6 hR6 (removeG_wf hW _) (hOk.remove hW _) (hG6 _ (fun b hb => ⟨by omega, by omega, by omega⟩) hG)
      | exact hf _ _ _ _ (by omega) (by omega) (kq3 kk k5 k6 (by omega) (by omega) (fun x hx => by first | (rw [List.mem_singleton.1 hx]; simp; done) | exact absurd hx List.not_mem_nil) (fun x hx => by first | (rw [List.mem_singleton.1 hx]; simp; done) | exact absurd hx List.not_mem_nil)) hT6 (hR6.up (by omega)) (cdG_wf hW _) (hOk.cd _) hG
      | (exfalso; omega)
      | exact hf _ _ _ t (by omega) (by omega) (Kq.of ((kk.trans k5 (by omega)).trans k6 (by omega)) _) (hT5.kp k6 (by omega) (by omega)) ((hR5.kp k6 (by omega) (by omega)).up (by omega)) hW hOk hG
      | exact hf _ _ _ t (by omega) (by omega) (Kq.of (kk.trans k5 (by omega)) _) hT5 (hR5.up (by omega)) hW hOk hG
      | exact hf _ _ _ t (by omega) (by omega) (Kq.of kk _) hT1 (hR1.up (by omega)) hW hOk hG
end Go.Proofs.YtjoakhpdajlhiaaGreatDoor.V2.S
namespace Go.Proofs.YtjoakhpdajlhiaaGreatDoor.V2.S
open Go
set_option maxRecDepth 100000
set_option maxHeartbeats 4000000
set_option linter.unusedVariables false
attribute [local irreducible] fN fO nM gM pM Phi.fn mp bl Au Be Bh pack
def FewL (H : HF) : Prop := ∀ {l : List Ac} {n : Nat} {m : T FObj} {v : FV}, RowA m n v l → (∀ a ∈ l, a.m ≤ 65535) → Iv 160 [] H [v] n m (fun v n' m' => ∃ o, FewOk o ∧ o.length = min l.length 40 ∧ o.map Ac.w = (l.take 40).map Ac.w ∧ ActsAt m' n n' v o)
def FewL1 (H : HF) : Prop := ∀ {l : List Ac} {b Kk n : Nat} {m : T FObj} {x : Bool} {e : TypeId} {tl : Tl}, Am m b (.cells (acs l) e tl) → b < n → (∀ a ∈ l, a.m ≤ 65535) → Iv 160 [] H [.sl b 0 l.length Kk x 4] n m (fun v n' m' => ∃ o, FewOk o ∧ o.length = min l.length 40 ∧ o.map Ac.w = (l.take 40).map Ac.w ∧ ActsAt m' n n' v o)
theorem few_l1 {O : Oz} (hO : O = zO) (Φ : Phi) : FewL1 (p6 O Φ) := fun {l b Kk n m x e0 tl} ha hb hm k P hn hf => by
  skip
  all_goals (conv => lhs; whnf)
  all_goals first
    | refine lpI hO (fun t e n' m' => ∃ i out v, i ≤ l.length ∧ i ≤ 40 ∧ t = 40 - i ∧ n ≤ n' ∧ n' ≤ n + 4 * i ∧ Kp n m m' ∧ out.length = i ∧ out.map Ac.w = (l.take i).map Ac.w ∧ FewOk out ∧ ActsAt m' n n' v out ∧ e = eof [(2, .o .sl), (3, v), (4, .n .i64 i)]) ?_ ?_ _ 40 _ _ _ (by omega) ⟨0, [], .o .sl, by omega, by omega, by omega, by omega, by omega, Kp.refl _ _, rfl, rfl, ⟨by decide, fun a ha => absurd ha List.not_mem_nil⟩, .inl ⟨rfl, rfl⟩, rfl⟩
  · rintro t e n' m' ⟨i, out, v, _, _, _, h, _⟩; exact h
  · rintro t e n' m' ih ⟨i, out, v, hi, hi4, rfl, g1, g2, hk, hol, how, hok, hat, rfl⟩ hih
    rcases Nat.lt_or_ge i l.length with hlt | hge
    · obtain ⟨a, hgi⟩ : ∃ a, l[i]? = some a := ⟨l[i], List.getElem?_eq_getElem hlt⟩
      have ham := hm a (List.mem_of_getElem? hgi)
      rcases Nat.lt_or_ge i 40 with hl4 | hg4
      · have fin : ∀ (d : Bs) (n2 : Nat) (m2 : T FObj) (v2 : FV), d.length ≤ 9000 → n ≤ n2 → n2 ≤ n + 4 * (i + 1) → Kp n m m2 → ActsAt m2 n n2 v2 (out ++ [⟨a.w, a.p.take (min a.p.length 300), d, a.m⟩]) → ih (eof [(2, .o .sl), (3, v2), (4, .n .i64 (i + 1))]) ⟨n2, m2⟩ = P := fun d n2 m2 v2 h1 h2 h3 h4 h5 =>
          hih (40 - (i + 1)) _ _ _ (by omega) ⟨i + 1, _, v2, by omega, by omega, rfl, h2, h3, h4, by rw [List.length_append, hol]; rfl, by rw [List.map_append, how, List.take_add_one, hgi, List.map_append]; rfl, ⟨by rw [List.length_append, hol]; exact hl4, fun y hy => by
            rcases List.mem_append.1 hy with hy | hy
            · exact hok.2 y hy
            · rw [List.mem_singleton.1 hy]; exact ⟨by show (a.p.take (min a.p.length 300)).length ≤ 300; rw [List.length_take]; omega, h1⟩⟩, h5, rfl⟩
        rcases hat with ⟨rfl, rfl⟩ | ⟨b1, K1, rfl, b2, b3, b4⟩
        all_goals
        repeat' ((conv => lhs; whnf); first | ((with_reducible refine fa0 hO ?_)) | ((with_reducible refine Br ?_); refine ldC hO aQ (by rfl) ?_) | (((with_reducible refine lsS hO ?_); try simp only [List.length_cons, List.length_nil, Nat.zero_add])) | ((with_reducible refine lvS hO ?_)) | ((with_reducible refine ltT hO (by omega) ?_)) | ((with_reducible refine mnI hO ?_)) | ((with_reducible refine ix0 hO (by omega) ?_)) | ((with_reducible refine ssH hO (by omega) ?_)) | ((with_reducible refine Hc ?_); first | refine stAc hO aQ ?_ | refine stC hO aQ (by kernel_rfl) (fun _ _ _ => rfl) (fun _ => rfl) ?_) | ((with_reducible refine alO hO (by omega) ?_)) | ((with_reducible refine atLn ?_); refine lnAc hO aQ hgi ?_))
        all_goals (conv => lhs; whnf)
        all_goals first
          | refine lpI hO (fun t e n2 m2 => ∃ d, d.length ≤ 9000 ∧ t = 9000 - d.length ∧ n2 = n' + 1 ∧ Kp n' m' m2 ∧ Am m2 n' (.cells [wV a.w, .s (pack (a.p.take (min a.p.length 300))), .s (pack d), .n .u16 a.m] 30 .exact) ∧ e = eof [(2, .o .sl), (3, .o .sl), (4, .n .i64 i)]) ?_ ?_ _ (9000 - (a.d.take (min a.d.length 40)).length) _ _ _ (by omega) ⟨a.d.take (min a.d.length 40), by rw [List.length_take]; omega, by omega, rfl, kQ, Ap (by omega), rfl⟩
          | refine lpI hO (fun t e n2 m2 => ∃ d, d.length ≤ 9000 ∧ t = 9000 - d.length ∧ n2 = n' + 1 ∧ Kp n' m' m2 ∧ Am m2 n' (.cells [wV a.w, .s (pack (a.p.take (min a.p.length 300))), .s (pack d), .n .u16 a.m] 30 .exact) ∧ e = eof [(2, .o .sl), (3, .sl b1 0 out.length K1 false 4), (4, .n .i64 i)]) ?_ ?_ _ (9000 - (a.d.take (min a.d.length 40)).length) _ _ _ (by omega) ⟨a.d.take (min a.d.length 40), by rw [List.length_take]; omega, by omega, rfl, kQ, Ap (by omega), rfl⟩
        all_goals first
          | (rintro t e n' m' ⟨_, _, _, rfl, _⟩; omega)
          | (rintro t e n2 m2 ih2 ⟨d, q1, rfl, rfl, q3, q4, rfl⟩ hih2
             repeat' ((conv => lhs; whnf); first | ((with_reducible refine bsAc hO (by omega) ?_)) | ((with_reducible refine adS hO (by rw [List.length_take]; omega) ?_)) | ((with_reducible refine fa0 hO ?_)) | ((with_reducible refine Br ?_); refine ldC hO aQ (by rfl) ?_) | (((with_reducible refine lsS hO ?_); try simp only [List.length_cons, List.length_nil, Nat.zero_add])) | ((with_reducible refine ltB hO (fun h => ?_) (fun h => ?_))) | ((with_reducible refine neSB hO (fun h => ?_) (fun h => ?_))) | ((with_reducible refine adI hO (by omega) ?_)) | ((with_reducible refine sbI hO (by omega) (by omega) ?_)) | ((with_reducible refine rmI hO (by omega) ?_)) | ((with_reducible refine cvI hO (by omega) ?_)) | ((with_reducible refine mnI hO ?_)) | ((with_reducible refine ssH hO (by omega) ?_)) | ((with_reducible refine Hc ?_); refine stC hO aQ (by rfl) (fun _ _ _ => rfl) (fun _ => rfl) ?_) | ((with_reducible refine Ms ?_); first | refine apAc hO aQ aQ (fun _ => rfl) (by omega) (by omega) (by rfl) ?_ | refine apAn hO aQ (by omega) ?_) | ((with_reducible refine atLn ?_); refine lnA4 (a := ⟨a.w, a.p.take (min a.p.length 300), d, a.m⟩) hO aQ (by rfl) ?_))
             all_goals (conv => lhs; whnf)
             all_goals first
               | exact hih2 (9000 - (d ++ d.take (min d.length (a.m % 9000 - d.length))).length) _ _ _ (by rw [List.length_append, List.length_take]; have := List.length_pos_iff.2 (by assumption : d ≠ []); omega) ⟨d ++ d.take (min d.length (a.m % 9000 - d.length)), by rw [List.length_append, List.length_take]; omega, rfl, rfl, kQ, Ap (by omega), rfl⟩
               | exact fin d _ _ _ q1 (by omega) (by omega) kQ (.inr ⟨_, _, by rfl, by omega, by omega, Ap (by omega)⟩)
               | exact fin d _ _ _ q1 (by omega) (by omega) kQ (.inr ⟨_, out.length + 1, by rw [List.length_append]; rfl, by omega, by omega, Ap (by omega)⟩))
      · skip
        repeat' ((conv => lhs; whnf); first | ((with_reducible refine lvS hO ?_)) | ((with_reducible refine ltT hO (by omega) ?_)) | ((with_reducible refine ltF hO (by omega) ?_)))
        all_goals (conv => lhs; whnf)
        all_goals first
          | exact hf _ _ _ (by omega) (by omega) (Kq.of kQ _) ⟨out, hok, by omega, by first | rw [how, show i = 40 by omega] | rw [how, List.take_of_length_le (by omega), List.take_of_length_le (by omega)], hat⟩
    · skip
      repeat' ((conv => lhs; whnf); first | ((with_reducible refine lvS hO ?_)) | ((with_reducible refine ltF hO (by omega) ?_)))
      all_goals (conv => lhs; whnf)
      all_goals first
        | exact hf _ _ _ (by omega) (by omega) (Kq.of kQ _) ⟨out, hok, by omega, by first | rw [how, show i = 40 by omega] | rw [how, List.take_of_length_le (by omega), List.take_of_length_le (by omega)], hat⟩
theorem few_l {O : Oz} (hO : O = zO) (Φ : Phi) : FewL (p6 O Φ) := fun {l n m v} hR hm => by
  rcases hR with ⟨rfl, rfl⟩ | ⟨b, Kk, x, e, tl, rfl, hb, ha⟩
  · exact fun k P hn hf => few_nil hO Φ n m k P (hf _ _ _ (Nat.le_refl _) (by omega) (Kq.refl _ _ _) ⟨[], ⟨by decide, fun a ha => absurd ha List.not_mem_nil⟩, rfl, rfl, .inl ⟨rfl, rfl⟩⟩)
  · exact few_l1 hO Φ ha hb hm
end Go.Proofs.YtjoakhpdajlhiaaGreatDoor.V2.S
namespace Go.Proofs.YtjoakhpdajlhiaaGreatDoor.V2.S
open Go
set_option maxRecDepth 100000
set_option maxHeartbeats 4000000
set_option linter.unusedVariables false
attribute [local irreducible] fN fO nM gM pM Phi.fn mp bl Au Be Bh pack
theorem nm3 {y a b c : Nat} (h : y ≠ a) (h2 : y ≠ b) (h3 : y ≠ c) : ∀ x ∈ [a, b, c], y ≠ x := fun x hx => by
  rcases List.mem_cons.1 hx with rfl | hx
  · exact h
  · exact nm2 h2 h3 x hx
theorem lo1 {n a : Nat} (h : n ≤ a) : ∀ x ∈ [a], n ≤ x := fun x hx => by rw [List.mem_singleton.1 hx]; exact h
theorem lo3 {n a b c : Nat} (h : n ≤ a) (h2 : n ≤ b) (h3 : n ≤ c) : ∀ x ∈ [a, b, c], n ≤ x := fun x hx => by
  rcases List.mem_cons.1 hx with rfl | hx
  · exact h
  · rcases List.mem_cons.1 hx with rfl | hx
    · exact h2
    · exact lo1 h3 x hx
theorem RowE.lt {m : T FObj} {n : Nat} {v : FV} {l : List En} (h : RowE m n v l) {b o L K z : Nat} {x : Bool} (hv : v = .sl b o L K x z) : b < n := by
  rcases h with ⟨_, rfl⟩ | ⟨b', K', x', e, tl, rfl, h2, _⟩
  · cases hv
  · cases hv; exact h2
theorem eqW {O : Oz} (hO : O = zO) {P : FR} {c : FV → FR} {w : Int} {y : Nat} (h1 : c (.b true) = P) (h0 : c (.b false) = P) : O.eq (wV w) (.n .i64 y) c = P := by
  rcases w with x | x
  · exact eqB hO (fun _ => h1) (fun _ => h0)
  · subst hO; exact h0
theorem lnAc1 {O : Oz} (hO : O = zO) {P : FR} {c : FV → FR} {n : Nat} {m : T FObj} {b : Nat} {a : Ac} {e : TypeId} {t : Tl} (ha : Am m b (.cells (acV a) e t)) (h : c (.agg (acV a)) = P) : O.ln 4 (.p b 0) ⟨n, m⟩ c = P := lnAc (i := 0) (l := [a]) hO ha rfl h
def PLaw (H : HF) : Prop := ∀ {l : List Ac} {n : Nat} {m : T FObj} {v : FV}, RowA m n v l → (∀ a ∈ l, a.m ≤ 65535) → Ret 300000 H [v] n m (.b true)
theorem plaw_s {O : Oz} (hO : O = zO) (Φ : Phi) (HN : NewS (Phi.fn Φ 4)) (HNR : NewR (Phi.fn Φ 5)) (HF : FewL (Phi.fn Φ 6)) (HCp : CopyS (Phi.fn Φ 7)) (HMk : MakeS (Phi.fn Φ 8)) (HCd : CdS (Phi.fn Φ 9)) (HOne : OneR (Phi.fn Φ 10)) (HS : SameS (Phi.fn Φ 11)) (HT : TellsS (Phi.fn Φ 12)) : PLaw (p3 O Φ) := fun {l n m v0} hRA hm k P hn hf => by
  skip
  all_goals (conv => lhs; whnf)
  refine A4 ?_
  refine HN _ _ _ _ (by omega) (fun v1 n1 m1 h1 g1 k1 q1 => ?_)
  obtain ⟨tb0, mb0, rfl, htm0, t1, t2, t3, t4, hT0⟩ := q1
  have k1p := Kq.kp k1
  skip
  all_goals (conv => lhs; whnf)
  refine A4 ?_
  refine HNR n1 m1 _ _ (by omega) (fun m2 k2 hS2 => ?_)
  have hT2 := hT0.kp k2 t2 t4
  have k2p := k1p.trans k2 h1
  skip
  all_goals (conv => lhs; whnf)
  refine A4 ?_
  refine HF (hRA.kp k2p (by omega)) hm _ _ (by omega) (fun v3 n3 m3 h3 g3 k3 q3 => ?_)
  obtain ⟨o, ho, hol0, how0, hat⟩ := q3
  have k3q := Kq.kp k3
  have hT3 := hT2.kp k3q (by omega) (by omega)
  have hS3 := k3q _ _ (by omega) hS2
  have k3p := k2p.trans k3q (by omega)
  have hR3 : RTree m3 n1 n3 (.o .sl) (srt newG) := ⟨hS3, .inl ⟨rfl, rfl⟩⟩
  have hol := ho.1
  rcases hat with ⟨rfl, rfl⟩ | ⟨b1, K1, rfl, b2, b3, b4⟩
  · skip
    repeat' ((conv => lhs; whnf); first | ((with_reducible refine lvN hO ?_)))
    all_goals (conv => lhs; whnf)
    refine lpI hO (fun q e n' m' => q = 0 ∧ n' = n3 ∧ m' = m3 ∧ e = eof [(2, .b false), (3, .p tb0 0), (13, .n .i64 0)]) ?_ ?_ _ 0 _ _ _ (by omega) ⟨rfl, rfl, rfl, rfl⟩
    · rintro q e n' m' ⟨_, h, _⟩; omega
    · rintro q e n' m' ih ⟨rfl, rfl, rfl, rfl⟩ hih
      repeat' ((conv => lhs; whnf); first | ((with_reducible refine ltF hO (by omega) ?_)))
      all_goals (conv => lhs; whnf)
      refine A4 ?_
      refine HT _ _ _ _ (by omega) (fun n4 m4 h4 g4 k4 => ?_)
      skip
      all_goals (conv => lhs; whnf)
      exact hf _ _ (by omega) (by omega) (k3p.trans k4 (by omega))
  · skip
    repeat' ((conv => lhs; whnf); first | ((with_reducible refine lvS hO ?_)))
    all_goals (conv => lhs; whnf)
    refine lpI hO (fun q e n' m' => ∃ i tb mb v t, i ≤ o.length ∧ q = o.length - i ∧ n3 ≤ n' ∧ n' ≤ n + 163 + 6000 * i ∧ Kp n m m' ∧ Am m' b1 (.cells (acs o) 30 .more) ∧ TreeAt m' tb mb 39 t ∧ RTree m' n1 n' v (srt t) ∧ WfT t ∧ OkT t ∧ tb ≠ mb ∧ n1 ≠ tb ∧ n1 ≠ mb ∧ tb < n' ∧ mb < n' ∧ n ≤ tb ∧ n ≤ mb ∧ b1 ≠ tb ∧ b1 ≠ mb ∧ GG (fun b => n1 < b ∧ b ≠ tb ∧ b ≠ mb) v ∧ e = eof [(2, .b false), (3, .p tb 0), (13, .n .i64 i)]) ?_ ?_ _ o.length _ _ _ (by omega) ⟨0, tb0, mb0, .o .sl, newG, by omega, rfl, by omega, by omega, k3p, b4, hT3, hR3, newG_wf, OkT.new, htm0, by omega, by omega, by omega, by omega, by omega, by omega, by omega, by omega, (fun b o L K x z h => by cases h), rfl⟩
    · rintro q e n' m' ⟨i, tb, mb, v, t, _, _, _, h, _⟩; omega
    · rintro q e n' m' ih ⟨i, tb, mb, v, t, hi, rfl, g7, g8, hk, ham, hT, hR, hW, hOk, htm, hrt, hrm, htb, hmb, htn, hmn, hbt, hbm, hG, rfl⟩ hih
      rcases Nat.lt_or_ge i o.length with hlt | hge
      · obtain ⟨a, hgi⟩ : ∃ a, o[i]? = some a := ⟨o[i], List.getElem?_eq_getElem hlt⟩
        obtain ⟨hpl, hdl⟩ : a.p.length ≤ 300 ∧ a.d.length ≤ 9000 := ho.2 _ (List.mem_of_getElem? hgi)
        repeat' ((conv => lhs; whnf); first | ((with_reducible refine alO hO (by omega) ?_)) | (refine lnAc hO ham hgi ?_) | ((with_reducible refine fa0 hO ?_)) | ((with_reducible refine Br ?_); refine ldC hO (Ap (by omega)) (by rfl) ?_) | ((with_reducible refine ltT hO (by omega) ?_)) | ((with_reducible refine ix0 hO (by omega) ?_)) | ((with_reducible refine Hc ?_); refine stAc hO (Ap (by omega)) ?_))
        all_goals (conv => lhs; whnf)
        have hA : Am (mp (mp m' n' (.cells [.n .i64 0, .s (pack []), .s (pack []), .n .u16 0] 30 .exact)) n' (.cells (acV a) 30 .exact)) n' (.cells (acV a) 30 .exact) := Ap (by omega)
        have kb : Kp n' m' (mp (mp m' n' (.cells [.n .i64 0, .s (pack []), .s (pack []), .n .u16 0] 30 .exact)) n' (.cells (acV a) 30 .exact)) := ((Kp.refl n' m').mp (Nat.le_refl _) (by omega)).mp (Nat.le_refl _) (by omega)
        generalize mp (mp m' n' (.cells [.n .i64 0, .s (pack []), .s (pack []), .n .u16 0] 30 .exact)) n' (.cells (acV a) 30 .exact) = m5 at hA kb ⊢
        have hT5 := hT.kp kb htb hmb
        have hR5 := hR.kp kb (by omega) (Nat.le_refl _)
        have ham5 := kb _ _ (by omega) ham
        have kk5 := hk.trans kb (by omega)
        clear hT hR ham hk kb
        refine eqW hO ?_ ?_
        · skip
          skip
          all_goals (conv => lhs; whnf)
          refine A4 ?_
          refine HCp hT5 (by omega) (by omega) _ _ (by omega) (fun v6 n6 m6 h6 g6 k6 q6 => ?_)
          obtain ⟨tc, mc, rfl, hcm, c1, c2, c3, c4, hTc⟩ := q6
          have k6p := Kq.kp k6
          skip
          all_goals (conv => lhs; whnf)
          refine A4 ?_
          refine HMk hTc (by omega) (by omega) hcm hW [99, 111, 112, 121] (by decide) _ _ (by omega) (fun v7 n7 m7 h7 g7 k7 q7 => ?_)
          obtain ⟨hv7, hTc7⟩ := q7
          subst hv7
          have k7p := k6p.trans (Kq.low (n := n' + 1) k7 (by omega) (lo1 (by omega))) (Nat.le_refl _)
          skip
          all_goals (conv => lhs; whnf)
          refine A4 ?_
          refine HCd hTc7 (by omega) (by omega) (J6 hW _) [99, 111, 112, 121] (by decide) _ _ (by omega) (fun v8 n8 m8 h8 g8 k8 q8 => ?_)
          have k8p := k7p.trans (Kq.low (n := n' + 1) k8 (by omega) (lo1 (by omega))) (Nat.le_refl _)
          skip
          all_goals (conv => lhs; whnf)
          refine A4 ?_
          refine HCp (hT5.kp k8p (by omega) (by omega)) (by omega) (by omega) _ _ (by omega) (fun v9 n9 m9 h9 g9 k9 q9 => ?_)
          obtain ⟨tb2, mb2, rfl, htm2, d1, d2, d3, d4, hT9⟩ := q9
          have k9p := k8p.trans (Kq.kp k9) (by omega)
          have hR9 := hR5.kp k9p (by omega) (by omega)
          have hA9 := k9p _ _ (by omega) hA
          have ham9 := k9p _ _ (by omega) ham5
          have kk9 := kk5.trans k9p (by omega)
          have hG9 : GG (fun b => n1 < b ∧ b ≠ tb2 ∧ b ≠ mb2) v := fun b o L K x z h => by
            have hlt := hR5.r.lt h
            exact ⟨⟨(hG b o L K x z h).1.1, by omega, by omega⟩, (hG b o L K x z h).2⟩
          repeat' ((conv => lhs; whnf); first | (refine lnAc1 hO hA9 ?_))
          all_goals (conv => lhs; whnf)
          refine A4 ?_
          refine HOne hT9 hR9 hW hOk htm2 (by omega) (by omega) (by omega) (by omega) (by omega) (by omega) hG9 a hpl hdl _ _ (by omega) (fun n10 m10 v10 t10 h10 g10 k10 hT10 hR10 hW10 hOk10 hG10 => ?_)
          have ham10 := k10 _ _ (by omega) (nm3 (by omega) (by omega) (by omega)) ham9
          have kk10 := Kp.trans kk9 (Kq.low (n := n) k10 (by omega) (lo3 (by omega) (by omega) (by omega))) (Nat.le_refl n)
          skip
          all_goals (conv => lhs; whnf)
          refine A4 ?_
          refine HS hT10 hR10 hW10 (by omega) (by omega) (by omega) (Nat.le_refl _) _ _ (by omega) (fun n11 m11 h11 g11 k11 => ?_)
          repeat' ((conv => lhs; whnf); first | ((with_reducible refine adI hO (by omega) ?_)))
          all_goals (conv => lhs; whnf)
          exact hih (o.length - (i + 1)) _ _ _ (by omega) ⟨i + 1, tb2, mb2, v10, t10, by omega, rfl, by omega, by omega, kk10.trans k11 (by omega), k11 _ _ (by omega) ham10, hT10.kp k11 (by omega) (by omega), (hR10.kp k11 (by omega) (by omega)).up (by omega), hW10, hOk10, htm2, by omega, by omega, by omega, by omega, by omega, by omega, by omega, by omega, hG10, rfl⟩
        · skip
          repeat' ((conv => lhs; whnf); first | (refine lnAc1 hO hA ?_))
          all_goals (conv => lhs; whnf)
          refine A4 ?_
          refine HOne hT5 hR5 hW hOk htm (by omega) (by omega) (by omega) (by omega) (by omega) (by omega) hG a hpl hdl _ _ (by omega) (fun n10 m10 v10 t10 h10 g10 k10 hT10 hR10 hW10 hOk10 hG10 => ?_)
          have ham10 := k10 _ _ (by omega) (nm3 (by omega) (by omega) (by omega)) ham5
          have kk10 := Kp.trans kk5 (Kq.low (n := n) k10 (by omega) (lo3 (by omega) (by omega) (by omega))) (Nat.le_refl n)
          skip
          all_goals (conv => lhs; whnf)
          refine A4 ?_
          refine HS hT10 hR10 hW10 (by omega) (by omega) (by omega) (Nat.le_refl _) _ _ (by omega) (fun n11 m11 h11 g11 k11 => ?_)
          repeat' ((conv => lhs; whnf); first | ((with_reducible refine adI hO (by omega) ?_)))
          all_goals (conv => lhs; whnf)
          exact hih (o.length - (i + 1)) _ _ _ (by omega) ⟨i + 1, tb, mb, v10, t10, by omega, rfl, by omega, by omega, kk10.trans k11 (by omega), k11 _ _ (by omega) ham10, hT10.kp k11 (by omega) (by omega), (hR10.kp k11 (by omega) (by omega)).up (by omega), hW10, hOk10, htm, by omega, by omega, by omega, by omega, by omega, by omega, by omega, by omega, hG10, rfl⟩
      · skip
        repeat' ((conv => lhs; whnf); first | ((with_reducible refine ltF hO (by omega) ?_)))
        all_goals (conv => lhs; whnf)
        refine A4 ?_
        refine HT _ _ _ _ (by omega) (fun n4 m4 h4 g4 k4 => ?_)
        skip
        all_goals (conv => lhs; whnf)
        exact hf _ _ (by omega) (by omega) (hk.trans k4 (by omega))
end Go.Proofs.YtjoakhpdajlhiaaGreatDoor.V2.S
