/- Part 13 of the proof: texts of the proof. -/
import Derived.Test.YtjoakhpdajlhiaaDoorQR12
import Derived.Maps.AppendAt
namespace Go.Proofs.YtjoakhpdajlhiaaDoor.V2.S
open Go
set_option maxRecDepth 100000
set_option maxHeartbeats 4000000
set_option linter.unusedVariables false
attribute [local irreducible] fN fO nM gM pM Phi.fn mp bl bpart bapp top1 pack numV
noncomputable def b22 (O : Oz) (v1 v2 v21 : FV) : Cd := (cLet (oV R9) fun v23 => (cLet (o2 O.lt (rdV v23) (rdV v21)) fun v24 => (cSeq (cCond (rdV v24) cSkip (cExit 0)) (cSeq (cBlk 1 (cLet (oV R6) fun v25 => (cLet (o1 O.lv (rdV v1)) fun v26 => (cLet (o2 O.ge (rdV v25) (rdV v26)) fun v27 => (cSeq (cCond (rdV v27) (cWr X2 (.o .ptr) (cWr X3 (.n .i64 4) cRet)) cSkip) (cLet (oV R6) fun v28 => (cLet (o2 (O.ix 1) (rdV v1) (rdV v28)) fun v29 => (cLet (m1 O.ld (rdV v29)) fun v30 => (cLet (o1 (O.cv .i64) (rdV v30)) fun v31 => (cLet (oV R6) fun v32 => (cLet (o2 O.ad (rdV v32) (rdV (.n .i64 1))) fun v33 => (cLet (oCallS 46 [(rdV v1), (rdV v33)]) fun v34 => (cLet (o1 (exG 0) (rdV v34)) fun v35 => (cLet (o1 (exG 1) (rdV v34)) fun v36 => (cWr X12 v36 (cWr X13 (.s (pack [])) (cLet (o2 O.eq (rdV v31) (rdV (.n .i64 2))) fun v37 => (cSeq (cCond (rdV v37) (cLet (oCallS 46 [(rdV v1), (rdV v36)]) fun v38 => (cLet (o1 (exG 0) (rdV v38)) fun v39 => (cLet (o1 (exG 1) (rdV v38)) fun v40 => (cWr X13 v39 (cWr X12 v40 cSkip))))) cSkip) (cLet (oV R12) fun v41 => (cLet (o2 O.lt (rdV v41) (rdV (.n .i64 0))) fun v42 => (cSeq (cCond (rdV v42) (cWr X2 (.o .ptr) (cWr X3 (.n .i64 4) cRet)) cSkip) (cLet (oV R12) fun v43 => (cWr X6 v43 (cLet (oCallS 47 [(rdV v2), (rdV v35)]) fun v44 => (cLet (o1 (exG 0) (rdV v44)) fun v45 => (cLet (o1 (exG 1) (rdV v44)) fun v46 => (cLet (o2 O.ne (rdV v46) (rdV (.n .i64 0))) fun v47 => (cLet (oG false (rdV v47) (oV (rdV v45))) fun v48 => (cLet (oG false (rdV v47) (oV (rdV v35))) fun v49 => (cLet (oG false (rdV v47) (o2 O.ne (rdV v48) (rdV v49))) fun v50 => (cLet (o3 pkF (rdV v47) (rdV (.b true)) (rdV v50)) fun v51 => (cLet (oG false (rdV v51) (oV (rdV v2))) fun v52 => (cLet (oG false (rdV v51) (oV (rdV v45))) fun v53 => (cLet (oG false (rdV v51) (oCallS 48 [(rdV v52), (rdV v53)])) fun v54 => (cLet (oG false (rdV v51) (o2 O.ne (rdV v54) (rdV (.n .i64 0)))) fun v55 => (cLet (o3 pkF (rdV v51) (rdV (.b true)) (rdV v55)) fun v56 => (cLet (oG false (rdV v56) (oV (rdV v31))) fun v57 => (cLet (oG false (rdV v56) (o2 O.ne (rdV v57) (rdV (.n .i64 1)))) fun v58 => (cLet (oG false (rdV v56) (oV (rdV v58))) fun v59 => (cLet (oG true (rdV v59) (oV (rdV v31))) fun v60 => (cLet (oG true (rdV v59) (o2 O.ne (rdV v60) (rdV (.n .i64 2)))) fun v61 => (cLet (oG false (rdV v56) (o3 pkF (rdV v59) (rdV v61) (rdV (.b false)))) fun v62 => (cLet (o3 pkF (rdV v56) (rdV (.b true)) (rdV v62)) fun v63 => (cLet (oG false (rdV v63) (oV (rdV v2))) fun v64 => (cLet (oG false (rdV v63) (oV (rdV v45))) fun v65 => (cLet (oG false (rdV v63) (oV (rdV v31))) fun v66 => (cLet (oG false (rdV v63) (o2 O.eq (rdV v66) (rdV (.n .i64 1)))) fun v67 => (cLet (oG false (rdV v63) (oV R13)) fun v68 => (cLet (oG false (rdV v63) (nL (O.bu [.s (pack []), .b false, .s (pack [])] [(.str []), (.bool false), (.str [])] [(0, 1), (1, 1), (2, 1)]) [(rdV v65), (rdV v67), (rdV v68)])) fun v69 => (cLet (oG false (rdV v63) (oCallS 49 [(rdV v64), (rdV v69)])) fun v70 => (cLet (oG false (rdV v63) (o2 O.ne (rdV v70) (rdV (.n .i64 0)))) fun v71 => (cLet (o3 pkF (rdV v63) (rdV (.b true)) (rdV v71)) fun v72 => (cSeq (cCond (rdV v72) (cWr X8 (.b true) cSkip) cSkip) cSkip))))))))))))))))))))))))))))))))))))))))))))))))))))) (cLet (oV R9) fun v73 => (cLet (o2 O.ad (rdV v73) (rdV (.n .i64 1))) fun v74 => (cWr X9 v74 cSkip)))))))
def LoopRS (O : Oz) (Φ : Phi) : Prop := ∀ {n rb Bb N cnt o1 n0 K nn : Nat} {x : Bool} {l : Bs} {e : TypeId} {tl : Tl} {m m0 : T FObj} {kn kr : K2} {ke : Nat → K2} {P : FR} {v y0 z0 : FV}, n ≤ rb → rb < n0 → Bb < n → l.length ≤ K → l.length ≤ 3000 → cnt ≤ 65535 → N ≤ n0 → Am m Bb (.bs (pack l) e tl) → Kp n m m0 → o1 ≤ l.length → RTree m0 rb nn v newG → Gt rb v → nn ≤ n0 → n0 + (520 * (l.length / 3) + 600) ≤ 1000000 →
  (∀ e' n' m', loopP l cnt o1 newG true = none → n0 ≤ n' → n' ≤ n0 + 520 * (l.length / 3) → Kp n m m' → (∃ a b c d f, e' = eof [(2, .o .ptr), (3, .n .i64 4), (6, a), (8, b), (9, c), (12, d), (13, f)]) → kr e' ⟨n', m'⟩ = P) →
  (∀ t g w nn' v' n' m' y z o', loopP l cnt o1 newG true = some (t, g) → w = !g → n0 ≤ n' → n' ≤ n0 + 520 * (l.length / 3) → Kp n m m' → RTree m' rb nn' v' (srt t) → Gt rb v' → nn' ≤ n' → WfT t → OkT t → ke 0 (eof [(2, .o .ptr), (3, .n .i64 0), (6, .n .i64 o'), (8, .b w), (9, .n .i64 cnt), (12, y), (13, z)]) ⟨n', m'⟩ = P) →
  O.lp 1000000 (b22 O (.sl Bb 0 l.length K x 1) (.p rb 0) (.n .i64 cnt)) Φ N kn kr ke (eof [(2, .o .ptr), (3, .n .i64 0), (6, .n .i64 o1), (8, .b false), (9, .n .i64 0), (12, y0), (13, z0)]) ⟨n0, m0⟩ = P
theorem loopR_s {O : Oz} (hO : O = zO) (Φ : Phi) (HTx : TextR (Phi.fn Φ 46)) (HTm : TextRM (Phi.fn Φ 46)) (HA : AbsR (Phi.fn Φ 47)) (HK : KindR (Phi.fn Φ 48)) (HP : PutR (Phi.fn Φ 49)) : LoopRS O Φ := fun {n rb Bb N cnt o1 n0 K nn x l e tl m m0 kn kr ke P v y00 z00} hrn hr0 hBn hK hl3 hcnt hN ha hk0 ho1 hR0 hG0 hnn0 hb hsh hen => by
  refine lpI hO (fun q e' n' m' => ∃ i o t g w nn1 v1 y z, q = cnt - i ∧ i ≤ cnt ∧ o1 + 3 * i ≤ o ∧ o ≤ l.length ∧ n0 ≤ n' ∧ n' ≤ n0 + 520 * i ∧ Kp n m m' ∧ RTree m' rb nn1 v1 (srt t) ∧ Gt rb v1 ∧ nn1 ≤ n' ∧ WfT t ∧ OkT t ∧ loopP l cnt o1 newG true = loopP l (cnt - i) o t g ∧ w = (!g) ∧ e' = (eof [(2, .o .ptr), (3, .n .i64 0), (6, .n .i64 o), (8, .b w), (9, .n .i64 i), (12, y), (13, z)])) ?_ ?_ _ cnt _ _ _ (by omega) ⟨0, o1, newG, true, false, nn, v, y00, z00, by omega, by omega, by omega, ho1, by omega, by omega, hk0, hR0, hG0, hnn0, newG_wf, .new, rfl, rfl, rfl⟩
  · rintro q e' n' m' ⟨i, o, t, g, w, nn1, v1, y, z, _, _, _, _, h, _⟩; omega
  · rintro q e' n1 m1 ih ⟨i, o, t, g, w, nn1, v1, y0, z0, rfl, hi, hio, hol, hn0, hn1, hk, hR, hG, hnn1, hW, hOk, hlp, hw, rfl⟩ hih
    have aB : Am m1 Bb (.bs (pack l) e tl) := hk _ _ (by omega) ha
    rcases Nat.lt_or_ge i cnt with hlt | hge
    rotate_left
    · obtain rfl : i = cnt := by omega
      rw [Nat.sub_self] at hlp
      repeat' ((conv => lhs; whnf); first | ((with_reducible refine ltF hO (by omega) ?_)))
      all_goals (conv => lhs; whnf)
      all_goals first
        | exact hen _ _ _ _ _ _ _ _ _ _ hlp hw (by omega) (by omega) hk hR hG hnn1 hW hOk
    · have hwl := hW.len
      have hc3 : 0 < cnt - i := by omega
      have hcs : cnt - i - 1 = cnt - (i + 1) := by omega
      have hbt := bt_le l o
      rcases Nat.lt_or_ge o l.length with hol2 | hol2
      rotate_left
      · have hent : entO l o = none := entO_no1 (by omega)
        repeat' ((conv => lhs; whnf); first | ((with_reducible refine lvS hO ?_)) | ((with_reducible refine ltT hO (by omega) ?_)) | ((with_reducible refine geT hO (by omega) ?_)))
        all_goals (conv => lhs; whnf)
        all_goals first
        | exact hsh _ _ _ (hlp.trans (loop_none hent hc3)) (by omega) (by omega) hk ⟨.n .i64 o, .b w, .n .i64 i, .z .i64 0, .s (pack []), rfl⟩
        | exact hsh _ _ _ (hlp.trans (loop_none hent hc3)) (by omega) (by omega) hk ⟨.n .i64 o, .b w, .n .i64 i, y0, z0, rfl⟩
        | exact hih (cnt - (i + 1)) _ _ _ (by omega) ⟨i + 1, o3, t, false, true, nn1, v1, .n .i64 o3, .s (pack d), rfl, by omega, by omega, by omega, by omega, by omega, hk, hR, hG, by omega, hW, hOk, (by rw [hlp, loop_step (entO_s2 hkd (by assumption) hx2 hx3) hc3 (addE_no (t := t) (kd := bt l o) (p := p) (d := d) (by first | exact .inl (by assumption) | exact .inr (.inl (by assumption)) | exact .inr (.inr (.inl (by assumption))) | exact .inr (.inr (.inr ⟨by assumption, by omega⟩)))), Bool.and_false, hcs]), rfl, rfl⟩
        | (obtain ⟨hap, hW6, hO6⟩ := add_put_no (entO_s2 hkd (by assumption) hx2 hx3) hW hOk (by omega) (by assumption) (by omega) (by omega) (b := false) (decide_eq_false (by omega)) (by assumption); exact hih (cnt - (i + 1)) _ _ _ (by omega) ⟨i + 1, o3, _, false, true, n6, w6, .n .i64 o3, .s (pack d), rfl, by omega, by omega, by omega, by omega, by omega, kn6, hR6, hG6 hG, Nat.le_refl _, hW6, hO6, (by rw [hlp, loop_step (entO_s2 hkd (by assumption) hx2 hx3) hc3 hap, Bool.and_false, hcs]), rfl, rfl⟩)
        | (obtain ⟨hap, hW6, hO6⟩ := add_put_ok (entO_s2 hkd (by assumption) hx2 hx3) hW hOk (by omega) (by assumption) (by omega) (by omega) (b := false) (decide_eq_false (by omega)) (by assumption); exact hih (cnt - (i + 1)) _ _ _ (by omega) ⟨i + 1, o3, _, g, w, n6, w6, .n .i64 o3, .s (pack d), rfl, by omega, by omega, by omega, by omega, by omega, kn6, hR6, hG6 hG, Nat.le_refl _, hW6, hO6, (by rw [hlp, loop_step (entO_s2 hkd (by assumption) hx2 hx3) hc3 hap, Bool.and_true, hcs]), hw, rfl⟩)
        | exact hih (cnt - (i + 1)) _ _ _ (by omega) ⟨i + 1, o2, t, false, true, nn1, v1, .n .i64 o2, .s (pack []), rfl, by omega, by omega, by omega, by omega, by omega, hk, hR, hG, by omega, hW, hOk, (by rw [hlp, loop_step (entO_s1 hkd (by assumption) hx2) hc3 (addE_no (t := t) (kd := bt l o) (p := p) (d := []) (by first | exact .inl (by assumption) | exact .inr (.inl (by assumption)) | exact .inr (.inr (.inl (by assumption))) | exact .inr (.inr (.inr ⟨by assumption, by omega⟩)))), Bool.and_false, hcs]), rfl, rfl⟩
        | (obtain ⟨hap, hW6, hO6⟩ := add_put_no (entO_s1 hkd (by assumption) hx2) hW hOk (by omega) (by assumption) (by omega) (by omega) (b := true) (decide_eq_true (by omega)) (by assumption); exact hih (cnt - (i + 1)) _ _ _ (by omega) ⟨i + 1, o2, _, false, true, n6, w6, .n .i64 o2, .s (pack []), rfl, by omega, by omega, by omega, by omega, by omega, kn6, hR6, hG6 hG, Nat.le_refl _, hW6, hO6, (by rw [hlp, loop_step (entO_s1 hkd (by assumption) hx2) hc3 hap, Bool.and_false, hcs]), rfl, rfl⟩)
        | (obtain ⟨hap, hW6, hO6⟩ := add_put_ok (entO_s1 hkd (by assumption) hx2) hW hOk (by omega) (by assumption) (by omega) (by omega) (b := true) (decide_eq_true (by omega)) (by assumption); exact hih (cnt - (i + 1)) _ _ _ (by omega) ⟨i + 1, o2, _, g, w, n6, w6, .n .i64 o2, .s (pack []), rfl, by omega, by omega, by omega, by omega, by omega, kn6, hR6, hG6 hG, Nat.le_refl _, hW6, hO6, (by rw [hlp, loop_step (entO_s1 hkd (by assumption) hx2) hc3 hap, Bool.and_true, hcs]), hw, rfl⟩)
      · have hkd : o + 1 ≤ l.length := hol2
        repeat' ((conv => lhs; whnf); first | ((with_reducible refine atFn ?_); first | (refine HTx (o := o + 1) aB hK (by omega) (by omega) _ _ (fun hx2 => ?_) (fun p o2 hx2 => ?_); (have hent : entO l o = none := entO_no2 hx2); rotate_left; (have hl2 := textO_len hx2); rotate_left) | (refine HTx (o := o2) aB hK (by omega) (by omega) _ _ (fun hx3 => ?_) (fun d o3 hx3 => ?_); (have hent : entO l o = none := entO_no3 (by assumption) hx2 hx3); rotate_left; (have hl3 := textO_len hx3); rotate_left) | refine HTm _ _ _ _ _ ?_ | (refine HA hR (by rw [srt_len]; omega) (srt_st hW hOk) hW.c2 p (by omega) _ _ ?_; rw [srt_abs hW]) | (refine HK hR (by rw [srt_len]; omega) (absG t p).1 _ _ ?_; rw [srt_kind hW]) | (refine HP hR hW (by omega) (by omega) ⟨(absG t p).1, true, []⟩ (by show (absG t p).1.length ≤ 900000; have := absG_le (t := t) (path := p) hW.c2 (by omega); omega) (by first | exact Nat.zero_le _ | (show d.length ≤ 900000; omega)) _ _ (by omega) (fun n6 m6 w6 h6 g6 k6 hR6 hG6 => ?_); have kn6 : Kp n m m6 := hk.trans (Kq.low (n := n) k6 (by omega) (fun x hx => by rw [List.mem_singleton.1 hx]; omega)) (Nat.le_refl n)) | (refine HP hR hW (by omega) (by omega) ⟨(absG t p).1, false, d⟩ (by show (absG t p).1.length ≤ 900000; have := absG_le (t := t) (path := p) hW.c2 (by omega); omega) (by first | exact Nat.zero_le _ | (show d.length ≤ 900000; omega)) _ _ (by omega) (fun n6 m6 w6 h6 g6 k6 hR6 hG6 => ?_); have kn6 : Kp n m m6 := hk.trans (Kq.low (n := n) k6 (by omega) (fun x hx => by rw [List.mem_singleton.1 hx]; omega)) (Nat.le_refl n))) | ((with_reducible refine atLd ?_); refine ldB hO aB (by omega) ?_) | ((with_reducible refine lvS hO ?_)) | ((with_reducible refine ltT hO (by omega) ?_)) | ((with_reducible refine ltF hO (by omega) ?_)) | ((with_reducible refine geF hO (by omega) ?_)) | ((with_reducible refine eqT hO (by omega) ?_)) | ((with_reducible refine eqF hO (by omega) ?_)) | ((with_reducible refine eqB hO (fun h => ?_) (fun h => ?_))) | ((with_reducible refine neT hO (by omega) ?_)) | ((with_reducible refine neF hO (by omega) ?_)) | ((with_reducible refine neB hO (fun h => ?_) (fun h => ?_))) | ((with_reducible refine neSB hO (fun h => ?_) (fun h => ?_))) | ((with_reducible refine adI hO (by omega) ?_)) | ((with_reducible refine cvI hO (by omega) ?_)) | ((with_reducible refine ix01 hO (by omega) ?_)) | ((with_reducible first | refine umt hO ?_ | refine uqu hO ?_ | refine urm hO ?_ | refine uan hO ?_ | refine uro hO ?_ | refine uxr hO ?_ | refine uhl hO ?_ | refine uhr hO ?_ | refine uad hO ?_ | refine usb hO ?_ | refine ult hO ?_ | refine ule hO ?_ | refine ugt hO ?_ | refine uge hO ?_ | refine ueq hO ?_ | refine une hO ?_ | refine ucv hO ?_ | refine uia hO ?_ | refine usv hO ?_ | refine ubu hO ?_ | refine uap hO ?_ | refine ubs hO ?_ | refine umm hO ?_ | refine upq hO ?_ | refine unq hO ?_ | refine uln hO ?_)))
        all_goals (conv => lhs; whnf)
        all_goals first
        | exact hsh _ _ _ (hlp.trans (loop_none hent hc3)) (by omega) (by omega) hk ⟨.n .i64 o, .b w, .n .i64 i, .z .i64 0, .s (pack []), rfl⟩
        | exact hsh _ _ _ (hlp.trans (loop_none hent hc3)) (by omega) (by omega) hk ⟨.n .i64 o, .b w, .n .i64 i, y0, z0, rfl⟩
        | exact hih (cnt - (i + 1)) _ _ _ (by omega) ⟨i + 1, o3, t, false, true, nn1, v1, .n .i64 o3, .s (pack d), rfl, by omega, by omega, by omega, by omega, by omega, hk, hR, hG, by omega, hW, hOk, (by rw [hlp, loop_step (entO_s2 hkd (by assumption) hx2 hx3) hc3 (addE_no (t := t) (kd := bt l o) (p := p) (d := d) (by first | exact .inl (by assumption) | exact .inr (.inl (by assumption)) | exact .inr (.inr (.inl (by assumption))) | exact .inr (.inr (.inr ⟨by assumption, by omega⟩)))), Bool.and_false, hcs]), rfl, rfl⟩
        | (obtain ⟨hap, hW6, hO6⟩ := add_put_no (entO_s2 hkd (by assumption) hx2 hx3) hW hOk (by omega) (by assumption) (by omega) (by omega) (b := false) (decide_eq_false (by omega)) (by assumption); exact hih (cnt - (i + 1)) _ _ _ (by omega) ⟨i + 1, o3, _, false, true, n6, w6, .n .i64 o3, .s (pack d), rfl, by omega, by omega, by omega, by omega, by omega, kn6, hR6, hG6 hG, Nat.le_refl _, hW6, hO6, (by rw [hlp, loop_step (entO_s2 hkd (by assumption) hx2 hx3) hc3 hap, Bool.and_false, hcs]), rfl, rfl⟩)
        | (obtain ⟨hap, hW6, hO6⟩ := add_put_ok (entO_s2 hkd (by assumption) hx2 hx3) hW hOk (by omega) (by assumption) (by omega) (by omega) (b := false) (decide_eq_false (by omega)) (by assumption); exact hih (cnt - (i + 1)) _ _ _ (by omega) ⟨i + 1, o3, _, g, w, n6, w6, .n .i64 o3, .s (pack d), rfl, by omega, by omega, by omega, by omega, by omega, kn6, hR6, hG6 hG, Nat.le_refl _, hW6, hO6, (by rw [hlp, loop_step (entO_s2 hkd (by assumption) hx2 hx3) hc3 hap, Bool.and_true, hcs]), hw, rfl⟩)
        | exact hih (cnt - (i + 1)) _ _ _ (by omega) ⟨i + 1, o2, t, false, true, nn1, v1, .n .i64 o2, .s (pack []), rfl, by omega, by omega, by omega, by omega, by omega, hk, hR, hG, by omega, hW, hOk, (by rw [hlp, loop_step (entO_s1 hkd (by assumption) hx2) hc3 (addE_no (t := t) (kd := bt l o) (p := p) (d := []) (by first | exact .inl (by assumption) | exact .inr (.inl (by assumption)) | exact .inr (.inr (.inl (by assumption))) | exact .inr (.inr (.inr ⟨by assumption, by omega⟩)))), Bool.and_false, hcs]), rfl, rfl⟩
        | (obtain ⟨hap, hW6, hO6⟩ := add_put_no (entO_s1 hkd (by assumption) hx2) hW hOk (by omega) (by assumption) (by omega) (by omega) (b := true) (decide_eq_true (by omega)) (by assumption); exact hih (cnt - (i + 1)) _ _ _ (by omega) ⟨i + 1, o2, _, false, true, n6, w6, .n .i64 o2, .s (pack []), rfl, by omega, by omega, by omega, by omega, by omega, kn6, hR6, hG6 hG, Nat.le_refl _, hW6, hO6, (by rw [hlp, loop_step (entO_s1 hkd (by assumption) hx2) hc3 hap, Bool.and_false, hcs]), rfl, rfl⟩)
        | (obtain ⟨hap, hW6, hO6⟩ := add_put_ok (entO_s1 hkd (by assumption) hx2) hW hOk (by omega) (by assumption) (by omega) (by omega) (b := true) (decide_eq_true (by omega)) (by assumption); exact hih (cnt - (i + 1)) _ _ _ (by omega) ⟨i + 1, o2, _, g, w, n6, w6, .n .i64 o2, .s (pack []), rfl, by omega, by omega, by omega, by omega, by omega, kn6, hR6, hG6 hG, Nat.le_refl _, hW6, hO6, (by rw [hlp, loop_step (entO_s1 hkd (by assumption) hx2) hc3 hap, Bool.and_true, hcs]), hw, rfl⟩)
end Go.Proofs.YtjoakhpdajlhiaaDoor.V2.S
namespace Go.Proofs.YtjoakhpdajlhiaaDoor.V2.S
open Go
set_option maxRecDepth 100000
set_option maxHeartbeats 4000000
set_option linter.unusedVariables false
attribute [local irreducible] fN fO nM gM pM Phi.fn mp bl bpart bapp top1 pack numV
theorem RTree.kp {m m' : T FObj} {rb nn n : Nat} {v : FV} {t : Tr} (h : RTree m rb nn v t) (hk : Kp n m m') (h1 : rb < n) (h2 : nn ≤ n) : RTree m' rb nn v t := ⟨hk _ _ h1 h.s, h.r.kp hk h2⟩
def ParseR (H : HF) : Prop := ∀ {Bb K n : Nat} {x : Bool} {l : Bs} {e : TypeId} {tl : Tl} {m : T FObj}, Am m Bb (.bs (pack l) e tl) → Bb < n → l.length ≤ K → l.length ≤ 3000 → ∀ (k : KV) (P : FR), n + (2000 + 520 * (l.length / 3)) ≤ 1000000 →
  (∀ c n' m', parseG l = (none, c) → (c = 4 ∨ c = 5) → n ≤ n' → n' ≤ n + (2000 + 520 * (l.length / 3)) → Kp n m m' → k (.tup [.o .ptr, .n .i64 c]) ⟨n', m'⟩ = P) →
  (∀ t rb nn v n' m', parseG l = (some t, 0) → n ≤ n' → n' ≤ n + (2000 + 520 * (l.length / 3)) → Kp n m m' → n ≤ rb → rb < n' → nn ≤ n' → RTree m' rb nn v (srt t) → k (.tup [.p rb 0, .n .i64 0]) ⟨n', m'⟩ = P) → H [.sl Bb 0 l.length K x 1] ⟨n, m⟩ k = P
theorem parse_r {O : Oz} (hO : O = zO) (Φ : Phi) (HNew : NewR (Phi.fn Φ 45)) (HTx : TextR (Phi.fn Φ 46)) (HTm : TextRM (Phi.fn Φ 46)) (HA : AbsR (Phi.fn Φ 47)) (HK : KindR (Phi.fn Φ 48)) (HP : PutR (Phi.fn Φ 49)) (HCd : CdR (Phi.fn Φ 50)) (HB : BytesR (Phi.fn Φ 51)) : ParseR (p22 O Φ) := fun {Bb K n x l e tl m} ha hb hK hl3 k P hn hc1 hc2 => by
  have hbz : ∀ i, bt l i ≤ 255 := bt_le l
  repeat' ((conv => lhs; whnf); first | ((refine adI (a := 256 * bt l o1) (b := bt l (o1 + 1)) hO (by have := hbz o1; have := hbz (o1 + 1); omega) ?_; rw [hnm])) | ((refine mtI hO (by have := hbz o1; omega) ?_)) | ((refine cvI hO (by have := hbz o1; have := hbz (o1 + 1); omega) ?_)) | ((with_reducible refine atFn ?_); first | (refine HNew _ _ _ _ (by omega) (fun m1 k1 a1 => ?_); have aB := k1 _ _ hb ha) | (refine HTx (o := 0) aB hK (by omega) (by omega) _ _ (fun hxc => ?_) (fun c o1 hxc => ?_); rotate_left; (have hlc := textO_len hxc; have hnm : 256 * bt l o1 + bt l (o1 + 1) = numV l o1 := (by unfold numV; omega)); rotate_left)) | ((with_reducible refine atLd ?_); refine ldB hO aB (by omega) ?_) | ((with_reducible refine lvS hO ?_)) | ((with_reducible refine ltF hO (by omega) ?_)) | ((with_reducible refine gtB hO (fun h => ?_) (fun h => ?_))) | ((with_reducible refine adI hO (by omega) ?_)) | ((with_reducible refine ix01 hO (by omega) ?_)) | ((with_reducible first | refine umt hO ?_ | refine uqu hO ?_ | refine urm hO ?_ | refine uan hO ?_ | refine uro hO ?_ | refine uxr hO ?_ | refine uhl hO ?_ | refine uhr hO ?_ | refine uad hO ?_ | refine usb hO ?_ | refine ult hO ?_ | refine ule hO ?_ | refine ugt hO ?_ | refine uge hO ?_ | refine ueq hO ?_ | refine une hO ?_ | refine ucv hO ?_ | refine uia hO ?_ | refine usv hO ?_ | refine ubu hO ?_ | refine uap hO ?_ | refine ubs hO ?_ | refine umm hO ?_ | refine upq hO ?_ | refine unq hO ?_ | refine uln hO ?_)))
  all_goals (conv => lhs; whnf)
  all_goals first
    | exact hc1 4 _ _ (parse_sh (.inl hxc)) (.inl rfl) (by omega) (by omega) kQ
    | exact hc1 4 _ _ (parse_sh (.inr ⟨_, _, hxc, .inl (by omega)⟩)) (.inl rfl) (by omega) (by omega) kQ
    | (have hnv2 := numV_le l o1
       refine loopR_s hO Φ HTx HTm HA HK HP (n := n) (rb := n) (Bb := Bb) (l := l) (m := m) (o1 := o1 + 2) (cnt := numV l o1) (v := .o .sl) (nn := n) (y0 := .o .top) (z0 := .o .top) (Nat.le_refl _) (by omega) hb hK hl3 hnv2 (by omega) ha kQ (by omega) ⟨a1, .inl ⟨rfl, rfl⟩⟩ (fun b o L K x z h => by cases h) (by omega) (by omega) ?_ ?_
       · rintro e' n' m' hl5 h5 g5 k5 ⟨a, b, c, d, f, rfl⟩
         skip
         all_goals (conv => lhs; whnf)
         all_goals first
           | exact hc1 4 _ _ (parse_sh (.inr ⟨_, _, hxc, .inr hl5⟩)) (.inl rfl) (by omega) (by omega) k5
       · rintro t g w nn5 v5 n5 m5 y z o' hl5 hw h5 g5 k5 hR5 hG5 hnn5 hW5 hO5
         have hpo := parse_of hxc (by omega) hl5
         have hwl5 := hW5.len
         rcases g with _ | _
         all_goals (have hw : w = _ := hw; subst hw)
         repeat' ((conv => lhs; whnf); first | ((refine bSP hO aB6 (by omega) ?_; rw [tk0 rfl])) | ((refine bSP hO aB7 (by omega) ?_; rw [tk0 rfl])) | ((refine bSP hO b3 (by omega) ?_; rw [tk0 rfl])) | ((with_reducible refine atFn ?_); first | (refine HCd hR5 hG5 (by rw [srt_len]; omega) (srt_st hW5 hO5) hW5.c2 (by omega) (by omega) (by omega) c (by omega) _ _ (fun m6 k6 hR6 => ?_); rw [srt_cd hW5] at hR6 ⊢; have k6p := k5.trans (Kq.low (n := n) k6 (by omega) (fun x hx => by rw [List.mem_singleton.1 hx]; omega)) (Nat.le_refl n); have aB6 := k6p _ _ hb ha) | (refine HB hR6 (srt_wf (cdG_wf hW5 c)) (srt_id (cdG_wf hW5 c)) (by omega) (by omega) _ _ (by omega) (fun v7 n7 m7 h7 g7 k7 q7 => ?_); rw [srt_tree (cdG_wf hW5 c)] at q7; obtain ⟨bb, rfl, b1, b2, b3⟩ := q7; have k7p := k6p.trans (Kq.low (n := n) k7 (by omega) (fun x hx => absurd hx List.not_mem_nil)) (Nat.le_refl n); have aB7 := k7p _ _ hb ha; have hR7 := RTree.kp hR6 (Kq.kp k7) (by omega) (by omega))) | ((with_reducible refine neB hO (fun h => ?_) (fun h => ?_))) | ((with_reducible refine neSB hO (fun h => ?_) (fun h => ?_))) | ((with_reducible refine rcE hO (by kernel_rfl) rfl ?_)))
         all_goals (conv => lhs; whnf)
         all_goals first
           | exact hc1 5 _ _ (hpo.trans (if_neg fun h => absurd h.1 (by decide))) (.inr rfl) (by omega) (by omega) k5
           | exact hc1 5 _ _ (hpo.trans (if_neg fun h => absurd h.2.1 (by assumption))) (.inr rfl) (by omega) (by omega) k6p
           | exact hc1 5 _ _ (hpo.trans (if_neg fun h => absurd h.2.2 (by assumption))) (.inr rfl) (by omega) (by omega) k7p
           | exact hc2 _ _ _ _ _ _ (hpo.trans (if_pos ⟨rfl, by assumption, by assumption⟩)) (by omega) (by omega) k7p (by omega) (by omega) (by omega) hR7)
def ParseRN (H : HF) : Prop := ∀ (n : Nat) (m : T FObj), Ret 20 H [.o .sl] n m (.tup [.o .ptr, .n .i64 4])
theorem parse_rn {O : Oz} (hO : O = zO) (Φ : Phi) (HNew : NewR (Phi.fn Φ 45)) (HTx : TextRN (Phi.fn Φ 46)) : ParseRN (p22 O Φ) := fun n m k P hn hf => by
  repeat' ((conv => lhs; whnf); first | ((with_reducible refine atFn ?_); first | (refine HNew _ _ _ _ (by omega) (fun m1 k1 a1 => ?_)) | refine HTx 0 _ _ (by omega) _ _ ?_) | ((with_reducible first | refine umt hO ?_ | refine uqu hO ?_ | refine urm hO ?_ | refine uan hO ?_ | refine uro hO ?_ | refine uxr hO ?_ | refine uhl hO ?_ | refine uhr hO ?_ | refine uad hO ?_ | refine usb hO ?_ | refine ult hO ?_ | refine ule hO ?_ | refine ugt hO ?_ | refine uge hO ?_ | refine ueq hO ?_ | refine une hO ?_ | refine ucv hO ?_ | refine uia hO ?_ | refine usv hO ?_ | refine ubu hO ?_ | refine uap hO ?_ | refine ubs hO ?_ | refine umm hO ?_ | refine upq hO ?_ | refine unq hO ?_ | refine uln hO ?_)))
  all_goals (conv => lhs; whnf)
  all_goals first
    | exact hf _ _ (by omega) (by omega) kQ
end Go.Proofs.YtjoakhpdajlhiaaDoor.V2.S
namespace Go.Proofs.YtjoakhpdajlhiaaDoor.V2.S
open Go
set_option maxRecDepth 100000
set_option maxHeartbeats 4000000
set_option linter.unusedVariables false
attribute [local irreducible] fN fO nM gM pM Phi.fn Phi.yl Phi.up mp bl bpart bapp top1 pack
theorem bxP {O : Oz} (hO : O = zO) {P : FR} {k : KV} {n : Nat} {m : T FObj} {b o : Nat} {e : TypeId} (hn : n < 1000000) (h : k (.p n 0) ⟨n + 1, mp m n (.cells [.p b o] e .exact)⟩ = P) : O.bx e (.p b o) ⟨n, m⟩ k = P := by
  subst hO
  show (nM ⟨n, m⟩ (.cells [.p b o] e .exact) fun b σ => k (.p b 0) σ) = P
  rw [nM_mp hn]; exact h
def SameS (H : HF) : Prop := ∀ {tb mb rb nn n : Nat} {v : FV} {t : Tr} {m : T FObj}, TreeAt m tb mb 65 t → RTree m rb nn v (srt t) → WfT t → tb < n → mb < n → rb < n → nn ≤ n → Ret 3200 H [.p tb 0, .p rb 0] n m (.b true)
theorem same_s {O : Oz} (hO : O = zO) (Φ : Phi) (HU : UsedS (Phi.fn Φ 52)) (HUR : UsedR (Phi.fn Φ 53)) (HCw : CwdS (Phi.fn Φ 11)) (HB : BytesS (Phi.fn Φ 10)) (HBR : BytesR (Phi.fn Φ 51)) (H : ∀ y Y, WalkN (Phi.fn (Phi.up Φ y Y) 9) y Y) : SameS (p23 O Φ) := fun {tb mb rb nn n v t m} hT hR hW htb hmb hrb hnn k P hn hf => by
  have hT1 := hT.s
  have hT2 := hT.m
  have hRS : Am m rb (.cells [v, .s (pack t.cwd)] 91 .exact) := hR.s
  have hRw := hR.r
  have hwl := hW.len
  have hsz := hW.sz
  have htl : (treeB t).length ≤ 34000 := by rw [← byI_all]; exact byI_len hW _
  repeat' ((conv => lhs; whnf); first | ((with_reducible refine alO hO (by omega) ?_)) | ((with_reducible refine atBx ?_); refine bxP hO (by omega) ?_))
  all_goals (conv => lhs; whnf)
  refine atFn ?_
  refine HU (t := t) ⟨(by (repeat (first | assumption | exact am_same (by omega) | apply am_ne (by omega) (by omega) | apply kp_am (by assumption) (by omega) | apply Kq.am (by assumption) (by omega) (by first | exact nm0 | exact nm1 (by omega) | exact nm2 (by omega) (by omega)))); fail_if_success show _), (by (repeat (first | assumption | exact am_same (by omega) | apply am_ne (by omega) (by omega) | apply kp_am (by assumption) (by omega) | apply Kq.am (by assumption) (by omega) (by first | exact nm0 | exact nm1 (by omega) | exact nm2 (by omega) (by omega)))); fail_if_success show _)⟩ (by omega) (by omega) hW _ _ (by omega) (fun n1 m1 h1 g1 k1 => ?_)
  have aT : Am m1 tb (.cells [.m mb, .s (pack t.cwd)] 65 .exact) := (by (repeat (first | assumption | exact am_same (by omega) | apply am_ne (by omega) (by omega) | apply kp_am (by assumption) (by omega) | apply Kq.am (by assumption) (by omega) (by first | exact nm0 | exact nm1 (by omega) | exact nm2 (by omega) (by omega)))); fail_if_success show _)
  have aM : Am m1 mb (.map (t.L.map fun a => (.s (pack (En.path a)), entV a))) := (by (repeat (first | assumption | exact am_same (by omega) | apply am_ne (by omega) (by omega) | apply kp_am (by assumption) (by omega) | apply Kq.am (by assumption) (by omega) (by first | exact nm0 | exact nm1 (by omega) | exact nm2 (by omega) (by omega)))); fail_if_success show _)
  have aS : Am m1 rb (.cells [v, .s (pack t.cwd)] 91 .exact) := (by (repeat (first | assumption | exact am_same (by omega) | apply am_ne (by omega) (by omega) | apply kp_am (by assumption) (by omega) | apply Kq.am (by assumption) (by omega) (by first | exact nm0 | exact nm1 (by omega) | exact nm2 (by omega) (by omega)))); fail_if_success show _)
  have a0 : Am m1 n (.cells [.p rb 0] 48 .exact) := (by (repeat (first | assumption | exact am_same (by omega) | apply am_ne (by omega) (by omega) | apply kp_am (by assumption) (by omega) | apply Kq.am (by assumption) (by omega) (by first | exact nm0 | exact nm1 (by omega) | exact nm2 (by omega) (by omega)))); fail_if_success show _)
  have a1 : Am m1 (n + 1) (.cells [.b false] 4 .exact) := (by (repeat (first | assumption | exact am_same (by omega) | apply am_ne (by omega) (by omega) | apply kp_am (by assumption) (by omega) | apply Kq.am (by assumption) (by omega) (by first | exact nm0 | exact nm1 (by omega) | exact nm2 (by omega) (by omega)))); fail_if_success show _)
  have kk : Kp n m m1 := kQ
  have hRow : RowE m1 nn v (srt t).L := hRw.kp kk hnn
  clear hT1 hT2 hRS hRw k1
  repeat' ((conv => lhs; whnf); first | ((with_reducible refine atLd ?_); refine ldC hO aQ (by rfl) ?_))
  all_goals (conv => lhs; whnf)
  refine atFn ?_
  refine HUR (t := srt t) ⟨aS, hRow⟩ (by rw [srt_len]; omega) (by rw [srt_sizes]; omega) _ _ ?_
  rw [srt_len, srt_sizes]
  repeat' ((conv => lhs; whnf); first | ((with_reducible refine fa0 hO ?_)) | ((with_reducible refine atLd ?_); refine ldC hO aQ (by rfl) ?_) | ((with_reducible refine neF hO (by omega) ?_)))
  all_goals (conv => lhs; whnf)
  refine atFn ?_
  refine HCw (t := t) ⟨aT, aM⟩ (by omega) (by omega) _ _ ?_
  repeat' ((conv => lhs; whnf); first | ((with_reducible refine atLd ?_); refine ldC hO aQ (by rfl) ?_) | ((with_reducible refine neSF hO (by first | rfl | assumption) ?_)) | ((with_reducible refine rcE hO (by kernel_rfl) rfl ?_)))
  all_goals (conv => lhs; whnf)
  refine atFn ?_
  refine HB (t := t) ⟨aT, aM⟩ (by omega) (by omega) hW _ _ (by omega) (fun v2 n2 m2 h2 g2 k2 q2 => ?_)
  obtain ⟨b2, rfl, b21, b22, aB⟩ := q2
  replace kk := kk.trans (Kq.low (n := n) k2 (by omega) (fun x hx => by first | exact absurd hx List.not_mem_nil | (rw [List.mem_singleton.1 hx]; omega))) (Nat.le_refl n)
  replace aT := k2 _ _ (by omega) nm0 aT
  replace aM := k2 _ _ (by omega) nm0 aM
  replace aS := k2 _ _ (by omega) nm0 aS
  replace a0 := k2 _ _ (by omega) nm0 a0
  replace a1 := k2 _ _ (by omega) nm0 a1
  replace hRow := hRow.kp (Kq.kp k2) (by omega)
  repeat' ((conv => lhs; whnf); first | ((refine bSP hO aB (by omega) ?_; rw [tk0 rfl])) | ((with_reducible refine atLd ?_); refine ldC hO aQ (by rfl) ?_) | ((with_reducible refine rcE hO (by kernel_rfl) rfl ?_)))
  all_goals (conv => lhs; whnf)
  refine atFn ?_
  refine HBR (t := srt t) ⟨aS, hRow⟩ (srt_wf hW) (srt_id hW) (by omega) (by omega) _ _ (by omega) (fun v3 n3 m3 h3 g3 k3 q3 => ?_)
  rw [srt_tree hW] at q3
  obtain ⟨b3, rfl, b31, b32, aC⟩ := q3
  replace kk := kk.trans (Kq.low (n := n) k3 (by omega) (fun x hx => by first | exact absurd hx List.not_mem_nil | (rw [List.mem_singleton.1 hx]; omega))) (Nat.le_refl n)
  replace aT := k3 _ _ (by omega) nm0 aT
  replace aM := k3 _ _ (by omega) nm0 aM
  replace aS := k3 _ _ (by omega) nm0 aS
  replace a0 := k3 _ _ (by omega) nm0 a0
  replace a1 := k3 _ _ (by omega) nm0 a1
  replace aB := k3 _ _ (by omega) nm0 aB
  replace hRow := hRow.kp (Kq.kp k3) (by omega)
  repeat' ((conv => lhs; whnf); first | ((refine bSP hO aB (by omega) ?_; rw [tk0 rfl])) | ((refine bSP hO aC (by omega) ?_; rw [tk0 rfl])) | ((with_reducible refine neSF hO (by first | rfl | assumption) ?_)) | ((with_reducible refine atSt ?_); refine ust hO ?_) | ((with_reducible refine alO hO (by omega) ?_)) | ((with_reducible refine rcE hO (by kernel_rfl) rfl ?_)) | (with_reducible refine (nM_mp (by omega)).trans ?_) | (with_reducible refine pM_mp.trans ?_) | (refine gM_amP aQ ?_))
  all_goals (conv => lhs; whnf)
  refine atFn ?_
  refine H _ _ (t := t) 2 [n3] (fun N i n1 m1 => Am m1 n3 (.ints .i64 [Int.ofNat i] 3 .exact)) ⟨(by (repeat (first | assumption | exact am_same (by omega) | apply am_ne (by omega) (by omega) | apply kp_am (by assumption) (by omega) | apply Kq.am (by assumption) (by omega) (by first | exact nm0 | exact nm1 (by omega) | exact nm2 (by omega) (by omega)))); fail_if_success show _), (by (repeat (first | assumption | exact am_same (by omega) | apply am_ne (by omega) (by omega) | apply kp_am (by assumption) (by omega) | apply Kq.am (by assumption) (by omega) (by first | exact nm0 | exact nm1 (by omega) | exact nm2 (by omega) (by omega)))); fail_if_success show _)⟩ (by omega) (by omega) hW (fun x hx => by first | exact absurd hx List.not_mem_nil | (rw [List.mem_singleton.1 hx]; omega)) (fun x hx => by first | exact absurd hx List.not_mem_nil | (rw [List.mem_singleton.1 hx]; omega)) (fun x hx => by first | exact absurd hx List.not_mem_nil | (rw [List.mem_singleton.1 hx]; omega)) (fun N i e n5 m5 k5 P5 he hN hn5 hc5 hq5 hI5 hk5 => ?_) _ _ (by omega) (fun N m4 h4 g4 k4 => (by (repeat (first | assumption | exact am_same (by omega) | apply am_ne (by omega) (by omega) | apply kp_am (by assumption) (by omega) | apply Kq.am (by assumption) (by omega) (by first | exact nm0 | exact nm1 (by omega) | exact nm2 (by omega) (by omega)))); fail_if_success show _)) (fun N n4 m4 h4 g4 l4 k4 hI4 => ?_)
  · have b0 : Am m5 n (.cells [.p rb 0] 48 .exact) := (by (repeat (first | assumption | exact am_same (by omega) | apply am_ne (by omega) (by omega) | apply kp_am (by assumption) (by omega) | apply Kq.am (by assumption) (by omega) (by first | exact nm0 | exact nm1 (by omega) | exact nm2 (by omega) (by omega)))); fail_if_success show _)
    have bS : Am m5 rb (.cells [v, .s (pack t.cwd)] 91 .exact) := (by (repeat (first | assumption | exact am_same (by omega) | apply am_ne (by omega) (by omega) | apply kp_am (by assumption) (by omega) | apply Kq.am (by assumption) (by omega) (by first | exact nm0 | exact nm1 (by omega) | exact nm2 (by omega) (by omega)))); fail_if_success show _)
    have hRow5 : RowE m5 nn v (srt t).L := (hRow.kp (k := n3) kQ (by omega)).kq hq5 (by omega) (fun x hx => by rw [List.mem_singleton.1 hx]; omega)
    have hy : (srt t).L[i]? = some e := he
    have hil := (List.getElem?_eq_some_iff.1 hy).1
    have hsl := srt_len t
    rcases hRow5 with ⟨h00, rfl⟩ | ⟨b, Kb, xb, eb, tlb, rfl, hbn, hbm⟩
    · rw [h00] at hil; exact absurd hil (Nat.not_lt_zero _)
    repeat' ((conv => lhs; whnf); first | ((refine lnEn hO (by (repeat (first | assumption | exact am_same (by omega) | apply am_ne (by omega) (by omega) | apply kp_am (by assumption) (by omega) | apply Kq.am (by assumption) (by omega) (by first | exact nm0 | exact nm1 (by omega) | exact nm2 (by omega) (by omega)))); fail_if_success show _) hy ?_)) | ((refine lnE1 (a := e) hO (by (repeat (first | assumption | exact am_same (by omega) | apply am_ne (by omega) (by omega) | apply kp_am (by assumption) (by omega) | apply Kq.am (by assumption) (by omega) (by first | exact nm0 | exact nm1 (by omega) | exact nm2 (by omega) (by omega)))); fail_if_success show _) ?_)) | ((refine pqSame hO ?_)) | ((with_reducible refine fa0 hO ?_)) | ((with_reducible refine atLd ?_); first | refine ldC hO aQ (by rfl) ?_ | refine ldI hO aQ (by rfl) ?_) | ((with_reducible refine lvS hO ?_)) | ((with_reducible refine geF hO (by omega) ?_)) | ((with_reducible refine adI hO (by omega) ?_)) | ((with_reducible refine ix0 hO (by omega) ?_)) | ((with_reducible refine atSt ?_); refine ust hO ?_) | ((with_reducible refine alO hO (by omega) ?_)) | (with_reducible refine (fN_eq _ _).trans ?_) | (with_reducible refine pM_mp.trans ?_) | (refine gM_amP aQ ?_))
    all_goals (conv => lhs; whnf)
    all_goals first
      | exact hk5 _ _ (by omega) (by omega) qQ (by (repeat (first | assumption | exact am_same (by omega) | apply am_ne (by omega) (by omega) | apply kp_am (by assumption) (by omega) | apply Kq.am (by assumption) (by omega) (by first | exact nm0 | exact nm1 (by omega) | exact nm2 (by omega) (by omega)))); fail_if_success show _)
  · have b0 : Am m4 n (.cells [.p rb 0] 48 .exact) := (by (repeat (first | assumption | exact am_same (by omega) | apply am_ne (by omega) (by omega) | apply kp_am (by assumption) (by omega) | apply Kq.am (by assumption) (by omega) (by first | exact nm0 | exact nm1 (by omega) | exact nm2 (by omega) (by omega)))); fail_if_success show _)
    have b1 : Am m4 (n + 1) (.cells [.b false] 4 .exact) := (by (repeat (first | assumption | exact am_same (by omega) | apply am_ne (by omega) (by omega) | apply kp_am (by assumption) (by omega) | apply Kq.am (by assumption) (by omega) (by first | exact nm0 | exact nm1 (by omega) | exact nm2 (by omega) (by omega)))); fail_if_success show _)
    have bS : Am m4 rb (.cells [v, .s (pack t.cwd)] 91 .exact) := (by (repeat (first | assumption | exact am_same (by omega) | apply am_ne (by omega) (by omega) | apply kp_am (by assumption) (by omega) | apply Kq.am (by assumption) (by omega) (by first | exact nm0 | exact nm1 (by omega) | exact nm2 (by omega) (by omega)))); fail_if_success show _)
    have hRow5 : RowE m4 nn v (srt t).L := (hRow.kp (k := n3) kQ (by omega)).kq k4 (by omega) (fun x hx => by rw [List.mem_singleton.1 hx]; omega)
    have k4l := Kq.low (n := n) k4 (by omega) (fun x hx => by rw [List.mem_singleton.1 hx]; omega)
    have hsl := srt_len t
    repeat' ((conv => lhs; whnf); first | ((refine lvE hO hRow5 ?_)) | ((with_reducible refine fa0 hO ?_)) | ((with_reducible refine atLd ?_); first | refine ldC hO aQ (by rfl) ?_ | refine ldI hO aQ (by rfl) ?_) | ((with_reducible refine eqT hO (by omega) ?_)) | ((with_reducible refine atSt ?_); refine stC hO aQ (by kernel_rfl) (fun _ _ _ => rfl) (fun _ => rfl) ?_) | (refine gM_amP aQ ?_))
    all_goals (conv => lhs; whnf)
    all_goals first
      | exact hf _ _ (by omega) (by omega) kQ
end Go.Proofs.YtjoakhpdajlhiaaDoor.V2.S
namespace Go.Proofs.YtjoakhpdajlhiaaDoor.V2.S
open Go
set_option maxRecDepth 100000
set_option maxHeartbeats 4000000
set_option linter.unusedVariables false
attribute [local irreducible] fN fO nM gM pM Phi.fn mp bl bpart bapp top1 pack
def RLawS (H : HF) : Prop := ∀ {n : Nat} {m : T FObj} {Bb N0 : Nat} {x : Bool} {bs : Bs} {e : TypeId} {tl : Tl}, Am m Bb (.bs (pack bs) e tl) → Bb < n → bs.length = min N0 3000 → Ret 720000 H [.sl Bb 0 N0 N0 x 1] n m (.b true)
def RLawN (H : HF) : Prop := ∀ (n : Nat) (m : T FObj), Ret 720000 H [.o .sl] n m (.b true)
theorem rlaw_s {O : Oz} (hO : O = zO) (Φ : Phi) (HPa : ParseS (Phi.fn Φ 21)) (HPr : ParseR (Phi.fn Φ 22)) (HS : SameS (Phi.fn Φ 23)) (HT : TellsS (Phi.fn Φ 18)) : RLawS (p4 O Φ) := fun {n m Bb N0 x bs e tl} ha hBn hbl k P hn hf => by
  repeat' ((conv => lhs; whnf); first | ((with_reducible refine svH hO (by omega) ?_; rw [← hbl])) | ((with_reducible refine lvS hO ?_)) | ((with_reducible refine mnI hO ?_)))
  all_goals (conv => lhs; whnf)
  refine atFn ?_
  refine HPa (l := bs) ha hBn (by omega) (by omega) _ _ (by omega) (fun c n1 m1 hp hcc h1 g1 k1 => ?_) (fun t tb mb n1 m1 hp h1 g1 k1 htm y1 y2 y3 y4 hT => ?_)
  · have aB := k1 _ _ hBn ha
    skip
    all_goals (conv => lhs; whnf)
    refine atFn ?_
    refine HPr (l := bs) aB (by omega) (by omega) (by omega) _ _ (by omega) (fun c2 n2 m2 hp2 hcc2 h2 g2 k2 => ?_) (fun t rb nn w n2 m2 hp2 _ _ _ _ _ _ _ => absurd (hp.symm.trans hp2) (by simp))
    obtain rfl : c = c2 := congrArg Prod.snd (hp.symm.trans hp2)
    repeat' ((conv => lhs; whnf); first | ((with_reducible refine eqT hO (by omega) ?_)))
    all_goals (conv => lhs; whnf)
    refine atFn ?_
    refine HT _ _ _ _ (by omega) (fun n3 m3 h3 g3 k3 => ?_)
    skip
    all_goals (conv => lhs; whnf)
    exact hf _ _ (by omega) (by omega) ((k1.trans k2 (by omega)).trans k3 (by omega))
  · obtain ⟨hW, hOk, htb, _⟩ := parseG_ok hp
    have aB := k1 _ _ hBn ha
    skip
    all_goals (conv => lhs; whnf)
    refine atFn ?_
    refine HPr (l := bs) aB (by omega) (by omega) (by omega) _ _ (by omega) (fun c2 n2 m2 hp2 _ _ _ _ => absurd (hp.symm.trans hp2) (by simp)) (fun t2 rb nn w n2 m2 hp2 h2 g2 k2 z1 z2 z3 hR => ?_)
    obtain rfl : t = t2 := Option.some.inj (congrArg Prod.fst (hp.symm.trans hp2))
    repeat' ((conv => lhs; whnf); first | ((with_reducible refine eqT hO (by omega) ?_)))
    all_goals (conv => lhs; whnf)
    refine atFn ?_
    refine HS (t := t) ⟨k2 _ _ (by omega) hT.s, k2 _ _ (by omega) hT.m⟩ hR hW (by omega) (by omega) (by omega) z3 _ _ (by omega) (fun n3 m3 h3 g3 k3 => ?_)
    skip
    all_goals (conv => lhs; whnf)
    refine atFn ?_
    refine HT _ _ _ _ (by omega) (fun n4 m4 h4 g4 k4 => ?_)
    skip
    all_goals (conv => lhs; whnf)
    exact hf _ _ (by omega) (by omega) (((k1.trans k2 (by omega)).trans k3 (by omega)).trans k4 (by omega))
theorem rlaw_n {O : Oz} (hO : O = zO) (Φ : Phi) (HPn : ParseN (Phi.fn Φ 21)) (HRn : ParseRN (Phi.fn Φ 22)) (HT : TellsS (Phi.fn Φ 18)) : RLawN (p4 O Φ) := fun n m k P hn hf => by
  repeat' ((conv => lhs; whnf); first | ((refine svN hO ?_)) | ((with_reducible refine lvN hO ?_)) | ((with_reducible refine mnI hO ?_)))
  all_goals (conv => lhs; whnf)
  refine atFn ?_
  refine HPn _ _ _ _ (by omega) (fun n1 m1 h1 g1 k1 => ?_)
  skip
  all_goals (conv => lhs; whnf)
  refine atFn ?_
  refine HRn _ _ _ _ (by omega) (fun n2 m2 h2 g2 k2 => ?_)
  repeat' ((conv => lhs; whnf); first | ((with_reducible refine eqT hO (by omega) ?_)))
  all_goals (conv => lhs; whnf)
  refine atFn ?_
  refine HT _ _ _ _ (by omega) (fun n3 m3 h3 g3 k3 => ?_)
  skip
  all_goals (conv => lhs; whnf)
  exact hf _ _ (by omega) (by omega) ((k1.trans k2 (by omega)).trans k3 (by omega))
end Go.Proofs.YtjoakhpdajlhiaaDoor.V2.S
namespace Go.Proofs.YtjoakhpdajlhiaaDoor.V2.S
open Go
set_option linter.unusedVariables false
set_option maxRecDepth 100000
noncomputable def qeL : List Qe := [⟨4, eZ Tryd.f4, p4 zO⟩, ⟨9, eZ Tryd.f9, p9 zO⟩, ⟨10, eZ Tryd.f10, p10 zO⟩, ⟨11, eZ Tryd.f11, p11 zO⟩, ⟨12, eZ Tryd.f12, p12 zO⟩, ⟨13, eZ Tryd.f13, p13 zO⟩, ⟨14, eZ Tryd.f14, p14 zO⟩, ⟨16, eZ Tryd.f16, p16 zO⟩, ⟨17, eZ Tryd.f17, p17 zO⟩, ⟨18, eZ Tryd.f18, p18 zO⟩, ⟨20, eZ Tryd.f20, p20 zO⟩, ⟨21, eZ Tryd.f21, p21 zO⟩, ⟨22, eZ Tryd.f22, p22 zO⟩, ⟨23, eZ Tryd.f23, p23 zO⟩, ⟨26, eZ Tryd.f26, p26 zO⟩, ⟨28, eZ Tryd.f28, p28 zO⟩, ⟨30, eZ Tryd.f30, p30 zO⟩, ⟨31, eZ Tryd.f31, p31 zO⟩, ⟨32, eZ Tryd.f32, p32 zO⟩, ⟨33, eZ Tryd.f33, p33 zO⟩, ⟨34, eZ Tryd.f34, p34 zO⟩, ⟨35, eZ Tryd.f35, p35 zO⟩, ⟨36, eZ Tryd.f36, p36 zO⟩, ⟨37, eZ Tryd.f37, p37 zO⟩, ⟨38, eZ Tryd.f38, p38 zO⟩, ⟨39, eZ Tryd.f39, p39 zO⟩, ⟨41, eZ Tryd.f41, p41 zO⟩, ⟨42, eZ Tryd.f42, p42 zO⟩, ⟨43, eZ Tryd.f43, p43 zO⟩, ⟨44, eZ Tryd.f44, p44 zO⟩, ⟨45, eZ Tryd.f45, p45 zO⟩, ⟨46, eZ Tryd.f46, p46 zO⟩, ⟨47, eZ Tryd.f47, p47 zO⟩, ⟨48, eZ Tryd.f48, p48 zO⟩, ⟨49, eZ Tryd.f49, p49 zO⟩, ⟨50, eZ Tryd.f50, p50 zO⟩, ⟨51, eZ Tryd.f51, p51 zO⟩, ⟨52, eZ Tryd.f52, p52 zO⟩, ⟨53, eZ Tryd.f53, p53 zO⟩, ⟨66, eZ Tryd.f66, p66 zO⟩, ⟨67, eZ Tryd.f67, p67 zO⟩, ⟨68, eZ Tryd.f68, p68 zO⟩, ⟨69, eZ Tryd.f69, p69 zO⟩, ⟨70, eZ Tryd.f70, p70 zO⟩, ⟨71, eZ Tryd.f71, p71 zO⟩, ⟨72, eZ Tryd.f72, p72 zO⟩, ⟨73, eZ Tryd.f73, p73 zO⟩, ⟨74, eZ Tryd.f74, p74 zO⟩, ⟨75, eZ Tryd.f75, p75 zO⟩, ⟨76, eZ Tryd.f76, p76 zO⟩, ⟨77, eZ Tryd.f77, p77 zO⟩, ⟨90, eZ Tryd.f90, p90 zO⟩, ⟨92, eZ Tryd.f92, p92 zO⟩, ⟨111, eZ Tryd.f111, p111 zO⟩]
theorem qeL_ok : ∀ p ∈ qeL, QeOk p := by
  unfold qeL
  exact List.forall_mem_cons.2 ⟨k4, List.forall_mem_cons.2 ⟨k9, List.forall_mem_cons.2 ⟨k10, List.forall_mem_cons.2 ⟨k11, List.forall_mem_cons.2 ⟨k12, List.forall_mem_cons.2 ⟨k13, List.forall_mem_cons.2 ⟨k14, List.forall_mem_cons.2 ⟨k16, List.forall_mem_cons.2 ⟨k17, List.forall_mem_cons.2 ⟨k18, List.forall_mem_cons.2 ⟨k20, List.forall_mem_cons.2 ⟨k21, List.forall_mem_cons.2 ⟨k22, List.forall_mem_cons.2 ⟨k23, List.forall_mem_cons.2 ⟨k26, List.forall_mem_cons.2 ⟨k28, List.forall_mem_cons.2 ⟨k30, List.forall_mem_cons.2 ⟨k31, List.forall_mem_cons.2 ⟨k32, List.forall_mem_cons.2 ⟨k33, List.forall_mem_cons.2 ⟨k34, List.forall_mem_cons.2 ⟨k35, List.forall_mem_cons.2 ⟨k36, List.forall_mem_cons.2 ⟨k37, List.forall_mem_cons.2 ⟨k38, List.forall_mem_cons.2 ⟨k39, List.forall_mem_cons.2 ⟨k41, List.forall_mem_cons.2 ⟨k42, List.forall_mem_cons.2 ⟨k43, List.forall_mem_cons.2 ⟨k44, List.forall_mem_cons.2 ⟨k45, List.forall_mem_cons.2 ⟨k46, List.forall_mem_cons.2 ⟨k47, List.forall_mem_cons.2 ⟨k48, List.forall_mem_cons.2 ⟨k49, List.forall_mem_cons.2 ⟨k50, List.forall_mem_cons.2 ⟨k51, List.forall_mem_cons.2 ⟨k52, List.forall_mem_cons.2 ⟨k53, List.forall_mem_cons.2 ⟨k66, List.forall_mem_cons.2 ⟨k67, List.forall_mem_cons.2 ⟨k68, List.forall_mem_cons.2 ⟨k69, List.forall_mem_cons.2 ⟨k70, List.forall_mem_cons.2 ⟨k71, List.forall_mem_cons.2 ⟨k72, List.forall_mem_cons.2 ⟨k73, List.forall_mem_cons.2 ⟨k74, List.forall_mem_cons.2 ⟨k75, List.forall_mem_cons.2 ⟨k76, List.forall_mem_cons.2 ⟨k77, List.forall_mem_cons.2 ⟨k90, List.forall_mem_cons.2 ⟨k92, List.forall_mem_cons.2 ⟨k111, fun p hp => absurd hp List.not_mem_nil⟩⟩⟩⟩⟩⟩⟩⟩⟩⟩⟩⟩⟩⟩⟩⟩⟩⟩⟩⟩⟩⟩⟩⟩⟩⟩⟩⟩⟩⟩⟩⟩⟩⟩⟩⟩⟩⟩⟩⟩⟩⟩⟩⟩⟩⟩⟩⟩⟩⟩⟩⟩⟩⟩
noncomputable def tEL : T Ent := tabE qeL
noncomputable def tQL : T (Phi → HF) := tabP qeL
theorem tQL_ok : TabQ 1000000 tEL tQL := ⟨fun f => (tabE_get qeL_ok f).2, fun f x hx => by
  obtain ⟨q, h1, h2, _⟩ := (tabE_get qeL_ok f).1 x hx
  exact ⟨q, h1, h2⟩⟩
theorem tEL_ok : TabOk Tryd.prog 3 (fun _ => false) tEL := fun f x h => by
  obtain ⟨_, _, _, h3⟩ := (tabE_get qeL_ok f).1 x h
  exact h3
def noF (_ : FuncId) (_ : List AV) (σ : AH) : Out := bad σ
theorem noF_ok {Y : List Yl} : FnOk Tryd.prog 3 noF Y := fun _ _ _ h => by cases h
noncomputable def gL : FuncId → List AV → AH → Out := srF (ciF noF)
theorem gL_ok : FnOk Tryd.prog 3 gL [] := srF_ok (ciF_ok noF_ok)
theorem gamL_ok : GamOk Tryd.prog 3 (Gam.grow std 1000000 tEL Sp.none (.of gL) 41) [] := (grow_ok mixed tEL_ok Sp.none_ok (fun f h => by cases h) 41 (.of gL_ok) hpu0').1
noncomputable def bQL : FuncId → HF := fun f l σ k => Bool.rec (Bool.rec (Bool.rec .bad (ixQ l σ k) (Nat.beq f 89)) (ctQ l σ k) (Nat.beq f 88)) (srQ l σ k) (Nat.beq f 29)
theorem bQL_ok (f : FuncId) : HOk (bQL f) ((Gam.of gL).fn f) := fun l σ k => by
  show Sm (Bool.rec (Bool.rec (Bool.rec .bad (ixQ l σ k) (Nat.beq f 89)) (ctQ l σ k) (Nat.beq f 88)) (srQ l σ k) (Nat.beq f 29)) k (gL f (αL l) (αH σ))
  have e : gL f (αL l) (αH σ) = bif Nat.beq f 29 then srtA (αL l) (αH σ) else bif Nat.beq f 88 then ctA (αL l) (αH σ) else bif Nat.beq f 89 then ixA (αL l) (αH σ) else bad (αH σ) := by unfold gL srF ciF noF; rfl
  rw [e]
  cases Nat.beq f 29 with
  | true => exact srQ_sm l σ k
  | false =>
  cases Nat.beq f 88 with
  | true => exact ctQ_sm l σ k
  | false =>
  cases Nat.beq f 89 with
  | true => exact ixQ_sm l σ k
  | false =>
  exact Sm.bad
noncomputable def y0L : Nat → HF := fun _ _ _ _ => .bad
noncomputable def ΦG (n : Nat) (y : Nat → HF) : Phi := PhiG tQL n bQL y
theorem ΦG_at (n : Nat) (y : Nat → HF) {f : Nat} {q : Phi → HF} (h : tQL.get f = some q) : Phi.fn (ΦG (n + 1) y) f = q (ΦG n y) := by
  funext l σ k
  show tg tQL f (bQL f l σ k) (fun q => q (PhiG tQL n bQL y) l σ k) = _
  rw [tg_eq, h]; rfl
theorem ΦG_no (n : Nat) (y : Nat → HF) {f : Nat} (h : tQL.get f = none) : Phi.fn (ΦG (n + 1) y) f = bQL f := by
  funext l σ k
  show tg tQL f (bQL f l σ k) (fun q => q (PhiG tQL n bQL y) l σ k) = _
  rw [tg_eq, h]
theorem ΦG_up (n : Nat) (y : Nat → HF) (j : Nat) (Y : HF) : Phi.up (ΦG (n + 1) y) j Y = ΦG n fun i => Bool.rec (y i) Y (Nat.beq i j) := rfl
theorem ΦG_yl (n : Nat) (y : Nat → HF) : Phi.yl (ΦG n y) = y := by cases n <;> rfl
theorem at4 (n : Nat) (y : Nat → HF) : Phi.fn (ΦG (n + 1) y) 4 = p4 zO (ΦG n y) := ΦG_at n y (q := p4 zO) (by kernel_rfl)
theorem at9 (n : Nat) (y : Nat → HF) : Phi.fn (ΦG (n + 1) y) 9 = p9 zO (ΦG n y) := ΦG_at n y (q := p9 zO) (by kernel_rfl)
theorem at10 (n : Nat) (y : Nat → HF) : Phi.fn (ΦG (n + 1) y) 10 = p10 zO (ΦG n y) := ΦG_at n y (q := p10 zO) (by kernel_rfl)
theorem at11 (n : Nat) (y : Nat → HF) : Phi.fn (ΦG (n + 1) y) 11 = p11 zO (ΦG n y) := ΦG_at n y (q := p11 zO) (by kernel_rfl)
theorem at12 (n : Nat) (y : Nat → HF) : Phi.fn (ΦG (n + 1) y) 12 = p12 zO (ΦG n y) := ΦG_at n y (q := p12 zO) (by kernel_rfl)
theorem at13 (n : Nat) (y : Nat → HF) : Phi.fn (ΦG (n + 1) y) 13 = p13 zO (ΦG n y) := ΦG_at n y (q := p13 zO) (by kernel_rfl)
theorem at14 (n : Nat) (y : Nat → HF) : Phi.fn (ΦG (n + 1) y) 14 = p14 zO (ΦG n y) := ΦG_at n y (q := p14 zO) (by kernel_rfl)
theorem at16 (n : Nat) (y : Nat → HF) : Phi.fn (ΦG (n + 1) y) 16 = p16 zO (ΦG n y) := ΦG_at n y (q := p16 zO) (by kernel_rfl)
theorem at17 (n : Nat) (y : Nat → HF) : Phi.fn (ΦG (n + 1) y) 17 = p17 zO (ΦG n y) := ΦG_at n y (q := p17 zO) (by kernel_rfl)
theorem at18 (n : Nat) (y : Nat → HF) : Phi.fn (ΦG (n + 1) y) 18 = p18 zO (ΦG n y) := ΦG_at n y (q := p18 zO) (by kernel_rfl)
theorem at20 (n : Nat) (y : Nat → HF) : Phi.fn (ΦG (n + 1) y) 20 = p20 zO (ΦG n y) := ΦG_at n y (q := p20 zO) (by kernel_rfl)
theorem at21 (n : Nat) (y : Nat → HF) : Phi.fn (ΦG (n + 1) y) 21 = p21 zO (ΦG n y) := ΦG_at n y (q := p21 zO) (by kernel_rfl)
theorem at22 (n : Nat) (y : Nat → HF) : Phi.fn (ΦG (n + 1) y) 22 = p22 zO (ΦG n y) := ΦG_at n y (q := p22 zO) (by kernel_rfl)
theorem at23 (n : Nat) (y : Nat → HF) : Phi.fn (ΦG (n + 1) y) 23 = p23 zO (ΦG n y) := ΦG_at n y (q := p23 zO) (by kernel_rfl)
theorem at26 (n : Nat) (y : Nat → HF) : Phi.fn (ΦG (n + 1) y) 26 = p26 zO (ΦG n y) := ΦG_at n y (q := p26 zO) (by kernel_rfl)
theorem at28 (n : Nat) (y : Nat → HF) : Phi.fn (ΦG (n + 1) y) 28 = p28 zO (ΦG n y) := ΦG_at n y (q := p28 zO) (by kernel_rfl)
theorem at30 (n : Nat) (y : Nat → HF) : Phi.fn (ΦG (n + 1) y) 30 = p30 zO (ΦG n y) := ΦG_at n y (q := p30 zO) (by kernel_rfl)
theorem at31 (n : Nat) (y : Nat → HF) : Phi.fn (ΦG (n + 1) y) 31 = p31 zO (ΦG n y) := ΦG_at n y (q := p31 zO) (by kernel_rfl)
theorem at32 (n : Nat) (y : Nat → HF) : Phi.fn (ΦG (n + 1) y) 32 = p32 zO (ΦG n y) := ΦG_at n y (q := p32 zO) (by kernel_rfl)
theorem at33 (n : Nat) (y : Nat → HF) : Phi.fn (ΦG (n + 1) y) 33 = p33 zO (ΦG n y) := ΦG_at n y (q := p33 zO) (by kernel_rfl)
theorem at34 (n : Nat) (y : Nat → HF) : Phi.fn (ΦG (n + 1) y) 34 = p34 zO (ΦG n y) := ΦG_at n y (q := p34 zO) (by kernel_rfl)
theorem at35 (n : Nat) (y : Nat → HF) : Phi.fn (ΦG (n + 1) y) 35 = p35 zO (ΦG n y) := ΦG_at n y (q := p35 zO) (by kernel_rfl)
theorem at36 (n : Nat) (y : Nat → HF) : Phi.fn (ΦG (n + 1) y) 36 = p36 zO (ΦG n y) := ΦG_at n y (q := p36 zO) (by kernel_rfl)
theorem at37 (n : Nat) (y : Nat → HF) : Phi.fn (ΦG (n + 1) y) 37 = p37 zO (ΦG n y) := ΦG_at n y (q := p37 zO) (by kernel_rfl)
theorem at38 (n : Nat) (y : Nat → HF) : Phi.fn (ΦG (n + 1) y) 38 = p38 zO (ΦG n y) := ΦG_at n y (q := p38 zO) (by kernel_rfl)
theorem at39 (n : Nat) (y : Nat → HF) : Phi.fn (ΦG (n + 1) y) 39 = p39 zO (ΦG n y) := ΦG_at n y (q := p39 zO) (by kernel_rfl)
theorem at41 (n : Nat) (y : Nat → HF) : Phi.fn (ΦG (n + 1) y) 41 = p41 zO (ΦG n y) := ΦG_at n y (q := p41 zO) (by kernel_rfl)
theorem at42 (n : Nat) (y : Nat → HF) : Phi.fn (ΦG (n + 1) y) 42 = p42 zO (ΦG n y) := ΦG_at n y (q := p42 zO) (by kernel_rfl)
theorem at43 (n : Nat) (y : Nat → HF) : Phi.fn (ΦG (n + 1) y) 43 = p43 zO (ΦG n y) := ΦG_at n y (q := p43 zO) (by kernel_rfl)
theorem at44 (n : Nat) (y : Nat → HF) : Phi.fn (ΦG (n + 1) y) 44 = p44 zO (ΦG n y) := ΦG_at n y (q := p44 zO) (by kernel_rfl)
theorem at45 (n : Nat) (y : Nat → HF) : Phi.fn (ΦG (n + 1) y) 45 = p45 zO (ΦG n y) := ΦG_at n y (q := p45 zO) (by kernel_rfl)
theorem at46 (n : Nat) (y : Nat → HF) : Phi.fn (ΦG (n + 1) y) 46 = p46 zO (ΦG n y) := ΦG_at n y (q := p46 zO) (by kernel_rfl)
theorem at47 (n : Nat) (y : Nat → HF) : Phi.fn (ΦG (n + 1) y) 47 = p47 zO (ΦG n y) := ΦG_at n y (q := p47 zO) (by kernel_rfl)
theorem at48 (n : Nat) (y : Nat → HF) : Phi.fn (ΦG (n + 1) y) 48 = p48 zO (ΦG n y) := ΦG_at n y (q := p48 zO) (by kernel_rfl)
theorem at49 (n : Nat) (y : Nat → HF) : Phi.fn (ΦG (n + 1) y) 49 = p49 zO (ΦG n y) := ΦG_at n y (q := p49 zO) (by kernel_rfl)
theorem at50 (n : Nat) (y : Nat → HF) : Phi.fn (ΦG (n + 1) y) 50 = p50 zO (ΦG n y) := ΦG_at n y (q := p50 zO) (by kernel_rfl)
theorem at51 (n : Nat) (y : Nat → HF) : Phi.fn (ΦG (n + 1) y) 51 = p51 zO (ΦG n y) := ΦG_at n y (q := p51 zO) (by kernel_rfl)
theorem at52 (n : Nat) (y : Nat → HF) : Phi.fn (ΦG (n + 1) y) 52 = p52 zO (ΦG n y) := ΦG_at n y (q := p52 zO) (by kernel_rfl)
theorem at53 (n : Nat) (y : Nat → HF) : Phi.fn (ΦG (n + 1) y) 53 = p53 zO (ΦG n y) := ΦG_at n y (q := p53 zO) (by kernel_rfl)
theorem at66 (n : Nat) (y : Nat → HF) : Phi.fn (ΦG (n + 1) y) 66 = p66 zO (ΦG n y) := ΦG_at n y (q := p66 zO) (by kernel_rfl)
theorem at67 (n : Nat) (y : Nat → HF) : Phi.fn (ΦG (n + 1) y) 67 = p67 zO (ΦG n y) := ΦG_at n y (q := p67 zO) (by kernel_rfl)
theorem at68 (n : Nat) (y : Nat → HF) : Phi.fn (ΦG (n + 1) y) 68 = p68 zO (ΦG n y) := ΦG_at n y (q := p68 zO) (by kernel_rfl)
theorem at69 (n : Nat) (y : Nat → HF) : Phi.fn (ΦG (n + 1) y) 69 = p69 zO (ΦG n y) := ΦG_at n y (q := p69 zO) (by kernel_rfl)
theorem at70 (n : Nat) (y : Nat → HF) : Phi.fn (ΦG (n + 1) y) 70 = p70 zO (ΦG n y) := ΦG_at n y (q := p70 zO) (by kernel_rfl)
theorem at71 (n : Nat) (y : Nat → HF) : Phi.fn (ΦG (n + 1) y) 71 = p71 zO (ΦG n y) := ΦG_at n y (q := p71 zO) (by kernel_rfl)
theorem at72 (n : Nat) (y : Nat → HF) : Phi.fn (ΦG (n + 1) y) 72 = p72 zO (ΦG n y) := ΦG_at n y (q := p72 zO) (by kernel_rfl)
theorem at73 (n : Nat) (y : Nat → HF) : Phi.fn (ΦG (n + 1) y) 73 = p73 zO (ΦG n y) := ΦG_at n y (q := p73 zO) (by kernel_rfl)
theorem at74 (n : Nat) (y : Nat → HF) : Phi.fn (ΦG (n + 1) y) 74 = p74 zO (ΦG n y) := ΦG_at n y (q := p74 zO) (by kernel_rfl)
theorem at75 (n : Nat) (y : Nat → HF) : Phi.fn (ΦG (n + 1) y) 75 = p75 zO (ΦG n y) := ΦG_at n y (q := p75 zO) (by kernel_rfl)
theorem at76 (n : Nat) (y : Nat → HF) : Phi.fn (ΦG (n + 1) y) 76 = p76 zO (ΦG n y) := ΦG_at n y (q := p76 zO) (by kernel_rfl)
theorem at77 (n : Nat) (y : Nat → HF) : Phi.fn (ΦG (n + 1) y) 77 = p77 zO (ΦG n y) := ΦG_at n y (q := p77 zO) (by kernel_rfl)
theorem at90 (n : Nat) (y : Nat → HF) : Phi.fn (ΦG (n + 1) y) 90 = p90 zO (ΦG n y) := ΦG_at n y (q := p90 zO) (by kernel_rfl)
theorem at92 (n : Nat) (y : Nat → HF) : Phi.fn (ΦG (n + 1) y) 92 = p92 zO (ΦG n y) := ΦG_at n y (q := p92 zO) (by kernel_rfl)
theorem at111 (n : Nat) (y : Nat → HF) : Phi.fn (ΦG (n + 1) y) 111 = p111 zO (ΦG n y) := ΦG_at n y (q := p111 zO) (by kernel_rfl)
theorem at88 (n : Nat) (y : Nat → HF) : Phi.fn (ΦG (n + 1) y) 88 = ctQ := (ΦG_no n y (by kernel_rfl)).trans rfl
theorem at89 (n : Nat) (y : Nat → HF) : Phi.fn (ΦG (n + 1) y) 89 = ixQ := (ΦG_no n y (by kernel_rfl)).trans rfl
theorem at29 (n : Nat) (y : Nat → HF) : Phi.fn (ΦG (n + 1) y) 29 = srQ := (ΦG_no n y (by kernel_rfl)).trans rfl
theorem xCnt (n : Nat) (y : Nat → HF) : CntS (Phi.fn (ΦG (n + 1) y) 88) := by rw [at88]; exact ct_s
theorem xIx (n : Nat) (y : Nat → HF) : IxS (Phi.fn (ΦG (n + 1) y) 89) := by rw [at89]; exact ix_s
theorem xNone (n : Nat) (y : Nat → HF) : NoneS (Phi.fn (ΦG (n + 1) y) 28) := by rw [at28]; exact fun hT => none_s rfl _ hT
theorem xKind (n : Nat) (y : Nat → HF) : KindS (Phi.fn (ΦG (n + 1) y) 35) := by rw [at35]; exact fun hT h1 h2 p => kind_s rfl _ hT h1 h2 p
theorem xHp (n : Nat) (y : Nat → HF) : HpS (Phi.fn (ΦG (n + 2) y) 33) := by rw [at33]; exact fun s p hs n1 m => hp_s rfl _ _ (at66 n y) s p hs n1 m
theorem xNamed (n : Nat) (y : Nat → HF) : NamedS (Phi.fn (ΦG (n + 4) y) 36) := by rw [at36]; exact fun s n1 m hs => named_s rfl _ _ _ _ (at69 (n + 2) y) (at90 (n + 1) y) (at68 n y) s (Nat.le_trans hs (by decide))
theorem xSplit (n : Nat) (y : Nat → HF) : SplitS (Phi.fn (ΦG (n + 3) y) 34) := by rw [at34]; exact split_s rfl _ _ (at67 (n + 1) y) (xCnt n y) (xIx n y)
theorem xLi (n : Nat) (y : Nat → HF) : LiS (Phi.fn (ΦG (n + 2) y) 70) := by rw [at70]; exact li_s rfl _ _ (at77 n y)
theorem xPar (n : Nat) (y : Nat → HF) : ParS (Phi.fn (ΦG (n + 3) y) 37) := by rw [at37]; exact par_s rfl _ (xLi n y)
theorem xJoin (n : Nat) (y : Nat → HF) : JoinS (Phi.fn (ΦG (n + 4) y) 38) := by rw [at38]; exact join_s rfl _ _ _ _ (at71 (n + 2) y) (at92 (n + 1) y) (at111 n y)
theorem xAbs (n : Nat) (y : Nat → HF) : AbsS (Phi.fn (ΦG (n + 5) y) 12) := by rw [at12]; exact abs_s rfl _ (xNone (n + 3) y) (xKind (n + 3) y) (xHp (n + 2) y) (xNamed n y) (xSplit (n + 1) y) (xPar (n + 1) y) (xJoin n y)
theorem xKeys (n : Nat) (y : Nat → HF) : KeysS (ΦG (n + 1) y) := keys_s rfl _ _ (at30 n y) (at29 n y)
theorem xWalk (n : Nat) (y : Nat → HF) (j : Nat) (Y : HF) : WalkS (Phi.fn (Phi.up (ΦG (n + 3) y) j Y) 9) j Y := by
  rw [ΦG_up, at9]
  exact walk_s rfl _ (xNone n _) (xKeys n _) j Y (by rw [ΦG_yl]; show Bool.rec (y j) Y (Nat.beq j j) = Y; rw [Nat.beq_refl])
theorem xUsed (n : Nat) (y : Nat → HF) : UsedS (Phi.fn (ΦG (n + 4) y) 52) := by rw [at52]; exact used_s rfl _ fun j Y => xWalk n y j Y
theorem xPut (n : Nat) (y : Nat → HF) : PutS (Phi.fn (ΦG (n + 5) y) 39) := by rw [at39]; exact put_s rfl _ (xUsed n y)
theorem xMake (n : Nat) (y : Nat → HF) : MakeS (Phi.fn (ΦG (n + 6) y) 14) := by rw [at14]; exact make_s rfl _ (xAbs n y) (xKind (n + 4) y) (xPut n y)
theorem xIs (n : Nat) (y : Nat → HF) : IsS (Phi.fn (ΦG (n + 6) y) 41) := by rw [at41]; exact is_s rfl _ (xAbs n y) (xKind (n + 4) y)
theorem xRead (n : Nat) (y : Nat → HF) : ReadS (Phi.fn (ΦG (n + 7) y) 20) := by rw [at20]; exact read_s rfl _ (xIs n y)
theorem xWrite (n : Nat) (y : Nat → HF) : WriteS (Phi.fn (ΦG (n + 6) y) 13) := by rw [at13]; exact write_s rfl _ (xAbs n y) (xKind (n + 4) y) (xPut n y)
theorem xCd (n : Nat) (y : Nat → HF) : CdS (Phi.fn (ΦG (n + 7) y) 16) := by rw [at16]; exact cd_s rfl _ (xIs n y)
theorem xNew (n : Nat) (y : Nat → HF) : NewS (Phi.fn (ΦG (n + 1) y) 26) := by rw [at26]; exact new_s rfl _
theorem xCwd (n : Nat) (y : Nat → HF) : CwdS (Phi.fn (ΦG (n + 2) y) 11) := by rw [at11]; exact cwd_s rfl _ (xNone n y)
theorem xTells (n : Nat) (y : Nat → HF) : TellsS (Phi.fn (ΦG (n + 8) y) 18) := by rw [at18]; exact tells_s rfl _ (xNew (n + 6) y) (xMake (n + 1) y) (xWrite (n + 1) y) (xCd n y) (xRead n y) (xCwd (n + 5) y)
theorem xWalkN (n : Nat) (y : Nat → HF) (j : Nat) (Y : HF) : WalkN (Phi.fn (Phi.up (ΦG (n + 3) y) j Y) 9) j Y := by
  rw [ΦG_up, at9]
  exact walkN_s rfl _ (xNone n _) (xKeys n _) j Y (by rw [ΦG_yl]; show Bool.rec (y j) Y (Nat.beq j j) = Y; rw [Nat.beq_refl])
theorem xTwo (n : Nat) (y : Nat → HF) : TwoS (Phi.fn (ΦG (n + 1) y) 32) := by rw [at32]; exact two_s rfl _
theorem xTold (n : Nat) (y : Nat → HF) : ToldS (Phi.fn (ΦG (n + 2) y) 31) := by rw [at31]; exact told_s rfl _ (xTwo n y)
theorem xBytes (n : Nat) (y : Nat → HF) : BytesS (Phi.fn (ΦG (n + 4) y) 10) := by rw [at10]; exact bytes_s rfl _ (xNone (n + 2) y) (xTold (n + 1) y) (xTwo (n + 2) y) fun j Y => xWalkN n y j Y
theorem xEqB (n : Nat) (y : Nat → HF) : EqBS (Phi.fn (ΦG (n + 1) y) 17) := by rw [at17]; exact eqB_s rfl _
theorem xTake (n : Nat) (y : Nat → HF) : TakeS (Phi.fn (ΦG (n + 1) y) 44) := by rw [at44]; exact take_s rfl _
theorem xNum (n : Nat) (y : Nat → HF) : NumS (Phi.fn (ΦG (n + 2) y) 43) := by rw [at43]; exact num_s rfl _ (xTake n y)
theorem xText (n : Nat) (y : Nat → HF) : TextS (Phi.fn (ΦG (n + 3) y) 42) := by rw [at42]; exact text_s rfl _ (xNum n y) (xTake (n + 1) y)
theorem xAbsF (n : Nat) (y : Nat → HF) : AbsF (Phi.fn (ΦG (n + 5) y) 12) := by rw [at12]; exact abs_f rfl _ (xNone (n + 3) y) (xKind (n + 3) y) (xHp (n + 2) y) (xNamed n y) (xSplit (n + 1) y) (xPar (n + 1) y) (xJoin n y)
theorem xParse (n : Nat) (y : Nat → HF) : ParseS (Phi.fn (ΦG (n + 8) y) 21) := by rw [at21]; exact parse_s rfl _ (xNew (n + 6) y) (xText (n + 4) y) (xNum (n + 5) y) (xTake (n + 6) y) (xAbsF (n + 2) y) (xKind (n + 6) y) (xPut (n + 2) y) (xCd n y) (xBytes (n + 3) y) (xEqB (n + 6) y)
theorem xTakeN (n : Nat) (y : Nat → HF) : TakeN (Phi.fn (ΦG (n + 1) y) 44) := by rw [at44]; exact take_n rfl _
theorem xNumN (n : Nat) (y : Nat → HF) : NumN (Phi.fn (ΦG (n + 2) y) 43) := by rw [at43]; exact num_n rfl _ (xTakeN n y)
theorem xTextN (n : Nat) (y : Nat → HF) : TextN (Phi.fn (ΦG (n + 3) y) 42) := by rw [at42]; exact text_n rfl _ (xNumN n y) (xTakeN (n + 1) y)
theorem xParseN (n : Nat) (y : Nat → HF) : ParseN (Phi.fn (ΦG (n + 4) y) 21) := by rw [at21]; exact parse_n rfl _ (xNew (n + 2) y) (xTextN n y) (xNumN (n + 1) y)
theorem xFindR (n : Nat) (y : Nat → HF) : FindR (Phi.fn (ΦG (n + 1) y) 74) := by rw [at74]; exact find_r rfl _
theorem xKindR (n : Nat) (y : Nat → HF) : KindR (Phi.fn (ΦG (n + 2) y) 48) := by rw [at48]; exact kind_r rfl _ (xFindR n y)
theorem xNamedR (n : Nat) (y : Nat → HF) : NamedR (Phi.fn (ΦG (n + 1) y) 72) := by rw [at72]; exact named_r rfl _
theorem xParR (n : Nat) (y : Nat → HF) : ParR (Phi.fn (ΦG (n + 1) y) 73) := by rw [at73]; exact par_r rfl _
theorem xNewR (n : Nat) (y : Nat → HF) : NewR (Phi.fn (ΦG (n + 1) y) 45) := by rw [at45]; exact new_r rfl _
theorem xUsedR (n : Nat) (y : Nat → HF) : UsedR (Phi.fn (ΦG (n + 1) y) 53) := by rw [at53]; exact used_r rfl _
theorem xTextR (n : Nat) (y : Nat → HF) : TextR (Phi.fn (ΦG (n + 1) y) 46) := by rw [at46]; exact text_r rfl _
theorem xTextRM (n : Nat) (y : Nat → HF) : TextRM (Phi.fn (ΦG (n + 1) y) 46) := by rw [at46]; exact text_rm rfl _
theorem xTextRN (n : Nat) (y : Nat → HF) : TextRN (Phi.fn (ΦG (n + 1) y) 46) := by rw [at46]; exact text_rn rfl _
theorem xToldR (n : Nat) (y : Nat → HF) : ToldR (Phi.fn (ΦG (n + 1) y) 76) := by rw [at76]; exact told_r rfl _
theorem xAbsR (n : Nat) (y : Nat → HF) : AbsR (Phi.fn (ΦG (n + 3) y) 47) := by rw [at47]; exact abs_r rfl _ (xNamedR (n + 1) y) (xKindR n y) (xParR (n + 1) y)
theorem xIsR (n : Nat) (y : Nat → HF) : IsR (Phi.fn (ΦG (n + 4) y) 75) := by rw [at75]; exact is_r rfl _ (xAbsR n y) (xKindR (n + 1) y)
theorem xCdR (n : Nat) (y : Nat → HF) : CdR (Phi.fn (ΦG (n + 5) y) 50) := by rw [at50]; exact cd_r rfl _ (xIsR n y)
theorem xBytesR (n : Nat) (y : Nat → HF) : BytesR (Phi.fn (ΦG (n + 2) y) 51) := by rw [at51]; exact bytes_r rfl _ (xToldR n y)
theorem xPutR (n : Nat) (y : Nat → HF) : PutR (Phi.fn (ΦG (n + 2) y) 49) := by rw [at49]; exact put_r rfl _ (xUsedR n y)
theorem xParseR (n : Nat) (y : Nat → HF) : ParseR (Phi.fn (ΦG (n + 6) y) 22) := by rw [at22]; exact parse_r rfl _ (xNewR (n + 4) y) (xTextR (n + 4) y) (xTextRM (n + 4) y) (xAbsR (n + 2) y) (xKindR (n + 3) y) (xPutR (n + 3) y) (xCdR n y) (xBytesR (n + 3) y)
theorem xParseRN (n : Nat) (y : Nat → HF) : ParseRN (Phi.fn (ΦG (n + 2) y) 22) := by rw [at22]; exact parse_rn rfl _ (xNewR n y) (xTextRN n y)
theorem xSame (n : Nat) (y : Nat → HF) : SameS (Phi.fn (ΦG (n + 5) y) 23) := by rw [at23]; exact same_s rfl _ (xUsed n y) (xUsedR (n + 3) y) (xCwd (n + 2) y) (xBytes n y) (xBytesR (n + 2) y) fun j Y => xWalkN (n + 1) y j Y
theorem xRLawS (n : Nat) (y : Nat → HF) : RLawS (Phi.fn (ΦG (n + 9) y) 4) := by rw [at4]; exact rlaw_s rfl _ (xParse n y) (xParseR (n + 2) y) (xSame (n + 3) y) (xTells n y)
theorem xRLawN (n : Nat) (y : Nat → HF) : RLawN (Phi.fn (ΦG (n + 9) y) 4) := by rw [at4]; exact rlaw_n rfl _ (xParseN (n + 4) y) (xParseRN (n + 6) y) (xTells n y)
end Go.Proofs.YtjoakhpdajlhiaaDoor.V2.S
namespace Go.Proofs.YtjoakhpdajlhiaaDoor.V2.S
open Go
set_option linter.unusedVariables false
set_option maxRecDepth 100000
open Go.RowKit
def kE : KV := fun v _ => .ok v ⟨0, .leaf⟩
theorem finish {w : World} (hs : 3 ≤ w.heap.size) {os : List AObj} {rs : List (Option (Nat × (Nat × Nat)))} (hl : os.length ≤ 900000) (hlen : rs.length = os.length) (hsh : ∀ o ∈ os, o.isSh = true)
    (h : ∀ (i c : Nat) (d : Nat × Nat) (o : AObj), rs[i]? = some (some (c, d)) → os[i]? = some o → c < w.heap.size ∧ ∀ ρ, OR ρ d o w.heap[c]?) {f : Nat} {l : List FV} {vs : List Value} (hv : VRs (rL (rF rs)) (αL l) vs)
    (hrun : Phi.fn (ΦG 41 y0L) f l ⟨3 + os.length, sF os⟩ kE = .ok (.b true) ⟨0, .leaf⟩) : Calls Tryd.prog f vs.toArray w fun e w' => e = .returned (.bool true) ∧ Below w.heap.size w w' := by
  have hΦ : PhiOk (ΦG 41 y0L) (Gam.grow std 1000000 tEL Sp.none (.of gL) 41) := PhiG_ok tQL_ok 41 bQL_ok fun j l σ k => Sm.bad
  have hσ : αH ⟨3 + os.length, sF os⟩ = hL (memF os) := by
    have := αβH (hL (memF os))
    rw [show 3 + os.length = (hL (memF os)).next by show _ = os.length + 1 + 1 + 1; omega]
    exact this
  obtain ⟨x, σ', h1, h2⟩ := hΦ.fn f l ⟨3 + os.length, sF os⟩ kE (by rw [hrun]; exact fun h => by cases h)
  rw [hrun] at h2
  rw [hσ] at h1
  cases h2
  have hh := hrF hs hl hlen hsh h
  refine ((gamL_ok.fn f (αL l) (hL (memF os)) (by rw [h1])).2 (rL (rF rs)) w vs (fun y hy => absurd hy List.not_mem_nil) (rF_glob rs) hh hv).mono fun e W' ⟨u, ρ', e1, e2, e3, e4⟩ => ?_
  rw [h1] at e2 e3 e4
  subst e1
  refine ⟨by rw [show u = .bool true from e4], Below.ofStp (by show os.length + 1 + 1 + 1 ≤ _; omega) hh (fun o ho => AObj.isSh_ro (memF_sh hsh o ho)) e3⟩
theorem packI_bI : ∀ bs : List UInt8, packI (bI bs) = some (pack bs)
  | [] => rfl
  | b :: bs => by
    have hb : b.toNat < 256 := b.toNat_lt
    show (bif Nat.blt b.toNat 256 then (packI (bI bs)).map fun c => b.toNat + 256 * c else none) = _
    rw [show Nat.blt b.toNat 256 = true by rw [Nat.blt_eq]; exact hb, cond_true, packI_bI bs]; rfl
theorem filesReadsM (w : World) (hs : 3 ≤ w.heap.size) {v1 : Value} {bs : Bs} (hB : BSl w v1 bs) : Calls Tryd.prog 4 #[v1] w fun e w' => e = .returned (.bool true) ∧ Below w.heap.size w w' := by
  have hb : ∀ b2, Am (sF [.ints .u8 (bI b2) 5 .ro]) 3 (.bs (pack b2) 5 .ro) := fun b2 => by
    have ha := sF_am (os := [.ints .u8 (bI b2) 5 .ro]) (by show 1 ≤ _; omega) (i := 0) rfl
    rw [show βO (.ints .u8 (bI b2) 5 .ro) = .bs (pack b2) 5 .ro by simp only [βO, packI_bI]] at ha
    exact ha
  have sh : ∀ b2, ∀ o ∈ [AObj.ints .u8 (bI b2) 5 .ro], o.isSh = true := fun b2 o ho => by
    rw [List.mem_singleton.1 ho]; rfl
  rcases hB with ⟨rfl, rfl⟩ | ⟨b, off, cc, rfl, hc, hb2, hcell⟩ | ⟨q, rfl, rfl⟩
  · refine finish hs (os := []) (rs := []) (by show 0 ≤ _; omega) rfl (fun o ho => absurd ho List.not_mem_nil) (fun i c d o hi ho => by cases i <;> cases hi) (l := [.o .sl]) (vs := [.slice none 0 0]) ⟨_, _, rfl, rfl, rfl⟩ ?_
    exact xRLawN 32 y0L _ _ kE _ (by show 3 + 0 + _ ≤ _; decide) (fun n' m' _ _ _ => rfl)
  · refine finish hs (os := [.ints .u8 (bI (bs.take 3000)) 5 .ro]) (rs := [some (b, (off, off + cc))]) (by show 1 ≤ _; omega) rfl (sh _) (fun i c d o hi ho => ?_) (l := [.sl 3 0 bs.length bs.length false 1]) (vs := [.slice (some ⟨b, off, none⟩) bs.length cc]) ⟨_, _, rfl, ?_, rfl⟩ ?_
    · match i with
      | 0 =>
        cases ho; cases hi
        have hl2 : (bs.take 3000).length ≤ bs.length := by rw [List.length_take]; omega
        exact ⟨hb2, fun ρ => or_ro (by rw [bI_length]; omega) fun i hi => by
          rw [bI_length] at hi
          have h3 := hcell i (by omega)
          rw [h3, bI_getD]
          unfold YtjoakhpdajlhiaaDoor.at8
          rw [List.getD_eq_getElem?_getD, List.getD_eq_getElem?_getD, List.getElem?_take_of_lt (by rw [List.length_take] at hi; omega)]⟩
      | i + 1 => cases hi
    · show VR _ (.sl 3 0 bs.length bs.length false 1) _
      unfold VR
      exact .inl ⟨b, (off, off + cc), off, cc, rfl, rfl, fun _ => by simp, Nat.le_refl _, hc, (fun h => by cases h), by show off + cc * 1 ≤ off + cc; omega⟩
    · exact xRLawS 32 y0L (hb _) (by show 3 < 3 + 1; decide) (by rw [List.length_take]; omega) kE _ (by show 3 + 1 + _ ≤ _; decide) (fun n' m' _ _ _ => rfl)
  · refine finish hs (os := [.ints .u8 (bI []) 5 .ro]) (rs := [some (0, (0, 0))]) (by show 1 ≤ _; omega) rfl (sh _) (fun i c d o hi ho => ?_) (l := [.sl 3 0 0 0 false 1]) (vs := [.slice (some q) 0 0]) ⟨_, _, rfl, ?_, rfl⟩ ?_
    · match i with
      | 0 => cases ho; cases hi; exact ⟨by omega, fun ρ => or_ro (Nat.le_refl _) fun i hi => absurd hi (Nat.not_lt_zero _)⟩
      | i + 1 => cases hi
    · show VR _ (.sl 3 0 0 0 false 1) _
      unfold VR
      exact .inr ⟨rfl, rfl, rfl, ⟨_, rfl⟩, q, rfl⟩
    · exact xRLawS 32 y0L (hb []) (by show 3 < 3 + 1; decide) rfl kE _ (by show 3 + 1 + _ ≤ _; decide) (fun n' m' _ _ _ => rfl)
end Go.Proofs.YtjoakhpdajlhiaaDoor.V2.S
