/- Part 12 of the proof: texts of the proof. -/
import Derived.Test.YtjoakhpdajlhiaaDoorQR11
namespace Go.Proofs.YtjoakhpdajlhiaaDoor.V2.S
open Go
set_option maxRecDepth 100000
set_option maxHeartbeats 4000000
set_option linter.unusedVariables false
attribute [local irreducible] fN fO nM gM pM Phi.fn mp bl bpart bapp top1 pack numV
theorem textO_no {l : Bs} {o R : Nat} (hl : o + R = l.length) (h : R < 2 ∨ R - 2 < numV l o) : textO l o = none := by
  unfold textO
  rw [if_neg (by omega)]
theorem textO_some {l : Bs} {o R : Nat} (hl : o + R = l.length) (h1 : 2 ≤ R) (h2 : numV l o ≤ R - 2) : textO l o = some ((l.drop (o + 2)).take (numV l o), o + 2 + numV l o) := by
  unfold textO
  rw [if_pos (by omega)]
theorem entO_no1 {l : Bs} {o : Nat} (h : l.length < o + 1) : entO l o = none := by
  unfold entO
  rw [if_neg (by omega)]
theorem entO_no2 {l : Bs} {o : Nat} (h : textO l (o + 1) = none) : entO l o = none := by
  unfold entO
  split
  · rw [h]
  · rfl
theorem entO_no3 {l p : Bs} {o o2 : Nat} (hk : bt l o = 2) (h : textO l (o + 1) = some (p, o2)) (h2 : textO l o2 = none) : entO l o = none := by
  unfold entO
  by_cases h0 : o + 1 ≤ l.length
  · rw [if_pos h0, h]
    show (if bt l o = 2 then _ else _) = _
    rw [if_pos hk, h2]
  · rw [if_neg h0]
theorem entO_s1 {l p : Bs} {o o2 : Nat} (h0 : o + 1 ≤ l.length) (hk : bt l o ≠ 2) (h : textO l (o + 1) = some (p, o2)) : entO l o = some (bt l o, p, [], o2) := by
  unfold entO
  rw [if_pos h0, h]
  show (if bt l o = 2 then _ else _) = _
  rw [if_neg hk]
theorem entO_s2 {l p d : Bs} {o o2 o3 : Nat} (h0 : o + 1 ≤ l.length) (hk : bt l o = 2) (h : textO l (o + 1) = some (p, o2)) (h2 : textO l o2 = some (d, o3)) : entO l o = some (bt l o, p, d, o3) := by
  unfold entO
  rw [if_pos h0, h]
  show (if bt l o = 2 then _ else _) = _
  rw [if_pos hk, h2]
theorem loop_none {l : Bs} {c o : Nat} {t : Tr} {g : Bool} (h : entO l o = none) (hc : 0 < c) : loopP l c o t g = none := by
  obtain ⟨c, rfl⟩ : ∃ q, c = q + 1 := ⟨c - 1, by omega⟩
  unfold loopP
  rw [h]
theorem loop_some {l p d : Bs} {c o o' kd : Nat} {t : Tr} {g : Bool} (h : entO l o = some (kd, p, d, o')) (hc : 0 < c) : loopP l c o t g = loopP l (c - 1) o' (addE t kd p d).1 (g && (addE t kd p d).2) := by
  obtain ⟨c, rfl⟩ : ∃ q, c = q + 1 := ⟨c - 1, by omega⟩
  rw [loopP, h, Nat.add_sub_cancel]
theorem addE_no {t : Tr} {kd : Nat} {p d : Bs} (h : (absG t p).2 ≠ 0 ∨ (absG t p).1 ≠ p ∨ kindG t (absG t p).1 ≠ 0 ∨ (kd ≠ 1 ∧ kd ≠ 2)) : addE t kd p d = (t, false) := by
  unfold addE
  rw [if_neg]
  rintro ⟨h1, h2, h3, h4⟩
  rcases h with h | h | h | h
  · exact h h1
  · exact h h2
  · rw [h2] at h; exact h h3
  · rcases h4 with h4 | h4
    · exact h.1 h4
    · exact h.2 h4
theorem add_put {l p d : Bs} {o o' kd : Nat} {t : Tr} (he : entO l o = some (kd, p, d, o')) (hW : WfT t) (hO : OkT t) (h1 : (absG t p).2 = 0) (h2 : (absG t p).1 = p) (h3 : kindG t (absG t p).1 = 0) (h4 : kd = 1 ∨ kd = 2) {b : Bool} (hb : decide (kd = 1) = b) :
    addE t kd p d = ((putG t ⟨(absG t p).1, b, d⟩).1, decide ((putG t ⟨(absG t p).1, b, d⟩).2 = 0)) ∧ WfT (putG t ⟨(absG t p).1, b, d⟩).1 ∧ OkT (putG t ⟨(absG t p).1, b, d⟩).1 := by
  have h0 := addE_ok hW hO (kd := kd) (p := p) (d := d) (entO_len he).2.2.2
  have e : addE t kd p d = ((putG t ⟨(absG t p).1, b, d⟩).1, decide ((putG t ⟨(absG t p).1, b, d⟩).2 = 0)) := by
    unfold addE
    rw [h2] at h3
    rw [if_pos ⟨h1, h2, h3, h4⟩, h2, hb]
  rw [e] at h0
  exact ⟨e, h0⟩
theorem loop_step {l p d : Bs} {c o o' kd : Nat} {t t' : Tr} {g b : Bool} (h : entO l o = some (kd, p, d, o')) (hc : 0 < c) (ha : addE t kd p d = (t', b)) : loopP l c o t g = loopP l (c - 1) o' t' (g && b) := by
  rw [loop_some h hc, ha]
theorem add_put_no {l p d : Bs} {o o' kd : Nat} {t : Tr} (he : entO l o = some (kd, p, d, o')) (hW : WfT t) (hO : OkT t) (h1 : (absG t p).2 = 0) (h2 : (absG t p).1 = p) (h3 : kindG t (absG t p).1 = 0) (h4 : kd = 1 ∨ kd = 2) {b : Bool} (hb : decide (kd = 1) = b) (h5 : (putG t ⟨(absG t p).1, b, d⟩).2 ≠ 0) :
    addE t kd p d = ((putG t ⟨(absG t p).1, b, d⟩).1, false) ∧ WfT (putG t ⟨(absG t p).1, b, d⟩).1 ∧ OkT (putG t ⟨(absG t p).1, b, d⟩).1 := by
  have h := add_put he hW hO h1 h2 h3 h4 hb
  rw [decide_eq_false h5] at h; exact h
theorem add_put_ok {l p d : Bs} {o o' kd : Nat} {t : Tr} (he : entO l o = some (kd, p, d, o')) (hW : WfT t) (hO : OkT t) (h1 : (absG t p).2 = 0) (h2 : (absG t p).1 = p) (h3 : kindG t (absG t p).1 = 0) (h4 : kd = 1 ∨ kd = 2) {b : Bool} (hb : decide (kd = 1) = b) (h5 : (putG t ⟨(absG t p).1, b, d⟩).2 = 0) :
    addE t kd p d = ((putG t ⟨(absG t p).1, b, d⟩).1, true) ∧ WfT (putG t ⟨(absG t p).1, b, d⟩).1 ∧ OkT (putG t ⟨(absG t p).1, b, d⟩).1 := by
  have h := add_put he hW hO h1 h2 h3 h4 hb
  rw [decide_eq_true h5] at h; exact h
theorem RdS.kp {m m' : T FObj} {rb Bb o R n : Nat} {s : Bool} (h : RdS m rb Bb o R s) (hk : Kp n m m') (h1 : rb < n) : RdS m' rb Bb o R s := by
  obtain ⟨K, x, h2, h3⟩ := h
  exact ⟨K, x, h2, hk _ _ h1 h3⟩
theorem RdS.kq {m m' : T FObj} {rb Bb o R n mb : Nat} {s : Bool} (h : RdS m rb Bb o R s) (hk : Kq [mb] n m m') (h1 : rb < n) (h4 : rb ≠ mb) : RdS m' rb Bb o R s := by
  obtain ⟨K, x, h2, h3⟩ := h
  exact ⟨K, x, h2, hk _ _ h1 (nm1 h4) h3⟩
theorem RdS.eq {m : T FObj} {rb Bb o R R' : Nat} {s : Bool} (h : RdS m rb Bb o R s) (e : R = R') : RdS m rb Bb o R' s := e ▸ h
noncomputable def b21 (O : Oz) (v3 v4 v6 : FV) : Cd := (cLet (o2 O.lt R21 (rdV v6)) fun v7 => (cSeq (cCond (rdV v7) cSkip (cExit 0)) (cSeq (cBlk 1 (cLet (oCallS 44 [(rdV v3), (rdV (.n .i64 1))]) fun v8 => (cLet (o2 (O.ix 1) (rdV v8) (rdV (.n .i64 0))) fun v9 => (cLet (m1 O.ld (rdV v9)) fun v10 => (cLet (o1 (O.cv .i64) (rdV v10)) fun v11 => (cLet (oCallS 42 [(rdV v3)]) fun v12 => (cWr X10 (.s (pack [])) (cLet (o2 O.eq (rdV v11) (rdV (.n .i64 2))) fun v13 => (cSeq (cCond (rdV v13) (cLet (oCallS 42 [(rdV v3)]) fun v14 => (cWr X10 v14 cSkip)) cSkip) (cLet (o1 ncF (rdV v3)) fun v15 => (cLet (o1 (O.fa 1) (rdV v15)) fun v16 => (cLet (m1 O.ld (rdV v16)) fun v17 => (cSeq (cCond (rdV v17) (cExit 0) cSkip) (cLet (oCallS 12 [(rdV v4), (rdV v12)]) fun v18 => (cLet (o1 (exG 0) (rdV v18)) fun v19 => (cLet (o1 (exG 1) (rdV v18)) fun v20 => (cLet (o2 O.ne (rdV v20) (rdV (.n .i64 0))) fun v21 => (cLet (oG false (rdV v21) (oV (rdV v19))) fun v22 => (cLet (oG false (rdV v21) (oV (rdV v12))) fun v23 => (cLet (oG false (rdV v21) (o2 O.ne (rdV v22) (rdV v23))) fun v24 => (cLet (o3 pkF (rdV v21) (rdV (.b true)) (rdV v24)) fun v25 => (cLet (oG false (rdV v25) (oV (rdV v4))) fun v26 => (cLet (oG false (rdV v25) (oV (rdV v19))) fun v27 => (cLet (oG false (rdV v25) (oCallS 35 [(rdV v26), (rdV v27)])) fun v28 => (cLet (oG false (rdV v25) (o2 O.ne (rdV v28) (rdV (.n .i64 0)))) fun v29 => (cLet (o3 pkF (rdV v25) (rdV (.b true)) (rdV v29)) fun v30 => (cLet (oG false (rdV v30) (oV (rdV v11))) fun v31 => (cLet (oG false (rdV v30) (o2 O.ne (rdV v31) (rdV (.n .i64 1)))) fun v32 => (cLet (oG false (rdV v30) (oV (rdV v32))) fun v33 => (cLet (oG true (rdV v33) (oV (rdV v11))) fun v34 => (cLet (oG true (rdV v33) (o2 O.ne (rdV v34) (rdV (.n .i64 2)))) fun v35 => (cLet (oG false (rdV v30) (o3 pkF (rdV v33) (rdV v35) (rdV (.b false)))) fun v36 => (cLet (o3 pkF (rdV v30) (rdV (.b true)) (rdV v36)) fun v37 => (cLet (oG false (rdV v37) (oV (rdV v4))) fun v38 => (cLet (oG false (rdV v37) (oV (rdV v19))) fun v39 => (cLet (oG false (rdV v37) (oV (rdV v11))) fun v40 => (cLet (oG false (rdV v37) (o2 O.eq (rdV v40) (rdV (.n .i64 1)))) fun v41 => (cLet (oG false (rdV v37) (oV R10)) fun v42 => (cLet (oG false (rdV v37) (nL (O.bu [.s (pack []), .b false, .s (pack [])] [(.str []), (.bool false), (.str [])] [(0, 1), (1, 1), (2, 1)]) [(rdV v39), (rdV v41), (rdV v42)])) fun v43 => (cLet (oG false (rdV v37) (oCallS 39 [(rdV v38), (rdV v43)])) fun v44 => (cLet (oG false (rdV v37) (o2 O.ne (rdV v44) (rdV (.n .i64 0)))) fun v45 => (cLet (o3 pkF (rdV v37) (rdV (.b true)) (rdV v45)) fun v46 => (cSeq (cCond (rdV v46) (cWr X7 (.n .i64 5) cSkip) cSkip) cSkip))))))))))))))))))))))))))))))))))))))))))) (cLet (o2 O.ad R21 (rdV (.n .i64 1))) fun v47 => (cWr X21 v47 cSkip)))))
def LoopPS (O : Oz) (Φ : Phi) : Prop := ∀ {n rb Bb tb mb N cnt o1 n0 : Nat} {l : Bs} {e : TypeId} {tl : Tl} {m m0 : T FObj} {kn kr : K2} {ke : Nat → K2} {P : FR} {y0 : FV}, n ≤ rb → rb < n0 → n ≤ tb → tb < n0 → n ≤ mb → mb < n0 → tb ≠ mb → rb ≠ tb → rb ≠ mb → Bb < n → l.length ≤ 900000 → cnt ≤ 65535 → N ≤ n0 → Am m Bb (.bs (pack l) e tl) → Kp n m m0 → o1 ≤ l.length → RdS m0 rb Bb o1 (l.length - o1) false → TreeAt m0 tb mb 65 newG → n0 + (160 * min cnt (l.length / 3) + 2 * l.length + 200) ≤ 1000000 →
  (∀ e' n' m' o' R', loopP l cnt o1 newG true = none → n0 ≤ n' → n' ≤ n0 + (160 * min cnt (l.length / 3) + 2 * l.length + 10) → Kp n m m' → RdS m' rb Bb o' R' true → (∃ z y w, e' = eof [(2, .o .ptr), (3, .n .i64 0), (7, z), (10, y), (21, w)]) → ke 0 e' ⟨n', m'⟩ = P) →
  (∀ t g y n' m' o', loopP l cnt o1 newG true = some (t, g) → n0 ≤ n' → n' ≤ n0 + (160 * min cnt (l.length / 3) + 2 * l.length) → Kp n m m' → RdS m' rb Bb o' (l.length - o') false → TreeAt m' tb mb 65 t → WfT t → OkT t → ke 0 (eof [(2, .o .ptr), (3, .n .i64 0), (7, .n .i64 (if g = true then 0 else 5)), (10, y), (21, .n .i64 cnt)]) ⟨n', m'⟩ = P) →
  O.lp 1000000 (b21 O (.p rb 0) (.p tb 0) (.n .i64 cnt)) Φ N kn kr ke (eof [(2, .o .ptr), (3, .n .i64 0), (7, .n .i64 0), (10, y0), (21, .n .i64 0)]) ⟨n0, m0⟩ = P
theorem loopP_s {O : Oz} (hO : O = zO) (Φ : Phi) (HTx : TextS (Phi.fn Φ 42)) (HTk : TakeS (Phi.fn Φ 44)) (HA : AbsF (Phi.fn Φ 12)) (HK : KindS (Phi.fn Φ 35)) (HP : PutS (Phi.fn Φ 39)) : LoopPS O Φ := fun {n rb Bb tb mb N cnt o1 n0 l e tl m m0 kn kr ke P y0} hrn hr0 htn ht0 hmn hm0 htm hrt hrm hBn hl9 hcnt hN ha hk0 ho1 hr0' hT0 hb hsh hen => by
  have hrB : rb ≠ Bb := by omega
  refine lpI hO (fun q e' n' m' => ∃ i o t g y, q = cnt - i ∧ i ≤ cnt ∧ o1 + 3 * i ≤ o ∧ o ≤ l.length ∧ n0 ≤ n' ∧ n' ≤ n0 + (160 * i + 2 * (o - o1)) ∧ Kp n m m' ∧ RdS m' rb Bb o (l.length - o) false ∧ TreeAt m' tb mb 65 t ∧ WfT t ∧ OkT t ∧ loopP l cnt o1 newG true = loopP l (cnt - i) o t g ∧ e' = eof [(2, .o .ptr), (3, .n .i64 0), (7, .n .i64 (if g = true then 0 else 5)), (10, y), (21, .n .i64 i)]) ?_ ?_ _ cnt _ _ _ (by omega) ⟨0, o1, newG, true, y0, by omega, by omega, by omega, ho1, by omega, by omega, hk0, hr0', hT0, newG_wf, .new, rfl, rfl⟩
  · rintro q e' n' m' ⟨i, o, t, g, y, _, _, _, _, h, _⟩; omega
  · rintro q e' n1 m1' ih ⟨i, o, t, g, y, rfl, hi, hio, hol, hn0, hn1, hk, hr, hT, hW, hOk, hlp, rfl⟩ hih
    rcases Nat.lt_or_ge i cnt with hlt | hge
    rotate_left
    · obtain rfl : i = cnt := by omega
      rw [Nat.sub_self] at hlp
      repeat' ((conv => lhs; whnf); first | ((with_reducible refine ltF hO (by omega) ?_)))
      all_goals (conv => lhs; whnf)
      all_goals first
        | exact hen _ _ _ _ _ _ hlp (by omega) (by omega) hk hr hT hW hOk
    · have hc1 := hW.c1
      have hc2 := hW.c2
      have aB0 : Am m1' Bb (.bs (pack l) e tl) := hk _ _ (by omega) ha
      have hbt := bt_le l o
      have hb0 : bt [0] 0 = 0 := rfl
      have aS0 := hT.s
      have aM0 := hT.m
      clear hT hk0 hr0' hT0
      have hc3 : 0 < cnt - i := by omega
      have hcs : cnt - i - 1 = cnt - (i + 1) := by omega
      repeat' ((conv => lhs; whnf); first | ((with_reducible refine atFn ?_); first | (refine HTk (rb := rb) (Bb := Bb) hr aB0 (by omega) (by omega) hrB (by omega) hl9 (by omega) _ _ (by omega) (fun hs1 m1 k1 r1 a1 => ?_) (fun hs1 hm1 m1 K1 x1 k1 r1 => ?_); (have a1 : Am m1 n1 (.bs (pack [0]) 5 .exact) := a1; have hent : entO l o = none := entO_no1 (by rcases hs1 with h | h; cases h; omega)); (all_goals (have aB1 : Am m1 Bb (.bs (pack l) e tl) := (k1 _ _ (by omega) (by first | exact nm0 | exact nm1 (by omega)) (by assumption)); have aS1 : Am m1 tb (.cells [.m mb, .s (pack t.cwd)] 65 .exact) := (k1 _ _ (by omega) (by first | exact nm0 | exact nm1 (by omega)) (by assumption)); have aM1 : Am m1 mb (.map (t.L.map fun a => (.s (pack (En.path a)), entV a))) := (k1 _ _ (by omega) (by first | exact nm0 | exact nm1 (by omega)) (by assumption)); have kn1 : Kp n m m1 := Kp.trans (by assumption) (Kq.low (n := n) k1 (by omega) (fun x hx => by simp only [List.mem_cons, List.not_mem_nil, or_false] at hx; omega)) (Nat.le_refl n))); rotate_left; (have a1 := aB1; have hkd : o + 1 ≤ l.length := by omega); rotate_left) | (refine HTx (rb := rb) (Bb := Bb) r1 aB1 (by omega) (by omega) hrB (by omega) hl9 _ _ (by omega) (fun hs2 z2 o2 R2 n2 m2 hz2 ho2 h2 g2 k2 r2 => ?_) (fun hs2 hm2 hv2 m2 k2 r2 => ?_); (have hent : entO l o = none := (by first | assumption | exact entO_no2 (textO_no (o := o + 1) (R := l.length - o - 1) (by omega) (by rcases hs2 with h | h; cases h; exact h)))); rotate_left; (first | exact absurd hs2 (by decide) | (cases hs2; have hx2 := textO_some (l := l) (o := o + 1) (R := l.length - o - 1) (by omega) hm2 hv2; generalize hp : (l.drop (o + 1 + 2)).take (numV l (o + 1)) = p at hx2 ⊢; have hpl : p.length = numV l (o + 1) := (by rw [← hp, List.length_take, List.length_drop]; omega); clear hp)); rotate_left; all_goals (obtain ⟨Kc2, xc2, hKc2, hrc2⟩ := id r2; have aB2 : Am m2 Bb (.bs (pack l) e tl) := (k2 _ _ (by omega) (by first | exact nm0 | exact nm1 (by omega)) (by assumption)); have aS2 : Am m2 tb (.cells [.m mb, .s (pack t.cwd)] 65 .exact) := (k2 _ _ (by omega) (by first | exact nm0 | exact nm1 (by omega)) (by assumption)); have aM2 : Am m2 mb (.map (t.L.map fun a => (.s (pack (En.path a)), entV a))) := (k2 _ _ (by omega) (by first | exact nm0 | exact nm1 (by omega)) (by assumption)); have kn2 : Kp n m m2 := Kp.trans (by assumption) (Kq.low (n := n) k2 (by omega) (fun x hx => by simp only [List.mem_cons, List.not_mem_nil, or_false] at hx; omega)) (Nat.le_refl n))) | (refine HTx (rb := rb) (Bb := Bb) r2 aB2 (by omega) (by omega) hrB (by omega) hl9 _ _ (by omega) (fun hs3 z3 o3 R3 n3 m3 hz3 ho3 h3 g3 k3 r3 => ?_) (fun hs3 hm3 hv3 m3 k3 r3 => ?_); (have hent : entO l o = none := (by first | assumption | exact entO_no3 (by assumption) hx2 (textO_no (o := o + 1 + 2 + numV l (o + 1)) (R := l.length - o - 1 - 2 - numV l (o + 1)) (by omega) (by rcases hs3 with h | h; cases h; exact h)))); rotate_left; (first | exact absurd hs3 (by decide) | (cases hs3; have hx3 := textO_some (l := l) (o := o + 1 + 2 + numV l (o + 1)) (R := l.length - o - 1 - 2 - numV l (o + 1)) (by omega) hm3 hv3; generalize hd : (l.drop (o + 1 + 2 + numV l (o + 1) + 2)).take (numV l (o + 1 + 2 + numV l (o + 1))) = d at hx3 ⊢; have hdl : d.length = numV l (o + 1 + 2 + numV l (o + 1)) := (by rw [← hd, List.length_take, List.length_drop]; omega); clear hd)); rotate_left; all_goals (obtain ⟨Kc3, xc3, hKc3, hrc3⟩ := id r3; have aB3 : Am m3 Bb (.bs (pack l) e tl) := (k3 _ _ (by omega) (by first | exact nm0 | exact nm1 (by omega)) (by assumption)); have aS3 : Am m3 tb (.cells [.m mb, .s (pack t.cwd)] 65 .exact) := (k3 _ _ (by omega) (by first | exact nm0 | exact nm1 (by omega)) (by assumption)); have aM3 : Am m3 mb (.map (t.L.map fun a => (.s (pack (En.path a)), entV a))) := (k3 _ _ (by omega) (by first | exact nm0 | exact nm1 (by omega)) (by assumption)); have kn3 : Kp n m m3 := Kp.trans (by assumption) (Kq.low (n := n) k3 (by omega) (fun x hx => by simp only [List.mem_cons, List.not_mem_nil, or_false] at hx; omega)) (Nat.le_refl n))) | (refine HA (t := t) ⟨aS3, aM3⟩ (by omega) (by omega) hc1 hc2 p (by omega) _ _ (by omega) (fun n4 m4 h4 g4 k4 => ?_); have r4 := r3.kp k4 (by omega); have aS4 := k4 _ _ (by omega) aS3; have aM4 := k4 _ _ (by omega) aM3; have kn4 : Kp n m m4 := kn3.trans k4 (by omega)) | (refine HA (t := t) ⟨aS2, aM2⟩ (by omega) (by omega) hc1 hc2 p (by omega) _ _ (by omega) (fun n4 m4 h4 g4 k4 => ?_); have r4 := r2.kp k4 (by omega); have aS4 := k4 _ _ (by omega) aS2; have aM4 := k4 _ _ (by omega) aM2; have kn4 : Kp n m m4 := kn2.trans k4 (by omega)) | (refine HK (t := t) ⟨aS4, aM4⟩ (by omega) (by omega) _ _ _ (by omega) (fun n5 m5 h5 g5 k5 => ?_); have r5 := r4.kp k5 (by omega); have aS5 := k5 _ _ (by omega) aS4; have aM5 := k5 _ _ (by omega) aM4; have kn5 : Kp n m m5 := kn4.trans k5 (by omega)) | (refine HP (t := t) (x := ⟨(absG t p).1, true, []⟩) ⟨aS5, aM5⟩ (by omega) (by omega) htm hW (by show (absG t p).1.length ≤ 900000; have := absG_le (t := t) (path := p) hc2 (by omega); omega) (by first | exact Nat.zero_le _ | (show d.length ≤ 900000; omega)) _ _ (by omega) (fun v6 n6 m6 h6 g6 k6 q6 => ?_); obtain ⟨rfl, hT6⟩ := q6; have r6 := r5.kq k6 (by omega) (by omega); have kn6 : Kp n m m6 := kn5.trans (Kq.low (n := n) k6 (by omega) (fun x hx => by simp only [List.mem_cons, List.not_mem_nil, or_false] at hx; omega)) (Nat.le_refl n)) | (refine HP (t := t) (x := ⟨(absG t p).1, false, d⟩) ⟨aS5, aM5⟩ (by omega) (by omega) htm hW (by show (absG t p).1.length ≤ 900000; have := absG_le (t := t) (path := p) hc2 (by omega); omega) (by first | exact Nat.zero_le _ | (show d.length ≤ 900000; omega)) _ _ (by omega) (fun v6 n6 m6 h6 g6 k6 q6 => ?_); obtain ⟨rfl, hT6⟩ := q6; have r6 := r5.kq k6 (by omega) (by omega); have kn6 : Kp n m m6 := kn5.trans (Kq.low (n := n) k6 (by omega) (fun x hx => by simp only [List.mem_cons, List.not_mem_nil, or_false] at hx; omega)) (Nat.le_refl n))) | ((with_reducible refine fa0 hO ?_)) | ((with_reducible refine atLd ?_); first | (refine ldB hO a1 (by first | omega | decide) ?_; first | rw [show o + 0 = o from rfl] | rw [show bt [0] 0 = 0 from rfl] | skip) | refine ldC hO aQ (by rfl) ?_) | ((with_reducible refine ltT hO (by omega) ?_)) | ((with_reducible refine eqT hO (by omega) ?_)) | ((with_reducible refine eqF hO (by omega) ?_)) | ((with_reducible refine eqB hO (fun h => ?_) (fun h => ?_))) | ((with_reducible refine neT hO (by omega) ?_)) | ((with_reducible refine neF hO (by omega) ?_)) | ((with_reducible refine neB hO (fun h => ?_) (fun h => ?_))) | ((with_reducible refine neSB hO (fun h => ?_) (fun h => ?_))) | ((with_reducible refine adI hO (by omega) ?_)) | ((with_reducible refine cvI hO (by omega) ?_)) | ((with_reducible refine ix01 hO (by omega) ?_)) | ((with_reducible refine ix1 hO (by omega) ?_)) | ((with_reducible first | refine umt hO ?_ | refine uqu hO ?_ | refine urm hO ?_ | refine uan hO ?_ | refine uro hO ?_ | refine uxr hO ?_ | refine uhl hO ?_ | refine uhr hO ?_ | refine uad hO ?_ | refine usb hO ?_ | refine ult hO ?_ | refine ule hO ?_ | refine ugt hO ?_ | refine uge hO ?_ | refine ueq hO ?_ | refine une hO ?_ | refine ucv hO ?_ | refine uia hO ?_ | refine usv hO ?_ | refine ubu hO ?_ | refine uap hO ?_ | refine ubs hO ?_ | refine umm hO ?_ | refine upq hO ?_ | refine unq hO ?_ | refine uln hO ?_)))
      all_goals (conv => lhs; whnf)
      all_goals first
        | exact hsh _ _ _ _ _ (hlp.trans (loop_none hent hc3)) (by omega) (by omega) kn3 r3 ⟨.n .i64 (if g = true then 0 else 5), .s (pack z3), .n .i64 i, rfl⟩
        | exact hsh _ _ _ _ _ (hlp.trans (loop_none hent hc3)) (by omega) (by omega) kn2 r2 ⟨.n .i64 (if g = true then 0 else 5), .s (pack []), .n .i64 i, rfl⟩
        | exact hih (cnt - (i + 1)) _ _ _ (by omega) ⟨i + 1, o + 1 + 2 + numV l (o + 1) + 2 + numV l (o + 1 + 2 + numV l (o + 1)), t, false, .s (pack d), rfl, by omega, by omega, by omega, by omega, by omega, kn5, (RdS.eq r5 (by omega)), ⟨aS5, aM5⟩, hW, hOk, (by rw [hlp, loop_step (entO_s2 hkd (by assumption) hx2 hx3) hc3 (addE_no (t := t) (kd := bt l o) (p := p) (d := d) (by first | exact .inl (by assumption) | exact .inr (.inl (by assumption)) | exact .inr (.inr (.inl (by assumption))) | exact .inr (.inr (.inr ⟨by assumption, by omega⟩)))), Bool.and_false, hcs]), rfl⟩
        | exact hih (cnt - (i + 1)) _ _ _ (by omega) ⟨i + 1, o + 1 + 2 + numV l (o + 1) + 2 + numV l (o + 1 + 2 + numV l (o + 1)), t, false, .s (pack d), rfl, by omega, by omega, by omega, by omega, by omega, kn4, (RdS.eq r4 (by omega)), ⟨aS4, aM4⟩, hW, hOk, (by rw [hlp, loop_step (entO_s2 hkd (by assumption) hx2 hx3) hc3 (addE_no (t := t) (kd := bt l o) (p := p) (d := d) (by first | exact .inl (by assumption) | exact .inr (.inl (by assumption)) | exact .inr (.inr (.inl (by assumption))) | exact .inr (.inr (.inr ⟨by assumption, by omega⟩)))), Bool.and_false, hcs]), rfl⟩
        | (obtain ⟨hap, hW6, hO6⟩ := add_put_no (entO_s2 hkd (by assumption) hx2 hx3) hW hOk (by omega) (by assumption) (by omega) (by omega) (b := false) (decide_eq_false (by omega)) (by assumption); exact hih (cnt - (i + 1)) _ _ _ (by omega) ⟨i + 1, o + 1 + 2 + numV l (o + 1) + 2 + numV l (o + 1 + 2 + numV l (o + 1)), _, false, .s (pack d), rfl, by omega, by omega, by omega, by omega, by omega, kn6, (RdS.eq r6 (by omega)), hT6, hW6, hO6, (by rw [hlp, loop_step (entO_s2 hkd (by assumption) hx2 hx3) hc3 hap, Bool.and_false, hcs]), rfl⟩)
        | (obtain ⟨hap, hW6, hO6⟩ := add_put_ok (entO_s2 hkd (by assumption) hx2 hx3) hW hOk (by omega) (by assumption) (by omega) (by omega) (b := false) (decide_eq_false (by omega)) (by assumption); exact hih (cnt - (i + 1)) _ _ _ (by omega) ⟨i + 1, o + 1 + 2 + numV l (o + 1) + 2 + numV l (o + 1 + 2 + numV l (o + 1)), _, g, .s (pack d), rfl, by omega, by omega, by omega, by omega, by omega, kn6, (RdS.eq r6 (by omega)), hT6, hW6, hO6, (by rw [hlp, loop_step (entO_s2 hkd (by assumption) hx2 hx3) hc3 hap, Bool.and_true, hcs]), rfl⟩)
        | exact hih (cnt - (i + 1)) _ _ _ (by omega) ⟨i + 1, o + 1 + 2 + numV l (o + 1), t, false, .s (pack []), rfl, by omega, by omega, by omega, by omega, by omega, kn5, (RdS.eq r5 (by omega)), ⟨aS5, aM5⟩, hW, hOk, (by rw [hlp, loop_step (entO_s1 hkd (by assumption) hx2) hc3 (addE_no (t := t) (kd := bt l o) (p := p) (d := []) (by first | exact .inl (by assumption) | exact .inr (.inl (by assumption)) | exact .inr (.inr (.inl (by assumption))) | exact .inr (.inr (.inr ⟨by assumption, by omega⟩)))), Bool.and_false, hcs]), rfl⟩
        | exact hih (cnt - (i + 1)) _ _ _ (by omega) ⟨i + 1, o + 1 + 2 + numV l (o + 1), t, false, .s (pack []), rfl, by omega, by omega, by omega, by omega, by omega, kn4, (RdS.eq r4 (by omega)), ⟨aS4, aM4⟩, hW, hOk, (by rw [hlp, loop_step (entO_s1 hkd (by assumption) hx2) hc3 (addE_no (t := t) (kd := bt l o) (p := p) (d := []) (by first | exact .inl (by assumption) | exact .inr (.inl (by assumption)) | exact .inr (.inr (.inl (by assumption))) | exact .inr (.inr (.inr ⟨by assumption, by omega⟩)))), Bool.and_false, hcs]), rfl⟩
        | (obtain ⟨hap, hW6, hO6⟩ := add_put_no (entO_s1 hkd (by assumption) hx2) hW hOk (by omega) (by assumption) (by omega) (by omega) (b := true) (decide_eq_true (by omega)) (by assumption); exact hih (cnt - (i + 1)) _ _ _ (by omega) ⟨i + 1, o + 1 + 2 + numV l (o + 1), _, false, .s (pack []), rfl, by omega, by omega, by omega, by omega, by omega, kn6, (RdS.eq r6 (by omega)), hT6, hW6, hO6, (by rw [hlp, loop_step (entO_s1 hkd (by assumption) hx2) hc3 hap, Bool.and_false, hcs]), rfl⟩)
        | (obtain ⟨hap, hW6, hO6⟩ := add_put_ok (entO_s1 hkd (by assumption) hx2) hW hOk (by omega) (by assumption) (by omega) (by omega) (b := true) (decide_eq_true (by omega)) (by assumption); exact hih (cnt - (i + 1)) _ _ _ (by omega) ⟨i + 1, o + 1 + 2 + numV l (o + 1), _, g, .s (pack []), rfl, by omega, by omega, by omega, by omega, by omega, kn6, (RdS.eq r6 (by omega)), hT6, hW6, hO6, (by rw [hlp, loop_step (entO_s1 hkd (by assumption) hx2) hc3 hap, Bool.and_true, hcs]), rfl⟩)
end Go.Proofs.YtjoakhpdajlhiaaDoor.V2.S
namespace Go.Proofs.YtjoakhpdajlhiaaDoor.V2.S
open Go
set_option maxRecDepth 100000
set_option maxHeartbeats 4000000
set_option linter.unusedVariables false
attribute [local irreducible] fN fO nM gM pM Phi.fn mp bl bpart bapp top1 pack numV
theorem parse_sh {l : Bs} (h : textO l 0 = none ∨ ∃ c o1, textO l 0 = some (c, o1) ∧ (l.length < o1 + 2 ∨ loopP l (numV l o1) (o1 + 2) newG true = none)) : parseG l = (none, 4) := by
  unfold parseG
  rcases h with h | ⟨c, o1, h, h2⟩
  · rw [h]
  · rw [h]
    show (if o1 + 2 ≤ l.length then _ else _) = _
    by_cases h3 : o1 + 2 ≤ l.length
    · rw [if_pos h3, h2.resolve_left (by omega)]
    · rw [if_neg h3]
theorem parse_of {l c : Bs} {o1 : Nat} {t : Tr} {g : Bool} (h : textO l 0 = some (c, o1)) (h1 : o1 + 2 ≤ l.length) (h2 : loopP l (numV l o1) (o1 + 2) newG true = some (t, g)) : parseG l = if g = true ∧ (cdG t c).2 = 0 ∧ treeB (cdG t c).1 = l then (some (cdG t c).1, 0) else (none, 5) := by
  unfold parseG
  rw [h]
  show (if o1 + 2 ≤ l.length then _ else _) = _
  rw [if_pos h1, h2]
def cntP (l : Bs) : Nat := match textO l 0 with
  | none => 0
  | some (_, o1) => numV l o1
theorem cntP_of {l c : Bs} {o1 : Nat} (h : textO l 0 = some (c, o1)) : cntP l = numV l o1 := by unfold cntP; rw [h]
def ParseS (H : HF) : Prop := ∀ {Bb K n : Nat} {x : Bool} {l : Bs} {e : TypeId} {tl : Tl} {m : T FObj}, Am m Bb (.bs (pack l) e tl) → Bb < n → l.length ≤ K → l.length ≤ 900000 → ∀ (k : KV) (P : FR), n + (2000 + 160 * min (cntP l) (l.length / 3) + 2 * l.length) ≤ 1000000 →
  (∀ c n' m', parseG l = (none, c) → (c = 4 ∨ c = 5) → n ≤ n' → n' ≤ n + (2000 + 160 * min (cntP l) (l.length / 3) + 2 * l.length) → Kp n m m' → k (.tup [.o .ptr, .n .i64 c]) ⟨n', m'⟩ = P) →
  (∀ t tb mb n' m', parseG l = (some t, 0) → n ≤ n' → n' ≤ n + (2000 + 160 * min (cntP l) (l.length / 3) + 2 * l.length) → Kp n m m' → tb ≠ mb → n ≤ tb → tb < n' → n ≤ mb → mb < n' → TreeAt m' tb mb 65 t → k (.tup [.p tb 0, .n .i64 0]) ⟨n', m'⟩ = P) → H [.sl Bb 0 l.length K x 1] ⟨n, m⟩ k = P
theorem parse_s {O : Oz} (hO : O = zO) (Φ : Phi) (HNew : NewS (Phi.fn Φ 26)) (HTx : TextS (Phi.fn Φ 42)) (HNu : NumS (Phi.fn Φ 43)) (HTk : TakeS (Phi.fn Φ 44)) (HA : AbsF (Phi.fn Φ 12)) (HK : KindS (Phi.fn Φ 35)) (HP : PutS (Phi.fn Φ 39)) (HCd : CdS (Phi.fn Φ 16)) (HB : BytesS (Phi.fn Φ 10)) (HE : EqBS (Phi.fn Φ 17)) : ParseS (p21 O Φ) := fun {Bb K n x l e tl m} ha hb hK hl9 k P hn hc1 hc2 => by
  have hnv0 := numV_le l 0
  have hl0 : 0 + l.length = l.length := Nat.zero_add _
  repeat' ((conv => lhs; whnf); first | ((with_reducible refine atFn ?_); first | (refine HNew _ _ _ _ (by omega) (fun v1 n1 m1 h1 g1 k1 q1 => ?_); obtain ⟨tb, mb, rfl, htm, t1, t2, t3, t4, hT⟩ := q1; have k1p := Kq.kp k1; have hTs := hT.s; have hTm := hT.m; clear hT) | (refine HTx (rb := n) (Bb := Bb) ⟨K, x, hK, (by (repeat (first | assumption | exact am_same (by omega) | apply am_ne (by omega) (by omega) | apply kp_am (by assumption) (by omega) | apply Kq.am (by assumption) (by omega) (by first | exact nm0 | exact nm1 (by omega) | exact nm2 (by omega) (by omega)))); fail_if_success show _)⟩ (by (repeat (first | assumption | exact am_same (by omega) | apply am_ne (by omega) (by omega) | apply kp_am (by assumption) (by omega) | apply Kq.am (by assumption) (by omega) (by first | exact nm0 | exact nm1 (by omega) | exact nm2 (by omega) (by omega)))); fail_if_success show _) (by omega) (by omega) (by omega) (by omega) hl9 _ _ (by omega) (fun hs z2 o2 R2 n2 m2 hz2 ho2 h2 g2 k2 r2 => (fun k2l => ?_) (Kq.low (n := n) k2 (by omega) (fun x hx => by simp only [List.mem_cons, List.not_mem_nil, or_false] at hx; omega))) (fun hs hm hv m2 k2 r2 => (fun k2l => ?_) (Kq.low (n := n) k2 (by omega) (fun x hx => by simp only [List.mem_cons, List.not_mem_nil, or_false] at hx; omega))); rotate_left; (have hxc := textO_some (l := l) (o := 0) (R := l.length) hl0 hm hv; generalize hpc : (l.drop (0 + 2)).take (numV l 0) = c at hxc ⊢; have hcl : c.length = numV l 0 := (by rw [← hpc, List.length_take, List.length_drop]; omega); clear hpc); rotate_left) | (refine HNu (rb := n) (Bb := Bb) r2 (by (repeat (first | assumption | exact am_same (by omega) | apply am_ne (by omega) (by omega) | apply kp_am (by assumption) (by omega) | apply Kq.am (by assumption) (by omega) (by first | exact nm0 | exact nm1 (by omega) | exact nm2 (by omega) (by omega)))); fail_if_success show _) (by omega) (by omega) (by omega) (by omega) hl9 _ _ (by omega) (fun hs3 n3 m3 h3 g3 k3 r3 => (fun k3l => ?_) (Kq.low (n := n) k3 (by omega) (fun x hx => by simp only [List.mem_cons, List.not_mem_nil, or_false] at hx; omega))) (fun hs3 hm3 m3 k3 r3 => (fun k3l => ?_) (Kq.low (n := n) k3 (by omega) (fun x hx => by simp only [List.mem_cons, List.not_mem_nil, or_false] at hx; omega))))) | ((with_reducible refine atBx ?_); refine bxA hO (by omega) (by simp only [αL, αV, AObj.of, allInt, βO, βL, βV, unp_pack]) ?_) | ((with_reducible refine atBu ?_); refine buE hO [.sl Bb 0 l.length K x 1, .b false] (fun _ _ => rfl) (by rfl) ?_))
  all_goals (conv => lhs; whnf)
  all_goals first
    | exact absurd hs3 (by decide)
    | refine lpI hO (fun q e n' m' => q = 0 ∧ n' = n3 ∧ m' = m3 ∧ ∃ y, e = eof [(2, .o .ptr), (3, .n .i64 0), (7, .n .i64 0), (10, y), (21, .n .i64 0)]) ?_ ?_ _ 0 _ _ _ (by omega) ⟨rfl, rfl, rfl, .o .top, rfl⟩
    | skip
  all_goals first
    | (rintro q e n' m' ⟨_, rfl, _⟩; omega)
    | (rintro q e n' m' ih ⟨rfl, rfl, rfl, y0, rfl⟩ hih
       obtain ⟨K3, x3, hK3, hr3⟩ := r3
       repeat' ((conv => lhs; whnf); first | ((with_reducible refine fa0 hO ?_)) | ((with_reducible refine atLd ?_); refine ldC hO aQ (by rfl) ?_) | ((with_reducible refine ltF hO (by omega) ?_)))
       all_goals (conv => lhs; whnf)
       all_goals first
         | exact hc1 4 _ _ (parse_sh (.inl (textO_no hl0 (by rcases hs with h | h; cases h; exact h)))) (.inl rfl) (by omega) (by omega) kQ
         | exact hc1 4 _ _ (parse_sh (.inr ⟨_, _, hxc, .inl (by rcases hs3 with h | h; cases h; omega)⟩)) (.inl rfl) (by omega) (by omega) kQ)
    | (have hcp := cntP_of hxc
       rw [hcp] at hn hc1 hc2
       have hnv2 := numV_le l (0 + 2 + numV l 0)
       refine loopP_s hO Φ HTx HTk HA HK HP (n := n) (rb := n) (Bb := Bb) (tb := tb) (mb := mb) (l := l) (m := m) (o1 := 0 + 2 + numV l 0 + 2) (cnt := numV l (0 + 2 + numV l 0)) (Nat.le_refl _) (by omega) (by omega) (by omega) (by omega) (by omega) htm (by omega) (by omega) hb hl9 hnv2 (by omega) ha kQ (by omega) (RdS.eq r3 (by omega)) ⟨(by (repeat (first | assumption | exact am_same (by omega) | apply am_ne (by omega) (by omega) | apply kp_am (by assumption) (by omega) | apply Kq.am (by assumption) (by omega) (by first | exact nm0 | exact nm1 (by omega) | exact nm2 (by omega) (by omega)))); fail_if_success show _), (by (repeat (first | assumption | exact am_same (by omega) | apply am_ne (by omega) (by omega) | apply kp_am (by assumption) (by omega) | apply Kq.am (by assumption) (by omega) (by first | exact nm0 | exact nm1 (by omega) | exact nm2 (by omega) (by omega)))); fail_if_success show _)⟩ (by omega) ?_ ?_
       · rintro e' n' m' o' R' hl5 h5 g5 k5 r5 ⟨z, y, w, rfl⟩
         obtain ⟨K5, x5, hK5, hr5⟩ := r5
         repeat' ((conv => lhs; whnf); first | ((with_reducible refine fa0 hO ?_)) | ((with_reducible refine atLd ?_); refine ldC hO aQ (by rfl) ?_))
         all_goals (conv => lhs; whnf)
         all_goals first
           | exact hc1 4 _ _ (parse_sh (.inr ⟨_, _, hxc, .inr hl5⟩)) (.inl rfl) (by omega) (by omega) k5
       · rintro t g y n5 m5 o' hl5 h5 g5 k5 r5 hT5 hW5 hO5
         obtain ⟨K5, x5, hK5, hr5⟩ := r5
         have hpo := parse_of hxc (by omega) hl5
         generalize hgv : (if g = true then 0 else 5 : Nat) = gv
         rcases g with _ | _
         obtain rfl : gv = 5 := hgv.symm
         rotate_left
         obtain rfl : gv = 0 := hgv.symm
         rotate_left
         repeat' ((conv => lhs; whnf); first | ((with_reducible refine atFn ?_); first | (refine HCd (t := t) ⟨hT5.s, hT5.m⟩ (by omega) (by omega) hW5 c (by omega) _ _ (by omega) (fun v6 n6 m6 h6 g6 k6 q6 => ?_); obtain ⟨rfl, hT6⟩ := q6; have hT6 := hT6 htm; have k6p := k5.trans (Kq.low (n := n) k6 (by omega) (fun x hx => by simp only [List.mem_cons, List.not_mem_nil, or_false] at hx; omega)) (Nat.le_refl n)) | (refine HB (t := (cdG t c).1) ⟨hT6.s, hT6.m⟩ (by omega) (by omega) (cdG_wf hW5 c) _ _ (by omega) (fun v7 n7 m7 h7 g7 k7 q7 => ?_); obtain ⟨bb, rfl, b1, b2, b3⟩ := q7; have k7p := k6p.trans (Kq.low (n := n) k7 (by omega) (fun x hx => absurd hx List.not_mem_nil)) (Nat.le_refl n); have hT7 := hT6.kp (Kq.kp k7) (by omega) (by omega)) | (refine HE b3 (k7p _ _ (by omega) ha) (by have := byI_len (cdG_wf hW5 c) (cdG t c).1.L.length; rw [byI_all] at this; omega) hl9 _ _ ?_; rcases Decidable.em (treeB (cdG t c).1 = l) with hq | hq; rw [decide_eq_true hq]; rotate_left; rw [decide_eq_false hq]; rotate_left)) | ((with_reducible refine fa0 hO ?_)) | ((with_reducible refine atLd ?_); refine ldC hO aQ (by rfl) ?_) | ((with_reducible refine neT hO (by omega) ?_)) | ((with_reducible refine neF hO (by omega) ?_)) | ((with_reducible refine neB hO (fun h => ?_) (fun h => ?_))))
         all_goals (conv => lhs; whnf)
         all_goals first
           | exact hc1 5 _ _ (hpo.trans (if_neg fun h => absurd h.1 (by decide))) (.inr rfl) (by omega) (by omega) k5
           | exact hc1 5 _ _ (hpo.trans (if_neg fun h => absurd h.2.1 (by assumption))) (.inr rfl) (by omega) (by omega) k6p
           | exact hc1 5 _ _ (hpo.trans (if_neg fun h => absurd h.2.2 (by assumption))) (.inr rfl) (by omega) (by omega) k7p
           | exact hc2 _ _ _ _ _ (hpo.trans (if_pos ⟨rfl, by assumption, by assumption⟩)) (by omega) (by omega) k7p htm (by omega) (by omega) (by omega) (by omega) hT7)
end Go.Proofs.YtjoakhpdajlhiaaDoor.V2.S
namespace Go.Proofs.YtjoakhpdajlhiaaDoor.V2.S
open Go
set_option maxRecDepth 100000
set_option maxHeartbeats 4000000
set_option linter.unusedVariables false
attribute [local irreducible] fN fO nM gM pM Phi.fn mp bl bpart bapp top1 pack numV
theorem svN {O : Oz} (hO : O = zO) {P : FR} {c : FV → FR} {k : IntKind} {z : Nat} (hc : c (.o .sl) = P) : O.sv z (.o .sl) none (some (.n k 0)) none c = P := by subst hO; exact hc
def RdN (m : T FObj) (rb : Nat) (s : Bool) : Prop := Am m rb (.cells [.o .sl, .b s] 79 .exact)
def TakeN (H : HF) : Prop := ∀ {rb many n : Nat} {s : Bool} {m : T FObj}, RdN m rb s → rb < n → many ≤ 900000 → (s = true ∨ 0 < many) → ∀ (k : KV) (P : FR), n + 1 ≤ 1000000 →
  (∀ m', Kq [rb] n m m' → RdN m' rb true → Am m' n (.bs (pack (List.replicate (min many 2) 0)) 5 .exact) → k (.sl n 0 (min many 2) (min many 2) true 1) ⟨n + 1, m'⟩ = P) → H [.p rb 0, .n .i64 many] ⟨n, m⟩ k = P
theorem take_n {O : Oz} (hO : O = zO) (Φ : Phi) : TakeN (p44 O Φ) := fun {rb many n s m} hR hrb hmany hs k P hn h1 => by
  have hr : Am m rb (.cells [.o .sl, .b s] 79 .exact) := hR
  cases s
  repeat' ((conv => lhs; whnf); first | ((with_reducible refine mkB hO (by omega) (by omega) ?_)) | ((with_reducible refine fa0 hO ?_)) | ((with_reducible refine atLd ?_); refine ldC hO aQ (by rfl) ?_) | ((with_reducible refine lvN hO ?_)) | ((with_reducible refine gtB hO (fun h => ?_) (fun h => ?_))) | ((with_reducible refine mnI hO ?_)) | ((with_reducible refine atSt ?_); refine stC hO aQ (by kernel_rfl) (fun _ _ _ => rfl) (fun _ => rfl) ?_) | ((with_reducible first | refine umt hO ?_ | refine uqu hO ?_ | refine urm hO ?_ | refine uan hO ?_ | refine uro hO ?_ | refine uxr hO ?_ | refine uhl hO ?_ | refine uhr hO ?_ | refine uad hO ?_ | refine usb hO ?_ | refine ult hO ?_ | refine ule hO ?_ | refine ugt hO ?_ | refine uge hO ?_ | refine ueq hO ?_ | refine une hO ?_ | refine ucv hO ?_ | refine uia hO ?_ | refine usv hO ?_ | refine ubu hO ?_ | refine uap hO ?_ | refine ubs hO ?_ | refine umm hO ?_ | refine upq hO ?_ | refine unq hO ?_ | refine uln hO ?_)) | ((with_reducible refine atB ?_); refine brecBT (by omega) ?_))
  all_goals (conv => lhs; whnf)
  all_goals first
    | exact h1 _ qQ (by (repeat (first | assumption | exact am_same (by omega) | apply am_ne (by omega) (by omega) | apply kp_am (by assumption) (by omega) | apply Kq.am (by assumption) (by omega) (by first | exact nm0 | exact nm1 (by omega) | exact nm2 (by omega) (by omega)))); fail_if_success show _) (am_same (by omega))
    | (exfalso; rcases hs with h | h; cases h; omega)
def NumN (H : HF) : Prop := ∀ {rb n : Nat} {s : Bool} {m : T FObj}, RdN m rb s → rb < n → ∀ (k : KV) (P : FR), n + 1 ≤ 1000000 → (∀ m', Kq [rb] n m m' → RdN m' rb true → k (.n .i64 0) ⟨n + 1, m'⟩ = P) → H [.p rb 0] ⟨n, m⟩ k = P
theorem num_n {O : Oz} (hO : O = zO) (Φ : Phi) (H : TakeN (Phi.fn Φ 44)) : NumN (p43 O Φ) := fun {rb n s m} hR hrb k P hn h1 => by
  repeat' ((conv => lhs; whnf); first | ((with_reducible refine hl0 hO ?_)) | ((with_reducible refine ro0 hO ?_)) | ((with_reducible refine atFn ?_); (refine H hR (by omega) (by omega) (.inr (by omega)) _ _ (by omega) (fun m1 k1 r1 a1 => ?_); rw [Nat.min_self])) | ((with_reducible refine atLd ?_); (refine ldB hO a1 (by rw [List.length_replicate]; decide) ?_; rw [bt_rep])) | ((with_reducible refine cvI hO (by omega) ?_)) | ((with_reducible refine ix01 hO (by omega) ?_)))
  all_goals (conv => lhs; whnf)
  all_goals first
    | exact h1 _ qQ r1
def TextN (H : HF) : Prop := ∀ {rb n : Nat} {s : Bool} {m : T FObj}, RdN m rb s → rb < n → ∀ (k : KV) (P : FR), n + 2 ≤ 1000000 → (∀ z m', Kq [rb] n m m' → RdN m' rb true → k (.s (pack z)) ⟨n + 2, m'⟩ = P) → H [.p rb 0] ⟨n, m⟩ k = P
theorem text_n {O : Oz} (hO : O = zO) (Φ : Phi) (HN : NumN (Phi.fn Φ 43)) (H : TakeN (Phi.fn Φ 44)) : TextN (p42 O Φ) := fun {rb n s m} hR hrb k P hn h1 => by
  repeat' ((conv => lhs; whnf); first | (refine bSP hO (by (repeat (first | assumption | exact am_same (by omega) | apply am_ne (by omega) (by omega) | apply kp_am (by assumption) (by omega) | apply Kq.am (by assumption) (by omega) (by first | exact nm0 | exact nm1 (by omega) | exact nm2 (by omega) (by omega)))); fail_if_success show _) (by first | omega | (rw [List.length_replicate]; omega)) ?_) | ((with_reducible refine atFn ?_); first | (refine HN hR (by omega) _ _ (by omega) (fun m1 k1 r1 => ?_)) | (refine H r1 (by omega) (by omega) (.inl rfl) _ _ (by omega) (fun m2 k2 r2 a2 => ?_))))
  all_goals (conv => lhs; whnf)
  all_goals first
    | exact h1 _ _ qQ r2
def ParseN (H : HF) : Prop := ∀ (n : Nat) (m : T FObj), Ret 20 H [.o .sl] n m (.tup [.o .ptr, .n .i64 4])
theorem parse_n {O : Oz} (hO : O = zO) (Φ : Phi) (HNew : NewS (Phi.fn Φ 26)) (HTx : TextN (Phi.fn Φ 42)) (HNu : NumN (Phi.fn Φ 43)) : ParseN (p21 O Φ) := fun n m k P hn hf => by
  repeat' ((conv => lhs; whnf); first | ((with_reducible refine atFn ?_); first | (refine HNew _ _ _ _ (by omega) (fun v1 n1 m1 h1 g1 k1 q1 => ?_); obtain ⟨tb, mb, rfl, htm, t1, t2, t3, t4, hT⟩ := q1; have k1p := Kq.kp k1) | (refine HTx (rb := n) (s := false) (show Am _ _ _ from (by (repeat (first | assumption | exact am_same (by omega) | apply am_ne (by omega) (by omega) | apply kp_am (by assumption) (by omega) | apply Kq.am (by assumption) (by omega) (by first | exact nm0 | exact nm1 (by omega) | exact nm2 (by omega) (by omega)))); fail_if_success show _)) (by omega) _ _ (by omega) (fun z2 m2 k2 r2 => (fun k2l => ?_) (Kq.low (n := n) k2 (by omega) (fun x hx => by simp only [List.mem_cons, List.not_mem_nil, or_false] at hx; omega)))) | (refine HNu (rb := n) r2 (by omega) _ _ (by omega) (fun m3 k3 r3 => (fun k3l => ?_) (Kq.low (n := n) k3 (by omega) (fun x hx => by simp only [List.mem_cons, List.not_mem_nil, or_false] at hx; omega))))) | ((with_reducible refine atBx ?_); refine bxA hO (by omega) (by rfl) ?_) | ((with_reducible refine atBu ?_); refine buE hO [.o .sl, .b false] (fun _ _ => rfl) (by rfl) ?_))
  all_goals (conv => lhs; whnf)
  all_goals first
    | refine lpI hO (fun q e n' m' => q = 0 ∧ n' = n1 + 2 + 1 ∧ m' = m3 ∧ ∃ y, e = eof [(2, .o .ptr), (3, .n .i64 0), (7, .n .i64 0), (10, y), (21, .n .i64 0)]) ?_ ?_ _ 0 _ _ _ (by omega) ⟨rfl, rfl, rfl, .o .top, rfl⟩
  all_goals first
    | (rintro q e n' m' ⟨_, rfl, _⟩; omega)
    | (rintro q e n' m' ih ⟨rfl, rfl, rfl, y0, rfl⟩ hih
       have hr3 : Am m' n (.cells [.o .sl, .b true] 79 .exact) := r3
       repeat' ((conv => lhs; whnf); first | ((with_reducible refine fa0 hO ?_)) | ((with_reducible refine atLd ?_); refine ldC hO aQ (by rfl) ?_) | ((with_reducible refine ltF hO (by omega) ?_)))
       all_goals (conv => lhs; whnf)
       all_goals first
         | exact hf _ _ (by omega) (by omega) kQ)
end Go.Proofs.YtjoakhpdajlhiaaDoor.V2.S
namespace Go.Proofs.YtjoakhpdajlhiaaDoor.V2.S
open Go
set_option maxRecDepth 100000
set_option linter.unusedVariables false
theorem sortE_id : ∀ {l : List En}, (l.map En.path).Pairwise (· < ·) → sortE l = l
  | [], _ => rfl
  | e :: l, h => by
    rw [List.map_cons, List.pairwise_cons] at h
    rw [sortE, sortE_id h.2]
    cases l with
    | nil => rfl
    | cons y l =>
      have h1 := h.1 y.path (by simp)
      rw [insE, if_neg (List.lt_asymm h1)]
end Go.Proofs.YtjoakhpdajlhiaaDoor.V2.S
namespace Go.Proofs.YtjoakhpdajlhiaaDoor.V2.S
open Go
set_option maxRecDepth 100000
set_option linter.unusedVariables false
/-! A tree is read of its own bytes. -/
theorem look_out {p : Bs} : ∀ {L : List En}, p ∉ L.map En.path → lookM En.path p L = none
  | [], _ => rfl
  | a :: L, h => by
    rw [List.map_cons, List.mem_cons, not_or] at h
    unfold lookM
    rw [if_neg (fun e => h.1 e.symm), look_out h.2]
theorem sortE_pw {t : Tr} (hW : WfT t) : ((sortE t.L).map En.path).Pairwise (· < ·) := by rw [sortE_map]; exact sortB_pw hW.nd
end Go.Proofs.YtjoakhpdajlhiaaDoor.V2.S
namespace Go.Proofs.YtjoakhpdajlhiaaDoor.V2.S
open Go
set_option maxRecDepth 100000
set_option maxHeartbeats 4000000
set_option linter.unusedVariables false
attribute [local irreducible] fN fO nM gM pM Phi.fn mp bl bpart bapp top1 pack numV
theorem look_first {p : Bs} : ∀ {L : List En} {i : Nat} {e : En}, L[i]? = some e → e.path = p → (∀ j, j < i → ∀ x, L[j]? = some x → x.path ≠ p) → lookM En.path p L = some e
  | [], i, e, h, _, _ => by simp at h
  | a :: L, 0, e, h, hp, _ => by
    simp at h; subst h
    unfold lookM; rw [if_pos hp]
  | a :: L, i + 1, e, h, hp, hj => by
    unfold lookM
    rw [if_neg (hj 0 (by omega) a rfl)]
    exact look_first (by simpa using h) hp fun j hj2 x hx => hj (j + 1) (by omega) x (by simpa using hx)
theorem look_no {p : Bs} {L : List En} (h : ∀ j, j < L.length → ∀ x, L[j]? = some x → x.path ≠ p) : lookM En.path p L = none := look_out fun hm => by
  obtain ⟨x, h1, h2⟩ := List.mem_map.1 hm
  obtain ⟨j, h3⟩ := List.getElem?_of_mem h1
  exact h j (List.getElem?_eq_some_iff.1 h3).1 x h3 h2
def FindR (H : HF) : Prop := ∀ {rb nn n : Nat} {v : FV} {t : Tr} {m : T FObj}, RTree m rb nn v t → t.L.length ≤ 200 → ∀ (p : Bs) (k : KV) (P : FR), (∀ i e, t.L[i]? = some e → look t p = some e → k (.n .i64 i) ⟨n, m⟩ = P) → (look t p = none → k (.z .i64 0) ⟨n, m⟩ = P) → H [.p rb 0, .s (pack p)] ⟨n, m⟩ k = P
theorem find_r {O : Oz} (hO : O = zO) (Φ : Phi) : FindR (p74 O Φ) := fun {rb nn n v t m} hR hl p k P h1 h0 => by
  obtain ⟨hS, hRw⟩ := hR
  have hlen : t.L.length ≤ 200 := hl
  skip
  all_goals (conv => lhs; whnf)
  refine lpI hO (fun q e n' m' => ∃ i, i ≤ t.L.length ∧ q = t.L.length - i ∧ n' = n ∧ m' = m ∧ (∀ j, j < i → ∀ x, t.L[j]? = some x → x.path ≠ p) ∧ e = eof [(4, .n .i64 0), (5, .n .i64 i)]) ?_ ?_ _ t.L.length _ _ _ (by omega) ⟨0, by omega, by omega, rfl, rfl, fun j hj => absurd hj (Nat.not_lt_zero _), rfl⟩
  · rintro q e n' m' ⟨i, _, _, h, _⟩; omega
  · rintro q e n' m' ih ⟨i, hi, rfl, rfl, rfl, hj, rfl⟩ hih
    rcases Nat.lt_or_ge i t.L.length with hlt | hge
    · obtain ⟨y, hy⟩ : ∃ y, t.L[i]? = some y := ⟨_, List.getElem?_eq_getElem hlt⟩
      rcases hRw with ⟨h00, rfl⟩ | ⟨b, Kb, xb, eb, tlb, rfl, hbn, hbm⟩
      · rw [h00] at hlt; exact absurd hlt (Nat.not_lt_zero _)
      repeat' ((conv => lhs; whnf); first | ((with_reducible refine fa0 hO ?_)) | ((with_reducible refine faN hO ?_)) | ((with_reducible refine atLd ?_); first | refine ldC hO hS (by rfl) ?_ | refine ldC hO hbm (ens_at0 hy) ?_) | ((with_reducible refine lvS hO ?_)) | ((with_reducible refine ltT hO (by omega) ?_)) | ((with_reducible refine eqSB hO (fun h => ?_) (fun h => ?_))) | ((with_reducible refine adI hO (by omega) ?_)) | ((with_reducible refine ix0 hO (by omega) ?_)))
      all_goals (conv => lhs; whnf)
      all_goals first
        | exact h1 _ _ hy (look_first hy (by assumption) hj)
        | exact hih (t.L.length - (i + 1)) _ _ _ (by omega) ⟨i + 1, by omega, rfl, rfl, rfl, fun j hj2 x hx => by
            rcases Nat.lt_or_ge j i with h2 | h2
            · exact hj j h2 x hx
            · rw [show j = i by omega, hy] at hx; cases hx; assumption, rfl⟩
    · have hno : look t p = none := look_no fun j hj2 x hx => hj j (by omega) x hx
      obtain rfl : i = t.L.length := by omega
      repeat' ((conv => lhs; whnf); first | ((refine lvE hO hRw ?_)) | ((with_reducible refine fa0 hO ?_)) | ((with_reducible refine atLd ?_); refine ldC hO hS (by rfl) ?_) | ((with_reducible refine ltF hO (by omega) ?_)))
      all_goals (conv => lhs; whnf)
      all_goals first
        | exact h0 hno
def KindR (H : HF) : Prop := ∀ {rb nn n : Nat} {v : FV} {t : Tr} {m : T FObj}, RTree m rb nn v t → t.L.length ≤ 200 → ∀ p, Ret0 H [.p rb 0, .s (pack p)] n m (.n .i64 (kindG t p))
theorem kind_r {O : Oz} (hO : O = zO) (Φ : Phi) (HF : FindR (Phi.fn Φ 74)) : KindR (p48 O Φ) := fun {rb nn n v t m} hR hl p k P hf => by
  obtain ⟨hS, hRw⟩ := hR
  have hlen : t.L.length ≤ 200 := hl
  repeat' ((conv => lhs; whnf); first | ((with_reducible refine atFn ?_); refine HF ⟨hS, hRw⟩ hlen p _ _ (fun i e hix hlk => ?_) (fun hlk => ?_)) | ((with_reducible refine fa0 hO ?_)) | ((with_reducible refine atLd ?_); refine ldC hO hS (by rfl) ?_) | ((with_reducible refine ltF hO (by omega) ?_)) | ((with_reducible refine eqSB hO (fun h => ?_) (fun h => ?_))) | ((with_reducible first | refine umt hO ?_ | refine uqu hO ?_ | refine urm hO ?_ | refine uan hO ?_ | refine uro hO ?_ | refine uxr hO ?_ | refine uhl hO ?_ | refine uhr hO ?_ | refine uad hO ?_ | refine usb hO ?_ | refine ult hO ?_ | refine ule hO ?_ | refine ugt hO ?_ | refine uge hO ?_ | refine ueq hO ?_ | refine une hO ?_ | refine ucv hO ?_ | refine uia hO ?_ | refine usv hO ?_ | refine ubu hO ?_ | refine uap hO ?_ | refine ubs hO ?_ | refine umm hO ?_ | refine upq hO ?_ | refine unq hO ?_ | refine uln hO ?_)))
  all_goals (conv => lhs; whnf)
  all_goals first
    | (rw [show kindG t p = 1 by unfold kindG; rw [if_pos (by assumption)]] at hf; exact hf)
    | (rw [show kindG t p = 0 by unfold kindG; rw [if_neg (by assumption), hlk]] at hf; exact hf)
    | (rcases hRw with ⟨h00, rfl⟩ | ⟨b, Kb, xb, eb, tlb, rfl, hbn, hbm⟩
       · rw [h00] at hix; cases hix
       · have hil := (List.getElem?_eq_some_iff.1 hix).1
         repeat' ((conv => lhs; whnf); first | ((with_reducible refine faN hO ?_)) | ((with_reducible refine atLd ?_); refine ldC hO hbm (ens_at1 hix) ?_) | ((with_reducible refine ix0 hO (by omega) ?_)) | ((with_reducible refine atB ?_); refine brec (fun h => ?_) (fun h => ?_)))
         all_goals (conv => lhs; whnf)
         all_goals first
           | (rw [show kindG t p = 1 by unfold kindG; rw [if_neg (by assumption), hlk]; exact if_pos (by assumption)] at hf; exact hf)
           | (rw [show kindG t p = 2 by unfold kindG; rw [if_neg (by assumption), hlk]; exact if_neg (by simp [*])] at hf; exact hf))
def NamedR (H : HF) : Prop := ∀ (s : Bs) (n : Nat) (m : T FObj), s.length ≤ 900000 → Ret0 H [.s (pack s)] n m (.b (nameB s))
theorem named_r {O : Oz} (hO : O = zO) (Φ : Phi) : NamedR (p72 O Φ) := fun s n m hs k P hf => by
  skip
  all_goals (conv => lhs; whnf)
  refine lpI hO (fun q e n' m' => ∃ i, i ≤ s.length ∧ q = s.length - i ∧ n' = n ∧ m' = m ∧ (∀ j, j < i → odd (bt s j) = false) ∧ e = eof [(2, .b false), (3, .n .i64 i)]) ?_ ?_ _ s.length _ _ _ (by omega) ⟨0, by omega, by omega, rfl, rfl, fun j hj => absurd hj (Nat.not_lt_zero _), rfl⟩
  · rintro q e n' m' ⟨i, _, _, h, _⟩; omega
  · rintro q e n' m' ih ⟨i, hi, rfl, rfl, rfl, hj, rfl⟩ hih
    rcases Nat.lt_or_ge i s.length with hlt | hge
    · have odd_t : ∀ b : Bool, odd (bt s i) = true → b = true → nameB s = false := fun b h _ => by
        unfold nameB; rw [show (s.any fun b => odd b.toNat) = true from any_bt.2 ⟨i, hlt, h⟩]; simp
      repeat' ((conv => lhs; whnf); first | (((with_reducible refine lsS hO ?_); try simp only [List.length_cons, List.length_nil, Nat.zero_add])) | ((with_reducible refine ltT hO (by omega) ?_)) | ((with_reducible refine ltB hO (fun h => ?_) (fun h => ?_))) | ((with_reducible refine eqB hO (fun h => ?_) (fun h => ?_))) | ((with_reducible refine adI hO (by omega) ?_)) | ((with_reducible refine txS hO (by first | omega | decide) ?_)))
      all_goals (conv => lhs; whnf)
      all_goals first
        | (rw [odd_t true (by unfold odd; simp [*]) rfl] at hf; exact hf)
        | exact hih (s.length - (i + 1)) _ _ _ (by omega) ⟨i + 1, by omega, rfl, rfl, rfl, fun j hj2 => by
            rcases Nat.lt_or_ge j i with h2 | h2
            · exact hj j h2
            · rw [show j = i by omega]; unfold odd; simp only [Bool.or_eq_false_iff, decide_eq_false_iff_not]; omega, rfl⟩
    · have hany : (s.any fun b => odd b.toNat) = false := any_bt_f fun j hj2 => hj j (by omega)
      obtain rfl : i = s.length := by omega
      repeat' ((conv => lhs; whnf); first | (((with_reducible refine lsS hO ?_); try simp only [List.length_cons, List.length_nil, Nat.zero_add])) | ((with_reducible refine ltF hO (by omega) ?_)) | ((with_reducible refine leB hO (fun h => ?_) (fun h => ?_))) | ((with_reducible refine geB hO (fun h => ?_) (fun h => ?_))) | ((with_reducible refine neSB hO (fun h => ?_) (fun h => ?_))))
      all_goals (conv => lhs; whnf)
      all_goals first
        | (rw [show nameB s = true by unfold nameB; rw [hany]; have hne : s ≠ [] := (fun h => by have h2 := congrArg List.length h; rw [List.length_nil] at h2; omega); simp [*]] at hf; exact hf)
        | (have e : ¬ s.length ≤ 32 := by omega
           rw [show nameB s = false by unfold nameB; simp [e]] at hf; exact hf)
        | (have e : s = [] := List.length_eq_zero_iff.1 (by omega)
           rw [show nameB s = false by unfold nameB; simp [e]] at hf; exact hf)
        | (rw [show nameB s = false by unfold nameB; simp [*]] at hf; exact hf)
def ParR (H : HF) : Prop := ∀ (p : Bs) (n : Nat) (m : T FObj), p.head? = some 47 → p.length ≤ 900000 → Ret0 H [.s (pack p)] n m (.s (pack (parG p)))
theorem par_r {O : Oz} (hO : O = zO) (Φ : Phi) : ParR (p73 O Φ) := fun p n m hh hl k P hf => by
  have hp : 1 ≤ p.length := by cases p with | nil => cases hh | cons c l => exact Nat.succ_le_succ (Nat.zero_le _)
  have hb0 : bt p 0 = 47 := by cases p with | nil => cases hh | cons c l => simp at hh; subst hh; rfl
  have ht1 : p.take 1 = [47] := by cases p with | nil => cases hh | cons c l => simp at hh; subst hh; rfl
  repeat' ((conv => lhs; whnf); first | (((with_reducible refine lsS hO ?_); try simp only [List.length_cons, List.length_nil, Nat.zero_add])) | ((with_reducible refine sbI hO (by omega) (by omega) ?_)))
  all_goals (conv => lhs; whnf)
  refine lpI hO (fun q e n' m' => q < p.length ∧ n' = n ∧ m' = m ∧ (∀ j, q < j → j < p.length → bt p j ≠ 47) ∧ e = eof [(2, .s (pack [])), (3, .n .i64 q)]) ?_ ?_ _ (p.length - 1) _ _ _ (by omega) ⟨by omega, rfl, rfl, fun j h1 h2 => by omega, rfl⟩
  · rintro q e n' m' ⟨_, h, _⟩; omega
  · rintro q e n' m' ih ⟨hq, rfl, rfl, hj, rfl⟩ hih
    have hqp : ∀ z, q = z → parG p = p.take (max z 1) ∨ bt p q ≠ 47 := fun z hz => by
      subst hz
      by_cases h : bt p q = 47
      · refine .inl ?_
        unfold parG; rw [lastS_some hq h hj, Nat.add_sub_cancel]
      · exact .inr h
    repeat' ((conv => lhs; whnf); first | ((with_reducible refine gtB hO (fun h => ?_) (fun h => ?_))) | ((with_reducible refine eqT hO (by omega) ?_)) | ((with_reducible refine eqF hO (by omega) ?_)) | ((with_reducible refine neB hO (fun h => ?_) (fun h => ?_))) | ((with_reducible refine sbI hO (by omega) (by omega) ?_)) | ((with_reducible refine txS hO (by first | omega | decide) ?_)) | ((with_reducible refine ssH hO (by omega) ?_)))
    all_goals (conv => lhs; whnf)
    all_goals first
      | exact hih (q - 1) _ _ _ (by omega) ⟨by omega, rfl, rfl, fun j h1 h2 => by
          rcases Nat.lt_or_ge q j with h3 | h3
          · exact hj j h3 h2
          · rw [show j = q by omega]; assumption, rfl⟩
      | (obtain rfl : q = 0 := by omega
         rw [(hqp 0 rfl).resolve_right (by simpa using hb0), show max 0 1 = 1 from rfl, ht1] at hf; exact hf)
      | (rw [(hqp q rfl).resolve_right (by omega), show max q 1 = q by omega] at hf; exact hf)
def NewR (H : HF) : Prop := ∀ (n : Nat) (m : T FObj) (k : KV) (P : FR), n + 1 ≤ 1000000 → (∀ m', Kp n m m' → Am m' n (.cells [.o .sl, .s (pack [47])] 91 .exact) → k (.p n 0) ⟨n + 1, m'⟩ = P) → H [] ⟨n, m⟩ k = P
theorem new_r {O : Oz} (hO : O = zO) (Φ : Phi) : NewR (p45 O Φ) := fun n m k P hn hf => by
  repeat' ((conv => lhs; whnf); first | ((with_reducible refine atBx ?_); refine bxA hO (by omega) (by simp only [αL, αV, Nl.av, AObj.of, βO, βL, βV, unp_pack]) ?_) | ((with_reducible first | refine umt hO ?_ | refine uqu hO ?_ | refine urm hO ?_ | refine uan hO ?_ | refine uro hO ?_ | refine uxr hO ?_ | refine uhl hO ?_ | refine uhr hO ?_ | refine uad hO ?_ | refine usb hO ?_ | refine ult hO ?_ | refine ule hO ?_ | refine ugt hO ?_ | refine uge hO ?_ | refine ueq hO ?_ | refine une hO ?_ | refine ucv hO ?_ | refine uia hO ?_ | refine usv hO ?_ | refine ubu hO ?_ | refine uap hO ?_ | refine ubs hO ?_ | refine umm hO ?_ | refine upq hO ?_ | refine unq hO ?_ | refine uln hO ?_)))
  all_goals (conv => lhs; whnf)
  all_goals first
    | exact hf _ kQ (am_same (by omega))
def UsedR (H : HF) : Prop := ∀ {rb nn n : Nat} {v : FV} {t : Tr} {m : T FObj}, RTree m rb nn v t → t.L.length ≤ 200 → sizesG t.L ≤ 900000000 → Ret0 H [.p rb 0] n m (.tup [.n .i64 t.L.length, .n .i64 (sizesG t.L)])
theorem used_r {O : Oz} (hO : O = zO) (Φ : Phi) : UsedR (p53 O Φ) := fun {rb nn n v t m} hR hl hsz k P hf => by
  obtain ⟨hS, hRw⟩ := hR
  have hlen : t.L.length ≤ 200 := hl
  skip
  all_goals (conv => lhs; whnf)
  refine lpI hO (fun q e n' m' => ∃ i, i ≤ t.L.length ∧ q = t.L.length - i ∧ n' = n ∧ m' = m ∧ e = eof [(2, .n .i64 0), (3, .n .i64 0), (4, .n .i64 (sizesG (t.L.take i))), (5, .n .i64 i)]) ?_ ?_ _ t.L.length _ _ _ (by omega) ⟨0, by omega, by omega, rfl, rfl, rfl⟩
  · rintro q e n' m' ⟨i, _, _, h, _⟩; omega
  · rintro q e n' m' ih ⟨i, hi, rfl, rfl, rfl, rfl⟩ hih
    rcases Nat.lt_or_ge i t.L.length with hlt | hge
    · obtain ⟨y, hy⟩ : ∃ y, t.L[i]? = some y := ⟨_, List.getElem?_eq_getElem hlt⟩
      have hs1 := sizesG_take hy
      have hs2 := sizesG_le_take t.L (i + 1)
      rcases hRw with ⟨h00, rfl⟩ | ⟨b, Kb, xb, eb, tlb, rfl, hbn, hbm⟩
      · rw [h00] at hlt; exact absurd hlt (Nat.not_lt_zero _)
      repeat' ((conv => lhs; whnf); first | ((with_reducible refine fa0 hO ?_)) | ((with_reducible refine faN hO ?_)) | ((with_reducible refine atLd ?_); first | refine ldC hO hS (by rfl) ?_ | refine ldC hO hbm (ens_at0 hy) ?_ | refine ldC hO hbm (ens_at2 hy) ?_) | (((with_reducible refine lsS hO ?_); try simp only [List.length_cons, List.length_nil, Nat.zero_add])) | ((with_reducible refine lvS hO ?_)) | ((with_reducible refine ltT hO (by omega) ?_)) | ((with_reducible refine adI hO (by omega) ?_)) | ((with_reducible refine ix0 hO (by omega) ?_)))
      all_goals (conv => lhs; whnf)
      all_goals first
        | (rw [Nat.add_assoc, ← hs1]; exact hih (t.L.length - (i + 1)) _ _ _ (by omega) ⟨i + 1, by omega, rfl, rfl, rfl, rfl⟩)
    · obtain rfl : i = t.L.length := by omega
      repeat' ((conv => lhs; whnf); first | ((refine lvE hO hRw ?_)) | ((with_reducible refine fa0 hO ?_)) | ((with_reducible refine atLd ?_); refine ldC hO hS (by rfl) ?_) | ((with_reducible refine ltF hO (by omega) ?_)))
      all_goals (conv => lhs; whnf)
      all_goals first
        | (rw [List.take_length]; exact hf)
def TextR (H : HF) : Prop := ∀ {Bb K n o : Nat} {x : Bool} {l : Bs} {e : TypeId} {tl : Tl} {m : T FObj}, Am m Bb (.bs (pack l) e tl) → l.length ≤ K → l.length ≤ 900000 → o ≤ 900000 → ∀ (k : KV) (P : FR), (textO l o = none → k (.tup [.s (pack []), .z .i64 0]) ⟨n, m⟩ = P) → (∀ s o', textO l o = some (s, o') → k (.tup [.s (pack s), .n .i64 o']) ⟨n, m⟩ = P) → H [.sl Bb 0 l.length K x 1, .n .i64 o] ⟨n, m⟩ k = P
theorem text_r {O : Oz} (hO : O = zO) (Φ : Phi) : TextR (p46 O Φ) := fun {Bb K n o x l e tl m} ha hK hl9 ho k P h0 h1 => by
  have hnv := numV_le l o
  have hnm : 256 * bt l o + bt l (o + 1) = numV l o := by unfold numV; omega
  have hb1 := bt_le l o
  have hb2 := bt_le l (o + 1)
  repeat' ((conv => lhs; whnf); first | (refine bSP hO ha (by omega) ?_) | ((refine adI (a := 256 * bt l o) (b := bt l (o + 1)) hO (by omega) ?_; rw [hnm])) | ((with_reducible refine atLd ?_); refine ldB hO ha (by omega) ?_) | ((with_reducible refine lvS hO ?_)) | ((with_reducible refine ltF hO (by omega) ?_)) | ((with_reducible refine gtB hO (fun h => ?_) (fun h => ?_))) | ((with_reducible refine adI hO (by omega) ?_)) | ((with_reducible refine mtI hO (by omega) ?_)) | ((with_reducible refine cvI hO (by omega) ?_)) | ((with_reducible refine ix01 hO (by omega) ?_)) | ((with_reducible refine svB hO (by omega) (by omega) ?_)))
  all_goals (conv => lhs; whnf)
  all_goals first
    | exact h0 (by unfold textO; rw [if_neg (by omega)])
    | (refine h1 _ _ ?_; unfold textO; rw [if_pos (by omega), show o + 2 + numV l o - (o + 2) = numV l o by omega, show 0 + (o + 2) * 1 = o + 2 by omega])
def TextRM (H : HF) : Prop := ∀ (v : FV) (n : Nat) (m : T FObj), Ret0 H [v, .z .i64 0] n m (.tup [.s (pack []), .z .i64 0])
theorem text_rm {O : Oz} (hO : O = zO) (Φ : Phi) : TextRM (p46 O Φ) := fun v n m k P hf => by
  repeat' ((conv => lhs; whnf); first | ((with_reducible first | refine umt hO ?_ | refine uqu hO ?_ | refine urm hO ?_ | refine uan hO ?_ | refine uro hO ?_ | refine uxr hO ?_ | refine uhl hO ?_ | refine uhr hO ?_ | refine uad hO ?_ | refine usb hO ?_ | refine ult hO ?_ | refine ule hO ?_ | refine ugt hO ?_ | refine uge hO ?_ | refine ueq hO ?_ | refine une hO ?_ | refine ucv hO ?_ | refine uia hO ?_ | refine usv hO ?_ | refine ubu hO ?_ | refine uap hO ?_ | refine ubs hO ?_ | refine umm hO ?_ | refine upq hO ?_ | refine unq hO ?_ | refine uln hO ?_)))
  all_goals (conv => lhs; whnf)
  all_goals first
    | exact hf
def TextRN (H : HF) : Prop := ∀ (o n : Nat) (m : T FObj), o ≤ 900000 → Ret0 H [.o .sl, .n .i64 o] n m (.tup [.s (pack []), .z .i64 0])
theorem text_rn {O : Oz} (hO : O = zO) (Φ : Phi) : TextRN (p46 O Φ) := fun o n m ho k P hf => by
  repeat' ((conv => lhs; whnf); first | ((with_reducible refine lvN hO ?_)) | ((with_reducible refine ltF hO (by omega) ?_)) | ((with_reducible refine gtT hO (by omega) ?_)) | ((with_reducible refine adI hO (by omega) ?_)))
  all_goals (conv => lhs; whnf)
  all_goals first
    | exact hf
def ToldR (H : HF) : Prop := ∀ (s : Bs) (n : Nat) (m : T FObj), s.length ≤ 65535 → RetX 2 [] H [.s (pack s)] n m (fun v n' m' => ∃ b x tl, v = .sl b 0 (2 + s.length) (2 + s.length) x 1 ∧ n ≤ b ∧ b < n' ∧ Am m' b (.bs (pack (toldB s)) 5 tl) ∧ (s ≠ [] → x = false ∧ tl = .more))
theorem told_r {O : Oz} (hO : O = zO) (Φ : Phi) : ToldR (p76 O Φ) := fun s n m hs k P hn hf => by
  have e2 : s.length % 256 % 256 = s.length % 256 := Nat.mod_mod _ _
  by_cases h0 : s = []
  · subst h0
    repeat' ((conv => lhs; whnf); first | ((with_reducible refine cvW hO ?_)) | ((with_reducible refine bs2 hO (by omega) (by omega) (by omega) ?_)) | (((with_reducible refine lsS hO ?_); try simp only [List.length_cons, List.length_nil, Nat.zero_add])) | ((with_reducible refine rmI hO (by omega) ?_)) | ((with_reducible refine quI hO (by omega) (by omega) ?_)) | ((with_reducible refine atAp ?_); refine apS0 hO ?_))
    all_goals (conv => lhs; whnf)
    all_goals first
      | exact hf _ _ _ (by omega) (by omega) qQ ⟨n, true, .exact, rfl, by omega, by omega, am_same (by omega), fun h => absurd rfl h⟩
  · have hp := List.length_pos_iff.2 h0
    repeat' ((conv => lhs; whnf); first | ((with_reducible refine cvW hO ?_)) | ((with_reducible refine bs2 hO (by omega) (by omega) (by omega) ?_; try rw [e2])) | (((with_reducible refine lsS hO ?_); try simp only [List.length_cons, List.length_nil, Nat.zero_add])) | ((with_reducible refine rmI hO (by omega) ?_)) | ((with_reducible refine quI hO (by omega) (by omega) ?_)) | ((with_reducible refine atAp ?_); refine apXS hO (am_same (by omega)) (by show 2 ≤ 2; omega) rfl hp (by omega) (by omega) ?_))
    all_goals (conv => lhs; whnf)
    all_goals first
      | exact hf _ _ _ (by omega) (by omega) qQ ⟨_, false, .more, rfl, by omega, by omega, am_same (by omega), fun _ => ⟨rfl, rfl⟩⟩
end Go.Proofs.YtjoakhpdajlhiaaDoor.V2.S
namespace Go.Proofs.YtjoakhpdajlhiaaDoor.V2.S
open Go
set_option maxRecDepth 100000
set_option maxHeartbeats 4000000
set_option linter.unusedVariables false
attribute [local irreducible] fN fO nM gM pM Phi.fn mp bl bpart bapp top1 pack
theorem bt_drop (l : Bs) (o j : Nat) : bt (l.drop o) j = bt l (o + j) := by
  unfold bt
  rw [List.getD_eq_getElem?_getD, List.getD_eq_getElem?_getD, List.getElem?_drop]
theorem bt_take {l : Bs} {n j : Nat} (h : j < n) : bt (l.take n) j = bt l j := by
  unfold bt
  rw [List.getD_eq_getElem?_getD, List.getD_eq_getElem?_getD, List.getElem?_take_of_lt h]
theorem splitB_no : ∀ {a : Bs}, (∀ j, j < a.length → bt a j ≠ 47) → splitB a = [a]
  | [], _ => rfl
  | c :: l, h => by
    have h0 : c ≠ 47 := fun e => h 0 (by simp) (by subst e; rfl)
    rw [splitB, if_neg h0, splitB_no fun j hj => by
      have := h (j + 1) (by simpa using hj)
      rwa [bt_cons] at this]
theorem split_part {path : Bs} {fr i : Nat} (h1 : fr ≤ i) (h2 : i ≤ path.length) (hj : ∀ j, fr ≤ j → j < i → bt path j ≠ 47) : ((path.drop fr).take (i - fr)).length = i - fr ∧ (i = path.length → splitB (path.drop fr) = [(path.drop fr).take (i - fr)]) ∧ (i < path.length → bt path i = 47 → splitB (path.drop fr) = (path.drop fr).take (i - fr) :: splitB (path.drop (i + 1))) := by
  have hno : splitB ((path.drop fr).take (i - fr)) = [(path.drop fr).take (i - fr)] := splitB_no fun j h => by
    rw [List.length_take, List.length_drop] at h
    rw [bt_take (by omega), bt_drop]
    exact hj _ (by omega) (by omega)
  refine ⟨by rw [List.length_take, List.length_drop]; omega, fun h => ?_, fun h hb => ?_⟩
  · have e : (path.drop fr).take (i - fr) = path.drop fr := List.take_of_length_le (by rw [List.length_drop]; omega)
    rw [e] at hno ⊢; exact hno
  · have e : path.drop fr = (path.drop fr).take (i - fr) ++ 47 :: path.drop (i + 1) := by
      have e1 : (path.drop fr).drop (i - fr) = path.drop i := by rw [List.drop_drop]; congr 1; omega
      have e2 : path.drop i = path[i] :: path.drop (i + 1) := List.drop_eq_getElem_cons h
      have e3 : path[i] = 47 := by
        unfold bt at hb
        rw [List.getD_eq_getElem?_getD, List.getElem?_eq_getElem h, Option.getD_some] at hb
        exact UInt8.toNat_inj.1 hb
      rw [← e3, ← e2, ← e1, List.take_append_drop]
    rw [e, splitB_app, hno, List.singleton_append, ← e]
theorem nameB_len {s : Bs} (h : nameB s = true) : s.length ≤ 32 := by
  unfold nameB at h
  simp only [Bool.and_eq_true, decide_eq_true_eq] at h
  exact h.1.2
theorem sc_c {t : Tr} {a q : Bs} (h : q = [] ∨ q = [46]) : stepG t a q = .inr a := by unfold stepG; rw [if_pos h]
theorem sc_23 {t : Tr} {a q : Bs} (h1 : q ≠ []) (h2 : q ≠ [46]) (h3 : q ≠ [46, 46]) (h4 : nameB q = false) : stepG t a q = .inl 23 := by
  unfold stepG; rw [if_neg (fun h => h.elim h1 h2), if_pos ⟨h3, h4⟩]
theorem sc_6 {t : Tr} {a q : Bs} (h1 : q ≠ []) (h2 : q ≠ [46]) (h3 : q = [46, 46] ∨ nameB q = true) (hk : kindG t a = 0) : stepG t a q = .inl 6 := by
  unfold stepG; rw [if_neg (fun h => h.elim h1 h2), if_neg (fun h => h3.elim h.1 (fun h4 => by rw [h.2] at h4; cases h4)), if_pos hk]
theorem sc_5 {t : Tr} {a q : Bs} (h1 : q ≠ []) (h2 : q ≠ [46]) (h3 : q = [46, 46] ∨ nameB q = true) (hk : kindG t a = 2) : stepG t a q = .inl 5 := by
  unfold stepG; rw [if_neg (fun h => h.elim h1 h2), if_neg (fun h => h3.elim h.1 (fun h4 => by rw [h.2] at h4; cases h4)), if_neg (by omega), if_pos hk]
theorem sc_u {t : Tr} {a q : Bs} (h3 : q = [46, 46]) (hk : kindG t a ≠ 0) (hk2 : kindG t a ≠ 2) : stepG t a q = .inr (parG a) := by
  unfold stepG; subst h3; rw [if_neg (by decide), if_neg (by decide), if_neg hk, if_neg hk2, if_pos rfl]
theorem sc_j {t : Tr} {a q : Bs} (h1 : q ≠ []) (h2 : q ≠ [46]) (h3 : q ≠ [46, 46]) (h4 : nameB q = true) (hk : kindG t a ≠ 0) (hk2 : kindG t a ≠ 2) : stepG t a q = .inr (joinG a q) := by
  unfold stepG; rw [if_neg (fun h => h.elim h1 h2), if_neg (fun h => by rw [h.2] at h4; cases h4), if_neg hk, if_neg hk2, if_neg h3]
theorem join_st {t : Tr} {a : Bs} {ns : List Bs} (hs : St t a ns) (h : a ≠ [47]) (q : Bs) : joinG a q = (a ++ [47]) ++ q := by
  obtain ⟨hg, rfl, _⟩ := hs
  have hn : ns ≠ [] := fun e => by subst e; exact h rfl
  rw [join_dirP hg, dirP_snoc]
  unfold dirP
  rw [if_neg hn, List.append_assoc]; rfl
theorem st_head {t : Tr} {a : Bs} {ns : List Bs} (hs : St t a ns) : a.head? = some 47 := by
  obtain ⟨hg, rfl, _⟩ := hs
  unfold dirP
  split
  · rfl
  · cases ns with
    | nil => exact absurd rfl (by assumption)
    | cons x l => rfl
def at0 (t : Tr) (path : Bs) : Bs := if hasPre path [47] then [47] else t.cwd
theorem at0_s {t : Tr} {path : Bs} (h : bt path 0 = 47) (hl : 1 ≤ path.length) : at0 t path = [47] := by
  unfold at0
  rw [if_pos]
  unfold hasPre
  cases path with
  | nil => simp at hl
  | cons c l =>
    have h : c.toNat = 47 := h
    have : c = 47 := UInt8.toNat_inj.1 h
    subst this; simp
theorem at0_c {t : Tr} {path : Bs} (h : bt path 0 ≠ 47) (hl : 1 ≤ path.length) : at0 t path = t.cwd := by
  unfold at0
  rw [if_neg]
  unfold hasPre
  cases path with
  | nil => simp at hl
  | cons c l =>
    have h : c.toNat ≠ 47 := h
    have : c ≠ 47 := fun e => h (by subst e; rfl)
    simp [this]
theorem abs_bad {t : Tr} {path : Bs} (h : path.length < 1 ∨ 256 < path.length) : absG t path = ([], 23) := by
  unfold absG
  rw [if_pos]
  rcases h with h | h
  · exact .inl (List.length_eq_zero_iff.1 (by omega))
  · exact .inr h
theorem abs_inl {t : Tr} {path : Bs} {e : Nat} (h1 : 1 ≤ path.length) (h2 : path.length ≤ 256) (h : loopG t (at0 t path) (splitB path) = .inl e) : absG t path = ([], e) := by
  unfold absG
  rw [if_neg (fun h => h.elim (fun h => by rw [h] at h1; simp at h1) (fun h => by omega))]
  show (match loopG t (at0 t path) (splitB path) with | .inl e => _ | .inr a => _) = _
  rw [h]
theorem abs_inr {t : Tr} {path a : Bs} (h1 : 1 ≤ path.length) (h2 : path.length ≤ 256) (h : loopG t (at0 t path) (splitB path) = .inr a) : absG t path = (a, 0) := by
  unfold absG
  rw [if_neg (fun h => h.elim (fun h => by rw [h] at h1; simp at h1) (fun h => by omega))]
  show (match loopG t (at0 t path) (splitB path) with | .inl e => _ | .inr a => _) = _
  rw [h]
def AbsR (H : HF) : Prop := ∀ {rb nn n : Nat} {v : FV} {t : Tr} {m : T FObj}, RTree m rb nn v t → t.L.length ≤ 200 → (∃ ns, St t t.cwd ns) → t.cwd.length ≤ 256 → ∀ (path : Bs), path.length ≤ 900000 → Ret0 H [.p rb 0, .s (pack path)] n m (.tup [.s (pack (absG t path).1), .n .i64 (absG t path).2])
theorem abs_r {O : Oz} (hO : O = zO) (Φ : Phi) (HN : NamedR (Phi.fn Φ 72)) (HK : KindR (Phi.fn Φ 48)) (HP : ParR (Phi.fn Φ 73)) : AbsR (p47 O Φ) := fun {rb nn n v t m} hR hl hcw hc2 path hpl k P hf => by
  have hS := hR.s
  obtain ⟨cns, hcs⟩ := hcw
  by_cases hb : path.length < 1 ∨ 256 < path.length
  · have hab := abs_bad (t := t) hb
    rw [hab] at hf
    repeat' ((conv => lhs; whnf); first | (((with_reducible refine lsS hO ?_); try simp only [List.length_cons, List.length_nil, Nat.zero_add])) | ((with_reducible refine ltB hO (fun h => ?_) (fun h => ?_))) | ((with_reducible refine gtT hO (by omega) ?_)))
    all_goals (conv => lhs; whnf)
    all_goals first
      | exact hf
      | (exfalso; omega)
  have hp1 : 1 ≤ path.length := by omega
  have hp2 : path.length ≤ 256 := by omega
  have hinl := fun {e} => abs_inl (t := t) (path := path) (e := e) hp1 hp2
  have hinr := fun {a} => abs_inr (t := t) (path := path) (a := a) hp1 hp2
  have hsr : St t [47] [] := ⟨fun x hx => absurd hx List.not_mem_nil, rfl, fun j hj => absurd hj (Nat.not_lt_zero _)⟩
  by_cases h47 : bt path 0 = 47
  all_goals
    have hat : at0 t path = [47] ∧ bt path 0 = 47 ∨ at0 t path = t.cwd ∧ bt path 0 ≠ 47 := by
      by_cases h : bt path 0 = 47
      · exact .inl ⟨at0_s h hp1, h⟩
      · exact .inr ⟨at0_c h hp1, h⟩
    repeat' ((conv => lhs; whnf); first | ((with_reducible refine fa0 hO ?_)) | ((with_reducible refine atLd ?_); refine ldC hO hS (by rfl) ?_) | (((with_reducible refine lsS hO ?_); try simp only [List.length_cons, List.length_nil, Nat.zero_add])) | ((with_reducible refine ltF hO (by omega) ?_)) | ((with_reducible refine gtF hO (by omega) ?_)) | ((with_reducible refine eqT hO (by omega) ?_)) | ((with_reducible refine eqF hO (by omega) ?_)) | ((with_reducible refine txS hO (by first | omega | decide) ?_)))
    all_goals (conv => lhs; whnf)
    all_goals first
      | refine lpI hO (fun q e n' m' => ∃ i fr a ns, i ≤ path.length + 1 ∧ q = path.length + 1 - i ∧ fr ≤ i ∧ n' = n ∧ m' = m ∧ (∀ j, fr ≤ j → j < i → bt path j ≠ 47) ∧ (i = path.length + 1 → fr = i) ∧ (fr ≤ path.length → loopG t (at0 t path) (splitB path) = loopG t a (splitB (path.drop fr))) ∧ (fr = path.length + 1 → loopG t (at0 t path) (splitB path) = .inr a) ∧ St t a ns ∧ a.length ≤ 256 + 33 * fr ∧ e = eof [(4, .s (pack [])), (5, .n .i64 0), (6, .s (pack a)), (7, .n .i64 fr), (8, .n .i64 i)]) ?_ ?_ _ (path.length + 1) _ _ _ (by omega) ⟨0, 0, [47], [], by omega, rfl, Nat.le_refl _, rfl, rfl, fun j h1 h2 => by omega, fun h => by omega, fun _ => by rw [List.drop_zero, (hat.resolve_right (fun h => h.2 h47)).1], fun h => by omega, hsr, by decide, rfl⟩
      | refine lpI hO (fun q e n' m' => ∃ i fr a ns, i ≤ path.length + 1 ∧ q = path.length + 1 - i ∧ fr ≤ i ∧ n' = n ∧ m' = m ∧ (∀ j, fr ≤ j → j < i → bt path j ≠ 47) ∧ (i = path.length + 1 → fr = i) ∧ (fr ≤ path.length → loopG t (at0 t path) (splitB path) = loopG t a (splitB (path.drop fr))) ∧ (fr = path.length + 1 → loopG t (at0 t path) (splitB path) = .inr a) ∧ St t a ns ∧ a.length ≤ 256 + 33 * fr ∧ e = eof [(4, .s (pack [])), (5, .n .i64 0), (6, .s (pack a)), (7, .n .i64 fr), (8, .n .i64 i)]) ?_ ?_ _ (path.length + 1) _ _ _ (by omega) ⟨0, 0, t.cwd, cns, by omega, rfl, Nat.le_refl _, rfl, rfl, fun j h1 h2 => by omega, fun h => by omega, fun _ => by rw [List.drop_zero, (hat.resolve_left (fun h => h47 h.2)).1], fun h => by omega, hcs, by omega, rfl⟩
      | (exfalso; omega)
  all_goals first
    | (rintro q e n' m' ⟨i, fr, a, ns, _, _, _, h, _⟩; omega)
    | (rintro q e n' m' ih ⟨i, fr, a, ns, hi, rfl, hfi, rfl, rfl, hj, hend, hl1, hl2, hs, hal, rfl⟩ hih
       rcases Nat.lt_or_ge path.length i with hlt | hge
       · have hfe := hend (by omega)
         have hr := hinr (hl2 (by omega))
         repeat' ((conv => lhs; whnf); first | (((with_reducible refine lsS hO ?_); try simp only [List.length_cons, List.length_nil, Nat.zero_add])) | ((with_reducible refine leF hO (by omega) ?_)))
         all_goals (conv => lhs; whnf)
         all_goals first
           | (rw [hr] at hf; exact hf)
       · by_cases hsl : i < path.length ∧ bt path i ≠ 47
         · obtain ⟨hs1, hs2⟩ := hsl
           repeat' ((conv => lhs; whnf); first | (((with_reducible refine lsS hO ?_); try simp only [List.length_cons, List.length_nil, Nat.zero_add])) | ((with_reducible refine ltT hO (by omega) ?_)) | ((with_reducible refine leT hO (by omega) ?_)) | ((with_reducible refine neT hO (by omega) ?_)) | ((with_reducible refine adI hO (by omega) ?_)) | ((with_reducible refine txS hO (by first | omega | decide) ?_)))
           all_goals (conv => lhs; whnf)
           all_goals first
             | exact hih (path.length + 1 - (i + 1)) _ _ _ (by omega) ⟨i + 1, fr, a, ns, by omega, rfl, by omega, rfl, rfl, fun j h1 h2 => by
                 rcases Nat.lt_or_ge j i with h3 | h3
                 · exact hj j h1 h3
                 · rw [show j = i by omega]; exact hs2, fun h => by omega, hl1, hl2, hs, hal, rfl⟩
         · obtain ⟨hq1, hq2, hq3⟩ := split_part hfi hge hj
           have hs47 : i < path.length → bt path i = 47 := fun h => Decidable.byContradiction fun h2 => hsl ⟨h, h2⟩
           generalize hqq : (path.drop fr).take (i - fr) = q at hq1 hq2 hq3
           have hL : ∀ r, loopG t (at0 t path) (splitB path) = r ↔ loopG t a (splitB (path.drop fr)) = r := fun r => by rw [hl1 (by omega)]
           have hbd : ∀ e, stepG t a q = .inl e → loopG t (at0 t path) (splitB path) = .inl e := fun e he => by
             rw [hL]
             rcases Nat.lt_or_ge i path.length with h | h
             · rw [hq3 h (hs47 h)]; unfold loopG; rw [he]
             · rw [hq2 (by omega)]; unfold loopG; rw [he]
           have hnx : ∀ b, stepG t a q = .inr b → (i + 1 ≤ path.length → loopG t (at0 t path) (splitB path) = loopG t b (splitB (path.drop (i + 1)))) ∧ (i + 1 = path.length + 1 → loopG t (at0 t path) (splitB path) = .inr b) := fun b he => by
             refine ⟨fun h => ?_, fun h => ?_⟩
             · rw [hL, hq3 (by omega) (hs47 (by omega)), loopG_step he]
             · rw [hL, hq2 (by omega), loopG_step he]; rfl
           have hkle := kind_le t a
           have hah := st_head hs
           have hpar := parG_le a
           repeat' ((conv => lhs; whnf); first | ((with_reducible refine ssB hO (by omega) (by omega) ?_; rw [hqq])) | ((with_reducible refine adS hO (by simp only [List.length_append, List.length_cons, List.length_nil]; omega) ?_)) | ((with_reducible refine atFn ?_); first | (refine HN q _ _ (by omega) _ _ ?_; rcases hnb : nameB q with _ | _) | refine HK hR hl a _ _ ?_ | refine HP a _ _ hah (by omega) _ _ ?_) | (((with_reducible refine lsS hO ?_); try simp only [List.length_cons, List.length_nil, Nat.zero_add])) | ((with_reducible refine ltB hO (fun h => ?_) (fun h => ?_))) | ((with_reducible refine leT hO (by omega) ?_)) | ((with_reducible refine eqB hO (fun h => ?_) (fun h => ?_))) | ((with_reducible refine neF hO (by omega) ?_)) | ((with_reducible refine eqST hO (by first | rfl | assumption) ?_)) | ((with_reducible refine eqSF hO (by first | assumption | decide) ?_)) | ((with_reducible refine eqSB hO (fun h => ?_) (fun h => ?_))) | ((with_reducible refine neSB hO (fun h => ?_) (fun h => ?_))) | ((with_reducible refine adI hO (by omega) ?_)) | ((with_reducible refine txS hO (by first | omega | decide) ?_)))
           all_goals (conv => lhs; whnf)
           all_goals first
             | exact hih (path.length + 1 - (i + 1)) _ _ _ (by omega) ⟨i + 1, i + 1, a, _, by omega, rfl, Nat.le_refl _, rfl, rfl, fun j h1 h2 => by omega, fun h => rfl, fun h => (hnx _ (sc_c (by first | exact .inl (by assumption) | exact .inr (by assumption)))).1 h, fun h => (hnx _ (sc_c (by first | exact .inl (by assumption) | exact .inr (by assumption)))).2 h, (step_st hs (sc_c (by first | exact .inl (by assumption) | exact .inr (by assumption)))).choose_spec, by omega, rfl⟩
             | (rw [hinl (hbd 23 (sc_23 (by assumption) (by assumption) (by assumption) (by assumption)))] at hf; exact hf)
             | (rw [hinl (hbd 6 (sc_6 (by assumption) (by assumption) (by first | exact .inl (by assumption) | exact .inr (by assumption)) (by assumption)))] at hf; exact hf)
             | (rw [hinl (hbd 5 (sc_5 (by assumption) (by assumption) (by first | exact .inl (by assumption) | exact .inr (by assumption)) (by assumption)))] at hf; exact hf)
             | exact hih (path.length + 1 - (i + 1)) _ _ _ (by omega) ⟨i + 1, i + 1, parG a, _, by omega, rfl, Nat.le_refl _, rfl, rfl, fun j h1 h2 => by omega, fun h => rfl, fun h => (hnx _ (sc_u (by assumption) (by omega) (by omega))).1 h, fun h => (hnx _ (sc_u (by assumption) (by omega) (by omega))).2 h, (step_st hs (sc_u (by assumption) (by omega) (by omega))).choose_spec, by omega, rfl⟩
             | (have hjn : joinG a q = [47] ++ q := (by rw [show a = [47] by assumption]; rfl)
                have hst : stepG t a q = .inr ([47] ++ q) := (sc_j (by assumption) (by assumption) (by assumption) (by assumption) (by omega) (by omega)).trans (congrArg _ hjn)
                have hq32 := nameB_len (show nameB q = true by assumption)
                exact hih (path.length + 1 - (i + 1)) _ _ _ (by omega) ⟨i + 1, i + 1, [47] ++ q, _, by omega, rfl, Nat.le_refl _, rfl, rfl, fun j h1 h2 => by omega, fun h => rfl, fun h => (hnx _ hst).1 h, fun h => (hnx _ hst).2 h, (step_st hs hst).choose_spec, by rw [List.length_append, List.length_singleton]; omega, rfl⟩)
             | (have hjn : joinG a q = (a ++ [47]) ++ q := join_st hs (by assumption) q
                have hst : stepG t a q = .inr ((a ++ [47]) ++ q) := (sc_j (by assumption) (by assumption) (by assumption) (by assumption) (by omega) (by omega)).trans (congrArg _ hjn)
                have hq32 := nameB_len (show nameB q = true by assumption)
                exact hih (path.length + 1 - (i + 1)) _ _ _ (by omega) ⟨i + 1, i + 1, (a ++ [47]) ++ q, _, by omega, rfl, Nat.le_refl _, rfl, rfl, fun j h1 h2 => by omega, fun h => rfl, fun h => (hnx _ hst).1 h, fun h => (hnx _ hst).2 h, (step_st hs hst).choose_spec, by rw [List.length_append, List.length_append, List.length_singleton]; omega, rfl⟩))
end Go.Proofs.YtjoakhpdajlhiaaDoor.V2.S
namespace Go.Proofs.YtjoakhpdajlhiaaDoor.V2.S
open Go
set_option maxRecDepth 100000
set_option linter.unusedVariables false
/-! The reference's put, in plain words. -/
theorem lookS {L : List En} (hn : (L.map En.path).Nodup) (p : Bs) : lookM En.path p (sortE L) = lookM En.path p L := by
  have hn2 : ((sortE L).map En.path).Nodup := ((sortE_perm L).map _).nodup_iff.2 hn
  cases h : lookM En.path p L with
  | some e =>
    have h1 := (sortE_perm L).mem_iff.2 (look_in h)
    have h2 := (look_sizes h).2
    rw [← h2]; exact look_mem hn2 h1
  | none =>
    cases h2 : lookM En.path p (sortE L) with
    | none => rfl
    | some e =>
      have h3 := (sortE_perm L).mem_iff.1 (look_in h2)
      have h4 := (look_sizes h2).2
      rw [← h4, look_mem hn h3] at h; cases h
theorem srt_nd {C : List En} (hC : (C.map En.path).Pairwise (· < ·)) : (C.map En.path).Nodup := hC.imp fun h e => by subst e; exact List.lt_irrefl _ h
theorem srt_nd2 {C : List En} (hC : (C.map En.path).Nodup) : C.Nodup := (List.pairwise_map.1 hC).imp fun h e => h (by rw [e])
theorem srt_ext {A B : List En} (hA : (A.map En.path).Pairwise (· < ·)) (hB : (B.map En.path).Pairwise (· < ·)) (h : ∀ p, lookM En.path p A = lookM En.path p B) : A = B := by
  have sub : ∀ {C D : List En}, (C.map En.path).Nodup → (∀ p, lookM En.path p C = lookM En.path p D) → ∀ x ∈ C, x ∈ D := fun hn h x hx => look_in (by rw [← h x.path]; exact look_mem hn hx)
  have hp : A.Perm B := (List.perm_ext_iff_of_nodup (srt_nd2 (srt_nd hA)) (srt_nd2 (srt_nd hB))).2 fun x => ⟨sub (srt_nd hA) h x, sub (srt_nd hB) (fun p => (h p).symm) x⟩
  exact hp.eq_of_pairwise (le := fun a b => a.path < b.path) (fun a b _ _ h1 h2 => absurd h2 (List.lt_asymm h1)) (List.pairwise_map.1 hA) (List.pairwise_map.1 hB)
def insR (x : En) : List En → List En
  | [] => [x]
  | y :: l => if y.path < x.path then y :: insR x l else if y.path = x.path then x :: l else x :: y :: l
theorem look_ins (x : En) (p : Bs) : ∀ S : List En, lookM En.path p (insR x S) = if x.path = p then some x else lookM En.path p S
  | [] => rfl
  | y :: S => by
    unfold insR
    by_cases h : y.path < x.path
    · rw [if_pos h]
      show (if y.path = p then some y else lookM En.path p (insR x S)) = _
      rw [look_ins x p S]
      show _ = if x.path = p then some x else if y.path = p then some y else lookM En.path p S
      by_cases hy : y.path = p
      · have hx : x.path ≠ p := fun e => by rw [hy, e] at h; exact List.lt_irrefl _ h
        rw [if_pos hy, if_neg hx, if_pos hy]
      · rw [if_neg hy, if_neg hy]
    · rw [if_neg h]
      by_cases h2 : y.path = x.path
      · rw [if_pos h2]
        show (if x.path = p then some x else lookM En.path p S) = if x.path = p then some x else if y.path = p then some y else lookM En.path p S
        by_cases hx : x.path = p
        · rw [if_pos hx, if_pos hx]
        · rw [if_neg hx, if_neg hx, if_neg (by rw [h2]; exact hx)]
      · rw [if_neg h2]; rfl
theorem ins_mem {x z : En} : ∀ {S : List En}, z ∈ insR x S → z = x ∨ z ∈ S
  | [], h => .inl (by simpa [insR] using h)
  | y :: S, h => by
    unfold insR at h
    split at h
    · rcases List.mem_cons.1 h with h | h
      · exact .inr (h ▸ List.mem_cons_self)
      · exact (ins_mem h).imp_right (List.mem_cons_of_mem _)
    · split at h
      · rcases List.mem_cons.1 h with h | h
        · exact .inl h
        · exact .inr (List.mem_cons_of_mem _ h)
      · rcases List.mem_cons.1 h with h | h
        · exact .inl h
        · exact .inr h
theorem ins_srt {x : En} : ∀ {S : List En}, (S.map En.path).Pairwise (· < ·) → ((insR x S).map En.path).Pairwise (· < ·)
  | [], _ => by simp [insR]
  | y :: S, h => by
    rw [List.map_cons] at h
    have h1 := List.pairwise_cons.1 h
    unfold insR
    split
    · rename_i hlt
      rw [List.map_cons]
      refine List.pairwise_cons.2 ⟨fun z hz => ?_, ins_srt h1.2⟩
      obtain ⟨w, hw, rfl⟩ := List.mem_map.1 hz
      rcases ins_mem hw with rfl | hw
      · exact hlt
      · exact h1.1 _ (List.mem_map.2 ⟨w, hw, rfl⟩)
    · rename_i hlt
      split
      · rename_i heq
        rw [List.map_cons, ← heq]; exact h
      · rename_i hne
        have hxy : x.path < y.path := lt_of_not hlt fun e => hne e.symm
        rw [List.map_cons, List.map_cons]
        refine List.pairwise_cons.2 ⟨fun z hz => ?_, h⟩
        rcases List.mem_cons.1 hz with rfl | hz
        · exact hxy
        · exact List.lt_trans hxy (h1.1 z hz)
theorem sort_set {L : List En} (hn : (L.map En.path).Nodup) (x : En) : sortE (setM En.path x L) = insR x (sortE L) := by
  have hs1 : ((sortE (setM En.path x L)).map En.path).Pairwise (· < ·) := by rw [sortE_map]; exact sortB_pw (setM_nd x hn)
  have hs2 : ((sortE L).map En.path).Pairwise (· < ·) := by rw [sortE_map]; exact sortB_pw hn
  refine srt_ext hs1 (ins_srt hs2) fun p => ?_
  rw [lookS (setM_nd x hn), look_set, look_ins, lookS hn]
def stpR (x : En) (p : List En × Bool) (y : En) : List En × Bool := ((if p.2 = false ∧ ¬ y.path < x.path then p.1 ++ [x] else p.1) ++ (if y.path ≠ x.path then [y] else []), p.2 || decide (¬ y.path < x.path))
def finR (x : En) (p : List En × Bool) : List En := if p.2 then p.1 else p.1 ++ [x]
theorem stp_done {x : En} : ∀ {S : List En} {o : List En}, (∀ y ∈ S, x.path < y.path) → S.foldl (stpR x) (o, true) = (o ++ S, true)
  | [], o, _ => by rw [List.append_nil]; rfl
  | y :: S, o, h => by
    have hy := h y List.mem_cons_self
    have hne : y.path ≠ x.path := fun e => by rw [e] at hy; exact List.lt_irrefl _ hy
    rw [List.foldl_cons]
    have e : stpR x (o, true) y = (o ++ [y], true) := by
      unfold stpR
      rw [if_neg (fun h => by cases h.1), if_pos hne]; rfl
    rw [e, stp_done fun z hz => h z (List.mem_cons_of_mem _ hz), List.append_assoc]; rfl
theorem stp_ins {x : En} : ∀ {S : List En} {o : List En}, (S.map En.path).Pairwise (· < ·) → finR x (S.foldl (stpR x) (o, false)) = o ++ insR x S
  | [], o, _ => rfl
  | y :: S, o, h => by
    rw [List.map_cons] at h
    have h1 := List.pairwise_cons.1 h
    rw [List.foldl_cons]
    unfold insR
    by_cases hlt : y.path < x.path
    · have hne : y.path ≠ x.path := fun e => by rw [e] at hlt; exact List.lt_irrefl _ hlt
      have e : stpR x (o, false) y = (o ++ [y], false) := by
        unfold stpR
        rw [if_neg (fun h => h.2 hlt), if_pos hne]; simp [hlt]
      rw [e, stp_ins h1.2, if_pos hlt, List.append_assoc]; rfl
    · rw [if_neg hlt]
      have hgt : ∀ z ∈ S, x.path < z.path := fun z hz => by
        have hz2 := h1.1 _ (List.mem_map.2 ⟨z, hz, rfl⟩)
        by_cases he : y.path = x.path
        · rw [← he]; exact hz2
        · exact List.lt_trans (lt_of_not hlt fun e => he e.symm) hz2
      by_cases he : y.path = x.path
      · have e : stpR x (o, false) y = (o ++ [x], true) := by
          unfold stpR
          rw [if_pos ⟨rfl, hlt⟩, if_neg (fun h => h he)]; simp [hlt]
        rw [e, stp_done hgt, if_pos he]
        show (if true then _ else _) = _
        rw [if_pos rfl, List.append_assoc]; rfl
      · have e : stpR x (o, false) y = (o ++ [x] ++ [y], true) := by
          unfold stpR
          rw [if_pos ⟨rfl, hlt⟩, if_pos he]; simp [hlt]
        rw [e, stp_done hgt, if_neg he]
        show (if true then _ else _) = _
        rw [if_pos rfl, List.append_assoc, List.append_assoc]; rfl
theorem stp_len {x : En} : ∀ {S : List En} {p : List En × Bool}, (S.foldl (stpR x) p).1.length ≤ p.1.length + 2 * S.length
  | [], p => by simp
  | y :: S, p => by
    rw [List.foldl_cons]
    have h := stp_len (x := x) (S := S) (p := stpR x p y)
    have h2 : (stpR x p y).1.length ≤ p.1.length + 2 := by
      unfold stpR
      show (_ ++ _ : List En).length ≤ _
      rw [List.length_append]
      split <;> split <;> simp [List.length_append] <;> omega
    rw [List.length_cons]; omega
def srt (t : Tr) : Tr := ⟨sortE t.L, t.cwd⟩
theorem srt_id {t : Tr} (hW : WfT t) : sortE (srt t).L = (srt t).L := sortE_id (sortE_pw hW)
theorem srt_look {t : Tr} (hW : WfT t) (p : Bs) : look (srt t) p = look t p := lookS hW.nd p
theorem srt_kind {t : Tr} (hW : WfT t) (p : Bs) : kindG (srt t) p = kindG t p := by unfold kindG; rw [srt_look hW]
theorem srt_step {t : Tr} (hW : WfT t) (a q : Bs) : stepG (srt t) a q = stepG t a q := by unfold stepG; rw [srt_kind hW]
theorem srt_loop {t : Tr} (hW : WfT t) : ∀ (ps : List Bs) (a : Bs), loopG (srt t) a ps = loopG t a ps
  | [], a => rfl
  | p :: ps, a => by
    unfold loopG
    rw [srt_step hW]
    cases stepG t a p with
    | inl e => rfl
    | inr b => exact srt_loop hW ps b
theorem srt_abs {t : Tr} (hW : WfT t) (p : Bs) : absG (srt t) p = absG t p := by unfold absG; rw [srt_loop hW]; rfl
theorem srt_is {t : Tr} (hW : WfT t) (p : Bs) (k : Nat) : isG (srt t) p k = isG t p k := by unfold isG; rw [srt_abs hW, srt_kind hW]
theorem srt_cd {t : Tr} (hW : WfT t) (p : Bs) : cdG (srt t) p = (srt (cdG t p).1, (cdG t p).2) := by
  unfold cdG
  rw [srt_is hW]
  split <;> rfl
theorem srt_tree {t : Tr} (hW : WfT t) : treeB (srt t) = treeB t := by
  unfold treeB
  rw [srt_id hW]
  show toldB t.cwd ++ twoB (sortE t.L).length ++ _ = _
  rw [sortE_len]; rfl
theorem srt_sizes (t : Tr) : sizesG (srt t).L = sizesG t.L := sizesG_perm (sortE_perm t.L)
theorem srt_len (t : Tr) : (srt t).L.length = t.L.length := sortE_len t.L
theorem srt_wf {t : Tr} (hW : WfT t) : WfT (srt t) := ⟨((sortE_perm t.L).map _).nodup_iff.2 hW.nd, by rw [srt_len]; exact hW.len, by rw [srt_sizes]; exact hW.sz, fun e he => hW.hd e ((sortE_perm t.L).mem_iff.1 he), fun e he => hW.pl e ((sortE_perm t.L).mem_iff.1 he), hW.hc, hW.c1, hW.c2⟩
theorem srt_st {t : Tr} (hW : WfT t) (hO : OkT t) : ∃ ns, St (srt t) (srt t).cwd ns := by
  obtain ⟨ns, g1, g2, g3⟩ := hO.cw
  obtain ⟨a, b, c⟩ := hO.st g1 (by rw [← g2, g3]; decide)
  exact ⟨ns, a, g2, fun j hj => (srt_kind hW _).trans (c j hj)⟩
theorem ins_many {t : Tr} (hW : WfT t) (x : En) : (insR x (srt t).L).length = manyG t x := by
  show (insR x (sortE t.L)).length = _
  rw [← sort_set hW.nd, sortE_len, setM_len]; rfl
theorem ins_sizes {t : Tr} (hW : WfT t) (x : En) : sizesG (insR x (srt t).L) = bytesG t x + x.data.length := by
  show sizesG (insR x (sortE t.L)) = _
  rw [← sort_set hW.nd, sizesG_perm (sortE_perm _), setM_sizes]; rfl
theorem put_long {t : Tr} {x : En} (h : 256 < x.path.length ∨ 8192 < x.data.length) : putG t x = (t, 3) := by unfold putG; rw [if_pos h]
theorem put_full {t : Tr} (hW : WfT t) {x : En} (h0 : ¬ (256 < x.path.length ∨ 8192 < x.data.length)) (h : 128 < (insR x (srt t).L).length ∨ 32768 < sizesG (insR x (srt t).L)) : putG t x = (t, 7) := by
  rw [ins_many hW, ins_sizes hW] at h
  unfold putG; rw [if_neg h0, if_pos h]
theorem put_done {t : Tr} (hW : WfT t) {x : En} (h0 : ¬ (256 < x.path.length ∨ 8192 < x.data.length)) (h : ¬ (128 < (insR x (srt t).L).length ∨ 32768 < sizesG (insR x (srt t).L))) : (putG t x).2 = 0 ∧ srt (putG t x).1 = ⟨insR x (srt t).L, t.cwd⟩ := by
  rw [ins_many hW, ins_sizes hW] at h
  unfold putG; rw [if_neg h0, if_neg h]
  refine ⟨rfl, ?_⟩
  show (⟨sortE (setM En.path x t.L), t.cwd⟩ : Tr) = _
  rw [sort_set hW.nd]; rfl
end Go.Proofs.YtjoakhpdajlhiaaDoor.V2.S
namespace Go.Proofs.YtjoakhpdajlhiaaDoor.V2.S
open Go
set_option maxRecDepth 100000
set_option maxHeartbeats 4000000
set_option linter.unusedVariables false
attribute [local irreducible] fN fO nM gM pM Phi.fn mp bl bpart bapp top1 pack
def Gt (rb : Nat) (v : FV) : Prop := ∀ b o L K x z, v = .sl b o L K x z → rb < b
theorem RowE.kg {m m' : T FObj} {n k rb : Nat} {v : FV} {l : List En} (h : RowE m n v l) (hk : Kq [rb] k m m') (hn : n ≤ k) (hg : Gt rb v) : RowE m' n v l := by
  rcases h with h | ⟨b, K, x, e, tl, h1, h2, h3⟩
  · exact .inl h
  · exact .inr ⟨b, K, x, e, tl, h1, h2, hk _ _ (by omega) (nm1 (by have := hg _ _ _ _ _ _ h1; omega)) h3⟩
def IsR (H : HF) : Prop := ∀ {rb nn n : Nat} {v : FV} {t : Tr} {m : T FObj}, RTree m rb nn v t → t.L.length ≤ 200 → (∃ ns, St t t.cwd ns) → t.cwd.length ≤ 256 → ∀ (path : Bs), path.length ≤ 900000 → Ret0 H [.p rb 0, .s (pack path), .n .i64 1] n m (.tup [.s (pack (isG t path 1).1), .n .i64 (isG t path 1).2])
theorem is_r {O : Oz} (hO : O = zO) (Φ : Phi) (HA : AbsR (Phi.fn Φ 47)) (HK : KindR (Phi.fn Φ 48)) : IsR (p75 O Φ) := fun {rb nn n v t m} hR hl hcw hc2 path hpl k P hf => by
  repeat' ((conv => lhs; whnf); first | ((with_reducible refine atFn ?_); first | refine HA hR hl hcw hc2 path hpl _ _ ?_ | refine HK hR hl (absG t path).1 _ _ ?_) | ((with_reducible refine eqB hO (fun h => ?_) (fun h => ?_))) | ((with_reducible refine neB hO (fun h => ?_) (fun h => ?_))))
  all_goals (conv => lhs; whnf)
  all_goals first
    | (rw [show isG t path 1 = ([], (absG t path).2) by unfold isG; rw [if_pos (by assumption)]] at hf; exact hf)
    | (rw [show isG t path 1 = ((absG t path).1, 0) by unfold isG; rw [if_neg (by simp [*]), if_pos (by omega)]] at hf; exact hf)
    | (rw [show isG t path 1 = ([], 6) by unfold isG; rw [if_neg (by simp [*]), if_neg (by omega), if_pos (by omega)]] at hf; exact hf)
    | (rw [show isG t path 1 = ([], 5) by unfold isG; rw [if_neg (by simp [*]), if_neg (by omega), if_neg (by omega)]] at hf; exact hf)
def CdR (H : HF) : Prop := ∀ {rb nn n : Nat} {v : FV} {t : Tr} {m : T FObj}, RTree m rb nn v t → Gt rb v → t.L.length ≤ 200 → (∃ ns, St t t.cwd ns) → t.cwd.length ≤ 256 → rb < n → nn ≤ n → n ≤ 1000000 → ∀ (path : Bs), path.length ≤ 900000 → ∀ (k : KV) (P : FR), (∀ m', Kq [rb] n m m' → RTree m' rb nn v (cdG t path).1 → k (.n .i64 (cdG t path).2) ⟨n, m'⟩ = P) → H [.p rb 0, .s (pack path)] ⟨n, m⟩ k = P
theorem cd_r {O : Oz} (hO : O = zO) (Φ : Phi) (HI : IsR (Phi.fn Φ 75)) : CdR (p50 O Φ) := fun {rb nn n v t m} hR hg hl hcw hc2 hrb hnn hn path hpl k P hf => by
  have hS := hR.s
  have hRw := hR.r
  have e1 : (isG t path 1).2 = 0 → cdG t path = ({ t with cwd := (isG t path 1).1 }, 0) := fun h => by unfold cdG; rw [if_neg (by omega)]
  have e2 : (isG t path 1).2 ≠ 0 → cdG t path = (t, (isG t path 1).2) := fun h => by unfold cdG; rw [if_pos h]
  repeat' ((conv => lhs; whnf); first | ((with_reducible refine atFn ?_); refine HI hR hl hcw hc2 path hpl _ _ ?_) | ((with_reducible refine fa0 hO ?_)) | ((with_reducible refine eqB hO (fun h => ?_) (fun h => ?_))) | ((with_reducible refine atSt ?_); refine stC hO hS (by kernel_rfl) (fun _ _ _ => rfl) (fun _ => rfl) ?_))
  all_goals (conv => lhs; whnf)
  all_goals first
    | (have hz : (isG t path 1).2 = 0 := by assumption
       rw [e1 hz] at hf
       have hk : Kq [rb] n m (mp m rb (.cells [v, .s (pack (isG t path 1).1)] 91 .exact)) := Kq.mp (Kq.refl _ _ _) (.inr (by simp)) (by omega)
       rw [hz]
       exact hf _ hk ⟨am_same (by omega), hRw.kg hk hnn hg⟩)
    | (have hz : (isG t path 1).2 ≠ 0 := by assumption
       rw [e2 hz] at hf; exact hf _ (Kq.refl _ _ _) hR)
def BytesR (H : HF) : Prop := ∀ {rb nn n : Nat} {v : FV} {t : Tr} {m : T FObj}, RTree m rb nn v t → WfT t → sortE t.L = t.L → rb < n → nn ≤ n → RetX 1160 [] H [.p rb 0] n m (fun v n' m' => ∃ b, v = .sl b 0 (treeB t).length (treeB t).length false 1 ∧ n ≤ b ∧ b < n' ∧ Am m' b (.bs (pack (treeB t)) 5 .more))
theorem bytes_r {O : Oz} (hO : O = zO) (Φ : Phi) (HT : ToldR (Phi.fn Φ 76)) : BytesR (p51 O Φ) := fun {rb nn n v t m} hR hW hso hrb hnn k P hn hf => by
  have hS := hR.s
  have hRw := hR.r
  have hlen := hW.len
  have hc1 := hW.c1
  have hc2 := hW.c2
  have hcn : t.cwd ≠ [] := fun h => by rw [h] at hc1; simp at hc1
  have e2 : t.L.length % 256 % 256 = t.L.length % 256 := Nat.mod_mod _ _
  repeat' ((conv => lhs; whnf); first | ((refine lvE hO hRw1 ?_)) | ((with_reducible refine cvW hO ?_)) | ((with_reducible refine bs2 hO (by omega) (by omega) (by omega) ?_; rw [e2])) | ((with_reducible refine atFn ?_); (refine HT t.cwd _ _ (by omega) _ _ (by omega) (fun v1 n1 m1 h1 g1 k1 q1 => ?_); obtain ⟨b1, x1, tl1, rfl, r1, r2, r3, r4⟩ := q1; obtain ⟨rfl, rfl⟩ := r4 hcn; have k1p := Kq.kp k1; have hS1 : Am m1 rb (.cells [v, .s (pack t.cwd)] 91 .exact) := k1p _ _ (by omega) hS; have hRw1 := hRw.kp k1p hnn)) | ((with_reducible refine fa0 hO ?_)) | ((with_reducible refine atLd ?_); first | refine ldC hO hS (by rfl) ?_ | refine ldC hO hS1 (by rfl) ?_) | ((with_reducible refine rmI hO (by omega) ?_)) | ((with_reducible refine quI hO (by omega) (by omega) ?_)) | ((with_reducible refine atAp ?_); refine apBB hO aQ aQ (by rw [toldB_len]; omega) (by show 2 ≤ 2; omega) (by omega) (by rfl) (fun _ => rfl) (by omega) (by omega) ?_))
  all_goals (conv => lhs; whnf)
  all_goals first
    | refine lpI hO (fun q e n' m' => ∃ i b L, i ≤ t.L.length ∧ q = t.L.length - i ∧ n ≤ n' ∧ n' ≤ n + 4 + 8 * i ∧ Kp n m m' ∧ n ≤ b ∧ b < n' ∧ L = (byI t i).length ∧ Am m' b (.bs (pack (byI t i)) 5 .more) ∧ e = eof [(2, .o .sl), (3, .sl b 0 L L false 1), (4, .n .i64 i)]) ?_ ?_ _ t.L.length _ _ _ (by omega) ⟨0, _, 2 + t.cwd.length + 2, by omega, by omega, by omega, by omega, kQ, ?_, ?_, preB_len t, by rw [byI_0, preB_eq]; exact am_same (by omega), rfl⟩
  all_goals first
    | omega
    | (rintro q e n' m' ⟨i, b, L, _, _, h, _⟩; omega)
    | (rintro q e n' m' ih ⟨i, b5, L5, hi, rfl, hn1, hn2, k5, hb5, hb6, hL5, hd5, rfl⟩ hih
       have hS5 : Am m' rb (.cells [v, .s (pack t.cwd)] 91 .exact) := k5 _ _ (by omega) hS
       have hRw5 := hRw.kp k5 hnn
       have hz3 := byI_len hW i
       rcases Nat.lt_or_ge i t.L.length with hlt | hge
       · obtain ⟨e, hy⟩ : ∃ e, t.L[i]? = some e := ⟨_, List.getElem?_eq_getElem hlt⟩
         have he : (sortE t.L)[i]? = some e := by rw [hso]; exact hy
         obtain ⟨z1, z2⟩ := used_aux hW he
         rcases hRw5 with ⟨h00, rfl⟩ | ⟨b, Kb, xb, eb, tlb, rfl, hbn, hbm⟩
         · rw [h00] at hlt; exact absurd hlt (Nat.not_lt_zero _)
         repeat' ((conv => lhs; whnf); first | ((with_reducible refine bs1 hO (by omega) (by omega) ?_)) | ((with_reducible refine atFn ?_); (refine HT _ _ _ (by omega) _ _ (by omega) (fun v6 n6 m6 h6 g6 k6 q6 => ?_); obtain ⟨b6, x6, tl6, rfl, u2, u3, u4, u5⟩ := q6; have k6p := Kq.kp k6)) | ((with_reducible refine fa0 hO ?_)) | ((with_reducible refine faN hO ?_)) | ((with_reducible refine atLd ?_); first | refine ldC hO aQ (by rfl) ?_ | refine ldC hO aQ (ens_at0 hy) ?_ | refine ldC hO aQ (ens_at1 hy) ?_ | refine ldC hO aQ (ens_at2 hy) ?_) | ((with_reducible refine lvS hO ?_)) | ((with_reducible refine ltT hO (by omega) ?_)) | ((with_reducible refine adI hO (by omega) ?_)) | ((with_reducible refine ix0 hO (by omega) ?_)) | ((with_reducible refine atAp ?_); first | refine apBB hO aQ aQ (by omega) (by show 1 ≤ 1; omega) (by omega) (by rfl) (fun _ => rfl) (by omega) (by omega) ?_ | refine apBB hO aQ aQ (by simp only [List.length_append, List.length_take, List.drop_zero, List.length_singleton]; omega) (by rw [toldB_len]; omega) (by omega) (by rfl) (fun _ => rfl) (by omega) (by omega) ?_ | refine apBB hO aQ aQ (by simp only [List.length_append, List.length_take, List.drop_zero, List.length_singleton, toldB_len]; omega) (by rw [toldB_len]; omega) (by omega) (by rfl) (fun _ => rfl) (by omega) (by omega) ?_) | ((with_reducible refine atB ?_); refine brec (fun h => ?_) (fun h => ?_)))
         all_goals (conv => lhs; whnf)
         all_goals first
           | exact hih (t.L.length - (i + 1)) _ _ _ (by omega) ⟨i + 1, _, _, by omega, rfl, by omega, by omega, kQ, by omega, by omega, len_dir hL5 he (by assumption), by rw [ent_dir hL5 he (by assumption)]; exact am_same (by omega), rfl⟩
           | exact hih (t.L.length - (i + 1)) _ _ _ (by omega) ⟨i + 1, _, _, by omega, rfl, by omega, by omega, kQ, by omega, by omega, len_file hL5 he (by assumption), by rw [ent_file hL5 he (by assumption)]; exact am_same (by omega), rfl⟩
       · obtain rfl : i = t.L.length := by omega
         repeat' ((conv => lhs; whnf); first | ((refine lvE hO hRw5 ?_)) | ((with_reducible refine fa0 hO ?_)) | ((with_reducible refine atLd ?_); refine ldC hO hS5 (by rfl) ?_) | ((with_reducible refine ltF hO (by omega) ?_)))
         all_goals (conv => lhs; whnf)
         all_goals first
           | (rw [byI_all] at hL5 hd5; subst hL5; exact hf _ _ _ (by omega) (by omega) (Kq.of k5 _) ⟨b5, rfl, by omega, by omega, hd5⟩))
end Go.Proofs.YtjoakhpdajlhiaaDoor.V2.S
namespace Go.Proofs.YtjoakhpdajlhiaaDoor.V2.S
open Go
set_option maxRecDepth 100000
set_option maxHeartbeats 4000000
set_option linter.unusedVariables false
attribute [local irreducible] fN fO nM gM pM Phi.fn mp bl bpart bapp top1 pack
theorem stp_take {x y : En} {L : List En} {i : Nat} (h : L[i]? = some y) (p : List En × Bool) : (L.take (i + 1)).foldl (stpR x) p = stpR x ((L.take i).foldl (stpR x) p) y := by
  rw [List.take_add_one, h, List.foldl_append]; rfl
theorem ins_len {x : En} : ∀ {S : List En}, (insR x S).length ≤ S.length + 1
  | [] => by simp [insR]
  | y :: S => by
    unfold insR
    have := ins_len (x := x) (S := S)
    split
    · rw [List.length_cons, List.length_cons]; omega
    · split
      · rw [List.length_cons, List.length_cons]; omega
      · simp only [List.length_cons]; omega
theorem ins_ne {x : En} : ∀ {S : List En}, insR x S ≠ []
  | [] => by simp [insR]
  | y :: S => by
    unfold insR
    split
    · simp
    · split <;> simp
theorem used_at {H : HF} (h : UsedR H) {rb nn n : Nat} {v : FV} {L : List En} {m : T FObj} (hS : Am m rb (.cells [v, .s (pack [])] 91 .exact)) (hR : RowE m nn v L) (h1 : L.length ≤ 200) (h2 : sizesG L ≤ 900000000) : Ret0 H [.p rb 0] n m (.tup [.n .i64 L.length, .n .i64 (sizesG L)]) := h (t := ⟨L, []⟩) ⟨hS, hR⟩ h1 h2
def PutR (H : HF) : Prop := ∀ {rb nn n : Nat} {v : FV} {t : Tr} {m : T FObj}, RTree m rb nn v (srt t) → WfT t → rb < n → nn ≤ n → ∀ (x : En), x.path.length ≤ 900000 → x.data.length ≤ 900000 → ∀ (k : KV) (P : FR), n + 520 ≤ 1000000 → (∀ n' m' v', n ≤ n' → n' ≤ n + 520 → Kq [rb] n m m' → RTree m' rb n' v' (srt (putG t x).1) → (Gt rb v → Gt rb v') → k (.n .i64 (putG t x).2) ⟨n', m'⟩ = P) → H [.p rb 0, entV x] ⟨n, m⟩ k = P
theorem put_r {O : Oz} (hO : O = zO) (Φ : Phi) (HU : UsedR (Phi.fn Φ 53)) : PutR (p49 O Φ) := fun {rb nn n v t m} hR hW hrb hnn x hx1 hx2 k P hn hf => by
  have hS := hR.s
  have hRw := hR.r
  have hlen := hW.len
  have hsz := hW.sz
  have hsl := srt_len t
  have hso : ((srt t).L.map En.path).Pairwise (· < ·) := sortE_pw hW
  have hS0 : Am (mp m n (.cells (enV x) 86 .exact)) rb (.cells [v, .s (pack t.cwd)] 91 .exact) := am_ne (by omega) (by omega) hS
  have hRw0 : RowE (mp m n (.cells (enV x) 86 .exact)) nn v (srt t).L := hRw.kp (Kp.mp (Kp.refl _ _) (Nat.le_refl n) (by omega)) hnn
  by_cases hlg : 256 < x.path.length ∨ 8192 < x.data.length
  · rw [put_long hlg] at hf
    repeat' ((conv => lhs; whnf); first | ((refine bxEn hO (by omega) ?_)) | ((with_reducible refine fa0 hO ?_)) | ((with_reducible refine atLd ?_); refine ldC hO aQ (by rfl) ?_) | (((with_reducible refine lsS hO ?_); try simp only [List.length_cons, List.length_nil, Nat.zero_add])) | ((with_reducible refine gtT hO (by omega) ?_)) | ((with_reducible refine gtB hO (fun h => ?_) (fun h => ?_))))
    all_goals (conv => lhs; whnf)
    all_goals first
      | exact hf _ _ v (by omega) (by omega) (Kq.of kQ _) ⟨aQ, hRw0.up (by omega)⟩ (fun h => h)
      | (exfalso; omega)
  repeat' ((conv => lhs; whnf); first | ((refine bxEn hO (by omega) ?_)) | ((with_reducible refine fa0 hO ?_)) | ((with_reducible refine atLd ?_); refine ldC hO aQ (by rfl) ?_) | (((with_reducible refine lsS hO ?_); try simp only [List.length_cons, List.length_nil, Nat.zero_add])) | ((with_reducible refine gtF hO (by omega) ?_)))
  all_goals (conv => lhs; whnf)
  all_goals first
    | (exfalso; omega)
    | refine lpI hO (fun q e n' m' => ∃ i o d w, i ≤ (srt t).L.length ∧ q = (srt t).L.length - i ∧ n + 1 ≤ n' ∧ n' ≤ n + 1 + 4 * i ∧ Kp (n + 1) (mp m n (.cells (enV x) 86 .exact)) m' ∧ ((srt t).L.take i).foldl (stpR x) ([], false) = (o, d) ∧ EnAt m' (n + 1) n' w o ∧ e = eof [(4, .n .i64 0), (5, w), (6, .b d), (7, .n .i64 i)]) ?_ ?_ _ (srt t).L.length _ _ _ (by omega) ⟨0, [], false, .o .sl, by omega, rfl, Nat.le_refl _, Nat.le_refl _, Kp.refl _ _, rfl, EnAt.nil _ _ _, rfl⟩
  · rintro q e n' m' ⟨i, o, d, w, _, _, h, _⟩; omega
  · (  rintro q e n1 m1 ih ⟨i, o, d, w, hi, rfl, hn1, hn2, k1, hfo, hE, rfl⟩ hih
       have hS1 : Am m1 rb (.cells [v, .s (pack t.cwd)] 91 .exact) := k1 _ _ (by omega) hS0
       have hX1 : Am m1 n (.cells (enV x) 86 .exact) := k1 _ _ (by omega) (am_same (by omega))
       have hRw1 := hRw0.kp k1 (by omega)
       have hol : o.length ≤ 2 * i := by
         have h0 : o.length ≤ 0 + 2 * min i (srt t).L.length := by
           have := stp_len (x := x) (S := (srt t).L.take i) (p := ([], false))
           rw [hfo, List.length_take] at this; exact this
         omega
       rcases Nat.lt_or_ge i (srt t).L.length with hlt | hge
       · obtain ⟨y, hy⟩ : ∃ y, (srt t).L[i]? = some y := ⟨_, List.getElem?_eq_getElem hlt⟩
         have hst := stp_take (x := x) hy ([], false)
         rw [hfo] at hst
         rcases hRw1 with ⟨h00, rfl⟩ | ⟨b, Kb, xb, eb, tlb, rfl, hbn, hbm⟩
         · rw [h00] at hlt; exact absurd hlt (Nat.not_lt_zero _)
         have hy2 := (List.getElem?_eq_some_iff.1 hy).1
         rcases d with _ | _
         repeat' ((conv => lhs; whnf); first | ((refine lnE1 hO aQ ?_)) | ((refine lnEn hO aQ hy ?_)) | ((with_reducible refine bsEn hO (by omega) ?_)) | ((refine geSB hO (fun h => ?_) (fun h => ?_))) | ((with_reducible refine fa0 hO ?_)) | ((with_reducible refine faN hO ?_)) | ((with_reducible refine atLd ?_); first | refine ldC hO aQ (by rfl) ?_ | refine ldC hO aQ (ens_at0 hy) ?_) | ((with_reducible refine lvS hO ?_)) | ((with_reducible refine ltT hO (by omega) ?_)) | ((with_reducible refine neSB hO (fun h => ?_) (fun h => ?_))) | ((with_reducible refine adI hO (by omega) ?_)) | ((with_reducible refine ix0 hO (by omega) ?_)) | ((with_reducible refine atAp ?_); first | refine apEn (lo := n + 1) hO (hE2.kp kQ (Nat.le_refl _)) (am_same (by omega)) (by first | omega | (rw [List.length_append, List.length_singleton]; omega)) (by omega) (by omega) (by omega) (fun m4 hm4 hE4 => (fun k4 : Kp (n + 1) _ m4 => ?_) hm4) | refine apEn (lo := n + 1) hO (hE.kp kQ (Nat.le_refl _)) (am_same (by omega)) (by omega) (by omega) (by omega) (by omega) (fun m2 hm2 hE2 => (fun k2 : Kp (n + 1) _ m2 => ?_) hm2)))
         all_goals (conv => lhs; whnf)
         all_goals first
           | (exfalso; have h1 : y.path < x.path := (by assumption); have h2 : y.path = x.path := (by assumption); rw [h2] at h1; exact List.lt_irrefl _ h1)
           | exact hih ((srt t).L.length - (i + 1)) _ _ _ (by omega) ⟨i + 1, _, _, _, by omega, rfl, by omega, by omega, kQ, hst.trans (by unfold stpR; simp [*]), hE4.up (by omega), rfl⟩
           | exact hih ((srt t).L.length - (i + 1)) _ _ _ (by omega) ⟨i + 1, _, _, _, by omega, rfl, by omega, by omega, kQ, hst.trans (by unfold stpR; simp [*]), hE2.up (by omega), rfl⟩
           | exact hih ((srt t).L.length - (i + 1)) _ _ _ (by omega) ⟨i + 1, _, _, _, by omega, rfl, by omega, by omega, kQ, hst.trans (by unfold stpR; simp [*]), hE.up (by omega), rfl⟩
       · obtain rfl : i = (srt t).L.length := by omega
         rw [List.take_length] at hfo
         have hfin := stp_ins (x := x) (o := []) hso
         rw [hfo, List.nil_append] at hfin
         have hil := ins_len (x := x) (S := (srt t).L)
         have hism := ins_sizes hW x
         have hbg : bytesG t x ≤ sizesG t.L + x.path.length := by unfold bytesG; split <;> omega
         have hrs : (srt (putG t x).1).cwd = t.cwd := by unfold putG; split <;> (try split) <;> rfl
         rcases d with _ | _
         · have hfin : o ++ [x] = insR x (srt t).L := hfin
           repeat' ((conv => lhs; whnf); first | ((refine lnE1 hO aQ ?_)) | ((with_reducible refine bsEn hO (by omega) ?_)) | ((refine lvE hO hRw1 ?_)) | ((with_reducible refine atFn ?_); refine used_at HU (L := insR x (srt t).L) aQ (hRW.kp kQ (Nat.le_refl _)) (by omega) (by omega) _ _ ?_) | ((with_reducible refine fa0 hO ?_)) | ((with_reducible refine atLd ?_); refine ldC hO aQ (by rfl) ?_) | ((with_reducible refine ltF hO (by omega) ?_)) | ((with_reducible refine gtB hO (fun h => ?_) (fun h => ?_))) | ((with_reducible refine atSt ?_); refine stC hO aQ (by kernel_rfl) (fun _ _ _ => rfl) (fun _ => rfl) ?_) | ((with_reducible refine atBx ?_); refine bxA hO (by omega) (by simp only [αL, αV, AObj.of, allInt, βO, βL, βV, unp_pack]) ?_) | ((with_reducible refine atAp ?_); refine apEn (lo := n + 1) hO (hE.kp kQ (Nat.le_refl _)) (am_same (by omega)) (by omega) (by omega) (by omega) (by omega) (fun m2 hm2 hE2 => (fun k2 : Kp (n + 1) _ m2 => (fun hRW => ?_) (hfin ▸ hE2.row)) hm2)) | ((with_reducible first | refine umt hO ?_ | refine uqu hO ?_ | refine urm hO ?_ | refine uan hO ?_ | refine uro hO ?_ | refine uxr hO ?_ | refine uhl hO ?_ | refine uhr hO ?_ | refine uad hO ?_ | refine usb hO ?_ | refine ult hO ?_ | refine ule hO ?_ | refine ugt hO ?_ | refine uge hO ?_ | refine ueq hO ?_ | refine une hO ?_ | refine ucv hO ?_ | refine uia hO ?_ | refine usv hO ?_ | refine ubu hO ?_ | refine uap hO ?_ | refine ubs hO ?_ | refine umm hO ?_ | refine upq hO ?_ | refine unq hO ?_ | refine uln hO ?_)))
           all_goals (conv => lhs; whnf)
           all_goals first
             | (rw [put_full hW hlg (by omega)] at hf; exact hf _ _ v (by omega) (by omega) (Kq.of kQ _) ⟨aQ, (hRw0.kp (k := n + 1) kQ (by omega)).up (by omega)⟩ (fun h => h))
             | (obtain ⟨hz1, hz2⟩ := put_done hW hlg (by omega); rw [hz1, hz2] at hf; refine hf _ _ _ (by omega) (by omega) qQ ⟨am_same (by omega), ?_⟩ (fun _ b o L K x z h => by cases h; omega); exact (RowE.kg (rb := rb) (hRW.kp kQ (Nat.le_refl _)) (Kq.mp (Kq.refl _ _ _) (.inr (by simp)) (by omega)) (Nat.le_refl _) (fun b o L K x z h => by cases h; omega)).up (by omega))
         · have hfin : o = insR x (srt t).L := hfin
           have hRW := hfin ▸ hE.row
           rcases hE with ⟨h00, _⟩ | ⟨bo, rfl, hb1, hb2, hb3⟩
           · exact absurd (hfin.symm.trans h00) ins_ne
           repeat' ((conv => lhs; whnf); first | ((refine lvE hO hRw1 ?_)) | ((with_reducible refine atFn ?_); refine used_at HU (L := insR x (srt t).L) aQ (hRW.kp kQ (Nat.le_refl _)) (by omega) (by omega) _ _ ?_) | ((with_reducible refine fa0 hO ?_)) | ((with_reducible refine atLd ?_); refine ldC hO aQ (by rfl) ?_) | ((with_reducible refine ltF hO (by omega) ?_)) | ((with_reducible refine gtB hO (fun h => ?_) (fun h => ?_))) | ((with_reducible refine atSt ?_); refine stC hO aQ (by kernel_rfl) (fun _ _ _ => rfl) (fun _ => rfl) ?_) | ((with_reducible refine atBx ?_); refine bxA hO (by omega) (by simp only [αL, αV, AObj.of, allInt, βO, βL, βV, unp_pack]) ?_) | ((with_reducible first | refine umt hO ?_ | refine uqu hO ?_ | refine urm hO ?_ | refine uan hO ?_ | refine uro hO ?_ | refine uxr hO ?_ | refine uhl hO ?_ | refine uhr hO ?_ | refine uad hO ?_ | refine usb hO ?_ | refine ult hO ?_ | refine ule hO ?_ | refine ugt hO ?_ | refine uge hO ?_ | refine ueq hO ?_ | refine une hO ?_ | refine ucv hO ?_ | refine uia hO ?_ | refine usv hO ?_ | refine ubu hO ?_ | refine uap hO ?_ | refine ubs hO ?_ | refine umm hO ?_ | refine upq hO ?_ | refine unq hO ?_ | refine uln hO ?_)))
           all_goals (conv => lhs; whnf)
           all_goals first
             | (rw [put_full hW hlg (by omega)] at hf; exact hf _ _ v (by omega) (by omega) (Kq.of kQ _) ⟨aQ, (hRw0.kp (k := n + 1) kQ (by omega)).up (by omega)⟩ (fun h => h))
             | (obtain ⟨hz1, hz2⟩ := put_done hW hlg (by omega); rw [hz1, hz2] at hf; refine hf _ _ _ (by omega) (by omega) qQ ⟨am_same (by omega), ?_⟩ (fun _ b o L K x z h => by cases h; omega); exact (RowE.kg (rb := rb) (hRW.kp kQ (Nat.le_refl _)) (Kq.mp (Kq.refl _ _ _) (.inr (by simp)) (by omega)) (Nat.le_refl _) (fun b o L K x z h => by cases h; omega)).up (by omega)))
end Go.Proofs.YtjoakhpdajlhiaaDoor.V2.S
