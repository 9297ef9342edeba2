/- Part 9 of the proof: texts of the proof. -/
import Derived.Test.YtjoakhpdajlhiaaGreatDoorQY8
namespace Go.Proofs.YtjoakhpdajlhiaaGreatDoor.V2.S
open Go
def odd (c : Nat) : Bool := decide (c < 32) || decide (c = 127) || decide (c = 47)
def Bg (s : Bs) : Bool := decide (s ≠ []) && decide (s ≠ [46]) && decide (s ≠ [46, 46]) && decide (s.length ≤ 32) && !(s.any fun b => odd b.toNat)
def Cq (s p : Bs) : Bool := decide (p.length ≤ s.length) && decide (s.take p.length = p)
def Dg (s p : Bs) : Bool := decide (p.length ≤ s.length) && decide (s.drop (s.length - p.length) = p)
def Ak : Bs → List Bs
  | [] => [[]]
  | c :: l => if c = 47 then [] :: Ak l else match Ak l with
    | [] => [[c]]
    | p :: ps => (c :: p) :: ps
structure En where
  path : Bs
  dir : Bool
  data : Bs
structure Tr where
  L : List En
  cwd : Bs
def Eb (e : En) : FV := .agg [.s (pack e.path), .b e.dir, .s (pack e.data)]
def Dy (t : Tr) (p : Bs) : Option En := Av En.path p t.L
def Al (t : Tr) (p : Bs) : Nat := if p = [47] then 1 else match Dy t p with
  | some e => if e.dir then 1 else 2
  | none => 0
def lastS : Bs → Nat
  | [] => 0
  | c :: l => if lastS l = 0 then (if c = 47 then 1 else 0) else lastS l + 1
def C9 (p : Bs) : Bs := p.take (max (lastS p - 1) 1)
def Eg (d : Bs) : Bs := if Dg d [47] then d.take (d.length - 1) else d
def Bt (d n : Bs) : Bs := Eg d ++ [47] ++ n
def Bb (t : Tr) (at_ part : Bs) : Nat ⊕ Bs :=
  if part = [] ∨ part = [46] then .inr at_
  else if part ≠ [46, 46] ∧ Bg part = false then .inl 23
  else if Al t at_ = 0 then .inl 6
  else if Al t at_ = 2 then .inl 5
  else if part = [46, 46] then .inr (C9 at_)
  else .inr (Bt at_ part)
def A3 (t : Tr) : Bs → List Bs → Nat ⊕ Bs
  | a, [] => .inr a
  | a, p :: ps => match Bb t a p with
    | .inl e => .inl e
    | .inr b => A3 t b ps
def Ae (t : Tr) (path : Bs) : Bs × Nat :=
  if path = [] ∨ 256 < path.length then ([], 23)
  else match A3 t (if Cq path [47] then [47] else t.cwd) (Ak path) with
    | .inl e => ([], e)
    | .inr a => (a, 0)
def isG (t : Tr) (path : Bs) (kind : Nat) : Bs × Nat :=
  if (Ae t path).2 ≠ 0 then ([], (Ae t path).2) else if Al t (Ae t path).1 = kind then ((Ae t path).1, 0) else if Al t (Ae t path).1 = 0 then ([], 6) else ([], 5)
def C3 (t : Tr) (p : Bs) : Bs := match Dy t p with
  | some x => x.data
  | none => []
def E5 (t : Tr) (path : Bs) : Bs × Nat := if (isG t path 2).2 ≠ 0 then ([], (isG t path 2).2) else (C3 t (isG t path 2).1, 0)
def At : List En → Nat
  | [] => 0
  | e :: l => e.path.length + e.data.length + At l
def manyG (t : Tr) (x : En) : Nat := match Dy t x.path with
  | some _ => t.L.length
  | none => t.L.length + 1
def Gy (t : Tr) (x : En) : Nat := match Dy t x.path with
  | some o => At t.L - o.data.length
  | none => At t.L + x.path.length
def Cn (t : Tr) (x : En) : Tr × Nat :=
  if 256 < x.path.length ∨ 8192 < x.data.length then (t, 3)
  else if 128 < manyG t x ∨ 32768 < Gy t x + x.data.length then (t, 7)
  else ({ t with L := setM En.path x t.L }, 0)
def Bp (t : Tr) (path data : Bs) (more : Bool) : Tr × Nat :=
  if (Ae t path).2 ≠ 0 then (t, (Ae t path).2) else if Al t (Ae t path).1 = 1 then (t, 5) else Cn t ⟨(Ae t path).1, false, if more then C3 t (Ae t path).1 ++ data else data⟩
def Co (t : Tr) (path : Bs) : Tr × Nat :=
  if (Ae t path).2 ≠ 0 then (t, (Ae t path).2) else if Al t (Ae t path).1 ≠ 0 then (t, 9) else Cn t ⟨(Ae t path).1, true, []⟩
def cdG (t : Tr) (path : Bs) : Tr × Nat := if (isG t path 1).2 ≠ 0 then (t, (isG t path 1).2) else ({ t with cwd := (isG t path 1).1 }, 0)
def G4 (t : Tr) (path : Bs) : Nat × Nat := if (Ae t path).2 ≠ 0 then (0, (Ae t path).2) else (Al t (Ae t path).1, 0)
def Bk (t : Tr) (d : Bs) : Bool := t.L.any fun e => decide (C9 e.path = d)
def G9 (t : Tr) (a : Bs) : Prop := a = [47] ∨ a = t.cwd ∨ Cq t.cwd (Bt a []) = true
open Classical in
noncomputable def Ax (t : Tr) (path : Bs) : Tr × Nat :=
  if (Ae t path).2 ≠ 0 then (t, (Ae t path).2) else if Al t (Ae t path).1 = 0 then (t, 6)
  else if G9 t (Ae t path).1 then (t, 1) else if Bk t (Ae t path).1 = true then (t, 10)
  else ({ t with L := D4 En.path (Ae t path).1 t.L }, 0)
def newG : Tr := ⟨[], [47]⟩
structure WfT (t : Tr) : Prop where
  nd : (t.L.map En.path).Nodup
  len : t.L.length ≤ 128
  sz : At t.L ≤ 32768
  hd : ∀ e ∈ t.L, e.path.head? = some 47
  pl : ∀ e ∈ t.L, e.path.length ≤ 256 ∧ e.data.length ≤ 8192
  hc : t.cwd.head? = some 47
  c1 : 1 ≤ t.cwd.length
  c2 : t.cwd.length ≤ 256
theorem head_parG {a : Bs} (h : a.head? = some 47) : (C9 a).head? = some 47 := by
  unfold C9
  cases a with
  | nil => cases h
  | cons c l =>
    obtain ⟨q, hq⟩ : ∃ q, max (lastS (c :: l) - 1) 1 = q + 1 := ⟨max (lastS (c :: l) - 1) 1 - 1, by omega⟩
    rw [hq, List.take_succ_cons]; exact h
theorem head_joinG {a b : Bs} (h : a.head? = some 47) : (Bt a b).head? = some 47 := by
  unfold Bt Eg
  split
  · cases a with
    | nil => cases h
    | cons c l =>
      cases l with
      | nil => rfl
      | cons d l => simpa using h
  · cases a with
    | nil => cases h
    | cons c l => simpa using h
theorem stepG_head {t : Tr} {a b p : Bs} (ha : a.head? = some 47) (h : Bb t a p = .inr b) : b.head? = some 47 := by
  unfold Bb at h
  split at h
  · cases h; exact ha
  split at h
  · cases h
  split at h
  · cases h
  split at h
  · cases h
  split at h
  · cases h; exact head_parG ha
  · cases h; exact head_joinG ha
theorem stepG_ne0 {t : Tr} {a p : Bs} : Bb t a p ≠ .inl 0 := by
  unfold Bb
  split
  · exact fun h => by cases h
  split
  · exact fun h => by cases h
  split
  · exact fun h => by cases h
  split
  · exact fun h => by cases h
  split <;> exact fun h => by cases h
theorem Lk {t : Tr} : ∀ {ps : List Bs} {a : Bs}, A3 t a ps ≠ .inl 0
  | [], a => fun h => by unfold A3 at h; cases h
  | p :: ps, a => by
    unfold A3
    cases hs : Bb t a p with
    | inl e => exact fun h => by cases h; exact stepG_ne0 hs
    | inr c => exact Lk
theorem loopG_head {t : Tr} : ∀ {ps : List Bs} {a b : Bs}, a.head? = some 47 → A3 t a ps = .inr b → b.head? = some 47
  | [], a, b, ha, h => by unfold A3 at h; cases h; exact ha
  | p :: ps, a, b, ha, h => by
    unfold A3 at h
    cases hs : Bb t a p with
    | inl e => rw [hs] at h; cases h
    | inr c => rw [hs] at h; exact loopG_head (stepG_head ha hs) h
theorem absG_head {t : Tr} {path : Bs} (hc : t.cwd.head? = some 47) (h : (Ae t path).2 = 0) : (Ae t path).1.head? = some 47 := by
  unfold Ae at h ⊢
  split
  · rename_i hh; rw [if_pos hh] at h; cases h
  · rename_i hh
    rw [if_neg hh] at h
    cases hl : A3 t (if Cq path [47] then [47] else t.cwd) (Ak path) with
    | inl e => 
      rw [hl] at h
      have : e = 0 := h
      exact absurd hl (by subst this; exact Lk)
    | inr a => exact loopG_head (by split; rfl; exact hc) hl
theorem B2 : ∀ {L : List En} {p : Bs} {a : En}, Av En.path p L = some a → a.path.length + a.data.length ≤ At L ∧ a.path = p
  | [], p, a, h => by cases h
  | b :: L, p, a, h => by
    unfold Av at h
    unfold At
    by_cases hb : b.path = p
    · rw [if_pos hb] at h; cases h; exact ⟨by omega, hb⟩
    · rw [if_neg hb] at h
      obtain ⟨h1, h2⟩ := B2 h
      exact ⟨by omega, h2⟩
structure TreeAt (m : T FObj) (tb mb TT : Nat) (t : Tr) : Prop where
  s : Am m tb (.cells [.m mb, .s (pack t.cwd)] TT .exact)
  m : Am m mb (.map (t.L.map fun a => (.s (pack (En.path a)), Eb a)))
theorem TreeAt.kq {xs : List Nat} {n : Nat} {m m' : T FObj} {tb mb TT : Nat} {t : Tr} (h : TreeAt m tb mb TT t) (hk : Kq xs n m m') (h1 : tb < n) (h2 : mb < n) (h3 : ∀ x ∈ xs, tb ≠ x) (h4 : ∀ x ∈ xs, mb ≠ x) : TreeAt m' tb mb TT t := ⟨hk _ _ h1 h3 h.s, hk _ _ h2 h4 h.m⟩
theorem TreeAt.kp {n : Nat} {m m' : T FObj} {tb mb TT : Nat} {t : Tr} (h : TreeAt m tb mb TT t) (hk : Kp n m m') (h1 : tb < n) (h2 : mb < n) : TreeAt m' tb mb TT t := ⟨hk _ _ h1 h.s, hk _ _ h2 h.m⟩
/-! Plain facts. -/
theorem any_bt {f : Nat → Bool} : ∀ {l : Bs}, (l.any fun b => f b.toNat) = true ↔ ∃ i, i < l.length ∧ f (bt l i) = true
  | [] => by simp
  | c :: l => by
    rw [List.any_cons, Bool.or_eq_true, any_bt (l := l)]
    constructor
    · rintro (h | ⟨i, hi, h⟩)
      · exact ⟨0, by simp, h⟩
      · exact ⟨i + 1, by simpa using hi, by simpa [bt] using h⟩
    · rintro ⟨i, hi, h⟩
      cases i with
      | zero => exact .inl h
      | succ i => exact .inr ⟨i, by simpa using hi, by simpa [bt] using h⟩
theorem any_bt_f {f : Nat → Bool} {l : Bs} (h : ∀ i, i < l.length → f (bt l i) = false) : (l.any fun b => f b.toNat) = false := by
  cases hb : l.any fun b => f b.toNat with
  | false => rfl
  | true =>
    obtain ⟨i, hi, h1⟩ := any_bt.1 hb
    rw [h i hi] at h1; cases h1
theorem Kl (c : UInt8) (l : Bs) (i : Nat) : bt (c :: l) (i + 1) = bt l i := by simp [bt]
theorem Ht : ∀ l : Bs, lastS l ≤ l.length
  | [] => Nat.le_refl _
  | c :: l => by
    have := Ht l
    unfold lastS
    simp only [List.length_cons]
    split
    · split <;> omega
    · omega
theorem Fa : ∀ {l : Bs}, (∀ i, i < l.length → bt l i ≠ 47) → lastS l = 0
  | [], _ => rfl
  | c :: l, h => by
    unfold lastS
    rw [if_pos (Fa fun i hi => by have := h (i + 1) (by simpa using hi); rwa [Kl] at this)]
    rw [if_neg]
    intro hc
    exact h 0 (by simp) (by subst hc; rfl)
theorem Jj : ∀ {l : Bs} {i : Nat}, i < l.length → bt l i = 47 → (∀ j, i < j → j < l.length → bt l j ≠ 47) → lastS l = i + 1
  | [], i, hi, _, _ => by simp at hi
  | c :: l, 0, hi, hb, h => by
    unfold lastS
    rw [if_pos (Fa fun j hj => by have := h (j + 1) (by omega) (by simpa using hj); rwa [Kl] at this)]
    rw [if_pos]
    have hb : c.toNat = 47 := hb
    exact UInt8.toNat_inj.1 hb
  | c :: l, i + 1, hi, hb, h => by
    unfold lastS
    have := Jj (l := l) (i := i) (by simpa using hi) (by rwa [Kl] at hb) (fun j h1 h2 => by have := h (j + 1) (by omega) (by simpa using h2); rwa [Kl] at this)
    rw [this, if_neg (by omega)]
def iv : Nat → FV
  | 0 => .z .i64 0
  | j + 1 => .n .i64 j
end Go.Proofs.YtjoakhpdajlhiaaGreatDoor.V2.S
namespace Go.Proofs.YtjoakhpdajlhiaaGreatDoor.V2.S
open Go
set_option linter.unusedVariables false
noncomputable section
theorem qz {n : Nat} {f : Func} (nt np : Nat) (kp : List Nat) {q : Phi → HF} (h : Tryz.prog.funcs[n]? = some f) (hb : okZ f = true) (hq : thrF 1000000 (drOf nt kp) np (eZ f) = q) (hf : Nat.blt n 1048576 = true := by rfl) : QeOk ⟨n, eZ f, q⟩ := qe_of (nt := nt) (np := np) (kp := kp) (eokZ h hb) hq hf
def vC (r : Rd) : Rs := v1 r
def p6 (O : Oz) : Phi → HF := fnQ (Aw fun v1 => (Bc (cWr X2 (.o .sl) (cWr X3 (.o .sl) (cWr X4 (.n .i64 0) (Ai (Bo 0 (O.lp 1000000 (Aa (oV R4) fun v2 => (Aa (o1 O.lv (rdV v1)) fun v3 => (Aa (o2 O.lt (rdV v2) (rdV v3)) fun v4 => (Aa (oG true (rdV v4) (oV R4)) fun v5 => (Aa (oG true (rdV v4) (o2 O.lt (rdV v5) (rdV (.n .i64 40)))) fun v6 => (Aa (o3 pkF (rdV v4) (rdV v6) (rdV (.b false))) fun v7 => (Ai (Af (rdV v7) Ab (Cu 0)) (Ai (Bo 1 (Aa (oV R4) fun v8 => (Aa (o2 (O.ix 4) (rdV v1) (rdV v8)) fun v9 => (Aa (m1 (O.ln 4) (rdV v9)) fun v10 => (Aa (n0Z O.al (.cells [.n .i64 0, .s (pack []), .s (pack []), .n .u16 0] 30 .exact)) fun v11 => (cDo (n2 (O.st 4) (rdV v11) (rdV v10)) (Aa (o1 (O.fa 1) (rdV v11)) fun v12 => (Aa (m1 O.ld (rdV v12)) fun v13 => (Aa (o1 (O.fa 1) (rdV v11)) fun v14 => (Aa (m1 O.ld (rdV v14)) fun v15 => (Aa (o1 O.ls (rdV v15)) fun v16 => (Aa (nL (O.pq .minI) [(rdV v16), (rdV (.n .i64 300))]) fun v17 => (Aa (oSz O.ss (rdV v13) none (some (rdV v17))) fun v18 => (Aa (o1 (O.fa 2) (rdV v11)) fun v19 => (Aa (m1 O.ld (rdV v19)) fun v20 => (Aa (o1 (O.fa 2) (rdV v11)) fun v21 => (Aa (m1 O.ld (rdV v21)) fun v22 => (Aa (o1 O.ls (rdV v22)) fun v23 => (Aa (nL (O.pq .minI) [(rdV v23), (rdV (.n .i64 40))]) fun v24 => (Aa (oSz O.ss (rdV v20) none (some (rdV v24))) fun v25 => (Aa (o1 (O.fa 1) (rdV v11)) fun v26 => (Aa (n2 (O.st 1) (rdV v26) (rdV v18)) fun v27 => (Aa (o1 (O.fa 2) (rdV v11)) fun v28 => (Aa (n2 (O.st 1) (rdV v28) (rdV v25)) fun v29 => (Ai (Bo 2 (O.lp 1000000 (Aa (o1 (O.fa 2) (rdV v11)) fun v30 => (Aa (m1 O.ld (rdV v30)) fun v31 => (Aa (o2 O.ne (rdV v31) (rdV (.s (pack [])))) fun v32 => (Aa (oG true (rdV v32) (o1 (O.fa 2) (rdV v11))) fun v33 => (Aa (oG true (rdV v32) (m1 O.ld (rdV v33))) fun v34 => (Aa (oG true (rdV v32) (o1 O.ls (rdV v34))) fun v35 => (Aa (oG true (rdV v32) (o1 (O.fa 3) (rdV v11))) fun v36 => (Aa (oG true (rdV v32) (m1 O.ld (rdV v36))) fun v37 => (Aa (oG true (rdV v32) (o1 (O.cv .i64) (rdV v37))) fun v38 => (Aa (oG true (rdV v32) (o2 O.rm (rdV v38) (rdV (.n .i64 9000)))) fun v39 => (Aa (oG true (rdV v32) (o2 O.lt (rdV v35) (rdV v39))) fun v40 => (Aa (o3 pkF (rdV v32) (rdV v40) (rdV (.b false))) fun v41 => (Ai (Af (rdV v41) Ab (Cu 2)) (Ai (Bo 3 (Aa (o1 (O.fa 2) (rdV v11)) fun v42 => (Aa (m1 O.ld (rdV v42)) fun v43 => (Aa (o1 (O.fa 2) (rdV v11)) fun v44 => (Aa (m1 O.ld (rdV v44)) fun v45 => (Aa (o1 (O.fa 2) (rdV v11)) fun v46 => (Aa (m1 O.ld (rdV v46)) fun v47 => (Aa (o1 O.ls (rdV v47)) fun v48 => (Aa (o1 (O.fa 3) (rdV v11)) fun v49 => (Aa (m1 O.ld (rdV v49)) fun v50 => (Aa (o1 (O.cv .i64) (rdV v50)) fun v51 => (Aa (o2 O.rm (rdV v51) (rdV (.n .i64 9000))) fun v52 => (Aa (o1 (O.fa 2) (rdV v11)) fun v53 => (Aa (m1 O.ld (rdV v53)) fun v54 => (Aa (o1 O.ls (rdV v54)) fun v55 => (Aa (o2 O.sb (rdV v52) (rdV v55)) fun v56 => (Aa (nL (O.pq .minI) [(rdV v48), (rdV v56)]) fun v57 => (Aa (oSz O.ss (rdV v45) none (some (rdV v57))) fun v58 => (Aa (o2 O.ad (rdV v43) (rdV v58)) fun v59 => (Aa (o1 (O.fa 2) (rdV v11)) fun v60 => (Aa (n2 (O.st 1) (rdV v60) (rdV v59)) fun v61 => Ab))))))))))))))))))))) Ab)))))))))))))))) (Aa (oV R3) fun v62 => (Aa (m1 (O.ln 4) (rdV v11)) fun v63 => (Aa (nL (O.bs 30 4 1) [(rdV v63)]) fun v64 => (Aa (n2 (O.ap 30 false 4) (rdV v62) (rdV v64)) fun v65 => (cWr X3 v65 Ab)))))))))))))))))))))))))))))) (Aa (oV R4) fun v66 => (Aa (o2 O.ad (rdV v66) (rdV (.n .i64 1))) fun v67 => (cWr X4 v67 Ab))))))))))))) (Aa (oV R3) fun v68 => (cWr X2 v68 Ao)))))) [vT R2]))
theorem k6 : QeOk ⟨6, eZ Tryz.f6, p6 zO⟩ := qz 73 1 [2, 3, 4] Tryz.func6 (by kernel_rfl) (by kernel_rfl)
def p38 (O : Oz) : Phi → HF := fnQ (Aw fun v1 => (Aw fun v2 => (Bc (Aa (Ad 13 [(rdV v1)]) fun v3 => (Ai (Af (rdV v3) Ao Ab) (Aa (o1 ncF (rdV v1)) fun v4 => (Aa (o1 (O.fa 0) (rdV v4)) fun v5 => (Aa (m1 O.ld (rdV v5)) fun v6 => (Aa (Ad 57 [(rdV v6)]) fun v7 => (Aa (Ad 56 [(rdV v7)]) fun v8 => (Aa (o1 O.lv (rdV v8)) fun v9 => (cWr X15 (.n .i64 0) (Ai (Bo 0 (O.lp 1000000 (Aa (o2 O.lt R15 (rdV v9)) fun v10 => (Ai (Af (rdV v10) Ab (Cu 0)) (Ai (Bo 1 (Aa (o2 (O.ix 1) (rdV v8) R15) fun v11 => (Aa (m1 O.ld (rdV v11)) fun v12 => (Aa (o1 ncF (rdV v1)) fun v13 => (Aa (o1 (O.fa 0) (rdV v13)) fun v14 => (Aa (m1 O.ld (rdV v14)) fun v15 => (Aa (n2 (O.lk true [.str] false (.agg [.s (pack []), .b false, .s (pack [])])) (rdV v15) (rdV v12)) fun v16 => (Aa (oCall (rdV v2) [(rdV v16)]) fun v17 => (Aa (o1 Mp (rdV v17)) fun v18 => (Ai (Af (rdV v18) Ao Ab) Ab)))))))))) (Aa (o2 O.ad R15 (rdV (.n .i64 1))) fun v19 => (cWr X15 v19 Ab))))))) Ab)))))))))) [])))
theorem k38 : QeOk ⟨38, eZ Tryz.f38, p38 zO⟩ := qz 29 2 [15] Tryz.func38 (by kernel_rfl) (by kernel_rfl)
def p35 (O : Oz) : Phi → HF := fnQ (Aw fun v1 => (Bc (cWr X2 (.s (pack [])) (Aa (Ad 13 [(rdV v1)]) fun v2 => (Ai (Af (rdV v2) (cWr X2 (.s (pack [])) Ao) Ab) (Aa (o1 ncF (rdV v1)) fun v3 => (Aa (o1 (O.fa 1) (rdV v3)) fun v4 => (Aa (m1 O.ld (rdV v4)) fun v5 => (cWr X2 v5 Ao))))))) [vT R2]))
theorem k35 : QeOk ⟨35, eZ Tryz.f35, p35 zO⟩ := qz 9 1 [2] Tryz.func35 (by kernel_rfl) (by kernel_rfl)
def p15 (O : Oz) : Phi → HF := fnQ (Aw fun v1 => (Aw fun v2 => (Bc (cWr X4 (.s (pack [])) (cWr X5 (.n .i64 0) (Ai (Bo 0 (Aa (Ad 13 [(rdV v1)]) fun v3 => (Ai (Af (rdV v3) (cWr X4 (.s (pack [])) (cWr X5 (.n .i64 2) Ao)) (Aa (o2 O.eq (rdV v2) (rdV (.s (pack [])))) fun v4 => (Aa (oG false (rdV v4) (oV (rdV v2))) fun v5 => (Aa (oG false (rdV v4) (o1 O.ls (rdV v5))) fun v6 => (Aa (oG false (rdV v4) (o2 O.gt (rdV v6) (rdV (.n .i64 256)))) fun v7 => (Aa (o3 pkF (rdV v4) (rdV (.b true)) (rdV v7)) fun v8 => (Ai (Af (rdV v8) (cWr X4 (.s (pack [])) (cWr X5 (.n .i64 23) Ao)) Ab) Ab))))))) Ab))) (Aa (o1 ncF (rdV v1)) fun v9 => (Aa (o1 (O.fa 1) (rdV v9)) fun v10 => (Aa (m1 O.ld (rdV v10)) fun v11 => (cWr X6 v11 (Aa (Ad 40 [(rdV v2), (rdV (.s (pack [47])))]) fun v12 => (Ai (Af (rdV v12) (cWr X6 (.s (pack [47])) Ab) Ab) (Aa (Ad 41 [(rdV v2), (rdV (.s (pack [47])))]) fun v13 => (Aa (o1 O.lv (rdV v13)) fun v14 => (cWr X30 (.n .i64 0) (Ai (Bo 1 (O.lp 1000000 (Aa (o2 O.lt R30 (rdV v14)) fun v15 => (Ai (Af (rdV v15) Ab (Cu 1)) (Ai (Bo 2 (Aa (o2 (O.ix 1) (rdV v13) R30) fun v16 => (Aa (m1 O.ld (rdV v16)) fun v17 => (Aa (oV R6) fun v18 => (Aa (Ad 16 [(rdV v1), (rdV v18)]) fun v19 => (Ai (Bo 3 (Aa (o2 O.eq (rdV v17) (rdV (.s (pack [])))) fun v20 => (Aa (oG false (rdV v20) (oV (rdV v17))) fun v21 => (Aa (oG false (rdV v20) (o2 O.eq (rdV v21) (rdV (.s (pack [46]))))) fun v22 => (Aa (o3 pkF (rdV v20) (rdV (.b true)) (rdV v22)) fun v23 => (Ai (Af (rdV v23) (Cu 2) (Aa (o2 O.ne (rdV v17) (rdV (.s (pack [46, 46])))) fun v24 => (Aa (oG true (rdV v24) (oV (rdV v17))) fun v25 => (Aa (oG true (rdV v24) (Ad 42 [(rdV v25)])) fun v26 => (Aa (oG true (rdV v24) (o1 Mp (rdV v26))) fun v27 => (Aa (o3 pkF (rdV v24) (rdV v27) (rdV (.b false))) fun v28 => (Ai (Af (rdV v28) (cWr X4 (.s (pack [])) (cWr X5 (.n .i64 23) Ao)) (Aa (o2 O.eq (rdV v19) (rdV (.n .i64 0))) fun v29 => (Ai (Af (rdV v29) (cWr X4 (.s (pack [])) (cWr X5 (.n .i64 6) Ao)) (Aa (o2 O.eq (rdV v19) (rdV (.n .i64 2))) fun v30 => (Ai (Af (rdV v30) (cWr X4 (.s (pack [])) (cWr X5 (.n .i64 5) Ao)) (Aa (o2 O.eq (rdV v17) (rdV (.s (pack [46, 46])))) fun v31 => (Ai (Af (rdV v31) (Aa (oV R6) fun v32 => (Aa (Ad 43 [(rdV v32)]) fun v33 => (cWr X6 v33 Ab))) (Aa (oV R6) fun v34 => (Aa (Ad 44 [(rdV v34), (rdV v17)]) fun v35 => (cWr X6 v35 Ab)))) Ab))) Ab))) Ab))) Ab))))))) Ab)))))) Ab)))))) (Aa (o2 O.ad R30 (rdV (.n .i64 1))) fun v36 => (cWr X30 v36 Ab))))))) (Aa (oV R6) fun v37 => (cWr X4 v37 (cWr X5 (.n .i64 0) Ao)))))))))))))))) [vT R4, vT R5])))
theorem k15 : QeOk ⟨15, eZ Tryz.f15, p15 zO⟩ := qz 68 2 [4, 5, 6, 30] Tryz.func15 (by kernel_rfl) (by kernel_rfl)
def p19 (O : Oz) : Phi → HF := fnQ (Aw fun v1 => (Aw fun v2 => (aLetW X2 fun v3 => (Aw fun v4 => (Bc (cWr X8 (.n .i64 0) (Aa (Ad 15 [(rdV v1), (rdV v2)]) fun v5 => (Aa (o1 (exG 0) (rdV v5)) fun v6 => (Aa (o1 (exG 1) (rdV v5)) fun v7 => (Ai (Bo 0 (Aa (o2 O.ne (rdV v7) (rdV (.n .i64 0))) fun v8 => (Ai (Af (rdV v8) (cWr X8 v7 Ao) (Aa (Ad 16 [(rdV v1), (rdV v6)]) fun v9 => (Aa (o2 O.eq (rdV v9) (rdV (.n .i64 1))) fun v10 => (Ai (Af (rdV v10) (cWr X8 (.n .i64 5) Ao) (Ai (Af (rdV v4) (Aa (o1 ncF (rdV v1)) fun v11 => (Aa (o1 (O.fa 0) (rdV v11)) fun v12 => (Aa (m1 O.ld (rdV v12)) fun v13 => (Aa (n2 (O.lk true [.str] false (.agg [.s (pack []), .b false, .s (pack [])])) (rdV v13) (rdV v6)) fun v14 => (Aa (o1 (f1F 2) (rdV v14)) fun v15 => (Aa (o2 O.ad (rdV v15) (rdV v3)) fun v16 => (cWr X2 v16 Ab))))))) Ab) Ab)) Ab)))) Ab))) (Aa (oV R2) fun v17 => (Aa (nL (O.bu [.s (pack []), .b false, .s (pack [])] [(.str []), (.bool false), (.str [])] [(0, 1), (2, 1)]) [(rdV v6), (rdV v17)]) fun v18 => (Aa (Ad 17 [(rdV v1), (rdV v18)]) fun v19 => (cWr X8 v19 Ao))))))))) [vT R8])))))
theorem k19 : QeOk ⟨19, eZ Tryz.f19, p19 zO⟩ := qz 42 4 [2, 8] Tryz.func19 (by kernel_rfl) (by kernel_rfl)
def p8 (O : Oz) : Phi → HF := fnQ (Aw fun v1 => (Aw fun v2 => (Bc (cWr X4 (.n .i64 0) (Aa (Ad 15 [(rdV v1), (rdV v2)]) fun v3 => (Aa (o1 (exG 0) (rdV v3)) fun v4 => (Aa (o1 (exG 1) (rdV v3)) fun v5 => (Ai (Bo 0 (Aa (o2 O.ne (rdV v5) (rdV (.n .i64 0))) fun v6 => (Ai (Af (rdV v6) (cWr X4 v5 Ao) (Aa (Ad 16 [(rdV v1), (rdV v4)]) fun v7 => (Aa (o2 O.ne (rdV v7) (rdV (.n .i64 0))) fun v8 => (Ai (Af (rdV v8) (cWr X4 (.n .i64 9) Ao) Ab) Ab)))) Ab))) (Aa (nL (O.bu [.s (pack []), .b false, .s (pack [])] [(.str []), (.bool false), (.str [])] [(0, 1), (1, 1)]) [(rdV v4), (rdV (.b true))]) fun v9 => (Aa (Ad 17 [(rdV v1), (rdV v9)]) fun v10 => (cWr X4 v10 Ao)))))))) [vT R4])))
theorem k8 : QeOk ⟨8, eZ Tryz.f8, p8 zO⟩ := qz 26 2 [4] Tryz.func8 (by kernel_rfl) (by kernel_rfl)
def p22 (O : Oz) : Phi → HF := fnQ (Aw fun v1 => (Aw fun v2 => (Bc (cWr X4 (.n .i64 0) (Aa (Ad 15 [(rdV v1), (rdV v2)]) fun v3 => (Aa (o1 (exG 0) (rdV v3)) fun v4 => (Aa (o1 (exG 1) (rdV v3)) fun v5 => (Ai (Bo 0 (Aa (o2 O.ne (rdV v5) (rdV (.n .i64 0))) fun v6 => (Ai (Af (rdV v6) (cWr X4 v5 Ao) (Aa (Ad 16 [(rdV v1), (rdV v4)]) fun v7 => (Aa (o2 O.eq (rdV v7) (rdV (.n .i64 0))) fun v8 => (Ai (Af (rdV v8) (cWr X4 (.n .i64 6) Ao) (Aa (o2 O.eq (rdV v4) (rdV (.s (pack [47])))) fun v9 => (Aa (oG false (rdV v9) (oV (rdV v4))) fun v10 => (Aa (oG false (rdV v9) (oV (rdV v1))) fun v11 => (Aa (oG false (rdV v9) (o1 ncF (rdV v11))) fun v12 => (Aa (oG false (rdV v9) (o1 (O.fa 1) (rdV v12))) fun v13 => (Aa (oG false (rdV v9) (m1 O.ld (rdV v13))) fun v14 => (Aa (oG false (rdV v9) (o2 O.eq (rdV v10) (rdV v14))) fun v15 => (Aa (o3 pkF (rdV v9) (rdV (.b true)) (rdV v15)) fun v16 => (Aa (oG false (rdV v16) (oV (rdV v1))) fun v17 => (Aa (oG false (rdV v16) (o1 ncF (rdV v17))) fun v18 => (Aa (oG false (rdV v16) (o1 (O.fa 1) (rdV v18))) fun v19 => (Aa (oG false (rdV v16) (m1 O.ld (rdV v19))) fun v20 => (Aa (oG false (rdV v16) (oV (rdV v4))) fun v21 => (Aa (oG false (rdV v16) (Ad 44 [(rdV v21), (rdV (.s (pack [])))])) fun v22 => (cRz O.rc (oG false (rdV v16) (m1 O.ld (rdV v19))) v20 (Aa (oG false (rdV v16) (Ad 40 [(rdV v20), (rdV v22)])) fun v23 => (Aa (o3 pkF (rdV v16) (rdV (.b true)) (rdV v23)) fun v24 => (Ai (Af (rdV v24) (cWr X4 (.n .i64 1) Ao) (Aa (Ad 48 [(rdV v1), (rdV v4)]) fun v25 => (Aa (o1 O.lv (rdV v25)) fun v26 => (Aa (o2 O.gt (rdV v26) (rdV (.n .i64 0))) fun v27 => (Ai (Af (rdV v27) (cWr X4 (.n .i64 10) Ao) Ab) Ab))))) Ab))))))))))))))))))) Ab)))) Ab))) (Aa (o1 ncF (rdV v1)) fun v28 => (Aa (o1 (O.fa 0) (rdV v28)) fun v29 => (Aa (m1 O.ld (rdV v29)) fun v30 => (cDo (n2 (O.md true [.str]) (rdV v30) (rdV v4)) (cWr X4 (.n .i64 0) Ao)))))))))) [vT R4])))
theorem k22 : QeOk ⟨22, eZ Tryz.f22, p22 zO⟩ := qz 53 2 [4] Tryz.func22 (by kernel_rfl) (by kernel_rfl)
def p9 (O : Oz) : Phi → HF := fnQ (Aw fun v1 => (Aw fun v2 => (Bc (cWr X4 (.n .i64 0) (Aa (Ad 18 [(rdV v1), (rdV v2), (rdV (.n .i64 1))]) fun v3 => (Aa (o1 (exG 0) (rdV v3)) fun v4 => (Aa (o1 (exG 1) (rdV v3)) fun v5 => (Aa (o2 O.eq (rdV v5) (rdV (.n .i64 0))) fun v6 => (Ai (Af (rdV v6) (Aa (o1 ncF (rdV v1)) fun v7 => (Aa (o1 (O.fa 1) (rdV v7)) fun v8 => (cDo (n2 (O.st 1) (rdV v8) (rdV v4)) Ab))) Ab) (cWr X4 v5 Ao))))))) [vT R4])))
theorem k9 : QeOk ⟨9, eZ Tryz.f9, p9 zO⟩ := qz 20 2 [4] Tryz.func9 (by kernel_rfl) (by kernel_rfl)
def p12 (O : Oz) : Phi → HF := fnQ (Bc (cWr X0 (.b false) (Aa (Ad 4 []) fun v1 => (Aa (Ad 8 [(rdV v1), (rdV (.s (pack [97])))]) fun v2 => (Aa (Ad 19 [(rdV v1), (rdV (.s (pack [97, 47, 46, 46, 47, 97, 47, 46, 47, 102]))), (rdV (.s (pack [120]))), (rdV (.b false))]) fun v3 => (Aa (Ad 9 [(rdV v1), (rdV (.s (pack [47, 97])))]) fun v4 => (Aa (Ad 25 [(rdV v1), (rdV (.s (pack [102])))]) fun v5 => (Aa (o1 (exG 0) (rdV v5)) fun v6 => (Aa (o1 (exG 1) (rdV v5)) fun v7 => (Aa (o2 O.eq (rdV v2) (rdV (.n .i64 0))) fun v8 => (Aa (oG true (rdV v8) (oV (rdV v3))) fun v9 => (Aa (oG true (rdV v8) (o2 O.eq (rdV v9) (rdV (.n .i64 0)))) fun v10 => (Aa (o3 pkF (rdV v8) (rdV v10) (rdV (.b false))) fun v11 => (Aa (oG true (rdV v11) (oV (rdV v4))) fun v12 => (Aa (oG true (rdV v11) (o2 O.eq (rdV v12) (rdV (.n .i64 0)))) fun v13 => (Aa (o3 pkF (rdV v11) (rdV v13) (rdV (.b false))) fun v14 => (Aa (oG true (rdV v14) (oV (rdV v6))) fun v15 => (Aa (oG true (rdV v14) (o2 O.eq (rdV v15) (rdV (.s (pack [120]))))) fun v16 => (Aa (o3 pkF (rdV v14) (rdV v16) (rdV (.b false))) fun v17 => (Aa (oG true (rdV v17) (oV (rdV v7))) fun v18 => (Aa (oG true (rdV v17) (o2 O.eq (rdV v18) (rdV (.n .i64 0)))) fun v19 => (Aa (o3 pkF (rdV v17) (rdV v19) (rdV (.b false))) fun v20 => (Aa (oG true (rdV v20) (oV (rdV v1))) fun v21 => (Aa (oG true (rdV v20) (Ad 35 [(rdV v21)])) fun v22 => (Aa (oG true (rdV v20) (o2 O.eq (rdV v22) (rdV (.s (pack [47, 97]))))) fun v23 => (Aa (o3 pkF (rdV v20) (rdV v23) (rdV (.b false))) fun v24 => (cWr X0 v24 Ao)))))))))))))))))))))))))) [vT R0])
theorem k12 : QeOk ⟨12, eZ Tryz.f12, p12 zO⟩ := qz 42 0 [0] Tryz.func12 (by kernel_rfl) (by kernel_rfl)
def p30 (O : Oz) : Phi → HF := fnQ (Aw fun v1 => (Aw fun v2 => (Bc (cWr X4 (.n .i64 0) (cWr X5 (.n .i64 0) (Aa (Ad 15 [(rdV v1), (rdV v2)]) fun v3 => (Aa (o1 (exG 0) (rdV v3)) fun v4 => (Aa (o1 (exG 1) (rdV v3)) fun v5 => (Aa (o2 O.ne (rdV v5) (rdV (.n .i64 0))) fun v6 => (Ai (Af (rdV v6) (cWr X4 (.n .i64 0) (cWr X5 v5 Ao)) Ab) (Aa (Ad 16 [(rdV v1), (rdV v4)]) fun v7 => (cWr X4 v7 (cWr X5 (.n .i64 0) Ao)))))))))) [vT R4, vT R5])))
theorem k30 : QeOk ⟨30, eZ Tryz.f30, p30 zO⟩ := qz 20 2 [4, 5] Tryz.func30 (by kernel_rfl) (by kernel_rfl)
def p25 (O : Oz) : Phi → HF := fnQ (Aw fun v1 => (Aw fun v2 => (Bc (cWr X4 (.s (pack [])) (cWr X5 (.n .i64 0) (Aa (Ad 18 [(rdV v1), (rdV v2), (rdV (.n .i64 2))]) fun v3 => (Aa (o1 (exG 0) (rdV v3)) fun v4 => (Aa (o1 (exG 1) (rdV v3)) fun v5 => (Aa (o2 O.ne (rdV v5) (rdV (.n .i64 0))) fun v6 => (Ai (Af (rdV v6) (cWr X4 (.s (pack [])) (cWr X5 v5 Ao)) Ab) (Aa (o1 ncF (rdV v1)) fun v7 => (Aa (o1 (O.fa 0) (rdV v7)) fun v8 => (Aa (m1 O.ld (rdV v8)) fun v9 => (Aa (n2 (O.lk true [.str] false (.agg [.s (pack []), .b false, .s (pack [])])) (rdV v9) (rdV v4)) fun v10 => (Aa (o1 (f1F 2) (rdV v10)) fun v11 => (cWr X4 v11 (cWr X5 (.n .i64 0) Ao)))))))))))))) [vT R4, vT R5])))
theorem k25 : QeOk ⟨25, eZ Tryz.f25, p25 zO⟩ := qz 24 2 [4, 5] Tryz.func25 (by kernel_rfl) (by kernel_rfl)
def p4 (O : Oz) : Phi → HF := fnQ (Bc (cWr X0 (.o .ptr) (Aa (nL O.mm []) fun v1 => (Aa (nL (O.bu [.o .map, .s (pack [])] [.nilmap, (.str [])] [(0, 1), (1, 1)]) [(rdV v1), (rdV (.s (pack [47])))]) fun v2 => (Aa (n1 (O.bx 39) (rdV v2)) fun v3 => (cWr X0 v3 Ao))))) [vT R0])
theorem k4 : QeOk ⟨4, eZ Tryz.f4, p4 zO⟩ := qz 4 0 [0] Tryz.func4 (by kernel_rfl) (by kernel_rfl)
def p13 (O : Oz) : Phi → HF := fnQ (Aw fun v1 => (Bc (cWr X2 (.b false) (Aa (o2 (eqQ1 false .ptr) (rdV v1) (rdV (.o .ptr))) fun v2 => (Aa (oG false (rdV v2) (oV (rdV v1))) fun v3 => (Aa (oG false (rdV v2) (o1 ncF (rdV v3))) fun v4 => (Aa (oG false (rdV v2) (o1 (O.fa 0) (rdV v4))) fun v5 => (Aa (oG false (rdV v2) (m1 O.ld (rdV v5))) fun v6 => (Aa (oG false (rdV v2) (o2 (eqQ1 false .map) (rdV v6) (rdV (.o .map)))) fun v7 => (Aa (o3 pkF (rdV v2) (rdV (.b true)) (rdV v7)) fun v8 => (cWr X2 v8 Ao))))))))) [vT R2]))
theorem k13 : QeOk ⟨13, eZ Tryz.f13, p13 zO⟩ := qz 12 1 [2] Tryz.func13 (by kernel_rfl) (by kernel_rfl)
def p57 (O : Oz) : Phi → HF := fnQ (Aw fun v1 => (Bc (Aa (n1 (O.bx 37) (rdV v1)) fun v2 => (cWr X2 (.o .fn) (Aa (nL (mfG (.func 66) 0) [(rdV v2)]) fun v3 => (cWr X2 v3 Ao)))) [vT R2]))
theorem k57 : QeOk ⟨57, eZ Tryz.f57, p57 zO⟩ := qz 4 1 [2] Tryz.func57 (by kernel_rfl) (by kernel_rfl)
def p40 (O : Oz) : Phi → HF := fnQ (Aw fun v1 => (Aw fun v2 => (Bc (cWr X4 (.b false) (Aa (Ad 58 [(rdV v1), (rdV v2)]) fun v3 => (cWr X4 v3 Ao))) [vT R4])))
theorem k40 : QeOk ⟨40, eZ Tryz.f40, p40 zO⟩ := qz 8 2 [4] Tryz.func40 (by kernel_rfl) (by kernel_rfl)
def p41 (O : Oz) : Phi → HF := fnQ (Aw fun v1 => (Aw fun v2 => (Bc (cWr X4 (.o .sl) (Aa (Ad 59 [(rdV v1), (rdV v2), (rdV (.n .i64 0)), (rdV (.z .i64 0))]) fun v3 => (cWr X4 v3 Ao))) [vT R4])))
theorem k41 : QeOk ⟨41, eZ Tryz.f41, p41 zO⟩ := qz 8 2 [4] Tryz.func41 (by kernel_rfl) (by kernel_rfl)
def p16 (O : Oz) : Phi → HF := fnQ (Aw fun v1 => (Aw fun v2 => (Bc (cWr X4 (.n .i64 0) (Aa (o1 ncF (rdV v1)) fun v3 => (Aa (o1 (O.fa 0) (rdV v3)) fun v4 => (Aa (m1 O.ld (rdV v4)) fun v5 => (Aa (n2 (O.lk true [.str] true (.agg [.s (pack []), .b false, .s (pack [])])) (rdV v5) (rdV v2)) fun v6 => (Aa (o1 (exG 0) (rdV v6)) fun v7 => (Aa (o1 (exG 1) (rdV v6)) fun v8 => (Aa (n0Z O.al (.cells [.s (pack []), .b false, .s (pack [])] 45 .exact)) fun v9 => (cDo (n2 (O.st 3) (rdV v9) (rdV v7)) (Ai (Bo 0 (Aa (o2 O.eq (rdV v2) (rdV (.s (pack [47])))) fun v10 => (Aa (oG false (rdV v10) (oV (rdV v8))) fun v11 => (Aa (oG false (rdV v10) (oV (rdV v11))) fun v12 => (Aa (oG true (rdV v12) (o1 (O.fa 1) (rdV v9))) fun v13 => (Aa (oG true (rdV v12) (m1 O.ld (rdV v13))) fun v14 => (Aa (oG false (rdV v10) (o3 pkF (rdV v12) (rdV v14) (rdV (.b false)))) fun v15 => (Aa (o3 pkF (rdV v10) (rdV (.b true)) (rdV v15)) fun v16 => (Ai (Af (rdV v16) (cWr X4 (.n .i64 1) Ao) (Ai (Af (rdV v8) (cWr X4 (.n .i64 2) Ao) Ab) Ab)) Ab))))))))) (cWr X4 (.n .i64 0) Ao))))))))))) [vT R4])))
theorem k16 : QeOk ⟨16, eZ Tryz.f16, p16 zO⟩ := qz 28 2 [4] Tryz.func16 (by kernel_rfl) (by kernel_rfl)
def p42 (O : Oz) : Phi → HF := fnQ (Aw fun v1 => (Bc (cWr X2 (.b false) (Aa (o2 O.ne (rdV v1) (rdV (.s (pack [])))) fun v2 => (Aa (oG true (rdV v2) (oV (rdV v1))) fun v3 => (Aa (oG true (rdV v2) (o2 O.ne (rdV v3) (rdV (.s (pack [46]))))) fun v4 => (Aa (o3 pkF (rdV v2) (rdV v4) (rdV (.b false))) fun v5 => (Aa (oG true (rdV v5) (oV (rdV v1))) fun v6 => (Aa (oG true (rdV v5) (o2 O.ne (rdV v6) (rdV (.s (pack [46, 46]))))) fun v7 => (Aa (o3 pkF (rdV v5) (rdV v7) (rdV (.b false))) fun v8 => (Aa (oG true (rdV v8) (oV (rdV v1))) fun v9 => (Aa (oG true (rdV v8) (o1 O.ls (rdV v9))) fun v10 => (Aa (oG true (rdV v8) (o2 O.le (rdV v10) (rdV (.n .i64 32)))) fun v11 => (Aa (o3 pkF (rdV v8) (rdV v11) (rdV (.b false))) fun v12 => (Aa (oG true (rdV v12) (oV (rdV v1))) fun v13 => (Aa (oG true (rdV v12) (n1 (O.sB 5) (rdV v13))) fun v14 => (Aa (oG true (rdV v12) (oV (rdV (.fn (.func 60) [] [])))) fun v15 => (Aa (oG true (rdV v12) (Ad 61 [(rdV v14), (rdV v15)])) fun v16 => (Aa (oG true (rdV v12) (o1 Mp (rdV v16))) fun v17 => (Aa (o3 pkF (rdV v12) (rdV v17) (rdV (.b false))) fun v18 => (cWr X2 v18 Ao))))))))))))))))))) [vT R2]))
theorem k42 : QeOk ⟨42, eZ Tryz.f42, p42 zO⟩ := qz 26 1 [2] Tryz.func42 (by kernel_rfl) (by kernel_rfl)
def p43 (O : Oz) : Phi → HF := fnQ (Aw fun v1 => (Bc (cWr X2 (.s (pack [])) (Aa (Ad 62 [(rdV v1), (rdV (.s (pack [47])))]) fun v2 => (Aa (nL (O.pq .maxI) [(rdV v2), (rdV (.n .i64 1))]) fun v3 => (Aa (oSz O.ss (rdV v1) none (some (rdV v3))) fun v4 => (cWr X2 v4 Ao))))) [vT R2]))
theorem k43 : QeOk ⟨43, eZ Tryz.f43, p43 zO⟩ := qz 10 1 [2] Tryz.func43 (by kernel_rfl) (by kernel_rfl)
def p44 (O : Oz) : Phi → HF := fnQ (Aw fun v1 => (Aw fun v2 => (Bc (cWr X4 (.s (pack [])) (Aa (Ad 63 [(rdV v1), (rdV (.s (pack [47])))]) fun v3 => (Aa (o2 O.ad (rdV v3) (rdV (.s (pack [47])))) fun v4 => (Aa (o2 O.ad (rdV v4) (rdV v2)) fun v5 => (cWr X4 v5 Ao))))) [vT R4])))
theorem k44 : QeOk ⟨44, eZ Tryz.f44, p44 zO⟩ := qz 10 2 [4] Tryz.func44 (by kernel_rfl) (by kernel_rfl)
def p17 (O : Oz) : Phi → HF := fnQ (Aw fun v1 => (Aw fun v2 => (Bc (Aa (n1 (O.bx 45) (rdV v2)) fun v3 => (cWr X4 (.n .i64 0) (Aa (o1 (O.fa 0) (rdV v3)) fun v4 => (Aa (m1 O.ld (rdV v4)) fun v5 => (Aa (o1 O.ls (rdV v5)) fun v6 => (Aa (o2 O.gt (rdV v6) (rdV (.n .i64 256))) fun v7 => (Aa (oG false (rdV v7) (o1 (O.fa 2) (rdV v3))) fun v8 => (Aa (oG false (rdV v7) (m1 O.ld (rdV v8))) fun v9 => (Aa (oG false (rdV v7) (o1 O.ls (rdV v9))) fun v10 => (Aa (oG false (rdV v7) (o2 O.gt (rdV v10) (rdV (.n .i64 8192)))) fun v11 => (Aa (o3 pkF (rdV v7) (rdV (.b true)) (rdV v11)) fun v12 => (Ai (Af (rdV v12) (cWr X4 (.n .i64 3) Ao) Ab) (Aa (Ad 33 [(rdV v1)]) fun v13 => (Aa (o1 (exG 0) (rdV v13)) fun v14 => (Aa (o1 (exG 1) (rdV v13)) fun v15 => (cWr X5 v14 (cWr X6 v15 (Aa (o1 ncF (rdV v1)) fun v16 => (Aa (o1 (O.fa 0) (rdV v16)) fun v17 => (Aa (m1 O.ld (rdV v17)) fun v18 => (Aa (o1 (O.fa 0) (rdV v3)) fun v19 => (Aa (m1 O.ld (rdV v19)) fun v20 => (Aa (n2 (O.lk true [.str] true (.agg [.s (pack []), .b false, .s (pack [])])) (rdV v18) (rdV v20)) fun v21 => (Aa (o1 (exG 0) (rdV v21)) fun v22 => (Aa (o1 (exG 1) (rdV v21)) fun v23 => (Aa (n0Z O.al (.cells [.s (pack []), .b false, .s (pack [])] 45 .exact)) fun v24 => (Aa (n2 (O.st 3) (rdV v24) (rdV v22)) fun v25 => (Ai (Af (rdV v23) (Aa (o1 (O.fa 2) (rdV v24)) fun v26 => (Aa (m1 O.ld (rdV v26)) fun v27 => (Aa (o1 O.ls (rdV v27)) fun v28 => (Aa (o2 O.sb (rdV v15) (rdV v28)) fun v29 => (cWr X6 v29 Ab))))) (Aa (o2 O.ad (rdV v14) (rdV (.n .i64 1))) fun v30 => (Aa (o1 (O.fa 0) (rdV v3)) fun v31 => (Aa (m1 O.ld (rdV v31)) fun v32 => (Aa (o1 O.ls (rdV v32)) fun v33 => (Aa (o2 O.ad (rdV v15) (rdV v33)) fun v34 => (cWr X5 v30 (cWr X6 v34 Ab)))))))) (Aa (oV R5) fun v35 => (Aa (o2 O.gt (rdV v35) (rdV (.n .i64 128))) fun v36 => (Aa (oG false (rdV v36) (oV R6)) fun v37 => (Aa (oG false (rdV v36) (o1 (O.fa 2) (rdV v3))) fun v38 => (Aa (oG false (rdV v36) (m1 O.ld (rdV v38))) fun v39 => (Aa (oG false (rdV v36) (o1 O.ls (rdV v39))) fun v40 => (Aa (oG false (rdV v36) (o2 O.ad (rdV v37) (rdV v40))) fun v41 => (Aa (oG false (rdV v36) (o2 O.gt (rdV v41) (rdV (.n .i64 32768)))) fun v42 => (Aa (o3 pkF (rdV v36) (rdV (.b true)) (rdV v42)) fun v43 => (Ai (Af (rdV v43) (cWr X4 (.n .i64 7) Ao) Ab) (Aa (o1 ncF (rdV v1)) fun v44 => (Aa (o1 (O.fa 0) (rdV v44)) fun v45 => (Aa (m1 O.ld (rdV v45)) fun v46 => (Aa (o1 (O.fa 0) (rdV v3)) fun v47 => (Aa (m1 O.ld (rdV v47)) fun v48 => (Aa (m1 (O.ln 3) (rdV v3)) fun v49 => (Aa (n3 (O.mu true [.str]) (rdV v46) (rdV v48) (rdV v49)) fun v50 => (cWr X4 (.n .i64 0) Ao)))))))))))))))))))))))))))))))))))))))))))))) [vT R4])))
theorem k17 : QeOk ⟨17, eZ Tryz.f17, p17 zO⟩ := qz 64 2 [4, 5, 6] Tryz.func17 (by kernel_rfl) (by kernel_rfl)
def p18 (O : Oz) : Phi → HF := fnQ (Aw fun v1 => (Aw fun v2 => (Aw fun v3 => (Bc (cWr X6 (.s (pack [])) (cWr X7 (.n .i64 0) (Aa (Ad 15 [(rdV v1), (rdV v2)]) fun v4 => (Aa (o1 (exG 0) (rdV v4)) fun v5 => (Aa (o1 (exG 1) (rdV v4)) fun v6 => (Aa (o2 O.ne (rdV v6) (rdV (.n .i64 0))) fun v7 => (Ai (Af (rdV v7) (cWr X6 (.s (pack [])) (cWr X7 v6 Ao)) Ab) (Aa (Ad 16 [(rdV v1), (rdV v5)]) fun v8 => (Ai (Bo 0 (Aa (o2 O.eq (rdV v8) (rdV v3)) fun v9 => (Ai (Af (rdV v9) (cWr X6 v5 (cWr X7 (.n .i64 0) Ao)) (Aa (o2 O.eq (rdV v8) (rdV (.n .i64 0))) fun v10 => (Ai (Af (rdV v10) (cWr X6 (.s (pack [])) (cWr X7 (.n .i64 6) Ao)) Ab) Ab))) Ab))) (cWr X6 (.s (pack [])) (cWr X7 (.n .i64 5) Ao))))))))))) [vT R6, vT R7]))))
theorem k18 : QeOk ⟨18, eZ Tryz.f18, p18 zO⟩ := qz 28 3 [6, 7] Tryz.func18 (by kernel_rfl) (by kernel_rfl)
def p33 (O : Oz) : Phi → HF := fnQ (Aw fun v1 => (Bc (cLetW (n0Z O.al (.ints .i64 [Int.ofNat 0] 3 .exact)) X2 fun v2 => (cLetW (n0Z O.al (.ints .i64 [Int.ofNat 0] 3 .exact)) X3 fun v3 => (Aa (nL (mfG (.func 38) 1) [(rdV v1)]) fun v4 => (Ai (Bo 0 (Ai (cRf (rdV v4) [X7] (cLetW (n0Z O.al (.cells [.s (pack []), .b false, .s (pack [])] 45 .exact)) X4 fun v5 => (cDo (n2 (O.st 3) (rdV v5) R7) Ab)) (Ai (Bo 1 (Aa (m1 O.ld (rdV v2)) fun v6 => (Aa (o2 O.ad (rdV v6) (rdV (.n .i64 1))) fun v7 => (Aa (m1 O.ld (rdV v3)) fun v8 => (Aa (o1 (O.fa 0) R4) fun v9 => (Aa (m1 O.ld (rdV v9)) fun v10 => (Aa (o1 O.ls (rdV v10)) fun v11 => (Aa (o2 O.ad (rdV v8) (rdV v11)) fun v12 => (Aa (o1 (O.fa 2) R4) fun v13 => (Aa (m1 O.ld (rdV v13)) fun v14 => (Aa (o1 O.ls (rdV v14)) fun v15 => (Aa (o2 O.ad (rdV v12) (rdV v15)) fun v16 => (Aa (n2 (O.st 1) (rdV v2) (rdV v7)) fun v17 => (cRz O.rc (m1 O.ld (rdV v3)) v8 (cRz O.rc (m1 O.ld (rdV v9)) v10 (cRz O.rc (m1 O.ld (rdV v13)) v14 (Aa (n2 (O.st 1) (rdV v3) (rdV v16)) fun v18 => Ab))))))))))))))))) Ab)) Ab)) (Aa (m1 O.ld (rdV v2)) fun v19 => (Aa (m1 O.ld (rdV v3)) fun v20 => (Aa (n2 (O.st 1) (rdV v2) (rdV v19)) fun v21 => (cRz O.rc (m1 O.ld (rdV v3)) v20 (Aa (n2 (O.st 1) (rdV v3) (rdV v20)) fun v22 => Ao))))))))) [vC R2, vC R3]))
theorem k33 : QeOk ⟨33, eZ Tryz.f33, p33 zO⟩ := qz 21 1 [2, 3, 4, 7] Tryz.func33 (by kernel_rfl) (by kernel_rfl)
def p58 (O : Oz) : Phi → HF := fnQ (Aw fun v1 => (Aw fun v2 => (Bc (cWr X4 (.b false) (Aa (o1 O.ls (rdV v1)) fun v3 => (Aa (o1 O.ls (rdV v2)) fun v4 => (Aa (o2 O.ge (rdV v3) (rdV v4)) fun v5 => (Aa (oG true (rdV v5) (oV (rdV v1))) fun v6 => (Aa (oG true (rdV v5) (oV (rdV v2))) fun v7 => (Aa (oG true (rdV v5) (o1 O.ls (rdV v7))) fun v8 => (Aa (oG true (rdV v5) (oSz O.ss (rdV v6) none (some (rdV v8)))) fun v9 => (Aa (oG true (rdV v5) (oV (rdV v2))) fun v10 => (Aa (oG true (rdV v5) (o2 O.eq (rdV v9) (rdV v10))) fun v11 => (Aa (o3 pkF (rdV v5) (rdV v11) (rdV (.b false))) fun v12 => (cWr X4 v12 Ao)))))))))))) [vT R4])))
theorem k58 : QeOk ⟨58, eZ Tryz.f58, p58 zO⟩ := qz 18 2 [4] Tryz.func58 (by kernel_rfl) (by kernel_rfl)
def p59 (O : Oz) : Phi → HF := fnQ (aLetW X0 fun v1 => (Aw fun v2 => (Aw fun v3 => (aLetW X3 fun v4 => (Bc (cWr X8 (.o .sl) (Aa (o2 O.eq (rdV v4) (rdV (.n .i64 0))) fun v5 => (Ai (Af (rdV v5) (cWr X8 (.o .sl) Ao) Ab) (Aa (o2 O.eq (rdV v2) (rdV (.s (pack [])))) fun v6 => (Ai (Af (rdV v6) (Aa (Ad 67 [(rdV v1), (rdV v4)]) fun v7 => (cWr X8 v7 Ao)) Ab) (Aa (o2 O.lt (rdV v4) (rdV (.n .i64 0))) fun v8 => (Ai (Af (rdV v8) (Aa (Ad 68 [(rdV v1), (rdV v2)]) fun v9 => (Aa (o2 O.ad (rdV v9) (rdV (.n .i64 1))) fun v10 => (cWr X3 v10 Ab))) Ab) (Aa (oV R3) fun v11 => (Aa (o1 O.ls (rdV v1)) fun v12 => (Aa (o2 O.ad (rdV v12) (rdV (.n .i64 1))) fun v13 => (Aa (nL (O.pq .minI) [(rdV v11), (rdV v13)]) fun v14 => (cWr X3 v14 (Aa (nL (O.nq (.makeSl 9 1 [(.str [])])) [(rdV v14), (rdV v14)]) fun v15 => (Aa (o2 O.sb (rdV v14) (rdV (.n .i64 1))) fun v16 => (cWr X3 v16 (cWr X10 (.n .i64 0) (Ai (Bo 0 (O.lp 1000000 (Aa (oV R10) fun v17 => (Aa (o2 O.lt (rdV v17) (rdV v16)) fun v18 => (Ai (Af (rdV v18) Ab (Cu 0)) (Ai (Bo 1 (Aa (oV R0) fun v19 => (Aa (Ad 69 [(rdV v19), (rdV v2)]) fun v20 => (Aa (o2 O.lt (rdV v20) (rdV (.n .i64 0))) fun v21 => (Ai (Af (rdV v21) (Cu 0) Ab) (Aa (oV R10) fun v22 => (Aa (oV R0) fun v23 => (Aa (o2 O.ad (rdV v20) (rdV v3)) fun v24 => (Aa (oSz O.ss (rdV v23) none (some (rdV v24))) fun v25 => (Aa (o2 (O.ix 1) (rdV v15) (rdV v22)) fun v26 => (cDo (n2 (O.st 1) (rdV v26) (rdV v25)) (Aa (oV R0) fun v27 => (Aa (o1 O.ls (rdV v2)) fun v28 => (Aa (o2 O.ad (rdV v20) (rdV v28)) fun v29 => (Aa (oSz O.ss (rdV v27) (some (rdV v29)) none) fun v30 => (cWr X0 v30 (Aa (oV R10) fun v31 => (Aa (o2 O.ad (rdV v31) (rdV (.n .i64 1))) fun v32 => (cWr X10 v32 Ab))))))))))))))))))) Ab)))))) (Aa (oV R10) fun v33 => (Aa (oV R0) fun v34 => (Aa (o2 (O.ix 1) (rdV v15) (rdV v33)) fun v35 => (cDo (n2 (O.st 1) (rdV v35) (rdV v34)) (Aa (oV R10) fun v36 => (Aa (o2 O.ad (rdV v36) (rdV (.n .i64 1))) fun v37 => (Aa (oVz O.sv 1 (rdV v15) none (some (rdV v37)) none) fun v38 => (cWr X8 v38 Ao))))))))))))))))))))))))) [vT R8])))))
theorem k59 : QeOk ⟨59, eZ Tryz.f59, p59 zO⟩ := qz 66 4 [0, 3, 8, 10] Tryz.func59 (by kernel_rfl) (by kernel_rfl)
def p60 (O : Oz) : Phi → HF := fnQ (Aw fun v1 => (Bc (cWr X2 (.b false) (Aa (o2 O.lt (rdV v1) (rdV (.n .u8 32))) fun v2 => (Aa (oG false (rdV v2) (oV (rdV v1))) fun v3 => (Aa (oG false (rdV v2) (o2 O.eq (rdV v3) (rdV (.n .u8 127)))) fun v4 => (Aa (o3 pkF (rdV v2) (rdV (.b true)) (rdV v4)) fun v5 => (Aa (oG false (rdV v5) (oV (rdV v1))) fun v6 => (Aa (oG false (rdV v5) (o2 O.eq (rdV v6) (rdV (.n .u8 47)))) fun v7 => (Aa (o3 pkF (rdV v5) (rdV (.b true)) (rdV v7)) fun v8 => (cWr X2 v8 Ao))))))))) [vT R2]))
theorem k60 : QeOk ⟨60, eZ Tryz.f60, p60 zO⟩ := qz 13 1 [2] Tryz.func60 (by kernel_rfl) (by kernel_rfl)
def p61 (O : Oz) : Phi → HF := fnQ (Aw fun v1 => (Aw fun v2 => (Bc (cWr X4 (.b false) (Aa (Ad 70 [(rdV v1), (rdV v2)]) fun v3 => (Aa (o2 O.ge (rdV v3) (rdV (.n .i64 0))) fun v4 => (cWr X4 v4 Ao)))) [vT R4])))
theorem k61 : QeOk ⟨61, eZ Tryz.f61, p61 zO⟩ := qz 9 2 [4] Tryz.func61 (by kernel_rfl) (by kernel_rfl)
def p62 (O : Oz) : Phi → HF := fnQ (Aw fun v1 => (Aw fun v2 => (Bc (cWr X4 (.n .i64 0) (Aa (o1 O.ls (rdV v2)) fun v3 => (Ai (Bo 0 (Aa (o2 O.eq (rdV v3) (rdV (.n .i64 0))) fun v4 => (Ai (Af (rdV v4) (Aa (o1 O.ls (rdV v1)) fun v5 => (cWr X4 v5 Ao)) (Aa (o2 O.eq (rdV v3) (rdV (.n .i64 1))) fun v6 => (Ai (Af (rdV v6) (Aa (o2 O.tx (rdV v2) (rdV (.n .i64 0))) fun v7 => (Aa (Ad 71 [(rdV v1), (rdV v7)]) fun v8 => (cWr X4 v8 Ao))) (Aa (o1 O.ls (rdV v1)) fun v9 => (Aa (o2 O.eq (rdV v3) (rdV v9)) fun v10 => (Ai (Af (rdV v10) (Aa (o2 O.eq (rdV v2) (rdV v1)) fun v11 => (Ai (Af (rdV v11) (cWr X4 (.n .i64 0) Ao) Ab) (cWr X4 (.z .i64 0) Ao))) (Aa (o1 O.ls (rdV v1)) fun v12 => (Aa (o2 O.gt (rdV v3) (rdV v12)) fun v13 => (Ai (Af (rdV v13) (cWr X4 (.z .i64 0) Ao) Ab) Ab)))) Ab)))) Ab))) Ab))) (Aa (Ad 72 [(rdV v1), (rdV v2)]) fun v14 => (cWr X4 v14 Ao))))) [vT R4])))
theorem k62 : QeOk ⟨62, eZ Tryz.f62, p62 zO⟩ := qz 36 2 [4] Tryz.func62 (by kernel_rfl) (by kernel_rfl)
def p63 (O : Oz) : Phi → HF := fnQ (Aw fun v1 => (Aw fun v2 => (Bc (cWr X4 (.s (pack [])) (Aa (Ad 73 [(rdV v1), (rdV v2)]) fun v3 => (cWr X4 v3 Ao))) [vT R4])))
theorem k63 : QeOk ⟨63, eZ Tryz.f63, p63 zO⟩ := qz 8 2 [4] Tryz.func63 (by kernel_rfl) (by kernel_rfl)
def p71 (O : Oz) : Phi → HF := fnQ (Aw fun v1 => (Aw fun v2 => (Bc (cWr X4 (.n .i64 0) (Aa (o1 O.ls (rdV v1)) fun v3 => (Aa (o2 O.sb (rdV v3) (rdV (.n .i64 1))) fun v4 => (cWr X5 v4 (Ai (Bo 0 (O.lp 1000000 (Aa (oV R5) fun v5 => (Aa (o2 O.ge (rdV v5) (rdV (.n .i64 0))) fun v6 => (Ai (Af (rdV v6) Ab (Cu 0)) (Ai (Bo 1 (Aa (oV R5) fun v7 => (Aa (o2 O.tx (rdV v1) (rdV v7)) fun v8 => (Aa (o2 O.eq (rdV v8) (rdV v2)) fun v9 => (Ai (Af (rdV v9) (Aa (oV R5) fun v10 => (cWr X4 v10 Ao)) Ab) Ab))))) (Aa (oV R5) fun v11 => (Aa (o2 O.sb (rdV v11) (rdV (.n .i64 1))) fun v12 => (cWr X5 v12 Ab))))))))) (cWr X4 (.z .i64 0) Ao)))))) [vT R4])))
theorem k71 : QeOk ⟨71, eZ Tryz.f71, p71 zO⟩ := qz 19 2 [4, 5] Tryz.func71 (by kernel_rfl) (by kernel_rfl)
def p70 (O : Oz) : Phi → HF := fnQ (Aw fun v1 => (Aw fun v2 => (Bc (cWr X4 (.n .i64 0) (Aa (o1 O.lv (rdV v1)) fun v3 => (cWr X8 (.n .i64 0) (Ai (Bo 0 (O.lp 1000000 (Aa (o2 O.lt R8 (rdV v3)) fun v4 => (Ai (Af (rdV v4) Ab (Cu 0)) (Ai (Bo 1 (Aa (oV R8) fun v5 => (Aa (o2 (O.ix 1) (rdV v1) (rdV v5)) fun v6 => (Aa (m1 O.ld (rdV v6)) fun v7 => (Aa (oCall (rdV v2) [(rdV v7)]) fun v8 => (Ai (Af (rdV v8) (cWr X4 v5 Ao) Ab) Ab)))))) (Aa (o2 O.ad R8 (rdV (.n .i64 1))) fun v9 => (cWr X8 v9 Ab))))))) (cWr X4 (.z .i64 0) Ao))))) [vT R4])))
theorem k70 : QeOk ⟨70, eZ Tryz.f70, p70 zO⟩ := qz 19 2 [4, 8] Tryz.func70 (by kernel_rfl) (by kernel_rfl)
def p73 (O : Oz) : Phi → HF := fnQ (Aw fun v1 => (Aw fun v2 => (Bc (cWr X4 (.s (pack [])) (Aa (Ad 82 [(rdV v1), (rdV v2)]) fun v3 => (Ai (Af (rdV v3) (Aa (o1 O.ls (rdV v1)) fun v4 => (Aa (o1 O.ls (rdV v2)) fun v5 => (Aa (o2 O.sb (rdV v4) (rdV v5)) fun v6 => (Aa (oSz O.ss (rdV v1) none (some (rdV v6))) fun v7 => (cWr X4 v7 Ao))))) Ab) (cWr X4 v1 Ao)))) [vT R4])))
theorem k73 : QeOk ⟨73, eZ Tryz.f73, p73 zO⟩ := qz 16 2 [4] Tryz.func73 (by kernel_rfl) (by kernel_rfl)
def p82 (O : Oz) : Phi → HF := fnQ (Aw fun v1 => (Aw fun v2 => (Bc (cWr X4 (.b false) (Aa (o1 O.ls (rdV v1)) fun v3 => (Aa (o1 O.ls (rdV v2)) fun v4 => (Aa (o2 O.ge (rdV v3) (rdV v4)) fun v5 => (Aa (oG true (rdV v5) (oV (rdV v1))) fun v6 => (Aa (oG true (rdV v5) (oV (rdV v1))) fun v7 => (Aa (oG true (rdV v5) (o1 O.ls (rdV v7))) fun v8 => (Aa (oG true (rdV v5) (oV (rdV v2))) fun v9 => (Aa (oG true (rdV v5) (o1 O.ls (rdV v9))) fun v10 => (Aa (oG true (rdV v5) (o2 O.sb (rdV v8) (rdV v10))) fun v11 => (Aa (oG true (rdV v5) (oSz O.ss (rdV v6) (some (rdV v11)) none)) fun v12 => (Aa (oG true (rdV v5) (oV (rdV v2))) fun v13 => (Aa (oG true (rdV v5) (o2 O.eq (rdV v12) (rdV v13))) fun v14 => (Aa (o3 pkF (rdV v5) (rdV v14) (rdV (.b false))) fun v15 => (cWr X4 v15 Ao))))))))))))))) [vT R4])))
theorem k82 : QeOk ⟨82, eZ Tryz.f82, p82 zO⟩ := qz 21 2 [4] Tryz.func82 (by kernel_rfl) (by kernel_rfl)
end
end Go.Proofs.YtjoakhpdajlhiaaGreatDoor.V2.S
namespace Go.Proofs.YtjoakhpdajlhiaaGreatDoor.V2.S
open Go
set_option maxRecDepth 100000
set_option maxHeartbeats 4000000
set_option linter.unusedVariables false
attribute [local irreducible] fN fO nM gM pM Phi.fn mp bl Au Be Bh pack
theorem odd_s {O : Oz} (hO : O = zO) (Φ : Phi) (c n : Nat) (m : T FObj) : Eq (p60 O Φ) [.n .u8 c] n m (.b (odd c)) := fun k P hf => by
  repeat' ((conv => lhs; whnf); first | ((with_reducible refine ltB hO (fun h => ?_) (fun h => ?_))) | ((with_reducible refine eqB hO (fun h => ?_) (fun h => ?_))))
  all_goals (conv => lhs; whnf)
  all_goals first
    | (rw [show odd c = true by unfold odd; simp; omega] at hf; exact hf)
    | (rw [show odd c = false by unfold odd; simp; omega] at hf; exact hf)
theorem hp2_s {O : Oz} (hO : O = zO) (Φ : Phi) (s p : Bs) (hs : s.length ≤ 9223372036854775807) (n : Nat) (m : T FObj) : Eq (p58 O Φ) [.s (pack s), .s (pack p)] n m (.b (Cq s p)) := fun k P hf => by
  repeat' ((conv => lhs; whnf); first | (((with_reducible refine lsS hO ?_); try simp only [List.length_cons, List.length_nil, Nat.zero_add])) | ((with_reducible refine geB hO (fun h => ?_) (fun h => ?_))) | ((with_reducible refine Ly hO (fun h => ?_) (fun h => ?_))) | ((with_reducible refine ssH hO (by omega) ?_)))
  all_goals (conv => lhs; whnf)
  all_goals first
    | (rw [show Cq s p = true by unfold Cq; simp [*]] at hf; exact hf)
    | (rw [show Cq s p = false by unfold Cq; first | rw [decide_eq_false (by omega), Bool.false_and] | simp [*]] at hf; exact hf)
theorem hp_s {O : Oz} (hO : O = zO) (Φ Φ1 : Phi) (H : Phi.fn Φ 58 = p58 O Φ1) (s p : Bs) (hs : s.length ≤ 9223372036854775807) (n : Nat) (m : T FObj) : Eq (p40 O Φ) [.s (pack s), .s (pack p)] n m (.b (Cq s p)) := fun k P hf => by
  repeat' ((conv => lhs; whnf); first | ((with_reducible refine A4 ?_); (rw [H]; refine hp2_s hO Φ1 s p hs _ _ _ _ ?_)))
  all_goals (conv => lhs; whnf)
  all_goals first
    | exact hf
theorem none_s {O : Oz} (hO : O = zO) (Φ : Phi) {tb mb : Nat} {t : Tr} {n : Nat} {m : T FObj} (hT : TreeAt m tb mb 39 t) : Eq (p13 O Φ) [.p tb 0] n m (.b false) := fun k P hf => by
  obtain ⟨hT1, hT2⟩ := hT
  repeat' ((conv => lhs; whnf); first | ((with_reducible refine fa0 hO ?_)) | ((with_reducible refine Br ?_); refine ldC hO aQ (by rfl) ?_))
  all_goals (conv => lhs; whnf)
  all_goals first
    | exact hf
theorem kind_s {O : Oz} (hO : O = zO) (Φ : Phi) {tb mb : Nat} {t : Tr} {n : Nat} {m : T FObj} (hT : TreeAt m tb mb 39 t) (htb : tb < n) (hmb : mb < n) (p : Bs) : Ret 1 (p16 O Φ) [.p tb 0, .s (pack p)] n m (.n .i64 (Al t p)) := fun k P hn hf => by
  obtain ⟨hT1, hT2⟩ := hT
  repeat' ((conv => lhs; whnf); first | ((with_reducible refine fa0 hO ?_)) | ((with_reducible refine Br ?_); refine ldC hO aQ (by rfl) ?_) | ((with_reducible refine Ly hO (fun h => ?_) (fun h => ?_))) | ((with_reducible refine Hc ?_); refine ust hO ?_) | ((with_reducible refine alO hO (by omega) ?_)) | ((with_reducible refine atLk ?_); refine lkS hO aQ (fun a hla => ?_) (fun hla => ?_)) | (with_reducible refine (Aj _ _).trans ?_) | (with_reducible refine pM_mp.trans ?_) | (refine Hy aQ ?_) | ((with_reducible refine atB ?_); refine brec (fun h => ?_) (fun h => ?_)))
  all_goals (conv => lhs; whnf)
  all_goals first
    | (rw [show Al t p = 1 by unfold Al Dy; simp [*]] at hf; exact hf _ _ (by omega) (by omega) kQ)
    | (rw [show Al t p = 2 by unfold Al Dy; simp [*]] at hf; exact hf _ _ (by omega) (by omega) kQ)
    | (rw [show Al t p = 0 by unfold Al Dy; simp [*]] at hf; exact hf _ _ (by omega) (by omega) kQ)
end Go.Proofs.YtjoakhpdajlhiaaGreatDoor.V2.S
namespace Go.Proofs.YtjoakhpdajlhiaaGreatDoor.V2.S
open Go
set_option maxRecDepth 100000
set_option maxHeartbeats 4000000
set_option linter.unusedVariables false
attribute [local irreducible] fN fO nM gM pM Phi.fn mp bl Au Be Bh pack
theorem idx_s {O : Oz} (hO : O = zO) (Φ Φ1 : Phi) (H : Phi.fn Φ 60 = p60 O Φ1) {b L Kk : Nat} {x : Bool} {l : Bs} {el : TypeId} {tl : Tl} {n : Nat} {m : T FObj} {k : KV} {P : FR} (hL : l.length = L) (hl : L ≤ 900000) (ha : Am m b (.bs (pack l) el tl))
    (h1 : ∀ i, i < L → odd (bt l i) = true → k (.n .i64 i) ⟨n, m⟩ = P) (h0 : (∀ i, i < L → odd (bt l i) = false) → k (.z .i64 0) ⟨n, m⟩ = P) : p70 O Φ [.sl b 0 L Kk x 1, .fn (.func 60) [] []] ⟨n, m⟩ k = P := by
  repeat' ((conv => lhs; whnf); first | ((with_reducible refine lvS hO ?_)))
  all_goals (conv => lhs; whnf)
  refine lpI hO (fun t e n' m' => ∃ i, i ≤ L ∧ t = L - i ∧ n' = n ∧ m' = m ∧ e = eof [(4, .n .i64 0), (8, .n .i64 i)] ∧ ∀ j, j < i → odd (bt l j) = false) ?_ ?_ _ L _ _ _ (by omega) ⟨0, by omega, by omega, rfl, rfl, rfl, fun j hj => absurd hj (Nat.not_lt_zero _)⟩
  · rintro t e n' m' ⟨i, _, _, rfl, _⟩
    exact Nat.le_refl _
  · rintro t e n' m' ih ⟨i, hi, rfl, rfl, rfl, rfl, hj⟩ hih
    repeat' ((conv => lhs; whnf); first | ((with_reducible refine A4 ?_); (rw [H]; refine odd_s hO Φ1 _ _ _ _ _ ?_)) | ((with_reducible refine Br ?_); refine ldB hO aQ (by omega) ?_) | ((with_reducible refine ltB hO (fun h => ?_) (fun h => ?_))) | ((with_reducible refine adI hO (by omega) ?_)) | ((with_reducible refine ix01 hO (by omega) ?_)) | ((with_reducible refine atB ?_); refine brec (fun h => ?_) (fun h => ?_)))
    all_goals (conv => lhs; whnf)
    all_goals first
      | exact h1 i (by omega) (by assumption)
      | exact h0 (fun j hjl => hj j (by omega))
      | exact hih (L - (i + 1)) _ _ _ (by omega) ⟨i + 1, by omega, by omega, rfl, rfl, rfl, fun j hji => by
          rcases Nat.lt_or_ge j i with h2 | h2
          · exact hj j h2
          · rw [show j = i by omega]; assumption⟩
theorem cnt_s {O : Oz} (hO : O = zO) (Φ Φ1 Φ2 : Phi) (H : Phi.fn Φ 70 = p70 O Φ1) (H2 : Phi.fn Φ1 60 = p60 O Φ2) {b L Kk : Nat} {x : Bool} {l : Bs} {el : TypeId} {tl : Tl} {n : Nat} {m : T FObj} (hL : l.length = L) (hl : L ≤ 900000) (ha : Am m b (.bs (pack l) el tl)) :
    Eq (p61 O Φ) [.sl b 0 L Kk x 1, .fn (.func 60) [] []] n m (.b (l.any fun b => odd b.toNat)) := fun k P hf => by
  repeat' ((conv => lhs; whnf); first | ((with_reducible refine A4 ?_); (rw [H]; refine idx_s hO Φ1 Φ2 H2 hL hl ha (fun i hi hodd => ?_) (fun hall => ?_))) | ((with_reducible refine geT hO (by omega) ?_)) | ((with_reducible first | refine umt hO ?_ | refine uqu hO ?_ | refine urm hO ?_ | refine uan hO ?_ | refine uro hO ?_ | refine uxr hO ?_ | refine uhl hO ?_ | refine uhr hO ?_ | refine uad hO ?_ | refine usb hO ?_ | refine ult hO ?_ | refine ule hO ?_ | refine ugt hO ?_ | refine uge hO ?_ | refine ueq hO ?_ | refine une hO ?_ | refine ucv hO ?_ | refine uia hO ?_ | refine usv hO ?_ | refine ubu hO ?_ | refine uap hO ?_ | refine ubs hO ?_ | refine umm hO ?_ | refine upq hO ?_ | refine unq hO ?_ | refine uln hO ?_)))
  all_goals (conv => lhs; whnf)
  all_goals first
    | (rw [any_bt.2 ⟨i, by omega, by assumption⟩] at hf; exact hf)
    | (rw [any_bt_f (f := odd) (fun i hi => hall i (by omega))] at hf; exact hf)
theorem named_s {O : Oz} (hO : O = zO) (Φ Φ1 Φ2 Φ3 : Phi) (H : Phi.fn Φ 61 = p61 O Φ1) (H2 : Phi.fn Φ1 70 = p70 O Φ2) (H3 : Phi.fn Φ2 60 = p60 O Φ3) (s : Bs) {n : Nat} {m : T FObj} (hs : s.length ≤ 9223372036854775807) :
    Ret 1 (p42 O Φ) [.s (pack s)] n m (.b (Bg s)) := fun k P hn hf => by
  repeat' ((conv => lhs; whnf); first | ((with_reducible refine A4 ?_); (rw [H]; refine cnt_s hO Φ1 Φ2 Φ3 H2 H3 rfl (by omega) aQ _ _ ?_)) | (((with_reducible refine lsS hO ?_); try simp only [List.length_cons, List.length_nil, Nat.zero_add])) | ((with_reducible refine leB hO (fun h => ?_) (fun h => ?_))) | ((with_reducible refine neSB hO (fun h => ?_) (fun h => ?_))) | ((with_reducible refine sBS hO (by omega) ?_)) | ((with_reducible refine atB ?_); refine brec (fun h => ?_) (fun h => ?_)))
  all_goals (conv => lhs; whnf)
  all_goals first
    | (have e : (s.any fun b => odd b.toNat) = true := by assumption
       rw [show Bg s = false by unfold Bg; rw [e]; simp] at hf; exact hf _ _ (by omega) (by omega) kQ)
    | (have e : (s.any fun b => odd b.toNat) = false := by assumption
       rw [show Bg s = true by unfold Bg; rw [e]; simp [*]] at hf; exact hf _ _ (by omega) (by omega) kQ)
    | (have e : ¬ s.length ≤ 32 := by omega
       rw [show Bg s = false by unfold Bg; simp [e]] at hf; exact hf _ _ (by omega) (by omega) kQ)
    | (rw [show Bg s = false by unfold Bg; simp [*]] at hf; exact hf _ _ (by omega) (by omega) kQ)
end Go.Proofs.YtjoakhpdajlhiaaGreatDoor.V2.S
namespace Go.Proofs.YtjoakhpdajlhiaaGreatDoor.V2.S
open Go
set_option maxRecDepth 100000
set_option maxHeartbeats 4000000
set_option linter.unusedVariables false
attribute [local irreducible] fN fO nM gM pM Phi.fn mp bl Au Be Bh pack
theorem lib_s {O : Oz} (hO : O = zO) (Φ : Phi) (l : Bs) (hl : l.length ≤ 900000) {n : Nat} {m : T FObj} {k : KV} {P : FR} (h1 : ∀ i, lastS l = i + 1 → k (.n .i64 i) ⟨n, m⟩ = P) (h0 : lastS l = 0 → k (.z .i64 0) ⟨n, m⟩ = P) : p71 O Φ [.s (pack l), .n .u8 47] ⟨n, m⟩ k = P := by
  have start : ∀ (Kn Kr : K2) (Ke : Nat → K2) (cd : Cd), (∀ t e n' m' (ih : K2), (∃ j, j ≤ l.length ∧ t = j ∧ n' = n ∧ m' = m ∧ e = eof [(4, .n .i64 0), (5, iv j)] ∧ ∀ i, j ≤ i → i < l.length → bt l i ≠ 47) → (∀ t' e' n'' m'', t' < t → (∃ j, j ≤ l.length ∧ t' = j ∧ n'' = n ∧ m'' = m ∧ e' = eof [(4, .n .i64 0), (5, iv j)] ∧ ∀ i, j ≤ i → i < l.length → bt l i ≠ 47) → ih e' ⟨n'', m''⟩ = P) → cd Φ n ih Kr Ke e ⟨n', m'⟩ = P) →
      O.lp 1000000 cd Φ n Kn Kr Ke (eof [(4, .n .i64 0), (5, iv l.length)]) ⟨n, m⟩ = P := fun Kn Kr Ke cd hs =>
    lpI hO (fun t e n' m' => ∃ j, j ≤ l.length ∧ t = j ∧ n' = n ∧ m' = m ∧ e = eof [(4, .n .i64 0), (5, iv j)] ∧ ∀ i, j ≤ i → i < l.length → bt l i ≠ 47) (by rintro t e n' m' ⟨j, _, _, rfl, _⟩; exact Nat.le_refl _) hs _ l.length _ _ _ (by omega) ⟨l.length, Nat.le_refl _, rfl, rfl, rfl, rfl, fun i h1 h2 => absurd h1 (by omega)⟩
  cases hlen : l.length with
  | zero =>
    rw [hlen] at start
    repeat' ((conv => lhs; whnf); first | (((with_reducible refine lsS hO ?_); try simp only [List.length_cons, List.length_nil, Nat.zero_add])) | ((with_reducible refine sbZ hO (by omega) (by omega) ?_)))
    all_goals (conv => lhs; whnf)
    all_goals (simp only [hlen]; refine start _ _ _ _ ?_)
    all_goals (
      rintro t e n' m' ih ⟨j, hj, rfl, rfl, rfl, rfl, hall⟩ hih
      obtain rfl : t = 0 := by omega)
    repeat' ((conv => lhs; whnf); first | ((with_reducible first | refine umt hO ?_ | refine uqu hO ?_ | refine urm hO ?_ | refine uan hO ?_ | refine uro hO ?_ | refine uxr hO ?_ | refine uhl hO ?_ | refine uhr hO ?_ | refine uad hO ?_ | refine usb hO ?_ | refine ult hO ?_ | refine ule hO ?_ | refine ugt hO ?_ | refine uge hO ?_ | refine ueq hO ?_ | refine une hO ?_ | refine ucv hO ?_ | refine uia hO ?_ | refine usv hO ?_ | refine ubu hO ?_ | refine uap hO ?_ | refine ubs hO ?_ | refine umm hO ?_ | refine upq hO ?_ | refine unq hO ?_ | refine uln hO ?_)))
    all_goals (conv => lhs; whnf)
    all_goals first
      | exact h0 (Fa fun i hi => by omega)
  | succ q =>
    rw [hlen] at start
    repeat' ((conv => lhs; whnf); first | (((with_reducible refine lsS hO ?_); try simp only [List.length_cons, List.length_nil, Nat.zero_add])) | ((with_reducible refine sbI hO (by omega) (by omega) ?_)))
    all_goals (conv => lhs; whnf)
    all_goals (simp only [hlen]; refine start _ _ _ _ ?_)
    all_goals (
      rintro t e n' m' ih ⟨j, hj, rfl, rfl, rfl, rfl, hall⟩ hih
      rcases t with _ | _ | t)
    all_goals simp only [iv]
    repeat' ((conv => lhs; whnf); first | ((with_reducible refine geT hO (by omega) ?_)) | ((with_reducible refine eqB hO (fun h => ?_) (fun h => ?_))) | ((with_reducible refine sbI hO (by omega) (by omega) ?_)) | ((with_reducible refine sbZ hO (by omega) (by omega) ?_)) | ((with_reducible refine txS hO (by first | omega | decide) ?_)) | ((with_reducible first | refine umt hO ?_ | refine uqu hO ?_ | refine urm hO ?_ | refine uan hO ?_ | refine uro hO ?_ | refine uxr hO ?_ | refine uhl hO ?_ | refine uhr hO ?_ | refine uad hO ?_ | refine usb hO ?_ | refine ult hO ?_ | refine ule hO ?_ | refine ugt hO ?_ | refine uge hO ?_ | refine ueq hO ?_ | refine une hO ?_ | refine ucv hO ?_ | refine uia hO ?_ | refine usv hO ?_ | refine ubu hO ?_ | refine uap hO ?_ | refine ubs hO ?_ | refine umm hO ?_ | refine upq hO ?_ | refine unq hO ?_ | refine uln hO ?_)))
    all_goals (conv => lhs; whnf)
    all_goals first
      | exact h0 (Fa fun i hi => hall i (by omega) (by omega))
      | exact h1 _ (Jj (by omega) (by assumption) fun j h1 h2 => hall j (by omega) (by omega))
      | exact hih _ _ _ _ (Nat.lt_succ_self _) ⟨_, by omega, rfl, rfl, rfl, rfl, fun j h1 h2 => by
          rcases Nat.lt_or_ge (t + 1) j with h3 | h3
          · exact hall j (by omega) h2
          · rw [show j = t + 1 by omega]; assumption⟩
      | exact hih _ _ _ _ (Nat.lt_succ_self _) ⟨_, by omega, rfl, rfl, rfl, rfl, fun j h1 h2 => by
          rcases Nat.lt_or_ge 0 j with h3 | h3
          · exact hall j (by omega) h2
          · rw [show j = 0 by omega]; assumption⟩
def LiS (H : HF) : Prop := ∀ (l : Bs), l.length ≤ 900000 → ∀ (n : Nat) (m : T FObj) (k : KV) (P : FR), (∀ i, lastS l = i + 1 → k (.n .i64 i) ⟨n, m⟩ = P) → (lastS l = 0 → k (.z .i64 0) ⟨n, m⟩ = P) → H [.s (pack l), .s (pack [47])] ⟨n, m⟩ k = P
theorem li_s {O : Oz} (hO : O = zO) (Φ Φ1 : Phi) (H : Phi.fn Φ 71 = p71 O Φ1) : LiS (p62 O Φ) := fun l hl n m k P h1 h0 => by
  have hb : bt [47] 0 = 47 := rfl
  repeat' ((conv => lhs; whnf); first | ((with_reducible refine A4 ?_); (rw [H]; rw [hb]; refine lib_s hO Φ1 l hl h1 h0)) | (((with_reducible refine lsS hO ?_); try simp only [List.length_cons, List.length_nil, Nat.zero_add])) | ((with_reducible refine eqT hO (by omega) ?_)) | ((with_reducible refine eqF hO (by omega) ?_)) | ((with_reducible refine txS hO (by first | omega | decide) ?_)))
  all_goals (conv => lhs; whnf)
  all_goals first
    | exact h1 _ (by assumption)
    | exact h0 (by assumption)
def ParS (H : HF) : Prop := ∀ (p : Bs) (n : Nat) (m : T FObj), 0 < p.length → p.length ≤ 900000 → Eq H [.s (pack p)] n m (.s (pack (C9 p)))
theorem par_s {O : Oz} (hO : O = zO) (Φ : Phi) (H : LiS (Phi.fn Φ 62)) : ParS (p43 O Φ) := fun p n m hp hl k P hf => by
  have hle := Ht p
  repeat' ((conv => lhs; whnf); first | ((with_reducible refine A4 ?_); refine H p hl _ _ _ _ (fun i hi => ?_) (fun hz => ?_)) | ((with_reducible refine mxI hO ?_)) | ((with_reducible refine ssH hO (by omega) ?_)) | ((with_reducible first | refine umt hO ?_ | refine uqu hO ?_ | refine urm hO ?_ | refine uan hO ?_ | refine uro hO ?_ | refine uxr hO ?_ | refine uhl hO ?_ | refine uhr hO ?_ | refine uad hO ?_ | refine usb hO ?_ | refine ult hO ?_ | refine ule hO ?_ | refine ugt hO ?_ | refine uge hO ?_ | refine ueq hO ?_ | refine une hO ?_ | refine ucv hO ?_ | refine uia hO ?_ | refine usv hO ?_ | refine ubu hO ?_ | refine uap hO ?_ | refine ubs hO ?_ | refine umm hO ?_ | refine upq hO ?_ | refine unq hO ?_ | refine uln hO ?_)) | (with_reducible refine (Aj _ _).trans ?_))
  all_goals (conv => lhs; whnf)
  all_goals first
    | (rw [show C9 p = p.take (max i 1) by unfold C9; rw [hi]; rfl] at hf; exact hf)
    | (rw [show C9 p = p.take 1 by unfold C9; rw [hz]; rfl] at hf; exact hf)
theorem hs_s {O : Oz} (hO : O = zO) (Φ : Phi) (s p : Bs) (hs : s.length ≤ 900000) (n : Nat) (m : T FObj) : Eq (p82 O Φ) [.s (pack s), .s (pack p)] n m (.b (Dg s p)) := fun k P hf => by
  repeat' ((conv => lhs; whnf); first | (((with_reducible refine lsS hO ?_); try simp only [List.length_cons, List.length_nil, Nat.zero_add])) | ((with_reducible refine geB hO (fun h => ?_) (fun h => ?_))) | ((with_reducible refine Ly hO (fun h => ?_) (fun h => ?_))) | ((with_reducible refine sbI hO (by omega) (by omega) ?_)) | ((with_reducible refine ssL hO (by omega) ?_)))
  all_goals (conv => lhs; whnf)
  all_goals first
    | (rw [show Dg s p = true by unfold Dg; simp [*]] at hf; exact hf)
    | (rw [show Dg s p = false by unfold Dg; first | rw [decide_eq_false (by omega), Bool.false_and] | simp [*]] at hf; exact hf)
theorem hasSuf_le {s p : Bs} (h : Dg s p = true) : p.length ≤ s.length := by unfold Dg at h; simp at h; exact h.1
theorem ts2_s {O : Oz} (hO : O = zO) (Φ Φ1 : Phi) (H : Phi.fn Φ 82 = p82 O Φ1) (s : Bs) (hs : s.length ≤ 900000) (n : Nat) (m : T FObj) : Eq (p73 O Φ) [.s (pack s), .s (pack [47])] n m (.s (pack (Eg s))) := fun k P hf => by
  cases hsf : Dg s [47]
  · rw [show Eg s = s by unfold Eg; rw [hsf]; rfl] at hf
    repeat' ((conv => lhs; whnf); first | ((with_reducible refine A4 ?_); (rw [H]; refine hs_s hO Φ1 s _ hs _ _ _ _ ?_; rw [hsf])))
    all_goals (conv => lhs; whnf)
    all_goals first
      | exact hf
  · rw [show Eg s = s.take (s.length - 1) by unfold Eg; rw [hsf]; rfl] at hf
    have hle : 1 ≤ s.length := hasSuf_le hsf
    repeat' ((conv => lhs; whnf); first | ((with_reducible refine A4 ?_); (rw [H]; refine hs_s hO Φ1 s _ hs _ _ _ _ ?_; rw [hsf])) | (((with_reducible refine lsS hO ?_); try simp only [List.length_cons, List.length_nil, Nat.zero_add])) | ((with_reducible refine sbI hO (by omega) (by omega) ?_)) | ((with_reducible refine ssH hO (by omega) ?_)))
    all_goals (conv => lhs; whnf)
    all_goals first
      | exact hf
theorem ts_s {O : Oz} (hO : O = zO) (Φ Φ1 Φ2 : Phi) (H1 : Phi.fn Φ 73 = p73 O Φ1) (H : Phi.fn Φ1 82 = p82 O Φ2) (s : Bs) (hs : s.length ≤ 900000) (n : Nat) (m : T FObj) : Eq (p63 O Φ) [.s (pack s), .s (pack [47])] n m (.s (pack (Eg s))) := fun k P hf => by
  repeat' ((conv => lhs; whnf); first | ((with_reducible refine A4 ?_); (rw [H1]; refine ts2_s hO Φ1 Φ2 H s hs _ _ _ _ ?_)))
  all_goals (conv => lhs; whnf)
  all_goals first
    | exact hf
theorem trimG_le (d : Bs) : (Eg d).length ≤ d.length := by
  unfold Eg
  split
  · rw [List.length_take]; omega
  · exact Nat.le_refl _
def JoinS (H : HF) : Prop := ∀ (d x : Bs) (n : Nat) (m : T FObj), d.length ≤ 900000 → x.length ≤ 900000 → Eq H [.s (pack d), .s (pack x)] n m (.s (pack (Bt d x)))
theorem join_s {O : Oz} (hO : O = zO) (Φ Φ1 Φ2 Φ3 : Phi) (H2 : Phi.fn Φ 63 = p63 O Φ1) (H1 : Phi.fn Φ1 73 = p73 O Φ2) (H : Phi.fn Φ2 82 = p82 O Φ3) : JoinS (p44 O Φ) := fun d x n m hd hx k P hf => by
  have hle := trimG_le d
  have hl2 : (Eg d ++ [47]).length = (Eg d).length + 1 := by rw [List.length_append]; rfl
  repeat' ((conv => lhs; whnf); first | ((with_reducible refine adS hO (by simp only [List.length_cons, List.length_nil, hl2]; omega) ?_)) | ((with_reducible refine A4 ?_); (rw [H2]; refine ts_s hO Φ1 Φ2 Φ3 H1 H d hd _ _ _ _ ?_)))
  all_goals (conv => lhs; whnf)
  all_goals first
    | exact hf
end Go.Proofs.YtjoakhpdajlhiaaGreatDoor.V2.S
namespace Go.Proofs.YtjoakhpdajlhiaaGreatDoor.V2.S
open Go
theorem βL_rep (v : AV) : ∀ n, βL (List.replicate n v) = List.replicate n (βV v)
  | 0 => rfl
  | n + 1 => by rw [List.replicate_succ, List.replicate_succ, βL, βL_rep v n]
theorem flat_rep {α : Type} (a : α) : ∀ n, (List.replicate n [a]).flatten = List.replicate n a
  | 0 => rfl
  | n + 1 => by rw [List.replicate_succ, List.replicate_succ, List.flatten_cons, flat_rep a n]; rfl
theorem mkS {O : Oz} (hO : O = zO) {P : FR} {k : KV} {n a : Nat} {m : T FObj} {e : TypeId} (ha : a ≤ 1000000) (hn : n < 1000000) (h : k (.sl n 0 a a true 1) ⟨n + 1, mp m n (.cells (List.replicate a (.s (pack []))) e .exact)⟩ = P) : O.nq (.makeSl e 1 [.str []]) [.n .i64 a, .n .i64 a] ⟨n, m⟩ k = P := by
  subst hO
  show slN (decide ((0 : Int) ≤ Int.ofNat a) && decide (Int.ofNat a ≤ Int.ofNat a) && Nat.ble a 1000000, fun b => .sl b 0 a a true 1, .cells ((List.replicate a [.str []]).flatten) e .exact) ⟨n, m⟩ k = P
  rw [decide_eq_true (show (0 : Int) ≤ Int.ofNat a from Int.natCast_nonneg a), decide_eq_true (Int.le_refl _), A8 ha, flat_rep]
  show (fO (βO (.cells (List.replicate a (.str [])) e .exact)) fun o => nM ⟨n, m⟩ o fun b σ => fV (βV (.sl b 0 a a true 1)) fun w => k w σ) = P
  rw [Gf]
  show (nM ⟨n, m⟩ (.cells (βL (List.replicate a (.str []))) e .exact) fun b σ => fV (.sl b 0 a a true 1) fun w => k w σ) = P
  rw [βL_rep, Dl hn, Ge]
  exact h
def Dm : Bs → Nat
  | [] => 0
  | c :: l => if c = 47 then 0 else Dm l + 1
def An (l : Bs) : Nat := l.count 47
theorem Jb : ∀ {l : Bs}, An l = 0 → Ak l = [l]
  | [], _ => rfl
  | c :: l, h => by
    have hc : c ≠ 47 := fun e => by subst e; simp [An] at h
    have hl : An l = 0 := by
      unfold An at h ⊢
      rw [List.count_cons_of_ne hc] at h; exact h
    unfold Ak
    rw [if_neg hc, Jb hl]
theorem split_some : ∀ {l : Bs}, 0 < An l → Dm l < l.length ∧ Ak l = l.take (Dm l) :: Ak (l.drop (Dm l + 1)) ∧ An (l.drop (Dm l + 1)) + 1 = An l
  | [], h => by simp [An] at h
  | c :: l, h => by
    unfold Dm
    by_cases hc : c = 47
    · subst hc
      rw [if_pos rfl]
      refine ⟨by simp, ?_, by simp [An]⟩
      rw [Ak, if_pos rfl]; rfl
    · rw [if_neg hc]
      have hl : 0 < An l := by unfold An at h ⊢; rwa [List.count_cons_of_ne hc] at h
      obtain ⟨h1, h2, h3⟩ := split_some hl
      refine ⟨by simpa using h1, ?_, ?_⟩
      · rw [Ak, if_neg hc, h2]; rfl
      · have : An (c :: l) = An l := by unfold An; exact List.count_cons_of_ne hc
        rw [this, ← h3]; rfl
theorem F6 : ∀ (l : Bs), (Ak l).length = An l + 1
  | [] => rfl
  | c :: l => by
    unfold Ak
    have ih := F6 l
    by_cases hc : c = 47
    · subst hc; rw [if_pos rfl]; simp [An] at ih ⊢; exact ih
    · rw [if_neg hc]
      have : An (c :: l) = An l := by unfold An; exact List.count_cons_of_ne hc
      rw [this]
      cases h : Ak l with
      | nil => rw [h] at ih; simp at ih
      | cons p ps => rw [h] at ih; simpa using ih
theorem Io (l : Bs) : An l ≤ l.length := List.count_le_length
theorem Mf {α : Type} : ∀ {l : List α} {i : Nat} {a : α}, l[i]? = some a → l.drop i = a :: l.drop (i + 1)
  | [], i, a, h => by simp at h
  | b :: l, 0, a, h => by simp at h; subst h; rfl
  | b :: l, i + 1, a, h => by
    have h : l[i]? = some a := by simpa using h
    exact Mf (l := l) h
theorem Eu : ∀ {l p : Bs}, p ∈ Ak l → p.length ≤ l.length
  | [], p, h => by
    have h : p ∈ ([[]] : List Bs) := h
    simp at h; subst h; exact Nat.le_refl _
  | c :: l, p, h => by
    unfold Ak at h
    by_cases hc : c = 47
    · rw [if_pos hc] at h
      rcases List.mem_cons.1 h with h | h
      · subst h; simp
      · have := Eu h; simp only [List.length_cons]; omega
    · rw [if_neg hc] at h
      cases hs : Ak l with
      | nil => rw [hs] at h; simp at h; subst h; simp
      | cons q qs =>
        rw [hs] at h
        rcases List.mem_cons.1 h with h | h
        · have : q ∈ Ak l := by rw [hs]; exact List.mem_cons_self
          have := Eu this
          subst h; simp only [List.length_cons]; omega
        · have : p ∈ Ak l := by rw [hs]; exact List.mem_cons_of_mem _ h
          have := Eu this
          simp only [List.length_cons]; omega
def vsL (l : List Bs) : List FV := l.map fun s => .s (pack s)
theorem I8 {l : List Bs} {i : Nat} {s : Bs} (h : l[i]? = some s) : (vsL l)[i]? = some (.s (pack s)) := by unfold vsL; rw [List.getElem?_map, h]; rfl
theorem Jq (l : List Bs) : (vsL l).length = l.length := List.length_map _
theorem vsL_set (a : List Bs) (s : Bs) (k : Nat) : (vsL a ++ List.replicate (k + 1) (FV.s (pack []))).set a.length (.s (pack s)) = vsL (a ++ [s]) ++ List.replicate k (.s (pack [])) := by
  have e : a.length = (vsL a).length := (Jq a).symm
  rw [e, List.set_append_right _ _ (Nat.le_refl _), Nat.sub_self, List.replicate_succ]
  unfold vsL
  rw [List.map_append, List.append_assoc]; rfl
end Go.Proofs.YtjoakhpdajlhiaaGreatDoor.V2.S
namespace Go.Proofs.YtjoakhpdajlhiaaGreatDoor.V2.S
open Go
set_option maxRecDepth 100000
set_option maxHeartbeats 4000000
set_option linter.unusedVariables false
attribute [local irreducible] fN fO nM gM pM Phi.fn mp bl Au Be Bh pack
def CntS (H : HF) : Prop := ∀ (l : Bs) σ k, H [.s (pack l), .s (pack [47])] σ k = k (.n .i64 (An l)) σ
def IxS (H : HF) : Prop := ∀ (l : Bs) σ k, H [.s (pack l), .s (pack [47])] σ k = if 0 < An l then k (.n .i64 (Dm l)) σ else k (.z .i64 0) σ
def SplitS (H : HF) : Prop := ∀ (l : Bs), l.length ≤ 900000 → ∀ n m, Iv 1 [] H [.s (pack l), .s (pack [47])] n m (fun v n' m' => ∃ b Kk, v = .sl b 0 (An l + 1) Kk true 1 ∧ n ≤ b ∧ b < n' ∧ Am m' b (.cells (vsL (Ak l)) 9 .exact))
theorem gsplit_s {O : Oz} (hO : O = zO) (Φ : Phi) (HC : CntS (Phi.fn Φ 68)) (HI : IxS (Phi.fn Φ 69)) (l : Bs) (hl : l.length ≤ 900000) (n : Nat) (m : T FObj) : Iv 1 [] (p59 O Φ) [.s (pack l), .s (pack [47]), .n .i64 0, .z .i64 0] n m (fun v n' m' => ∃ b Kk, v = .sl b 0 (An l + 1) Kk true 1 ∧ n ≤ b ∧ b < n' ∧ Am m' b (.cells (vsL (Ak l)) 9 .exact)) := fun k P hn hf => by
  have hcl := Io l
  have hmin : min (An l + 1) (l.length + 1) = An l + 1 := by omega
  repeat' ((conv => lhs; whnf); first | ((with_reducible refine mnI hO ?_); rw [hmin]) | ((with_reducible refine mkS hO (by omega) (by omega) ?_)) | ((with_reducible refine A4 ?_); refine (HC _ _ _).trans ?_) | (((with_reducible refine lsS hO ?_); try simp only [List.length_cons, List.length_nil, Nat.zero_add])) | ((with_reducible refine eqSF hO (by first | assumption | decide) ?_)) | ((with_reducible refine adI hO (by omega) ?_)) | ((with_reducible refine sbI hO (by omega) (by omega) ?_)) | ((with_reducible first | refine umt hO ?_ | refine uqu hO ?_ | refine urm hO ?_ | refine uan hO ?_ | refine uro hO ?_ | refine uxr hO ?_ | refine uhl hO ?_ | refine uhr hO ?_ | refine uad hO ?_ | refine usb hO ?_ | refine ult hO ?_ | refine ule hO ?_ | refine ugt hO ?_ | refine uge hO ?_ | refine ueq hO ?_ | refine une hO ?_ | refine ucv hO ?_ | refine uia hO ?_ | refine usv hO ?_ | refine ubu hO ?_ | refine uap hO ?_ | refine ubs hO ?_ | refine umm hO ?_ | refine upq hO ?_ | refine unq hO ?_ | refine uln hO ?_)))
  all_goals (conv => lhs; whnf)
  all_goals first
    | refine lpI hO (fun t e n' m' => ∃ i rest done, i ≤ An l ∧ t = An l - i ∧ n' = n + 1 ∧ Kp n m m' ∧ Am m' n (.cells (vsL done ++ List.replicate (An l + 1 - i) (.s (pack []))) 9 .exact) ∧ Ak l = done ++ Ak rest ∧ done.length = i ∧ An rest = An l - i ∧ rest.length ≤ l.length ∧ e = eof [(0, .s (pack rest)), (3, .n .i64 (An l + 1 - 1)), (8, .o .sl), (10, .n .i64 i)]) ?_ ?_ _ (An l) _ _ _ (by omega) ⟨0, l, [], by omega, by omega, rfl, kQ, Ap (by omega), rfl, rfl, by omega, by omega, rfl⟩
  · rintro t e n' m' ⟨i, rest, done, _, _, rfl, _⟩
    omega
  · rintro t e n' m' ih ⟨i, rest, done, hi, rfl, rfl, hk, ham, hsp, hdl, hcr, hrl, rfl⟩ hih
    rcases Nat.lt_or_ge i (An l) with hlt | hge
    · obtain ⟨q1, q2, q3⟩ := split_some (l := rest) (by omega)
      have hI2 : ∀ σ k, Phi.fn Φ 69 [.s (pack rest), .s (pack [47])] σ k = k (.n .i64 (Dm rest)) σ := fun σ k => by rw [HI, if_pos (by omega)]
      repeat' ((conv => lhs; whnf); first | ((with_reducible refine A4 ?_); refine (hI2 _ _).trans ?_) | (((with_reducible refine lsS hO ?_); try simp only [List.length_cons, List.length_nil, Nat.zero_add])) | ((with_reducible refine ltT hO (by omega) ?_)) | ((with_reducible refine ltF hO (by omega) ?_)) | ((with_reducible refine adI hO (by omega) ?_)) | ((with_reducible refine ix01 hO (by omega) ?_)) | ((with_reducible refine ssH hO (by omega) ?_)) | ((with_reducible refine ssL hO (by omega) ?_)) | ((with_reducible refine Hc ?_); refine stC2 hO aQ (by simp only [List.length_append, Jq, List.length_replicate]; omega) (fun _ _ _ => rfl) (fun _ => rfl) ?_))
      all_goals (conv => lhs; whnf)
      all_goals first
        | exact hih (An l - (i + 1)) _ _ _ (by omega) ⟨i + 1, rest.drop (Dm rest + 1), done ++ [rest.take (Dm rest)], by omega, rfl, rfl, kQ, by
            have e1 := vsL_set done (rest.take (Dm rest)) (An l - i)
            rw [show An l + 1 - i = An l - i + 1 by omega] at ham ⊢
            rw [hdl] at e1
            first | (rw [show An l + 1 - (i + 1) = An l - i by omega, ← e1]; exact Ap (by omega)), by rw [hsp, q2, List.append_assoc]; rfl, by rw [List.length_append, hdl]; rfl, by omega, by rw [List.length_drop]; omega, rfl⟩
    · have hz : An rest = 0 := by omega
      repeat' ((conv => lhs; whnf); first | ((with_reducible refine ltF hO (by omega) ?_)) | ((with_reducible refine adI hO (by omega) ?_)) | ((with_reducible refine ix01 hO (by omega) ?_)) | ((with_reducible refine svH hO (by omega) ?_)) | ((with_reducible refine Hc ?_); refine stC2 hO aQ (by simp only [List.length_append, Jq, List.length_replicate]; omega) (fun _ _ _ => rfl) (fun _ => rfl) ?_))
      all_goals (conv => lhs; whnf)
      all_goals first
        | exact hf _ _ _ (by omega) (by omega) (Kq.of kQ _) ⟨n, _, by rw [show An l = i by omega], Nat.le_refl _, by omega, by
            have e1 := vsL_set done rest 0
            rw [hdl] at e1
            rw [hsp, Jb hz]
            rw [show An l + 1 - i = 0 + 1 by omega] at *
            first | (rw [e1]; simp only [List.replicate_zero, List.append_nil]; exact Ap (by omega))⟩
theorem split_s {O : Oz} (hO : O = zO) (Φ Φ1 : Phi) (H : Phi.fn Φ 59 = p59 O Φ1) (HC : CntS (Phi.fn Φ1 68)) (HI : IxS (Phi.fn Φ1 69)) : SplitS (p41 O Φ) := fun l hl n m k P hn hf => by
  repeat' ((conv => lhs; whnf); first | ((with_reducible refine A4 ?_); (rw [H]; refine gsplit_s hO Φ1 HC HI l hl _ _ _ _ (by omega) (fun v1 n1 m1 h1 g1 hk1 hq1 => ?_))))
  all_goals (conv => lhs; whnf)
  all_goals first
    | exact hf _ _ _ (by omega) (by omega) hk1 hq1
end Go.Proofs.YtjoakhpdajlhiaaGreatDoor.V2.S
namespace Go.Proofs.YtjoakhpdajlhiaaGreatDoor.V2.S
open Go
set_option maxRecDepth 100000
set_option maxHeartbeats 4000000
set_option linter.unusedVariables false
attribute [local irreducible] fN fO nM gM pM Phi.fn mp bl Au Be Bh pack
def NoneS (H : HF) : Prop := ∀ {tb mb : Nat} {t : Tr} {n : Nat} {m : T FObj}, TreeAt m tb mb 39 t → Eq H [.p tb 0] n m (.b false)
def KindS (H : HF) : Prop := ∀ {tb mb : Nat} {t : Tr} {n : Nat} {m : T FObj}, TreeAt m tb mb 39 t → tb < n → mb < n → ∀ p, Ret 1 H [.p tb 0, .s (pack p)] n m (.n .i64 (Al t p))
def HpS (H : HF) : Prop := ∀ (s p : Bs), s.length ≤ 9223372036854775807 → ∀ (n : Nat) (m : T FObj), Eq H [.s (pack s), .s (pack p)] n m (.b (Cq s p))
def NamedS (H : HF) : Prop := ∀ (s : Bs) (n : Nat) (m : T FObj), s.length ≤ 900000 → Ret 1 H [.s (pack s)] n m (.b (Bg s))
def AbsS (H : HF) : Prop := ∀ {tb mb : Nat} {t : Tr} {n : Nat} {m : T FObj}, TreeAt m tb mb 39 t → tb < n → mb < n → 1 ≤ t.cwd.length → t.cwd.length ≤ 256 → ∀ (path : Bs), path.length ≤ 900000 → Ret 600 H [.p tb 0, .s (pack path)] n m (.tup [.s (pack (Ae t path).1), .n .i64 (Ae t path).2])
theorem nameB_le {s : Bs} (h : Bg s = true) : s.length ≤ 32 := by unfold Bg at h; simp at h; exact h.1.2
theorem Mz (a : Bs) : (C9 a).length ≤ a.length := by unfold C9; rw [List.length_take]; omega
theorem parG_pos {a : Bs} (h : 1 ≤ a.length) : 1 ≤ (C9 a).length := by unfold C9; rw [List.length_take]; omega
theorem joinG_le (a b : Bs) : (Bt a b).length ≤ a.length + 1 + b.length := by
  have := trimG_le a
  unfold Bt; simp only [List.length_append, List.length_cons, List.length_nil]; omega
theorem joinG_pos (a b : Bs) : 1 ≤ (Bt a b).length := by unfold Bt; simp only [List.length_append, List.length_cons, List.length_nil]; omega
theorem E9 {t : Tr} {a b p : Bs} {ps : List Bs} (h : Bb t a p = .inr b) : A3 t a (p :: ps) = A3 t b ps := by rw [A3, h]
theorem Ll {t : Tr} {a p : Bs} {e : Nat} {ps : List Bs} (h : Bb t a p = .inl e) : A3 t a (p :: ps) = .inl e := by rw [A3, h]
theorem abs_s {O : Oz} (hO : O = zO) (Φ : Phi) (H1 : NoneS (Phi.fn Φ 13)) (H2 : KindS (Phi.fn Φ 16)) (H3 : HpS (Phi.fn Φ 40)) (H4 : NamedS (Phi.fn Φ 42)) (H5 : SplitS (Phi.fn Φ 41)) (H6 : ParS (Phi.fn Φ 43)) (H7 : JoinS (Phi.fn Φ 44)) : AbsS (p15 O Φ) := fun {tb mb t n m} hT htb hmb hc1 hc2 path hpl k P hn hf => by
  have hT1 := hT.s
  have hT2 := hT.m
  have fin : ∀ n' m', path.length ≤ 256 → path ≠ [] → n ≤ n' → n' ≤ n + 600 → Kp n m m' → ∀ (r : Nat ⊕ Bs), A3 t (if Cq path [47] then [47] else t.cwd) (Ak path) = r → k (.tup [.s (pack (match r with | .inl _ => [] | .inr a => a)), .n .i64 (match r with | .inl e => e | .inr _ => 0)]) ⟨n', m'⟩ = P := fun n' m' h1 h2 h3 h4 h5 r hr => by
    have := hf n' m' h3 h4 h5
    unfold Ae at this
    rw [if_neg (by rintro (h | h); exact h2 h; omega), hr] at this
    cases r <;> exact this
  have key : ∀ (at0 : Bs), (if Cq path [47] then [47] else t.cwd) = at0 → path.length ≤ 256 → path ≠ [] → 1 ≤ at0.length → at0.length ≤ 256 → ∀ (b Kk n1 : Nat) (m1 : T FObj), n ≤ n1 → n1 ≤ n + 1 → n ≤ b → b < n1 → Kp n m m1 → Am m1 b (.cells (vsL (Ak path)) 9 .exact) → ∀ (kn kr : K2) (ke : Nat → K2) (cd : Cd),
      (∀ i at_ n' m' (ih : K2), i ≤ An path + 1 → n ≤ n' → n' ≤ n + 1 + 2 * i → Kp n m m' → Am m' b (.cells (vsL (Ak path)) 9 .exact) → A3 t at0 (Ak path) = A3 t at_ ((Ak path).drop i) → 1 ≤ at_.length → at_.length ≤ 256 + 33 * i → b < n' →
        (∀ at2 n2 m2, i < An path + 1 → n ≤ n2 → n2 ≤ n + 1 + 2 * (i + 1) → Kp n m m2 → Am m2 b (.cells (vsL (Ak path)) 9 .exact) → A3 t at0 (Ak path) = A3 t at2 ((Ak path).drop (i + 1)) → 1 ≤ at2.length → at2.length ≤ 256 + 33 * (i + 1) → b < n2 → ih (eof [(4, .s (pack [])), (5, .n .i64 0), (6, .s (pack at2)), (30, .n .i64 (i + 1))]) ⟨n2, m2⟩ = P) →
        cd Φ n ih kr ke (eof [(4, .s (pack [])), (5, .n .i64 0), (6, .s (pack at_)), (30, .n .i64 i)]) ⟨n', m'⟩ = P) →
      O.lp 1000000 cd Φ n kn kr ke (eof [(4, .s (pack [])), (5, .n .i64 0), (6, .s (pack at0)), (30, .n .i64 0)]) ⟨n1, m1⟩ = P := fun at0 hat h1 h2 h3 h4 b Kk n1 m1 g1 g2 g3 g4 g5 g6 kn kr ke cd hs => by
    have hcl := Io path
    refine lpI hO (fun q e n' m' => ∃ i at_, i ≤ An path + 1 ∧ q = An path + 1 - i ∧ n ≤ n' ∧ n' ≤ n + 1 + 2 * i ∧ Kp n m m' ∧ Am m' b (.cells (vsL (Ak path)) 9 .exact) ∧ A3 t at0 (Ak path) = A3 t at_ ((Ak path).drop i) ∧ 1 ≤ at_.length ∧ at_.length ≤ 256 + 33 * i ∧ b < n' ∧ e = eof [(4, .s (pack [])), (5, .n .i64 0), (6, .s (pack at_)), (30, .n .i64 i)]) ?_ ?_ _ (An path + 1) _ _ _ (by omega) ⟨0, at0, by omega, by omega, g1, by omega, g5, g6, rfl, h3, by omega, g4, rfl⟩
    · rintro q e n' m' ⟨i, at_, _, _, h, _⟩; exact h
    · rintro q e n' m' ih ⟨i, at_, q1, rfl, q2, q3, q4, q5, q6, q7, q8, q9, rfl⟩ hih
      exact hs i at_ n' m' ih q1 q2 q3 q4 q5 q6 q7 q8 q9 fun at2 n2 m2 r0 r1 r2 r3 r4 r5 r6 r7 r8 => hih (An path + 1 - (i + 1)) _ _ _ (by omega) ⟨i + 1, at2, by omega, rfl, r1, r2, r3, r4, r5, r6, r7, r8, rfl⟩
  repeat' ((conv => lhs; whnf); first | ((with_reducible refine A4 ?_); first | refine H1 (hT.kp kQ htb hmb) _ _ ?_ | refine H3 _ _ (by omega) _ _ _ _ ?_ | (refine H5 _ (by omega) _ _ _ _ (by omega) ?_; rintro v1 n1 m1 h1 g1 hk1 ⟨b, Kk, rfl, q1, q2, q3⟩)) | ((with_reducible refine fa0 hO ?_)) | ((with_reducible refine Br ?_); refine ldC hO aQ (by rfl) ?_) | (((with_reducible refine lsS hO ?_); try simp only [List.length_cons, List.length_nil, Nat.zero_add])) | ((with_reducible refine lvS hO ?_)) | ((with_reducible refine gtB hO (fun h => ?_) (fun h => ?_))) | ((with_reducible refine Ly hO (fun h => ?_) (fun h => ?_))) | ((with_reducible refine atB ?_); refine brec (fun h => ?_) (fun h => ?_)))
  all_goals (conv => lhs; whnf)
  all_goals first
    | (have e : Ae t path = ([], 23) := by unfold Ae; rw [if_pos (by first | exact .inl (by assumption) | exact .inr (by omega))]
       rw [e] at hf; exact hf _ _ (by omega) (by omega) kQ)
    | (have hne : path ≠ [] := by assumption
       have hk2 : Kp n m m1 := hk1.kp
       clear hf
       have hle : path.length ≤ 256 := by omega
       first
         | refine key [47] (if_pos (by assumption)) hle hne (by decide) (by decide) b Kk n1 m1 h1 g1 q1 q2 hk2 q3 _ _ _ _ ?_
         | refine key t.cwd (if_neg (by simp [*])) hle hne hc1 hc2 b Kk n1 m1 h1 g1 q1 q2 hk2 q3 _ _ _ _ ?_)
  all_goals (
    intro i at_ n' m' ih z1 z2 z3 z4 z5 z6 z7 z8 z9 hih
    have hcl := Io path
    have e1 := Mz at_
    have e2 := parG_pos z7
    rcases Nat.lt_or_ge i (An path + 1) with hlt | hge)
  all_goals first
    | (have hi1 : i < An path + 1 := hlt
       obtain ⟨p, hp⟩ : ∃ p, (Ak path)[i]? = some p := ⟨_, List.getElem?_eq_getElem (by rw [F6]; omega)⟩
       have hdr := Mf hp
       have hpm : p.length ≤ path.length := Eu (List.mem_of_getElem? hp)
       have e3 := joinG_le at_ p
       have e4 := joinG_pos at_ p
       repeat' ((conv => lhs; whnf); first | ((with_reducible refine A4 ?_); first | refine H2 (hT.kp kQ htb hmb) (by omega) (by omega) _ _ _ (by omega) (fun n3 m3 h3 g3 k3 => ?_) | refine H4 _ _ _ (by omega) _ _ (by omega) (fun n3 m3 h3 g3 k3 => ?_) | refine H6 _ _ _ (by omega) (by omega) _ _ ?_ | refine H7 _ _ _ _ (by omega) (by omega) _ _ ?_) | ((with_reducible refine Br ?_); refine ldC hO aQ (I8 hp) ?_) | ((with_reducible refine ltT hO (by omega) ?_)) | ((with_reducible refine eqB hO (fun h => ?_) (fun h => ?_))) | ((with_reducible refine eqST hO (by first | rfl | assumption) ?_)) | ((with_reducible refine eqSF hO (by first | assumption | decide) ?_)) | ((with_reducible refine Ly hO (fun h => ?_) (fun h => ?_))) | ((with_reducible refine neSB hO (fun h => ?_) (fun h => ?_))) | ((with_reducible refine adI hO (by omega) ?_)) | ((with_reducible refine ix01 hO (by omega) ?_)) | ((with_reducible refine atB ?_); refine brec (fun h => ?_) (fun h => ?_)))
       all_goals (conv => lhs; whnf)
       all_goals first
         | exact hih at_ _ _ hi1 (by omega) (by omega) kQ aQ (by rw [z6, hdr, E9 (b := at_) (by unfold Bb; rw [if_pos (by first | exact .inl (by assumption) | exact .inr (by assumption))])]) (by omega) (by omega) (by omega)
         | exact fin _ _ hle hne (by omega) (by omega) kQ (.inl 23) (by (first | rw [if_pos (by assumption), z6, hdr] | rw [if_neg (by simp [*]), z6, hdr]); exact Ll (by unfold Bb; simp [*]))
         | exact fin _ _ hle hne (by omega) (by omega) kQ (.inl 6) (by (first | rw [if_pos (by assumption), z6, hdr] | rw [if_neg (by simp [*]), z6, hdr]); exact Ll (by unfold Bb; simp [*]))
         | exact fin _ _ hle hne (by omega) (by omega) kQ (.inl 5) (by (first | rw [if_pos (by assumption), z6, hdr] | rw [if_neg (by simp [*]), z6, hdr]); exact Ll (by unfold Bb; simp [*]))
         | exact hih (C9 at_) _ _ hi1 (by omega) (by omega) kQ aQ (by rw [z6, hdr]; exact E9 (by unfold Bb; simp [*])) (by omega) (by omega) (by omega)
         | (have e5 := nameB_le (s := p) (by assumption)
            exact hih (Bt at_ p) _ _ hi1 (by omega) (by omega) kQ aQ (by rw [z6, hdr]; exact E9 (by unfold Bb; simp [*])) (by omega) (by omega) (by omega)))
    | (have hi1 : An path + 1 ≤ i := hge
       repeat' ((conv => lhs; whnf); first | ((with_reducible refine ltF hO (by omega) ?_)))
       all_goals (conv => lhs; whnf)
       all_goals first
         | exact fin _ _ hle hne (by omega) (by omega) kQ (.inr at_) (by (first | rw [if_pos (by assumption), z6, List.drop_of_length_le (by rw [F6]; omega)] | rw [if_neg (by simp [*]), z6, List.drop_of_length_le (by rw [F6]; omega)]); rfl))
end Go.Proofs.YtjoakhpdajlhiaaGreatDoor.V2.S
namespace Go.Proofs.YtjoakhpdajlhiaaGreatDoor.V2.S
open Go
set_option maxRecDepth 100000
set_option maxHeartbeats 4000000
set_option linter.unusedVariables false
attribute [local irreducible] fN fO nM gM pM Phi.fn mp bl Au Be Bh pack
def UsedS (H : HF) : Prop := ∀ {tb mb : Nat} {t : Tr} {n : Nat} {m : T FObj}, TreeAt m tb mb 39 t → tb < n → mb < n → WfT t → Ret 140 H [.p tb 0] n m (.tup [.n .i64 t.L.length, .n .i64 (At t.L)])
def PutS (H : HF) : Prop := ∀ {tb mb : Nat} {t : Tr} {n : Nat} {m : T FObj}, TreeAt m tb mb 39 t → tb < n → mb < n → tb ≠ mb → WfT t → ∀ (x : En), x.path.length ≤ 900000 → x.data.length ≤ 900000 → Iv 150 [mb] H [.p tb 0, Eb x] n m (fun v n' m' => v = .n .i64 (Cn t x).2 ∧ TreeAt m' tb mb 39 (Cn t x).1)
theorem put_s {O : Oz} (hO : O = zO) (Φ : Phi) (H : UsedS (Phi.fn Φ 33)) : PutS (p17 O Φ) := fun {tb mb t n m} hT htb hmb htm hW x hx1 hx2 k P hn hf => by
  have hT1 := hT.s
  have hT2 := hT.m
  have hwl := hW.len
  have hws := hW.sz
  repeat' ((conv => lhs; whnf); first | ((with_reducible refine A4 ?_); refine H (hT.kp kQ htb hmb) (by omega) (by omega) hW _ _ (by omega) (fun n3 m3 h3 g3 k3 => ?_)) | ((with_reducible refine fa0 hO ?_)) | ((with_reducible refine Br ?_); refine ldC hO aQ (by rfl) ?_) | (((with_reducible refine lsS hO ?_); try simp only [List.length_cons, List.length_nil, Nat.zero_add])) | ((with_reducible refine gtF hO (by omega) ?_)) | ((with_reducible refine gtB hO (fun h => ?_) (fun h => ?_))) | ((with_reducible refine adI hO (by omega) ?_)) | ((with_reducible refine sbI hO (by omega) (by omega) ?_)) | ((with_reducible refine Hc ?_); refine ust hO ?_) | ((with_reducible refine alO hO (by omega) ?_)) | ((with_reducible refine atBx ?_); refine bxA hO (by omega) (by simp only [αL, αV, AObj.of, Cv, βO, βL, βV, As]) ?_) | ((with_reducible refine atLk ?_); refine lkS hO aQ (fun a hla => (fun hsz => ?_) (B2 hla)) (fun hla => ?_)) | ((with_reducible refine atMu ?_); refine muS (x := x) hO aQ (by rfl) (by rfl) ?_) | ((with_reducible first | refine umt hO ?_ | refine uqu hO ?_ | refine urm hO ?_ | refine uan hO ?_ | refine uro hO ?_ | refine uxr hO ?_ | refine uhl hO ?_ | refine uhr hO ?_ | refine uad hO ?_ | refine usb hO ?_ | refine ult hO ?_ | refine ule hO ?_ | refine ugt hO ?_ | refine uge hO ?_ | refine ueq hO ?_ | refine une hO ?_ | refine ucv hO ?_ | refine uia hO ?_ | refine usv hO ?_ | refine ubu hO ?_ | refine uap hO ?_ | refine ubs hO ?_ | refine umm hO ?_ | refine upq hO ?_ | refine unq hO ?_ | refine uln hO ?_)) | (with_reducible refine (Aj _ _).trans ?_) | (with_reducible refine pM_mp.trans ?_) | (refine Hy aQ ?_))
  all_goals (conv => lhs; whnf)
  all_goals first
    | (have e : Cn t x = (t, 3) := by unfold Cn; rw [if_pos (by first | exact .inl (by omega) | exact .inr (by omega))]
       rw [e] at hf
       exact hf _ _ _ (by omega) (by omega) qQ ⟨rfl, hT.kp kQ htb hmb⟩)
    | (have em : manyG t x = t.L.length := by unfold manyG Dy; rw [hla]
       have eb : Gy t x = At t.L - a.data.length := by unfold Gy Dy; rw [hla]
       first
         | (have e : Cn t x = (t, 7) := by unfold Cn; rw [if_neg (by omega), if_pos (by first | exact .inl (by omega) | exact .inr (by omega))]
            rw [e] at hf
            exact hf _ _ _ (by omega) (by omega) qQ ⟨rfl, hT.kp kQ htb hmb⟩)
         | (have e : Cn t x = ({ t with L := setM En.path x t.L }, 0) := by unfold Cn; rw [if_neg (by omega), if_neg (by omega)]
            rw [e] at hf
            exact hf _ _ _ (by omega) (by omega) qQ ⟨rfl, ⟨aQ, Ap (by omega)⟩⟩))
    | (have em : manyG t x = t.L.length + 1 := by unfold manyG Dy; rw [hla]
       have eb : Gy t x = At t.L + x.path.length := by unfold Gy Dy; rw [hla]
       first
         | (have e : Cn t x = (t, 7) := by unfold Cn; rw [if_neg (by omega), if_pos (by first | exact .inl (by omega) | exact .inr (by omega))]
            rw [e] at hf
            exact hf _ _ _ (by omega) (by omega) qQ ⟨rfl, hT.kp kQ htb hmb⟩)
         | (have e : Cn t x = ({ t with L := setM En.path x t.L }, 0) := by unfold Cn; rw [if_neg (by omega), if_neg (by omega)]
            rw [e] at hf
            exact hf _ _ _ (by omega) (by omega) qQ ⟨rfl, ⟨aQ, Ap (by omega)⟩⟩))
end Go.Proofs.YtjoakhpdajlhiaaGreatDoor.V2.S
namespace Go.Proofs.YtjoakhpdajlhiaaGreatDoor.V2.S
open Go
set_option maxRecDepth 100000
set_option maxHeartbeats 4000000
set_option linter.unusedVariables false
attribute [local irreducible] fN fO nM gM pM Phi.fn mp bl Au Be Bh pack
theorem stepG_le {t : Tr} {a b p : Bs} (h : Bb t a p = .inr b) : b.length ≤ a.length + 33 := by
  have e1 := Mz a
  have e2 := joinG_le a p
  unfold Bb at h
  split at h
  · cases h; omega
  split at h
  · cases h
  split at h
  · cases h
  split at h
  · cases h
  split at h
  · cases h; omega
  · rename_i h1 _ _ h4
    cases h
    have hn : Bg p = true := by
      cases hb : Bg p with
      | true => rfl
      | false => exact absurd ⟨h4, hb⟩ h1
    have := nameB_le hn
    omega
theorem loopG_le {t : Tr} : ∀ {ps : List Bs} {a b : Bs}, A3 t a ps = .inr b → b.length ≤ a.length + 33 * ps.length
  | [], a, b, h => by unfold A3 at h; cases h; exact Nat.le_refl _
  | p :: ps, a, b, h => by
    unfold A3 at h
    cases hs : Bb t a p with
    | inl e => rw [hs] at h; cases h
    | inr c =>
      rw [hs] at h
      have h1 := stepG_le hs
      have h2 := loopG_le (ps := ps) h
      simp only [List.length_cons]; omega
theorem Ew {t : Tr} {path : Bs} (hc1 : t.cwd.length ≤ 256) (h : path.length ≤ 900000) : (Ae t path).1.length ≤ 100000 := by
  unfold Ae
  split
  · exact Nat.zero_le _
  · rename_i hh
    have hp : path.length ≤ 256 := by
      rcases Nat.lt_or_ge 256 path.length with h1 | h1
      · exact absurd (.inr h1) hh
      · exact h1
    have hs := F6 path
    have hc := Io path
    cases hl : A3 t (if Cq path [47] then [47] else t.cwd) (Ak path) with
    | inl e => exact Nat.zero_le _
    | inr a =>
      have := loopG_le hl
      show a.length ≤ 100000
      split at this
      · simp only [List.length_cons, List.length_nil] at this; omega
      · omega
def MakeS (H : HF) : Prop := ∀ {tb mb : Nat} {t : Tr} {n : Nat} {m : T FObj}, TreeAt m tb mb 39 t → tb < n → mb < n → tb ≠ mb → WfT t → ∀ (path : Bs), path.length ≤ 900000 → Iv 760 [mb] H [.p tb 0, .s (pack path)] n m (fun v n' m' => v = .n .i64 (Co t path).2 ∧ TreeAt m' tb mb 39 (Co t path).1)
theorem make_s {O : Oz} (hO : O = zO) (Φ : Phi) (HA : AbsS (Phi.fn Φ 15)) (HK : KindS (Phi.fn Φ 16)) (HP : PutS (Phi.fn Φ 17)) : MakeS (p8 O Φ) := fun {tb mb t n m} hT htb hmb htm hW path hpl k P hn hf => by
  have hT1 := hT.s
  have hT2 := hT.m
  have hal := Ew (t := t) (path := path) hW.c2 hpl
  repeat' ((conv => lhs; whnf); first | ((with_reducible refine A4 ?_); first | refine HA (hT.kp kQ htb hmb) (by omega) (by omega) hW.c1 hW.c2 _ (by omega) _ _ (by omega) (fun n3 m3 h3 g3 k3 => ?_) | refine HK (hT.kp kQ htb hmb) (by omega) (by omega) _ _ _ (by omega) (fun n4 m4 h4 g4 k4 => ?_) | refine HP (hT.kp kQ htb hmb) (by omega) (by omega) htm hW ⟨(Ae t path).1, true, []⟩ (by show (Ae t path).1.length ≤ 900000; omega) (by show 0 ≤ 900000; omega) _ _ (by omega) (fun v5 n5 m5 h5 g5 k5 q5 => ?_)) | ((with_reducible refine neB hO (fun h => ?_) (fun h => ?_))) | ((with_reducible first | refine umt hO ?_ | refine uqu hO ?_ | refine urm hO ?_ | refine uan hO ?_ | refine uro hO ?_ | refine uxr hO ?_ | refine uhl hO ?_ | refine uhr hO ?_ | refine uad hO ?_ | refine usb hO ?_ | refine ult hO ?_ | refine ule hO ?_ | refine ugt hO ?_ | refine uge hO ?_ | refine ueq hO ?_ | refine une hO ?_ | refine ucv hO ?_ | refine uia hO ?_ | refine usv hO ?_ | refine ubu hO ?_ | refine uap hO ?_ | refine ubs hO ?_ | refine umm hO ?_ | refine upq hO ?_ | refine unq hO ?_ | refine uln hO ?_)))
  all_goals (conv => lhs; whnf)
  all_goals first
    | (have e : Co t path = (t, (Ae t path).2) := by unfold Co; rw [if_pos (by assumption)]
       rw [e] at hf; exact hf _ _ _ (by omega) (by omega) qQ ⟨rfl, hT.kp kQ htb hmb⟩)
    | (have e : Co t path = (t, 9) := by unfold Co; rw [if_neg (by simp [*]), if_pos (by assumption)]
       rw [e] at hf; exact hf _ _ _ (by omega) (by omega) qQ ⟨rfl, hT.kp kQ htb hmb⟩)
    | (have e : Co t path = Cn t ⟨(Ae t path).1, true, []⟩ := by unfold Co; rw [if_neg (by simp [*]), if_neg (by simp [*])]
       rw [e] at hf; exact hf _ _ _ (by omega) (by omega) qQ q5)
def IsS (H : HF) : Prop := ∀ {tb mb : Nat} {t : Tr} {n : Nat} {m : T FObj}, TreeAt m tb mb 39 t → tb < n → mb < n → WfT t → ∀ (path : Bs) (kd : Nat), path.length ≤ 900000 → Ret 601 H [.p tb 0, .s (pack path), .n .i64 kd] n m (.tup [.s (pack (isG t path kd).1), .n .i64 (isG t path kd).2])
theorem is_s {O : Oz} (hO : O = zO) (Φ : Phi) (HA : AbsS (Phi.fn Φ 15)) (HK : KindS (Phi.fn Φ 16)) : IsS (p18 O Φ) := fun {tb mb t n m} hT htb hmb hW path kd hpl k P hn hf => by
  have hT1 := hT.s
  have hT2 := hT.m
  repeat' ((conv => lhs; whnf); first | ((with_reducible refine A4 ?_); first | refine HA (hT.kp kQ htb hmb) (by omega) (by omega) hW.c1 hW.c2 _ (by omega) _ _ (by omega) (fun n3 m3 h3 g3 k3 => ?_) | refine HK (hT.kp kQ htb hmb) (by omega) (by omega) _ _ _ (by omega) (fun n4 m4 h4 g4 k4 => ?_)) | ((with_reducible refine eqB hO (fun h => ?_) (fun h => ?_))) | ((with_reducible refine neB hO (fun h => ?_) (fun h => ?_))))
  all_goals (conv => lhs; whnf)
  all_goals first
    | (have e : isG t path kd = ([], (Ae t path).2) := by unfold isG; rw [if_pos (by assumption)]
       rw [e] at hf; exact hf _ _ (by omega) (by omega) kQ)
    | (have e : isG t path kd = ((Ae t path).1, 0) := by unfold isG; rw [if_neg (by simp [*]), if_pos (by assumption)]
       rw [e] at hf; exact hf _ _ (by omega) (by omega) kQ)
    | (have e : isG t path kd = ([], 6) := by unfold isG; rw [if_neg (by simp [*]), if_neg (by assumption), if_pos (by assumption)]
       rw [e] at hf; exact hf _ _ (by omega) (by omega) kQ)
    | (have e : isG t path kd = ([], 5) := by unfold isG; rw [if_neg (by simp [*]), if_neg (by assumption), if_neg (by assumption)]
       rw [e] at hf; exact hf _ _ (by omega) (by omega) kQ)
def ReadS (H : HF) : Prop := ∀ {tb mb : Nat} {t : Tr} {n : Nat} {m : T FObj}, TreeAt m tb mb 39 t → tb < n → mb < n → WfT t → ∀ (path : Bs), path.length ≤ 900000 → Ret 601 H [.p tb 0, .s (pack path)] n m (.tup [.s (pack (E5 t path).1), .n .i64 (E5 t path).2])
theorem read_s {O : Oz} (hO : O = zO) (Φ : Phi) (HI : IsS (Phi.fn Φ 18)) : ReadS (p25 O Φ) := fun {tb mb t n m} hT htb hmb hW path hpl k P hn hf => by
  have hT1 := hT.s
  have hT2 := hT.m
  repeat' ((conv => lhs; whnf); first | ((with_reducible refine A4 ?_); refine HI (hT.kp kQ htb hmb) (by omega) (by omega) hW _ _ (by omega) _ _ (by omega) (fun n3 m3 h3 g3 k3 => ?_)) | ((with_reducible refine fa0 hO ?_)) | ((with_reducible refine Br ?_); refine ldC hO aQ (by rfl) ?_) | ((with_reducible refine neB hO (fun h => ?_) (fun h => ?_))) | ((with_reducible refine atLk ?_); refine lkS1 hO aQ (fun a hla => ?_) (fun hla => ?_)))
  all_goals (conv => lhs; whnf)
  all_goals first
    | (have e : E5 t path = ([], (isG t path 2).2) := by unfold E5; rw [if_pos (by assumption)]
       rw [e] at hf; exact hf _ _ (by omega) (by omega) kQ)
    | (have e : E5 t path = (C3 t (isG t path 2).1, 0) := by unfold E5; rw [if_neg (by simp [*])]
       rw [e] at hf
       have e2 : C3 t (isG t path 2).1 = a.data := by unfold C3 Dy; rw [hla]
       rw [e2] at hf; exact hf _ _ (by omega) (by omega) kQ)
    | (have e : E5 t path = (C3 t (isG t path 2).1, 0) := by unfold E5; rw [if_neg (by simp [*])]
       rw [e] at hf
       have e2 : C3 t (isG t path 2).1 = [] := by unfold C3 Dy; rw [hla]
       rw [e2] at hf; exact hf _ _ (by omega) (by omega) kQ)
end Go.Proofs.YtjoakhpdajlhiaaGreatDoor.V2.S
namespace Go.Proofs.YtjoakhpdajlhiaaGreatDoor.V2.S
open Go
set_option maxRecDepth 100000
set_option maxHeartbeats 4000000
set_option linter.unusedVariables false
attribute [local irreducible] fN fO nM gM pM Phi.fn mp bl Au Be Bh pack
def WithinS (H : HF) : Prop := ∀ {tb mb : Nat} {t : Tr} {n : Nat} {m : T FObj}, TreeAt m tb mb 39 t → tb < n → mb < n → WfT t → ∀ (d : Bs), d.length ≤ 900000 → ∀ (k : KV) (P : FR), n + 2 ≤ 1000000 → (∀ v n' m', n ≤ n' → n' ≤ n + 2 → Kp n m m' → (Bk t d = false → v = .o .sl) → (Bk t d = true → ∃ b L, 0 < L ∧ L ≤ 1000 ∧ v = .sl b 0 L L false 1) → k v ⟨n', m'⟩ = P) → H [.p tb 0, .s (pack d)] ⟨n, m⟩ k = P
def RemoveS (H : HF) : Prop := ∀ {tb mb : Nat} {t : Tr} {n : Nat} {m : T FObj}, TreeAt m tb mb 39 t → tb < n → mb < n → tb ≠ mb → WfT t → ∀ (path : Bs), path.length ≤ 900000 → Iv 760 [mb] H [.p tb 0, .s (pack path)] n m (fun v n' m' => v = .n .i64 (Ax t path).2 ∧ TreeAt m' tb mb 39 (Ax t path).1)
theorem remove_s {O : Oz} (hO : O = zO) (Φ : Phi) (HA : AbsS (Phi.fn Φ 15)) (HK : KindS (Phi.fn Φ 16)) (HJ : JoinS (Phi.fn Φ 44)) (HH : HpS (Phi.fn Φ 40)) (HW : WithinS (Phi.fn Φ 48)) : RemoveS (p22 O Φ) := fun {tb mb t n m} hT htb hmb htm hW path hpl k P hn hf => by
  have hT1 := hT.s
  have hT2 := hT.m
  have hal := Ew (t := t) (path := path) hW.c2 hpl
  have hc2 := hW.c2
  have e1 : (Ae t path).2 ≠ 0 → Ax t path = (t, (Ae t path).2) := fun h => by unfold Ax; rw [if_pos h]
  have e2 : ¬ (Ae t path).2 ≠ 0 → Al t (Ae t path).1 = 0 → Ax t path = (t, 6) := fun h h2 => by unfold Ax; rw [if_neg h, if_pos h2]
  have e3 : ¬ (Ae t path).2 ≠ 0 → Al t (Ae t path).1 ≠ 0 → G9 t (Ae t path).1 → Ax t path = (t, 1) := fun h h2 h3 => by unfold Ax; rw [if_neg h, if_neg h2, if_pos h3]
  have e4 : ¬ (Ae t path).2 ≠ 0 → Al t (Ae t path).1 ≠ 0 → ¬ G9 t (Ae t path).1 → Bk t (Ae t path).1 = true → Ax t path = (t, 10) := fun h h2 h3 h4 => by unfold Ax; rw [if_neg h, if_neg h2, if_neg h3, if_pos h4]
  have e5 : ¬ (Ae t path).2 ≠ 0 → Al t (Ae t path).1 ≠ 0 → ¬ G9 t (Ae t path).1 → Bk t (Ae t path).1 = false → Ax t path = ({ t with L := D4 En.path (Ae t path).1 t.L }, 0) := fun h h2 h3 h4 => by unfold Ax; rw [if_neg h, if_neg h2, if_neg h3, if_neg (by rw [h4]; simp)]
  repeat' ((conv => lhs; whnf); first | ((with_reducible refine A4 ?_); first | refine HA (hT.kp kQ htb hmb) (by omega) (by omega) hW.c1 hW.c2 _ (by omega) _ _ (by omega) (fun n3 m3 h3 g3 k3 => ?_) | refine HK (hT.kp kQ htb hmb) (by omega) (by omega) _ _ _ (by omega) (fun n4 m4 h4 g4 k4 => ?_) | refine HJ _ _ _ _ (by omega) (by decide) _ _ ?_ | refine HH _ _ (by omega) _ _ _ _ ?_ | (refine HW (hT.kp kQ htb hmb) (by omega) (by omega) hW _ (by omega) _ _ (by omega) ?_; rintro v5 n5 m5 h5 g5 k5 q5 q6; (rcases hwi : Bk t (Ae t path).1 with _ | _) <;> first | (have q7 := q5 hwi; subst q7) | (have q7 := q6 hwi; obtain ⟨b5, L5, r1, r2, rfl⟩ := q7))) | ((with_reducible refine fa0 hO ?_)) | ((with_reducible refine Br ?_); refine ldC hO aQ (by rfl) ?_) | ((with_reducible refine lvS hO ?_)) | ((with_reducible refine lvN hO ?_)) | ((with_reducible refine gtT hO (by omega) ?_)) | ((with_reducible refine gtF hO (by omega) ?_)) | ((with_reducible refine eqB hO (fun h => ?_) (fun h => ?_))) | ((with_reducible refine neB hO (fun h => ?_) (fun h => ?_))) | ((with_reducible refine Ly hO (fun h => ?_) (fun h => ?_))) | ((with_reducible refine atMd ?_); refine mdS hO aQ ?_) | ((with_reducible refine rcE hO (by kernel_rfl) rfl ?_)) | ((with_reducible refine atB ?_); refine brec (fun h => ?_) (fun h => ?_)))
  all_goals (conv => lhs; whnf)
  all_goals first
    | (rw [e1 (by assumption)] at hf; exact hf _ _ _ (by omega) (by omega) qQ ⟨rfl, hT.kp kQ htb hmb⟩)
    | (rw [e2 (by simp [*]) (by assumption)] at hf; exact hf _ _ _ (by omega) (by omega) qQ ⟨rfl, hT.kp kQ htb hmb⟩)
    | (rw [e3 (by simp [*]) (by assumption) (by first | exact .inl (by assumption) | exact .inr (.inl (by assumption)) | exact .inr (.inr (by assumption)))] at hf; exact hf _ _ _ (by omega) (by omega) qQ ⟨rfl, hT.kp kQ htb hmb⟩)
    | (rw [e4 (by simp [*]) (by assumption) (by rintro (h | h | h) <;> first | contradiction | simp_all) hwi] at hf; exact hf _ _ _ (by omega) (by omega) qQ ⟨rfl, hT.kp kQ htb hmb⟩)
    | (rw [e5 (by simp [*]) (by assumption) (by rintro (h | h | h) <;> first | contradiction | simp_all) hwi] at hf; exact hf _ _ _ (by omega) (by omega) qQ ⟨rfl, ⟨aQ, Ap (by omega)⟩⟩)
end Go.Proofs.YtjoakhpdajlhiaaGreatDoor.V2.S
namespace Go.Proofs.YtjoakhpdajlhiaaGreatDoor.V2.S
open Go
set_option maxRecDepth 100000
set_option maxHeartbeats 4000000
set_option linter.unusedVariables false
attribute [local irreducible] fN fO nM gM pM Phi.fn mp bl Au Be Bh pack
structure Ac where
  w : Int
  p : Bs
  d : Bs
  m : Nat
def wV : Int → FV
  | .ofNat x => .n .i64 x
  | .negSucc x => .z .i64 x
def acV (a : Ac) : List FV := [wV a.w, .s (pack a.p), .s (pack a.d), .n .u16 a.m]
def acs : List Ac → List FV
  | [] => []
  | a :: l => acV a ++ acs l
theorem acs_len : ∀ l : List Ac, (acs l).length = l.length * 4
  | [] => rfl
  | a :: l => by rw [acs, List.length_append, acs_len l, List.length_cons]; show 4 + _ = _; omega
theorem acs_app : ∀ a b : List Ac, acs (a ++ b) = acs a ++ acs b
  | [], b => rfl
  | x :: a, b => by rw [List.cons_append, acs, acs, acs_app a b, List.append_assoc]
theorem acs_one1 (a : Ac) : acs [a] = acV a := by rw [acs, acs, List.append_nil]
theorem kC_wV (w : Int) (x : FR) (y : List FV → FR) (z : FR) : kC x y z (wV w) = x := by cases w <;> rfl
theorem M5 : ∀ (l : List Ac) (r : FR), Ep (acs l) r = r
  | [], r => rfl
  | a :: l, r => by
    show kC (kC (kC (kC (Ep (acs l) r) _ _ _) _ _ _) _ _ _) _ _ (wV a.w) = r
    rw [kC_wV]; exact M5 l r
theorem acs_drop : ∀ {l : List Ac} {i : Nat} {a : Ac}, l[i]? = some a → (acs l).drop (i * 4) = acV a ++ acs (l.drop (i + 1))
  | [], i, a, h => by simp at h
  | b :: l, 0, a, h => by simp at h; subst h; rfl
  | b :: l, i + 1, a, h => by
    have h' : l[i]? = some a := by simpa using h
    have := acs_drop h'
    rw [acs, show (i + 1) * 4 = (acV b).length + i * 4 by show _ = 4 + _; omega, List.drop_length_add_append]; exact this
theorem acV_agg (a : Ac) : βV (Cm (αL (acV a))) = .agg (acV a) := by
  unfold acV
  rcases a with ⟨w | w, p, d, m⟩ <;> simp only [wV, αL, αV, Cm, Cv, βV, βL, As]
theorem lnAc {O : Oz} (hO : O = zO) {P : FR} {c : FV → FR} {n : Nat} {m : T FObj} {b i : Nat} {a : Ac} {l : List Ac} {e : TypeId} {t : Tl} (ha : Am m b (.cells (acs l) e t)) (hi : l[i]? = some a) (h : c (.agg (acV a)) = P) : O.ln 4 (.p b (i * 4)) ⟨n, m⟩ c = P := by
  subst hO
  show (gM ⟨n, m⟩ b fun ob => FObj.rec (motive := fun _ => FR) .bad (fun l _ _ => Ce (i * 4) l fun l => Bw 4 l fun l => Bj l 0 fun m => Bool.rec .bad (agF l c) (Nat.beq m 4 && Nat.ble 1 4)) (fun s _ _ => Bool.rec .bad (fN (Au s (i * 4) 4) fun m => c (.bs m)) (Nat.ble (Nat.add (i * 4) 4) (bl s))) (fun k l e t => slV ((αO (.ints k l e t)).readOk std (i * 4) 4, (αO (.ints k l e t)).read std (i * 4) 4) c) (fun _ => .bad) .bad ob) = P
  rw [Cx ha]
  show (Ce (i * 4) (acs l) fun l => Bw 4 l fun l => Bj l 0 fun m => (Bool.rec .bad (agF l c) (Nat.beq m 4 && Nat.ble 1 4) : FR)) = P
  rw [Cr, Ca, acs_drop hi, show (acV a ++ acs (l.drop (i + 1))).take 4 = acV a from rfl]
  rw [Bv]; show agF (acV a) c = P
  rw [L6 (acV_agg a)]; exact h
theorem lnA4 {O : Oz} (hO : O = zO) {P : FR} {c : FV → FR} {n : Nat} {m : T FObj} {b : Nat} {a : Ac} {l : List FV} {e : TypeId} {t : Tl} (ha : Am m b (.cells l e t)) (hl : l = acV a) (h : c (.agg (acV a)) = P) : O.ln 4 (.p b 0) ⟨n, m⟩ c = P := by
  subst hl; exact lnA hO ha rfl rfl (acV_agg a) h
theorem bsAc {O : Oz} (hO : O = zO) {P : FR} {k : KV} {n : Nat} {m : T FObj} {e : TypeId} {a : Ac} (hn : n < 1000000) (h : k (.sl n 0 1 1 true 4) ⟨n + 1, mp m n (.cells (acV a) e .exact)⟩ = P) : O.bs e 4 1 [.agg (acV a)] ⟨n, m⟩ k = P := by
  subst hO
  show slN (Bl std (.bslice e 4 1) (αL [.agg (acV a)])) ⟨n, m⟩ k = P
  have e1 : Bl std (.bslice e 4 1) (αL [.agg (acV a)]) = (true, fun b => αV (.sl b 0 1 1 true 4), αO (.cells (acV a) e .exact)) := by
    unfold acV
    rcases a with ⟨w | w, p, d, m⟩ <;> (generalize pack _ = s1; generalize pack _ = s2; rfl)
  rw [e1]
  show (fO (βO (αO (.cells (acV a) e .exact))) fun o => nM ⟨n, m⟩ o fun b σ => fV (βV (αV (.sl b 0 1 1 true 4))) fun w => k w σ) = P
  have e2 : βO (αO (.cells (acV a) e .exact)) = .cells (acV a) e .exact := by
    unfold acV
    rcases a with ⟨w | w, p, d, m⟩ <;> simp only [wV, αO, αL, αV, βO, βV, βL, As]
  rw [Gf, e2, Dl hn, Ge]; exact h
theorem stAg {O : Oz} (hO : O = zO) {P : FR} {k : KV} {N n : Nat} {m : T FObj} {b : Nat} {l r : List FV} {e : TypeId} (ha : Am m b (.cells l e .exact)) (hl : l.length = N) (hr : r.length = N) (h1 : ∀ x, Ep r x = x) (h : k (.tup []) ⟨n, mp m b (.cells r e .exact)⟩ = P) : O.st N (.p b 0) (.agg r) ⟨n, m⟩ k = P := by
  subst hO
  show (gM ⟨n, m⟩ b fun ob => woF ob N 0 (.agg r) fun ob => pM ⟨n, m⟩ b ob fun σ => k (.tup []) σ) = P
  rw [Cx ha]
  show (Ep r (Bj r 0 fun q => gT (Nat.beq q N) (Bw 0 l fun l1 => Ce (Nat.add 0 q) l fun l2 => Bj l1 q fun s1 => Bj l2 s1 fun s2 => Bj l 0 fun s0 => gT (Nat.beq s2 s0 && Nat.ble (Nat.add 0 q) s0) (Dn r l2 fun l2 => Dn l1 l2 fun l => (pM ⟨n, m⟩ b (.cells l e .exact) fun σ => k (.tup []) σ))))) = P
  rw [h1]
  simp only [Bv, Ca, Cr, Dk]
  have e1 : Nat.add 0 (0 + r.length) = N := by show 0 + (0 + r.length) = N; omega
  rw [e1, gTt (beqT' (by omega)), gTt (by rw [List.take_zero, List.length_drop, hl, A8 (by omega), beqT' (by simp; omega)]; rfl), pM_mp, List.take_zero, List.nil_append, List.drop_of_length_le (by omega), List.append_nil]
  exact h
theorem stAc {O : Oz} (hO : O = zO) {P : FR} {k : KV} {n : Nat} {m : T FObj} {b : Nat} {a : Ac} {x0 x1 x2 x3 : FV} {e : TypeId} (ha : Am m b (.cells [x0, x1, x2, x3] e .exact)) (h : k (.tup []) ⟨n, mp m b (.cells (acV a) e .exact)⟩ = P) : O.st 4 (.p b 0) (.agg (acV a)) ⟨n, m⟩ k = P :=
  stAg hO ha rfl rfl (fun x => by have h1 := M5 [a] x; rw [acs_one1] at h1; exact h1) h
theorem acV_one (a : Ac) (x : FR) : Ep (acV a) x = x := by have h1 := M5 [a] x; rw [acs_one1] at h1; exact h1
theorem ofQ_acs (a : Ac) (l : List Ac) (e : TypeId) (t : Tl) (c : FObj → FR) : ofQ (acs (a :: l)) e t c = c (.cells (acs (a :: l)) e t) := by
  rcases a with ⟨w | w, p, d, m⟩ <;> rfl
theorem ofQ_acs2 (l : List Ac) (a : Ac) (e : TypeId) (t : Tl) (c : FObj → FR) : ofQ (acs (l ++ [a])) e t c = c (.cells (acs (l ++ [a])) e t) := by
  cases l with
  | nil => exact ofQ_acs a [] e t c
  | cons x l => exact ofQ_acs x _ e t c
theorem acs_cat (l : List Ac) (a : Ac) : ((acs l).drop 0).take (l.length * 4) ++ ((acV a).drop 0).take (1 * 4) = acs (l ++ [a]) := by
  rw [acs_app, acs_one1, List.drop_zero, List.drop_zero, List.take_of_length_le (by rw [acs_len]; exact Nat.le_refl _)]; rfl
theorem apAc {O : Oz} (hO : O = zO) {P : FR} {k : KV} {n : Nat} {m : T FObj} {e e' : TypeId} {tl tl' : Tl} {out : List Ac} {a : Ac} {b b' Kk K' : Nat} {x' : Bool} (ha : Am m b (.cells (acs out) e tl)) (ha' : Am m b' (.cells (acV a) e' tl')) (ht : ∀ r, gW tl r = r) (hb : out.length ≤ 1000) (hn : n < 1000000) (he : Nat.beq e e = true)
    (h : k (.sl n 0 (out.length + 1) (out.length + 1) false 4) ⟨n + 1, mp (mp m b .dead) n (.cells (acs (out ++ [a])) e .more)⟩ = P) : O.ap e false 4 (.sl b 0 out.length Kk false 4) (.sl b' 0 1 K' x' 4) ⟨n, m⟩ k = P := by
  refine apCC hO ha ha' (by rw [acs_len]; omega) (by show 0 + 1 * 4 ≤ 4; omega) (M5 _) (acV_one _) (by omega) he ht (by omega) hn (fun c => ?_) ?_
  · rw [acs_cat]; exact ofQ_acs2 _ _ _ _ _
  · rw [acs_cat]; exact h
theorem apAn {O : Oz} (hO : O = zO) {P : FR} {k : KV} {n : Nat} {m : T FObj} {e e' : TypeId} {tl' : Tl} {a : Ac} {b' K' : Nat} {x' : Bool} (ha' : Am m b' (.cells (acV a) e' tl')) (hn : n < 1000000)
    (h : k (.sl n 0 1 1 false 4) ⟨n + 1, mp m n (.cells (acs ([] ++ [a])) e .more)⟩ = P) : O.ap e false 4 (.o .sl) (.sl b' 0 1 K' x' 4) ⟨n, m⟩ k = P := by
  refine apNC hO ha' (by show 0 + 1 * 4 ≤ 4; omega) (acV_one _) (by omega) (by omega) hn (fun c => ?_) ?_
  · exact ofQ_acs2 [] a e _ c
  · exact h
def RowA (m : T FObj) (n : Nat) (v : FV) (l : List Ac) : Prop := (l = [] ∧ v = .o .sl) ∨ ∃ b Kk x e tl, v = .sl b 0 l.length Kk x 4 ∧ b < n ∧ Am m b (.cells (acs l) e tl)
theorem RowA.kp {m m' : T FObj} {n n' : Nat} {v : FV} {l : List Ac} (h : RowA m n v l) (hk : Kp n m m') (hn : n ≤ n') : RowA m' n' v l := by
  rcases h with h | ⟨b, Kk, x, e, tl, h1, h2, h3⟩
  · exact .inl h
  · exact .inr ⟨b, Kk, x, e, tl, h1, by omega, hk _ _ h2 h3⟩
def FewOk (o : List Ac) : Prop := o.length ≤ 40 ∧ ∀ a ∈ o, a.p.length ≤ 300 ∧ a.d.length ≤ 9000
def ActsAt (m : T FObj) (lo hi : Nat) (v : FV) (o : List Ac) : Prop := (o = [] ∧ v = .o .sl) ∨ ∃ b Kk, v = .sl b 0 o.length Kk false 4 ∧ lo ≤ b ∧ b < hi ∧ Am m b (.cells (acs o) 30 .more)
end Go.Proofs.YtjoakhpdajlhiaaGreatDoor.V2.S
