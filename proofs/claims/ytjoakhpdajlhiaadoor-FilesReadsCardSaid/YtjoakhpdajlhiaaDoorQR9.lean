/- Part 9 of the proof: texts of the proof. -/
import Derived.Test.YtjoakhpdajlhiaaDoorQR8
import Derived.Test.YtjoakhpdajlhiaaDoorCards
import Derived.Test.YtjoakhpdajlhiaaDoorTie
import Derived.LaidMore
import Derived.ProofKit
import Derived.OpenShut
import Derived.Carry
import Derived.Deep.DeepHandedRow
import Derived.Deep.Strs
import Derived.Deep.Matrix
import Derived.Lib.LaidTab
import Derived.Stop.LaidErr
import Derived.ChangeSlices
namespace Go.Proofs.YtjoakhpdajlhiaaDoor.V2.S
open Go
def odd (c : Nat) : Bool := decide (c < 32) || decide (c = 127) || decide (c = 47)
def nameB (s : Bs) : Bool := decide (s ≠ []) && decide (s ≠ [46]) && decide (s ≠ [46, 46]) && decide (s.length ≤ 32) && !(s.any fun b => odd b.toNat)
def hasPre (s p : Bs) : Bool := decide (p.length ≤ s.length) && decide (s.take p.length = p)
def hasSuf (s p : Bs) : Bool := decide (p.length ≤ s.length) && decide (s.drop (s.length - p.length) = p)
def splitB : Bs → List Bs
  | [] => [[]]
  | c :: l => if c = 47 then [] :: splitB l else match splitB l with
    | [] => [[c]]
    | p :: ps => (c :: p) :: ps
structure En where
  path : Bs
  dir : Bool
  data : Bs
structure Tr where
  L : List En
  cwd : Bs
def entV (e : En) : FV := .agg [.s (pack e.path), .b e.dir, .s (pack e.data)]
def look (t : Tr) (p : Bs) : Option En := lookM En.path p t.L
def kindG (t : Tr) (p : Bs) : Nat := if p = [47] then 1 else match look t p with
  | some e => if e.dir then 1 else 2
  | none => 0
def lastS : Bs → Nat
  | [] => 0
  | c :: l => if lastS l = 0 then (if c = 47 then 1 else 0) else lastS l + 1
def parG (p : Bs) : Bs := p.take (max (lastS p - 1) 1)
def trimG (d : Bs) : Bs := if hasSuf d [47] then d.take (d.length - 1) else d
def joinG (d n : Bs) : Bs := trimG d ++ [47] ++ n
def stepG (t : Tr) (at_ part : Bs) : Nat ⊕ Bs :=
  if part = [] ∨ part = [46] then .inr at_
  else if part ≠ [46, 46] ∧ nameB part = false then .inl 23
  else if kindG t at_ = 0 then .inl 6
  else if kindG t at_ = 2 then .inl 5
  else if part = [46, 46] then .inr (parG at_)
  else .inr (joinG at_ part)
def loopG (t : Tr) : Bs → List Bs → Nat ⊕ Bs
  | a, [] => .inr a
  | a, p :: ps => match stepG t a p with
    | .inl e => .inl e
    | .inr b => loopG t b ps
def absG (t : Tr) (path : Bs) : Bs × Nat :=
  if path = [] ∨ 256 < path.length then ([], 23)
  else match loopG t (if hasPre path [47] then [47] else t.cwd) (splitB path) with
    | .inl e => ([], e)
    | .inr a => (a, 0)
def isG (t : Tr) (path : Bs) (kind : Nat) : Bs × Nat :=
  if (absG t path).2 ≠ 0 then ([], (absG t path).2) else if kindG t (absG t path).1 = kind then ((absG t path).1, 0) else if kindG t (absG t path).1 = 0 then ([], 6) else ([], 5)
def dataG (t : Tr) (p : Bs) : Bs := match look t p with
  | some x => x.data
  | none => []
def readG (t : Tr) (path : Bs) : Bs × Nat := if (isG t path 2).2 ≠ 0 then ([], (isG t path 2).2) else (dataG t (isG t path 2).1, 0)
def sizesG : List En → Nat
  | [] => 0
  | e :: l => e.path.length + e.data.length + sizesG l
def manyG (t : Tr) (x : En) : Nat := match look t x.path with
  | some _ => t.L.length
  | none => t.L.length + 1
def bytesG (t : Tr) (x : En) : Nat := match look t x.path with
  | some o => sizesG t.L - o.data.length
  | none => sizesG t.L + x.path.length
def putG (t : Tr) (x : En) : Tr × Nat :=
  if 256 < x.path.length ∨ 8192 < x.data.length then (t, 3)
  else if 128 < manyG t x ∨ 32768 < bytesG t x + x.data.length then (t, 7)
  else ({ t with L := setM En.path x t.L }, 0)
def writeG (t : Tr) (path data : Bs) (more : Bool) : Tr × Nat :=
  if (absG t path).2 ≠ 0 then (t, (absG t path).2) else if kindG t (absG t path).1 = 1 then (t, 5) else putG t ⟨(absG t path).1, false, if more then dataG t (absG t path).1 ++ data else data⟩
def makeG (t : Tr) (path : Bs) : Tr × Nat :=
  if (absG t path).2 ≠ 0 then (t, (absG t path).2) else if kindG t (absG t path).1 ≠ 0 then (t, 9) else putG t ⟨(absG t path).1, true, []⟩
def cdG (t : Tr) (path : Bs) : Tr × Nat := if (isG t path 1).2 ≠ 0 then (t, (isG t path 1).2) else ({ t with cwd := (isG t path 1).1 }, 0)
def newG : Tr := ⟨[], [47]⟩
structure WfT (t : Tr) : Prop where
  nd : (t.L.map En.path).Nodup
  len : t.L.length ≤ 128
  sz : sizesG t.L ≤ 32768
  hd : ∀ e ∈ t.L, e.path.head? = some 47
  pl : ∀ e ∈ t.L, e.path.length ≤ 256 ∧ e.data.length ≤ 8192
  hc : t.cwd.head? = some 47
  c1 : 1 ≤ t.cwd.length
  c2 : t.cwd.length ≤ 256
theorem head_parG {a : Bs} (h : a.head? = some 47) : (parG a).head? = some 47 := by
  unfold parG
  cases a with
  | nil => cases h
  | cons c l =>
    obtain ⟨q, hq⟩ : ∃ q, max (lastS (c :: l) - 1) 1 = q + 1 := ⟨max (lastS (c :: l) - 1) 1 - 1, by omega⟩
    rw [hq, List.take_succ_cons]; exact h
theorem head_joinG {a b : Bs} (h : a.head? = some 47) : (joinG a b).head? = some 47 := by
  unfold joinG trimG
  split
  · cases a with
    | nil => cases h
    | cons c l =>
      cases l with
      | nil => rfl
      | cons d l => simpa using h
  · cases a with
    | nil => cases h
    | cons c l => simpa using h
theorem stepG_head {t : Tr} {a b p : Bs} (ha : a.head? = some 47) (h : stepG t a p = .inr b) : b.head? = some 47 := by
  unfold stepG at h
  split at h
  · cases h; exact ha
  split at h
  · cases h
  split at h
  · cases h
  split at h
  · cases h
  split at h
  · cases h; exact head_parG ha
  · cases h; exact head_joinG ha
theorem stepG_ne0 {t : Tr} {a p : Bs} : stepG t a p ≠ .inl 0 := by
  unfold stepG
  split
  · exact fun h => by cases h
  split
  · exact fun h => by cases h
  split
  · exact fun h => by cases h
  split
  · exact fun h => by cases h
  split <;> exact fun h => by cases h
theorem loopG_ne0 {t : Tr} : ∀ {ps : List Bs} {a : Bs}, loopG t a ps ≠ .inl 0
  | [], a => fun h => by unfold loopG at h; cases h
  | p :: ps, a => by
    unfold loopG
    cases hs : stepG t a p with
    | inl e => exact fun h => by cases h; exact stepG_ne0 hs
    | inr c => exact loopG_ne0
theorem loopG_head {t : Tr} : ∀ {ps : List Bs} {a b : Bs}, a.head? = some 47 → loopG t a ps = .inr b → b.head? = some 47
  | [], a, b, ha, h => by unfold loopG at h; cases h; exact ha
  | p :: ps, a, b, ha, h => by
    unfold loopG at h
    cases hs : stepG t a p with
    | inl e => rw [hs] at h; cases h
    | inr c => rw [hs] at h; exact loopG_head (stepG_head ha hs) h
theorem absG_head {t : Tr} {path : Bs} (hc : t.cwd.head? = some 47) (h : (absG t path).2 = 0) : (absG t path).1.head? = some 47 := by
  unfold absG at h ⊢
  split
  · rename_i hh; rw [if_pos hh] at h; cases h
  · rename_i hh
    rw [if_neg hh] at h
    cases hl : loopG t (if hasPre path [47] then [47] else t.cwd) (splitB path) with
    | inl e => 
      rw [hl] at h
      have : e = 0 := h
      exact absurd hl (by subst this; exact loopG_ne0)
    | inr a => exact loopG_head (by split; rfl; exact hc) hl
theorem look_sizes : ∀ {L : List En} {p : Bs} {a : En}, lookM En.path p L = some a → a.path.length + a.data.length ≤ sizesG L ∧ a.path = p
  | [], p, a, h => by cases h
  | b :: L, p, a, h => by
    unfold lookM at h
    unfold sizesG
    by_cases hb : b.path = p
    · rw [if_pos hb] at h; cases h; exact ⟨by omega, hb⟩
    · rw [if_neg hb] at h
      obtain ⟨h1, h2⟩ := look_sizes h
      exact ⟨by omega, h2⟩
structure TreeAt (m : T FObj) (tb mb TT : Nat) (t : Tr) : Prop where
  s : Am m tb (.cells [.m mb, .s (pack t.cwd)] TT .exact)
  m : Am m mb (.map (t.L.map fun a => (.s (pack (En.path a)), entV a)))
theorem TreeAt.kq {xs : List Nat} {n : Nat} {m m' : T FObj} {tb mb TT : Nat} {t : Tr} (h : TreeAt m tb mb TT t) (hk : Kq xs n m m') (h1 : tb < n) (h2 : mb < n) (h3 : ∀ x ∈ xs, tb ≠ x) (h4 : ∀ x ∈ xs, mb ≠ x) : TreeAt m' tb mb TT t := ⟨hk _ _ h1 h3 h.s, hk _ _ h2 h4 h.m⟩
theorem TreeAt.kp {n : Nat} {m m' : T FObj} {tb mb TT : Nat} {t : Tr} (h : TreeAt m tb mb TT t) (hk : Kp n m m') (h1 : tb < n) (h2 : mb < n) : TreeAt m' tb mb TT t := ⟨hk _ _ h1 h.s, hk _ _ h2 h.m⟩
/-! Plain facts. -/
theorem any_bt {f : Nat → Bool} : ∀ {l : Bs}, (l.any fun b => f b.toNat) = true ↔ ∃ i, i < l.length ∧ f (bt l i) = true
  | [] => by simp
  | c :: l => by
    rw [List.any_cons, Bool.or_eq_true, any_bt (l := l)]
    constructor
    · rintro (h | ⟨i, hi, h⟩)
      · exact ⟨0, by simp, h⟩
      · exact ⟨i + 1, by simpa using hi, by simpa [bt] using h⟩
    · rintro ⟨i, hi, h⟩
      cases i with
      | zero => exact .inl h
      | succ i => exact .inr ⟨i, by simpa using hi, by simpa [bt] using h⟩
theorem any_bt_f {f : Nat → Bool} {l : Bs} (h : ∀ i, i < l.length → f (bt l i) = false) : (l.any fun b => f b.toNat) = false := by
  cases hb : l.any fun b => f b.toNat with
  | false => rfl
  | true =>
    obtain ⟨i, hi, h1⟩ := any_bt.1 hb
    rw [h i hi] at h1; cases h1
theorem bt_cons (c : UInt8) (l : Bs) (i : Nat) : bt (c :: l) (i + 1) = bt l i := by simp [bt]
theorem lastS_le : ∀ l : Bs, lastS l ≤ l.length
  | [] => Nat.le_refl _
  | c :: l => by
    have := lastS_le l
    unfold lastS
    simp only [List.length_cons]
    split
    · split <;> omega
    · omega
theorem lastS_none : ∀ {l : Bs}, (∀ i, i < l.length → bt l i ≠ 47) → lastS l = 0
  | [], _ => rfl
  | c :: l, h => by
    unfold lastS
    rw [if_pos (lastS_none fun i hi => by have := h (i + 1) (by simpa using hi); rwa [bt_cons] at this)]
    rw [if_neg]
    intro hc
    exact h 0 (by simp) (by subst hc; rfl)
theorem lastS_some : ∀ {l : Bs} {i : Nat}, i < l.length → bt l i = 47 → (∀ j, i < j → j < l.length → bt l j ≠ 47) → lastS l = i + 1
  | [], i, hi, _, _ => by simp at hi
  | c :: l, 0, hi, hb, h => by
    unfold lastS
    rw [if_pos (lastS_none fun j hj => by have := h (j + 1) (by omega) (by simpa using hj); rwa [bt_cons] at this)]
    rw [if_pos]
    have hb : c.toNat = 47 := hb
    exact UInt8.toNat_inj.1 hb
  | c :: l, i + 1, hi, hb, h => by
    unfold lastS
    have := lastS_some (l := l) (i := i) (by simpa using hi) (by rwa [bt_cons] at hb) (fun j h1 h2 => by have := h (j + 1) (by omega) (by simpa using h2); rwa [bt_cons] at this)
    rw [this, if_neg (by omega)]
def iv : Nat → FV
  | 0 => .z .i64 0
  | j + 1 => .n .i64 j
end Go.Proofs.YtjoakhpdajlhiaaDoor.V2.S
namespace Go.Proofs.YtjoakhpdajlhiaaDoor.V2.S
open Go
set_option linter.unusedVariables false
noncomputable section
theorem qz {n : Nat} {f : Func} (nt np : Nat) (kp : List Nat) {q : Phi → HF} (h : Tryd.prog.funcs[n]? = some f) (hb : okZ f = true) (hq : thrF 1000000 (drOf nt kp) np (eZ f) = q) (hf : Nat.blt n 1048576 = true := by rfl) : QeOk ⟨n, eZ f, q⟩ := qe_of (nt := nt) (np := np) (kp := kp) (eokZ h hb) hq hf
def vC (r : Rd) : Rs := v1 r
def p9 (O : Oz) : Phi → HF := fnQ (aLet fun v1 => (aLet fun v2 => (aEnd (cLet (oCallS 28 [(rdV v1)]) fun v3 => (cSeq (cCond (rdV v3) cRet cSkip) (cLet (o1 ncF (rdV v1)) fun v4 => (cLet (o1 (O.fa 0) (rdV v4)) fun v5 => (cLet (m1 O.ld (rdV v5)) fun v6 => (cLet (oCallS 30 [(rdV v6)]) fun v7 => (cLet (oCallS 29 [(rdV v7)]) fun v8 => (cLet (o1 O.lv (rdV v8)) fun v9 => (cWr X15 (.n .i64 0) (cSeq (cBlk 0 (O.lp 1000000 (cLet (o2 O.lt R15 (rdV v9)) fun v10 => (cSeq (cCond (rdV v10) cSkip (cExit 0)) (cSeq (cBlk 1 (cLet (o2 (O.ix 1) (rdV v8) R15) fun v11 => (cLet (m1 O.ld (rdV v11)) fun v12 => (cLet (o1 ncF (rdV v1)) fun v13 => (cLet (o1 (O.fa 0) (rdV v13)) fun v14 => (cLet (m1 O.ld (rdV v14)) fun v15 => (cLet (n2 (O.lk true [.str] false (.agg [.s (pack []), .b false, .s (pack [])])) (rdV v15) (rdV v12)) fun v16 => (cLet (oCall (rdV v2) [(rdV v16)]) fun v17 => (cLet (o1 notF (rdV v17)) fun v18 => (cSeq (cCond (rdV v18) cRet cSkip) cSkip)))))))))) (cLet (o2 O.ad R15 (rdV (.n .i64 1))) fun v19 => (cWr X15 v19 cSkip))))))) cSkip)))))))))) [])))
theorem k9 : QeOk ⟨9, eZ Tryd.f9, p9 zO⟩ := qz 29 2 [15] Tryd.func9 (by kernel_rfl) (by kernel_rfl)
def p11 (O : Oz) : Phi → HF := fnQ (aLet fun v1 => (aEnd (cWr X2 (.s (pack [])) (cLet (oCallS 28 [(rdV v1)]) fun v2 => (cSeq (cCond (rdV v2) (cWr X2 (.s (pack [])) cRet) cSkip) (cLet (o1 ncF (rdV v1)) fun v3 => (cLet (o1 (O.fa 1) (rdV v3)) fun v4 => (cLet (m1 O.ld (rdV v4)) fun v5 => (cWr X2 v5 cRet))))))) [vT R2]))
theorem k11 : QeOk ⟨11, eZ Tryd.f11, p11 zO⟩ := qz 9 1 [2] Tryd.func11 (by kernel_rfl) (by kernel_rfl)
def p12 (O : Oz) : Phi → HF := fnQ (aLet fun v1 => (aLet fun v2 => (aEnd (cWr X4 (.s (pack [])) (cWr X5 (.n .i64 0) (cSeq (cBlk 0 (cLet (oCallS 28 [(rdV v1)]) fun v3 => (cSeq (cCond (rdV v3) (cWr X4 (.s (pack [])) (cWr X5 (.n .i64 2) cRet)) (cLet (o2 O.eq (rdV v2) (rdV (.s (pack [])))) fun v4 => (cLet (oG false (rdV v4) (oV (rdV v2))) fun v5 => (cLet (oG false (rdV v4) (o1 O.ls (rdV v5))) fun v6 => (cLet (oG false (rdV v4) (o2 O.gt (rdV v6) (rdV (.n .i64 256)))) fun v7 => (cLet (o3 pkF (rdV v4) (rdV (.b true)) (rdV v7)) fun v8 => (cSeq (cCond (rdV v8) (cWr X4 (.s (pack [])) (cWr X5 (.n .i64 23) cRet)) cSkip) cSkip))))))) cSkip))) (cLet (o1 ncF (rdV v1)) fun v9 => (cLet (o1 (O.fa 1) (rdV v9)) fun v10 => (cLet (m1 O.ld (rdV v10)) fun v11 => (cWr X6 v11 (cLet (oCallS 33 [(rdV v2), (rdV (.s (pack [47])))]) fun v12 => (cSeq (cCond (rdV v12) (cWr X6 (.s (pack [47])) cSkip) cSkip) (cLet (oCallS 34 [(rdV v2), (rdV (.s (pack [47])))]) fun v13 => (cLet (o1 O.lv (rdV v13)) fun v14 => (cWr X30 (.n .i64 0) (cSeq (cBlk 1 (O.lp 1000000 (cLet (o2 O.lt R30 (rdV v14)) fun v15 => (cSeq (cCond (rdV v15) cSkip (cExit 1)) (cSeq (cBlk 2 (cLet (o2 (O.ix 1) (rdV v13) R30) fun v16 => (cLet (m1 O.ld (rdV v16)) fun v17 => (cLet (oV R6) fun v18 => (cLet (oCallS 35 [(rdV v1), (rdV v18)]) fun v19 => (cSeq (cBlk 3 (cLet (o2 O.eq (rdV v17) (rdV (.s (pack [])))) fun v20 => (cLet (oG false (rdV v20) (oV (rdV v17))) fun v21 => (cLet (oG false (rdV v20) (o2 O.eq (rdV v21) (rdV (.s (pack [46]))))) fun v22 => (cLet (o3 pkF (rdV v20) (rdV (.b true)) (rdV v22)) fun v23 => (cSeq (cCond (rdV v23) (cExit 2) (cLet (o2 O.ne (rdV v17) (rdV (.s (pack [46, 46])))) fun v24 => (cLet (oG true (rdV v24) (oV (rdV v17))) fun v25 => (cLet (oG true (rdV v24) (oCallS 36 [(rdV v25)])) fun v26 => (cLet (oG true (rdV v24) (o1 notF (rdV v26))) fun v27 => (cLet (o3 pkF (rdV v24) (rdV v27) (rdV (.b false))) fun v28 => (cSeq (cCond (rdV v28) (cWr X4 (.s (pack [])) (cWr X5 (.n .i64 23) cRet)) (cLet (o2 O.eq (rdV v19) (rdV (.n .i64 0))) fun v29 => (cSeq (cCond (rdV v29) (cWr X4 (.s (pack [])) (cWr X5 (.n .i64 6) cRet)) (cLet (o2 O.eq (rdV v19) (rdV (.n .i64 2))) fun v30 => (cSeq (cCond (rdV v30) (cWr X4 (.s (pack [])) (cWr X5 (.n .i64 5) cRet)) (cLet (o2 O.eq (rdV v17) (rdV (.s (pack [46, 46])))) fun v31 => (cSeq (cCond (rdV v31) (cLet (oV R6) fun v32 => (cLet (oCallS 37 [(rdV v32)]) fun v33 => (cWr X6 v33 cSkip))) (cLet (oV R6) fun v34 => (cLet (oCallS 38 [(rdV v34), (rdV v17)]) fun v35 => (cWr X6 v35 cSkip)))) cSkip))) cSkip))) cSkip))) cSkip))))))) cSkip)))))) cSkip)))))) (cLet (o2 O.ad R30 (rdV (.n .i64 1))) fun v36 => (cWr X30 v36 cSkip))))))) (cLet (oV R6) fun v37 => (cWr X4 v37 (cWr X5 (.n .i64 0) cRet)))))))))))))))) [vT R4, vT R5])))
theorem k12 : QeOk ⟨12, eZ Tryd.f12, p12 zO⟩ := qz 68 2 [4, 5, 6, 30] Tryd.func12 (by kernel_rfl) (by kernel_rfl)
def p13 (O : Oz) : Phi → HF := fnQ (aLet fun v1 => (aLet fun v2 => (aLetW X2 fun v3 => (aLet fun v4 => (aEnd (cWr X8 (.n .i64 0) (cLet (oCallS 12 [(rdV v1), (rdV v2)]) fun v5 => (cLet (o1 (exG 0) (rdV v5)) fun v6 => (cLet (o1 (exG 1) (rdV v5)) fun v7 => (cSeq (cBlk 0 (cLet (o2 O.ne (rdV v7) (rdV (.n .i64 0))) fun v8 => (cSeq (cCond (rdV v8) (cWr X8 v7 cRet) (cLet (oCallS 35 [(rdV v1), (rdV v6)]) fun v9 => (cLet (o2 O.eq (rdV v9) (rdV (.n .i64 1))) fun v10 => (cSeq (cCond (rdV v10) (cWr X8 (.n .i64 5) cRet) (cSeq (cCond (rdV v4) (cLet (o1 ncF (rdV v1)) fun v11 => (cLet (o1 (O.fa 0) (rdV v11)) fun v12 => (cLet (m1 O.ld (rdV v12)) fun v13 => (cLet (n2 (O.lk true [.str] false (.agg [.s (pack []), .b false, .s (pack [])])) (rdV v13) (rdV v6)) fun v14 => (cLet (o1 (f1F 2) (rdV v14)) fun v15 => (cLet (o2 O.ad (rdV v15) (rdV v3)) fun v16 => (cWr X2 v16 cSkip))))))) cSkip) cSkip)) cSkip)))) cSkip))) (cLet (oV R2) fun v17 => (cLet (nL (O.bu [.s (pack []), .b false, .s (pack [])] [(.str []), (.bool false), (.str [])] [(0, 1), (2, 1)]) [(rdV v6), (rdV v17)]) fun v18 => (cLet (oCallS 39 [(rdV v1), (rdV v18)]) fun v19 => (cWr X8 v19 cRet))))))))) [vT R8])))))
theorem k13 : QeOk ⟨13, eZ Tryd.f13, p13 zO⟩ := qz 42 4 [2, 8] Tryd.func13 (by kernel_rfl) (by kernel_rfl)
def p14 (O : Oz) : Phi → HF := fnQ (aLet fun v1 => (aLet fun v2 => (aEnd (cWr X4 (.n .i64 0) (cLet (oCallS 12 [(rdV v1), (rdV v2)]) fun v3 => (cLet (o1 (exG 0) (rdV v3)) fun v4 => (cLet (o1 (exG 1) (rdV v3)) fun v5 => (cSeq (cBlk 0 (cLet (o2 O.ne (rdV v5) (rdV (.n .i64 0))) fun v6 => (cSeq (cCond (rdV v6) (cWr X4 v5 cRet) (cLet (oCallS 35 [(rdV v1), (rdV v4)]) fun v7 => (cLet (o2 O.ne (rdV v7) (rdV (.n .i64 0))) fun v8 => (cSeq (cCond (rdV v8) (cWr X4 (.n .i64 9) cRet) cSkip) cSkip)))) cSkip))) (cLet (nL (O.bu [.s (pack []), .b false, .s (pack [])] [(.str []), (.bool false), (.str [])] [(0, 1), (1, 1)]) [(rdV v4), (rdV (.b true))]) fun v9 => (cLet (oCallS 39 [(rdV v1), (rdV v9)]) fun v10 => (cWr X4 v10 cRet)))))))) [vT R4])))
theorem k14 : QeOk ⟨14, eZ Tryd.f14, p14 zO⟩ := qz 26 2 [4] Tryd.func14 (by kernel_rfl) (by kernel_rfl)
def p16 (O : Oz) : Phi → HF := fnQ (aLet fun v1 => (aLet fun v2 => (aEnd (cWr X4 (.n .i64 0) (cLet (oCallS 41 [(rdV v1), (rdV v2), (rdV (.n .i64 1))]) fun v3 => (cLet (o1 (exG 0) (rdV v3)) fun v4 => (cLet (o1 (exG 1) (rdV v3)) fun v5 => (cLet (o2 O.eq (rdV v5) (rdV (.n .i64 0))) fun v6 => (cSeq (cCond (rdV v6) (cLet (o1 ncF (rdV v1)) fun v7 => (cLet (o1 (O.fa 1) (rdV v7)) fun v8 => (cDo (n2 (O.st 1) (rdV v8) (rdV v4)) cSkip))) cSkip) (cWr X4 v5 cRet))))))) [vT R4])))
theorem k16 : QeOk ⟨16, eZ Tryd.f16, p16 zO⟩ := qz 20 2 [4] Tryd.func16 (by kernel_rfl) (by kernel_rfl)
def p18 (O : Oz) : Phi → HF := fnQ (aEnd (cWr X0 (.b false) (cLet (oCallS 26 []) fun v1 => (cLet (oCallS 14 [(rdV v1), (rdV (.s (pack [97])))]) fun v2 => (cLet (oCallS 13 [(rdV v1), (rdV (.s (pack [97, 47, 46, 46, 47, 97, 47, 46, 47, 102]))), (rdV (.s (pack [120]))), (rdV (.b false))]) fun v3 => (cLet (oCallS 16 [(rdV v1), (rdV (.s (pack [47, 97])))]) fun v4 => (cLet (oCallS 20 [(rdV v1), (rdV (.s (pack [102])))]) fun v5 => (cLet (o1 (exG 0) (rdV v5)) fun v6 => (cLet (o1 (exG 1) (rdV v5)) fun v7 => (cLet (o2 O.eq (rdV v2) (rdV (.n .i64 0))) fun v8 => (cLet (oG true (rdV v8) (oV (rdV v3))) fun v9 => (cLet (oG true (rdV v8) (o2 O.eq (rdV v9) (rdV (.n .i64 0)))) fun v10 => (cLet (o3 pkF (rdV v8) (rdV v10) (rdV (.b false))) fun v11 => (cLet (oG true (rdV v11) (oV (rdV v4))) fun v12 => (cLet (oG true (rdV v11) (o2 O.eq (rdV v12) (rdV (.n .i64 0)))) fun v13 => (cLet (o3 pkF (rdV v11) (rdV v13) (rdV (.b false))) fun v14 => (cLet (oG true (rdV v14) (oV (rdV v6))) fun v15 => (cLet (oG true (rdV v14) (o2 O.eq (rdV v15) (rdV (.s (pack [120]))))) fun v16 => (cLet (o3 pkF (rdV v14) (rdV v16) (rdV (.b false))) fun v17 => (cLet (oG true (rdV v17) (oV (rdV v7))) fun v18 => (cLet (oG true (rdV v17) (o2 O.eq (rdV v18) (rdV (.n .i64 0)))) fun v19 => (cLet (o3 pkF (rdV v17) (rdV v19) (rdV (.b false))) fun v20 => (cLet (oG true (rdV v20) (oV (rdV v1))) fun v21 => (cLet (oG true (rdV v20) (oCallS 11 [(rdV v21)])) fun v22 => (cLet (oG true (rdV v20) (o2 O.eq (rdV v22) (rdV (.s (pack [47, 97]))))) fun v23 => (cLet (o3 pkF (rdV v20) (rdV v23) (rdV (.b false))) fun v24 => (cWr X0 v24 cRet)))))))))))))))))))))))))) [vT R0])
theorem k18 : QeOk ⟨18, eZ Tryd.f18, p18 zO⟩ := qz 42 0 [0] Tryd.func18 (by kernel_rfl) (by kernel_rfl)
def p20 (O : Oz) : Phi → HF := fnQ (aLet fun v1 => (aLet fun v2 => (aEnd (cWr X4 (.s (pack [])) (cWr X5 (.n .i64 0) (cLet (oCallS 41 [(rdV v1), (rdV v2), (rdV (.n .i64 2))]) fun v3 => (cLet (o1 (exG 0) (rdV v3)) fun v4 => (cLet (o1 (exG 1) (rdV v3)) fun v5 => (cLet (o2 O.ne (rdV v5) (rdV (.n .i64 0))) fun v6 => (cSeq (cCond (rdV v6) (cWr X4 (.s (pack [])) (cWr X5 v5 cRet)) cSkip) (cLet (o1 ncF (rdV v1)) fun v7 => (cLet (o1 (O.fa 0) (rdV v7)) fun v8 => (cLet (m1 O.ld (rdV v8)) fun v9 => (cLet (n2 (O.lk true [.str] false (.agg [.s (pack []), .b false, .s (pack [])])) (rdV v9) (rdV v4)) fun v10 => (cLet (o1 (f1F 2) (rdV v10)) fun v11 => (cWr X4 v11 (cWr X5 (.n .i64 0) cRet)))))))))))))) [vT R4, vT R5])))
theorem k20 : QeOk ⟨20, eZ Tryd.f20, p20 zO⟩ := qz 24 2 [4, 5] Tryd.func20 (by kernel_rfl) (by kernel_rfl)
def p26 (O : Oz) : Phi → HF := fnQ (aEnd (cWr X0 (.o .ptr) (cLet (nL O.mm []) fun v1 => (cLet (nL (O.bu [.o .map, .s (pack [])] [.nilmap, (.str [])] [(0, 1), (1, 1)]) [(rdV v1), (rdV (.s (pack [47])))]) fun v2 => (cLet (n1 (O.bx 65) (rdV v2)) fun v3 => (cWr X0 v3 cRet))))) [vT R0])
theorem k26 : QeOk ⟨26, eZ Tryd.f26, p26 zO⟩ := qz 4 0 [0] Tryd.func26 (by kernel_rfl) (by kernel_rfl)
def p28 (O : Oz) : Phi → HF := fnQ (aLet fun v1 => (aEnd (cWr X2 (.b false) (cLet (o2 (eqQ1 false .ptr) (rdV v1) (rdV (.o .ptr))) fun v2 => (cLet (oG false (rdV v2) (oV (rdV v1))) fun v3 => (cLet (oG false (rdV v2) (o1 ncF (rdV v3))) fun v4 => (cLet (oG false (rdV v2) (o1 (O.fa 0) (rdV v4))) fun v5 => (cLet (oG false (rdV v2) (m1 O.ld (rdV v5))) fun v6 => (cLet (oG false (rdV v2) (o2 (eqQ1 false .map) (rdV v6) (rdV (.o .map)))) fun v7 => (cLet (o3 pkF (rdV v2) (rdV (.b true)) (rdV v7)) fun v8 => (cWr X2 v8 cRet))))))))) [vT R2]))
theorem k28 : QeOk ⟨28, eZ Tryd.f28, p28 zO⟩ := qz 12 1 [2] Tryd.func28 (by kernel_rfl) (by kernel_rfl)
def p30 (O : Oz) : Phi → HF := fnQ (aLet fun v1 => (aEnd (cLet (n1 (O.bx 29) (rdV v1)) fun v2 => (cWr X2 (.o .fn) (cLet (nL (mfG (.func 65) 0) [(rdV v2)]) fun v3 => (cWr X2 v3 cRet)))) [vT R2]))
theorem k30 : QeOk ⟨30, eZ Tryd.f30, p30 zO⟩ := qz 4 1 [2] Tryd.func30 (by kernel_rfl) (by kernel_rfl)
def p33 (O : Oz) : Phi → HF := fnQ (aLet fun v1 => (aLet fun v2 => (aEnd (cWr X4 (.b false) (cLet (oCallS 66 [(rdV v1), (rdV v2)]) fun v3 => (cWr X4 v3 cRet))) [vT R4])))
theorem k33 : QeOk ⟨33, eZ Tryd.f33, p33 zO⟩ := qz 8 2 [4] Tryd.func33 (by kernel_rfl) (by kernel_rfl)
def p34 (O : Oz) : Phi → HF := fnQ (aLet fun v1 => (aLet fun v2 => (aEnd (cWr X4 (.o .sl) (cLet (oCallS 67 [(rdV v1), (rdV v2), (rdV (.n .i64 0)), (rdV (.z .i64 0))]) fun v3 => (cWr X4 v3 cRet))) [vT R4])))
theorem k34 : QeOk ⟨34, eZ Tryd.f34, p34 zO⟩ := qz 8 2 [4] Tryd.func34 (by kernel_rfl) (by kernel_rfl)
def p35 (O : Oz) : Phi → HF := fnQ (aLet fun v1 => (aLet fun v2 => (aEnd (cWr X4 (.n .i64 0) (cLet (o1 ncF (rdV v1)) fun v3 => (cLet (o1 (O.fa 0) (rdV v3)) fun v4 => (cLet (m1 O.ld (rdV v4)) fun v5 => (cLet (n2 (O.lk true [.str] true (.agg [.s (pack []), .b false, .s (pack [])])) (rdV v5) (rdV v2)) fun v6 => (cLet (o1 (exG 0) (rdV v6)) fun v7 => (cLet (o1 (exG 1) (rdV v6)) fun v8 => (cLet (n0Z O.al (.cells [.s (pack []), .b false, .s (pack [])] 32 .exact)) fun v9 => (cDo (n2 (O.st 3) (rdV v9) (rdV v7)) (cSeq (cBlk 0 (cLet (o2 O.eq (rdV v2) (rdV (.s (pack [47])))) fun v10 => (cLet (oG false (rdV v10) (oV (rdV v8))) fun v11 => (cLet (oG false (rdV v10) (oV (rdV v11))) fun v12 => (cLet (oG true (rdV v12) (o1 (O.fa 1) (rdV v9))) fun v13 => (cLet (oG true (rdV v12) (m1 O.ld (rdV v13))) fun v14 => (cLet (oG false (rdV v10) (o3 pkF (rdV v12) (rdV v14) (rdV (.b false)))) fun v15 => (cLet (o3 pkF (rdV v10) (rdV (.b true)) (rdV v15)) fun v16 => (cSeq (cCond (rdV v16) (cWr X4 (.n .i64 1) cRet) (cSeq (cCond (rdV v8) (cWr X4 (.n .i64 2) cRet) cSkip) cSkip)) cSkip))))))))) (cWr X4 (.n .i64 0) cRet))))))))))) [vT R4])))
theorem k35 : QeOk ⟨35, eZ Tryd.f35, p35 zO⟩ := qz 28 2 [4] Tryd.func35 (by kernel_rfl) (by kernel_rfl)
def p36 (O : Oz) : Phi → HF := fnQ (aLet fun v1 => (aEnd (cWr X2 (.b false) (cLet (o2 O.ne (rdV v1) (rdV (.s (pack [])))) fun v2 => (cLet (oG true (rdV v2) (oV (rdV v1))) fun v3 => (cLet (oG true (rdV v2) (o2 O.ne (rdV v3) (rdV (.s (pack [46]))))) fun v4 => (cLet (o3 pkF (rdV v2) (rdV v4) (rdV (.b false))) fun v5 => (cLet (oG true (rdV v5) (oV (rdV v1))) fun v6 => (cLet (oG true (rdV v5) (o2 O.ne (rdV v6) (rdV (.s (pack [46, 46]))))) fun v7 => (cLet (o3 pkF (rdV v5) (rdV v7) (rdV (.b false))) fun v8 => (cLet (oG true (rdV v8) (oV (rdV v1))) fun v9 => (cLet (oG true (rdV v8) (o1 O.ls (rdV v9))) fun v10 => (cLet (oG true (rdV v8) (o2 O.le (rdV v10) (rdV (.n .i64 32)))) fun v11 => (cLet (o3 pkF (rdV v8) (rdV v11) (rdV (.b false))) fun v12 => (cLet (oG true (rdV v12) (oV (rdV v1))) fun v13 => (cLet (oG true (rdV v12) (n1 (O.sB 5) (rdV v13))) fun v14 => (cLet (oG true (rdV v12) (oV (rdV (.fn (.func 68) [] [])))) fun v15 => (cLet (oG true (rdV v12) (oCallS 69 [(rdV v14), (rdV v15)])) fun v16 => (cLet (oG true (rdV v12) (o1 notF (rdV v16))) fun v17 => (cLet (o3 pkF (rdV v12) (rdV v17) (rdV (.b false))) fun v18 => (cWr X2 v18 cRet))))))))))))))))))) [vT R2]))
theorem k36 : QeOk ⟨36, eZ Tryd.f36, p36 zO⟩ := qz 26 1 [2] Tryd.func36 (by kernel_rfl) (by kernel_rfl)
def p37 (O : Oz) : Phi → HF := fnQ (aLet fun v1 => (aEnd (cWr X2 (.s (pack [])) (cLet (oCallS 70 [(rdV v1), (rdV (.s (pack [47])))]) fun v2 => (cLet (nL (O.pq .maxI) [(rdV v2), (rdV (.n .i64 1))]) fun v3 => (cLet (oSz O.ss (rdV v1) none (some (rdV v3))) fun v4 => (cWr X2 v4 cRet))))) [vT R2]))
theorem k37 : QeOk ⟨37, eZ Tryd.f37, p37 zO⟩ := qz 10 1 [2] Tryd.func37 (by kernel_rfl) (by kernel_rfl)
def p38 (O : Oz) : Phi → HF := fnQ (aLet fun v1 => (aLet fun v2 => (aEnd (cWr X4 (.s (pack [])) (cLet (oCallS 71 [(rdV v1), (rdV (.s (pack [47])))]) fun v3 => (cLet (o2 O.ad (rdV v3) (rdV (.s (pack [47])))) fun v4 => (cLet (o2 O.ad (rdV v4) (rdV v2)) fun v5 => (cWr X4 v5 cRet))))) [vT R4])))
theorem k38 : QeOk ⟨38, eZ Tryd.f38, p38 zO⟩ := qz 10 2 [4] Tryd.func38 (by kernel_rfl) (by kernel_rfl)
def p39 (O : Oz) : Phi → HF := fnQ (aLet fun v1 => (aLet fun v2 => (aEnd (cLet (n1 (O.bx 32) (rdV v2)) fun v3 => (cWr X4 (.n .i64 0) (cLet (o1 (O.fa 0) (rdV v3)) fun v4 => (cLet (m1 O.ld (rdV v4)) fun v5 => (cLet (o1 O.ls (rdV v5)) fun v6 => (cLet (o2 O.gt (rdV v6) (rdV (.n .i64 256))) fun v7 => (cLet (oG false (rdV v7) (o1 (O.fa 2) (rdV v3))) fun v8 => (cLet (oG false (rdV v7) (m1 O.ld (rdV v8))) fun v9 => (cLet (oG false (rdV v7) (o1 O.ls (rdV v9))) fun v10 => (cLet (oG false (rdV v7) (o2 O.gt (rdV v10) (rdV (.n .i64 8192)))) fun v11 => (cLet (o3 pkF (rdV v7) (rdV (.b true)) (rdV v11)) fun v12 => (cSeq (cCond (rdV v12) (cWr X4 (.n .i64 3) cRet) cSkip) (cLet (oCallS 52 [(rdV v1)]) fun v13 => (cLet (o1 (exG 0) (rdV v13)) fun v14 => (cLet (o1 (exG 1) (rdV v13)) fun v15 => (cWr X5 v14 (cWr X6 v15 (cLet (o1 ncF (rdV v1)) fun v16 => (cLet (o1 (O.fa 0) (rdV v16)) fun v17 => (cLet (m1 O.ld (rdV v17)) fun v18 => (cLet (o1 (O.fa 0) (rdV v3)) fun v19 => (cLet (m1 O.ld (rdV v19)) fun v20 => (cLet (n2 (O.lk true [.str] true (.agg [.s (pack []), .b false, .s (pack [])])) (rdV v18) (rdV v20)) fun v21 => (cLet (o1 (exG 0) (rdV v21)) fun v22 => (cLet (o1 (exG 1) (rdV v21)) fun v23 => (cLet (n0Z O.al (.cells [.s (pack []), .b false, .s (pack [])] 32 .exact)) fun v24 => (cLet (n2 (O.st 3) (rdV v24) (rdV v22)) fun v25 => (cSeq (cCond (rdV v23) (cLet (o1 (O.fa 2) (rdV v24)) fun v26 => (cLet (m1 O.ld (rdV v26)) fun v27 => (cLet (o1 O.ls (rdV v27)) fun v28 => (cLet (o2 O.sb (rdV v15) (rdV v28)) fun v29 => (cWr X6 v29 cSkip))))) (cLet (o2 O.ad (rdV v14) (rdV (.n .i64 1))) fun v30 => (cLet (o1 (O.fa 0) (rdV v3)) fun v31 => (cLet (m1 O.ld (rdV v31)) fun v32 => (cLet (o1 O.ls (rdV v32)) fun v33 => (cLet (o2 O.ad (rdV v15) (rdV v33)) fun v34 => (cWr X5 v30 (cWr X6 v34 cSkip)))))))) (cLet (oV R5) fun v35 => (cLet (o2 O.gt (rdV v35) (rdV (.n .i64 128))) fun v36 => (cLet (oG false (rdV v36) (oV R6)) fun v37 => (cLet (oG false (rdV v36) (o1 (O.fa 2) (rdV v3))) fun v38 => (cLet (oG false (rdV v36) (m1 O.ld (rdV v38))) fun v39 => (cLet (oG false (rdV v36) (o1 O.ls (rdV v39))) fun v40 => (cLet (oG false (rdV v36) (o2 O.ad (rdV v37) (rdV v40))) fun v41 => (cLet (oG false (rdV v36) (o2 O.gt (rdV v41) (rdV (.n .i64 32768)))) fun v42 => (cLet (o3 pkF (rdV v36) (rdV (.b true)) (rdV v42)) fun v43 => (cSeq (cCond (rdV v43) (cWr X4 (.n .i64 7) cRet) cSkip) (cLet (o1 ncF (rdV v1)) fun v44 => (cLet (o1 (O.fa 0) (rdV v44)) fun v45 => (cLet (m1 O.ld (rdV v45)) fun v46 => (cLet (o1 (O.fa 0) (rdV v3)) fun v47 => (cLet (m1 O.ld (rdV v47)) fun v48 => (cLet (m1 (O.ln 3) (rdV v3)) fun v49 => (cLet (n3 (O.mu true [.str]) (rdV v46) (rdV v48) (rdV v49)) fun v50 => (cWr X4 (.n .i64 0) cRet)))))))))))))))))))))))))))))))))))))))))))))) [vT R4])))
theorem k39 : QeOk ⟨39, eZ Tryd.f39, p39 zO⟩ := qz 64 2 [4, 5, 6] Tryd.func39 (by kernel_rfl) (by kernel_rfl)
def p41 (O : Oz) : Phi → HF := fnQ (aLet fun v1 => (aLet fun v2 => (aLet fun v3 => (aEnd (cWr X6 (.s (pack [])) (cWr X7 (.n .i64 0) (cLet (oCallS 12 [(rdV v1), (rdV v2)]) fun v4 => (cLet (o1 (exG 0) (rdV v4)) fun v5 => (cLet (o1 (exG 1) (rdV v4)) fun v6 => (cLet (o2 O.ne (rdV v6) (rdV (.n .i64 0))) fun v7 => (cSeq (cCond (rdV v7) (cWr X6 (.s (pack [])) (cWr X7 v6 cRet)) cSkip) (cLet (oCallS 35 [(rdV v1), (rdV v5)]) fun v8 => (cSeq (cBlk 0 (cLet (o2 O.eq (rdV v8) (rdV v3)) fun v9 => (cSeq (cCond (rdV v9) (cWr X6 v5 (cWr X7 (.n .i64 0) cRet)) (cLet (o2 O.eq (rdV v8) (rdV (.n .i64 0))) fun v10 => (cSeq (cCond (rdV v10) (cWr X6 (.s (pack [])) (cWr X7 (.n .i64 6) cRet)) cSkip) cSkip))) cSkip))) (cWr X6 (.s (pack [])) (cWr X7 (.n .i64 5) cRet))))))))))) [vT R6, vT R7]))))
theorem k41 : QeOk ⟨41, eZ Tryd.f41, p41 zO⟩ := qz 28 3 [6, 7] Tryd.func41 (by kernel_rfl) (by kernel_rfl)
def p52 (O : Oz) : Phi → HF := fnQ (aLet fun v1 => (aEnd (cLetW (n0Z O.al (.ints .i64 [Int.ofNat 0] 3 .exact)) X2 fun v2 => (cLetW (n0Z O.al (.ints .i64 [Int.ofNat 0] 3 .exact)) X3 fun v3 => (cLet (nL (mfG (.func 9) 1) [(rdV v1)]) fun v4 => (cSeq (cBlk 0 (cSeq (cRf (rdV v4) [X7] (cLetW (n0Z O.al (.cells [.s (pack []), .b false, .s (pack [])] 32 .exact)) X4 fun v5 => (cDo (n2 (O.st 3) (rdV v5) R7) cSkip)) (cSeq (cBlk 1 (cLet (m1 O.ld (rdV v2)) fun v6 => (cLet (o2 O.ad (rdV v6) (rdV (.n .i64 1))) fun v7 => (cLet (m1 O.ld (rdV v3)) fun v8 => (cLet (o1 (O.fa 0) R4) fun v9 => (cLet (m1 O.ld (rdV v9)) fun v10 => (cLet (o1 O.ls (rdV v10)) fun v11 => (cLet (o2 O.ad (rdV v8) (rdV v11)) fun v12 => (cLet (o1 (O.fa 2) R4) fun v13 => (cLet (m1 O.ld (rdV v13)) fun v14 => (cLet (o1 O.ls (rdV v14)) fun v15 => (cLet (o2 O.ad (rdV v12) (rdV v15)) fun v16 => (cLet (n2 (O.st 1) (rdV v2) (rdV v7)) fun v17 => (cRz O.rc (m1 O.ld (rdV v3)) v8 (cRz O.rc (m1 O.ld (rdV v9)) v10 (cRz O.rc (m1 O.ld (rdV v13)) v14 (cLet (n2 (O.st 1) (rdV v3) (rdV v16)) fun v18 => cSkip))))))))))))))))) cSkip)) cSkip)) (cLet (m1 O.ld (rdV v2)) fun v19 => (cLet (m1 O.ld (rdV v3)) fun v20 => (cLet (n2 (O.st 1) (rdV v2) (rdV v19)) fun v21 => (cRz O.rc (m1 O.ld (rdV v3)) v20 (cLet (n2 (O.st 1) (rdV v3) (rdV v20)) fun v22 => cRet))))))))) [vC R2, vC R3]))
theorem k52 : QeOk ⟨52, eZ Tryd.f52, p52 zO⟩ := qz 21 1 [2, 3, 4, 7] Tryd.func52 (by kernel_rfl) (by kernel_rfl)
def p66 (O : Oz) : Phi → HF := fnQ (aLet fun v1 => (aLet fun v2 => (aEnd (cWr X4 (.b false) (cLet (o1 O.ls (rdV v1)) fun v3 => (cLet (o1 O.ls (rdV v2)) fun v4 => (cLet (o2 O.ge (rdV v3) (rdV v4)) fun v5 => (cLet (oG true (rdV v5) (oV (rdV v1))) fun v6 => (cLet (oG true (rdV v5) (oV (rdV v2))) fun v7 => (cLet (oG true (rdV v5) (o1 O.ls (rdV v7))) fun v8 => (cLet (oG true (rdV v5) (oSz O.ss (rdV v6) none (some (rdV v8)))) fun v9 => (cLet (oG true (rdV v5) (oV (rdV v2))) fun v10 => (cLet (oG true (rdV v5) (o2 O.eq (rdV v9) (rdV v10))) fun v11 => (cLet (o3 pkF (rdV v5) (rdV v11) (rdV (.b false))) fun v12 => (cWr X4 v12 cRet)))))))))))) [vT R4])))
theorem k66 : QeOk ⟨66, eZ Tryd.f66, p66 zO⟩ := qz 18 2 [4] Tryd.func66 (by kernel_rfl) (by kernel_rfl)
def p67 (O : Oz) : Phi → HF := fnQ (aLetW X0 fun v1 => (aLet fun v2 => (aLet fun v3 => (aLetW X3 fun v4 => (aEnd (cWr X8 (.o .sl) (cLet (o2 O.eq (rdV v4) (rdV (.n .i64 0))) fun v5 => (cSeq (cCond (rdV v5) (cWr X8 (.o .sl) cRet) cSkip) (cLet (o2 O.eq (rdV v2) (rdV (.s (pack [])))) fun v6 => (cSeq (cCond (rdV v6) (cLet (oCallS 87 [(rdV v1), (rdV v4)]) fun v7 => (cWr X8 v7 cRet)) cSkip) (cLet (o2 O.lt (rdV v4) (rdV (.n .i64 0))) fun v8 => (cSeq (cCond (rdV v8) (cLet (oCallS 88 [(rdV v1), (rdV v2)]) fun v9 => (cLet (o2 O.ad (rdV v9) (rdV (.n .i64 1))) fun v10 => (cWr X3 v10 cSkip))) cSkip) (cLet (oV R3) fun v11 => (cLet (o1 O.ls (rdV v1)) fun v12 => (cLet (o2 O.ad (rdV v12) (rdV (.n .i64 1))) fun v13 => (cLet (nL (O.pq .minI) [(rdV v11), (rdV v13)]) fun v14 => (cWr X3 v14 (cLet (nL (O.nq (.makeSl 9 1 [(.str [])])) [(rdV v14), (rdV v14)]) fun v15 => (cLet (o2 O.sb (rdV v14) (rdV (.n .i64 1))) fun v16 => (cWr X3 v16 (cWr X10 (.n .i64 0) (cSeq (cBlk 0 (O.lp 1000000 (cLet (oV R10) fun v17 => (cLet (o2 O.lt (rdV v17) (rdV v16)) fun v18 => (cSeq (cCond (rdV v18) cSkip (cExit 0)) (cSeq (cBlk 1 (cLet (oV R0) fun v19 => (cLet (oCallS 89 [(rdV v19), (rdV v2)]) fun v20 => (cLet (o2 O.lt (rdV v20) (rdV (.n .i64 0))) fun v21 => (cSeq (cCond (rdV v21) (cExit 0) cSkip) (cLet (oV R10) fun v22 => (cLet (oV R0) fun v23 => (cLet (o2 O.ad (rdV v20) (rdV v3)) fun v24 => (cLet (oSz O.ss (rdV v23) none (some (rdV v24))) fun v25 => (cLet (o2 (O.ix 1) (rdV v15) (rdV v22)) fun v26 => (cDo (n2 (O.st 1) (rdV v26) (rdV v25)) (cLet (oV R0) fun v27 => (cLet (o1 O.ls (rdV v2)) fun v28 => (cLet (o2 O.ad (rdV v20) (rdV v28)) fun v29 => (cLet (oSz O.ss (rdV v27) (some (rdV v29)) none) fun v30 => (cWr X0 v30 (cLet (oV R10) fun v31 => (cLet (o2 O.ad (rdV v31) (rdV (.n .i64 1))) fun v32 => (cWr X10 v32 cSkip))))))))))))))))))) cSkip)))))) (cLet (oV R10) fun v33 => (cLet (oV R0) fun v34 => (cLet (o2 (O.ix 1) (rdV v15) (rdV v33)) fun v35 => (cDo (n2 (O.st 1) (rdV v35) (rdV v34)) (cLet (oV R10) fun v36 => (cLet (o2 O.ad (rdV v36) (rdV (.n .i64 1))) fun v37 => (cLet (oVz O.sv 1 (rdV v15) none (some (rdV v37)) none) fun v38 => (cWr X8 v38 cRet))))))))))))))))))))))))) [vT R8])))))
theorem k67 : QeOk ⟨67, eZ Tryd.f67, p67 zO⟩ := qz 66 4 [0, 3, 8, 10] Tryd.func67 (by kernel_rfl) (by kernel_rfl)
def p68 (O : Oz) : Phi → HF := fnQ (aLet fun v1 => (aEnd (cWr X2 (.b false) (cLet (o2 O.lt (rdV v1) (rdV (.n .u8 32))) fun v2 => (cLet (oG false (rdV v2) (oV (rdV v1))) fun v3 => (cLet (oG false (rdV v2) (o2 O.eq (rdV v3) (rdV (.n .u8 127)))) fun v4 => (cLet (o3 pkF (rdV v2) (rdV (.b true)) (rdV v4)) fun v5 => (cLet (oG false (rdV v5) (oV (rdV v1))) fun v6 => (cLet (oG false (rdV v5) (o2 O.eq (rdV v6) (rdV (.n .u8 47)))) fun v7 => (cLet (o3 pkF (rdV v5) (rdV (.b true)) (rdV v7)) fun v8 => (cWr X2 v8 cRet))))))))) [vT R2]))
theorem k68 : QeOk ⟨68, eZ Tryd.f68, p68 zO⟩ := qz 13 1 [2] Tryd.func68 (by kernel_rfl) (by kernel_rfl)
def p69 (O : Oz) : Phi → HF := fnQ (aLet fun v1 => (aLet fun v2 => (aEnd (cWr X4 (.b false) (cLet (oCallS 90 [(rdV v1), (rdV v2)]) fun v3 => (cLet (o2 O.ge (rdV v3) (rdV (.n .i64 0))) fun v4 => (cWr X4 v4 cRet)))) [vT R4])))
theorem k69 : QeOk ⟨69, eZ Tryd.f69, p69 zO⟩ := qz 9 2 [4] Tryd.func69 (by kernel_rfl) (by kernel_rfl)
def p70 (O : Oz) : Phi → HF := fnQ (aLet fun v1 => (aLet fun v2 => (aEnd (cWr X4 (.n .i64 0) (cLet (o1 O.ls (rdV v2)) fun v3 => (cSeq (cBlk 0 (cLet (o2 O.eq (rdV v3) (rdV (.n .i64 0))) fun v4 => (cSeq (cCond (rdV v4) (cLet (o1 O.ls (rdV v1)) fun v5 => (cWr X4 v5 cRet)) (cLet (o2 O.eq (rdV v3) (rdV (.n .i64 1))) fun v6 => (cSeq (cCond (rdV v6) (cLet (o2 O.tx (rdV v2) (rdV (.n .i64 0))) fun v7 => (cLet (oCallS 77 [(rdV v1), (rdV v7)]) fun v8 => (cWr X4 v8 cRet))) (cLet (o1 O.ls (rdV v1)) fun v9 => (cLet (o2 O.eq (rdV v3) (rdV v9)) fun v10 => (cSeq (cCond (rdV v10) (cLet (o2 O.eq (rdV v2) (rdV v1)) fun v11 => (cSeq (cCond (rdV v11) (cWr X4 (.n .i64 0) cRet) cSkip) (cWr X4 (.z .i64 0) cRet))) (cLet (o1 O.ls (rdV v1)) fun v12 => (cLet (o2 O.gt (rdV v3) (rdV v12)) fun v13 => (cSeq (cCond (rdV v13) (cWr X4 (.z .i64 0) cRet) cSkip) cSkip)))) cSkip)))) cSkip))) cSkip))) (cLet (oCallS 91 [(rdV v1), (rdV v2)]) fun v14 => (cWr X4 v14 cRet))))) [vT R4])))
theorem k70 : QeOk ⟨70, eZ Tryd.f70, p70 zO⟩ := qz 36 2 [4] Tryd.func70 (by kernel_rfl) (by kernel_rfl)
def p71 (O : Oz) : Phi → HF := fnQ (aLet fun v1 => (aLet fun v2 => (aEnd (cWr X4 (.s (pack [])) (cLet (oCallS 92 [(rdV v1), (rdV v2)]) fun v3 => (cWr X4 v3 cRet))) [vT R4])))
theorem k71 : QeOk ⟨71, eZ Tryd.f71, p71 zO⟩ := qz 8 2 [4] Tryd.func71 (by kernel_rfl) (by kernel_rfl)
def p77 (O : Oz) : Phi → HF := fnQ (aLet fun v1 => (aLet fun v2 => (aEnd (cWr X4 (.n .i64 0) (cLet (o1 O.ls (rdV v1)) fun v3 => (cLet (o2 O.sb (rdV v3) (rdV (.n .i64 1))) fun v4 => (cWr X5 v4 (cSeq (cBlk 0 (O.lp 1000000 (cLet (oV R5) fun v5 => (cLet (o2 O.ge (rdV v5) (rdV (.n .i64 0))) fun v6 => (cSeq (cCond (rdV v6) cSkip (cExit 0)) (cSeq (cBlk 1 (cLet (oV R5) fun v7 => (cLet (o2 O.tx (rdV v1) (rdV v7)) fun v8 => (cLet (o2 O.eq (rdV v8) (rdV v2)) fun v9 => (cSeq (cCond (rdV v9) (cLet (oV R5) fun v10 => (cWr X4 v10 cRet)) cSkip) cSkip))))) (cLet (oV R5) fun v11 => (cLet (o2 O.sb (rdV v11) (rdV (.n .i64 1))) fun v12 => (cWr X5 v12 cSkip))))))))) (cWr X4 (.z .i64 0) cRet)))))) [vT R4])))
theorem k77 : QeOk ⟨77, eZ Tryd.f77, p77 zO⟩ := qz 19 2 [4, 5] Tryd.func77 (by kernel_rfl) (by kernel_rfl)
def p90 (O : Oz) : Phi → HF := fnQ (aLet fun v1 => (aLet fun v2 => (aEnd (cWr X4 (.n .i64 0) (cLet (o1 O.lv (rdV v1)) fun v3 => (cWr X8 (.n .i64 0) (cSeq (cBlk 0 (O.lp 1000000 (cLet (o2 O.lt R8 (rdV v3)) fun v4 => (cSeq (cCond (rdV v4) cSkip (cExit 0)) (cSeq (cBlk 1 (cLet (oV R8) fun v5 => (cLet (o2 (O.ix 1) (rdV v1) (rdV v5)) fun v6 => (cLet (m1 O.ld (rdV v6)) fun v7 => (cLet (oCall (rdV v2) [(rdV v7)]) fun v8 => (cSeq (cCond (rdV v8) (cWr X4 v5 cRet) cSkip) cSkip)))))) (cLet (o2 O.ad R8 (rdV (.n .i64 1))) fun v9 => (cWr X8 v9 cSkip))))))) (cWr X4 (.z .i64 0) cRet))))) [vT R4])))
theorem k90 : QeOk ⟨90, eZ Tryd.f90, p90 zO⟩ := qz 19 2 [4, 8] Tryd.func90 (by kernel_rfl) (by kernel_rfl)
def p92 (O : Oz) : Phi → HF := fnQ (aLet fun v1 => (aLet fun v2 => (aEnd (cWr X4 (.s (pack [])) (cLet (oCallS 111 [(rdV v1), (rdV v2)]) fun v3 => (cSeq (cCond (rdV v3) (cLet (o1 O.ls (rdV v1)) fun v4 => (cLet (o1 O.ls (rdV v2)) fun v5 => (cLet (o2 O.sb (rdV v4) (rdV v5)) fun v6 => (cLet (oSz O.ss (rdV v1) none (some (rdV v6))) fun v7 => (cWr X4 v7 cRet))))) cSkip) (cWr X4 v1 cRet)))) [vT R4])))
theorem k92 : QeOk ⟨92, eZ Tryd.f92, p92 zO⟩ := qz 16 2 [4] Tryd.func92 (by kernel_rfl) (by kernel_rfl)
def p111 (O : Oz) : Phi → HF := fnQ (aLet fun v1 => (aLet fun v2 => (aEnd (cWr X4 (.b false) (cLet (o1 O.ls (rdV v1)) fun v3 => (cLet (o1 O.ls (rdV v2)) fun v4 => (cLet (o2 O.ge (rdV v3) (rdV v4)) fun v5 => (cLet (oG true (rdV v5) (oV (rdV v1))) fun v6 => (cLet (oG true (rdV v5) (oV (rdV v1))) fun v7 => (cLet (oG true (rdV v5) (o1 O.ls (rdV v7))) fun v8 => (cLet (oG true (rdV v5) (oV (rdV v2))) fun v9 => (cLet (oG true (rdV v5) (o1 O.ls (rdV v9))) fun v10 => (cLet (oG true (rdV v5) (o2 O.sb (rdV v8) (rdV v10))) fun v11 => (cLet (oG true (rdV v5) (oSz O.ss (rdV v6) (some (rdV v11)) none)) fun v12 => (cLet (oG true (rdV v5) (oV (rdV v2))) fun v13 => (cLet (oG true (rdV v5) (o2 O.eq (rdV v12) (rdV v13))) fun v14 => (cLet (o3 pkF (rdV v5) (rdV v14) (rdV (.b false))) fun v15 => (cWr X4 v15 cRet))))))))))))))) [vT R4])))
theorem k111 : QeOk ⟨111, eZ Tryd.f111, p111 zO⟩ := qz 21 2 [4] Tryd.func111 (by kernel_rfl) (by kernel_rfl)
end
end Go.Proofs.YtjoakhpdajlhiaaDoor.V2.S
namespace Go.Proofs.YtjoakhpdajlhiaaDoor.V2.S
open Go
set_option maxRecDepth 100000
set_option maxHeartbeats 4000000
set_option linter.unusedVariables false
attribute [local irreducible] fN fO nM gM pM Phi.fn mp bl bpart bapp top1 pack
theorem odd_s {O : Oz} (hO : O = zO) (Φ : Phi) (c n : Nat) (m : T FObj) : Ret0 (p68 O Φ) [.n .u8 c] n m (.b (odd c)) := fun k P hf => by
  repeat' ((conv => lhs; whnf); first | ((with_reducible refine ltB hO (fun h => ?_) (fun h => ?_))) | ((with_reducible refine eqB hO (fun h => ?_) (fun h => ?_))))
  all_goals (conv => lhs; whnf)
  all_goals first
    | (rw [show odd c = true by unfold odd; simp; omega] at hf; exact hf)
    | (rw [show odd c = false by unfold odd; simp; omega] at hf; exact hf)
theorem hp2_s {O : Oz} (hO : O = zO) (Φ : Phi) (s p : Bs) (hs : s.length ≤ 9223372036854775807) (n : Nat) (m : T FObj) : Ret0 (p66 O Φ) [.s (pack s), .s (pack p)] n m (.b (hasPre s p)) := fun k P hf => by
  repeat' ((conv => lhs; whnf); first | (((with_reducible refine lsS hO ?_); try simp only [List.length_cons, List.length_nil, Nat.zero_add])) | ((with_reducible refine geB hO (fun h => ?_) (fun h => ?_))) | ((with_reducible refine eqSB hO (fun h => ?_) (fun h => ?_))) | ((with_reducible refine ssH hO (by omega) ?_)))
  all_goals (conv => lhs; whnf)
  all_goals first
    | (rw [show hasPre s p = true by unfold hasPre; simp [*]] at hf; exact hf)
    | (rw [show hasPre s p = false by unfold hasPre; first | rw [decide_eq_false (by omega), Bool.false_and] | simp [*]] at hf; exact hf)
theorem hp_s {O : Oz} (hO : O = zO) (Φ Φ1 : Phi) (H : Phi.fn Φ 66 = p66 O Φ1) (s p : Bs) (hs : s.length ≤ 9223372036854775807) (n : Nat) (m : T FObj) : Ret0 (p33 O Φ) [.s (pack s), .s (pack p)] n m (.b (hasPre s p)) := fun k P hf => by
  repeat' ((conv => lhs; whnf); first | ((with_reducible refine atFn ?_); (rw [H]; refine hp2_s hO Φ1 s p hs _ _ _ _ ?_)))
  all_goals (conv => lhs; whnf)
  all_goals first
    | exact hf
theorem none_s {O : Oz} (hO : O = zO) (Φ : Phi) {tb mb : Nat} {t : Tr} {n : Nat} {m : T FObj} (hT : TreeAt m tb mb 65 t) : Ret0 (p28 O Φ) [.p tb 0] n m (.b false) := fun k P hf => by
  obtain ⟨hT1, hT2⟩ := hT
  repeat' ((conv => lhs; whnf); first | ((with_reducible refine fa0 hO ?_)) | ((with_reducible refine atLd ?_); refine ldC hO aQ (by rfl) ?_))
  all_goals (conv => lhs; whnf)
  all_goals first
    | exact hf
theorem kind_s {O : Oz} (hO : O = zO) (Φ : Phi) {tb mb : Nat} {t : Tr} {n : Nat} {m : T FObj} (hT : TreeAt m tb mb 65 t) (htb : tb < n) (hmb : mb < n) (p : Bs) : Ret 1 (p35 O Φ) [.p tb 0, .s (pack p)] n m (.n .i64 (kindG t p)) := fun k P hn hf => by
  obtain ⟨hT1, hT2⟩ := hT
  repeat' ((conv => lhs; whnf); first | ((with_reducible refine fa0 hO ?_)) | ((with_reducible refine atLd ?_); refine ldC hO aQ (by rfl) ?_) | ((with_reducible refine eqSB hO (fun h => ?_) (fun h => ?_))) | ((with_reducible refine atSt ?_); refine ust hO ?_) | ((with_reducible refine alO hO (by omega) ?_)) | ((with_reducible refine atLk ?_); refine lkS hO aQ (fun a hla => ?_) (fun hla => ?_)) | (with_reducible refine (fN_eq _ _).trans ?_) | (with_reducible refine pM_mp.trans ?_) | (refine gM_amP aQ ?_) | ((with_reducible refine atB ?_); refine brec (fun h => ?_) (fun h => ?_)))
  all_goals (conv => lhs; whnf)
  all_goals first
    | (rw [show kindG t p = 1 by unfold kindG look; simp [*]] at hf; exact hf _ _ (by omega) (by omega) kQ)
    | (rw [show kindG t p = 2 by unfold kindG look; simp [*]] at hf; exact hf _ _ (by omega) (by omega) kQ)
    | (rw [show kindG t p = 0 by unfold kindG look; simp [*]] at hf; exact hf _ _ (by omega) (by omega) kQ)
end Go.Proofs.YtjoakhpdajlhiaaDoor.V2.S
namespace Go.Proofs.YtjoakhpdajlhiaaDoor.V2.S
open Go
set_option maxRecDepth 100000
set_option maxHeartbeats 4000000
set_option linter.unusedVariables false
attribute [local irreducible] fN fO nM gM pM Phi.fn mp bl bpart bapp top1 pack
theorem idx_s {O : Oz} (hO : O = zO) (Φ Φ1 : Phi) (H : Phi.fn Φ 68 = p68 O Φ1) {b L Kk : Nat} {x : Bool} {l : Bs} {el : TypeId} {tl : Tl} {n : Nat} {m : T FObj} {k : KV} {P : FR} (hL : l.length = L) (hl : L ≤ 900000) (ha : Am m b (.bs (pack l) el tl))
    (h1 : ∀ i, i < L → odd (bt l i) = true → k (.n .i64 i) ⟨n, m⟩ = P) (h0 : (∀ i, i < L → odd (bt l i) = false) → k (.z .i64 0) ⟨n, m⟩ = P) : p90 O Φ [.sl b 0 L Kk x 1, .fn (.func 68) [] []] ⟨n, m⟩ k = P := by
  repeat' ((conv => lhs; whnf); first | ((with_reducible refine lvS hO ?_)))
  all_goals (conv => lhs; whnf)
  refine lpI hO (fun t e n' m' => ∃ i, i ≤ L ∧ t = L - i ∧ n' = n ∧ m' = m ∧ e = eof [(4, .n .i64 0), (8, .n .i64 i)] ∧ ∀ j, j < i → odd (bt l j) = false) ?_ ?_ _ L _ _ _ (by omega) ⟨0, by omega, by omega, rfl, rfl, rfl, fun j hj => absurd hj (Nat.not_lt_zero _)⟩
  · rintro t e n' m' ⟨i, _, _, rfl, _⟩
    exact Nat.le_refl _
  · rintro t e n' m' ih ⟨i, hi, rfl, rfl, rfl, rfl, hj⟩ hih
    repeat' ((conv => lhs; whnf); first | ((with_reducible refine atFn ?_); (rw [H]; refine odd_s hO Φ1 _ _ _ _ _ ?_)) | ((with_reducible refine atLd ?_); refine ldB hO aQ (by omega) ?_) | ((with_reducible refine ltB hO (fun h => ?_) (fun h => ?_))) | ((with_reducible refine adI hO (by omega) ?_)) | ((with_reducible refine ix01 hO (by omega) ?_)) | ((with_reducible refine atB ?_); refine brec (fun h => ?_) (fun h => ?_)))
    all_goals (conv => lhs; whnf)
    all_goals first
      | exact h1 i (by omega) (by assumption)
      | exact h0 (fun j hjl => hj j (by omega))
      | exact hih (L - (i + 1)) _ _ _ (by omega) ⟨i + 1, by omega, by omega, rfl, rfl, rfl, fun j hji => by
          rcases Nat.lt_or_ge j i with h2 | h2
          · exact hj j h2
          · rw [show j = i by omega]; assumption⟩
theorem cnt_s {O : Oz} (hO : O = zO) (Φ Φ1 Φ2 : Phi) (H : Phi.fn Φ 90 = p90 O Φ1) (H2 : Phi.fn Φ1 68 = p68 O Φ2) {b L Kk : Nat} {x : Bool} {l : Bs} {el : TypeId} {tl : Tl} {n : Nat} {m : T FObj} (hL : l.length = L) (hl : L ≤ 900000) (ha : Am m b (.bs (pack l) el tl)) :
    Ret0 (p69 O Φ) [.sl b 0 L Kk x 1, .fn (.func 68) [] []] n m (.b (l.any fun b => odd b.toNat)) := fun k P hf => by
  repeat' ((conv => lhs; whnf); first | ((with_reducible refine atFn ?_); (rw [H]; refine idx_s hO Φ1 Φ2 H2 hL hl ha (fun i hi hodd => ?_) (fun hall => ?_))) | ((with_reducible refine geT hO (by omega) ?_)) | ((with_reducible first | refine umt hO ?_ | refine uqu hO ?_ | refine urm hO ?_ | refine uan hO ?_ | refine uro hO ?_ | refine uxr hO ?_ | refine uhl hO ?_ | refine uhr hO ?_ | refine uad hO ?_ | refine usb hO ?_ | refine ult hO ?_ | refine ule hO ?_ | refine ugt hO ?_ | refine uge hO ?_ | refine ueq hO ?_ | refine une hO ?_ | refine ucv hO ?_ | refine uia hO ?_ | refine usv hO ?_ | refine ubu hO ?_ | refine uap hO ?_ | refine ubs hO ?_ | refine umm hO ?_ | refine upq hO ?_ | refine unq hO ?_ | refine uln hO ?_)))
  all_goals (conv => lhs; whnf)
  all_goals first
    | (rw [any_bt.2 ⟨i, by omega, by assumption⟩] at hf; exact hf)
    | (rw [any_bt_f (f := odd) (fun i hi => hall i (by omega))] at hf; exact hf)
theorem named_s {O : Oz} (hO : O = zO) (Φ Φ1 Φ2 Φ3 : Phi) (H : Phi.fn Φ 69 = p69 O Φ1) (H2 : Phi.fn Φ1 90 = p90 O Φ2) (H3 : Phi.fn Φ2 68 = p68 O Φ3) (s : Bs) {n : Nat} {m : T FObj} (hs : s.length ≤ 9223372036854775807) :
    Ret 1 (p36 O Φ) [.s (pack s)] n m (.b (nameB s)) := fun k P hn hf => by
  repeat' ((conv => lhs; whnf); first | ((with_reducible refine atFn ?_); (rw [H]; refine cnt_s hO Φ1 Φ2 Φ3 H2 H3 rfl (by omega) aQ _ _ ?_)) | (((with_reducible refine lsS hO ?_); try simp only [List.length_cons, List.length_nil, Nat.zero_add])) | ((with_reducible refine leB hO (fun h => ?_) (fun h => ?_))) | ((with_reducible refine neSB hO (fun h => ?_) (fun h => ?_))) | ((with_reducible refine sBS hO (by omega) ?_)) | ((with_reducible refine atB ?_); refine brec (fun h => ?_) (fun h => ?_)))
  all_goals (conv => lhs; whnf)
  all_goals first
    | (have e : (s.any fun b => odd b.toNat) = true := by assumption
       rw [show nameB s = false by unfold nameB; rw [e]; simp] at hf; exact hf _ _ (by omega) (by omega) kQ)
    | (have e : (s.any fun b => odd b.toNat) = false := by assumption
       rw [show nameB s = true by unfold nameB; rw [e]; simp [*]] at hf; exact hf _ _ (by omega) (by omega) kQ)
    | (have e : ¬ s.length ≤ 32 := by omega
       rw [show nameB s = false by unfold nameB; simp [e]] at hf; exact hf _ _ (by omega) (by omega) kQ)
    | (rw [show nameB s = false by unfold nameB; simp [*]] at hf; exact hf _ _ (by omega) (by omega) kQ)
end Go.Proofs.YtjoakhpdajlhiaaDoor.V2.S
namespace Go.Proofs.YtjoakhpdajlhiaaDoor.V2.S
open Go
set_option maxRecDepth 100000
set_option maxHeartbeats 4000000
set_option linter.unusedVariables false
attribute [local irreducible] fN fO nM gM pM Phi.fn mp bl bpart bapp top1 pack
theorem lib_s {O : Oz} (hO : O = zO) (Φ : Phi) (l : Bs) (hl : l.length ≤ 900000) {n : Nat} {m : T FObj} {k : KV} {P : FR} (h1 : ∀ i, lastS l = i + 1 → k (.n .i64 i) ⟨n, m⟩ = P) (h0 : lastS l = 0 → k (.z .i64 0) ⟨n, m⟩ = P) : p77 O Φ [.s (pack l), .n .u8 47] ⟨n, m⟩ k = P := by
  have start : ∀ (Kn Kr : K2) (Ke : Nat → K2) (cd : Cd), (∀ t e n' m' (ih : K2), (∃ j, j ≤ l.length ∧ t = j ∧ n' = n ∧ m' = m ∧ e = eof [(4, .n .i64 0), (5, iv j)] ∧ ∀ i, j ≤ i → i < l.length → bt l i ≠ 47) → (∀ t' e' n'' m'', t' < t → (∃ j, j ≤ l.length ∧ t' = j ∧ n'' = n ∧ m'' = m ∧ e' = eof [(4, .n .i64 0), (5, iv j)] ∧ ∀ i, j ≤ i → i < l.length → bt l i ≠ 47) → ih e' ⟨n'', m''⟩ = P) → cd Φ n ih Kr Ke e ⟨n', m'⟩ = P) →
      O.lp 1000000 cd Φ n Kn Kr Ke (eof [(4, .n .i64 0), (5, iv l.length)]) ⟨n, m⟩ = P := fun Kn Kr Ke cd hs =>
    lpI hO (fun t e n' m' => ∃ j, j ≤ l.length ∧ t = j ∧ n' = n ∧ m' = m ∧ e = eof [(4, .n .i64 0), (5, iv j)] ∧ ∀ i, j ≤ i → i < l.length → bt l i ≠ 47) (by rintro t e n' m' ⟨j, _, _, rfl, _⟩; exact Nat.le_refl _) hs _ l.length _ _ _ (by omega) ⟨l.length, Nat.le_refl _, rfl, rfl, rfl, rfl, fun i h1 h2 => absurd h1 (by omega)⟩
  cases hlen : l.length with
  | zero =>
    rw [hlen] at start
    repeat' ((conv => lhs; whnf); first | (((with_reducible refine lsS hO ?_); try simp only [List.length_cons, List.length_nil, Nat.zero_add])) | ((with_reducible refine sbZ hO (by omega) (by omega) ?_)))
    all_goals (conv => lhs; whnf)
    all_goals (simp only [hlen]; refine start _ _ _ _ ?_)
    all_goals (
      rintro t e n' m' ih ⟨j, hj, rfl, rfl, rfl, rfl, hall⟩ hih
      obtain rfl : t = 0 := by omega)
    repeat' ((conv => lhs; whnf); first | ((with_reducible first | refine umt hO ?_ | refine uqu hO ?_ | refine urm hO ?_ | refine uan hO ?_ | refine uro hO ?_ | refine uxr hO ?_ | refine uhl hO ?_ | refine uhr hO ?_ | refine uad hO ?_ | refine usb hO ?_ | refine ult hO ?_ | refine ule hO ?_ | refine ugt hO ?_ | refine uge hO ?_ | refine ueq hO ?_ | refine une hO ?_ | refine ucv hO ?_ | refine uia hO ?_ | refine usv hO ?_ | refine ubu hO ?_ | refine uap hO ?_ | refine ubs hO ?_ | refine umm hO ?_ | refine upq hO ?_ | refine unq hO ?_ | refine uln hO ?_)))
    all_goals (conv => lhs; whnf)
    all_goals first
      | exact h0 (lastS_none fun i hi => by omega)
  | succ q =>
    rw [hlen] at start
    repeat' ((conv => lhs; whnf); first | (((with_reducible refine lsS hO ?_); try simp only [List.length_cons, List.length_nil, Nat.zero_add])) | ((with_reducible refine sbI hO (by omega) (by omega) ?_)))
    all_goals (conv => lhs; whnf)
    all_goals (simp only [hlen]; refine start _ _ _ _ ?_)
    all_goals (
      rintro t e n' m' ih ⟨j, hj, rfl, rfl, rfl, rfl, hall⟩ hih
      rcases t with _ | _ | t)
    all_goals simp only [iv]
    repeat' ((conv => lhs; whnf); first | ((with_reducible refine geT hO (by omega) ?_)) | ((with_reducible refine eqB hO (fun h => ?_) (fun h => ?_))) | ((with_reducible refine sbI hO (by omega) (by omega) ?_)) | ((with_reducible refine sbZ hO (by omega) (by omega) ?_)) | ((with_reducible refine txS hO (by first | omega | decide) ?_)) | ((with_reducible first | refine umt hO ?_ | refine uqu hO ?_ | refine urm hO ?_ | refine uan hO ?_ | refine uro hO ?_ | refine uxr hO ?_ | refine uhl hO ?_ | refine uhr hO ?_ | refine uad hO ?_ | refine usb hO ?_ | refine ult hO ?_ | refine ule hO ?_ | refine ugt hO ?_ | refine uge hO ?_ | refine ueq hO ?_ | refine une hO ?_ | refine ucv hO ?_ | refine uia hO ?_ | refine usv hO ?_ | refine ubu hO ?_ | refine uap hO ?_ | refine ubs hO ?_ | refine umm hO ?_ | refine upq hO ?_ | refine unq hO ?_ | refine uln hO ?_)))
    all_goals (conv => lhs; whnf)
    all_goals first
      | exact h0 (lastS_none fun i hi => hall i (by omega) (by omega))
      | exact h1 _ (lastS_some (by omega) (by assumption) fun j h1 h2 => hall j (by omega) (by omega))
      | exact hih _ _ _ _ (Nat.lt_succ_self _) ⟨_, by omega, rfl, rfl, rfl, rfl, fun j h1 h2 => by
          rcases Nat.lt_or_ge (t + 1) j with h3 | h3
          · exact hall j (by omega) h2
          · rw [show j = t + 1 by omega]; assumption⟩
      | exact hih _ _ _ _ (Nat.lt_succ_self _) ⟨_, by omega, rfl, rfl, rfl, rfl, fun j h1 h2 => by
          rcases Nat.lt_or_ge 0 j with h3 | h3
          · exact hall j (by omega) h2
          · rw [show j = 0 by omega]; assumption⟩
def LiS (H : HF) : Prop := ∀ (l : Bs), l.length ≤ 900000 → ∀ (n : Nat) (m : T FObj) (k : KV) (P : FR), (∀ i, lastS l = i + 1 → k (.n .i64 i) ⟨n, m⟩ = P) → (lastS l = 0 → k (.z .i64 0) ⟨n, m⟩ = P) → H [.s (pack l), .s (pack [47])] ⟨n, m⟩ k = P
theorem li_s {O : Oz} (hO : O = zO) (Φ Φ1 : Phi) (H : Phi.fn Φ 77 = p77 O Φ1) : LiS (p70 O Φ) := fun l hl n m k P h1 h0 => by
  have hb : bt [47] 0 = 47 := rfl
  repeat' ((conv => lhs; whnf); first | ((with_reducible refine atFn ?_); (rw [H]; rw [hb]; refine lib_s hO Φ1 l hl h1 h0)) | (((with_reducible refine lsS hO ?_); try simp only [List.length_cons, List.length_nil, Nat.zero_add])) | ((with_reducible refine eqT hO (by omega) ?_)) | ((with_reducible refine eqF hO (by omega) ?_)) | ((with_reducible refine txS hO (by first | omega | decide) ?_)))
  all_goals (conv => lhs; whnf)
  all_goals first
    | exact h1 _ (by assumption)
    | exact h0 (by assumption)
def ParS (H : HF) : Prop := ∀ (p : Bs) (n : Nat) (m : T FObj), 0 < p.length → p.length ≤ 900000 → Ret0 H [.s (pack p)] n m (.s (pack (parG p)))
theorem par_s {O : Oz} (hO : O = zO) (Φ : Phi) (H : LiS (Phi.fn Φ 70)) : ParS (p37 O Φ) := fun p n m hp hl k P hf => by
  have hle := lastS_le p
  repeat' ((conv => lhs; whnf); first | ((with_reducible refine atFn ?_); refine H p hl _ _ _ _ (fun i hi => ?_) (fun hz => ?_)) | ((with_reducible refine mxI hO ?_)) | ((with_reducible refine ssH hO (by omega) ?_)) | ((with_reducible first | refine umt hO ?_ | refine uqu hO ?_ | refine urm hO ?_ | refine uan hO ?_ | refine uro hO ?_ | refine uxr hO ?_ | refine uhl hO ?_ | refine uhr hO ?_ | refine uad hO ?_ | refine usb hO ?_ | refine ult hO ?_ | refine ule hO ?_ | refine ugt hO ?_ | refine uge hO ?_ | refine ueq hO ?_ | refine une hO ?_ | refine ucv hO ?_ | refine uia hO ?_ | refine usv hO ?_ | refine ubu hO ?_ | refine uap hO ?_ | refine ubs hO ?_ | refine umm hO ?_ | refine upq hO ?_ | refine unq hO ?_ | refine uln hO ?_)) | (with_reducible refine (fN_eq _ _).trans ?_))
  all_goals (conv => lhs; whnf)
  all_goals first
    | (rw [show parG p = p.take (max i 1) by unfold parG; rw [hi]; rfl] at hf; exact hf)
    | (rw [show parG p = p.take 1 by unfold parG; rw [hz]; rfl] at hf; exact hf)
theorem hs_s {O : Oz} (hO : O = zO) (Φ : Phi) (s p : Bs) (hs : s.length ≤ 900000) (n : Nat) (m : T FObj) : Ret0 (p111 O Φ) [.s (pack s), .s (pack p)] n m (.b (hasSuf s p)) := fun k P hf => by
  repeat' ((conv => lhs; whnf); first | (((with_reducible refine lsS hO ?_); try simp only [List.length_cons, List.length_nil, Nat.zero_add])) | ((with_reducible refine geB hO (fun h => ?_) (fun h => ?_))) | ((with_reducible refine eqSB hO (fun h => ?_) (fun h => ?_))) | ((with_reducible refine sbI hO (by omega) (by omega) ?_)) | ((with_reducible refine ssL hO (by omega) ?_)))
  all_goals (conv => lhs; whnf)
  all_goals first
    | (rw [show hasSuf s p = true by unfold hasSuf; simp [*]] at hf; exact hf)
    | (rw [show hasSuf s p = false by unfold hasSuf; first | rw [decide_eq_false (by omega), Bool.false_and] | simp [*]] at hf; exact hf)
theorem hasSuf_le {s p : Bs} (h : hasSuf s p = true) : p.length ≤ s.length := by unfold hasSuf at h; simp at h; exact h.1
theorem ts2_s {O : Oz} (hO : O = zO) (Φ Φ1 : Phi) (H : Phi.fn Φ 111 = p111 O Φ1) (s : Bs) (hs : s.length ≤ 900000) (n : Nat) (m : T FObj) : Ret0 (p92 O Φ) [.s (pack s), .s (pack [47])] n m (.s (pack (trimG s))) := fun k P hf => by
  cases hsf : hasSuf s [47]
  · rw [show trimG s = s by unfold trimG; rw [hsf]; rfl] at hf
    repeat' ((conv => lhs; whnf); first | ((with_reducible refine atFn ?_); (rw [H]; refine hs_s hO Φ1 s _ hs _ _ _ _ ?_; rw [hsf])))
    all_goals (conv => lhs; whnf)
    all_goals first
      | exact hf
  · rw [show trimG s = s.take (s.length - 1) by unfold trimG; rw [hsf]; rfl] at hf
    have hle : 1 ≤ s.length := hasSuf_le hsf
    repeat' ((conv => lhs; whnf); first | ((with_reducible refine atFn ?_); (rw [H]; refine hs_s hO Φ1 s _ hs _ _ _ _ ?_; rw [hsf])) | (((with_reducible refine lsS hO ?_); try simp only [List.length_cons, List.length_nil, Nat.zero_add])) | ((with_reducible refine sbI hO (by omega) (by omega) ?_)) | ((with_reducible refine ssH hO (by omega) ?_)))
    all_goals (conv => lhs; whnf)
    all_goals first
      | exact hf
theorem ts_s {O : Oz} (hO : O = zO) (Φ Φ1 Φ2 : Phi) (H1 : Phi.fn Φ 92 = p92 O Φ1) (H : Phi.fn Φ1 111 = p111 O Φ2) (s : Bs) (hs : s.length ≤ 900000) (n : Nat) (m : T FObj) : Ret0 (p71 O Φ) [.s (pack s), .s (pack [47])] n m (.s (pack (trimG s))) := fun k P hf => by
  repeat' ((conv => lhs; whnf); first | ((with_reducible refine atFn ?_); (rw [H1]; refine ts2_s hO Φ1 Φ2 H s hs _ _ _ _ ?_)))
  all_goals (conv => lhs; whnf)
  all_goals first
    | exact hf
theorem trimG_le (d : Bs) : (trimG d).length ≤ d.length := by
  unfold trimG
  split
  · rw [List.length_take]; omega
  · exact Nat.le_refl _
def JoinS (H : HF) : Prop := ∀ (d x : Bs) (n : Nat) (m : T FObj), d.length ≤ 900000 → x.length ≤ 900000 → Ret0 H [.s (pack d), .s (pack x)] n m (.s (pack (joinG d x)))
theorem join_s {O : Oz} (hO : O = zO) (Φ Φ1 Φ2 Φ3 : Phi) (H2 : Phi.fn Φ 71 = p71 O Φ1) (H1 : Phi.fn Φ1 92 = p92 O Φ2) (H : Phi.fn Φ2 111 = p111 O Φ3) : JoinS (p38 O Φ) := fun d x n m hd hx k P hf => by
  have hle := trimG_le d
  have hl2 : (trimG d ++ [47]).length = (trimG d).length + 1 := by rw [List.length_append]; rfl
  repeat' ((conv => lhs; whnf); first | ((with_reducible refine adS hO (by simp only [List.length_cons, List.length_nil, hl2]; omega) ?_)) | ((with_reducible refine atFn ?_); (rw [H2]; refine ts_s hO Φ1 Φ2 Φ3 H1 H d hd _ _ _ _ ?_)))
  all_goals (conv => lhs; whnf)
  all_goals first
    | exact hf
end Go.Proofs.YtjoakhpdajlhiaaDoor.V2.S
namespace Go.Proofs.YtjoakhpdajlhiaaDoor.V2.S
open Go
theorem βL_rep (v : AV) : ∀ n, βL (List.replicate n v) = List.replicate n (βV v)
  | 0 => rfl
  | n + 1 => by rw [List.replicate_succ, List.replicate_succ, βL, βL_rep v n]
theorem flat_rep {α : Type} (a : α) : ∀ n, (List.replicate n [a]).flatten = List.replicate n a
  | 0 => rfl
  | n + 1 => by rw [List.replicate_succ, List.replicate_succ, List.flatten_cons, flat_rep a n]; rfl
theorem mkS {O : Oz} (hO : O = zO) {P : FR} {k : KV} {n a : Nat} {m : T FObj} {e : TypeId} (ha : a ≤ 1000000) (hn : n < 1000000) (h : k (.sl n 0 a a true 1) ⟨n + 1, mp m n (.cells (List.replicate a (.s (pack []))) e .exact)⟩ = P) : O.nq (.makeSl e 1 [.str []]) [.n .i64 a, .n .i64 a] ⟨n, m⟩ k = P := by
  subst hO
  show slN (decide ((0 : Int) ≤ Int.ofNat a) && decide (Int.ofNat a ≤ Int.ofNat a) && Nat.ble a 1000000, fun b => .sl b 0 a a true 1, .cells ((List.replicate a [.str []]).flatten) e .exact) ⟨n, m⟩ k = P
  rw [decide_eq_true (show (0 : Int) ≤ Int.ofNat a from Int.natCast_nonneg a), decide_eq_true (Int.le_refl _), ble_t ha, flat_rep]
  show (fO (βO (.cells (List.replicate a (.str [])) e .exact)) fun o => nM ⟨n, m⟩ o fun b σ => fV (βV (.sl b 0 a a true 1)) fun w => k w σ) = P
  rw [fO_eq]
  show (nM ⟨n, m⟩ (.cells (βL (List.replicate a (.str []))) e .exact) fun b σ => fV (.sl b 0 a a true 1) fun w => k w σ) = P
  rw [βL_rep, nM_mp hn, fV_eq]
  exact h
def firstS : Bs → Nat
  | [] => 0
  | c :: l => if c = 47 then 0 else firstS l + 1
def countS (l : Bs) : Nat := l.count 47
theorem split_none : ∀ {l : Bs}, countS l = 0 → splitB l = [l]
  | [], _ => rfl
  | c :: l, h => by
    have hc : c ≠ 47 := fun e => by subst e; simp [countS] at h
    have hl : countS l = 0 := by
      unfold countS at h ⊢
      rw [List.count_cons_of_ne hc] at h; exact h
    unfold splitB
    rw [if_neg hc, split_none hl]
theorem split_some : ∀ {l : Bs}, 0 < countS l → firstS l < l.length ∧ splitB l = l.take (firstS l) :: splitB (l.drop (firstS l + 1)) ∧ countS (l.drop (firstS l + 1)) + 1 = countS l
  | [], h => by simp [countS] at h
  | c :: l, h => by
    unfold firstS
    by_cases hc : c = 47
    · subst hc
      rw [if_pos rfl]
      refine ⟨by simp, ?_, by simp [countS]⟩
      rw [splitB, if_pos rfl]; rfl
    · rw [if_neg hc]
      have hl : 0 < countS l := by unfold countS at h ⊢; rwa [List.count_cons_of_ne hc] at h
      obtain ⟨h1, h2, h3⟩ := split_some hl
      refine ⟨by simpa using h1, ?_, ?_⟩
      · rw [splitB, if_neg hc, h2]; rfl
      · have : countS (c :: l) = countS l := by unfold countS; exact List.count_cons_of_ne hc
        rw [this, ← h3]; rfl
theorem split_len : ∀ (l : Bs), (splitB l).length = countS l + 1
  | [] => rfl
  | c :: l => by
    unfold splitB
    have ih := split_len l
    by_cases hc : c = 47
    · subst hc; rw [if_pos rfl]; simp [countS] at ih ⊢; exact ih
    · rw [if_neg hc]
      have : countS (c :: l) = countS l := by unfold countS; exact List.count_cons_of_ne hc
      rw [this]
      cases h : splitB l with
      | nil => rw [h] at ih; simp at ih
      | cons p ps => rw [h] at ih; simpa using ih
theorem countS_le (l : Bs) : countS l ≤ l.length := List.count_le_length
theorem drop_of_get {α : Type} : ∀ {l : List α} {i : Nat} {a : α}, l[i]? = some a → l.drop i = a :: l.drop (i + 1)
  | [], i, a, h => by simp at h
  | b :: l, 0, a, h => by simp at h; subst h; rfl
  | b :: l, i + 1, a, h => by
    have h : l[i]? = some a := by simpa using h
    exact drop_of_get (l := l) h
theorem split_mem_le : ∀ {l p : Bs}, p ∈ splitB l → p.length ≤ l.length
  | [], p, h => by
    have h : p ∈ ([[]] : List Bs) := h
    simp at h; subst h; exact Nat.le_refl _
  | c :: l, p, h => by
    unfold splitB at h
    by_cases hc : c = 47
    · rw [if_pos hc] at h
      rcases List.mem_cons.1 h with h | h
      · subst h; simp
      · have := split_mem_le h; simp only [List.length_cons]; omega
    · rw [if_neg hc] at h
      cases hs : splitB l with
      | nil => rw [hs] at h; simp at h; subst h; simp
      | cons q qs =>
        rw [hs] at h
        rcases List.mem_cons.1 h with h | h
        · have : q ∈ splitB l := by rw [hs]; exact List.mem_cons_self
          have := split_mem_le this
          subst h; simp only [List.length_cons]; omega
        · have : p ∈ splitB l := by rw [hs]; exact List.mem_cons_of_mem _ h
          have := split_mem_le this
          simp only [List.length_cons]; omega
def vsL (l : List Bs) : List FV := l.map fun s => .s (pack s)
theorem vsL_at {l : List Bs} {i : Nat} {s : Bs} (h : l[i]? = some s) : (vsL l)[i]? = some (.s (pack s)) := by unfold vsL; rw [List.getElem?_map, h]; rfl
theorem vsL_len (l : List Bs) : (vsL l).length = l.length := List.length_map _
theorem vsL_set (a : List Bs) (s : Bs) (k : Nat) : (vsL a ++ List.replicate (k + 1) (FV.s (pack []))).set a.length (.s (pack s)) = vsL (a ++ [s]) ++ List.replicate k (.s (pack [])) := by
  have e : a.length = (vsL a).length := (vsL_len a).symm
  rw [e, List.set_append_right _ _ (Nat.le_refl _), Nat.sub_self, List.replicate_succ]
  unfold vsL
  rw [List.map_append, List.append_assoc]; rfl
end Go.Proofs.YtjoakhpdajlhiaaDoor.V2.S
namespace Go.Proofs.YtjoakhpdajlhiaaDoor.V2.S
open Go
set_option maxRecDepth 100000
set_option maxHeartbeats 4000000
set_option linter.unusedVariables false
attribute [local irreducible] fN fO nM gM pM Phi.fn mp bl bpart bapp top1 pack
def CntS (H : HF) : Prop := ∀ (l : Bs) σ k, H [.s (pack l), .s (pack [47])] σ k = k (.n .i64 (countS l)) σ
def IxS (H : HF) : Prop := ∀ (l : Bs) σ k, H [.s (pack l), .s (pack [47])] σ k = if 0 < countS l then k (.n .i64 (firstS l)) σ else k (.z .i64 0) σ
def SplitS (H : HF) : Prop := ∀ (l : Bs), l.length ≤ 900000 → ∀ n m, RetX 1 [] H [.s (pack l), .s (pack [47])] n m (fun v n' m' => ∃ b Kk, v = .sl b 0 (countS l + 1) Kk true 1 ∧ n ≤ b ∧ b < n' ∧ Am m' b (.cells (vsL (splitB l)) 9 .exact))
theorem gsplit_s {O : Oz} (hO : O = zO) (Φ : Phi) (HC : CntS (Phi.fn Φ 88)) (HI : IxS (Phi.fn Φ 89)) (l : Bs) (hl : l.length ≤ 900000) (n : Nat) (m : T FObj) : RetX 1 [] (p67 O Φ) [.s (pack l), .s (pack [47]), .n .i64 0, .z .i64 0] n m (fun v n' m' => ∃ b Kk, v = .sl b 0 (countS l + 1) Kk true 1 ∧ n ≤ b ∧ b < n' ∧ Am m' b (.cells (vsL (splitB l)) 9 .exact)) := fun k P hn hf => by
  have hcl := countS_le l
  have hmin : min (countS l + 1) (l.length + 1) = countS l + 1 := by omega
  repeat' ((conv => lhs; whnf); first | ((with_reducible refine mnI hO ?_); rw [hmin]) | ((with_reducible refine mkS hO (by omega) (by omega) ?_)) | ((with_reducible refine atFn ?_); refine (HC _ _ _).trans ?_) | (((with_reducible refine lsS hO ?_); try simp only [List.length_cons, List.length_nil, Nat.zero_add])) | ((with_reducible refine eqSF hO (by first | assumption | decide) ?_)) | ((with_reducible refine adI hO (by omega) ?_)) | ((with_reducible refine sbI hO (by omega) (by omega) ?_)) | ((with_reducible first | refine umt hO ?_ | refine uqu hO ?_ | refine urm hO ?_ | refine uan hO ?_ | refine uro hO ?_ | refine uxr hO ?_ | refine uhl hO ?_ | refine uhr hO ?_ | refine uad hO ?_ | refine usb hO ?_ | refine ult hO ?_ | refine ule hO ?_ | refine ugt hO ?_ | refine uge hO ?_ | refine ueq hO ?_ | refine une hO ?_ | refine ucv hO ?_ | refine uia hO ?_ | refine usv hO ?_ | refine ubu hO ?_ | refine uap hO ?_ | refine ubs hO ?_ | refine umm hO ?_ | refine upq hO ?_ | refine unq hO ?_ | refine uln hO ?_)))
  all_goals (conv => lhs; whnf)
  all_goals first
    | refine lpI hO (fun t e n' m' => ∃ i rest done, i ≤ countS l ∧ t = countS l - i ∧ n' = n + 1 ∧ Kp n m m' ∧ Am m' n (.cells (vsL done ++ List.replicate (countS l + 1 - i) (.s (pack []))) 9 .exact) ∧ splitB l = done ++ splitB rest ∧ done.length = i ∧ countS rest = countS l - i ∧ rest.length ≤ l.length ∧ e = eof [(0, .s (pack rest)), (3, .n .i64 (countS l + 1 - 1)), (8, .o .sl), (10, .n .i64 i)]) ?_ ?_ _ (countS l) _ _ _ (by omega) ⟨0, l, [], by omega, by omega, rfl, kQ, am_same (by omega), rfl, rfl, by omega, by omega, rfl⟩
  · rintro t e n' m' ⟨i, rest, done, _, _, rfl, _⟩
    omega
  · rintro t e n' m' ih ⟨i, rest, done, hi, rfl, rfl, hk, ham, hsp, hdl, hcr, hrl, rfl⟩ hih
    rcases Nat.lt_or_ge i (countS l) with hlt | hge
    · obtain ⟨q1, q2, q3⟩ := split_some (l := rest) (by omega)
      have hI2 : ∀ σ k, Phi.fn Φ 89 [.s (pack rest), .s (pack [47])] σ k = k (.n .i64 (firstS rest)) σ := fun σ k => by rw [HI, if_pos (by omega)]
      repeat' ((conv => lhs; whnf); first | ((with_reducible refine atFn ?_); refine (hI2 _ _).trans ?_) | (((with_reducible refine lsS hO ?_); try simp only [List.length_cons, List.length_nil, Nat.zero_add])) | ((with_reducible refine ltT hO (by omega) ?_)) | ((with_reducible refine ltF hO (by omega) ?_)) | ((with_reducible refine adI hO (by omega) ?_)) | ((with_reducible refine ix01 hO (by omega) ?_)) | ((with_reducible refine ssH hO (by omega) ?_)) | ((with_reducible refine ssL hO (by omega) ?_)) | ((with_reducible refine atSt ?_); refine stC2 hO aQ (by simp only [List.length_append, vsL_len, List.length_replicate]; omega) (fun _ _ _ => rfl) (fun _ => rfl) ?_))
      all_goals (conv => lhs; whnf)
      all_goals first
        | exact hih (countS l - (i + 1)) _ _ _ (by omega) ⟨i + 1, rest.drop (firstS rest + 1), done ++ [rest.take (firstS rest)], by omega, rfl, rfl, kQ, by
            have e1 := vsL_set done (rest.take (firstS rest)) (countS l - i)
            rw [show countS l + 1 - i = countS l - i + 1 by omega] at ham ⊢
            rw [hdl] at e1
            first | (rw [show countS l + 1 - (i + 1) = countS l - i by omega, ← e1]; exact am_same (by omega)), by rw [hsp, q2, List.append_assoc]; rfl, by rw [List.length_append, hdl]; rfl, by omega, by rw [List.length_drop]; omega, rfl⟩
    · have hz : countS rest = 0 := by omega
      repeat' ((conv => lhs; whnf); first | ((with_reducible refine ltF hO (by omega) ?_)) | ((with_reducible refine adI hO (by omega) ?_)) | ((with_reducible refine ix01 hO (by omega) ?_)) | ((with_reducible refine svH hO (by omega) ?_)) | ((with_reducible refine atSt ?_); refine stC2 hO aQ (by simp only [List.length_append, vsL_len, List.length_replicate]; omega) (fun _ _ _ => rfl) (fun _ => rfl) ?_))
      all_goals (conv => lhs; whnf)
      all_goals first
        | exact hf _ _ _ (by omega) (by omega) (Kq.of kQ _) ⟨n, _, by rw [show countS l = i by omega], Nat.le_refl _, by omega, by
            have e1 := vsL_set done rest 0
            rw [hdl] at e1
            rw [hsp, split_none hz]
            rw [show countS l + 1 - i = 0 + 1 by omega] at *
            first | (rw [e1]; simp only [List.replicate_zero, List.append_nil]; exact am_same (by omega))⟩
theorem split_s {O : Oz} (hO : O = zO) (Φ Φ1 : Phi) (H : Phi.fn Φ 67 = p67 O Φ1) (HC : CntS (Phi.fn Φ1 88)) (HI : IxS (Phi.fn Φ1 89)) : SplitS (p34 O Φ) := fun l hl n m k P hn hf => by
  repeat' ((conv => lhs; whnf); first | ((with_reducible refine atFn ?_); (rw [H]; refine gsplit_s hO Φ1 HC HI l hl _ _ _ _ (by omega) (fun v1 n1 m1 h1 g1 hk1 hq1 => ?_))))
  all_goals (conv => lhs; whnf)
  all_goals first
    | exact hf _ _ _ (by omega) (by omega) hk1 hq1
end Go.Proofs.YtjoakhpdajlhiaaDoor.V2.S
namespace Go.Proofs.YtjoakhpdajlhiaaDoor.V2.S
open Go
set_option maxRecDepth 100000
set_option maxHeartbeats 4000000
set_option linter.unusedVariables false
attribute [local irreducible] fN fO nM gM pM Phi.fn mp bl bpart bapp top1 pack
def NoneS (H : HF) : Prop := ∀ {tb mb : Nat} {t : Tr} {n : Nat} {m : T FObj}, TreeAt m tb mb 65 t → Ret0 H [.p tb 0] n m (.b false)
def KindS (H : HF) : Prop := ∀ {tb mb : Nat} {t : Tr} {n : Nat} {m : T FObj}, TreeAt m tb mb 65 t → tb < n → mb < n → ∀ p, Ret 1 H [.p tb 0, .s (pack p)] n m (.n .i64 (kindG t p))
def HpS (H : HF) : Prop := ∀ (s p : Bs), s.length ≤ 9223372036854775807 → ∀ (n : Nat) (m : T FObj), Ret0 H [.s (pack s), .s (pack p)] n m (.b (hasPre s p))
def NamedS (H : HF) : Prop := ∀ (s : Bs) (n : Nat) (m : T FObj), s.length ≤ 900000 → Ret 1 H [.s (pack s)] n m (.b (nameB s))
def AbsS (H : HF) : Prop := ∀ {tb mb : Nat} {t : Tr} {n : Nat} {m : T FObj}, TreeAt m tb mb 65 t → tb < n → mb < n → 1 ≤ t.cwd.length → t.cwd.length ≤ 256 → ∀ (path : Bs), path.length ≤ 900000 → Ret 600 H [.p tb 0, .s (pack path)] n m (.tup [.s (pack (absG t path).1), .n .i64 (absG t path).2])
theorem nameB_le {s : Bs} (h : nameB s = true) : s.length ≤ 32 := by unfold nameB at h; simp at h; exact h.1.2
theorem parG_le (a : Bs) : (parG a).length ≤ a.length := by unfold parG; rw [List.length_take]; omega
theorem parG_pos {a : Bs} (h : 1 ≤ a.length) : 1 ≤ (parG a).length := by unfold parG; rw [List.length_take]; omega
theorem joinG_le (a b : Bs) : (joinG a b).length ≤ a.length + 1 + b.length := by
  have := trimG_le a
  unfold joinG; simp only [List.length_append, List.length_cons, List.length_nil]; omega
theorem joinG_pos (a b : Bs) : 1 ≤ (joinG a b).length := by unfold joinG; simp only [List.length_append, List.length_cons, List.length_nil]; omega
theorem loopG_step {t : Tr} {a b p : Bs} {ps : List Bs} (h : stepG t a p = .inr b) : loopG t a (p :: ps) = loopG t b ps := by rw [loopG, h]
theorem loopG_err {t : Tr} {a p : Bs} {e : Nat} {ps : List Bs} (h : stepG t a p = .inl e) : loopG t a (p :: ps) = .inl e := by rw [loopG, h]
theorem abs_s {O : Oz} (hO : O = zO) (Φ : Phi) (H1 : NoneS (Phi.fn Φ 28)) (H2 : KindS (Phi.fn Φ 35)) (H3 : HpS (Phi.fn Φ 33)) (H4 : NamedS (Phi.fn Φ 36)) (H5 : SplitS (Phi.fn Φ 34)) (H6 : ParS (Phi.fn Φ 37)) (H7 : JoinS (Phi.fn Φ 38)) : AbsS (p12 O Φ) := fun {tb mb t n m} hT htb hmb hc1 hc2 path hpl k P hn hf => by
  have hT1 := hT.s
  have hT2 := hT.m
  have fin : ∀ n' m', path.length ≤ 256 → path ≠ [] → n ≤ n' → n' ≤ n + 600 → Kp n m m' → ∀ (r : Nat ⊕ Bs), loopG t (if hasPre path [47] then [47] else t.cwd) (splitB path) = r → k (.tup [.s (pack (match r with | .inl _ => [] | .inr a => a)), .n .i64 (match r with | .inl e => e | .inr _ => 0)]) ⟨n', m'⟩ = P := fun n' m' h1 h2 h3 h4 h5 r hr => by
    have := hf n' m' h3 h4 h5
    unfold absG at this
    rw [if_neg (by rintro (h | h); exact h2 h; omega), hr] at this
    cases r <;> exact this
  have key : ∀ (at0 : Bs), (if hasPre path [47] then [47] else t.cwd) = at0 → path.length ≤ 256 → path ≠ [] → 1 ≤ at0.length → at0.length ≤ 256 → ∀ (b Kk n1 : Nat) (m1 : T FObj), n ≤ n1 → n1 ≤ n + 1 → n ≤ b → b < n1 → Kp n m m1 → Am m1 b (.cells (vsL (splitB path)) 9 .exact) → ∀ (kn kr : K2) (ke : Nat → K2) (cd : Cd),
      (∀ i at_ n' m' (ih : K2), i ≤ countS path + 1 → n ≤ n' → n' ≤ n + 1 + 2 * i → Kp n m m' → Am m' b (.cells (vsL (splitB path)) 9 .exact) → loopG t at0 (splitB path) = loopG t at_ ((splitB path).drop i) → 1 ≤ at_.length → at_.length ≤ 256 + 33 * i → b < n' →
        (∀ at2 n2 m2, i < countS path + 1 → n ≤ n2 → n2 ≤ n + 1 + 2 * (i + 1) → Kp n m m2 → Am m2 b (.cells (vsL (splitB path)) 9 .exact) → loopG t at0 (splitB path) = loopG t at2 ((splitB path).drop (i + 1)) → 1 ≤ at2.length → at2.length ≤ 256 + 33 * (i + 1) → b < n2 → ih (eof [(4, .s (pack [])), (5, .n .i64 0), (6, .s (pack at2)), (30, .n .i64 (i + 1))]) ⟨n2, m2⟩ = P) →
        cd Φ n ih kr ke (eof [(4, .s (pack [])), (5, .n .i64 0), (6, .s (pack at_)), (30, .n .i64 i)]) ⟨n', m'⟩ = P) →
      O.lp 1000000 cd Φ n kn kr ke (eof [(4, .s (pack [])), (5, .n .i64 0), (6, .s (pack at0)), (30, .n .i64 0)]) ⟨n1, m1⟩ = P := fun at0 hat h1 h2 h3 h4 b Kk n1 m1 g1 g2 g3 g4 g5 g6 kn kr ke cd hs => by
    have hcl := countS_le path
    refine lpI hO (fun q e n' m' => ∃ i at_, i ≤ countS path + 1 ∧ q = countS path + 1 - i ∧ n ≤ n' ∧ n' ≤ n + 1 + 2 * i ∧ Kp n m m' ∧ Am m' b (.cells (vsL (splitB path)) 9 .exact) ∧ loopG t at0 (splitB path) = loopG t at_ ((splitB path).drop i) ∧ 1 ≤ at_.length ∧ at_.length ≤ 256 + 33 * i ∧ b < n' ∧ e = eof [(4, .s (pack [])), (5, .n .i64 0), (6, .s (pack at_)), (30, .n .i64 i)]) ?_ ?_ _ (countS path + 1) _ _ _ (by omega) ⟨0, at0, by omega, by omega, g1, by omega, g5, g6, rfl, h3, by omega, g4, rfl⟩
    · rintro q e n' m' ⟨i, at_, _, _, h, _⟩; exact h
    · rintro q e n' m' ih ⟨i, at_, q1, rfl, q2, q3, q4, q5, q6, q7, q8, q9, rfl⟩ hih
      exact hs i at_ n' m' ih q1 q2 q3 q4 q5 q6 q7 q8 q9 fun at2 n2 m2 r0 r1 r2 r3 r4 r5 r6 r7 r8 => hih (countS path + 1 - (i + 1)) _ _ _ (by omega) ⟨i + 1, at2, by omega, rfl, r1, r2, r3, r4, r5, r6, r7, r8, rfl⟩
  repeat' ((conv => lhs; whnf); first | ((with_reducible refine atFn ?_); first | refine H1 (hT.kp kQ htb hmb) _ _ ?_ | refine H3 _ _ (by omega) _ _ _ _ ?_ | (refine H5 _ (by omega) _ _ _ _ (by omega) ?_; rintro v1 n1 m1 h1 g1 hk1 ⟨b, Kk, rfl, q1, q2, q3⟩)) | ((with_reducible refine fa0 hO ?_)) | ((with_reducible refine atLd ?_); refine ldC hO aQ (by rfl) ?_) | (((with_reducible refine lsS hO ?_); try simp only [List.length_cons, List.length_nil, Nat.zero_add])) | ((with_reducible refine lvS hO ?_)) | ((with_reducible refine gtB hO (fun h => ?_) (fun h => ?_))) | ((with_reducible refine eqSB hO (fun h => ?_) (fun h => ?_))) | ((with_reducible refine atB ?_); refine brec (fun h => ?_) (fun h => ?_)))
  all_goals (conv => lhs; whnf)
  all_goals first
    | (have e : absG t path = ([], 23) := by unfold absG; rw [if_pos (by first | exact .inl (by assumption) | exact .inr (by omega))]
       rw [e] at hf; exact hf _ _ (by omega) (by omega) kQ)
    | (have hne : path ≠ [] := by assumption
       have hk2 : Kp n m m1 := hk1.kp
       clear hf
       have hle : path.length ≤ 256 := by omega
       first
         | refine key [47] (if_pos (by assumption)) hle hne (by decide) (by decide) b Kk n1 m1 h1 g1 q1 q2 hk2 q3 _ _ _ _ ?_
         | refine key t.cwd (if_neg (by simp [*])) hle hne hc1 hc2 b Kk n1 m1 h1 g1 q1 q2 hk2 q3 _ _ _ _ ?_)
  all_goals (
    intro i at_ n' m' ih z1 z2 z3 z4 z5 z6 z7 z8 z9 hih
    have hcl := countS_le path
    have e1 := parG_le at_
    have e2 := parG_pos z7
    rcases Nat.lt_or_ge i (countS path + 1) with hlt | hge)
  all_goals first
    | (have hi1 : i < countS path + 1 := hlt
       obtain ⟨p, hp⟩ : ∃ p, (splitB path)[i]? = some p := ⟨_, List.getElem?_eq_getElem (by rw [split_len]; omega)⟩
       have hdr := drop_of_get hp
       have hpm : p.length ≤ path.length := split_mem_le (List.mem_of_getElem? hp)
       have e3 := joinG_le at_ p
       have e4 := joinG_pos at_ p
       repeat' ((conv => lhs; whnf); first | ((with_reducible refine atFn ?_); first | refine H2 (hT.kp kQ htb hmb) (by omega) (by omega) _ _ _ (by omega) (fun n3 m3 h3 g3 k3 => ?_) | refine H4 _ _ _ (by omega) _ _ (by omega) (fun n3 m3 h3 g3 k3 => ?_) | refine H6 _ _ _ (by omega) (by omega) _ _ ?_ | refine H7 _ _ _ _ (by omega) (by omega) _ _ ?_) | ((with_reducible refine atLd ?_); refine ldC hO aQ (vsL_at hp) ?_) | ((with_reducible refine ltT hO (by omega) ?_)) | ((with_reducible refine eqB hO (fun h => ?_) (fun h => ?_))) | ((with_reducible refine eqST hO (by first | rfl | assumption) ?_)) | ((with_reducible refine eqSF hO (by first | assumption | decide) ?_)) | ((with_reducible refine eqSB hO (fun h => ?_) (fun h => ?_))) | ((with_reducible refine neSB hO (fun h => ?_) (fun h => ?_))) | ((with_reducible refine adI hO (by omega) ?_)) | ((with_reducible refine ix01 hO (by omega) ?_)) | ((with_reducible refine atB ?_); refine brec (fun h => ?_) (fun h => ?_)))
       all_goals (conv => lhs; whnf)
       all_goals first
         | exact hih at_ _ _ hi1 (by omega) (by omega) kQ aQ (by rw [z6, hdr, loopG_step (b := at_) (by unfold stepG; rw [if_pos (by first | exact .inl (by assumption) | exact .inr (by assumption))])]) (by omega) (by omega) (by omega)
         | exact fin _ _ hle hne (by omega) (by omega) kQ (.inl 23) (by (first | rw [if_pos (by assumption), z6, hdr] | rw [if_neg (by simp [*]), z6, hdr]); exact loopG_err (by unfold stepG; simp [*]))
         | exact fin _ _ hle hne (by omega) (by omega) kQ (.inl 6) (by (first | rw [if_pos (by assumption), z6, hdr] | rw [if_neg (by simp [*]), z6, hdr]); exact loopG_err (by unfold stepG; simp [*]))
         | exact fin _ _ hle hne (by omega) (by omega) kQ (.inl 5) (by (first | rw [if_pos (by assumption), z6, hdr] | rw [if_neg (by simp [*]), z6, hdr]); exact loopG_err (by unfold stepG; simp [*]))
         | exact hih (parG at_) _ _ hi1 (by omega) (by omega) kQ aQ (by rw [z6, hdr]; exact loopG_step (by unfold stepG; simp [*])) (by omega) (by omega) (by omega)
         | (have e5 := nameB_le (s := p) (by assumption)
            exact hih (joinG at_ p) _ _ hi1 (by omega) (by omega) kQ aQ (by rw [z6, hdr]; exact loopG_step (by unfold stepG; simp [*])) (by omega) (by omega) (by omega)))
    | (have hi1 : countS path + 1 ≤ i := hge
       repeat' ((conv => lhs; whnf); first | ((with_reducible refine ltF hO (by omega) ?_)))
       all_goals (conv => lhs; whnf)
       all_goals first
         | exact fin _ _ hle hne (by omega) (by omega) kQ (.inr at_) (by (first | rw [if_pos (by assumption), z6, List.drop_of_length_le (by rw [split_len]; omega)] | rw [if_neg (by simp [*]), z6, List.drop_of_length_le (by rw [split_len]; omega)]); rfl))
end Go.Proofs.YtjoakhpdajlhiaaDoor.V2.S
namespace Go.Proofs.YtjoakhpdajlhiaaDoor.V2.S
open Go
set_option maxRecDepth 100000
set_option maxHeartbeats 4000000
set_option linter.unusedVariables false
attribute [local irreducible] fN fO nM gM pM Phi.fn mp bl bpart bapp top1 pack
def UsedS (H : HF) : Prop := ∀ {tb mb : Nat} {t : Tr} {n : Nat} {m : T FObj}, TreeAt m tb mb 65 t → tb < n → mb < n → WfT t → Ret 140 H [.p tb 0] n m (.tup [.n .i64 t.L.length, .n .i64 (sizesG t.L)])
def PutS (H : HF) : Prop := ∀ {tb mb : Nat} {t : Tr} {n : Nat} {m : T FObj}, TreeAt m tb mb 65 t → tb < n → mb < n → tb ≠ mb → WfT t → ∀ (x : En), x.path.length ≤ 900000 → x.data.length ≤ 900000 → RetX 150 [mb] H [.p tb 0, entV x] n m (fun v n' m' => v = .n .i64 (putG t x).2 ∧ TreeAt m' tb mb 65 (putG t x).1)
theorem put_s {O : Oz} (hO : O = zO) (Φ : Phi) (H : UsedS (Phi.fn Φ 52)) : PutS (p39 O Φ) := fun {tb mb t n m} hT htb hmb htm hW x hx1 hx2 k P hn hf => by
  have hT1 := hT.s
  have hT2 := hT.m
  have hwl := hW.len
  have hws := hW.sz
  repeat' ((conv => lhs; whnf); first | ((with_reducible refine atFn ?_); refine H (hT.kp kQ htb hmb) (by omega) (by omega) hW _ _ (by omega) (fun n3 m3 h3 g3 k3 => ?_)) | ((with_reducible refine fa0 hO ?_)) | ((with_reducible refine atLd ?_); refine ldC hO aQ (by rfl) ?_) | (((with_reducible refine lsS hO ?_); try simp only [List.length_cons, List.length_nil, Nat.zero_add])) | ((with_reducible refine gtF hO (by omega) ?_)) | ((with_reducible refine gtB hO (fun h => ?_) (fun h => ?_))) | ((with_reducible refine adI hO (by omega) ?_)) | ((with_reducible refine sbI hO (by omega) (by omega) ?_)) | ((with_reducible refine atSt ?_); refine ust hO ?_) | ((with_reducible refine alO hO (by omega) ?_)) | ((with_reducible refine atBx ?_); refine bxA hO (by omega) (by simp only [αL, αV, AObj.of, allInt, βO, βL, βV, unp_pack]) ?_) | ((with_reducible refine atLk ?_); refine lkS hO aQ (fun a hla => (fun hsz => ?_) (look_sizes hla)) (fun hla => ?_)) | ((with_reducible refine atMu ?_); refine muS (x := x) hO aQ (by rfl) (by rfl) ?_) | ((with_reducible first | refine umt hO ?_ | refine uqu hO ?_ | refine urm hO ?_ | refine uan hO ?_ | refine uro hO ?_ | refine uxr hO ?_ | refine uhl hO ?_ | refine uhr hO ?_ | refine uad hO ?_ | refine usb hO ?_ | refine ult hO ?_ | refine ule hO ?_ | refine ugt hO ?_ | refine uge hO ?_ | refine ueq hO ?_ | refine une hO ?_ | refine ucv hO ?_ | refine uia hO ?_ | refine usv hO ?_ | refine ubu hO ?_ | refine uap hO ?_ | refine ubs hO ?_ | refine umm hO ?_ | refine upq hO ?_ | refine unq hO ?_ | refine uln hO ?_)) | (with_reducible refine (fN_eq _ _).trans ?_) | (with_reducible refine pM_mp.trans ?_) | (refine gM_amP aQ ?_))
  all_goals (conv => lhs; whnf)
  all_goals first
    | (have e : putG t x = (t, 3) := by unfold putG; rw [if_pos (by first | exact .inl (by omega) | exact .inr (by omega))]
       rw [e] at hf
       exact hf _ _ _ (by omega) (by omega) qQ ⟨rfl, hT.kp kQ htb hmb⟩)
    | (have em : manyG t x = t.L.length := by unfold manyG look; rw [hla]
       have eb : bytesG t x = sizesG t.L - a.data.length := by unfold bytesG look; rw [hla]
       first
         | (have e : putG t x = (t, 7) := by unfold putG; rw [if_neg (by omega), if_pos (by first | exact .inl (by omega) | exact .inr (by omega))]
            rw [e] at hf
            exact hf _ _ _ (by omega) (by omega) qQ ⟨rfl, hT.kp kQ htb hmb⟩)
         | (have e : putG t x = ({ t with L := setM En.path x t.L }, 0) := by unfold putG; rw [if_neg (by omega), if_neg (by omega)]
            rw [e] at hf
            exact hf _ _ _ (by omega) (by omega) qQ ⟨rfl, ⟨aQ, am_same (by omega)⟩⟩))
    | (have em : manyG t x = t.L.length + 1 := by unfold manyG look; rw [hla]
       have eb : bytesG t x = sizesG t.L + x.path.length := by unfold bytesG look; rw [hla]
       first
         | (have e : putG t x = (t, 7) := by unfold putG; rw [if_neg (by omega), if_pos (by first | exact .inl (by omega) | exact .inr (by omega))]
            rw [e] at hf
            exact hf _ _ _ (by omega) (by omega) qQ ⟨rfl, hT.kp kQ htb hmb⟩)
         | (have e : putG t x = ({ t with L := setM En.path x t.L }, 0) := by unfold putG; rw [if_neg (by omega), if_neg (by omega)]
            rw [e] at hf
            exact hf _ _ _ (by omega) (by omega) qQ ⟨rfl, ⟨aQ, am_same (by omega)⟩⟩))
end Go.Proofs.YtjoakhpdajlhiaaDoor.V2.S
namespace Go.Proofs.YtjoakhpdajlhiaaDoor.V2.S
open Go
set_option maxRecDepth 100000
set_option maxHeartbeats 4000000
set_option linter.unusedVariables false
attribute [local irreducible] fN fO nM gM pM Phi.fn mp bl bpart bapp top1 pack
theorem stepG_le {t : Tr} {a b p : Bs} (h : stepG t a p = .inr b) : b.length ≤ a.length + 33 := by
  have e1 := parG_le a
  have e2 := joinG_le a p
  unfold stepG at h
  split at h
  · cases h; omega
  split at h
  · cases h
  split at h
  · cases h
  split at h
  · cases h
  split at h
  · cases h; omega
  · rename_i h1 _ _ h4
    cases h
    have hn : nameB p = true := by
      cases hb : nameB p with
      | true => rfl
      | false => exact absurd ⟨h4, hb⟩ h1
    have := nameB_le hn
    omega
theorem loopG_le {t : Tr} : ∀ {ps : List Bs} {a b : Bs}, loopG t a ps = .inr b → b.length ≤ a.length + 33 * ps.length
  | [], a, b, h => by unfold loopG at h; cases h; exact Nat.le_refl _
  | p :: ps, a, b, h => by
    unfold loopG at h
    cases hs : stepG t a p with
    | inl e => rw [hs] at h; cases h
    | inr c =>
      rw [hs] at h
      have h1 := stepG_le hs
      have h2 := loopG_le (ps := ps) h
      simp only [List.length_cons]; omega
theorem absG_le {t : Tr} {path : Bs} (hc1 : t.cwd.length ≤ 256) (h : path.length ≤ 900000) : (absG t path).1.length ≤ 100000 := by
  unfold absG
  split
  · exact Nat.zero_le _
  · rename_i hh
    have hp : path.length ≤ 256 := by
      rcases Nat.lt_or_ge 256 path.length with h1 | h1
      · exact absurd (.inr h1) hh
      · exact h1
    have hs := split_len path
    have hc := countS_le path
    cases hl : loopG t (if hasPre path [47] then [47] else t.cwd) (splitB path) with
    | inl e => exact Nat.zero_le _
    | inr a =>
      have := loopG_le hl
      show a.length ≤ 100000
      split at this
      · simp only [List.length_cons, List.length_nil] at this; omega
      · omega
def MakeS (H : HF) : Prop := ∀ {tb mb : Nat} {t : Tr} {n : Nat} {m : T FObj}, TreeAt m tb mb 65 t → tb < n → mb < n → tb ≠ mb → WfT t → ∀ (path : Bs), path.length ≤ 900000 → RetX 760 [mb] H [.p tb 0, .s (pack path)] n m (fun v n' m' => v = .n .i64 (makeG t path).2 ∧ TreeAt m' tb mb 65 (makeG t path).1)
theorem make_s {O : Oz} (hO : O = zO) (Φ : Phi) (HA : AbsS (Phi.fn Φ 12)) (HK : KindS (Phi.fn Φ 35)) (HP : PutS (Phi.fn Φ 39)) : MakeS (p14 O Φ) := fun {tb mb t n m} hT htb hmb htm hW path hpl k P hn hf => by
  have hT1 := hT.s
  have hT2 := hT.m
  have hal := absG_le (t := t) (path := path) hW.c2 hpl
  repeat' ((conv => lhs; whnf); first | ((with_reducible refine atFn ?_); first | refine HA (hT.kp kQ htb hmb) (by omega) (by omega) hW.c1 hW.c2 _ (by omega) _ _ (by omega) (fun n3 m3 h3 g3 k3 => ?_) | refine HK (hT.kp kQ htb hmb) (by omega) (by omega) _ _ _ (by omega) (fun n4 m4 h4 g4 k4 => ?_) | refine HP (hT.kp kQ htb hmb) (by omega) (by omega) htm hW ⟨(absG t path).1, true, []⟩ (by show (absG t path).1.length ≤ 900000; omega) (by show 0 ≤ 900000; omega) _ _ (by omega) (fun v5 n5 m5 h5 g5 k5 q5 => ?_)) | ((with_reducible refine neB hO (fun h => ?_) (fun h => ?_))) | ((with_reducible first | refine umt hO ?_ | refine uqu hO ?_ | refine urm hO ?_ | refine uan hO ?_ | refine uro hO ?_ | refine uxr hO ?_ | refine uhl hO ?_ | refine uhr hO ?_ | refine uad hO ?_ | refine usb hO ?_ | refine ult hO ?_ | refine ule hO ?_ | refine ugt hO ?_ | refine uge hO ?_ | refine ueq hO ?_ | refine une hO ?_ | refine ucv hO ?_ | refine uia hO ?_ | refine usv hO ?_ | refine ubu hO ?_ | refine uap hO ?_ | refine ubs hO ?_ | refine umm hO ?_ | refine upq hO ?_ | refine unq hO ?_ | refine uln hO ?_)))
  all_goals (conv => lhs; whnf)
  all_goals first
    | (have e : makeG t path = (t, (absG t path).2) := by unfold makeG; rw [if_pos (by assumption)]
       rw [e] at hf; exact hf _ _ _ (by omega) (by omega) qQ ⟨rfl, hT.kp kQ htb hmb⟩)
    | (have e : makeG t path = (t, 9) := by unfold makeG; rw [if_neg (by simp [*]), if_pos (by assumption)]
       rw [e] at hf; exact hf _ _ _ (by omega) (by omega) qQ ⟨rfl, hT.kp kQ htb hmb⟩)
    | (have e : makeG t path = putG t ⟨(absG t path).1, true, []⟩ := by unfold makeG; rw [if_neg (by simp [*]), if_neg (by simp [*])]
       rw [e] at hf; exact hf _ _ _ (by omega) (by omega) qQ q5)
def IsS (H : HF) : Prop := ∀ {tb mb : Nat} {t : Tr} {n : Nat} {m : T FObj}, TreeAt m tb mb 65 t → tb < n → mb < n → WfT t → ∀ (path : Bs) (kd : Nat), path.length ≤ 900000 → Ret 601 H [.p tb 0, .s (pack path), .n .i64 kd] n m (.tup [.s (pack (isG t path kd).1), .n .i64 (isG t path kd).2])
theorem is_s {O : Oz} (hO : O = zO) (Φ : Phi) (HA : AbsS (Phi.fn Φ 12)) (HK : KindS (Phi.fn Φ 35)) : IsS (p41 O Φ) := fun {tb mb t n m} hT htb hmb hW path kd hpl k P hn hf => by
  have hT1 := hT.s
  have hT2 := hT.m
  repeat' ((conv => lhs; whnf); first | ((with_reducible refine atFn ?_); first | refine HA (hT.kp kQ htb hmb) (by omega) (by omega) hW.c1 hW.c2 _ (by omega) _ _ (by omega) (fun n3 m3 h3 g3 k3 => ?_) | refine HK (hT.kp kQ htb hmb) (by omega) (by omega) _ _ _ (by omega) (fun n4 m4 h4 g4 k4 => ?_)) | ((with_reducible refine eqB hO (fun h => ?_) (fun h => ?_))) | ((with_reducible refine neB hO (fun h => ?_) (fun h => ?_))))
  all_goals (conv => lhs; whnf)
  all_goals first
    | (have e : isG t path kd = ([], (absG t path).2) := by unfold isG; rw [if_pos (by assumption)]
       rw [e] at hf; exact hf _ _ (by omega) (by omega) kQ)
    | (have e : isG t path kd = ((absG t path).1, 0) := by unfold isG; rw [if_neg (by simp [*]), if_pos (by assumption)]
       rw [e] at hf; exact hf _ _ (by omega) (by omega) kQ)
    | (have e : isG t path kd = ([], 6) := by unfold isG; rw [if_neg (by simp [*]), if_neg (by assumption), if_pos (by assumption)]
       rw [e] at hf; exact hf _ _ (by omega) (by omega) kQ)
    | (have e : isG t path kd = ([], 5) := by unfold isG; rw [if_neg (by simp [*]), if_neg (by assumption), if_neg (by assumption)]
       rw [e] at hf; exact hf _ _ (by omega) (by omega) kQ)
def ReadS (H : HF) : Prop := ∀ {tb mb : Nat} {t : Tr} {n : Nat} {m : T FObj}, TreeAt m tb mb 65 t → tb < n → mb < n → WfT t → ∀ (path : Bs), path.length ≤ 900000 → Ret 601 H [.p tb 0, .s (pack path)] n m (.tup [.s (pack (readG t path).1), .n .i64 (readG t path).2])
theorem read_s {O : Oz} (hO : O = zO) (Φ : Phi) (HI : IsS (Phi.fn Φ 41)) : ReadS (p20 O Φ) := fun {tb mb t n m} hT htb hmb hW path hpl k P hn hf => by
  have hT1 := hT.s
  have hT2 := hT.m
  repeat' ((conv => lhs; whnf); first | ((with_reducible refine atFn ?_); refine HI (hT.kp kQ htb hmb) (by omega) (by omega) hW _ _ (by omega) _ _ (by omega) (fun n3 m3 h3 g3 k3 => ?_)) | ((with_reducible refine fa0 hO ?_)) | ((with_reducible refine atLd ?_); refine ldC hO aQ (by rfl) ?_) | ((with_reducible refine neB hO (fun h => ?_) (fun h => ?_))) | ((with_reducible refine atLk ?_); refine lkS1 hO aQ (fun a hla => ?_) (fun hla => ?_)))
  all_goals (conv => lhs; whnf)
  all_goals first
    | (have e : readG t path = ([], (isG t path 2).2) := by unfold readG; rw [if_pos (by assumption)]
       rw [e] at hf; exact hf _ _ (by omega) (by omega) kQ)
    | (have e : readG t path = (dataG t (isG t path 2).1, 0) := by unfold readG; rw [if_neg (by simp [*])]
       rw [e] at hf
       have e2 : dataG t (isG t path 2).1 = a.data := by unfold dataG look; rw [hla]
       rw [e2] at hf; exact hf _ _ (by omega) (by omega) kQ)
    | (have e : readG t path = (dataG t (isG t path 2).1, 0) := by unfold readG; rw [if_neg (by simp [*])]
       rw [e] at hf
       have e2 : dataG t (isG t path 2).1 = [] := by unfold dataG look; rw [hla]
       rw [e2] at hf; exact hf _ _ (by omega) (by omega) kQ)
end Go.Proofs.YtjoakhpdajlhiaaDoor.V2.S
namespace Go.Proofs.YtjoakhpdajlhiaaDoor.V2.S
open Go
set_option linter.unusedVariables false
set_option maxRecDepth 100000
open Go.RowKit
def Sc : AV → Bool
  | .int _ _ => true
  | .str _ => true
  | _ => false
def vO : AV → Value
  | .int k n => .int k n
  | .str l => .string ⟨l.toArray⟩
  | _ => .bool false
theorem Sc.vr {ρ : Ren} {a : AV} (h : Sc a = true) : VR ρ a (vO a) := by
  cases a <;> first | (cases h; done) | (unfold VR; rfl)
theorem or_row {ρ : Ren} {w : World} {b off D : Nat} {L : List AV} {e : TypeId} (hD : L.length + off ≤ D) (hsc : ∀ a ∈ L, Sc a = true) (h : ∀ i a, L[i]? = some a → w.cell? ⟨b, off + i, none⟩ = some (vO a)) : OR ρ (off, D) (.cells L e .ro) w.heap[b]? := ⟨fun _ => by
  refine ⟨hD, fun hl => ?_⟩
  have hl : 0 < L.length := hl rfl
  have h0 : ∀ i (hi : i < L.length), w.cell? ⟨b, off + i, none⟩ = some (vO L[i]) := fun i hi => h i _ (List.getElem?_eq_getElem hi)
  obtain ⟨c, t, fr, hb, _⟩ := cell_row (h0 0 hl)
  have hat : ∀ i (hi : i < L.length), c[i + off]? = some (vO L[i]) := fun i hi => by
    obtain ⟨c', t', fr', hb', hc⟩ := cell_row (h0 i hi)
    rw [hb] at hb'; cases hb'
    rw [Nat.add_comm]; exact hc
  refine ⟨c, t, fr, hb, (fun hh => by cases hh), ?_, hD, fun i a hi => ?_⟩
  · have := (Array.getElem?_eq_some_iff.1 (hat (L.length - 1) (by omega))).1
    show L.length + off ≤ c.size
    omega
  · have hi : L[i]? = some a := hi
    have hil := (List.getElem?_eq_some_iff.1 hi).1
    have ha := (List.getElem?_eq_some_iff.1 hi).2
    refine ⟨_, hat i hil, ?_⟩
    rw [ha]
    exact Sc.vr (hsc a (List.mem_of_getElem? hi)), fun l e => by cases e⟩
def gE : AObj := .cells [] 0 .ro
def memF (os : List AObj) : List AObj := gE :: gE :: gE :: os
def rF (rs : List (Option (Nat × (Nat × Nat)))) : List (Option (Nat × (Nat × Nat))) := some (0, (0, 0)) :: some (1, (0, 0)) :: some (2, (0, 0)) :: rs
noncomputable def sF (os : List AObj) : T FObj := (hL (memF os)).mem.map βO
theorem sF_am {os : List AObj} (hl : os.length ≤ 900000) {i : Nat} {o : AObj} (h : os[i]? = some o) : Am (sF os) (3 + i) (βO o) := by
  unfold Am
  show ((hL (memF os)).mem.map βO).get (3 + i) = _
  rw [T.map_get]
  have := hL_get (l := memF os) (by show os.length + 1 + 1 + 1 ≤ _; omega) (3 + i)
  show ((hL (memF os)).get (3 + i)).map βO = _
  rw [this, show 3 + i = i + 1 + 1 + 1 by omega]
  show (os[i]?).map βO = _
  rw [h]; rfl
theorem rF_glob (rs : List (Option (Nat × (Nat × Nat)))) : ∀ g, g < 3 → ∃ s, rL (rF rs) g = some (g, (0, s)) := fun g hg => by
  match g, hg with
  | 0, _ => exact ⟨0, rfl⟩
  | 1, _ => exact ⟨0, rfl⟩
  | 2, _ => exact ⟨0, rfl⟩
theorem memF_sh {os : List AObj} (h : ∀ o ∈ os, o.isSh = true) : ∀ o ∈ memF os, o.isSh = true := fun o ho => by
  unfold memF at ho
  simp only [List.mem_cons] at ho
  rcases ho with rfl | rfl | rfl | ho
  · rfl
  · rfl
  · rfl
  · exact h o ho
theorem hrF {w : World} (hs : 3 ≤ w.heap.size) {os : List AObj} {rs : List (Option (Nat × (Nat × Nat)))} (hl : os.length ≤ 900000) (hlen : rs.length = os.length) (hsh : ∀ o ∈ os, o.isSh = true)
    (h : ∀ (i c : Nat) (d : Nat × Nat) (o : AObj), rs[i]? = some (some (c, d)) → os[i]? = some o → c < w.heap.size ∧ ∀ ρ, OR ρ d o w.heap[c]?) : HR (rL (rF rs)) (hL (memF os)) w := by
  have hg : ∀ ρ g, OR ρ (0, 0) gE w.heap[g]? := fun ρ g => or_row (by show 0 + 0 ≤ 0; omega) (fun a ha => absurd ha List.not_mem_nil) fun i a hi => by simp at hi
  refine hr_ro (by show os.length + 1 + 1 + 1 ≤ _; omega) (by show rs.length + 1 + 1 + 1 = os.length + 1 + 1 + 1; omega) (memF_sh hsh) fun b c d o hb ho => ?_
  match b with
  | 0 => cases hb; cases ho; exact ⟨by omega, hg _ _⟩
  | 1 => cases hb; cases ho; exact ⟨by omega, hg _ _⟩
  | 2 => cases hb; cases ho; exact ⟨by omega, hg _ _⟩
  | i + 3 =>
    obtain ⟨h1, h2⟩ := h i c d o hb ho
    exact ⟨h1, h2 _⟩
end Go.Proofs.YtjoakhpdajlhiaaDoor.V2.S
namespace Go.Proofs.YtjoakhpdajlhiaaDoor
open Go.ChangeShapes Go.WideShapes Go.ChangeAt Go.RowKit
section
variable {H : Type} {enc : TypeId × Value → H} {P : Program}
theorem trodAll_stays (hl : laidOutB P = true) {W W' : World} {sp' : Nat → Bool} : ∀ {ts : List TypeId} {vs : List Value} {ds : List (DataW H)} {ps : List MemPlace}, (∀ t ∈ ts, P.readableRec t = true ∧ t < P.types.size) →
    DataW.TrodAll enc P W 0 (fun _ => true) true ts vs ds ps → (∀ p ∈ ps, W.sameAt W' p) → (∀ p ∈ ps, sp' p.block = true) → DataW.TrodAll enc P W' 0 sp' true ts vs ds ps
  | [], _, _, _, _, h, _, _ => by
    obtain ⟨rfl, rfl, rfl⟩ := trodAll_nil h
    exact trodAll_mk0
  | t :: ts, _, _, _, ht, h, h1, h2 => by
    obtain ⟨v, vs1, d, ds1, a, b, rfl, rfl, rfl, ha, hb⟩ := trodAll_cons h
    exact trodAll_cons_mk (WideElems.Trod_stays hl (ht t (by simp)).1 (ht t (by simp)).2 ha (fun p hp => h1 p (by simp [hp])) (fun p hp => h2 p (by simp [hp])))
      (trodAll_stays hl (fun t' h' => ht t' (by simp [h'])) hb (fun p hp => h1 p (by simp [hp])) (fun p hp => h2 p (by simp [hp])))
theorem post_of_below {f : Func} {s : ChangeSpec} {apart fresh handsOn again : Bool} {W W' : World} {args : Array Value} {v : Value} {ds gs : List (DataW H)} {before : List MemPlace}
    (hW : DataW.Whole enc P f.params.toList s.vars apart W args.toList ds gs before) (hl : laidOutB P = true) (hsv : s.vars = []) (hts : ∀ t ∈ f.params.toList, P.readableRec t = true ∧ t < P.types.size)
    (hb : Below W.heap.size W W') (ha : (s.fn H (ds ++ gs)).args = ds) (hgv : (s.fn H (ds ++ gs)).vars = [])
    (hres : ∀ (b : Nat) (sp : Nat → Bool) (hd : Bool), DataW.TrodAll enc P W' b sp hd f.resultTypes.toList (v.resultList f.resultTypes.size) (s.fn H (ds ++ gs)).results [])
    (hok : ∀ (j : Nat) (t : TypeId) (r : Value), f.resultTypes[j]? = some t → (v.resultList f.resultTypes.size)[j]? = some r → Value.okWide P W' .any 0 t r) :
    s.post enc P f apart fresh handsOn again W args v W' := by
  have hlt := hW.lt
  have hW0 := hW
  obtain ⟨p, q, hA0, hV, rfl, hz, hn⟩ := hW
  have hA : DataW.TrodAll enc P W 0 (fun _ => true) true f.params.toList args.toList ds p := hA0
  rw [hsv] at hV
  obtain ⟨rfl, rfl⟩ := trodVars_none hV
  rw [List.append_nil] at hlt hz hn
  have hs : ∀ x ∈ p, W.sameAt W' x := fun x hx => hb.same (hlt x hx)
  have hargs : ∀ sp : Nat → Bool, (∀ x ∈ p, sp x.block = true) → DataW.TrodAll enc P W' 0 sp true f.params.toList args.toList (s.fn H (ds ++ [])).args p := fun sp hsp => by
    rw [ha]; exact trodAll_stays hl hts hA hs hsp
  have hvars : ∀ sp : Nat → Bool, DataW.TrodVars enc P W' sp s.vars (s.fn H (ds ++ [])).vars [] := fun sp => by rw [hgv, hsv]; rfl
  have hold : ∀ x ∈ p, (fun b => decide (b < W.heap.size)) x.block = true := fun x hx => by simpa using hlt x hx
  refine ⟨ds, [], p ++ [], [], p, [], hW0, hres _ _ _, hargs _ hold, hvars _, ?_, fun _ => ?_⟩
  · exact hb.frame _
  · refine ⟨hok, _, _, ([] ++ p) ++ [], ⟨[] ++ p, [], trodAll_append (hargs _ (fun _ _ => rfl)) (hres _ _ _), hvars _, rfl, ?_, ?_⟩, ?_⟩
    · intro b off hp
      simp only [List.nil_append, List.append_nil] at hp
      rw [hb.frozen (hlt _ hp)]
      exact hz b off hp
    · intro h'
      simpa using hn h'
    · intro x hx _
      simpa using hx
end
theorem laidOut : laidOutB Tryd.prog = true := by kernel_rfl
theorem own : ownKnob Tryd.prog.godebug = none := by kernel_rfl
theorem gAcc : Tryd.prog.globalNamed "unicode/utf8.acceptRanges" = some 2 := by kernel_rfl
theorem size3 {W : World} {data : DataW Unit} {rest : List (String × DataW Unit)} (h : laidMet Tryd.prog (("unicode/utf8.acceptRanges", data) :: rest) W) : 3 ≤ W.heap.size := by
  obtain ⟨ps, ⟨g, t, cs, fuel, p, q, hg, _, hv, _⟩, _⟩ := h
  obtain rfl := Option.some.inj (gAcc.symm.trans hg)
  unfold World.var? at hv
  rw [gAcc, Option.bind_some] at hv
  split at hv
  · rename_i hh; have := (Array.getElem?_eq_some_iff.1 hh).1; omega
  · cases hv
mutual
def cellsD : DataW Unit → List Value
  | .lit (.int k n) => [.int k n]
  | .agg l => cellsDs l
  | _ => []
def cellsDs : List (DataW Unit) → List Value
  | [] => []
  | d :: l => cellsD d ++ cellsDs l
end
theorem add_none {a : Addr} (h : a.spot = none) (j : Nat) : a.add j = ⟨a.block, a.off + j, none⟩ := by
  obtain ⟨b, o, sp⟩ := a
  cases h
  unfold Addr.add; split <;> simp_all
end Go.Proofs.YtjoakhpdajlhiaaDoor
namespace Go.Proofs.YtjoakhpdajlhiaaDoor
open Go.ChangeShapes Go.WideShapes Go.ChangeAt Go.RowKit
theorem cellsB5 : Tryd.prog.cellsOf 5 = 1 := by kernel_rfl
def toB (zs : List Int) : List UInt8 := zs.map fun z => UInt8.ofNat z.toNat
theorem toB_length (zs : List Int) : (toB zs).length = zs.length := by simp [toB]
theorem toB_at {zs : List Int} (h : ∀ n ∈ zs, (Lit.int .u8 n).wf = true) {j : Nat} (hj : j < zs.length) : N8 (at8 (toB zs) j) = zs.getD j 0 := by
  have h1 := h zs[j] (List.getElem_mem hj)
  simp only [Lit.wf, Bool.and_eq_true, decide_eq_true_eq] at h1
  have h2 : (0 : Int) ≤ zs[j] ∧ zs[j] ≤ 255 := h1
  unfold N8 at8 toB
  rw [List.getD_eq_getElem?_getD, List.getD_eq_getElem?_getD, List.getElem?_map, List.getElem?_eq_getElem hj]
  simp only [Option.map_some, Option.getD_some]
  rw [UInt8.toNat_ofNat']
  omega
theorem spot_of_cell {w : World} {a : Addr} {v : Value} (h : w.cell? (a.add 0) = some v) : a.spot = none ∧ a.block < w.heap.size := by
  have e : a.add 0 = a := by unfold Addr.add; simp
  rw [e] at h
  unfold World.cell? at h
  split at h
  · rename_i hh
    refine ⟨?_, (Array.getElem?_eq_some_iff.1 hh).1⟩
    cases hs : a.spot with
    | none => rfl
    | some x => simp [hs] at h
  · cases h
theorem bsl_of {W : World} {A : Option Addr} {L C : Nat} {zs : List Int} (hl : L ≤ C) (hz : zs.length = C) (hw : ∀ n ∈ zs, (Lit.int .u8 n).wf = true) (h0 : A = none → C = 0)
    (hc : ∀ a, A = some a → ∀ c, c < C → W.cell? (a.add c) = some (.int .u8 (zs.getD c 0))) : BSl W (.slice A L C) (toB (zs.take L)) := by
  have hlen : (toB (zs.take L)).length = L := by rw [toB_length, List.length_take]; omega
  cases A with
  | none =>
    have := h0 rfl
    subst this
    obtain rfl : L = 0 := by omega
    exact .inl ⟨rfl, rfl⟩
  | some a =>
    by_cases hC : C = 0
    · subst hC
      obtain rfl : L = 0 := by omega
      exact .inr (.inr ⟨a, rfl, rfl⟩)
    · obtain ⟨hs, hb⟩ := spot_of_cell (hc a rfl 0 (by omega))
      refine .inr (.inl ⟨a.block, a.off, C, by rw [hlen]; obtain ⟨b, o, sp⟩ := a; cases hs; rfl, by rw [hlen]; exact hl, hb, fun j hj => ?_⟩)
      rw [hlen] at hj
      have := hc a rfl j (by omega)
      rw [add_none hs] at this
      rw [this, toB_at (fun n hn => hw n (List.mem_of_mem_take hn)) (by rw [List.length_take]; omega)]
      rw [List.getD_eq_getElem?_getD, List.getD_eq_getElem?_getD, List.getElem?_take, if_pos hj]
set_option maxRecDepth 100000 in
theorem open_bytes {H : Type} {enc : TypeId × Value → H} {W : World} {v : Value} {d : DataW H} {p : List MemPlace} {r : Reach} {base : Nat} (hv : Value.okWide Tryd.prog W r base 33 v) (h : DataW.Trod enc Tryd.prog W 0 (fun _ => true) true 33 v d p) :
    ∃ A L C bs, v = .slice A L C ∧ BSl W v bs ∧ bs.length ≤ 9223372036854775807 := by
  obtain ⟨A, L, C, rfl⟩ := okWide_slice Tryd.underlying33 hv
  obtain ⟨n, h⟩ := h
  rcases open_ints Tryd.underlying33 Tryd.underlying5 cellsB5 h with ⟨e, _⟩ | ⟨a, len, cap, zs, e, _, hl, hm, hz, _, hc, hw⟩
  · obtain ⟨rfl, rfl, rfl⟩ : A = none ∧ L = 0 ∧ C = 0 := by simpa [Value.cells] using e
    exact ⟨_, _, _, [], rfl, .inl ⟨rfl, rfl⟩, Nat.zero_le _⟩
  · obtain ⟨rfl, rfl, rfl⟩ : A = some a ∧ L = len ∧ C = cap := by simpa [Value.cells] using e
    simp only [if_true] at hz
    have hB := bsl_of (W := W) (A := some a) hl hz hw (fun h => by cases h) (fun a' ha c hc' => by cases ha; exact hc c (by omega))
    refine ⟨_, _, _, _, rfl, hB, ?_⟩
    rw [toB_length, List.length_take]
    unfold maxLen at hm
    omega
end Go.Proofs.YtjoakhpdajlhiaaDoor
namespace Go.Proofs.YtjoakhpdajlhiaaDoor.V2.S
open Go
set_option maxRecDepth 100000
set_option maxHeartbeats 4000000
set_option linter.unusedVariables false
attribute [local irreducible] fN fO nM gM pM Phi.fn mp bl bpart bapp top1 pack
theorem dataG_le {t : Tr} (h : sizesG t.L ≤ 32768) (p : Bs) : (dataG t p).length ≤ 32768 := by
  unfold dataG look
  cases hl : lookM En.path p t.L with
  | none => exact Nat.zero_le _
  | some a => have := (look_sizes hl).1; show a.data.length ≤ 32768; omega
def WriteS (H : HF) : Prop := ∀ {tb mb : Nat} {t : Tr} {n : Nat} {m : T FObj}, TreeAt m tb mb 65 t → tb < n → mb < n → tb ≠ mb → WfT t → ∀ (path data : Bs) (more : Bool), path.length ≤ 900000 → data.length ≤ 800000 → RetX 760 [mb] H [.p tb 0, .s (pack path), .s (pack data), .b more] n m (fun v n' m' => v = .n .i64 (writeG t path data more).2 ∧ TreeAt m' tb mb 65 (writeG t path data more).1)
theorem write_s {O : Oz} (hO : O = zO) (Φ : Phi) (HA : AbsS (Phi.fn Φ 12)) (HK : KindS (Phi.fn Φ 35)) (HP : PutS (Phi.fn Φ 39)) : WriteS (p13 O Φ) := fun {tb mb t n m} hT htb hmb htm hW path data more hpl hdl k P hn hf => by
  have hT1 := hT.s
  have hT2 := hT.m
  have hal := absG_le (t := t) (path := path) hW.c2 hpl
  have hdg := dataG_le hW.sz (absG t path).1
  have hws := hW.sz
  have key : ∀ (d : Bs), (if more then dataG t (absG t path).1 ++ data else data) = d → ¬ (absG t path).2 ≠ 0 → kindG t (absG t path).1 ≠ 1 → ∀ n' m' v, n ≤ n' → n' ≤ n + 760 → Kq [mb] n m m' → (v = .n .i64 (putG t ⟨(absG t path).1, false, d⟩).2 ∧ TreeAt m' tb mb 65 (putG t ⟨(absG t path).1, false, d⟩).1) → k v ⟨n', m'⟩ = P := fun d hd h1 h2 n' m' v h3 h4 h5 h6 => by
    have e : writeG t path data more = putG t ⟨(absG t path).1, false, d⟩ := by unfold writeG; rw [if_neg h1, if_neg h2, hd]
    rw [e] at hf; exact hf _ _ _ h3 h4 h5 h6
  have e1 : (absG t path).2 ≠ 0 → writeG t path data more = (t, (absG t path).2) := fun h => by unfold writeG; rw [if_pos h]
  have e2 : ¬ (absG t path).2 ≠ 0 → kindG t (absG t path).1 = 1 → writeG t path data more = (t, 5) := fun h h2 => by unfold writeG; rw [if_neg h, if_pos h2]
  have ed : ∀ a, lookM En.path (absG t path).1 t.L = some a → dataG t (absG t path).1 = a.data := fun a hla => by unfold dataG look; rw [hla]
  have en : lookM En.path (absG t path).1 t.L = none → dataG t (absG t path).1 = [] := fun hla => by unfold dataG look; rw [hla]
  cases more
  all_goals
    repeat' ((conv => lhs; whnf); first | ((with_reducible refine atFn ?_); first | refine HA (hT.kp kQ htb hmb) (by omega) (by omega) hW.c1 hW.c2 _ (by omega) _ _ (by omega) (fun n3 m3 h3 g3 k3 => ?_) | refine HK (hT.kp kQ htb hmb) (by omega) (by omega) _ _ _ (by omega) (fun n4 m4 h4 g4 k4 => ?_) | refine HP (hT.kp kQ htb hmb) (by omega) (by omega) htm hW ⟨(absG t path).1, false, data⟩ (by show (absG t path).1.length ≤ 900000; omega) (by show data.length ≤ 900000; omega) _ _ (by omega) (fun v5 n5 m5 h5 g5 k5 q5 => ?_) | refine HP (hT.kp kQ htb hmb) (by omega) (by omega) htm hW ⟨(absG t path).1, false, a.data ++ data⟩ (by show (absG t path).1.length ≤ 900000; omega) (by show (a.data ++ data).length ≤ 900000; rw [List.length_append]; omega) _ _ (by omega) (fun v5 n5 m5 h5 g5 k5 q5 => ?_)) | ((with_reducible refine fa0 hO ?_)) | ((with_reducible refine atLd ?_); refine ldC hO aQ (by rfl) ?_) | ((with_reducible refine eqB hO (fun h => ?_) (fun h => ?_))) | ((with_reducible refine neB hO (fun h => ?_) (fun h => ?_))) | ((with_reducible refine adS hO (by first | omega | (simp only [List.length_cons, List.length_nil, List.length_append]; omega)) ?_)) | ((with_reducible refine atLk ?_); refine lkS1 hO aQ (fun a hla => (fun hsz => ?_) (look_sizes hla)) (fun hla => ?_)) | ((with_reducible first | refine umt hO ?_ | refine uqu hO ?_ | refine urm hO ?_ | refine uan hO ?_ | refine uro hO ?_ | refine uxr hO ?_ | refine uhl hO ?_ | refine uhr hO ?_ | refine uad hO ?_ | refine usb hO ?_ | refine ult hO ?_ | refine ule hO ?_ | refine ugt hO ?_ | refine uge hO ?_ | refine ueq hO ?_ | refine une hO ?_ | refine ucv hO ?_ | refine uia hO ?_ | refine usv hO ?_ | refine ubu hO ?_ | refine uap hO ?_ | refine ubs hO ?_ | refine umm hO ?_ | refine upq hO ?_ | refine unq hO ?_ | refine uln hO ?_)))
    all_goals (conv => lhs; whnf)
  all_goals first
    | (rw [e1 (by assumption)] at hf; exact hf _ _ _ (by omega) (by omega) qQ ⟨rfl, hT.kp kQ htb hmb⟩)
    | (rw [e2 (by simp [*]) (by assumption)] at hf; exact hf _ _ _ (by omega) (by omega) qQ ⟨rfl, hT.kp kQ htb hmb⟩)
    | exact key data rfl (by simp [*]) (by assumption) _ _ _ (by omega) (by omega) qQ q5
    | exact key (a.data ++ data) (by rw [if_pos rfl, ed a hla]) (by simp [*]) (by assumption) _ _ _ (by omega) (by omega) qQ q5
    | exact key ([] ++ data) (by rw [if_pos rfl, en hla]) (by simp [*]) (by assumption) _ _ _ (by omega) (by omega) qQ q5
def CdS (H : HF) : Prop := ∀ {tb mb : Nat} {t : Tr} {n : Nat} {m : T FObj}, TreeAt m tb mb 65 t → tb < n → mb < n → WfT t → ∀ (path : Bs), path.length ≤ 900000 → RetX 601 [tb] H [.p tb 0, .s (pack path)] n m (fun v n' m' => v = .n .i64 (cdG t path).2 ∧ (tb ≠ mb → TreeAt m' tb mb 65 (cdG t path).1))
theorem cd_s {O : Oz} (hO : O = zO) (Φ : Phi) (HI : IsS (Phi.fn Φ 41)) : CdS (p16 O Φ) := fun {tb mb t n m} hT htb hmb hW path hpl k P hn hf => by
  have hT1 := hT.s
  have hT2 := hT.m
  have e1 : (isG t path 1).2 ≠ 0 → cdG t path = (t, (isG t path 1).2) := fun h => by unfold cdG; rw [if_pos h]
  have e2 : (isG t path 1).2 = 0 → cdG t path = ({ t with cwd := (isG t path 1).1 }, 0) := fun h => by unfold cdG; rw [if_neg (by simp [h])]
  repeat' ((conv => lhs; whnf); first | ((with_reducible refine atFn ?_); refine HI (hT.kp kQ htb hmb) (by omega) (by omega) hW _ _ (by omega) _ _ (by omega) (fun n3 m3 h3 g3 k3 => ?_)) | ((with_reducible refine fa0 hO ?_)) | ((with_reducible refine eqB hO (fun h => ?_) (fun h => ?_))) | ((with_reducible refine atSt ?_); refine stC hO aQ (by kernel_rfl) (fun _ _ _ => rfl) (fun _ => rfl) ?_))
  all_goals (conv => lhs; whnf)
  all_goals first
    | (rw [e1 (by assumption)] at hf; exact hf _ _ _ (by omega) (by omega) qQ ⟨rfl, fun _ => hT.kp kQ htb hmb⟩)
    | (have hz : (isG t path 1).2 = 0 := by assumption
       rw [e2 hz] at hf; exact hf _ _ _ (by omega) (by omega) qQ ⟨by rw [hz], fun _ => ⟨am_same (by omega), aQ⟩⟩)
def NewS (H : HF) : Prop := ∀ (n : Nat) (m : T FObj), RetX 2 [] H [] n m (fun v n' m' => ∃ tb mb, v = .p tb 0 ∧ tb ≠ mb ∧ n ≤ tb ∧ tb < n' ∧ n ≤ mb ∧ mb < n' ∧ TreeAt m' tb mb 65 newG)
theorem new_s {O : Oz} (hO : O = zO) (Φ : Phi) : NewS (p26 O Φ) := fun n m k P hn hf => by
  repeat' ((conv => lhs; whnf); first | ((with_reducible refine atBx ?_); refine bxA hO (by omega) (by simp only [αL, αV, AObj.of, allInt, βO, βL, βV, unp_pack]) ?_) | ((with_reducible first | refine umt hO ?_ | refine uqu hO ?_ | refine urm hO ?_ | refine uan hO ?_ | refine uro hO ?_ | refine uxr hO ?_ | refine uhl hO ?_ | refine uhr hO ?_ | refine uad hO ?_ | refine usb hO ?_ | refine ult hO ?_ | refine ule hO ?_ | refine ugt hO ?_ | refine uge hO ?_ | refine ueq hO ?_ | refine une hO ?_ | refine ucv hO ?_ | refine uia hO ?_ | refine usv hO ?_ | refine ubu hO ?_ | refine uap hO ?_ | refine ubs hO ?_ | refine umm hO ?_ | refine upq hO ?_ | refine unq hO ?_ | refine uln hO ?_)) | (with_reducible refine (nM_mp (by omega)).trans ?_))
  all_goals (conv => lhs; whnf)
  all_goals first
    | exact hf _ _ _ (by omega) (by omega) qQ ⟨n + 1, n, rfl, by omega, by omega, by omega, by omega, by omega, ⟨am_same (by omega), aQ⟩⟩
def CwdS (H : HF) : Prop := ∀ {tb mb : Nat} {t : Tr} {n : Nat} {m : T FObj}, TreeAt m tb mb 65 t → tb < n → mb < n → Ret0 H [.p tb 0] n m (.s (pack t.cwd))
theorem cwd_s {O : Oz} (hO : O = zO) (Φ : Phi) (H1 : NoneS (Phi.fn Φ 28)) : CwdS (p11 O Φ) := fun {tb mb t n m} hT htb hmb k P hf => by
  have hT1 := hT.s
  repeat' ((conv => lhs; whnf); first | ((with_reducible refine atFn ?_); refine H1 (hT.kp kQ htb hmb) _ _ ?_) | ((with_reducible refine fa0 hO ?_)) | ((with_reducible refine atLd ?_); refine ldC hO aQ (by rfl) ?_))
  all_goals (conv => lhs; whnf)
  all_goals first
    | exact hf
end Go.Proofs.YtjoakhpdajlhiaaDoor.V2.S
