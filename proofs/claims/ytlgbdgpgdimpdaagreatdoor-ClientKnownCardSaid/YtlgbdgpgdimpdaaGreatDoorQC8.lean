/- Part 8 of the proof: texts of the proof. -/
import Derived.Test.YtlgbdgpgdimpdaaGreatDoorQC7
import Derived.Lib.AppendZerosOnto
import Derived.Shelf.Abstract
import Derived.RangeFuncCalls
import Derived.Deep.RegionHeld3
namespace Go.Proofs.YtlgbdgpgdimpdaaGreatDoor.V2
open Go
noncomputable section
abbrev K2 := E → FH → FR
def caF (vf : FV) (l : List FV) (Φ : Phi) (σ : FH) (k : KV) : FR := FV.rec (motive_1 := fun _ => FR) (motive_2 := fun _ => FR) (fun _ _ => .bad) (fun _ _ => .bad) (fun _ => .bad) (fun _ => .bad) (fun _ _ => .bad) (fun _ _ _ _ _ _ => .bad) (fun _ => .bad) (fun b => Φ.yl b l σ k) (fun f x y _ _ => Fn.rec (motive := fun _ => FR) (fun n => appK l y fun l => appK x l fun l => Φ.fn n l σ k) (fun _ => .bad) (fun _ _ => .bad) (fun _ _ _ _ => .bad) (fun _ => .bad) f) (fun _ _ _ => .bad) (fun _ _ => .bad) (fun _ => .bad) (fun _ _ => .bad) (fun _ _ => .bad) (fun _ => .bad) .bad (fun _ _ _ _ => .bad) vf
def oCall (f : Rd) (l : List Rd) : Opc := fun Φ e σ k => f e fun vf => rdsK l e fun l => caF vf l Φ σ k
def oCallS (n : Nat) (l : List Rd) : Opc := fun Φ e σ k => rdsK l e fun l => Φ.fn n l σ k
def statF : Ref → Option Nat
  | .lit v => match v with
    | .fn f x y => match f with
      | .func n => match x, y with
        | [], [] => some n
        | _, _ => none
      | _ => none
    | _ => none
  | _ => none
theorem statF_eq {r : Ref} {n : Nat} (h : statF r = some n) : r = .lit (.fn (.func n) [] []) := by
  unfold statF at h
  split at h
  · split at h
    · split at h
      · split at h
        · cases h; rfl
        · cases h
      · cases h
    · cases h
  · cases h
def thrO (rd : Ref → Rd) : COp → Opc
  | .aop a => thrA rd a
  | .call f args => match statF f with
    | some n => oCallS n (args.map rd)
    | none => oCall (rd f) (args.map rd)
  | _ => oBad
theorem thrO_ok {rd : Ref → Rd} {e : E} {ev : Ref → AV} (hr : RdOk rd e ev) (hl : ∀ v, ev (.lit v) = v) {Φ : Phi} {Γ : Gam} (hΦ : PhiOk Φ Γ) (c : COp) (σ : FH) (k : KV) : Sm (thrO rd c Φ e σ k) k (cstep std Γ ev (αH σ) c) := by
  cases c with
  | aop a => exact thrA_ok hr a Φ σ k
  | rng _ => exact Sm.bad
  | nxt _ => exact Sm.bad
  | ent _ => exact Sm.bad
  | call f args =>
    simp only [thrO]
    cases hs : statF f with
    | some n =>
      have e1 := statF_eq hs
      subst e1
      intro h
      have h : (rdsK (args.map rd) e fun l => Φ.fn n l σ k) ≠ .bad := h
      show ∃ v σ', _ ∧ (rdsK (args.map rd) e fun l => Φ.fn n l σ k) = _
      obtain ⟨l, h1, h2⟩ := hr.list args _ h
      rw [h2] at h ⊢
      simp only [cstep]
      rw [hl]
      dsimp only
      rw [h1, List.nil_append, List.append_nil]
      exact hΦ.fn n l σ k h
    | none =>
      intro h
      have h : ((rd f) e fun vf => rdsK (args.map rd) e fun l => caF vf l Φ σ k) ≠ .bad := h
      show ∃ v σ', _ ∧ ((rd f) e fun vf => rdsK (args.map rd) e fun l => caF vf l Φ σ k) = _
      obtain ⟨vf, h1, h2⟩ := hr f _ h
      rw [h2] at h ⊢
      obtain ⟨l, h3, h4⟩ := hr.list args _ h
      rw [h4] at h ⊢
      simp only [cstep]
      rw [h1, h3]
      cases vf with
      | fn g x y =>
        cases g with
        | func n =>
          have h : (appK l y fun l => appK x l fun l => Φ.fn n l σ k) ≠ .bad := h
          show ∃ v σ', _ ∧ (appK l y fun l => appK x l fun l => Φ.fn n l σ k) = _
          rw [appK_eq, appK_eq] at h ⊢
          have := hΦ.fn n (x ++ (l ++ y)) σ k h
          rw [αL_append, αL_append] at this
          exact this
        | _ => exact absurd rfl h
      | y b => exact hΦ.yl b l σ k h
      | _ => exact absurd rfl h
def oG (want : Bool) (r : Rd) (op : Opc) : Opc := fun Φ e σ k => r e fun g => FV.rec (motive_1 := fun _ => FR) (motive_2 := fun _ => FR) (fun _ _ => .bad) (fun _ _ => .bad) (fun t => Bool.rec (Bool.rec (op Φ e σ k) (k (.tup []) σ) want) (Bool.rec (k (.tup []) σ) (op Φ e σ k) want) t) (fun _ => .bad) (fun _ _ => .bad) (fun _ _ _ _ _ _ => .bad) (fun _ => .bad) (fun _ => .bad) (fun _ _ _ _ _ => .bad) (fun _ _ _ => .bad) (fun _ _ => .bad) (fun _ => .bad) (fun _ _ => .bad) (fun l _ => k (.tup []) σ) (fun _ => .bad) .bad (fun _ _ _ _ => .bad) g
def thrR (rd : Ref → Rd) (r : CRow) : Opc := match r.guard with
  | none => thrO rd r.op
  | some g => oG g.2 (rd g.1) (thrO rd r.op)
theorem thrR_ok {rd : Ref → Rd} {e : E} {ev : Ref → AV} (hr : RdOk rd e ev) (hl : ∀ v, ev (.lit v) = v) {Φ : Phi} {Γ : Gam} (hΦ : PhiOk Φ Γ) (r : CRow) (σ : FH) (k : KV) : Sm (thrR rd r Φ e σ k) k (gstep std Γ ev (αH σ) r) := by
  unfold thrR gstep
  cases r.guard with
  | none => exact thrO_ok hr hl hΦ _ σ k
  | some g =>
    obtain ⟨g, want⟩ := g
    dsimp only
    intro h
    have hop := thrO_ok hr hl hΦ r.op σ k
    unfold oG at h ⊢
    obtain ⟨v, h1, h2⟩ := hr g _ h
    rw [h2] at h ⊢
    rw [h1]
    cases v with
    | b t =>
      cases t <;> cases want
      · exact hop h
      · exact ⟨.tup [], σ, rfl, rfl⟩
      · exact ⟨.tup [], σ, rfl, rfl⟩
      · exact hop h
    | tup l => exact ⟨.tup [], σ, rfl, rfl⟩
    | _ => exact absurd rfl h
/-! Slots: those whose value is at hand, those of the frame; dr: slots that the frame does not hold. -/
abbrev M := List (Nat × FV)
abbrev bsel {α : Type} (c : Bool) (a b : α) : α := Bool.rec b a c
def U (v : FV) : Rd := fun _ k => k v
def rdX : Rd := fun _ _ => .bad
def wrX : Wr := fun _ _ _ => .bad
def lkM : M → Nat → Option FV
  | [], _ => none
  | p :: l, t => bif Nat.beq p.1 t then some p.2 else lkM l t
def hasN (k : Nat) : List Nat → Bool
  | [] => false
  | j :: l => bif Nat.beq j k then true else hasN k l
theorem hasN_append (k : Nat) : ∀ l m : List Nat, hasN k (l ++ m) = (hasN k l || hasN k m)
  | [], m => rfl
  | j :: l, m => by
    show (bif Nat.beq j k then true else hasN k (l ++ m)) = ((bif Nat.beq j k then true else hasN k l) || hasN k m)
    rw [hasN_append k l m]
    cases Nat.beq j k <;> rfl
def inE (nt : Nat) (dr : List Nat) (t : Nat) : Bool := Nat.blt t nt && Nat.blt t 1024 && !hasN t dr
def rdM (nt : Nat) (dr : List Nat) (m : M) : Ref → Rd
  | .op _ => rdX
  | .slot t => match lkM m t with
    | some v => U v
    | none => bsel (inE nt dr t) (rdE t) rdX
  | .lit v => U (βV v)
def Ee (nt : Nat) (dr : List Nat) (e : E) (env : T AV) : Prop := ∀ t, inE nt dr t = true → evS env (.slot t) = αV (e.at t)
structure Em (nt : Nat) (dr : List Nat) (m : M) (e : E) (env : T AV) : Prop where
  e : Ee nt dr e env
  m : ∀ t v, lkM m t = some v → evS env (.slot t) = αV v
theorem inE_lt {nt : Nat} {dr : List Nat} {t : Nat} (h : inE nt dr t = true) : t < nt ∧ t < 1024 := by
  unfold inE at h
  rw [Bool.and_eq_true, Bool.and_eq_true, Nat.blt_eq, Nat.blt_eq] at h
  exact h.1
theorem rdM_ok {nt : Nat} {dr : List Nat} {m : M} {e : E} {env : T AV} (h : Em nt dr m e env) : RdOk (rdM nt dr m) e (evS env) := fun r k hk => by
  cases r with
  | op j => exact absurd rfl hk
  | slot t =>
    simp only [rdM] at hk ⊢
    cases hm : lkM m t with
    | some v => exact ⟨v, h.m t v hm, rfl⟩
    | none =>
      rw [hm] at hk
      dsimp only at hk ⊢
      cases hb : inE nt dr t
      · rw [hb] at hk; exact absurd rfl hk
      · dsimp only [bsel]
        exact ⟨e.at t, h.e t hb, rdE_eq (inE_lt hb).2 e k⟩
  | lit v => exact ⟨βV v, (αβ v).symm, rfl⟩
theorem evS_put {env : T AV} {d t : Nat} (hd : d < 1024) (v : AV) : evS (env.put d v) (.slot t) = if t = d then v else evS env (.slot t) := by
  simp only [evS, T.get_put _ _ _ _ (show d < 1048576 by omega)]
  by_cases h : t = d
  · rw [if_pos h, if_pos h]
  · rw [if_neg h, if_neg h]
def Fr (S : List Nat) (env env' : T AV) : Prop := ∀ t, hasN t S = false → evS env' (.slot t) = evS env (.slot t)
theorem Fr.refl (S : List Nat) (env : T AV) : Fr S env env := fun _ _ => rfl
theorem Fr.trans {S T' : List Nat} {a b c : T AV} (h : Fr S a b) (h' : Fr T' b c) : Fr (S ++ T') a c := fun t ht => by
  rw [hasN_append, Bool.or_eq_false_iff] at ht
  exact (h' t ht.2).trans (h t ht.1)
theorem Fr.left {S T' : List Nat} {a b : T AV} (h : Fr S a b) : Fr (S ++ T') a b := fun t ht => by
  rw [hasN_append, Bool.or_eq_false_iff] at ht
  exact h t ht.1
theorem Fr.right {S T' : List Nat} {a b : T AV} (h : Fr T' a b) : Fr (S ++ T') a b := fun t ht => by
  rw [hasN_append, Bool.or_eq_false_iff] at ht
  exact h t ht.2
def filt (S : List Nat) : M → M
  | [] => []
  | p :: l => bif hasN p.1 S then filt S l else p :: filt S l
theorem filt_lk {S : List Nat} {t : Nat} {v : FV} : ∀ {m : M}, lkM (filt S m) t = some v → hasN t S = false ∧ lkM m t = some v
  | [], h => by cases h
  | p :: l, h => by
    unfold filt at h
    unfold lkM
    cases hp : hasN p.1 S with
    | true =>
      rw [hp] at h
      obtain ⟨h1, h2⟩ := filt_lk (m := l) h
      refine ⟨h1, ?_⟩
      cases hb : Nat.beq p.1 t
      · exact h2
      · rw [← Nat.eq_of_beq_eq_true hb, hp] at h1; cases h1
    | false =>
      rw [hp] at h
      have h : (bif Nat.beq p.1 t then some p.2 else lkM (filt S l) t) = some v := h
      cases hb : Nat.beq p.1 t
      · rw [hb] at h; exact filt_lk (m := l) h
      · rw [hb] at h; exact ⟨by rw [← Nat.eq_of_beq_eq_true hb]; exact hp, h⟩
theorem Em.filt {nt : Nat} {dr S : List Nat} {m : M} {e e' : E} {env env' : T AV} (h : Em nt dr m e env) (hf : Fr S env env') (he : Ee nt dr e' env') : Em nt dr (filt S m) e' env' := ⟨he, fun t v ht => by
  obtain ⟨h1, h2⟩ := filt_lk ht
  rw [hf t h1]; exact h.m t v h2⟩
/-! Code. -/
abbrev Cd := Phi → Nat → K2 → K2 → (Nat → K2) → K2
def cSkip : Cd := fun _ _ kn _ _ => kn
def cRet : Cd := fun _ _ _ kr _ => kr
def cExit (i : Nat) : Cd := fun _ _ _ _ ke => ke i
def cSeq (a b : Cd) : Cd := fun Φ N kn kr ke => a Φ N (b Φ N kn kr ke) kr ke
def cCond (c : Rd) (a b : Cd) : Cd := fun Φ N kn kr ke e σ => c e fun v => kB (fun t => Bool.rec (b Φ N kn kr ke e σ) (a Φ N kn kr ke e σ) t) v
def cBlk (id : Nat) (c : Cd) : Cd := fun Φ N kn kr ke => c Φ N kn kr fun i e σ => Bool.rec (ke i e σ) (kn e σ) (Nat.beq i id)
def cLoop (fuel : Nat) (c : Cd) : Cd := fun Φ N _ kr ke e σ => Nat.rec (motive := fun _ => K2) (fun _ _ => .bad) (fun _ ih e σ => FH.rec (motive := fun _ => FR) (fun n m => gT (Nat.ble N n) (c Φ N ih kr ke e ⟨n, m⟩)) σ) fuel e σ
def cBad : Cd := fun _ _ _ _ _ _ _ => .bad
def V (op : Opc) (f : FV → Cd) : Cd := fun Φ N kn kr ke e σ => op Φ e σ fun v σ => f v Φ N kn kr ke e σ
def cLetW (op : Opc) (w : Wr) (f : FV → Cd) : Cd := fun Φ N kn kr ke e σ => op Φ e σ fun v σ => w e v fun e => f v Φ N kn kr ke e σ
def cDo (op : Opc) (c : Cd) : Cd := fun Φ N kn kr ke e σ => op Φ e σ fun _ σ => c Φ N kn kr ke e σ
def cWr (w : Wr) (v : FV) (c : Cd) : Cd := fun Φ N kn kr ke e σ => w e v fun e => c Φ N kn kr ke e σ
def stM (nt : Nat) (dr : List Nat) (d : Nat) (op : Opc) (f : FV → Cd) : Cd := bsel (Nat.blt d nt && Nat.blt d 1024) (bsel (hasN d dr) (V op f) (cLetW op (wrE d) f)) cBad
def wvM (nt : Nat) (dr : List Nat) (d : Nat) (v : FV) (c : Cd) : Cd := bsel (Nat.blt d nt && Nat.blt d 1024) (bsel (hasN d dr) c (cWr (wrE d) v c)) cBad
theorem wr_ok {nt : Nat} {dr : List Nat} {d : Nat} {m : M} {e : E} {env : T AV} {v : FV} {k : E → FR} (he : Em nt dr m e env) (hd : d < 1024) : ∃ e', Em nt dr ((d, v) :: m) e' (env.put d (αV v)) ∧ wrE d e v k = k e' := by
  obtain ⟨e', h1, h2⟩ := wrE_eq hd e v k
  refine ⟨e', ⟨fun t ht => ?_, fun t u ht => ?_⟩, h1⟩
  · rw [evS_put hd, h2 t (inE_lt ht).2]
    by_cases h : t = d
    · rw [if_pos h, if_pos h]
    · rw [if_neg h, if_neg h]; exact he.e t ht
  · rw [evS_put hd]
    have ht : (bif Nat.beq d t then some v else lkM m t) = some u := ht
    cases hb : Nat.beq d t
    · rw [hb] at ht
      rw [if_neg (fun e => by rw [e, Nat.beq_refl] at hb; cases hb)]; exact he.m t u ht
    · rw [hb] at ht; cases ht
      rw [if_pos (Nat.eq_of_beq_eq_true hb).symm]
theorem nowr_ok {nt : Nat} {dr : List Nat} {d : Nat} {m : M} {e : E} {env : T AV} {v : FV} (he : Em nt dr m e env) (hd : d < 1024) (hn : hasN d dr = true) : Em nt dr ((d, v) :: m) e (env.put d (αV v)) := by
  refine ⟨fun t ht => ?_, fun t u ht => ?_⟩
  · rw [evS_put hd]
    have : t ≠ d := fun e => by
      rw [e] at ht; unfold inE at ht; rw [hn] at ht; simp at ht
    rw [if_neg this]; exact he.e t ht
  · rw [evS_put hd]
    have ht : (bif Nat.beq d t then some v else lkM m t) = some u := ht
    cases hb : Nat.beq d t
    · rw [hb] at ht
      rw [if_neg (fun e => by rw [e, Nat.beq_refl] at hb; cases hb)]; exact he.m t u ht
    · rw [hb] at ht; cases ht
      rw [if_pos (Nat.eq_of_beq_eq_true hb).symm]
theorem put_fr {d : Nat} {env : T AV} {v : AV} (hd : d < 1024) : Fr [d] env (env.put d v) := fun t ht => by
  rw [evS_put hd, if_neg]
  rintro rfl
  have ht : (bif Nat.beq t t then true else false) = false := ht
  rw [Nat.beq_refl] at ht; cases ht
def asgR : List CRow → List Nat
  | [] => []
  | r :: l => match r.dst with
    | some d => [d] ++ asgR l
    | none => asgR l
def movV (m : M) (r : CRow) : Option FV := match r.guard with
  | some _ => none
  | none => match r.op with
    | .aop a => match a with
      | .mov x => match x with
        | .slot t => lkM m t
        | .lit v => some (βV v)
        | _ => none
      | _ => none
    | _ => none
theorem movV_ok {nt : Nat} {dr : List Nat} {m : M} {e : E} {env : T AV} {r : CRow} {v : FV} (h : Em nt dr m e env) (hv : movV m r = some v) (Γ : Gam) (σ : AH) : gstep std Γ (evS env) σ r = (true, αV v, σ) := by
  unfold movV at hv
  unfold gstep
  split at hv
  · cases hv
  · rename_i hg
    rw [hg]
    split at hv
    · rename_i a ha
      split at hv
      · rename_i x
        split at hv
        · rename_i t
          dsimp only
          rw [ha]
          show (true, evS env (.slot t), σ) = _
          rw [h.m t v hv]
        · rename_i w
          cases hv
          dsimp only
          rw [ha]
          show (true, w, σ) = _
          rw [αβ w]
        · cases hv
      · cases hv
    · cases hv
def rowsK (nt : Nat) (dr : List Nat) (rest : M → Cd) : List CRow → M → Cd
  | [], m => rest m
  | r :: l, m => match r.dst with
    | some d => match movV m r with
      | some v => wvM nt dr d v (rowsK nt dr rest l ((d, v) :: m))
      | none => stM nt dr d (thrR (rdM nt dr m) r) fun v => rowsK nt dr rest l ((d, v) :: m)
    | none => cDo (thrR (rdM nt dr m) r) (rowsK nt dr rest l m)
theorem rowsK_ok {nt : Nat} {dr : List Nat} {rest : M → Cd} {Φ : Phi} {Γ : Gam} (hΦ : PhiOk Φ Γ) {N : Nat} {kn kr : K2} {ke : Nat → K2} : ∀ (l : List CRow) (m : M) (e : E) (env : T AV) (σ : FH), Em nt dr m e env → rowsK nt dr rest l m Φ N kn kr ke e σ ≠ .bad →
    ∃ m' e' env' σ', evP std Γ l env (αH σ) = (true, env', αH σ') ∧ Fr (asgR l) env env' ∧ Em nt dr m' e' env' ∧ rowsK nt dr rest l m Φ N kn kr ke e σ = rest m' Φ N kn kr ke e' σ'
  | [], m, e, env, σ, he, _ => ⟨m, e, env, σ, rfl, Fr.refl _ _, he, rfl⟩
  | r :: l, m, e, env, σ, he, h => by
    have key := fun k => thrR_ok (rdM_ok he) (fun v => rfl) hΦ r σ k
    unfold rowsK at h ⊢
    unfold evP asgR
    cases hd : r.dst with
    | none =>
      rw [hd] at h
      have h : (thrR (rdM nt dr m) r Φ e σ fun _ σ => rowsK nt dr rest l m Φ N kn kr ke e σ) ≠ .bad := h
      show ∃ m' e' env' σ', _ ∧ _ ∧ _ ∧ (thrR (rdM nt dr m) r Φ e σ fun _ σ => rowsK nt dr rest l m Φ N kn kr ke e σ) = _
      obtain ⟨v, σ1, h1, h2⟩ := key _ h
      rw [h2] at h ⊢
      try dsimp only at h ⊢
      rw [h1]
      dsimp only
      obtain ⟨m', e', env', σ', h3, h4, h5, h6⟩ := rowsK_ok hΦ l m e env σ1 he h
      exact ⟨m', e', env', σ', by simp only [putD]; rw [h3]; rfl, h4, h5, h6⟩
    | some d =>
      rw [hd] at h
      dsimp only at h ⊢
      have go : d < 1024 → ∀ (e1 : E) (v : FV) (σ1 : FH), gstep std Γ (evS env) (αH σ) r = (true, αV v, αH σ1) → Em nt dr ((d, v) :: m) e1 (env.put d (αV v)) → rowsK nt dr rest l ((d, v) :: m) Φ N kn kr ke e1 σ1 ≠ .bad →
          ∃ m' e' env' σ', (match gstep std Γ (evS env) (αH σ) r with | (ok, v, σ') => match evP std Γ l (putD env (some d) v) σ' with | (ok', x) => (ok && ok', x)) = (true, env', αH σ') ∧ Fr ([d] ++ asgR l) env env' ∧ Em nt dr m' e' env' ∧ rowsK nt dr rest l ((d, v) :: m) Φ N kn kr ke e1 σ1 = rest m' Φ N kn kr ke e' σ' := fun hd1 e1 v σ1 h1 h2 h => by
        obtain ⟨m', e', env', σ', h3, h4, h5, h6⟩ := rowsK_ok hΦ l _ e1 _ σ1 h2 h
        refine ⟨m', e', env', σ', ?_, (put_fr hd1).trans h4, h5, h6⟩
        rw [h1]
        dsimp only [putD]
        rw [h3]; rfl
      cases hmv : movV m r with
      | some v =>
        rw [hmv] at h
        have hgs := movV_ok he hmv Γ (αH σ)
        dsimp only at h ⊢
        unfold wvM at h ⊢
        cases hb : Nat.blt d nt && Nat.blt d 1024 with
        | false => rw [hb] at h; exact absurd rfl h
        | true =>
          rw [hb] at h
          rw [Bool.and_eq_true, Nat.blt_eq, Nat.blt_eq] at hb
          dsimp only [bsel] at h ⊢
          cases hn : hasN d dr with
          | true =>
            rw [hn] at h
            exact go hb.2 e v σ hgs (nowr_ok he hb.2 hn) h
          | false =>
            rw [hn] at h
            have h : (wrE d e v fun e => rowsK nt dr rest l ((d, v) :: m) Φ N kn kr ke e σ) ≠ .bad := h
            show ∃ m' e' env' σ', _ ∧ _ ∧ _ ∧ (wrE d e v fun e => rowsK nt dr rest l ((d, v) :: m) Φ N kn kr ke e σ) = _
            obtain ⟨e1, h3, h4⟩ := wr_ok (v := v) (k := fun e => rowsK nt dr rest l ((d, v) :: m) Φ N kn kr ke e σ) he hb.2
            rw [h4] at h ⊢
            exact go hb.2 e1 v σ hgs h3 h
      | none =>
      rw [hmv] at h
      dsimp only at h ⊢
      unfold stM at h ⊢
      cases hb : Nat.blt d nt && Nat.blt d 1024 with
      | false => rw [hb] at h; exact absurd rfl h
      | true =>
        rw [hb] at h
        rw [Bool.and_eq_true, Nat.blt_eq, Nat.blt_eq] at hb
        dsimp only [bsel] at h ⊢
        cases hn : hasN d dr with
        | true =>
          rw [hn] at h
          have h : (thrR (rdM nt dr m) r Φ e σ fun v σ => rowsK nt dr rest l ((d, v) :: m) Φ N kn kr ke e σ) ≠ .bad := h
          show ∃ m' e' env' σ', _ ∧ _ ∧ _ ∧ (thrR (rdM nt dr m) r Φ e σ fun v σ => rowsK nt dr rest l ((d, v) :: m) Φ N kn kr ke e σ) = _
          obtain ⟨v, σ1, h1, h2⟩ := key _ h
          rw [h2] at h ⊢
          exact go hb.2 e v σ1 h1 (nowr_ok he hb.2 hn) h
        | false =>
          rw [hn] at h
          have h : (thrR (rdM nt dr m) r Φ e σ fun v σ => wrE d e v fun e => rowsK nt dr rest l ((d, v) :: m) Φ N kn kr ke e σ) ≠ .bad := h
          show ∃ m' e' env' σ', _ ∧ _ ∧ _ ∧ (thrR (rdM nt dr m) r Φ e σ fun v σ => wrE d e v fun e => rowsK nt dr rest l ((d, v) :: m) Φ N kn kr ke e σ) = _
          obtain ⟨v, σ1, h1, h2⟩ := key _ h
          rw [h2] at h ⊢
          try dsimp only at h ⊢
          obtain ⟨e1, h3, h4⟩ := wr_ok (v := v) (k := fun e => rowsK nt dr rest l ((d, v) :: m) Φ N kn kr ke e σ1) he hb.2
          rw [h4] at h ⊢
          exact go hb.2 e1 v σ1 h1 h3 h
/-! Regions that draw their order. -/
def rdD (nt : Nat) (dr : List Nat) (m vo : M) : Ref → Rd
  | .op k => match lkM vo k with
    | some v => U v
    | none => rdX
  | r => rdM nt dr m r
def Vo (vo : M) (vals : T AV) : Prop := ∀ k v, lkM vo k = some v → valD vals k = αV v
theorem rdD_ok {nt : Nat} {dr : List Nat} {m vo : M} {e : E} {env vals : T AV} (h : Em nt dr m e env) (hv : Vo vo vals) : RdOk (rdD nt dr m vo) e (evR env vals) := fun r k hk => by
  cases r with
  | op j =>
    simp only [rdD] at hk ⊢
    cases hm : lkM vo j with
    | some v => exact ⟨v, hv j v hm, rfl⟩
    | none => rw [hm] at hk; exact absurd rfl hk
  | slot t => exact rdM_ok h (.slot t) k hk
  | lit v => exact ⟨βV v, (αβ v).symm, rfl⟩
theorem Vo.put {vo : M} {vals : T AV} {p : Nat} {v : FV} (h : Vo vo vals) (hp : p < 1048576) : Vo ((p, v) :: vo) (vals.put p (αV v)) := fun k u hk => by
  have hk : (bif Nat.beq p k then some v else lkM vo k) = some u := hk
  simp only [valD, T.get_put _ _ _ _ hp]
  cases hb : Nat.beq p k
  · rw [hb] at hk
    rw [if_neg (fun e => by rw [e, Nat.beq_refl] at hb; cases hb)]; exact h k u hk
  · rw [hb] at hk; cases hk
    rw [if_pos (Nat.eq_of_beq_eq_true hb).symm]
def eqQ (v w : FV) (r : FR) : FR := gT (same std (αV v) (αV w)) r
def cRck (op : Opc) (w : FV) (c : Cd) : Cd := fun Φ N kn kr ke e σ => op Φ e σ fun v _ => eqQ v w (c Φ N kn kr ke e σ)
def rckK (nt : Nat) (dr : List Nat) (m vo : M) (all : List (Nat × CRow)) : List Nat → Cd → Cd
  | [], c => c
  | j :: l, c => match all.find? fun p => Nat.beq p.1 j with
    | some q => match lkM vo j with
      | some w => cRck (thrR (rdD nt dr m vo) q.2) w (rckK nt dr m vo all l c)
      | none => cBad
    | none => cBad
theorem rckK_ok {nt : Nat} {dr : List Nat} {m vo : M} {all : List (Nat × CRow)} {Φ : Phi} {Γ : Gam} (hΦ : PhiOk Φ Γ) {e : E} {env vals : T AV} (he : Em nt dr m e env) (hv : Vo vo vals) {σ : FH} {c : Cd} {N : Nat} {kn kr : K2} {ke : Nat → K2} : ∀ (l : List Nat), rckK nt dr m vo all l c Φ N kn kr ke e σ ≠ .bad → rechk std Γ env all vals (αH σ) l = true ∧ rckK nt dr m vo all l c Φ N kn kr ke e σ = c Φ N kn kr ke e σ
  | [], _ => ⟨rfl, rfl⟩
  | j :: l, h => by
    unfold rckK at h ⊢
    unfold rechk
    cases hf : all.find? fun p => Nat.beq p.1 j with
    | none => rw [hf] at h; exact absurd rfl h
    | some q =>
      rw [hf] at h
      dsimp only at h ⊢
      cases hl : lkM vo j with
      | none => rw [hl] at h; exact absurd rfl h
      | some w =>
        rw [hl] at h
        have h : (thrR (rdD nt dr m vo) q.2 Φ e σ fun v _ => eqQ v w (rckK nt dr m vo all l c Φ N kn kr ke e σ)) ≠ .bad := h
        show _ ∧ (thrR (rdD nt dr m vo) q.2 Φ e σ fun v _ => eqQ v w (rckK nt dr m vo all l c Φ N kn kr ke e σ)) = _
        obtain ⟨v, σ1, h1, h2⟩ := thrR_ok (rdD_ok he hv) (fun v => rfl) hΦ q.2 σ _ h
        rw [h2] at h ⊢
        try dsimp only at h ⊢
        obtain ⟨h5, h6⟩ := gT_cases (show gT (same std (αV v) (αV w)) (rckK nt dr m vo all l c Φ N kn kr ke e σ) ≠ .bad from h)
        unfold eqQ at h ⊢
        rw [h6] at h ⊢
        obtain ⟨h7, h8⟩ := rckK_ok hΦ he hv l h
        refine ⟨?_, h8⟩
        try dsimp only
        rw [h1]
        simp only [Bool.true_and]
        rw [hv j w hl, h5, h7]; rfl
def movD1 (m vo : M) (r : CRow) : Option FV := match r.guard with
  | some _ => none
  | none => match r.op with
    | .aop a => match a with
      | .mov x => match x with
        | .slot t => lkM m t
        | .op j => lkM vo j
        | .lit v => some (βV v)
      | _ => none
    | _ => none
theorem movD1_ok {nt : Nat} {dr : List Nat} {m vo : M} {e : E} {env vals : T AV} {r : CRow} {v : FV} (h : Em nt dr m e env) (hV : Vo vo vals) (hv : movD1 m vo r = some v) (Γ : Gam) (σ : AH) : gstep std Γ (evR env vals) σ r = (true, αV v, σ) := by
  unfold movD1 at hv
  unfold gstep
  split at hv
  · cases hv
  · rename_i hg
    rw [hg]
    split at hv
    · rename_i a ha
      split at hv
      · rename_i x
        split at hv
        · rename_i t
          dsimp only
          rw [ha]
          show (true, evR env vals (.slot t), σ) = _
          rw [show evR env vals (.slot t) = αV v from h.m t v hv]
        · rename_i j
          dsimp only
          rw [ha]
          show (true, valD vals j, σ) = _
          rw [hV j v hv]
        · rename_i w
          cases hv
          dsimp only
          rw [ha]
          show (true, w, σ) = _
          rw [αβ w]
      · cases hv
    · cases hv
def rowsD (nt : Nat) (dr : List Nat) (m : M) (all : List (Nat × CRow)) (rc : Nat → List Nat) (fin : M → Cd) : List (Nat × CRow) → M → Cd
  | [], vo => fin vo
  | p :: l, vo => bsel (Nat.blt p.1 1024) (match movD1 m vo p.2 with
    | some v => rckK nt dr m ((p.1, v) :: vo) all (rc p.1) (rowsD nt dr m all rc fin l ((p.1, v) :: vo))
    | none => V (thrR (rdD nt dr m vo) p.2) fun v => rckK nt dr m ((p.1, v) :: vo) all (rc p.1) (rowsD nt dr m all rc fin l ((p.1, v) :: vo))) cBad
theorem rowsD_ok {nt : Nat} {dr : List Nat} {m : M} {all : List (Nat × CRow)} {rc : Nat → List Nat} {fin : M → Cd} {Φ : Phi} {Γ : Gam} (hΦ : PhiOk Φ Γ) {e : E} {env : T AV} (he : Em nt dr m e env) {N : Nat} {kn kr : K2} {ke : Nat → K2} : ∀ (l : List (Nat × CRow)) (vo : M) (vals : T AV) (σ : FH), Vo vo vals → rowsD nt dr m all rc fin l vo Φ N kn kr ke e σ ≠ .bad →
    ∃ vo' vals' σ', evD std Γ env all rc l vals (αH σ) = (true, vals', αH σ') ∧ Vo vo' vals' ∧ rowsD nt dr m all rc fin l vo Φ N kn kr ke e σ = fin vo' Φ N kn kr ke e σ'
  | [], vo, vals, σ, hv, _ => ⟨vo, vals, σ, rfl, hv, rfl⟩
  | p :: l, vo, vals, σ, hv, h => by
    rw [evD_cons]
    unfold rowsD at h ⊢
    cases hp : Nat.blt p.1 1024 with
    | false => rw [hp] at h; exact absurd rfl h
    | true =>
      rw [hp] at h
      rw [Nat.blt_eq] at hp
      cases hmv : movD1 m vo p.2 with
      | some v =>
        rw [hmv] at h
        have h : rckK nt dr m ((p.1, v) :: vo) all (rc p.1) (rowsD nt dr m all rc fin l ((p.1, v) :: vo)) Φ N kn kr ke e σ ≠ .bad := h
        show ∃ vo' vals' σ', _ ∧ _ ∧ rckK nt dr m ((p.1, v) :: vo) all (rc p.1) (rowsD nt dr m all rc fin l ((p.1, v) :: vo)) Φ N kn kr ke e σ = _
        rw [movD1_ok he hv hmv Γ (αH σ)]
        dsimp only
        have g2 : Vo ((p.1, v) :: vo) (vals.put p.1 (αV v)) := hv.put (by omega)
        obtain ⟨g4, g5⟩ := rckK_ok hΦ he g2 _ h
        rw [g5] at h ⊢
        obtain ⟨vo', vals', σ', h3, h4, h5⟩ := rowsD_ok hΦ he l _ _ σ g2 h
        refine ⟨vo', vals', σ', ?_, h4, h5⟩
        rw [h3, g4]; rfl
      | none =>
      rw [hmv] at h
      have h : (thrR (rdD nt dr m vo) p.2 Φ e σ fun v σ => rckK nt dr m ((p.1, v) :: vo) all (rc p.1) (rowsD nt dr m all rc fin l ((p.1, v) :: vo)) Φ N kn kr ke e σ) ≠ .bad := h
      show ∃ vo' vals' σ', _ ∧ _ ∧ (thrR (rdD nt dr m vo) p.2 Φ e σ fun v σ => rckK nt dr m ((p.1, v) :: vo) all (rc p.1) (rowsD nt dr m all rc fin l ((p.1, v) :: vo)) Φ N kn kr ke e σ) = _
      obtain ⟨v, σ1, h1, h2⟩ := thrR_ok (rdD_ok he hv) (fun v => rfl) hΦ p.2 σ _ h
      rw [h2] at h ⊢
      try dsimp only at h ⊢
      rw [h1]
      dsimp only
      have g2 : Vo ((p.1, v) :: vo) (vals.put p.1 (αV v)) := hv.put (by omega)
      obtain ⟨g4, g5⟩ := rckK_ok hΦ he g2 _ h
      rw [g5] at h ⊢
      obtain ⟨vo', vals', σ', h3, h4, h5⟩ := rowsD_ok hΦ he l _ _ σ1 g2 h
      refine ⟨vo', vals', σ', ?_, h4, h5⟩
      rw [h3, g4]; rfl
def movD (nt : Nat) (dr : List Nat) (vo : M) (rest : M → Cd) : List (Option Nat) → Nat → M → Cd
  | [], _, m => rest m
  | d :: l, i, m => match d with
    | none => movD nt dr vo rest l (i + 1) m
    | some d => match lkM vo i with
      | some v => wvM nt dr d v (movD nt dr vo rest l (i + 1) ((d, v) :: m))
      | none => cBad
def asgD : List (Option Nat) → List Nat
  | [] => []
  | d :: l => match d with
    | none => asgD l
    | some d => [d] ++ asgD l
theorem movD_ok {nt : Nat} {dr : List Nat} {vo : M} {rest : M → Cd} {Φ : Phi} {vals : T AV} (hv : Vo vo vals) {σ : FH} {N : Nat} {kn kr : K2} {ke : Nat → K2} : ∀ (l : List (Option Nat)) (i : Nat) (m : M) (e : E) (env : T AV), Em nt dr m e env → movD nt dr vo rest l i m Φ N kn kr ke e σ ≠ .bad → ∃ m' e', Fr (asgD l) env (putAll vals l i env) ∧ Em nt dr m' e' (putAll vals l i env) ∧ movD nt dr vo rest l i m Φ N kn kr ke e σ = rest m' Φ N kn kr ke e' σ
  | [], i, m, e, env, he, _ => ⟨m, e, Fr.refl _ _, he, rfl⟩
  | d :: l, i, m, e, env, he, h => by
    unfold movD at h ⊢
    unfold putAll asgD
    cases d with
    | none => exact movD_ok hv l (i + 1) m e env he h
    | some d =>
      dsimp only at h ⊢
      cases hl : lkM vo i with
      | none => rw [hl] at h; exact absurd rfl h
      | some v =>
        rw [hl] at h
        dsimp only at h ⊢
        unfold wvM at h ⊢
        cases hb : Nat.blt d nt && Nat.blt d 1024 with
        | false => rw [hb] at h; exact absurd rfl h
        | true =>
          rw [hb] at h
          rw [Bool.and_eq_true, Nat.blt_eq, Nat.blt_eq] at hb
          dsimp only [bsel] at h ⊢
          have h1 : valD vals i = αV v := hv i v hl
          simp only [putD]
          rw [h1]
          cases hn : hasN d dr with
          | true =>
            rw [hn] at h
            dsimp only [bsel] at h ⊢
            obtain ⟨m', e', h3, h4, h5⟩ := movD_ok hv l (i + 1) _ e _ (nowr_ok he hb.2 hn) h
            exact ⟨m', e', (put_fr hb.2).trans h3, h4, h5⟩
          | false =>
            rw [hn] at h
            have h : (wrE d e v fun e => movD nt dr vo rest l (i + 1) ((d, v) :: m) Φ N kn kr ke e σ) ≠ .bad := h
            show ∃ m' e', _ ∧ _ ∧ (wrE d e v fun e => movD nt dr vo rest l (i + 1) ((d, v) :: m) Φ N kn kr ke e σ) = _
            obtain ⟨e1, h3, h4⟩ := wr_ok (v := v) (k := fun e => movD nt dr vo rest l (i + 1) ((d, v) :: m) Φ N kn kr ke e σ) he hb.2
            rw [h4] at h ⊢
            obtain ⟨m', e', h5, h6, h7⟩ := movD_ok hv l (i + 1) _ e1 _ h3 h
            exact ⟨m', e', (put_fr hb.2).trans h5, h6, h7⟩
/-! Code. -/
def bdK (ws : List Wr) : List FV → E → (E → FR) → FR := List.rec (motive := fun _ => List FV → E → (E → FR) → FR) (fun l e k => List.rec (motive := fun _ => FR) (k e) (fun _ _ _ => .bad) l) (fun w _ ih l e k => List.rec (motive := fun _ => FR) .bad (fun v l _ => w e v fun e => ih l e k) l) ws
def kX : K2 := fun _ _ => .bad
def kXe : Nat → K2 := fun _ _ _ => .bad
def rnQ (ws : List Wr) (a b : Cd) (Φ : Phi) (e : E) : HF := fun l σ k => bdK ws l e fun e => FH.rec (motive := fun _ => FR) (fun N m => a Φ N (b Φ N (fun _ σ => k (.b true) σ) kX kXe) kX kXe e ⟨N, m⟩) σ
def shO : FObj := .cells [] 0 .ro
def cRf (f : Rd) (ws : List Wr) (a b : Cd) : Cd := fun Φ _ kn _ _ e σ => f e fun v => FV.rec (motive_1 := fun _ => FR) (motive_2 := fun _ => FR) (fun _ _ => .bad) (fun _ _ => .bad) (fun _ => .bad) (fun _ => .bad) (fun _ _ => .bad) (fun _ _ _ _ _ _ => .bad) (fun _ => .bad) (fun _ => .bad) (fun g x y _ _ => Fn.rec (motive := fun _ => FR) (fun n => nM σ shO fun bl σ => appK x (FV.y bl :: y) fun l => (Φ.up bl (rnQ ws a b Φ.bare e)).fn n l σ fun _ σ => kn e σ) (fun _ => .bad) (fun _ _ => .bad) (fun _ _ _ _ => .bad) (fun _ => .bad) g) (fun _ _ _ => .bad) (fun _ _ => .bad) (fun _ => .bad) (fun _ _ => .bad) (fun _ _ => .bad) (fun _ => .bad) .bad (fun _ _ _ _ => .bad) v
def wrB (nt : Nat) (dr : List Nat) (t : Nat) : Wr := bsel (inE nt dr t) (wrE t) wrX
def asg : ACode → List Nat
  | .seq a b => asg a ++ asg b
  | .cond _ a b => asg a ++ asg b
  | .block _ c => asg c
  | .loop c => asg c
  | .reg rows => asgR rows
  | .regd _ _ ds => asgD ds
  | _ => []
def cS : M → Cd := fun _ => cSkip
def thrK (fuel nt : Nat) (dr : List Nat) : ACode → M → (M → Cd) → Cd
  | .skip, m, rest => rest m
  | .ret, _, _ => cRet
  | .exit id, _, _ => cExit id
  | .seq a b, m, rest => thrK fuel nt dr a m fun m => thrK fuel nt dr b m rest
  | .cond c a b, m, rest => cSeq (cCond (rdM nt dr m c) (thrK fuel nt dr a m cS) (thrK fuel nt dr b m cS)) (rest (filt (asg a ++ asg b) m))
  | .block id c, m, rest => cSeq (cBlk id (thrK fuel nt dr c m cS)) (rest (filt (asg c) m))
  | .loop c, m, _ => cLoop fuel (thrK fuel nt dr c (filt (asg c) m) cS)
  | .reg rows, m, rest => rowsK nt dr rest rows m
  | .regd st rcs ds, m, rest => rowsD nt dr m st (rcGet rcs) (fun vo => movD nt dr vo rest ds 0 m) st []
  | .bad, _, _ => cBad
  | .rfun f ps a b, m, rest => cSeq (cRf (rdM nt dr m f) (ps.map (wrB nt dr)) (thrK fuel nt dr a (filt ps m) cS) (thrK fuel nt dr b (filt (asg a) (filt ps m)) cS)) (rest m)
  | .mfor _ _ _ _ _, _, _ => cBad
def KEnd (nt : Nat) (dr : List Nat) (rest : M → Cd) (Φ : Phi) (N : Nat) (kn kr : K2) (ke : Nat → K2) (fr : FR) (e' : E) (env' : T AV) (σ' : FH) : AX → Prop
  | .normal => ∃ m', Em nt dr m' e' env' ∧ fr = rest m' Φ N kn kr ke e' σ'
  | .ret => Ee nt dr e' env' ∧ fr = kr e' σ'
  | .exit i => Ee nt dr e' env' ∧ fr = ke i e' σ'
def KOk (fuel nt : Nat) (dr : List Nat) (c : ACode) : Prop := ∀ m rest Φ Γ, PhiOk Φ Γ → ∀ N kn kr ke e σ env, Em nt dr m e env → thrK fuel nt dr c m rest Φ N kn kr ke e σ ≠ .bad →
  ∃ x env' e' σ', run std Γ N fuel c env (αH σ) = .ok x env' (αH σ') ∧ Fr (asg c) env env' ∧ KEnd nt dr rest Φ N kn kr ke (thrK fuel nt dr c m rest Φ N kn kr ke e σ) e' env' σ' x
theorem bindP_fr : ∀ (ps : List Nat) (l : List AV) (env : T AV), (∀ p ∈ ps, p < 1024) → Fr ps env (bindP env ps l)
  | [], l, env, _ => by cases l <;> exact Fr.refl _ _
  | p :: ps, [], env, _ => Fr.refl _ _
  | p :: ps, v :: l, env, h => (put_fr (h p List.mem_cons_self)).trans (bindP_fr ps l _ fun q hq => h q (List.mem_cons_of_mem _ hq))
theorem bdK_ok {nt : Nat} {dr : List Nat} : ∀ (ps : List Nat) (l : List FV) (e : E) (env : T AV) (k : E → FR), Ee nt dr e env → bdK (ps.map (wrB nt dr)) l e k ≠ .bad → (∀ p ∈ ps, p < 1024) ∧ Nat.beq ps.length (αL l).length = true ∧ ∃ e', Ee nt dr e' (bindP env ps (αL l)) ∧ bdK (ps.map (wrB nt dr)) l e k = k e'
  | [], [], e, env, k, he, _ => ⟨fun p hp => (by cases hp), rfl, e, he, rfl⟩
  | [], _ :: _, e, env, k, he, h => absurd rfl h
  | _ :: _, [], e, env, k, he, h => absurd rfl h
  | p :: ps, v :: l, e, env, k, he, h => by
    have h : (wrB nt dr p e v fun e => bdK (ps.map (wrB nt dr)) l e k) ≠ .bad := h
    show _ ∧ _ ∧ ∃ e', _ ∧ (wrB nt dr p e v fun e => bdK (ps.map (wrB nt dr)) l e k) = _
    unfold wrB at h ⊢
    cases hb : inE nt dr p with
    | false => rw [hb] at h; exact absurd rfl h
    | true =>
      rw [hb] at h
      have hp := inE_lt hb
      dsimp only [bsel] at h ⊢
      obtain ⟨e1, h3, h4⟩ := wr_ok (m := []) (v := v) (k := fun e => bdK (ps.map (wrB nt dr)) l e k) ⟨he, fun t u hu => by cases hu⟩ hp.2
      have h4' : (wrE p e v fun e => bdK (ps.map (fun t => bsel (inE nt dr t) (wrE t) wrX)) l e k) = bdK (ps.map (wrB nt dr)) l e1 k := h4
      rw [h4'] at h ⊢
      obtain ⟨h0, h1, e', h2, h5⟩ := bdK_ok ps l e1 _ k h3.e h
      refine ⟨fun q hq => ?_, ?_, e', h2, h5⟩
      · rcases List.mem_cons.1 hq with rfl | hq
        · exact hp.2
        · exact h0 q hq
      · show Nat.beq (ps.length + 1) ((αL l).length + 1) = true
        exact h1
theorem rnQ_ok {fuel nt : Nat} {dr : List Nat} {a b : ACode} (ha : KOk fuel nt dr a) (hb : KOk fuel nt dr b) {Φ : Phi} {Γ : Gam} (hΦ : PhiOk Φ Γ) (ps : List Nat) {m : M} {e : E} {env : T AV} (he : Em nt dr m e env) :
    HOk (rnQ (ps.map (wrB nt dr)) (thrK fuel nt dr a (filt ps m) cS) (thrK fuel nt dr b (filt (asg a) (filt ps m)) cS) Φ.bare e) (rnd (both std Γ.bare fuel a b) env ps) := fun l σ k h => by
  unfold rnQ at h ⊢
  obtain ⟨h0, h1, e1, h2, h3⟩ := bdK_ok ps l e env _ he.e h
  rw [h3] at h ⊢
  obtain ⟨N, mm⟩ := σ
  have h : thrK fuel nt dr a (filt ps m) cS Φ.bare N (thrK fuel nt dr b (filt (asg a) (filt ps m)) cS Φ.bare N (fun _ σ => k (.b true) σ) kX kXe) kX kXe e1 ⟨N, mm⟩ ≠ .bad := h
  show ∃ v σ', _ ∧ thrK fuel nt dr a (filt ps m) cS Φ.bare N (thrK fuel nt dr b (filt (asg a) (filt ps m)) cS Φ.bare N (fun _ σ => k (.b true) σ) kX kXe) kX kXe e1 ⟨N, mm⟩ = _
  have hm1 := he.filt (bindP_fr ps (αL l) env h0) h2
  obtain ⟨x, env1, e2, σ1, g1, g2, g3⟩ := ha _ _ _ _ hΦ.bare N _ _ _ e1 _ _ hm1 h
  cases x with
  | ret => rw [g3.2] at h; exact absurd rfl h
  | exit i => rw [g3.2] at h; exact absurd rfl h
  | normal =>
    obtain ⟨m', g4, g5⟩ := g3
    rw [g5] at h ⊢
    have h : thrK fuel nt dr b (filt (asg a) (filt ps m)) cS Φ.bare N (fun _ σ => k (.b true) σ) kX kXe e2 σ1 ≠ .bad := h
    show ∃ v σ', _ ∧ thrK fuel nt dr b (filt (asg a) (filt ps m)) cS Φ.bare N (fun _ σ => k (.b true) σ) kX kXe e2 σ1 = _
    obtain ⟨y, env2, e3, σ2, g6, _, g7⟩ := hb _ _ _ _ hΦ.bare N _ _ _ e2 σ1 env1 (hm1.filt g2 g4.e) h
    cases y with
    | ret => rw [g7.2] at h; exact absurd rfl h
    | exit i => rw [g7.2] at h; exact absurd rfl h
    | normal =>
      obtain ⟨m'', _, g8⟩ := g7
      rw [g8]
      refine ⟨.b true, σ2, ?_, rfl⟩
      unfold rnd
      rw [h1]
      dsimp only [cond_true]
      have e4 : both std Γ.bare fuel a b (bindP env ps (αL l)) (αH ⟨N, mm⟩) = .ok .normal env2 (αH σ2) := by
        unfold both
        rw [show (αH ⟨N, mm⟩).next = N from rfl, g1]
        exact g6
      rw [e4]; rfl
theorem thrK_ok {fuel nt : Nat} {dr : List Nat} : ∀ c : ACode, KOk fuel nt dr c := by
  intro c
  induction c with
  | skip => intro m rest Φ Γ hΦ N kn kr ke e σ env he _; exact ⟨.normal, env, e, σ, rfl, Fr.refl _ _, m, he, rfl⟩
  | ret => intro m rest Φ Γ hΦ N kn kr ke e σ env he _; exact ⟨.ret, env, e, σ, rfl, Fr.refl _ _, he.e, rfl⟩
  | exit i => intro m rest Φ Γ hΦ N kn kr ke e σ env he _; exact ⟨.exit i, env, e, σ, rfl, Fr.refl _ _, he.e, rfl⟩
  | bad => intro m rest Φ Γ hΦ N kn kr ke e σ env he h; exact absurd rfl h
  | mfor => intro m rest Φ Γ hΦ N kn kr ke e σ env he h; exact absurd rfl h
  | seq a b ia ib =>
    intro m rest Φ Γ hΦ N kn kr ke e σ env he h
    have h : thrK fuel nt dr a m (fun m => thrK fuel nt dr b m rest) Φ N kn kr ke e σ ≠ .bad := h
    show ∃ x env' e' σ', (run std Γ N fuel a env (αH σ)).next (run std Γ N fuel b) = _ ∧ Fr (asg a ++ asg b) env env' ∧ KEnd nt dr rest Φ N kn kr ke (thrK fuel nt dr a m (fun m => thrK fuel nt dr b m rest) Φ N kn kr ke e σ) e' env' σ' x
    obtain ⟨x, env1, e1, σ1, h1, h2, h3⟩ := ia m _ Φ Γ hΦ N kn kr ke e σ env he h
    rw [h1]
    cases x with
    | normal =>
      obtain ⟨m', g1, g2⟩ := h3
      rw [g2] at h ⊢
      obtain ⟨y, env2, e2, σ2, h4, h5, h6⟩ := ib m' rest Φ Γ hΦ N kn kr ke e1 σ1 env1 g1 h
      exact ⟨y, env2, e2, σ2, h4, h2.trans h5, h6⟩
    | ret => exact ⟨.ret, env1, e1, σ1, rfl, h2.left, h3⟩
    | exit i => exact ⟨.exit i, env1, e1, σ1, rfl, h2.left, h3⟩
  | cond c a b ia ib =>
    intro m rest Φ Γ hΦ N kn kr ke e σ env he h
    have h : cCond (rdM nt dr m c) (thrK fuel nt dr a m cS) (thrK fuel nt dr b m cS) Φ N (rest (filt (asg a ++ asg b) m) Φ N kn kr ke) kr ke e σ ≠ .bad := h
    show ∃ x env' e' σ', (match evS env c with | .bool t => bif t then run std Γ N fuel a env (αH σ) else run std Γ N fuel b env (αH σ) | _ => .bad) = _ ∧ Fr (asg a ++ asg b) env env' ∧ KEnd nt dr rest Φ N kn kr ke (cCond (rdM nt dr m c) (thrK fuel nt dr a m cS) (thrK fuel nt dr b m cS) Φ N (rest (filt (asg a ++ asg b) m) Φ N kn kr ke) kr ke e σ) e' env' σ' x
    unfold cCond at h ⊢
    obtain ⟨v, h1, h2⟩ := rdM_ok he c _ h
    rw [h2] at h ⊢
    rw [h1]
    obtain ⟨t, rfl, h3⟩ := kB_cases h
    rw [h3] at h ⊢
    have fin : ∀ (q : ACode), KOk fuel nt dr q → (∀ e1, Fr (asg q) env e1 → Fr (asg a ++ asg b) env e1) → thrK fuel nt dr q m cS Φ N (rest (filt (asg a ++ asg b) m) Φ N kn kr ke) kr ke e σ ≠ .bad →
        ∃ x env' e' σ', run std Γ N fuel q env (αH σ) = .ok x env' (αH σ') ∧ Fr (asg a ++ asg b) env env' ∧ KEnd nt dr rest Φ N kn kr ke (thrK fuel nt dr q m cS Φ N (rest (filt (asg a ++ asg b) m) Φ N kn kr ke) kr ke e σ) e' env' σ' x := fun q iq hf h => by
      obtain ⟨x, env1, e1, σ1, g1, g2, g3⟩ := iq m _ Φ Γ hΦ N _ kr ke e σ env he h
      refine ⟨x, env1, e1, σ1, g1, hf _ g2, ?_⟩
      cases x with
      | normal => obtain ⟨m', g4, g5⟩ := g3; exact ⟨_, he.filt (hf _ g2) g4.e, g5⟩
      | ret => exact g3
      | exit i => exact g3
    cases t with
    | true => exact fin a ia (fun _ h => h.left) h
    | false => exact fin b ib (fun _ h => h.right) h
  | block id c ic =>
    intro m rest Φ Γ hΦ N kn kr ke e σ env he h
    have h : thrK fuel nt dr c m cS Φ N (rest (filt (asg c) m) Φ N kn kr ke) kr (fun i e σ => Bool.rec (ke i e σ) (rest (filt (asg c) m) Φ N kn kr ke e σ) (Nat.beq i id)) e σ ≠ .bad := h
    show ∃ x env' e' σ', (run std Γ N fuel c env (αH σ)).block id = _ ∧ Fr (asg c) env env' ∧ KEnd nt dr rest Φ N kn kr ke (thrK fuel nt dr c m cS Φ N (rest (filt (asg c) m) Φ N kn kr ke) kr (fun i e σ => Bool.rec (ke i e σ) (rest (filt (asg c) m) Φ N kn kr ke e σ) (Nat.beq i id)) e σ) e' env' σ' x
    obtain ⟨x, env1, e1, σ1, h1, h2, h3⟩ := ic m _ Φ Γ hΦ N _ kr _ e σ env he h
    rw [h1]
    cases x with
    | normal => obtain ⟨m', g4, g5⟩ := h3; exact ⟨.normal, env1, e1, σ1, rfl, h2, _, he.filt h2 g4.e, g5⟩
    | ret => exact ⟨.ret, env1, e1, σ1, rfl, h2, h3⟩
    | exit i =>
      obtain ⟨g4, g5⟩ := h3
      rw [g5]
      show ∃ x env' e' σ', (bif Nat.beq i id then RR.ok .normal env1 (αH σ1) else .ok (.exit i) env1 (αH σ1)) = _ ∧ _ ∧ KEnd nt dr rest Φ N kn kr ke (Bool.rec (ke i e1 σ1) (rest (filt (asg c) m) Φ N kn kr ke e1 σ1) (Nat.beq i id) : FR) e' env' σ' x
      cases hb : Nat.beq i id with
      | true => exact ⟨.normal, env1, e1, σ1, rfl, h2, _, he.filt h2 g4, rfl⟩
      | false => exact ⟨.exit i, env1, e1, σ1, rfl, h2, g4, rfl⟩
  | loop c ic =>
    intro m rest Φ Γ hΦ N kn kr ke e σ env he h
    have key : ∀ (n : Nat) (e1 : E) (σ : FH) (env1 : T AV), Fr (asg c) env env1 → Ee nt dr e1 env1 → (Nat.rec (motive := fun _ => K2) (fun _ _ => .bad) (fun _ ih e σ => FH.rec (motive := fun _ => FR) (fun n mm => gT (Nat.ble N n) (thrK fuel nt dr c (filt (asg c) m) cS Φ N ih kr ke e ⟨n, mm⟩)) σ) n e1 σ : FR) ≠ .bad →
        ∃ x env' e' σ', runLoop N (run std Γ N fuel c) n env1 (αH σ) = .ok x env' (αH σ') ∧ Fr (asg c) env env' ∧ KEnd nt dr rest Φ N kn kr ke (Nat.rec (motive := fun _ => K2) (fun _ _ => .bad) (fun _ ih e σ => FH.rec (motive := fun _ => FR) (fun n mm => gT (Nat.ble N n) (thrK fuel nt dr c (filt (asg c) m) cS Φ N ih kr ke e ⟨n, mm⟩)) σ) n e1 σ : FR) e' env' σ' x := by
      intro n
      induction n with
      | zero => intro e1 σ env1 _ _ h; exact absurd rfl h
      | succ n ih =>
        intro e1 σ env1 hf he1 h
        obtain ⟨q, mm⟩ := σ
        have h : gT (Nat.ble N q) (thrK fuel nt dr c (filt (asg c) m) cS Φ N (Nat.rec (motive := fun _ => K2) (fun _ _ => .bad) (fun _ ih e σ => FH.rec (motive := fun _ => FR) (fun n mm => gT (Nat.ble N n) (thrK fuel nt dr c (filt (asg c) m) cS Φ N ih kr ke e ⟨n, mm⟩)) σ) n) kr ke e1 ⟨q, mm⟩) ≠ .bad := h
        show ∃ x env' e' σ', (bif Nat.ble N q then (run std Γ N fuel c env1 (αH ⟨q, mm⟩)).next (runLoop N (run std Γ N fuel c) n) else .bad) = _ ∧ _ ∧ KEnd nt dr rest Φ N kn kr ke (gT (Nat.ble N q) (thrK fuel nt dr c (filt (asg c) m) cS Φ N (Nat.rec (motive := fun _ => K2) (fun _ _ => .bad) (fun _ ih e σ => FH.rec (motive := fun _ => FR) (fun n mm => gT (Nat.ble N n) (thrK fuel nt dr c (filt (asg c) m) cS Φ N ih kr ke e ⟨n, mm⟩)) σ) n) kr ke e1 ⟨q, mm⟩)) e' env' σ' x
        obtain ⟨g1, g2⟩ := gT_cases h
        rw [g2] at h ⊢
        rw [g1]
        dsimp only [cond_true]
        obtain ⟨x, env2, e2, σ2, h1, h2, h3⟩ := ic _ _ Φ Γ hΦ N _ kr ke e1 ⟨q, mm⟩ env1 (he.filt hf he1) h
        have h2' : Fr (asg c) env env2 := fun t ht => (h2 t ht).trans (hf t ht)
        rw [h1]
        cases x with
        | normal =>
          obtain ⟨m', g4, g5⟩ := h3
          rw [g5] at h ⊢
          exact ih e2 σ2 env2 h2' g4.e h
        | ret => exact ⟨.ret, env2, e2, σ2, rfl, h2', h3⟩
        | exit i => exact ⟨.exit i, env2, e2, σ2, rfl, h2', h3⟩
    exact key fuel e σ env (Fr.refl _ _) he.e h
  | reg rows =>
    intro m rest Φ Γ hΦ N kn kr ke e σ env he h
    obtain ⟨m', e', env', σ', h1, h2, h3, h4⟩ := rowsK_ok hΦ rows m e env σ he h
    refine ⟨.normal, env', e', σ', ?_, h2, m', h3, h4⟩
    show (match evP std Γ rows env (αH σ) with | (ok, env', σ') => bif ok then RR.ok .normal env' σ' else .bad) = _
    rw [h1]; rfl
  | regd st rcs ds =>
    intro m rest Φ Γ hΦ N kn kr ke e σ env he h
    have h : rowsD nt dr m st (rcGet rcs) (fun vo => movD nt dr vo rest ds 0 m) st [] Φ N kn kr ke e σ ≠ .bad := h
    show ∃ x env' e' σ', (match evDr std Γ st rcs ds env (αH σ) with | (ok, env', σ') => bif ok then RR.ok .normal env' σ' else .bad) = _ ∧ Fr (asgD ds) env env' ∧ KEnd nt dr rest Φ N kn kr ke (rowsD nt dr m st (rcGet rcs) (fun vo => movD nt dr vo rest ds 0 m) st [] Φ N kn kr ke e σ) e' env' σ' x
    obtain ⟨vo, vals, σ1, h1, h2, h3⟩ := rowsD_ok hΦ he st [] .leaf σ (fun k v hk => by cases hk) h
    rw [h3] at h ⊢
    obtain ⟨m', e2, h4, h5, h6⟩ := movD_ok h2 ds 0 m e env he h
    refine ⟨.normal, _, e2, σ1, ?_, h4, m', h5, h6⟩
    unfold evDr
    rw [h1]; rfl
  | rfun f ps a b ia ib =>
    intro m rest Φ Γ hΦ N kn kr ke e σ env he h
    have h : cRf (rdM nt dr m f) (ps.map (wrB nt dr)) (thrK fuel nt dr a (filt ps m) cS) (thrK fuel nt dr b (filt (asg a) (filt ps m)) cS) Φ N (rest m Φ N kn kr ke) kr ke e σ ≠ .bad := h
    show ∃ x env' e' σ', (match evS env f with
      | .fn g first cap => (match g with
        | .func n => (match (Γ.up (αH σ).next (rnd (both std Γ.bare fuel a b) env ps)).fn n (first ++ (AV.yld (αH σ).next :: cap)) ((αH σ).new AObj.shut) with
          | (ok, _, σ') => bif Nat.blt (αH σ).next 1000000 && ok then RR.ok .normal env σ' else .bad)
        | _ => .bad)
      | _ => .bad) = _ ∧ Fr [] env env' ∧ KEnd nt dr rest Φ N kn kr ke (cRf (rdM nt dr m f) (ps.map (wrB nt dr)) (thrK fuel nt dr a (filt ps m) cS) (thrK fuel nt dr b (filt (asg a) (filt ps m)) cS) Φ N (rest m Φ N kn kr ke) kr ke e σ) e' env' σ' x
    unfold cRf at h ⊢
    obtain ⟨v, h1, h2⟩ := rdM_ok he f _ h
    rw [h2] at h ⊢
    rw [h1]
    cases v with
    | fn g x y =>
      cases g with
      | func n =>
        have h : (nM σ shO fun bl σ => appK x (FV.y bl :: y) fun l => (Φ.up bl (rnQ (ps.map (wrB nt dr)) (thrK fuel nt dr a (filt ps m) cS) (thrK fuel nt dr b (filt (asg a) (filt ps m)) cS) Φ.bare e)).fn n l σ fun _ σ => rest m Φ N kn kr ke e σ) ≠ .bad := h
        show ∃ x' env' e' σ', _ ∧ _ ∧ KEnd nt dr rest Φ N kn kr ke (nM σ shO fun bl σ => appK x (FV.y bl :: y) fun l => (Φ.up bl (rnQ (ps.map (wrB nt dr)) (thrK fuel nt dr a (filt ps m) cS) (thrK fuel nt dr b (filt (asg a) (filt ps m)) cS) Φ.bare e)).fn n l σ fun _ σ => rest m Φ N kn kr ke e σ) e' env' σ' x'
        obtain ⟨h3, σ1, h4, h5⟩ := nM_cases h
        rw [h5, appK_eq] at h ⊢
        obtain ⟨w, σ2, h6, h7⟩ := (hΦ.up (l := σ.next) (rnQ_ok ia ib hΦ ps he)).fn n _ σ1 _ h
        rw [h7]
        refine ⟨.normal, env, e, σ2, ?_, Fr.refl _ _, m, he, rfl⟩
        rw [αL_append, h4] at h6
        simp only [αV]
        have h6 : (Γ.up (αH σ).next (rnd (both std Γ.bare fuel a b) env ps)).fn n (αL x ++ (AV.yld (αH σ).next :: αL y)) ((αH σ).new AObj.shut) = (true, αV w, αH σ2) := h6
        rw [h6]
        dsimp only
        rw [h3]; rfl
      | _ => exact absurd rfl h
    | _ => exact absurd rfl h
end
end Go.Proofs.YtlgbdgpgdimpdaaGreatDoor.V2
namespace Go.Proofs.YtlgbdgpgdimpdaaGreatDoor.V2
open Go
noncomputable section
abbrev Rs := E → FH → (FV → FR) → FR
def vT (r : Rd) : Rs := fun e _ k => r e k
def v1 (r : Rd) : Rs := fun e σ k => r e fun p => ldF p σ k
def vN (n : Nat) (r : Rd) : Rs := fun e σ k => r e fun p => lnF n p σ k
def thrV (nt : Nat) (dr : List Nat) : ARes → Rs
  | .tmp t => vT (rdM nt dr [] (.slot t))
  | .cell1 a => v1 (rdM nt dr [] (.slot a))
  | .cellN a n => vN n (rdM nt dr [] (.slot a))
theorem Ee.m {nt : Nat} {dr : List Nat} {e : E} {env : T AV} (h : Ee nt dr e env) : Em nt dr [] e env := ⟨h, fun t v ht => by cases ht⟩
theorem thrV_ok {nt : Nat} {dr : List Nat} {e : E} {env : T AV} (he : Ee nt dr e env) (x : ARes) (σ : FH) (c : FV → FR) : Sv (thrV nt dr x e σ c) c (resV std env (αH σ) x) := by
  intro h
  cases x with
  | tmp t =>
    obtain ⟨v, h1, h2⟩ := rdM_ok he.m (.slot t) _ h
    exact ⟨v, by simp only [resV]; rw [h1], h2⟩
  | cell1 a =>
    have h : (rdM nt dr [] (.slot a) e fun p => ldF p σ c) ≠ .bad := h
    show ∃ v, _ ∧ (rdM nt dr [] (.slot a) e fun p => ldF p σ c) = _
    obtain ⟨p, h1, h2⟩ := rdM_ok he.m (.slot a) _ h
    rw [h2] at h ⊢
    obtain ⟨v, h3, h4⟩ := ldF_sv p σ c h
    refine ⟨v, ?_, h4⟩
    simp only [resV]
    rw [h1, oLoad1_mem]
    exact h3
  | cellN a n =>
    have h : (rdM nt dr [] (.slot a) e fun p => lnF n p σ c) ≠ .bad := h
    show ∃ v, _ ∧ (rdM nt dr [] (.slot a) e fun p => lnF n p σ c) = _
    obtain ⟨p, h1, h2⟩ := rdM_ok he.m (.slot a) _ h
    rw [h2] at h ⊢
    obtain ⟨v, h3, h4⟩ := lnF_sv n p σ c h
    refine ⟨v, ?_, h4⟩
    simp only [resV]
    rw [h1, oLoadN_mem]
    exact h3
def rsQ (l : List Rs) (e : E) (σ : FH) (k : List FV → FR) : FR := List.rec (motive := fun _ => (List FV → FR) → FR) (fun k => k []) (fun r _ ih k => r e σ fun v => ih fun l => k (v :: l)) l k
theorem rsQ_ok {nt : Nat} {dr : List Nat} {e : E} {env : T AV} (he : Ee nt dr e env) (σ : FH) : ∀ (l : List ARes) (k : List FV → FR), rsQ (l.map (thrV nt dr)) e σ k ≠ .bad → ∃ vs, resL std env (αH σ) l = (true, αL vs) ∧ rsQ (l.map (thrV nt dr)) e σ k = k vs
  | [], k, _ => ⟨[], rfl, rfl⟩
  | x :: l, k, h => by
    have h : (thrV nt dr x e σ fun v => rsQ (l.map (thrV nt dr)) e σ fun l => k (v :: l)) ≠ .bad := h
    show ∃ vs, _ ∧ (thrV nt dr x e σ fun v => rsQ (l.map (thrV nt dr)) e σ fun l => k (v :: l)) = _
    obtain ⟨v, h1, h2⟩ := thrV_ok he x σ _ h
    rw [h2] at h ⊢
    obtain ⟨vs, h3, h4⟩ := rsQ_ok he σ l _ h
    refine ⟨v :: vs, ?_, h4⟩
    simp only [resL]
    rw [h1, h3]; rfl
def rtQ (l : List FV) (k : FV → FR) : FR := List.rec (motive := fun _ => FR) (k (.tup [])) (fun x m _ => List.rec (motive := fun _ => FR) (k x) (fun _ _ _ => k (.tup l)) m) l
theorem rtQ_of (l : List FV) (k : FV → FR) : ∃ v, αV v = retV (αL l) ∧ rtQ l k = k v := by
  match l with
  | [] => exact ⟨.tup [], rfl, rfl⟩
  | [x] => exact ⟨x, rfl, rfl⟩
  | x :: y :: l => exact ⟨.tup (x :: y :: l), rfl, rfl⟩
/-! Arguments. -/
abbrev Ag := Phi → List FV → E → FH → KV → FR
def aEnd (c : Cd) (res : List Rs) : Ag := fun Φ l e σ k => List.rec (motive := fun _ => FR) (FH.rec (motive := fun _ => FR) (fun N m => c Φ N (fun e σ => rsQ res e σ fun vs => rtQ vs fun v => k v σ) (fun e σ => rsQ res e σ fun vs => rtQ vs fun v => k v σ) kXe e ⟨N, m⟩) σ) (fun _ _ _ => .bad) l
def aLet (f : FV → Ag) : Ag := fun Φ l e σ k => List.rec (motive := fun _ => FR) .bad (fun v l _ => f v Φ l e σ k) l
def aLetW (w : Wr) (f : FV → Ag) : Ag := fun Φ l e σ k => List.rec (motive := fun _ => FR) .bad (fun v l _ => w e v fun e => f v Φ l e σ k) l
def aBad : Ag := fun _ _ _ _ _ => .bad
def agH (nt : Nat) (dr : List Nat) (fin : M → Ag) : Nat → Nat → M → Ag
  | 0, _, m => fin m
  | n + 1, i, m => bsel (Nat.blt i nt && Nat.blt i 1024) (bsel (hasN i dr) (aLet fun v => agH nt dr fin n (i + 1) ((i, v) :: m)) (aLetW (wrE i) fun v => agH nt dr fin n (i + 1) ((i, v) :: m))) aBad
theorem agH_ok {nt : Nat} {dr : List Nat} {fin : M → Ag} {Φ : Phi} {σ : FH} {k : KV} : ∀ (n i : Nat) (m : M) (l : List FV) (e : E) (env : T AV), Em nt dr m e env → agH nt dr fin n i m Φ l e σ k ≠ .bad → ∃ l1 l2 m' e', l = l1 ++ l2 ∧ (l1 = [] ∨ i + l1.length ≤ nt) ∧ Em nt dr m' e' (envOf (αL l1) i env) ∧ agH nt dr fin n i m Φ l e σ k = fin m' Φ l2 e' σ k
  | 0, i, m, l, e, env, he, _ => ⟨[], l, m, e, rfl, .inl rfl, he, rfl⟩
  | n + 1, i, m, l, e, env, he, h => by
    unfold agH at h ⊢
    cases hb : Nat.blt i nt && Nat.blt i 1024 with
    | false => rw [hb] at h; exact absurd rfl h
    | true =>
      rw [hb] at h
      rw [Bool.and_eq_true, Nat.blt_eq, Nat.blt_eq] at hb
      dsimp only [bsel] at h ⊢
      cases l with
      | nil => cases hn : hasN i dr <;> rw [hn] at h <;> exact absurd rfl h
      | cons v l =>
        have go : ∀ e1, Em nt dr ((i, v) :: m) e1 (env.put i (αV v)) → agH nt dr fin n (i + 1) ((i, v) :: m) Φ l e1 σ k ≠ .bad → ∃ l1 l2 m' e', v :: l = l1 ++ l2 ∧ (l1 = [] ∨ i + l1.length ≤ nt) ∧ Em nt dr m' e' (envOf (αL l1) i env) ∧ agH nt dr fin n (i + 1) ((i, v) :: m) Φ l e1 σ k = fin m' Φ l2 e' σ k := fun e1 g1 g2 => by
          obtain ⟨l1, l2, m', e', h1, h2, h3, h4⟩ := agH_ok n (i + 1) _ l e1 _ g1 g2
          refine ⟨v :: l1, l2, m', e', by rw [h1]; rfl, .inr ?_, h3, h4⟩
          rw [List.length_cons]
          rcases h2 with rfl | h2
          · simp; omega
          · omega
        cases hn : hasN i dr with
        | true => rw [hn] at h; exact go e (nowr_ok he hb.2 hn) h
        | false =>
          rw [hn] at h
          have h : (wrE i e v fun e => agH nt dr fin n (i + 1) ((i, v) :: m) Φ l e σ k) ≠ .bad := h
          show ∃ l1 l2 m' e', _ ∧ _ ∧ _ ∧ (wrE i e v fun e => agH nt dr fin n (i + 1) ((i, v) :: m) Φ l e σ k) = _
          obtain ⟨e1, h3, h4⟩ := wr_ok (v := v) (k := fun e => agH nt dr fin n (i + 1) ((i, v) :: m) Φ l e σ k) he hb.2
          rw [h4] at h ⊢
          exact go e1 h3 h
def drOf (nt : Nat) (kp : List Nat) : List Nat := Nat.rec [] (fun t ih => bif hasN t kp then ih else t :: ih) nt
def fnQ (a : Ag) (Φ : Phi) : HF := fun l σ k => a Φ l e0 σ k
def thrF (fuel : Nat) (dr : List Nat) (np : Nat) (x : Ent) : Phi → HF := fnQ (agH x.nt dr (fun m => aEnd (thrK fuel x.nt dr x.code m cS) (x.res.map (thrV x.nt dr))) np 0 [])
theorem thrF_ok {fuel : Nat} (dr : List Nat) (np : Nat) (x : Ent) {Φ : Phi} {Γ : Gam} (hΦ : PhiOk Φ Γ) : HOk (thrF fuel dr np x Φ) (runF std Γ fuel x) := fun l σ k h => by
  unfold thrF fnQ at h ⊢
  obtain ⟨l1, l2, m', e, h1, h2, he, h4⟩ := agH_ok np 0 [] l e0 .leaf ⟨fun t _ => by rw [e0_at]; rfl, fun t v ht => by cases ht⟩ h
  rw [h4] at h ⊢
  cases l2 with
  | cons _ _ => exact absurd rfl h
  | nil =>
  rw [List.append_nil] at h1
  subst h1
  obtain ⟨N, m⟩ := σ
  have h : thrK fuel x.nt dr x.code m' cS Φ N (fun e σ => rsQ (x.res.map (thrV x.nt dr)) e σ fun vs => rtQ vs fun v => k v σ) (fun e σ => rsQ (x.res.map (thrV x.nt dr)) e σ fun vs => rtQ vs fun v => k v σ) kXe e ⟨N, m⟩ ≠ .bad := h
  show ∃ v σ', _ ∧ thrK fuel x.nt dr x.code m' cS Φ N (fun e σ => rsQ (x.res.map (thrV x.nt dr)) e σ fun vs => rtQ vs fun v => k v σ) (fun e σ => rsQ (x.res.map (thrV x.nt dr)) e σ fun vs => rtQ vs fun v => k v σ) kXe e ⟨N, m⟩ = _
  obtain ⟨ex, env', e', σ', g1, _, g3⟩ := thrK_ok x.code m' cS Φ Γ hΦ N _ _ _ e ⟨N, m⟩ _ he h
  have hlen : Nat.ble (αL l).length x.nt = true := by
    rw [αL_length, Nat.ble_eq]
    rcases h2 with rfl | h2
    · exact Nat.zero_le _
    · omega
  have fin : ∀ fr : FR, Ee x.nt dr e' env' → fr = (rsQ (x.res.map (thrV x.nt dr)) e' σ' fun vs => rtQ vs fun v => k v σ') → fr ≠ .bad → isRet ex = true → ∃ v σ'', runF std Γ fuel x (αL l) (αH ⟨N, m⟩) = (true, αV v, αH σ'') ∧ fr = k v σ'' := fun fr g2 hfr h hx => by
    rw [hfr] at h ⊢
    obtain ⟨vs, a1, a2⟩ := rsQ_ok g2 σ' x.res _ h
    obtain ⟨v, a3, a4⟩ := rtQ_of vs fun v => k v σ'
    refine ⟨v, σ', ?_, a2.trans a4⟩
    unfold runF
    rw [show (αH ⟨N, m⟩).next = N from rfl, g1]
    dsimp only
    rw [a1]
    dsimp only
    rw [hx, hlen, a3]; rfl
  cases ex with
  | normal => obtain ⟨m'', g4, g5⟩ := g3; exact fin _ g4.e g5 h rfl
  | ret => exact fin _ g3.1 g3.2 h rfl
  | exit i => rw [g3.2] at h; exact absurd rfl h
def PhiG (tab : T (Phi → HF)) (n : Nat) : (FuncId → HF) → (Nat → HF) → Phi := Nat.rec (motive := fun _ => (FuncId → HF) → (Nat → HF) → Phi) (fun b y => .mk b y fun _ _ => .no)
  (fun _ ih b y => .mk (fun f l σ k => tg tab f (b f l σ k) fun q => q (ih b y) l σ k) y fun l H => ih b fun j => Bool.rec (y j) H (Nat.beq j l)) n
def TabQ (fuel : Nat) (tab : T Ent) (tq : T (Phi → HF)) : Prop := (∀ f, tab.get f = none → tq.get f = none) ∧ ∀ f x, tab.get f = some x → ∃ q, tq.get f = some q ∧ ∀ Φ Γ, PhiOk Φ Γ → HOk (q Φ) (runF std Γ fuel x)
theorem PhiG_ok {fuel : Nat} {tab : T Ent} {tq : T (Phi → HF)} (ht : TabQ fuel tab tq) : ∀ (n : Nat) {Γ0 : Gam} {b : FuncId → HF} {y : Nat → HF}, (∀ f, HOk (b f) (Γ0.fn f)) → (∀ j, HOk (y j) (Γ0.yl j)) → PhiOk (PhiG tq n b y) (Gam.grow std fuel tab Sp.none Γ0 n)
  | 0, Γ0, b, y, hb, hy => .mk hb hy fun _ _ _ _ => .no
  | n + 1, Γ0, b, y, hb, hy => by
    have ih := fun {Γ0 : Gam} {b : FuncId → HF} {y : Nat → HF} => PhiG_ok ht n (Γ0 := Γ0) (b := b) (y := y)
    refine .mk (fun f l σ k => ?_) hy (fun l h H hH => ih hb fun j => ?_)
    · show Sm (tg tq f (b f l σ k) fun q => q (PhiG tq n b y) l σ k) k ((match tab.get f with | none => bif Sp.none.is f then Sp.none.fn (Gam.grow std fuel tab Sp.none Γ0 n) f (αL l) (αH σ) else Γ0.fn f (αL l) (αH σ) | some x => runF std (Gam.grow std fuel tab Sp.none Γ0 n) fuel x (αL l) (αH σ)) : Out)
      rw [tg_eq]
      cases hx : tab.get f with
      | none => rw [ht.1 f hx]; exact hb f l σ k
      | some x =>
        obtain ⟨q, h1, h2⟩ := ht.2 f x hx
        rw [h1]
        exact h2 _ _ (ih hb hy) l σ k
    · show HOk (Bool.rec (y j) H (Nat.beq j l)) fun args σ => bif Nat.beq j l then h args σ else Γ0.yl j args σ
      cases Nat.beq j l with
      | true => exact hH
      | false => exact hy j
end
end Go.Proofs.YtlgbdgpgdimpdaaGreatDoor.V2
namespace Go.Proofs.YtlgbdgpgdimpdaaGreatDoor
open Go.RowKit
theorem zeroCells_u8 (k : Nat) : Builtin.zeroCells (Value.int .u8 0).cells k = c8 (List.replicate k 0) := by
  apply Array.ext'
  simp only [Builtin.zeroCells, Value.cells, c8, c8l]
  apply List.ext_getElem
  · simp
  · intro i h1 h2
    simp [N8, Nat.mod_one]
theorem run_zeros_ne (w : World) (base n k : Nat) (v : Value) (bs : List UInt8) (ty : TypeId) (hown : w.ownsRow base 5 1 v n (c8l bs)) (hne : v ≠ .slice none 0 0) (hnk : n + k ≤ 1000000000000) (hbase : base ≤ w.heap.size) :
    ∃ v' w', (Builtin.append_ #[23, 3] ty #[v, .int .i64 k]).run Tryz.prog w = .ok v' w' ∧ w'.ownsRow base 5 1 v' (n + k) (c8l (bs ++ List.replicate k 0)) ∧ w.grownBy w' v.ownBlock := by
  obtain ⟨i0, hi, hz0, hz1, hz2⟩ := info_parts info5
  have hbl : bs.length = n := by have := hown.1; rw [c8l_length] at this; omega
  rcases hown.2 with ⟨rfl, h0⟩ | ⟨g, cap, cur, rfl, hbg, hg, hnc, hcm, hcs, htake⟩
  · exact absurd rfl hne
  have hlen : (c8l (bs ++ List.replicate k 0)).length = (n + k) * 1 := by rw [c8l_length]; simp [hbl]
  have hw : IntKind.i64.wrap (k : Int) = k := by rw [IntKind.wrap_i64]; omega
  have hneg : ¬ ((k : Int) < 0) := by omega
  by_cases hroom : n + k ≤ cap
  · have hst := run_storeCells_at Tryz.prog g n 5 (c8l (List.replicate k 0)) 0 cur w hg (by rw [c8l_length]; simp; omega) (c8l_one _)
    simp only [Nat.add_zero] at hst
    have h48 : ¬ (281474976710656 < (k : Int)) := by omega
    refine ⟨.slice (some ⟨g, 0, none⟩) (n + k) cap, w.setRow g (cur.toList.take n ++ c8l (List.replicate k 0) ++ cur.toList.drop (n + (c8l (List.replicate k 0)).length)).toArray, ?_, ⟨hlen, .inr ⟨g, cap, _, rfl, hbg, setRow_heap w g cur _ 5 _ hg, hroom, hcm, ?_, ?_⟩⟩, ⟨rfl, rfl, rfl, by simp, fun j _ hj => setRow_other w g j _ (fun e => hj (by simp [Value.ownBlock, e]))⟩⟩
    · by_cases hk : k = 0
      · subst hk
        have hw0 : IntKind.i64.wrap 0 = 0 := by decide
        have hst' : (storeCells ⟨g, n, none⟩ [] 0).run Tryz.prog w = .ok () (w.setRow g (cur.toList.take n ++ c8l (List.replicate 0 0) ++ cur.toList.drop (n + (c8l (List.replicate 0 0)).length)).toArray) := hst
        simp [Builtin.append_, run_underlying Tryz.underlying23, run_underlying Tryz.underlying3, sizeOf, typeInfo, hi, hz1, hz2, asInt, asIntOf, hw0, hnc, Addr.add_lit, hst']
      · have hzc := zeroCells_u8 k
        have hst' : (storeCells ⟨g, n, none⟩ (c8 (List.replicate k 0)).toList 0).run Tryz.prog w = .ok () (w.setRow g (cur.toList.take n ++ c8l (List.replicate k 0) ++ cur.toList.drop (n + (c8l (List.replicate k 0)).length)).toArray) := hst
        simp [Builtin.append_, run_underlying Tryz.underlying23, run_underlying Tryz.underlying3, sizeOf, typeInfo, zeroValue, hi, hz0, hz1, hz2, asInt, asIntOf, hw, hneg, h48, hroom, hk, hzc, Addr.add_lit, hst']
    · simp only [List.size_toArray, List.length_append, List.length_take, List.length_drop, Array.length_toList, c8l_length, List.length_replicate]
      omega
    · have ht : cur.toList.take n = c8l bs := by rw [← htake]; simp
      rw [ht, ← hlen, c8l_append]
      exact List.take_left
  · have hk : 0 < k := by omega
    have holds : ∀ j u, (c8l bs)[j]? = some u → w.drew.cell? ((⟨g, 0, none⟩ : Addr).add j) = some u := fun j u hu => hown.cells (g := g) rfl j u hu
    have hold := run_firstCells_some (P := Tryz.prog) w.drew i0.size n ⟨g, 0, none⟩ n cap (c8l bs) (by rw [c8l_length, hz1]; omega) holds
    have hr := Lib.run_append_grow_zeros (P := Tryz.prog) w 23 3 ty 5 i0 (.int .u8 0) .i64 .i64 Tryz.underlying23 Tryz.underlying3 hi hz0 (some ⟨g, 0, none⟩) n cap (c8l bs) hold k hk (by rw [hz1]; decide) (by omega) (by omega) (by rw [hz2]; omega) (growslice_fits (by omega) (by rw [hz2]; omega))
    have hge := grownCap_ge w (n + k) cap 5
    refine ⟨_, _, hr, ⟨hlen, .inr ⟨w.heap.size, _, _, rfl, hbase, heap_alloc_new w.drew _, hge, grownCap_le_maxLen w (n + k) cap 5 (by unfold maxLen; omega), ?_, ?_⟩⟩, ⟨rfl, rfl, rfl, by simp, fun j hj _ => Below.heap_alloc w.drew _ j hj⟩⟩
    · simp only [Array.size_append, List.size_toArray, size_zeroCells, c8l_length, Value.cells]; simp; omega
    · rw [zeroCells_u8 k]
      simp only [Array.toList_append, List.append_assoc, c8]
      rw [← List.append_assoc, ← c8l_append, ← hlen]
      exact List.take_left
theorem run_zeros_own (w : World) (base n k : Nat) (v : Value) (bs : List UInt8) (ty : TypeId) (hown : w.ownsRow base 5 1 v n (c8l bs)) (hn : 0 < n) (hnk : n + k ≤ 1000000000000) (hbase : base ≤ w.heap.size) :
    ∃ v' w', (Builtin.append_ #[23, 3] ty #[v, .int .i64 k]).run Tryz.prog w = .ok v' w' ∧ w'.ownsRow base 5 1 v' (n + k) (c8l (bs ++ List.replicate k 0)) ∧ w.grownBy w' v.ownBlock := by
  refine run_zeros_ne w base n k v bs ty hown (fun e => ?_) hnk hbase
  rcases hown.2 with ⟨_, h0⟩ | ⟨g, cap, cur, e2, _⟩
  · omega
  · rw [e] at e2; cases e2
theorem wpList_zeros_own {w : World} {ops : Array Oper} {rest : List Oper} {o : Oper} {a : Act} {Q : Exit → Act → World → Prop} (hgd : o.guard = none) (s x : Operand)
    (ho : o.op = .call { callee := .builtin .append, args := #[s, x], argTypes := #[23, 3] }) (base n k : Nat) (v : Value) (bs : List UInt8) (hs : a.eval s = v) (hx : a.eval x = .int .i64 k)
    (hown : w.ownsRow base 5 1 v n (c8l bs)) (hn : 0 < n) (hnk : n + k ≤ 1000000000000) (hbase : base ≤ w.heap.size)
    (h : ∀ v' w', w'.ownsRow base 5 1 v' (n + k) (c8l (bs ++ List.replicate k 0)) → w.grownBy w' v.ownBlock → wpList Tryz.prog ops Q rest (a.put o.dst v') w') : wpList Tryz.prog ops Q (o :: rest) a w := by
  obtain ⟨v', w', hr, h1, h2⟩ := run_zeros_own w base n k v bs o.type hown hn hnk hbase
  exact Lib.wpList_append_run w hgd s x 23 3 ho v (.int .i64 k) hs hx v' w' hr (h v' w' h1 h2)
end Go.Proofs.YtlgbdgpgdimpdaaGreatDoor
namespace Go.Proofs.YtlgbdgpgdimpdaaGreatDoor
open Go.RowKit Go.Shelf
attribute [local go_sem] Oper.semAt_some
def GlobS (w : World) : Prop := ∀ i, i < 8 → w.cell? ⟨4, i, none⟩ = some (.int .u32 (N32 (at32 S0 i)))
theorem padZ_eq (n : Nat) : ((120 : Int) - ((n : Int) + 1) % 64) % 64 = (padZ n : Int) := by unfold padZ; omega
theorem info24 : (Tryz.prog.info? 268).map (·.size) = some 32 := by kernel_rfl
def ShaO (st : List UInt32) (W : World) (i : Value) (W2 : World) : Prop :=
  ∃ k : Nat, k ≤ 32 ∧ i = .int .i64 k ∧ W2.heap[W.heap.size]? = some (.cells (c8 (outTo st k)) 268 (0, 0)) ∧ Below W.heap.size W W2
def ShaL (bs : List UInt8) (w1 : World) (v i : Value) (wr : World) : Prop :=
  ∃ k : Nat, k ≤ 8 ∧ i = .int .i64 k ∧ wr.ownsRow w1.heap.size 5 1 v (padTo bs k).length (c8l (padTo bs k)) ∧ Below w1.heap.size w1 wr
theorem kb_put {Bs n : Nat} (hB : Bs + 1 < n) (W : World) (l : Nat) (o o' : Obj) (hl : n ≤ l) (_ : W.heap[l]? = some o) (_ : o.isCells = false) (_ : o.isWalk = false) : KB Bs W (W.putObj l o') := by
  have hg := grownBy_putObj' W l o'
  have h1 : ∀ k, k < l → (W.putObj l o').heap[k]? = W.heap[k]? := fun k hk => by
    by_cases hs : k < W.heap.size
    · exact hg.block k hs (fun e => by cases e; omega)
    · have : (W.putObj l o').heap.size = W.heap.size := by simp [World.putObj]
      rw [Array.getElem?_eq_none (by omega), Array.getElem?_eq_none (by omega)]
  exact ⟨h1 _ (by omega), h1 _ (by omega)⟩
theorem own_st {sb n : Nat} {bs : List UInt8} {w6 : World} (hn : sb < n) (hw : w6.heap.size = n := by rfl) : OwnFrom n (fun (pre : List Nat) W => W.heap[sb]? = some (.cells (cw (stL bs pre)) 309 (0, 0)) ∧ But sb w6 W) := by
  intro pre W W' row ⟨h1, h2⟩ hg hr
  have hs : sb < W.heap.size := (Array.getElem?_eq_some_iff.1 h1).1
  have hb : ∀ k, k < n → k < W.heap.size → W'.heap[k]? = W.heap[k]? := fun k hk hk2 => hg.block k hk2 (fun e => by have := (hr k e.symm).1; omega)
  exact ⟨(hb sb hn hs).trans h1, ⟨hg.os.trans h2.os, hg.tape.trans h2.tape, hg.output.trans h2.output, Nat.le_trans h2.size hg.size, fun k hk hne => (hb k (by omega) (Nat.lt_of_lt_of_le hk h2.size)).trans (h2.block k hk hne)⟩⟩
set_option maxRecDepth 100000 in
set_option maxHeartbeats 2000000 in
theorem sha_any (pv : Value) (vs : List Value) (ps : List (List UInt8)) (w : World) (hP : PSl w pv vs ps) (hc0 : ps.length ≤ 1000000000) (ht : ps.flatten.length ≤ 100000000000)
    (hK : GlobK w) (hS : GlobS w) (h3 : 5 < w.heap.size) :
    Calls Tryz.prog 176 #[pv] w fun e w' => e = .returned (.agg (c8 (shaB ps.flatten))) ∧ Below w.heap.size w w' := by
  obtain ⟨i0, hi, hz0, hz1, hz2⟩ := info_parts info5
  have HI := Lib.hid hi
  have HZ := Lib.hid hz0
  have H1 := Lib.hid hz1
  have H2 := Lib.hid hz2
  clear hi hz0 hz1 hz2
  have HK : Hid (GlobK w) := hK
  have HS : Hid (GlobS w) := hS
  clear hK hS
  obtain ⟨bs, hbs⟩ : ∃ bs, bs = ps.flatten := ⟨_, rfl⟩
  have HBS := Lib.hid hbs
  rw [← hbs] at ht
  clear hbs
  have HR1 := Lib.hid (row_new8 w)
  refine callsIn_wide.1 (callsIn_of_wp_marks (n := 7) Tryz.func176 rfl trivial (wpIn_wide.2 ?_) rfl)
  simp only [Tryz.ntmps176, List.size_toArray, List.length_cons, List.length_nil, Nat.reduceAdd, Nat.reduceSub, Array.replicate_succ, Array.replicate_zero, List.push_toArray, List.append_toArray, List.nil_append, List.cons_append]
  go_wp2_with fail
  generalize hw1 : w.alloc _ = w1 at HR1 ⊢
  have hb1 : Below w.heap.size w w1 := by rw [← hw1]; exact (Below.refl _ _).alloc (Nat.le_refl _) _
  have hz1 : w1.heap.size = w.heap.size + 1 := by rw [← hw1]; simp
  clear hw1
  have HZ1 := Lib.hid hz1
  clear hz1
  refine (concat_any pv vs ps w1 (hP.below hb1 (Nat.le_refl _)) hc0 (by rw [← HBS.out]; omega)).mono ?_
  rw [← HBS.out]
  rintro e w2 ⟨v, rfl, hown, hb2⟩
  obtain ⟨a2, c2, hv2⟩ := (BSl.of_owns hown).len
  rw [hv2] at hown ⊢
  clear hv2
  have hz2 := hb2.size
  go_wp2_with (at_builtin; refine wpList_append_own _ rfl (.tmp 16) (.tmp 17) 23 rfl w1.heap.size 5 i0 (.int .u8 0) 1 1 Tryz.underlying23 HI.out HZ.out H1.out H2.out rfl (by decide) _ _ _ rfl (hown.alloc _) ⟨w2.heap.size, 0, none⟩ 1 1 (c8l [128]) rfl rfl (cell_one_new _ _ _) (c8l_one _) (by unfold maxLen; omega) (by omega) (by simp; omega) ?_)
  intro v3 w3 hown3 hg3 _
  rw [← c8l_append] at hown3
  have hb3 : Below w1.heap.size w1 w3 := (hb2.alloc hz2 _).grown hg3 (by simp; omega) (fun g hg => owns_block hown hg)
  have hz3 := hb3.size
  have hl3 : (bs ++ [128]).length = bs.length + 1 := by simp
  rw [← hl3] at hown3
  obtain ⟨a3, c3, hv3⟩ := (BSl.of_owns hown3).len
  rw [hv3] at hown3 ⊢
  rw [hl3] at hown3 ⊢
  clear hv3 hown hl3 hg3 hb2 hz2
  have HPZ := Lib.hid (padZ_eq bs.length)
  have hpl : padZ bs.length ≤ 64 := by unfold padZ; omega
  go_wp2_with (at_builtin; refine wpList_zeros_own rfl (.tmp 19) (.tmp 24) rfl w1.heap.size (bs.length + 1) (padZ bs.length) _ (bs ++ [128]) rfl (congrArg (Value.int IntKind.i64) HPZ.out) hown3 (by omega) (by omega) hz3 ?_)
  intro v4 w4 hown4 hg4
  have hb4 : Below w1.heap.size w1 w4 := hb3.grown hg4 hz3 (fun g hg => owns_block hown3 hg)
  clear hown3 hg4 hb3 hz3
  have hown5 : w4.ownsRow w1.heap.size 5 1 v4 (padTo bs 0).length (c8l (padTo bs 0)) := by
    rw [padTo_length]; simpa [padTo, pad0] using hown4
  clear hown4
  go_wp2
  go_loopw [3, 26] (ShaL bs w1) (fun _ i _ => 8 - (intOf i).toNat)
  case atStart => exact ⟨0, by omega, rfl, hown5, hb4⟩
  case round =>
    obtain ⟨k, hk, rfl, hown6, hb6⟩ := hrel
    have hl6 := padTo_length bs k
    have hz6 := hb6.size
    by_cases h8 : k < 8
    · have d8 : decide ((k : Int) < 8) = true := decide_eq_true (by omega)
      have hle : (padTo bs k).length ≤ 200000000000 := by omega
      have HE := Lib.hid (lenB_eq bs.length k)
      have HL6 := Lib.hid hl6
      clear hl6
      go_wp2_with (at_builtin; refine wpList_append_own _ rfl (.tmp 29) (.tmp 36) 23 rfl w1.heap.size 5 i0 (.int .u8 0) 1 1 Tryz.underlying23 HI.out HZ.out H1.out H2.out rfl (by decide) _ _ _ rfl (hown6.alloc _) ⟨wr.heap.size, 0, none⟩ 1 1 [.int .u8 ((bs.length : Int) * 8 / 2 ^ (56 - 8 * k) % 256)] rfl rfl (cell_one_new _ _ _) (by simp [Value.oneCell']) (by unfold maxLen; omega) (by omega) (by simp; omega) ?_)
      intro v7 w7 hown7 hg7 _
      rw [HE.out] at hown7
      have hb7 : Below w1.heap.size w1 w7 := (hb6.alloc hz6 _).grown hg7 (by simp; omega) (fun g hg => owns_block hown6 hg)
      have hown8 : w7.ownsRow w1.heap.size 5 1 v7 (padTo bs (k + 1)).length (c8l (padTo bs (k + 1))) := by
        rw [padTo_succ, List.length_append, c8l_append]; exact hown7
      clear hown7 hown6 hg7
      go_wp2
      go_roundw
      case rel => exact ⟨k + 1, by omega, by go_num, hown8, hb7⟩
      case measure => simp [intOf]; omega
    · obtain rfl : k = 8 := by omega
      have d8 : decide (((8 : Nat) : Int) < 8) = false := by decide
      have d8' : decide ((8 : Int) < 8) = false := by decide
      rcases hown6.2 with ⟨rfl, h0⟩ | ⟨g, cap, cur, rfl, hbg, hg, hnc, hcm, hcs, htake⟩
      · omega
      have hpl8 := pad_length bs
      have hbl8 := blocks_le bs
      have HRD : Hid (∀ j, j < 64 * blocks bs → wr.cell? ⟨g, j, none⟩ = some (.int .u8 (N8 (at8 (padTo bs 8) j)))) := by
        intro j hj
        rcases BSl.of_owns hown6 with ⟨h, _⟩ | ⟨b', o', c', e', _, _, hx⟩ | ⟨_, _, h⟩
        rotate_right
        · rw [h] at hpl8; simp only [List.length_nil] at hpl8; omega
        · cases h
        · cases e'
          have := hx j (by rw [hpl8]; exact hj)
          rwa [Nat.zero_add] at this
      have hgl : g < wr.heap.size := (Array.getElem?_eq_some_iff.1 hg).1
      rw [hpl8] at hnc ⊢
      clear hown6 hg hcs htake hl6 hpl8
      have HRS : Hid (wr.rangeAt 4 0 (cwl S0)) := by
        intro j v hj
        have hj8 : j < 8 := by have := (List.getElem?_eq_some_iff.1 hj).1; simpa [cwl, S0] using this
        rw [Nat.zero_add, hb6.cell (p := ⟨4, j, none⟩) (by have := HZ1.out; simp; omega), hb1.cell (p := ⟨4, j, none⟩) (by simp; omega), HS.out j hj8, ← hj]
        have := cw_at S0 j hj8
        rw [cw, List.getElem?_toArray] at this
        exact this.symm
      go_wp2_with (first | (refine wpList_load_mid rfl 309 (.global 4) rfl 4 0 rfl (cwl S0) _ HRS.out Tryz.underlying309 rfl info88 ?_) | (refine wpList_store_row rfl 309 (.tmp 6) (.tmp 39) rfl wr.heap.size (cw S0) rfl rfl 309 _ (row_new _ _ _) info88 rfl (cw_one _) ?_))
      obtain ⟨w5, hw5⟩ : ∃ w5, w5 = (wr.alloc (.cells #[.int .u32 0, .int .u32 0, .int .u32 0, .int .u32 0, .int .u32 0, .int .u32 0, .int .u32 0, .int .u32 0] 309)).setRow wr.heap.size (cw S0) := ⟨_, rfl⟩
      rw [← hw5]
      have hb5 : Below wr.heap.size wr w5 := by rw [hw5]; exact below_setRow ((Below.refl _ _).alloc (Nat.le_refl _) _) (Nat.le_refl _) _
      have HX5 : Hid (w5.heap[wr.heap.size]? = some (.cells (cw S0) 309 (0, 0))) := by rw [hw5]; exact setRow_heap _ _ _ _ _ _ (row_new _ _ _)
      have HZ5 : Hid (w5.heap.size = wr.heap.size + 1) := by rw [hw5]; simp [Hid]
      clear hw5
      refine (chunk_any _ _ _ _).mono ?_
      rintro e w6 ⟨rfl, hw6⟩
      have hb56 : Below w5.heap.size w5 w6 := by rw [← hw6]; exact ((Below.refl _ _).alloc (Nat.le_refl _) _).alloc (by simp) _
      have hz6' : w6.heap.size = w5.heap.size + 2 := by rw [← hw6]; simp
      have hx1 : w6.cell? ⟨w5.heap.size, 0, none⟩ = some (.slice (some ⟨g, 0, none⟩) (64 * blocks bs) cap) := by rw [← hw6]; simp
      have hx2 : w6.cell? ⟨w5.heap.size + 1, 0, none⟩ = some (.int .i64 64) := by
        rw [← hw6]
        have := World.cell?_alloc_new (w5.alloc (.cells #[.slice (some ⟨g, 0, none⟩) (64 * blocks bs) cap] 23)) #[.int .i64 64] 3 0
        simp
      clear hw6
      have HX1 := Lib.hid hx1
      have HX2 := Lib.hid hx2
      have HZ6 := Lib.hid hz6'
      clear hx1 hx2 hz6'
      go_wp2
      have hbm : 1 ≤ blocks bs := by unfold blocks padZ; omega
      refine wpIn_wide.1 (wpIn_rangeFunc_ownG (F := Fence.wide) (n := 7) rfl (by decide) (gf := 213) (lb := #[.pointer (some ⟨w5.heap.size, 0, none⟩), .pointer (some ⟨w5.heap.size + 1, 0, none⟩)]) rfl trivial (enters_of Tryz.func213 (by kernel_rfl) rfl)
        (chunk_stops w5.heap.size g (blocks bs) cap (by omega) hnc w6 (by have := HZ6.out; omega) HX1.out HX2.out) KB.trans (kb_put (by have := HZ6.out; omega)) (Below.refl _ _) (fun _ => rfl)
        (fun pre W => W.heap[wr.heap.size]? = some (.cells (cw (stL bs pre)) 309 (0, 0)) ∧ But wr.heap.size w6 W) (fun _ _ _ => False)
        (own_st (by have := HZ6.out; have := HZ5.out; omega)) (fun _ _ _ _ _ h _ _ => h.elim)
        ⟨by rw [hb56.block _ (by have := HZ5.out; omega)]; exact HX5.out, But.of_below (Below.refl _ _)⟩
        (fun x => { tmps := #[pv, undef, .pointer (some ⟨w.heap.size, 0, none⟩), .slice (some ⟨g, 0, none⟩) (64 * blocks bs) cap, .int .u64 ((bs.length : Int) * 8), u5, .pointer (some ⟨wr.heap.size, 0, none⟩), chunkV g (x % blocks bs), undef, undef, pv, .slice a2 bs.length c2, .slice a2 bs.length c2, .int .i64 bs.length, .int .u64 bs.length, .int .u64 ((bs.length : Int) * 8), .slice a2 bs.length c2, .slice (some ⟨w2.heap.size, 0, none⟩) 1 1, .slice a3 (bs.length + 1) c3, .slice a3 (bs.length + 1) c3, .slice a3 (bs.length + 1) c3, .int .i64 ((bs.length : Int) + 1), .int .i64 (((bs.length : Int) + 1) % 64), .int .i64 (120 - ((bs.length : Int) + 1) % 64), .int .i64 ((120 - ((bs.length : Int) + 1)) % 64), v4, .int .i64 8, .bool false, u28, u29, u30, u31, u32, u33, u34, u35, u36, u37, u38, .agg (cwl S0).toArray, .slice (some ⟨g, 0, none⟩) (64 * blocks bs) cap, .func (.func 213) #[] #[.pointer (some ⟨w5.heap.size, 0, none⟩), .pointer (some ⟨w5.heap.size + 1, 0, none⟩)], chunkV g (x % blocks bs), undef, undef, undef, undef, undef, undef, undef, undef, undef, undef, undef, undef, undef, undef, undef, undef, undef, undef, undef], defers := [] }) ?assign ?body ?done ?stop)
      case assign =>
        intro l x W K hK
        gi_wp2
        exact hK
      case body =>
        rintro l pre x W ⟨hst, hbut⟩ _
        have hxm : x % blocks bs < blocks bs := Nat.mod_lt _ (by omega)
        have hgW : W.heap[g]? = wr.heap[g]? := (hbut.block g (by have := HZ6.out; have := HZ5.out; omega) (by omega)).trans ((hb56.block g (by have := HZ5.out; omega)).trans (hb5.block g hgl))
        have h3W : W.heap[5]? = w.heap[5]? := (hbut.block 5 (by have := HZ6.out; have := HZ5.out; have := HZ1.out; omega) (by have := HZ1.out; omega)).trans ((hb56.block 5 (by have := HZ5.out; have := HZ1.out; omega)).trans ((hb5.block 5 (by have := HZ1.out; omega)).trans ((hb6.block 5 (by have := HZ1.out; omega)).trans (hb1.block 5 h3))))
        have hWs := hbut.size
        have HCW : Hid (∀ i, i < 64 → W.cell? ⟨g, 64 * (x % blocks bs) + i, none⟩ = some (.int .u8 (N8 (at8 (blk (padTo bs 8) (x % blocks bs)) i)))) := fun i hi => by
          rw [World.cell?_of_block (w := wr) (a := ⟨g, 64 * (x % blocks bs) + i, none⟩) hgW, HRD.out _ (by omega), at8_blk _ _ _ hi]
        have HKW : Hid (GlobK W) := fun i hi => by rw [World.cell?_of_block (w := w) (a := ⟨5, i, none⟩) h3W]; exact HK.out i hi
        have HST := Lib.hid hst
        clear hst hgW h3W
        gi_wp2
        unfold chunkV
        refine ⟨trivial, (CallsIn.inRound l (callsIn_wide.2 (take_any wr.heap.size g (64 * (x % blocks bs)) 64 (stL bs pre) (blk (padTo bs 8) (x % blocks bs)) W (by have := HZ6.out; have := HZ5.out; omega) (by have := HZ6.out; have := HZ5.out; omega) (stL_length _ _) HST.out HCW.out (by decide) HKW.out (by have := HZ6.out; have := HZ5.out; have := HZ1.out; omega)))).mono ?_⟩
        rintro e W2 ⟨rfl, hst2, hbut2⟩
        have HST2 := Lib.hid hst2
        clear hst2
        gi_wp2
        refine ⟨⟨hbut2.size, fun k o hk ho _ => (hbut2.block k (Array.getElem?_eq_some_iff.1 ho).1 (by have := HZ6.out; have := HZ5.out; omega)).trans ho⟩, ⟨hbut2.block _ (by have := HZ6.out; omega) (by have := HZ5.out; omega), hbut2.block _ (by have := HZ6.out; omega) (by have := HZ5.out; omega)⟩, by rw [stL_snoc]; exact HST2.out, ?_⟩
        exact ⟨hbut2.os.trans hbut.os, hbut2.tape.trans hbut.tape, hbut2.output.trans hbut.output, Nat.le_trans hbut.size hbut2.size, fun k hk hne => (hbut2.block k (Nat.lt_of_lt_of_le hk hbut.size) hne).trans (hbut.block k hk hne)⟩
      case done =>
        rintro D ys W hD rfl ⟨hst, hbut⟩ hKD
        rw [stL_range bs _ (Nat.le_refl _)] at hst
        have HST := Lib.hid hst
        have HKD := Lib.hid hKD
        clear hst hKD
        have HRW : Hid (W.heap[w.heap.size]? = some (.cells (c8 (List.replicate 32 0)) 268 (0, 0))) := by
          show _ = _
          rw [hbut.block _ (by have := HZ6.out; have := HZ5.out; have := HZ1.out; omega) (by have := HZ1.out; omega), hb56.block _ (by have := HZ5.out; have := HZ1.out; omega), hb5.block _ (by have := HZ1.out; omega), hb6.block _ (by have := HZ1.out; omega)]
          exact HR1.out
        have HBW : Hid (Below w.heap.size w W) := by
          have a1 := hb1.trans ((hb6.mono (by have := HZ1.out; omega)).trans ((hb5.mono (by have := HZ1.out; omega)).trans (hb56.mono (by have := HZ5.out; have := HZ1.out; omega))))
          exact a1.trans ⟨hbut.os, hbut.tape, hbut.output, hbut.size, fun k hk => hbut.block k (by have := HZ6.out; have := HZ5.out; have := HZ1.out; omega) (by have := HZ1.out; omega)⟩
        have hWz : wr.heap.size < W.heap.size := by have := hbut.size; have := HZ6.out; have := HZ5.out; omega
        have hRz : w.heap.size < wr.heap.size := by have := HZ1.out; omega
        go_wp2
        obtain ⟨wo, rfl⟩ : ∃ wo : World, wo = wr := ⟨_, rfl⟩
        go_loopw [45] (ShaO (stTo bs (blocks bs)) W) (fun i _ => 32 - (intOf i).toNat)
        case atStart => exact ⟨0, by omega, rfl, row_new8 W, (Below.refl _ _).alloc (Nat.le_refl _) _⟩
        case round =>
          obtain ⟨k, hk, rfl, ho, hb9⟩ := hrel
          have HO := Lib.hid ho
          clear ho
          by_cases h32 : k < 32
          · have d32 : decide ((k : Int) < 32) = true := decide_eq_true (by omega)
            have cs : wr.cell? ⟨wo.heap.size, k / 4, none⟩ = some (.int .u32 (N32 (at32 (stTo bs (blocks bs)) (k / 4)))) := by
              rw [hb9.cell (p := ⟨wo.heap.size, k / 4, none⟩) hWz]; exact row_cell HST.out _ (by rw [stTo_length]; omega)
            have co := row8_cell HO.out k (by rw [outTo_length]; exact h32)
            have fo := row_free HO.out k
            have HE := Lib.hid (outB_eq (stTo bs (blocks bs)) k)
            have HF := Lib.hid (row8_set HO.out k (outB (stTo bs (blocks bs)) k))
            go_wp2
            go_roundw
            case rel =>
              rw [HE.out]
              exact ⟨k + 1, by omega, by go_num, HF.out, hb9.setCell (Nat.le_refl _) _⟩
            case measure => simp [intOf]; omega
          · have d32 : decide ((k : Int) < 32) = false := decide_eq_false (by omega)
            obtain rfl : k = 32 := by omega
            have HI24 : Hid ((Tryz.prog.info? 268).map (·.size) = some (c8 (outTo (stTo bs (blocks bs)) 32)).size) := by rw [c8_size, outTo_length]; exact info24
            have HR9 : Hid (wr.heap[w.heap.size]? = some (.cells (c8 (List.replicate 32 0)) 268 (0, 0))) := by
              show _ = _
              rw [hb9.block _ (by omega)]; exact HRW.out
            have HQ : Hid ((c8 (List.replicate 32 0)).size = (c8 (outTo (stTo bs (blocks bs)) 32)).size) := by rw [c8_size, c8_size, outTo_length]; simp [Hid]
            go_wp2_with (first | (refine wpList_load_row rfl 268 (.tmp 8) rfl W.heap.size rfl 268 _ (0, 0) _ HO.out Tryz.underlying268 rfl HI24.out ?_) | (refine wpList_store_row rfl 268 (.tmp 2) (.tmp 61) rfl w.heap.size (c8 (outTo (stTo bs (blocks bs)) 32)) rfl rfl 268 _ HR9.out HI24.out HQ.out (c8_one _) ?_))
            have hD1 : wr.heap[D]? = some (.deferred (some [])) := (hb9.block D (Array.getElem?_eq_some_iff.1 HKD.out).1).trans HKD.out
            have hDR : D ≠ w.heap.size := by have := HZ6.out; have := HZ5.out; omega
            have hD2 : (wr.setRow w.heap.size (c8 (outTo (stTo bs (blocks bs)) 32))).heap[D]? = some (.deferred (some [])) := (setRow_other _ _ _ _ hDR).trans hD1
            refine ⟨by simp, .inl ⟨_, _, rfl, run_takeDeferred hD2, ?_⟩⟩
            have hR1 : (wr.setRow w.heap.size (c8 (outTo (stTo bs (blocks bs)) 32))).heap[w.heap.size]? = some (.cells (c8 (outTo (stTo bs (blocks bs)) 32)) 268 (0, 0)) := setRow_heap _ _ _ _ _ _ HR9.out
            have hR2 : ((wr.setRow w.heap.size (c8 (outTo (stTo bs (blocks bs)) 32))).putObj D (.deferred none)).heap[w.heap.size]? = some (.cells (c8 (outTo (stTo bs (blocks bs)) 32)) 268 (0, 0)) :=
              ((grownBy_putObj' _ D (.deferred none)).block _ (Array.getElem?_eq_some_iff.1 hR1).1 (fun e => by cases e; exact hDR rfl)).trans hR1
            refine ⟨.agg (c8 (shaB bs)), results_cell_row (p := 2) (ty := 268) rfl _ _ w.heap.size 268 _ (0, 0) _ rfl hR2 Tryz.underlying268 rfl HI24.out, by rw [← HBS.out], ?_⟩
            have hfin : Below w.heap.size w (wr.setRow w.heap.size (c8 (outTo (stTo bs (blocks bs)) 32))) := below_setRow (HBW.out.trans (hb9.mono (by omega))) (Nat.le_refl _) _
            exact hfin.trans (belowK_b (w := w) (Nat.le_refl _) _ D _ _ (by have := HZ6.out; have := HZ5.out; omega) hD2 rfl rfl)
      case stop =>
        rintro D c pre W _ _ h _
        exact h.elim
end Go.Proofs.YtlgbdgpgdimpdaaGreatDoor
namespace Go.Proofs.YtlgbdgpgdimpdaaGreatDoor
open Go.RowKit
theorem BSl.one {w : World} {v : Value} {bs : List UInt8} (h : BSl w v bs) : v.oneCell' = true := by
  rcases h with ⟨rfl, _⟩ | ⟨b, off, c, rfl, _⟩ | ⟨a, rfl, _⟩ <;> rfl
theorem clone_any (pv : Value) (vs : List Value) (ps : List (List UInt8)) (w : World) (h : PSl w pv vs ps) (hc0 : ps.length ≤ 1000000000) :
    Calls Tryz.prog 178 #[pv] w (OwnedV w ps.length vs) := by
  rcases h.lies with ⟨rfl, rfl⟩ | ⟨b, off, c, rfl, hc, hlt, hcell⟩
  · obtain rfl : vs = [] := List.eq_nil_of_length_eq_zero h.len
    exact clone_nil w
  · rw [← h.len]
    refine clone_some b off c vs w hlt (by rw [h.len]; exact hc0) (fun j u hu => ?_) (fun u hu => ?_)
    · have hj : j < vs.length := (List.getElem?_eq_some_iff.1 hu).1
      rw [Addr.add_mid, hcell j (by rw [← h.len]; exact hj)]
      simp [atV, hu]
    · obtain ⟨j, hj, rfl⟩ := List.getElem_of_mem hu
      have := (h.each j (by rw [← h.len]; exact hj)).one
      simpa [atV, hj] using this
theorem insert_any (base vb n : Nat) (sv cv : Value) (vs : List Value) (w : World) (hown : w.ownsRow base 23 1 sv n vs) (hbase : base ≤ w.heap.size) (hn2 : n ≤ 1000000000)
    (hcell : w.cell? ⟨vb, 0, none⟩ = some cv) (h1 : cv.oneCell' = true) (h2 : ∀ u ∈ vs, u.oneCell' = true) (hvb : vb < w.heap.size) (hvg : ∀ g, sv.ownBlock = some g → vb ≠ g) (hvr : ∃ C, w.heap[vb]? = some (.cells C 23 (0, 0))) :
    Calls Tryz.prog 177 #[sv, .int .i64 0, .slice (some ⟨vb, 0, none⟩) 1 1] w (InsP base sv.ownBlock w cv n vs) := by
  by_cases h0 : n = 0
  · subst h0
    obtain rfl : vs = [] := List.eq_nil_of_length_eq_zero (by simpa using hown.1)
    exact insert_empty base vb sv cv w hown hbase hcell h1
  · rcases hown.2 with ⟨rfl, h⟩ | ⟨g, cap, cur, rfl, hbg, hg, hnc, _⟩
    · omega
    · by_cases hc : n + 1 ≤ cap
      · exact insert_room base vb g n cap cv vs w hown hbase (by omega) hn2 hc hcell h1 h2 (hvg g rfl) hvr
      · exact insert_grow base vb g n cap cv vs w hown hbase (by omega) hn2 (by omega) hcell h1 h2 hvb (Array.getElem?_eq_some_iff.1 hg).1
theorem owns_below {w w' : World} {base e size B n : Nat} {v : Value} {xs : List Value} (h : w.ownsRow base e size v n xs) (hb : Below B w w') (hB : w.heap.size ≤ B) : w'.ownsRow base e size v n xs := by
  refine ⟨h.1, ?_⟩
  rcases h.2 with h | ⟨g, cap, cur, e1, h1, hh, h2⟩
  · exact .inl h
  · exact .inr ⟨g, cap, cur, e1, h1, (hb.block g (Nat.lt_of_lt_of_le (Array.getElem?_eq_some_iff.1 hh).1 hB)).trans hh, h2⟩
theorem owns_lt {w : World} {base e size n : Nat} {v : Value} {xs : List Value} (h : w.ownsRow base e size v n xs) {g : Nat} (hg : v.ownBlock = some g) : g < w.heap.size := by
  rcases h.2 with ⟨rfl, _⟩ | ⟨g', cap, cur, rfl, _, hh, _⟩
  · cases hg
  · cases hg; exact (Array.getElem?_eq_some_iff.1 hh).1
theorem PSl.of_owns {w : World} {base n : Nat} {v : Value} {vs : List Value} {ps : List (List UInt8)} (h : w.ownsRow base 23 1 v n vs) (hl : vs.length = ps.length) (he : ∀ j, j < ps.length → BSl w (atV vs j) (atP ps j)) : PSl w v vs ps := by
  have hn : n = ps.length := by have := h.1; omega
  subst hn
  refine ⟨hl, ?_, he⟩
  rcases h.2 with ⟨rfl, h0⟩ | ⟨g, cap, cur, rfl, hg, hh, hc, hm, hs, ht⟩
  · exact .inl ⟨rfl, List.eq_nil_of_length_eq_zero h0⟩
  · refine .inr ⟨g, 0, cap, rfl, hc, (Array.getElem?_eq_some_iff.1 hh).1, fun j hj => ?_⟩
    rw [Nat.zero_add, cell_of_row w g j cur 23 (0, 0) hh]
    have : vs[j]? = some (atV vs j) := by simp [atV, show j < vs.length by omega]
    rw [← this, ← ht, List.getElem?_take, if_pos (by omega)]
    simp
theorem BSl.of_row {w : World} {g T c : Nat} {bs : List UInt8} (h : w.heap[g]? = some (.cells (c8 bs) T (0, 0))) (hc : bs.length ≤ c) (n : Nat) (hn : n = bs.length) : BSl w (.slice (some ⟨g, 0, none⟩) n c) bs := by
  subst hn
  exact .inr (.inl ⟨g, 0, c, rfl, hc, (Array.getElem?_eq_some_iff.1 h).1, fun j hj => by rw [Nat.zero_add]; exact row8_cell h j hj⟩)
theorem atV_cons_zero (x : Value) (vs : List Value) : atV (x :: vs) 0 = x := rfl
theorem atV_cons_succ (x : Value) (vs : List Value) (j : Nat) : atV (x :: vs) (j + 1) = atV vs j := rfl
theorem atP_cons_zero (x : List UInt8) (ps : List (List UInt8)) : atP (x :: ps) 0 = x := rfl
theorem atP_cons_succ (x : List UInt8) (ps : List (List UInt8)) (j : Nat) : atP (x :: ps) (j + 1) = atP ps j := rfl
theorem GlobK.below {w w' : World} (h : GlobK w) (hb : Below w.heap.size w w') (h3 : 5 < w.heap.size) : GlobK w' := fun i hi => (hb.cell (p := ⟨5, i, none⟩) h3).trans (h i hi)
theorem GlobS.below {w w' : World} (h : GlobS w) (hb : Below w.heap.size w w') (h3 : 5 < w.heap.size) : GlobS w' := fun i hi => (hb.cell (p := ⟨4, i, none⟩) (by simp; omega)).trans (h i hi)
theorem changed_k (a : Option Addr) (n cp : Nat) (key : List UInt8) (k : Int) (c : UInt8) (hc : N8 c = k) (w : World) (hn : n = key.length) (h : BSl w (.slice a n cp) key) (hl : key.length ≤ 64) :
    Calls Tryz.prog 179 #[.slice a n cp, .int .u8 k] w (ChgP key c w) := by
  subst hc; exact changed_at a n cp key c w hn h hl
theorem BSl.same {w w' : World} {v : Value} {bs : List UInt8} (h : BSl w v bs) (e : w'.heap = w.heap) : BSl w' v bs := by
  rcases h with h | ⟨b, off, c, e1, hc, hlt, hcell⟩ | h
  · exact .inl h
  · exact .inr (.inl ⟨b, off, c, e1, hc, by rw [e]; exact hlt, fun j hj => by rw [← hcell j hj]; unfold World.cell?; rw [e]⟩)
  · exact .inr (.inr h)
theorem two_psl {w : World} {x y : Value} {p q : List UInt8} (hx : BSl w x p) (hy : BSl w y q) : PSl (w.alloc (.cells #[x, y] 23)) (.slice (some ⟨w.heap.size, 0, none⟩) 2 2) [x, y] [p, q] := by
  have hb : Below w.heap.size w (w.alloc (.cells #[x, y] 23)) := (Below.refl _ _).alloc (Nat.le_refl _) _
  refine ⟨rfl, .inr ⟨w.heap.size, 0, 2, rfl, Nat.le_refl _, by simp, fun j hj => ?_⟩, fun j hj => ?_⟩
  · rw [Nat.zero_add, cell_of_row _ _ j _ 23 (0, 0) (row_new _ _ _)]
    match j, hj with
    | 0, _ => rfl
    | 1, _ => rfl
  · match j, hj with
    | 0, _ => exact hx.below hb (Nat.le_refl _)
    | 1, _ => exact hy.below hb (Nat.le_refl _)
theorem mid_psl {w5 w6 w7 : World} {key hm : List UInt8} (hk64 : key.length ≤ 64) (hml : hm.length = 32) (hz : w5.heap.size < w6.heap.size) (hG6 : w6.heap[w5.heap.size]? = some (.cells (c8 hm) 268 (0, 0)))
    (hG7 : w7.heap[w6.drew.heap.size]? = some (.cells (c8 (chg key 92)) 5 (0, 0))) (hb7 : Below w6.drew.heap.size w6.drew w7) :
    PSl (w7.alloc (.cells #[.slice (some ⟨w6.heap.size, 0, none⟩) 64 64, .slice (some ⟨w5.heap.size, 0, none⟩) 32 32] 23)) (.slice (some ⟨w7.heap.size, 0, none⟩) 2 2) [.slice (some ⟨w6.heap.size, 0, none⟩) 64 64, .slice (some ⟨w5.heap.size, 0, none⟩) 32 32] [chg key 92, hm] := by
  have hl := chg_length key 92 hk64
  refine two_psl (BSl.of_row (T := 5) (c := 64) hG7 (by omega) 64 hl.symm) (BSl.of_row (T := 268) (c := 32) ?_ (by omega) 32 hml.symm)
  exact (hb7.block _ hz).trans hG6
theorem results_mid {P : Program} {fn : Func} {p : Tmp} {ty : TypeId} (h : fn.results = #[.cell p ty]) (tmps : Array Value) (w : World) (b : Nat) (cs : List Value) (d : TypeDesc)
    (hp : tmps.getD p undef = .pointer (some ⟨b, 0, none⟩)) (hc : w.rangeAt b 0 cs) (hu : P.underlying ty = some d) (hd : d.isRow = true) (hi : (P.info? ty).map (·.size) = some cs.length) :
    (results fn tmps).run P w = .ok (.agg cs.toArray) w := by
  have hp' : tmps[p]?.getD undef = .pointer (some ⟨b, 0, none⟩) := by simpa using hp
  simp [results, h, hp', asAddr, run_loadVar_mid w b 0 ty cs d hc hu hd hi]
theorem there_of_row {w : World} {b T : Nat} {l : List UInt8} (h : w.heap[b]? = some (.cells (c8 l) T (0, 0))) : w.there b 0 l.length := fun j hj => by
  rw [Nat.zero_add]
  exact ⟨by rw [row8_cell h j hj]; rfl, row_free h j⟩
theorem there_below {B : Nat} {w w' : World} {b o n : Nat} (h : w.there b o n) (hb : Below B w w') (hB : b < B) : w'.there b o n := fun j hj => by
  rw [hb.cell (p := ⟨b, o + j, none⟩) hB, hb.frozen (p := ⟨b, o + j, none⟩) hB]; exact h j hj
def hmS (key msg : List UInt8) : List UInt8 := shaB (chg key 92 ++ shaB (chg key 54 ++ msg))
def hmB (key msg : List UInt8) : List UInt8 := hmS (if key.length > 64 then shaB key else key) msg
attribute [local irreducible] chg shaB
theorem below_cells {B b : Nat} {a : World} (hb : B ≤ b) : ∀ (vs : List Value) (o : Nat) (w : World), Below B a w → Below B a (w.setCells b o vs)
  | [], _, _, h => h
  | _ :: r, o, _, h => below_cells hb r (o + 1) _ (h.setCell hb _)
theorem mid_len {key hm : List UInt8} (hk64 : key.length ≤ 64) (hml : hm.length = 32) : ([chg key 92, hm].flatten).length ≤ 100000000000 := by
  have hl := chg_length key 92 hk64
  simp [hl, hml]
theorem alloc_below {o : Obj} (w : World) : Below w.heap.size w (w.alloc o) := (Below.refl _ _).alloc (Nat.le_refl _) _
theorem mid_below {w w6 w7 : World} {o : Obj} (h6 : Below w.heap.size w w6) (h7 : Below w6.drew.heap.size w6.drew w7) : Below w.heap.size w (w7.alloc o) :=
  (h6.drew.trans (h7.mono h6.size)).alloc (Nat.le_trans h6.size h7.size) _
theorem mid_lt {w w' : World} (h3 : 5 < w.heap.size) (h : Below w.heap.size w w') : 5 < w'.heap.size := Nat.lt_of_lt_of_le h3 h.size
theorem mid_lt2 {n : Nat} {w6 w7 : World} (h : n < w6.heap.size) (h7 : Below w6.drew.heap.size w6.drew w7) : n < w7.heap.size := Nat.lt_of_lt_of_le h h7.size
theorem mid_lt3 {n : Nat} {w6 w7 : World} {o : Obj} (h : n < w6.heap.size) (h7 : Below w6.drew.heap.size w6.drew w7) : n < (w7.alloc o).heap.size := by
  have := mid_lt2 h h7; simp; omega
set_option maxRecDepth 100000 in
set_option maxHeartbeats 1000000 in
theorem hmac_short (kv pv : Value) (key : List UInt8) (vs : List Value) (ps : List (List UInt8)) (w : World) (hk : BSl w kv key) (hk64 : key.length ≤ 64) (hP : PSl w pv vs ps) (hc0 : ps.length ≤ 100000000) (ht : ps.flatten.length ≤ 10000000000)
    (hK : GlobK w) (hS : GlobS w) (h3 : 5 < w.heap.size) :
    Calls Tryz.prog 157 #[kv, pv] w fun e w' => e = .returned (.agg (c8 (hmS key ps.flatten))) ∧ Below w.heap.size w w' := by
  have HK : Hid (GlobK w) := hK
  have HS : Hid (GlobS w) := hS
  clear hK hS
  obtain ⟨a0, c0, hkv⟩ := hk.len
  subst hkv
  have d64 : decide ((64 : Int) < (key.length : Int)) = false := decide_eq_false (by omega)
  have HR1 := Lib.hid (row_new8 w)
  go_enter Tryz.func157, Tryz.ntmps157
  go_wp2_with fail
  generalize hw1 : w.alloc _ = w1 at HR1 ⊢
  have hb1 : Below w.heap.size w w1 := by rw [← hw1]; exact (Below.refl _ _).alloc (Nat.le_refl _) _
  have HZ1 : Hid (w.heap.size < w1.heap.size) := by rw [← hw1]; simp [Hid]
  clear hw1
  have hk1 := hk.below hb1 (Nat.le_refl _)
  refine (clone_any pv vs ps w1 (hP.below hb1 (Nat.le_refl _)) (by omega)).mono ?_
  rintro e w2 ⟨v2, rfl, hown2, hb2⟩
  have hz2 := hb2.size
  have hbw2 : Below w.heap.size w w2 := hb1.trans (hb2.mono (by have := HZ1.out; omega))
  go_wp2_with fail
  refine (changed_k a0 key.length c0 key 54 54 rfl w2 rfl (hk1.below hb2 (Nat.le_refl _)) hk64).mono ?_
  rintro e w3 ⟨rfl, hG3, hb3⟩
  have HG3 := Lib.hid hG3
  clear hG3
  have hz3 := hb3.size
  have hz3' : w2.heap.size < w3.heap.size := (Array.getElem?_eq_some_iff.1 HG3.out).1
  go_wp2_with fail
  have hb3' : Below w2.heap.size w2 (w3.alloc (.cells #[.slice (some ⟨w2.heap.size, 0, none⟩) 64 64] 23)) := hb3.alloc hz3 _
  refine (insert_any w1.heap.size w3.heap.size ps.length v2 (.slice (some ⟨w2.heap.size, 0, none⟩) 64 64) vs _ (owns_below hown2 hb3' (Nat.le_refl _)) (by simp; omega) (by omega) (by simp) rfl ?_ (by simp) (fun g hg => by have := owns_lt hown2 hg; omega) ⟨_, row_new _ _ _⟩).mono ?_
  · intro u hu
    obtain ⟨j, hj, rfl⟩ := List.getElem_of_mem hu
    have := (hP.each j (by rw [← hP.len]; exact hj)).one
    simpa [atV, hj] using this
  rintro e w4 ⟨v4, rfl, hown4, hg4⟩
  have hb4 : Below w1.heap.size w1 w4 := (hb2.trans (hb3'.mono hz2)).grown hg4 (by simp; omega) (fun g hg => owns_block hown2 hg)
  have hbw4 : Below w.heap.size w w4 := hb1.trans (hb4.mono (by have := HZ1.out; omega))
  have HG4 : Hid (w4.heap[w2.heap.size]? = some (.cells (c8 (chg key 54)) 5 (0, 0))) := by
    show _ = _
    rw [hg4.block _ (by simp; omega) (fun e => by have := owns_lt hown2 e.symm; omega), Below.heap_alloc _ _ _ hz3']
    exact HG3.out
  have hP4 : PSl w4 v4 (.slice (some ⟨w2.heap.size, 0, none⟩) 64 64 :: vs) (chg key 54 :: ps) := by
    refine PSl.of_owns hown4 (by simp [hP.len]) (fun j hj => ?_)
    cases j with
    | zero =>
      rw [atV_cons_zero, atP_cons_zero]
      have hl := chg_length key 54 hk64
      exact BSl.of_row HG4.out (by rw [hl]; exact Nat.le_refl _) 64 hl.symm
    | succ j =>
      rw [atV_cons_succ, atP_cons_succ]
      exact (hP.each j (by simpa using hj)).below hbw4 (Nat.le_refl _)
  have hz4 := hb4.size
  go_wp2_with fail
  refine (sha_any v4 _ (chg key 54 :: ps) w4 hP4 (by simp; omega) (by rw [List.flatten_cons, List.length_append, chg_length _ _ hk64]; omega) (HK.out.below hbw4 h3) (HS.out.below hbw4 h3) (by have := hbw4.size; omega)).mono ?_
  rintro e w5 ⟨rfl, hb5⟩
  have hbw5 : Below w.heap.size w w5 := hbw4.trans (hb5.mono hbw4.size)
  obtain ⟨hm, hhm⟩ : ∃ hm, hm = shaB (chg key 54 :: ps).flatten := ⟨_, rfl⟩
  rw [← hhm]
  have hml : hm.length = 32 := by rw [hhm]; exact shaB_length _
  have HHM := Lib.hid hhm
  clear hhm
  have HI24 : Hid ((Tryz.prog.info? 268).map (·.size) = some (c8 hm).size) := by rw [c8_size, hml]; exact info24
  have HQ : Hid ((c8 (List.replicate 32 0)).size = (c8 hm).size) := by rw [c8_size, c8_size, hml]; simp [Hid]
  have HML := Lib.hid hml
  clear hml
  go_wp2_with (refine wpList_store_row rfl 268 (.tmp 6) (.tmp 20) rfl w5.heap.size (c8 hm) rfl rfl 268 _ (row_new8 w5) HI24.out HQ.out (c8_one _) ?_)
  go_frame
  generalize hw6 : (w5.alloc _).setRow w5.heap.size (c8 hm) = w6
  have hb6 : Below w5.heap.size w5 w6 := by rw [← hw6]; exact below_setRow ((Below.refl _ _).alloc (Nat.le_refl _) _) (Nat.le_refl _) _
  have HG6 : Hid (w6.heap[w5.heap.size]? = some (.cells (c8 hm) 268 (0, 0))) := by rw [← hw6]; exact setRow_heap _ _ _ _ _ _ (row_new8 w5)
  clear hw6
  have hz6 : w5.heap.size < w6.heap.size := (Array.getElem?_eq_some_iff.1 HG6.out).1
  have hbw6 : Below w.heap.size w w6 := hbw5.trans (hb6.mono hbw5.size)
  have HR6 : Hid (w6.heap[w.heap.size]? = some (.cells (c8 (List.replicate 32 0)) 268 (0, 0))) := by
    show _ = _
    rw [hb6.block _ (by have := HZ1.out; have := hb5.size; omega), hb5.block _ (by have := HZ1.out; omega), hb4.block _ (by have := HZ1.out; omega)]
    exact HR1.out
  have hT6 : w6.there w.heap.size 0 32 := by have := there_of_row HR6.out; rwa [List.length_replicate] at this
  obtain ⟨X, hX⟩ : ∃ X, X = shaB [chg key 92, hm].flatten := ⟨_, rfl⟩
  have hXl : X.length = 32 := by rw [hX]; exact shaB_length _
  have hXc : (c8l X).length = 32 := by rw [c8l_length]; exact hXl
  have hX1 : ∀ v ∈ c8l X, v.oneCell' = true := c8l_one X
  have hi24 := info24
  have HX := Lib.hid hX
  clear hX hXl
  have hk6 := hk1.below (hb4.trans ((hb5.mono hb4.size).trans (hb6.mono (Nat.le_trans hb4.size hb5.size)))) (Nat.le_refl _)
  have hRz6 : w.heap.size < w6.heap.size := by have := HZ1.out; have := hb5.size; omega
  go_region_held3 (fun W => W.there w.heap.size 0 32) (first | exact hT6 | exact hT7 | exact there_below hT7 (alloc_below w7) (mid_lt2 hRz6 hb7) | exact hT8 | exact World.there_setCells hT8 _ _ _)
    (first | (go_at_call 179; refine (changed_k a0 key.length c0 key 92 92 rfl _ rfl ?_ hk64).mono ?_; exact hk6.same rfl; rintro e w7 ⟨rfl, hG7, hb7⟩; have HG7 := Lib.hid hG7; clear hG7; have hT7 : w7.there w.heap.size 0 32 := there_below (w := w6.drew) hT6 hb7 hRz6) | (go_at_call 176; refine (sha_any _ _ _ _ (mid_psl hk64 HML.out hz6 HG6.out HG7.out hb7) (by simp) ?_ ?_ ?_ ?_).mono ?_; exact mid_len hk64 HML.out; exact HK.out.below (mid_below hbw6 hb7) h3; exact HS.out.below (mid_below hbw6 hb7) h3; exact mid_lt h3 (mid_below hbw6 hb7); (rw [← HX.out]); rintro e w8 ⟨rfl, hb8⟩; have hT8 : w8.there w.heap.size 0 32 := there_below (there_below hT7 (alloc_below w7) (mid_lt2 hRz6 hb7)) hb8 (mid_lt3 hRz6 hb7)))
  go_wp2
  have hrs : (w8.setCells w.heap.size 0 (c8l X)).rangeAt w.heap.size 0 (c8l X) := World.rangeAt_setCells_same _ _ _ _ (by rw [hXc]; exact hT8)
  have hfin : Below w.heap.size w (w8.setCells w.heap.size 0 (c8l X)) := below_cells (Nat.le_refl _) _ _ _ ((mid_below hbw6 hb7).trans (hb8.mono (mid_below hbw6 hb7).size))
  refine bodyPost_ret (v := .agg (c8 X)) (results_mid (p := 4) (ty := 268) rfl _ _ w.heap.size (c8l X) _ rfl hrs Tryz.underlying268 rfl (by rw [hXc]; exact info24)) rfl ⟨?_, hfin⟩
  rw [HX.out, HHM.out]
  simp [hmS]
theorem one_psl {w : World} {x : Value} {p : List UInt8} (hx : BSl w x p) : PSl (w.alloc (.cells #[x] 23)) (.slice (some ⟨w.heap.size, 0, none⟩) 1 1) [x] [p] := by
  have hb : Below w.heap.size w (w.alloc (.cells #[x] 23)) := (Below.refl _ _).alloc (Nat.le_refl _) _
  refine ⟨rfl, .inr ⟨w.heap.size, 0, 1, rfl, Nat.le_refl _, by simp, fun j hj => ?_⟩, fun j hj => ?_⟩
  · rw [Nat.zero_add, cell_of_row _ _ j _ 23 (0, 0) (row_new _ _ _)]
    match j, hj with
    | 0, _ => rfl
  · match j, hj with
    | 0, _ => exact hx.below hb (Nat.le_refl _)
set_option maxRecDepth 100000 in
set_option maxHeartbeats 1000000 in
theorem hmac_long (kv pv : Value) (key : List UInt8) (vs : List Value) (ps : List (List UInt8)) (w : World) (hk : BSl w kv key) (hlong : 64 < key.length) (hkl : key.length ≤ 10000000000) (hP : PSl w pv vs ps) (hc0 : ps.length ≤ 100000000) (ht : ps.flatten.length ≤ 10000000000)
    (hK : GlobK w) (hS : GlobS w) (h3 : 5 < w.heap.size) :
    Calls Tryz.prog 157 #[kv, pv] w fun e w' => e = .returned (.agg (c8 (hmS (shaB key) ps.flatten))) ∧ Below w.heap.size w w' := by
  have HK : Hid (GlobK w) := hK
  have HS : Hid (GlobS w) := hS
  clear hK hS
  obtain ⟨a0, c0, hkv⟩ := hk.len
  subst hkv
  have d64 : decide ((64 : Int) < (key.length : Int)) = true := decide_eq_true (by omega)
  have HR0 := Lib.hid (row_new8 w)
  go_enter Tryz.func157, Tryz.ntmps157
  go_wp2_with fail
  generalize hy1 : w.alloc _ = y1 at HR0 ⊢
  have hby1 : Below w.heap.size w y1 := by rw [← hy1]; exact (Below.refl _ _).alloc (Nat.le_refl _) _
  have hyz : y1.heap.size = w.heap.size + 1 := by rw [← hy1]; simp
  clear hy1
  rw [← hyz]
  have hyz1 : w.heap.size < y1.heap.size := by omega
  clear hyz
  have hby2 : Below w.heap.size w (y1.alloc (.cells #[.slice a0 key.length c0] 23)) := hby1.alloc (by omega) _
  refine (sha_any _ _ _ _ (one_psl (hk.below hby1 (Nat.le_refl _))) (by simp) (by simp; omega) (HK.out.below hby2 h3) (HS.out.below hby2 h3) (mid_lt h3 hby2)).mono ?_
  rintro e y3 ⟨rfl, hby3⟩
  obtain ⟨ky, hky⟩ : ∃ ky, ky = shaB [key].flatten := ⟨_, rfl⟩
  rw [← hky]
  have hkyl : ky.length = 32 := by rw [hky]; exact shaB_length _
  have HKY := Lib.hid hky
  clear hky
  have HI24k : Hid ((Tryz.prog.info? 268).map (·.size) = some (c8 ky).size) := by rw [c8_size, hkyl]; exact info24
  have HQk : Hid ((c8 (List.replicate 32 0)).size = (c8 ky).size) := by rw [c8_size, c8_size, hkyl]; simp [Hid]
  have HKL := Lib.hid hkyl
  clear hkyl
  go_wp2_with (first | (refine wpList_store_row rfl 268 (.tmp 5) (.tmp 12) rfl y3.heap.size (c8 ky) rfl rfl 268 _ (row_new8 y3) HI24k.out HQk.out (c8_one _) ?_))
  generalize hw1 : (y3.alloc _).setRow y3.heap.size (c8 ky) = w1
  have hb31 : Below y3.heap.size y3 w1 := by rw [← hw1]; exact below_setRow (alloc_below _) (Nat.le_refl _) _
  have HGK : Hid (w1.heap[y3.heap.size]? = some (.cells (c8 ky) 268 (0, 0))) := by rw [← hw1]; exact setRow_heap _ _ _ _ _ _ (row_new8 y3)
  clear hw1
  have hby3s := hby3.size
  simp only [World.size_alloc] at hby3s
  have hb1 : Below w.heap.size w w1 := hby2.trans ((hby3.mono (by simp; omega)).trans (hb31.mono (by omega)))
  have HZ1 : Hid (w.heap.size < w1.heap.size) := by have := hb31.size; show _ < _; omega
  have HR1 : Hid (w1.heap[w.heap.size]? = some (.cells (c8 (List.replicate 32 0)) 268 (0, 0))) := by
    show _ = _
    rw [hb31.block _ (by omega), hby3.block _ (by simp; omega), Below.heap_alloc _ _ _ hyz1]
    exact HR0.out
  have hk1 : BSl w1 (.slice (some ⟨y3.heap.size, 0, none⟩) 32 32) ky := BSl.of_row (T := 268) HGK.out (by have := HKL.out; omega) 32 HKL.out.symm
  have hk64 : ky.length ≤ 64 := by have := HKL.out; omega
  refine (clone_any pv vs ps w1 (hP.below hb1 (Nat.le_refl _)) (by omega)).mono ?_
  rintro e w2 ⟨v2, rfl, hown2, hb2⟩
  have hz2 := hb2.size
  have hbw2 : Below w.heap.size w w2 := hb1.trans (hb2.mono (by have := HZ1.out; omega))
  go_wp2_with fail
  refine (changed_k (some ⟨y3.heap.size, 0, none⟩) 32 32 ky 54 54 rfl w2 HKL.out.symm (hk1.below hb2 (Nat.le_refl _)) hk64).mono ?_
  rintro e w3 ⟨rfl, hG3, hb3⟩
  have HG3 := Lib.hid hG3
  clear hG3
  have hz3 := hb3.size
  have hz3' : w2.heap.size < w3.heap.size := (Array.getElem?_eq_some_iff.1 HG3.out).1
  go_wp2_with fail
  have hb3' : Below w2.heap.size w2 (w3.alloc (.cells #[.slice (some ⟨w2.heap.size, 0, none⟩) 64 64] 23)) := hb3.alloc hz3 _
  refine (insert_any w1.heap.size w3.heap.size ps.length v2 (.slice (some ⟨w2.heap.size, 0, none⟩) 64 64) vs _ (owns_below hown2 hb3' (Nat.le_refl _)) (by simp; omega) (by omega) (by simp) rfl ?_ (by simp) (fun g hg => by have := owns_lt hown2 hg; omega) ⟨_, row_new _ _ _⟩).mono ?_
  · intro u hu
    obtain ⟨j, hj, rfl⟩ := List.getElem_of_mem hu
    have := (hP.each j (by rw [← hP.len]; exact hj)).one
    simpa [atV, hj] using this
  rintro e w4 ⟨v4, rfl, hown4, hg4⟩
  have hb4 : Below w1.heap.size w1 w4 := (hb2.trans (hb3'.mono hz2)).grown hg4 (by simp; omega) (fun g hg => owns_block hown2 hg)
  have hbw4 : Below w.heap.size w w4 := hb1.trans (hb4.mono (by have := HZ1.out; omega))
  have HG4 : Hid (w4.heap[w2.heap.size]? = some (.cells (c8 (chg ky 54)) 5 (0, 0))) := by
    show _ = _
    rw [hg4.block _ (by simp; omega) (fun e => by have := owns_lt hown2 e.symm; omega), Below.heap_alloc _ _ _ hz3']
    exact HG3.out
  have hP4 : PSl w4 v4 (.slice (some ⟨w2.heap.size, 0, none⟩) 64 64 :: vs) (chg ky 54 :: ps) := by
    refine PSl.of_owns hown4 (by simp [hP.len]) (fun j hj => ?_)
    cases j with
    | zero =>
      rw [atV_cons_zero, atP_cons_zero]
      have hl := chg_length ky 54 hk64
      exact BSl.of_row HG4.out (by rw [hl]; exact Nat.le_refl _) 64 hl.symm
    | succ j =>
      rw [atV_cons_succ, atP_cons_succ]
      exact (hP.each j (by simpa using hj)).below hbw4 (Nat.le_refl _)
  have hz4 := hb4.size
  go_wp2_with fail
  refine (sha_any v4 _ (chg ky 54 :: ps) w4 hP4 (by simp; omega) (by rw [List.flatten_cons, List.length_append, chg_length _ _ hk64]; omega) (HK.out.below hbw4 h3) (HS.out.below hbw4 h3) (by have := hbw4.size; omega)).mono ?_
  rintro e w5 ⟨rfl, hb5⟩
  have hbw5 : Below w.heap.size w w5 := hbw4.trans (hb5.mono hbw4.size)
  obtain ⟨hm, hhm⟩ : ∃ hm, hm = shaB (chg ky 54 :: ps).flatten := ⟨_, rfl⟩
  rw [← hhm]
  have hml : hm.length = 32 := by rw [hhm]; exact shaB_length _
  have HHM := Lib.hid hhm
  clear hhm
  have HI24 : Hid ((Tryz.prog.info? 268).map (·.size) = some (c8 hm).size) := by rw [c8_size, hml]; exact info24
  have HQ : Hid ((c8 (List.replicate 32 0)).size = (c8 hm).size) := by rw [c8_size, c8_size, hml]; simp [Hid]
  have HML := Lib.hid hml
  clear hml
  go_wp2_with (refine wpList_store_row rfl 268 (.tmp 6) (.tmp 20) rfl w5.heap.size (c8 hm) rfl rfl 268 _ (row_new8 w5) HI24.out HQ.out (c8_one _) ?_)
  go_frame
  generalize hw6 : (w5.alloc _).setRow w5.heap.size (c8 hm) = w6
  have hb6 : Below w5.heap.size w5 w6 := by rw [← hw6]; exact below_setRow ((Below.refl _ _).alloc (Nat.le_refl _) _) (Nat.le_refl _) _
  have HG6 : Hid (w6.heap[w5.heap.size]? = some (.cells (c8 hm) 268 (0, 0))) := by rw [← hw6]; exact setRow_heap _ _ _ _ _ _ (row_new8 w5)
  clear hw6
  have hz6 : w5.heap.size < w6.heap.size := (Array.getElem?_eq_some_iff.1 HG6.out).1
  have hbw6 : Below w.heap.size w w6 := hbw5.trans (hb6.mono hbw5.size)
  have HR6 : Hid (w6.heap[w.heap.size]? = some (.cells (c8 (List.replicate 32 0)) 268 (0, 0))) := by
    show _ = _
    rw [hb6.block _ (by have := HZ1.out; have := hb5.size; omega), hb5.block _ (by have := HZ1.out; omega), hb4.block _ (by have := HZ1.out; omega)]
    exact HR1.out
  have hT6 : w6.there w.heap.size 0 32 := by have := there_of_row HR6.out; rwa [List.length_replicate] at this
  obtain ⟨X, hX⟩ : ∃ X, X = shaB [chg ky 92, hm].flatten := ⟨_, rfl⟩
  have hXl : X.length = 32 := by rw [hX]; exact shaB_length _
  have hXc : (c8l X).length = 32 := by rw [c8l_length]; exact hXl
  have hX1 : ∀ v ∈ c8l X, v.oneCell' = true := c8l_one X
  have hi24 := info24
  have HX := Lib.hid hX
  clear hX hXl
  have hk6 := hk1.below (hb4.trans ((hb5.mono hb4.size).trans (hb6.mono (Nat.le_trans hb4.size hb5.size)))) (Nat.le_refl _)
  have hRz6 : w.heap.size < w6.heap.size := by have := HZ1.out; have := hb5.size; omega
  go_region_held3 (fun W => W.there w.heap.size 0 32) (first | exact hT6 | exact hT7 | exact there_below hT7 (alloc_below w7) (mid_lt2 hRz6 hb7) | exact hT8 | exact World.there_setCells hT8 _ _ _)
    (first | (go_at_call 179; refine (changed_k (some ⟨y3.heap.size, 0, none⟩) 32 32 ky 92 92 rfl _ HKL.out.symm ?_ hk64).mono ?_; exact hk6.same rfl; rintro e w7 ⟨rfl, hG7, hb7⟩; have HG7 := Lib.hid hG7; clear hG7; have hT7 : w7.there w.heap.size 0 32 := there_below (w := w6.drew) hT6 hb7 hRz6) | (go_at_call 176; refine (sha_any _ _ _ _ (mid_psl hk64 HML.out hz6 HG6.out HG7.out hb7) (by simp) ?_ ?_ ?_ ?_).mono ?_; exact mid_len hk64 HML.out; exact HK.out.below (mid_below hbw6 hb7) h3; exact HS.out.below (mid_below hbw6 hb7) h3; exact mid_lt h3 (mid_below hbw6 hb7); (rw [← HX.out]); rintro e w8 ⟨rfl, hb8⟩; have hT8 : w8.there w.heap.size 0 32 := there_below (there_below hT7 (alloc_below w7) (mid_lt2 hRz6 hb7)) hb8 (mid_lt3 hRz6 hb7)))
  go_wp2
  have hrs : (w8.setCells w.heap.size 0 (c8l X)).rangeAt w.heap.size 0 (c8l X) := World.rangeAt_setCells_same _ _ _ _ (by rw [hXc]; exact hT8)
  have hfin : Below w.heap.size w (w8.setCells w.heap.size 0 (c8l X)) := below_cells (Nat.le_refl _) _ _ _ ((mid_below hbw6 hb7).trans (hb8.mono (mid_below hbw6 hb7).size))
  refine bodyPost_ret (v := .agg (c8 X)) (results_mid (p := 4) (ty := 268) rfl _ _ w.heap.size (c8l X) _ rfl hrs Tryz.underlying268 rfl (by rw [hXc]; exact info24)) rfl ⟨?_, hfin⟩
  rw [HX.out, HHM.out, HKY.out]
  simp [hmS]
theorem hmac_any (kv pv : Value) (key : List UInt8) (vs : List Value) (ps : List (List UInt8)) (w : World) (hk : BSl w kv key) (hkl : key.length ≤ 10000000000) (hP : PSl w pv vs ps) (hc0 : ps.length ≤ 100000000) (ht : ps.flatten.length ≤ 10000000000)
    (hK : GlobK w) (hS : GlobS w) (h3 : 5 < w.heap.size) :
    Calls Tryz.prog 157 #[kv, pv] w fun e w' => e = .returned (.agg (c8 (hmB key ps.flatten))) ∧ Below w.heap.size w w' := by
  unfold hmB
  by_cases h : key.length > 64
  · rw [if_pos h]; exact hmac_long kv pv key vs ps w hk h hkl hP hc0 ht hK hS h3
  · rw [if_neg h]; exact hmac_short kv pv key vs ps w hk (by omega) hP hc0 ht hK hS h3
end Go.Proofs.YtlgbdgpgdimpdaaGreatDoor
namespace Go.Proofs.YtlgbdgpgdimpdaaGreatDoor.V2
open Go
open Go.RowKit
theorem HR.below {ρ : Ren} {σ : AH} {W W' : World} (h : HR ρ σ W) (hb : Below W.heap.size W W') : HR ρ σ W' :=
  ⟨h.small, h.none_, fun b c d hρ => by
    obtain ⟨h1, h2, o, h3, h4⟩ := h.dom b c d hρ
    refine ⟨h1, Nat.lt_of_lt_of_le h2 hb.size, o, h3, ?_⟩
    rw [hb.block c h2]; exact h4, h.inj⟩
theorem Stp.below {N : Nat} {ρ : Ren} {σ : AH} {W W' : World} (hN : N ≤ σ.next) (hb : Below W.heap.size W W') : Stp N ρ σ W ρ σ W' :=
  ⟨fun _ _ => rfl, fun b _c d h => .inl ⟨b, d, h⟩, hN, fun _ _ _ _ h _ => h, fun c hc _ => hb.block c hc, hb.tape, hb.os, hb.output, hb.size, fun _ c _ _ _ _ hc h _ => ⟨h, hb.block c hc⟩⟩
def rowB : Row → Option (List Int)
  | .ints k l => match k with
    | .u8 => some l
    | _ => none
  | .cells l => match l with
    | [] => some []
    | _ => none
def byI (l : List Int) : Bool := l.all fun n => decide (0 ≤ n) && decide (n ≤ 255)
theorem byI_iff {l : List Int} (h : byI l = true) : ∀ n ∈ l, 0 ≤ n ∧ n ≤ 255 := fun n hn => by
  have := List.all_eq_true.1 h n hn
  simpa using this
noncomputable def bytesA (A : Ar) (By : List Int → Bool) (σ : AH) (v : AV) : Bool × List Int := match rowA A false 1 σ v with
  | (ok, _, r) => match rowB r with
    | some l => (ok && By l, l)
    | none => (false, [])
theorem bytes_of {ρ : Ren} {σ : AH} {W : World} (hr : HR ρ σ W) {s : AV} {v : Value} (hv : VR ρ s v) (hok : (bytesA std byI σ s).1 = true) : BSl W v (toBs (bytesA std byI σ s).2) ∧ bI (toBs (bytesA std byI σ s).2) = (bytesA std byI σ s).2 := by
  unfold bytesA at hok ⊢
  generalize hrow : rowA std false 1 σ s = row at hok ⊢
  obtain ⟨ok, n, r⟩ := row
  simp only at hok ⊢
  cases hB : rowB r with
  | none => rw [hB] at hok; cases hok
  | some l =>
    rw [hB] at hok
    simp only [Bool.and_eq_true] at hok ⊢
    obtain ⟨hok, hby⟩ := hok
    have hby := byI_iff hby
    refine ⟨?_, bI_toBs l hby⟩
    cases s
    case nilsl =>
      simp only [VR] at hv
      simp only [rowA, Prod.mk.injEq] at hrow
      obtain ⟨_, _, rfl⟩ := hrow
      simp only [rowB, Option.some.injEq] at hB
      subst hB; subst hv
      exact .inl ⟨rfl, rfl⟩
    case sl b o n' k e z =>
      rcases vr_sl hv with ⟨c, d, o', k', hb, rfl, ho, hnk, hk, _, _⟩ | ⟨rfl, rfl, rfl, _, pp, rfl⟩
      rotate_left
      · refine .inr (.inr ⟨pp, rfl, ?_⟩)
        have hl : l = [] := by
          simp only [rowA] at hrow
          cases hob : σ.get b with
          | none => rw [hob] at hrow; cases hrow; cases hok
          | some ob =>
            rw [hob] at hrow
            cases ob with
            | map m => cases hrow; cases hok
            | hid => cases hrow; cases hok
            | dead => cases hrow; cases hB; rfl
            | cells m e2 t =>
              simp only [Prod.mk.injEq] at hrow
              obtain ⟨_, _, rfl⟩ := hrow
              rw [Nat.zero_mul, List.take_zero] at hB
              cases hB; rfl
            | ints ik m e2 t =>
              simp only [Prod.mk.injEq] at hrow
              obtain ⟨_, _, rfl⟩ := hrow
              have hik : ik = .u8 := by cases ik <;> first | rfl | (simp [rowB] at hB)
              subst hik
              simp only [std, rowB, Option.some.injEq] at hB
              rw [← hB]; simp
        rw [hl]; rfl
      have hc := (hr.dom _ _ _ hb).2.1
      simp only [rowA] at hrow
      have hempty : n' = 0 → l = [] → BSl W (.slice (some ⟨c, o', none⟩) n' k') (toBs l) := fun h1 h2 => by
        subst h1; subst h2
        exact .inr (.inl ⟨c, o', k', rfl, Nat.zero_le _, hc, fun j hj => by cases hj⟩)
      cases hob : σ.get b with
      | none => rw [hob] at hrow; cases hrow; cases hok
      | some ob =>
        rw [hob] at hrow
        cases ob with
        | map m => cases hrow; cases hok
        | hid => cases hrow; cases hok
        | dead =>
          simp only [Prod.mk.injEq] at hrow
          obtain ⟨h1, _, rfl⟩ := hrow
          simp only [rowB, Option.some.injEq] at hB
          rw [← h1, Bool.and_eq_true, Nat.beq_eq] at hok
          exact hempty hok.2 hB.symm
        | cells m e2 t =>
          simp only [Prod.mk.injEq] at hrow
          obtain ⟨h1, _, rfl⟩ := hrow
          rw [← h1] at hok
          simp only [Bool.and_eq_true, Nat.ble_eq] at hok
          cases hm : (m.drop o).take (n' * 1) with
          | nil =>
            have h0 : ((m.drop o).take (n' * 1)).length = 0 := by rw [hm]; rfl
            rw [List.length_take, List.length_drop] at h0
            rw [hm] at hB
            simp only [rowB, Option.some.injEq] at hB
            exact hempty (by omega) hB.symm
          | cons x y => rw [hm] at hB; cases hB
        | ints ik m e2 t =>
          simp only [Prod.mk.injEq] at hrow
          obtain ⟨h1, _, rfl⟩ := hrow
          rw [← h1] at hok
          simp only [std, Bool.and_eq_true, Nat.ble_eq] at hok
          have hik : ik = .u8 := by cases ik <;> first | rfl | (simp [rowB] at hB)
          subst hik
          simp only [std, rowB, Option.some.injEq] at hB
          have hln : l.length = n' := by rw [← hB, List.length_take, List.length_drop]; omega
          by_cases hn : n' = 0
          · exact hempty hn (List.length_eq_zero_iff.1 (by rw [hln, hn]))
          · have ho := ho (by omega)
            subst ho
            refine .inr (.inl ⟨c, o + d.1, k', by rw [toBs_length, hln], by rw [toBs_length, hln]; omega, hc, fun j hj => ?_⟩)
            rw [toBs_length, hln] at hj
            have hjm : o + j < m.length := by omega
            obtain ⟨u, hu, hvr⟩ := hr.load (i := o + j) (a := .int .u8 m[o + j]) hb hob (by simp only [AObj.at]; rw [List.getElem?_eq_getElem hjm]; rfl)
            simp only [VR] at hvr
            subst hvr
            rw [show o + d.1 + j = o + j + d.1 by omega, hu]
            have hlj : l[j]? = some m[o + j] := by rw [← hB, List.getElem?_take, if_pos (by omega), List.getElem?_drop, List.getElem?_eq_getElem hjm]
            have : (bI (toBs l)).getD j 0 = m[o + j] := by rw [bI_toBs l hby, List.getD_eq_getElem?_getD, hlj]; rfl
            rw [bI_getD] at this
            rw [this]
    all_goals (simp only [rowA, Prod.mk.injEq] at hrow; obtain ⟨h1, _⟩ := hrow; rw [← h1] at hok; cases hok)
noncomputable def partsA (A : Ar) (By : List Int → Bool) (σ : AH) : List AV → Bool × List (List Int)
  | [] => (true, [])
  | v :: l => match bytesA A By σ v with
    | (ok, b) => match partsA A By σ l with
      | (ok', m) => (ok && ok', b :: m)
noncomputable def listA (A : Ar) (By : List Int → Bool) (σ : AH) (v : AV) : Bool × List (List Int) := match rowA A false 1 σ v with
  | (ok, _, r) => match r with
    | .cells l => match partsA A By σ l with
      | (ok', m) => (ok && ok' && v.sure, m)
    | _ => (false, [])
end Go.Proofs.YtlgbdgpgdimpdaaGreatDoor.V2
namespace Go.Proofs.YtlgbdgpgdimpdaaGreatDoor.V2
open Go
open Go.RowKit
theorem atV_get {vs : List Value} {j : Nat} {v : Value} (h : vs[j]? = some v) : atV vs j = v := by
  unfold atV; rw [List.getD_eq_getElem?_getD, h]; rfl
theorem parts_of {ρ : Ren} {σ : AH} {W : World} (hr : HR ρ σ W) : ∀ {l : List AV} {vs : List Value}, VRs ρ l vs → (partsA std byI σ l).1 = true → vs.length = ((partsA std byI σ l).2.map toBs).length ∧ ∀ j, j < vs.length → BSl W (atV vs j) (atP ((partsA std byI σ l).2.map toBs) j)
  | [], _, h, _ => by rw [show _ = [] from h]; exact ⟨rfl, fun j hj => by simp at hj⟩
  | a :: l, _, ⟨v, m, e, hv, hm⟩, hok => by
    subst e
    unfold partsA at hok ⊢
    have hB := fun h => bytes_of hr hv h
    have hL := fun h => parts_of hr hm h
    generalize bytesA std byI σ a = b at hok hB ⊢
    generalize partsA std byI σ l = q at hok hL ⊢
    obtain ⟨ok, b⟩ := b
    obtain ⟨ok', q⟩ := q
    simp only [Bool.and_eq_true] at hok hB hL ⊢
    obtain ⟨h1, h2⟩ := hL hok.2
    refine ⟨by simp [h1], fun j hj => ?_⟩
    cases j with
    | zero => exact (hB hok.1).1
    | succ j =>
      have := h2 j (by simpa using hj)
      simpa [atV, atP] using this
theorem list_of {ρ : Ren} {σ : AH} {W : World} (hr : HR ρ σ W) {s : AV} {v : Value} (hv : VR ρ s v) (hok : (listA std byI σ s).1 = true) : ∃ vs, PSl W v vs ((listA std byI σ s).2.map toBs) := by
  unfold listA at hok ⊢
  generalize hrow : rowA std false 1 σ s = row at hok ⊢
  obtain ⟨ok, n, r⟩ := row
  simp only at hok ⊢
  cases r with
  | ints k l => cases hok
  | cells l =>
    simp only at hok ⊢
    have hp := fun vs (h : VRs ρ l vs) => parts_of hr h
    generalize hpa : partsA std byI σ l = q at hok hp ⊢
    obtain ⟨ok', m⟩ := q
    simp only [Bool.and_eq_true] at hok hp ⊢
    obtain ⟨⟨hok, hok'⟩, hsu⟩ := hok
    cases s
    case nilsl =>
      simp only [VR] at hv
      simp only [rowA, Prod.mk.injEq, Row.cells.injEq] at hrow
      obtain ⟨_, _, rfl⟩ := hrow
      cases hpa
      subst hv
      exact ⟨[], ⟨rfl, .inl ⟨rfl, rfl⟩, fun j hj => by simp at hj⟩⟩
    case sl b o n' k e z =>
      obtain ⟨c, d, o', k', hb, rfl, ho, hnk, hk, _, _⟩ := (vr_sl hv).resolve_right (fun h => by obtain ⟨_, rfl, rfl, _⟩ := h; cases hsu)
      have hc := (hr.dom _ _ _ hb).2.1
      simp only [rowA] at hrow
      cases hob : σ.get b with
      | none => rw [hob] at hrow; cases hrow; cases hok
      | some ob =>
        rw [hob] at hrow
        cases ob with
        | map m => cases hrow; cases hok
        | hid => cases hrow; cases hok
        | ints ik m e2 t => simp at hrow
        | dead =>
          simp only [Prod.mk.injEq, Row.cells.injEq] at hrow
          obtain ⟨h1, _, rfl⟩ := hrow
          cases hpa
          rw [← h1, Bool.and_eq_true, Nat.beq_eq] at hok
          obtain rfl := hok.2
          exact ⟨[], ⟨rfl, .inr ⟨c, o', k', rfl, Nat.zero_le _, hc, fun j hj => by simp at hj⟩, fun j hj => by simp at hj⟩⟩
        | cells q e2 t =>
          simp only [Prod.mk.injEq, Row.cells.injEq] at hrow
          obtain ⟨h1, _, h2⟩ := hrow
          rw [← h1] at hok
          simp only [Bool.and_eq_true, Nat.ble_eq, Nat.mul_one] at hok h2
          by_cases hn : n' = 0
          · subst hn
            rw [List.take_zero] at h2
            subst h2
            cases hpa
            exact ⟨[], ⟨rfl, .inr ⟨c, o', k', rfl, Nat.zero_le _, hc, fun j hj => by simp at hj⟩, fun j hj => by simp at hj⟩⟩
          have ho := ho (by omega)
          subst ho
          have hll : l.length = n' := by rw [← h2, List.length_take, List.length_drop]; omega
          have hex : ∀ j, j < n' → ∃ u, W.cell? ⟨c, o + d.1 + j, none⟩ = some u ∧ ∀ a, l[j]? = some a → VR ρ a u := fun j hj => by
            have hq : o + j < q.length := by omega
            obtain ⟨u, hu, hur⟩ := hr.load (i := o + j) (a := q[o + j]) hb hob (by simp only [AObj.at]; exact List.getElem?_eq_getElem hq)
            refine ⟨u, by rw [show o + d.1 + j = o + j + d.1 by omega]; exact hu, fun a ha => ?_⟩
            rw [← h2, List.getElem?_take, if_pos hj, List.getElem?_drop, List.getElem?_eq_getElem hq] at ha
            cases ha; exact hur
          obtain ⟨vs, hvl, hvs⟩ : ∃ vs : List Value, vs.length = n' ∧ ∀ j, j < n' → W.cell? ⟨c, o + d.1 + j, none⟩ = some (atV vs j) ∧ ∀ a, l[j]? = some a → VR ρ a (atV vs j) := by
            refine ⟨(List.range n').map fun j => (W.cell? ⟨c, o + d.1 + j, none⟩).getD undef, by simp, fun j hj => ?_⟩
            obtain ⟨u, hu, hua⟩ := hex j hj
            have : atV ((List.range n').map fun j => (W.cell? ⟨c, o + d.1 + j, none⟩).getD undef) j = u := atV_get (by simp [hj, hu])
            rw [this]; exact ⟨hu, hua⟩
          have hV : VRs ρ l vs := VRs.of l vs (by rw [hvl, hll]) fun j a ha => by
            have hj : j < n' := by rw [← hll]; exact (List.getElem?_eq_some_iff.1 ha).1
            refine ⟨atV vs j, ?_, (hvs j hj).2 a ha⟩
            unfold atV
            rw [List.getD_eq_getElem?_getD, List.getElem?_eq_getElem (by omega)]; rfl
          obtain ⟨p1, p2⟩ := hp vs hV hok'
          have hpl : (m.map toBs).length = n' := by rw [← p1, hvl]
          exact ⟨vs, ⟨p1, .inr ⟨c, o + d.1, k', by rw [hpl], by rw [hpl]; omega, hc, fun j hj => (hvs j (by rw [hpl] at hj; exact hj)).1⟩, fun j hj => p2 j (by rw [hpl] at hj; rw [hvl]; exact hj)⟩⟩
    all_goals (simp only [rowA, Prod.mk.injEq] at hrow; obtain ⟨h1, _⟩ := hrow; rw [← h1] at hok; cases hok)
end Go.Proofs.YtlgbdgpgdimpdaaGreatDoor.V2
namespace Go.Proofs.YtlgbdgpgdimpdaaGreatDoor.V2
open Go
open Go.RowKit
noncomputable def globA (σ : AH) (g : Nat) (t : List Int → Bool) : Bool := match σ.get g with
  | some ob => match ob with
    | .ints k l _ _ => match k with
      | .u32 => t l
      | _ => false
    | _ => false
  | none => false
theorem glob_of {ρ : Ren} {σ : AH} {W : World} (hr : HR ρ σ W) {g n : Nat} {T : List UInt32} {t : List Int → Bool} (ht : ∀ l, t l = true → l = wI T) (hn : T.length = n) (hg : ∃ s, ρ g = some (g, (0, s))) (h : globA σ g t = true) : ∀ i, i < n → W.cell? ⟨g, i, none⟩ = some (.int .u32 (N32 (at32 T i))) := by
  unfold globA at h
  split at h
  case h_2 => cases h
  rename_i ob hob
  split at h
  case h_2 => cases h
  rename_i k l e tl
  split at h
  case h_2 => cases h
  have hl := ht _ h
  subst hl
  obtain ⟨s, hs⟩ := hg
  intro i hi
  have hi2 : i < (wI T).length := by rw [wI_length, hn]; exact hi
  obtain ⟨u, hu, hur⟩ := hr.load (i := i) (a := .int .u32 (wI T)[i]) hs hob (by simp only [AObj.at]; rw [List.getElem?_eq_getElem hi2]; rfl)
  simp only [VR] at hur
  subst hur
  have hu : W.cell? ⟨g, i, none⟩ = _ := hu
  rw [hu]
  have := wI_getD T i
  rw [List.getD_eq_getElem?_getD, List.getElem?_eq_getElem hi2] at this
  rw [← this]; rfl
def isS (l : List Int) : Bool := decide (l = wI S0)
def isK (l : List Int) : Bool := decide (l = wI KK)
def hmI (k l : List Int) : List Int := bI (hmB (toBs k) (toBs l))
theorem flatten_toBs (ps : List (List Int)) : (ps.map toBs).flatten = toBs ps.flatten := by
  unfold toBs
  induction ps with
  | nil => rfl
  | cons p ps ih => rw [List.map_cons, List.flatten_cons, List.flatten_cons, List.map_append, ih]
theorem vr_bytes {ρ : Ren} (l : List UInt8) : VR ρ (.ints .u8 (bI l)) (.agg (c8 l)) := by
  unfold VR bI c8 c8l
  rw [List.map_map]; rfl
theorem vrs_two {ρ : Ren} {a b : AV} {vs : List Value} (h : VRs ρ [a, b] vs) : ∃ v u, vs = [v, u] ∧ VR ρ a v ∧ VR ρ b u := by
  obtain ⟨v, m, rfl, hv, u, m', rfl, hu, hm⟩ := h
  have hm : m' = [] := hm
  subst hm; exact ⟨v, u, rfl, hv, hu⟩
end Go.Proofs.YtlgbdgpgdimpdaaGreatDoor.V2
namespace Go.Proofs.YtlgbdgpgdimpdaaGreatDoor.V2
open Go
open Go.RowKit
theorem cell_row {w : World} {b i : Nat} {v : Value} (h : w.cell? ⟨b, i, none⟩ = some v) : ∃ c e fr, w.heap[b]? = some (.cells c e fr) ∧ c[i]? = some v := by
  unfold World.cell? at h
  split at h
  · rename_i c e fr hh
    exact ⟨c, e, fr, hh, by simpa using h⟩
  · cases h
noncomputable def memL : List AObj → Nat → T AObj → T AObj
  | [], _, t => t
  | a :: l, i, t => memL l (i + 1) (t.put i a)
theorem memL_get : ∀ (l : List AObj) (i : Nat) (t : T AObj) (m : Nat), i + l.length ≤ 1048576 → (memL l i t).get m = if i ≤ m ∧ m < i + l.length then l[m - i]? else t.get m
  | [], i, t, m, _ => by rw [if_neg (by intro h; simp at h; omega)]; rfl
  | a :: l, i, t, m, h => by
    simp only [List.length_cons] at h
    show (memL l (i + 1) (t.put i a)).get m = _
    rw [memL_get l (i + 1) _ m (by omega), T.get_put _ _ _ _ (by omega)]
    by_cases h1 : i + 1 ≤ m ∧ m < i + 1 + l.length
    · rw [if_pos h1, if_pos (by simp; omega), show m - i = (m - (i + 1)) + 1 by omega, List.getElem?_cons_succ]
    · rw [if_neg h1]
      by_cases hm : m = i
      · subst hm; rw [if_pos rfl, if_pos (by simp)]; simp
      · rw [if_neg hm, if_neg (by simp; omega)]
noncomputable def hL (l : List AObj) : AH := ⟨l.length, memL l 0 .leaf⟩
theorem hL_get {l : List AObj} (h : l.length ≤ 1000000) (b : Nat) : (hL l).get b = l[b]? := by
  show (memL l 0 .leaf).get b = _
  rw [memL_get _ _ _ _ (by omega), T.get_leaf]
  by_cases hb : b < l.length
  · rw [if_pos (by omega)]; simp
  · rw [if_neg (by omega), List.getElem?_eq_none (by omega)]
def rL (l : List (Option (Nat × (Nat × Nat)))) : Ren := fun b => (l[b]?).getD none
theorem hr_ro {w : World} {l : List AObj} {r : List (Option (Nat × (Nat × Nat)))} (hl : l.length ≤ 1000000) (hlr : r.length = l.length) (hro : ∀ o ∈ l, o.isSh = true)
    (h : ∀ (b c : Nat) (d : Nat × Nat) (o : AObj), r[b]? = some (some (c, d)) → l[b]? = some o → c < w.heap.size ∧ OR (rL r) d o w.heap[c]?) : HR (rL r) (hL l) w := by
  have hlt : ∀ {b x}, rL r b = some x → b < l.length := fun {b x} hb => by
    unfold rL at hb
    rw [← hlr]
    cases hq : r[b]? with
    | none => rw [hq] at hb; cases hb
    | some y => exact (List.getElem?_eq_some_iff.1 hq).1
  refine ⟨hl, fun b hb => ?_, fun b c d hb => ?_, fun b b' c d d' h1 h2 hne => ?_⟩
  · rw [hL_get hl, List.getElem?_eq_none hb]
  · have hbl := hlt hb
    have hb2 : r[b]? = some (some (c, d)) := by
      unfold rL at hb
      cases hq : r[b]? with
      | none => rw [hq] at hb; cases hb
      | some y => rw [hq] at hb; exact congrArg some hb
    obtain ⟨e1, e2⟩ := h b c d l[b] hb2 (List.getElem?_eq_getElem hbl)
    exact ⟨hbl, e1, _, (hL_get hl b).trans (List.getElem?_eq_getElem hbl), e2⟩
  · have k1 := hlt h1
    have k2 := hlt h2
    exact .inr (.inr ⟨l[b], l[b'], (hL_get hl b).trans (List.getElem?_eq_getElem k1), (hL_get hl b').trans (List.getElem?_eq_getElem k2), hro _ (List.getElem_mem k1), hro _ (List.getElem_mem k2)⟩)
theorem or_ro {ρ : Ren} {w : World} {b off D : Nat} {k : IntKind} {l : List Int} {e : TypeId} (hD : l.length + off ≤ D) (h : ∀ i, i < l.length → w.cell? ⟨b, off + i, none⟩ = some (.int k (l.getD i 0))) : OR ρ (off, D) (.ints k l e .ro) w.heap[b]? := ⟨fun _ => by
  refine ⟨hD, fun hl => ?_⟩
  have hl : 0 < l.length := hl rfl
  obtain ⟨c, t, fr, hb, _⟩ := cell_row (h 0 hl)
  have hat : ∀ i, i < l.length → c[i + off]? = some (.int k (l.getD i 0)) := fun i hi => by
    obtain ⟨c', t', fr', hb', hc⟩ := cell_row (h i hi)
    rw [hb] at hb'; cases hb'
    rw [Nat.add_comm]; exact hc
  refine ⟨c, t, fr, hb, (fun hh => by cases hh), ?_, hD, fun i a hi => ?_⟩
  · have := (Array.getElem?_eq_some_iff.1 (hat (l.length - 1) (by omega))).1
    show l.length + off ≤ c.size
    omega
  · simp only [AObj.at, Option.map_eq_some_iff] at hi
    obtain ⟨m, hm, rfl⟩ := hi
    have hil := (List.getElem?_eq_some_iff.1 hm).1
    refine ⟨_, hat i hil, ?_⟩
    show Value.int k (l.getD i 0) = Value.int k m
    rw [List.getD_eq_getElem?_getD, hm]; rfl, fun l e => by cases e⟩
theorem Below.ofStp {ρ' : Ren} {l : List AObj} {r : List (Option (Nat × (Nat × Nat)))} {w W' : World} {σ' : AH} (hl : l.length ≤ 1000000) (hr : HR (rL r) (hL l) w) (hro : ∀ o ∈ l, o.isRo = true) (h : Stp (hL l).next (rL r) (hL l) w ρ' σ' W') : Below w.heap.size w W' := by
  refine ⟨h.os, h.tape, h.output, h.size, fun c hc => ?_⟩
  by_cases hm : ∃ b d, rL r b = some (c, d)
  · obtain ⟨b, d, hm⟩ := hm
    obtain ⟨k1, k2, o, k3, k4⟩ := hr.dom b c d hm
    have k5 : l[b]? = some o := by rw [← hL_get hl]; exact k3
    exact (h.ro b c d o k1 hm hc k3 (hro o (List.mem_of_getElem? k5))).2
  · exact h.frame c hc fun b d h => hm ⟨b, d, h⟩
section
variable {P : Program} {Γ : Gam} {G nt N : Nat} {ρ : Ren} {σ : AH} {W : World} {env : T AV} {a : Act} {K : AK}
theorem calls_of_aq {f : FuncId} {fn : Func} {c : Code} {xs : List ARes} {vs : List Value} {K : AV → AH → Prop} (hf : P.funcs[f]? = some fn) (hb : fn.body = some c) (hres : compR P fn.results.toList = some xs)
    (h : c.wpIn (fen none) 0 P (AQ G fn.ntmps σ.next W.heap.size ρ σ W (fun e env σ' => (match e with | .normal => True | .ret => True | _ => False) ∧ (resL std env σ' xs).1 = true ∧ K (retV (resL std env σ' xs).2) σ')) { tmps := vs.toArray ++ Array.replicate (fn.ntmps - vs.toArray.size) undef, defers := [] } W) :
    Calls P f vs.toArray W fun e W' => ∃ v av σ' ρ', e = .returned v ∧ K av σ' ∧ HR ρ' σ' W' ∧ Stp σ.next ρ σ W ρ' σ' W' ∧ VR ρ' av v := by
  refine callsIn_wide.1 (callsIn_of_wp_marks (n := 0) hf hb trivial (wpIn_mono (F := fen none) h (fun e a W' ⟨ρ', env', σ', ⟨h1, h2, h3⟩, h4, h5, h6, h7, h8⟩ => ?_)))
  have key := leaves_marks (P := P) (R := fun e W' => ∃ v av σ' ρ', e = .returned v ∧ K av σ' ∧ HR ρ' σ' W' ∧ Stp σ.next ρ σ W ρ' σ' W' ∧ VR ρ' av v) (fn := fn) (tmps := a.tmps) (fun W2 k1 k2 => by
    obtain ⟨v, e1, e2⟩ := results_run (P := P) k1 h5 hres h2
    exact ⟨v, e1, v, _, σ', ρ', rfl, h3, k1, k2, e2⟩) a.defers W' h7 h8 h4 h6
  cases e
  case normal => exact key
  case ret => exact key
  all_goals exact h1.elim
end
def cdD : Nat → Code → Code
  | 0, .seq _ b => b
  | n + 1, .seq _ b => cdD n b
  | _, c => c
def aT : Nat → ACode → ACode
  | 0, .seq a _ => a
  | n + 1, .seq a b => .seq a (aT n b)
  | _, _ => .bad
def aD : Nat → ACode → ACode
  | 0, .seq _ b => b
  | n + 1, .seq _ b => aD n b
  | _, _ => .bad
def Good (P : Program) (G nt N B : Nat) (ρ0 : Ren) (σ0 : AH) (W0 : World) (Q : Exit → Act → World → Prop) (env : T AV) (σ : AH) (c : Code) : Prop :=
  ∀ ρ W a, HR ρ σ W → ER G nt ρ env a → Stp N ρ0 σ0 W0 ρ σ W → (Mks ρ W a.defers ∧ ∀ r, dmark r ∈ a.defers → B ≤ r) → c.wpIn (fen none) 0 P Q a W
theorem Good.wk {P : Program} {G nt N B : Nat} {ρ0 : Ren} {σ0 : AH} {W0 : World} {Q : Exit → Act → World → Prop} {env env' : T AV} {σ σ' : AH} {c : Code} (h : Wk G nt N env σ env' σ') (g : Good P G nt N B ρ0 σ0 W0 Q env' σ' c) : Good P G nt N B ρ0 σ0 W0 Q env σ c := fun ρ W a hr he hs hd => by
  obtain ⟨ρ', h1, h2, h3, h4, h5, h6⟩ := h ρ W hr
  exact g ρ' W a h1 (h2 a he) (hs.weak h3 h4 h5 h6) ⟨hd.1.weak h4, hd.2⟩
theorem RR.next_nm {r : RR} {f : T AV → AH → RR} {env : T AV} {σ : AH} (h : r.next f = .ok .normal env σ) : ∃ e1 s1, r = .ok .normal e1 s1 ∧ f e1 s1 = .ok .normal env σ := by
  cases r with
  | bad => cases h
  | ok e e1 s1 => cases e <;> first | exact ⟨e1, s1, rfl, h⟩ | cases h
section
variable {P : Program} {Γ : Gam} {pu : FuncId → Bool} {G nt N B fuel : Nat} {ρ0 : Ren} {σ0 : AH} {W0 : World} {Q : Exit → Act → World → Prop}
def isFor : ACode → Bool
  | .mfor _ _ _ _ _ => true
  | _ => false
def noFor : Nat → ACode → Bool
  | 0, .seq a _ => !isFor a
  | n + 1, .seq a b => !isFor a && noFor n b
  | _, _ => false
theorem compC_seq {c : Code} {x' y' : ACode} (h : compC P G nt pu c = some (.seq x' y')) (hx : isFor x' = false) : ∃ x y, c = .seq x y ∧ compC P G nt pu x = some x' ∧ compC P G nt pu y = some y' := by
  cases c with
  | seq x y =>
    obtain ⟨a, b, h1, h2, h3⟩ := inv_seq h
    rcases mkSeq_cases (P := P) (G := G) (nt := nt) (x := x) (y := y) (x' := a) (y' := b) with e | ⟨z, hz, e⟩ | ⟨y1, y2, y1', y2', z, _, _, hz, e⟩
    · rw [e] at h3; cases h3; exact ⟨x, y, rfl, h1, h2⟩
    · rw [e] at h3
      subst h3
      obtain ⟨_, _, _, _, _, _, _, _, _, h5⟩ := mkFor_spec hz
      rcases h5 with ⟨q, _, h5⟩ | h5 <;> cases h5
    · rw [e] at h3
      cases h3
      obtain ⟨_, _, _, _, _, _, _, _, _, h5⟩ := mkFor_spec hz
      rcases h5 with ⟨q, _, rfl⟩ | rfl <;> cases hx
  | block id c => obtain ⟨_, _, e⟩ := inv_block h; cases e
  | loop c => obtain ⟨_, _, e⟩ := inv_loop h; cases e
  | cond c a b =>
    unfold compC at h
    split at h
    · cases h
    · split at h <;> cases h
  | region id ops d =>
    cases d
    · unfold compC at h; split at h <;> cases h
    · unfold compC at h; split at h <;> cases h
  | rangeFunc f ps a b =>
    unfold compC at h
    split at h
    · cases h
    · split at h
      · cases h
      · cases hq : (ps.toList.all fun p => Nat.blt p nt) <;> rw [hq] at h <;> cases h
  | _ => cases h
theorem Good.one (st : Start [] N B ρ0 σ0 W0) (hm : P.follows .mixedOrders = true) (hΓ : GamOk P G Γ []) (hpu : PuOk Γ pu) {x y : Code} {x' : ACode} {env env1 : T AV} {σ σ1 : AH} (hx : compC P G nt pu x = some x') (hrun : run std Γ N fuel x' env σ = .ok .normal env1 σ1)
    (g : Good P G nt N B ρ0 σ0 W0 Q env1 σ1 y) : Good P G nt N B ρ0 σ0 W0 Q env σ (.seq x y) := fun ρ W a hr he hs hd =>
  wpIn_seq (wpIn_mono (avc_sound hm x x' hx ⟨hΓ, hpu, fun h => absurd rfl h⟩ st (fun e e' s' => e = .normal ∧ e' = env1 ∧ s' = σ1) env σ ρ W a (run_avc x' _ _ _ .normal env1 σ1 hrun ⟨rfl, rfl, rfl⟩) hr he hs hd) fun e a1 W1 ⟨ρ1, env2, σ2, ⟨q1, q2, q3⟩, p1, p2, p3, p4⟩ => by
    subst q1 q2 q3
    exact g ρ1 W1 a1 p1 p2 p3 p4)
theorem Good.cut (st : Start [] N B ρ0 σ0 W0) (hm : P.follows .mixedOrders = true) (hΓ : GamOk P G Γ []) (hpu : PuOk Γ pu) : ∀ (m : Nat) (c : Code) (c' : ACode) (env env1 : T AV) (σ σ1 : AH), noFor m c' = true → compC P G nt pu c = some c' → run std Γ N fuel (aT m c') env σ = .ok .normal env1 σ1 →
    (compC P G nt pu (cdD m c) = some (aD m c') → Good P G nt N B ρ0 σ0 W0 Q env1 σ1 (cdD m c)) → Good P G nt N B ρ0 σ0 W0 Q env σ c
  | 0, c, c', env, env1, σ, σ1, hn, hc, hrun, g => by
    cases c' with
    | seq x' y' =>
      obtain ⟨x, y, rfl, hx, hy⟩ := compC_seq hc (by simpa [noFor] using hn)
      exact Good.one st hm hΓ hpu hx hrun (g hy)
    | _ => cases hrun
  | m + 1, c, c', env, env1, σ, σ1, hn, hc, hrun, g => by
    cases c' with
    | seq x' y' =>
      have hn : (!isFor x' && noFor m y') = true := hn
      rw [Bool.and_eq_true] at hn
      obtain ⟨x, y, rfl, hx, hy⟩ := compC_seq hc (by simpa using hn.1)
      obtain ⟨e2, s2, h1, h2⟩ := RR.next_nm (show (run std Γ N fuel x' env σ).next (run std Γ N fuel (aT m y')) = _ from hrun)
      exact Good.one st hm hΓ hpu hx h1 (Good.cut st hm hΓ hpu m y y' e2 env1 s2 σ1 hn.2 hy h2 g)
    | _ => cases hrun
theorem Good.end (st : Start [] N B ρ0 σ0 W0) (hm : P.follows .mixedOrders = true) (hΓ : GamOk P G Γ []) (hpu : PuOk Γ pu) {c : Code} {c' : ACode} {K : AK} {env env1 : T AV} {σ σ1 : AH} (hc : compC P G nt pu c = some c') (hrun : run std Γ N fuel c' env σ = .ok .ret env1 σ1) (hK : K .ret env1 σ1) :
    Good P G nt N B ρ0 σ0 W0 (AQ G nt N B ρ0 σ0 W0 K) env σ c := fun ρ W a hr he hs hd => avc_sound hm c c' hc ⟨hΓ, hpu, fun h => absurd rfl h⟩ st K env σ ρ W a (run_avc c' _ _ _ .ret env1 σ1 hrun hK) hr he hs hd
end
def rn (old : List Nat) (b : Nat) : Nat := (old[b]?).getD 0
def okN (old : List Nat) (n : Nat) (l : List (Nat × AV)) (L : List (Nat × AObj)) : Bool :=
  Nat.ble n 1000000 && Nat.ble 6 n && keepN (rn old) (L.map (·.1)) 6 && injR (rn old) (L.map (·.1)) && (List.range n).all (L.map (·.1)).contains && (l.all fun p => below n p.2) && (L.all fun p => belowO n p.2) && (l.all fun p => Nat.blt p.1 1048576) && (L.all fun p => Nat.blt p.1 n)
end Go.Proofs.YtlgbdgpgdimpdaaGreatDoor.V2
