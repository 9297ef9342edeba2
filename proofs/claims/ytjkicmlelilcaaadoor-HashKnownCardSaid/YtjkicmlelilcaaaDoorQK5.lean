/- Part 5 of the proof: texts of the proof. -/
import Derived.Test.YtjkicmlelilcaaaDoorQK4
import Derived.Test.YtjkicmlelilcaaaDoorRows
import Derived.WalkKit
import Derived.Orders
import Derived.Laws.IdiomCopy
namespace Go.Proofs.YtjkicmlelilcaaaDoor.V2
open Go
noncomputable section
theorem HR.fill {ρ : Ren} {σ : AH} {W : World} (h : HR ρ σ W) {b : Nat} {o : AObj} {x : Obj} {s : Nat} (hn : ρ b = none) (hlt : b < σ.next) (hg : σ.get b = some o) (hO : OR ρ (0, s) o (some x)) :
    ∃ ρ', ρ' b = some (W.heap.size, (0, s)) ∧ (∀ m, m ≠ b → ρ' m = ρ m) ∧ Sub ρ ρ' ∧ HR ρ' σ { W with heap := W.heap.push x } := by
  have hsub : Sub ρ (fun m => if m = b then some (W.heap.size, (0, s)) else ρ m) := fun m y hy => by
    have hne : m ≠ b := by rintro rfl; rw [hn] at hy; cases hy
    simp only [if_neg hne]; exact hy
  refine ⟨fun m => if m = b then some (W.heap.size, (0, s)) else ρ m, if_pos rfl, fun m hm => if_neg hm, hsub, ⟨h.small, h.none_, fun m c d hc => ?_, fun m m' c d d' h1 h2 hne => ?_⟩⟩
  · by_cases hm : m = b
    · subst hm
      simp only [if_true, Option.some.injEq, Prod.mk.injEq] at hc
      obtain ⟨rfl, rfl⟩ := hc
      refine ⟨hlt, by simp, o, hg, ?_⟩
      have : (W.heap.push x)[W.heap.size]? = some x := by simp
      rw [this]
      exact hO.mono hsub
    · simp only [if_neg hm] at hc
      obtain ⟨h1, h2, o2, h3, h4⟩ := h.dom m c d hc
      refine ⟨h1, by simp; omega, o2, h3, ?_⟩
      have : (W.heap.push x)[c]? = W.heap[c]? := by rw [Array.getElem?_push, if_neg (by omega)]
      rw [this]
      exact h4.mono hsub
  · by_cases e1 : m = b
    · subst e1
      simp only [if_true, Option.some.injEq, Prod.mk.injEq] at h1
      obtain ⟨rfl, rfl⟩ := h1
      simp only [if_neg (Ne.symm hne)] at h2
      have := (h.dom _ _ _ h2).2.1
      omega
    · by_cases e2 : m' = b
      · subst e2
        simp only [if_true, Option.some.injEq, Prod.mk.injEq] at h2
        obtain ⟨rfl, rfl⟩ := h2
        simp only [if_neg e1] at h1
        have := (h.dom _ _ _ h1).2.1
        omega
      · simp only [if_neg e1, if_neg e2] at h1 h2
        exact h.inj m m' c d d' h1 h2 hne
theorem AH.get_new {σ : AH} {o : AObj} (h : σ.next < 1048576) (m : Nat) : (σ.new o).get m = if m = σ.next then some o else σ.get m := T.get_put _ _ _ _ h
theorem valD_put {vals : T AV} {i : Nat} {v : AV} (h : i < 1048576) (j : Nat) : valD (vals.put i v) j = if j = i then v else valD vals j := by
  unfold valD
  rw [T.get_put _ _ _ _ h]
  by_cases hj : j = i
  · rw [if_pos hj, if_pos hj]
  · rw [if_neg hj, if_neg hj]
section
variable (P : Program) (Γ : Gam) (pu : FuncId → Bool) (ops : Array Oper) (steps : List (Nat × CRow)) (env : T AV) (ρ0 : Ren) (σ0 : AH) (W0 : World) (a0 : Act) (rc : Nat → List Nat) (bl : Nat → Nat)
structure Pend (vals : T AV) (σ : AH) (ρ : Ren) (p : Nat × CRow) : Prop where
  val : kd pu p.2 = .P ∨ kd pu p.2 = .L → (gstep std Γ (evR env vals) σ p.2).1 = true ∧ (gstep std Γ (evR env vals) σ p.2).2.1 = valD vals p.1 ∧ (gstep std Γ (evR env vals) σ p.2).2.2 = σ
  new : kd pu p.2 = .A → ∃ σ', valD vals p.1 = valA std (evR env vals) p.2 (bl p.1) ∧ σ0.next ≤ bl p.1 ∧ bl p.1 < σ.next ∧ ρ (bl p.1) = none ∧ σ.get (bl p.1) = some (objA std (evR env vals) p.2) ∧ (gstep std Γ (evR env vals) σ' p.2).1 = true
structure DSt (listed : Array Bool) (a : Act) (W : World) (done rest : List (Nat × CRow)) (vals : T AV) (σ : AH) (ρ : Ren) (vs : Nat → Value) : Prop where
  split : steps = done ++ rest
  barS : ∀ p ∈ done, kd pu p.2 = .S → lst listed p.1 = true
  only : ∀ i, lst listed i = true → ∃ r, (i, r) ∈ done
  eval : evD std Γ env steps rc done .leaf σ0 = (true, vals, σ)
  ok : (evD std Γ env steps rc rest vals σ).1 = true
  hr : HR ρ σ W
  stp : Stp σ0.next ρ0 σ0 W0 ρ σ W
  vals_ : ∀ i, lst listed i = true → VR ρ (valD vals i) (vs i)
  act : a = actOf ops a0 vs ((List.range ops.size).filter (lst listed))
  pend : ∀ p ∈ done, lst listed p.1 = false → Pend Γ pu env σ0 bl vals σ ρ p
  apart : ∀ p ∈ done, ∀ q ∈ done, kd pu p.2 = .A → kd pu q.2 = .A → p.1 ≠ q.1 → lst listed p.1 = false → lst listed q.1 = false → bl p.1 ≠ bl q.1
end
section
variable {P : Program} {Γ : Gam} {pu : FuncId → Bool} {ops : Array Oper} {steps : List (Nat × CRow)} {env : T AV} {ρ0 : Ren} {σ0 : AH} {W0 : World} {a0 : Act}
variable {nt G : Nat} {B : List (List Nat)} {order : List Nat} {rc : Nat → List Nat}
theorem nstep_tail (x : NOp) (args : List AV) : (nstep std x args).2.2.tail = true → (nstep std x args).1 = false := by
  unfold nstep
  split
  · intro h; rw [show (AObj.of (args.flatMap AV.cells) _ .exact).tail = false from (AObj.of_spec _ _ _).2.2.2.1] at h; cases h
  · split
    · intro h; cases h
    · intro _; rfl
  · split
    · intro h
      exfalso
      simp only [newCells] at h
      split at h
      · rename_i z
        cases hz : std.eq z 0 <;> rw [hz] at h <;> cases h
      · cases h
    · intro _; rfl
  · split
    · intro h; cases h
    · intro h; cases h
    · intro _; rfl
theorem objA_tail {pu : FuncId → Bool} {ev : Ref → AV} {r : CRow} {Γ : Gam} {σ : AH} (hok : (gstep std Γ ev σ r).1 = true) (h : kd pu r = .A) : (objA std ev r).tail = false := by
  unfold kd at h
  unfold objA
  split at h
  · rename_i a ha
    split at h
    · rename_i hk
      rw [ha]
      cases a <;> simp only [kdA, reduceCtorEq] at hk
      · exact (AObj.of_spec _ _ _).2.2.2.1
      · exact (AObj.of_spec _ _ _).2.2.2.1
      · rename_i x args
        split at h
        · rename_i hg
          unfold gstep at hok
          rw [hg] at hok
          simp only [ha, cstep, step, Bool.and_eq_true] at hok
          cases ht : (nstep std x (args.map ev)).2.2.tail with
          | false => rfl
          | true => rw [nstep_tail _ _ ht] at hok; cases hok.1
        · cases h
    · rename_i hk; exact absurd h hk
  · rename_i f args hf
    split at h
    · rename_i g; cases hg : pu g <;> rw [hg] at h <;> cases h
    · cases h
theorem refs_B (hst : stepsOf P nt G ops B order = some steps) {p : Nat × CRow} (hp : p ∈ steps) {k : Nat} (hk : Ref.op k ∈ p.2.refs) : k ∈ B.getD p.1 [] := by
  obtain ⟨o, _, hrow⟩ := (stepsOf_spec hst).2 p hp
  obtain ⟨y, hy⟩ := rowOf_refs hrow _ hk
  exact rfD_op hy.symm
theorem evR_agree {vals : T AV} {i : Nat} {v : AV} (hi : i < 1048576) {r : CRow} (h : Ref.op i ∉ r.refs) : ∀ x ∈ r.refs, evR env (vals.put i v) x = evR env vals x := fun x hx => by
  cases x with
  | op k =>
    have : k ≠ i := by rintro rfl; exact h hx
    simp only [evR, valD_put hi, if_neg this]
  | slot t => rfl
  | lit v => rfl
/-- What comes behind an operation's row is apart from it. -/
theorem ord_spec (hord : chkOrd pu B rc [] steps = true) {done rest : List (Nat × CRow)} {p : Nat × CRow} (hs : steps = done ++ p :: rest) :
    (∀ k ∈ B.getD p.1 [], ∃ r, (k, r) ∈ done) ∧ (∀ q ∈ done, q.1 ≠ p.1) ∧ (∀ q ∈ done, kd pu q.2 = .S → q.1 ∈ B.getD p.1 []) ∧ (kd pu p.2 = .S → ∀ q ∈ done, kd pu q.2 = .L → q.1 ∈ B.getD p.1 [] ∨ q.1 ∈ rc p.1) := by
  have := chkOrd_spec steps [] hord done p rest hs
  simpa using this
theorem done_refs (hst : stepsOf P nt G ops B order = some steps) (hord : chkOrd pu B rc [] steps = true) {done rest : List (Nat × CRow)} {p : Nat × CRow} (hs : steps = done ++ p :: rest) {q : Nat × CRow} (hq : q ∈ done ++ [p]) : Ref.op p.1 ∉ q.2.refs := by
  intro hmem
  obtain ⟨h1, h2, _, _⟩ := ord_spec hord hs
  rcases List.mem_append.1 hq with hq | hq
  · have hqs : q ∈ steps := by rw [hs]; exact List.mem_append_left _ hq
    have hk := refs_B hst hqs hmem
    obtain ⟨l1, l2, e⟩ := List.append_of_mem hq
    have hs' : steps = l1 ++ q :: (l2 ++ p :: rest) := by rw [hs, e]; simp
    obtain ⟨r, hr⟩ := (ord_spec hord hs').1 _ hk
    exact h2 (p.1, r) (by rw [e]; exact List.mem_append_left _ hr) rfl
  · rw [List.mem_singleton] at hq
    subst hq
    have hk := refs_B hst (by rw [hs]; simp) hmem
    obtain ⟨r, hr⟩ := h1 _ hk
    exact h2 _ hr rfl
theorem id_small (hst : stepsOf P nt G ops B order = some steps) (hsm : ops.size ≤ 1000000) {p : Nat × CRow} (hp : p ∈ steps) : p.1 < ops.size ∧ p.1 < 1048576 := by
  obtain ⟨o, ho, _⟩ := (stepsOf_spec hst).2 p hp
  have := (Array.getElem?_eq_some_iff.1 ho).1
  exact ⟨this, by omega⟩
theorem lit_evR (vals : T AV) (v : AV) : evR env vals (.lit v) = v := rfl
theorem seg (hpu : PuOk Γ pu) (hst : stepsOf P nt G ops B order = some steps) (hord : chkOrd pu B rc [] steps = true) (hsm : ops.size ≤ 1000000) {listed : Array Bool} {a : Act} {W : World} {ρ : Ren} {vs : Nat → Value} :
    ∀ (rest done : List (Nat × CRow)) (vals : T AV) (σ : AH) (bl : Nat → Nat), DSt Γ pu ops steps env ρ0 σ0 W0 a0 rc bl listed a W done rest vals σ ρ vs →
    ∃ done' rest' vals' σ' bl', DSt Γ pu ops steps env ρ0 σ0 W0 a0 rc bl' listed a W done' rest' vals' σ' ρ vs ∧ ∀ p, rest'.head? = some p → kd pu p.2 = .S := by
  intro rest
  induction rest with
  | nil => intro done vals σ bl h; exact ⟨done, [], vals, σ, bl, h, fun p hp => by cases hp⟩
  | cons p rest ih =>
    intro done vals σ bl h
    by_cases hS : kd pu p.2 = .S
    · exact ⟨done, p :: rest, vals, σ, bl, h, fun q hq => by simp at hq; rw [← hq]; exact hS⟩
    obtain ⟨hB, hdis, hbar, _⟩ := ord_spec hord h.split
    have hps : p ∈ steps := by rw [h.split]; simp
    have hi := (id_small hst hsm hps).2
    have hun : lst listed p.1 = false := by
      cases hl : lst listed p.1 with
      | false => rfl
      | true => obtain ⟨r, hr⟩ := h.only _ hl; exact absurd rfl (hdis (p.1, r) hr)
    have hok := h.ok
    rw [evD_cons] at hok
    generalize hg : gstep std Γ (evR env vals) σ p.2 = g at hok
    obtain ⟨ok, v, σ1⟩ := g
    simp only at hok
    generalize hrk : rechk std Γ env steps (vals.put p.1 v) σ1 (rc p.1) = rk at hok
    generalize hrest : evD std Γ env steps rc rest (vals.put p.1 v) σ1 = rr at hok
    obtain ⟨ok', x⟩ := rr
    simp only [Bool.and_eq_true] at hok
    obtain ⟨⟨rfl, rfl⟩, rfl⟩ := hok
    have hgok : (gstep std Γ (evR env vals) σ p.2).1 = true := by rw [hg]
    have hs0 := h.stp.next
    have hsmall := h.hr.small
    -- the memory behind
    have hmem : (σ1 = σ ∨ (kd pu p.2 = .A ∧ σ1 = σ.new (objA std (evR env vals) p.2) ∧ v = valA std (evR env vals) p.2 σ.next ∧ σ.next < 1000000)) ∧ (kd pu p.2 ≠ .A → σ1 = σ) := by
      cases hk : kd pu p.2 with
      | S => exact absurd hk hS
      | P =>
        have := kd_P (A := std) hpu (fun v => lit_evR (env := env) vals v) hk σ σ
        rw [hg] at this
        simp only [Prod.mk.injEq] at this
        exact ⟨.inl this.2.2, fun _ => this.2.2⟩
      | L =>
        have := (kd_L (Γ := Γ) hk (σ := σ) (σ' := σ) (fun _ _ h => h) hgok).2
        rw [hg] at this
        exact ⟨.inl this, fun _ => this⟩
      | A =>
        obtain ⟨h1, h2⟩ := kd_A (Γ := Γ) (A := std) hk σ hgok
        rw [hg] at h1
        simp only [Prod.mk.injEq] at h1
        rw [Nat.blt_eq] at h2
        exact ⟨.inr ⟨rfl, h1.2.2, h1.2.1, h2⟩, fun h => absurd rfl h⟩
    have hnx : σ.next ≤ σ1.next := by
      rcases hmem.1 with rfl | ⟨_, rfl, _⟩
      · exact Nat.le_refl _
      · exact Nat.le_succ _
    have hget : ∀ b, b < σ.next → σ1.get b = σ.get b := fun b hb => by
      rcases hmem.1 with rfl | ⟨_, rfl, _⟩
      · rfl
      · rw [AH.get_new (by omega), if_neg (by omega)]
    have hget' : ∀ b o, σ.get b = some o → σ1.get b = some o := fun b o hb => by
      rw [hget b (Nat.lt_of_not_le fun hle => by rw [h.hr.none_ b hle] at hb; cases hb)]; exact hb
    have hr1 : HR ρ σ1 W := h.hr.more (by
        rcases hmem.1 with rfl | ⟨_, rfl, _, hlt⟩
        · exact hsmall
        · show σ.next + 1 ≤ _; omega) (fun b hb => by
        rcases hmem.1 with rfl | ⟨_, rfl, _⟩
        · exact h.hr.none_ b hb
        · have hb : σ.next + 1 ≤ b := hb
          rw [AH.get_new (by omega), if_neg (by omega)]; exact h.hr.none_ b (by omega)) hnx hget
    have hagree : ∀ q ∈ done ++ [p], ∀ x ∈ q.2.refs, evR env (vals.put p.1 v) x = evR env vals x := fun q hq => evR_agree hi (done_refs hst hord h.split hq)
    have hval : ∀ j, j ≠ p.1 → valD (vals.put p.1 v) j = valD vals j := fun j hj => by rw [valD_put hi, if_neg hj]
    refine ih (done ++ [p]) (vals.put p.1 v) σ1 (fun j => if j = p.1 then σ.next else bl j) ⟨by rw [h.split]; simp, fun q hq hk => ?_, fun j hj => ?_, ?_, by rw [hrest], hr1, ?_, fun j hj => ?_, h.act, fun q hq hl => ?_, fun q hq q' hq' hk hk' hne hl hl' => ?_⟩
    · rcases List.mem_append.1 hq with hq | hq
      · exact h.barS q hq hk
      · rw [List.mem_singleton] at hq; subst hq; exact absurd hk hS
    · obtain ⟨r, hr⟩ := h.only j hj; exact ⟨r, List.mem_append_left _ hr⟩
    · rw [evD_append _ _ _ _ _ _ h.eval, evD_cons, hg]; simp only [hrk]; rfl
    · exact ⟨h.stp.ext, h.stp.img, Nat.le_trans hs0 hnx, fun b ob hb hn ho ht => (hget b (by omega)).trans (h.stp.keep b ob hb hn ho ht), h.stp.frame, h.stp.tape, h.stp.os, h.stp.output, h.stp.size, fun b c d ob hb hρ hc ho hr => let ⟨e1, e2⟩ := h.stp.ro b c d ob hb hρ hc ho hr; ⟨(hget b (by omega)).trans e1, e2⟩⟩
    · have hne : j ≠ p.1 := by rintro rfl; rw [hun] at hj; cases hj
      rw [hval j hne]; exact h.vals_ j hj
    · have hag := hagree q hq
      rcases List.mem_append.1 hq with hqd | hqp
      · have hne : q.1 ≠ p.1 := hdis q hqd
        have hp0 := h.pend q hqd hl
        refine ⟨fun hk => ?_, fun hk => ?_⟩
        · obtain ⟨e1, e2, e3⟩ := hp0.val hk
          rw [gstep_congr hag, hval _ hne]
          rcases hk with hk | hk
          · rw [kd_P (A := std) hpu (fun v => lit_evR (env := env) vals v) hk σ1 σ]; exact ⟨e1, e2, rfl⟩
          · rw [(kd_L (Γ := Γ) hk hget' e1).1]; exact ⟨rfl, e2, rfl⟩
        · obtain ⟨σ', e1, e2, e3, e4, e5, e6⟩ := hp0.new hk
          rw [hval _ hne, objA_congr hag, valA_congr hag, if_neg hne]
          exact ⟨σ', e1, e2, by omega, e4, by rw [hget _ e3]; exact e5, by rw [gstep_congr hag]; exact e6⟩
      · rw [List.mem_singleton] at hqp
        subst hqp
        refine ⟨fun hk => ?_, fun hk => ?_⟩
        · have e := hmem.2 (by rcases hk with hk | hk <;> rw [hk] <;> simp)
          subst e
          rw [gstep_congr hag, hg, valD_put hi, if_pos rfl]
          exact ⟨rfl, rfl, rfl⟩
        · rcases hmem.1 with e | ⟨_, e, ev, hlt⟩
          · exfalso
            obtain ⟨h1, _⟩ := kd_A (Γ := Γ) (A := std) hk σ hgok
            rw [hg] at h1
            simp only [Prod.mk.injEq] at h1
            have : σ1.next = σ.next + 1 := by rw [h1.2.2]; rfl
            rw [e] at this; omega
          · subst e; subst ev
            rw [valD_put hi, if_pos rfl, objA_congr hag, valA_congr hag, if_pos rfl]
            refine ⟨σ, rfl, hs0, Nat.lt_succ_self _, ?_, by rw [AH.get_new (by omega), if_pos rfl], by rw [gstep_congr hag]; exact hgok⟩
            cases hc : ρ σ.next with
            | none => rfl
            | some c => have := (h.hr.dom _ c.1 c.2 hc).1; omega
    · have hcase : ∀ q ∈ done ++ [p], kd pu q.2 = .A → lst listed q.1 = false → (q ∈ done ∧ (if q.1 = p.1 then σ.next else bl q.1) = bl q.1 ∧ bl q.1 < σ.next) ∨ (q = p ∧ (if q.1 = p.1 then σ.next else bl q.1) = σ.next) := fun q hq hk hl => by
        rcases List.mem_append.1 hq with hqd | hqp
        · obtain ⟨_, _, _, e3, _⟩ := (h.pend q hqd hl).new hk
          exact .inl ⟨hqd, if_neg (hdis q hqd), e3⟩
        · rw [List.mem_singleton] at hqp
          subst hqp
          exact .inr ⟨rfl, if_pos rfl⟩
      rcases hcase q hq hk hl with ⟨hqd, e1, e2⟩ | ⟨rfl, e1⟩ <;> rcases hcase q' hq' hk' hl' with ⟨hqd', e1', e2'⟩ | ⟨rfl, e1'⟩
      · rw [e1, e1']; exact h.apart q hqd q' hqd' hk hk' hne hl hl'
      · rw [e1, e1']; omega
      · rw [e1, e1']; omega
      · exact absurd rfl hne
end
end
end Go.Proofs.YtjkicmlelilcaaaDoor.V2
namespace Go.Proofs.YtjkicmlelilcaaaDoor.V2
open Go
noncomputable section
/-- The frame behind a region: each operation's value in its slot. -/
def putAll (vals : T AV) : List (Option Nat) → Nat → T AV → T AV
  | [], _, env => env
  | d :: l, i, env => putAll vals l (i + 1) (putD env d (valD vals i))
section
variable {P : Program} {Γ : Gam} {pu : FuncId → Bool} {ops : Array Oper} {steps : List (Nat × CRow)} {env : T AV} {ρ0 : Ren} {σ0 : AH} {W0 : World} {a0 : Act}
variable {nt G : Nat} {B : List (List Nat)} {order : List Nat} {rc : Nat → List Nat}
theorem putAll_er {ρ : Ren} {vals : T AV} {vs : Nat → Value} (hd : ∀ k d, dstAt ops k = some d → d < nt) (hv : ∀ k, k < ops.size → VR ρ (valD vals k) (vs k)) : ∀ (n i : Nat) (env : T AV) (a : Act), i + n = ops.size → ER G nt ρ env a →
    ER G nt ρ (putAll vals ((List.range' i n).map (dstAt ops)) i env) (actOf ops a vs (List.range' i n))
  | 0, i, env, a, _, h => h
  | n + 1, i, env, a, he, h => by
    rw [List.range'_succ, List.map_cons]
    exact putAll_er hd hv n (i + 1) _ _ (by omega) (h.put (hd i) (hv i (by omega)))
structure DInv (Γ : Gam) (pu : FuncId → Bool) (ops : Array Oper) (steps : List (Nat × CRow)) (B : List (List Nat)) (env : T AV) (ρ0 : Ren) (σ0 : AH) (W0 : World) (a0 : Act) (rc : Nat → List Nat) (listed : Array Bool) (a : Act) (W : World) : Prop where
  size : listed.size = ops.size
  closed : ∀ i, lst listed i = true → ∀ k ∈ B.getD i [], lst listed k = true
  ex : ∃ done rest vals σ ρ vs bl, DSt Γ pu ops steps env ρ0 σ0 W0 a0 rc bl listed a W done rest vals σ ρ vs ∧ ∀ p, rest.head? = some p → kd pu p.2 = .S
theorem drawn_any (hΓ : GamOk P G Γ) (hpu : PuOk Γ pu) (hst : stepsOf P nt G ops B order = some steps) (hord : chkOrd pu B rc [] steps = true) (hall : (List.range ops.size).all (hasId steps) = true) (hsm : ops.size ≤ 1000000)
    (hchk : chkRegion ops B [] = true) (hr0 : HR ρ0 σ0 W0) (he0 : ER G nt ρ0 env a0) (hok : (evD std Γ env steps rc steps .leaf σ0).1 = true) {Q : Exit → Act → World → Prop}
    (hQ : ∀ ρ' a' W', HR ρ' (evD std Γ env steps rc steps .leaf σ0).2.2 W' → ER G nt ρ' (putAll (evD std Γ env steps rc steps .leaf σ0).2.1 (ops.toList.map (·.dst)) 0 env) a' → Stp σ0.next ρ0 σ0 W0 ρ' (evD std Γ env steps rc steps .leaf σ0).2.2 W' → a'.defers = a0.defers → Q .normal a' W') :
    wpAny P .any ops Q ops.size (Array.replicate ops.size false) a0 W0 := by
  have hchk0 := hchk
  simp only [chkRegion, Bool.and_eq_true] at hchk
  obtain ⟨⟨⟨⟨⟨_, cE⟩, cB⟩, cS⟩, cT⟩, cN⟩ := hchk
  have hE : ∀ i k, k ∈ B.getD i [] → i < ops.size → k < i ∧ ∃ o, ops[i]? = some o ∧ ∃ e ∈ o.after, Region.binds .any e = true ∧ (k = e.on ∨ k ∈ B.getD e.on []) := by
    intro i k hk hi
    have := List.all_eq_true.1 (List.all_eq_true.1 cE i (List.mem_range.2 hi)) k hk
    cases ho : ops[i]? with
    | none => rw [ho] at this; simp at this
    | some o =>
      rw [ho] at this
      simp only [Bool.and_eq_true, decide_eq_true_eq] at this
      obtain ⟨e, he, hb⟩ : ∃ e ∈ o.after, (Region.binds .any e && (k == e.on || (B.getD e.on []).contains k)) = true := by
        obtain ⟨j, hj, hb⟩ := Array.any_eq_true.1 this.2
        exact ⟨_, Array.getElem_mem hj, hb⟩
      simp only [Bool.and_eq_true, Bool.or_eq_true, beq_iff_eq, List.contains_iff_mem] at hb
      exact ⟨this.1, o, rfl, e, he, hb.1, hb.2⟩
  have hS : ∀ i k o, ops[i]? = some o → k < ops.size → k ≠ i → k ∉ B.getD i [] → i ∉ B.getD k [] → ∀ t, dstAt ops k = some t → t ∉ o.looksAt ops ∧ o.dst ≠ some t := by
    intro i k o ho hk hne h1 h2 t ht
    have hi : i < ops.size := (Array.getElem?_eq_some_iff.1 ho).1
    have := List.all_eq_true.1 cS i (List.mem_range.2 hi)
    rw [ho] at this
    have := List.all_eq_true.1 this k (List.mem_range.2 hk)
    rw [ht] at this
    simp only [Bool.or_eq_true, beq_iff_eq, List.contains_iff_mem, Bool.and_eq_true, Bool.not_eq_true', beq_eq_false_iff_ne] at this
    rcases this with ((h | h) | h) | h
    · exact absurd h hne
    · exact absurd h h1
    · exact absurd h h2
    · exact ⟨fun hm => by have := List.contains_iff_mem.2 hm; rw [this] at h; simp at h, h.2⟩
  have hdl : ∀ k d, dstAt ops k = some d → d < nt := by
    intro k d hk
    unfold dstAt at hk
    cases ho : ops[k]? with
    | none => rw [ho] at hk; cases hk
    | some o =>
      rw [ho] at hk
      have hks : k < ops.size := (Array.getElem?_eq_some_iff.1 ho).1
      obtain ⟨r, hr⟩ := hasId_iff.1 (List.all_eq_true.1 hall k (List.mem_range.2 hks))
      obtain ⟨o', ho', hrow⟩ := (stepsOf_spec hst).2 _ hr
      rw [ho] at ho'; cases ho'
      exact (rowOf_spec hrow).2.2.2 d hk
  refine wpAny_of_inv (DInv Γ pu ops steps B env ρ0 σ0 W0 a0 rc) ?_ ?_ ops.size _ a0 _ (by simp) (by simp) ?_
  · -- one operation more
    intro listed a W hJ i hi
    obtain ⟨hun, o, ho, hready⟩ := mem_ready.1 hi
    have hilt : i < ops.size := (Array.getElem?_eq_some_iff.1 ho).1
    have hils : i < listed.size := by rw [hJ.size]; exact hilt
    have hnl : lst listed i = false := by
      have : listed[i] = false := by simpa [hils] using hun
      simp [lst, hils, this]
    have hBi : ∀ k ∈ B.getD i [], lst listed k = true := by
      intro k hk
      obtain ⟨_, o', ho', e, he, hb, hor⟩ := hE i k hk hilt
      rw [ho] at ho'; cases ho'
      have hon := hready e he hb
      rcases hor with rfl | hk2
      · exact hon
      · exact hJ.closed _ hon k hk2
    obtain ⟨done, rest, vals, σ, ρ, vs, bl, hD, hhead⟩ := hJ.ex
    have hiB : ∀ k, lst listed k = true → i ∉ B.getD k [] := fun k hk hik => by
      have := hJ.closed k hk i hik; rw [hnl] at this; cases this
    have hsort : B.getD i [] = (List.range ops.size).filter fun k => (B.getD i []).contains k := by
      have := List.all_eq_true.1 cT i (List.mem_range.2 hilt)
      exact beq_iff_eq.1 this
    have hsame : ∀ t ∈ o.looksAt ops, a.tmps[t]? = (actOf ops a0 vs (B.getD i [])).tmps[t]? := by
      intro t ht
      rw [hD.act, hsort]
      refine actOf_at ops vs t _ _ _ (fun k hk hd => ?_) a0 a0 rfl rfl
      have hklt := List.mem_range.1 hk
      by_cases hkB : k ∈ B.getD i []
      · rw [hBi k hkB, List.contains_iff_mem.2 hkB]
      · rw [show (B.getD i []).contains k = false from by rw [Bool.eq_false_iff]; exact fun h => hkB (List.contains_iff_mem.1 h)]
        rw [Bool.eq_false_iff]
        intro hkl
        have hki : k ≠ i := fun e => by rw [e, hnl] at hkl; cases hkl
        exact (hS i k o ho hklt hki hkB (hiB k hkl) t hd).1 ht
    have he0' : ER G nt ρ env a0 := he0.sub (hD.stp.sub hr0)
    have hev : ∀ x, VR ρ (evR env vals (rfD G ops (B.getD i []) o x)) (a.eval x) := by
      intro x
      cases x with
      | const v => exact vr_ofVal ρ v
      | global g => exact he0'.ev (.global g)
      | func f => exact he0'.ev (.func f)
      | tmp t =>
        simp only [rfD]
        cases hc : (o.looksAt ops).contains t
        · trivial
        · simp only [cond_true, Act.eval]
          have hs := hsame t (List.contains_iff_mem.1 hc)
          rw [Array.getD_eq_getD_getElem?, hs]
          cases hl : lastW ops t (B.getD i []) with
          | some k =>
            simp only [evR]
            have hkB := lastW_mem hl
            have hdk : dstAt ops k = some t := by
              have : ∀ {l : List Nat} {k : Nat}, lastW ops t l = some k → dstAt ops k = some t := by
                intro l
                induction l with
                | nil => intro k h; cases h
                | cons j l ih =>
                  intro k h
                  rw [lastW_cons] at h
                  split at h
                  · rename_i i hi; cases h; exact ih hi
                  · cases hd : dstAt ops j == some t <;> rw [hd] at h <;> cases h
                    exact beq_iff_eq.1 hd
              exact this hl
            rw [actOf_last _ _ (by rw [he0.size]; exact hdl k t hdk), hl]
            exact hD.vals_ k (hBi k hkB)
          | none =>
            simp only [evR]
            have hkeep : (actOf ops a0 vs (B.getD i [])).tmps[t]? = a0.tmps[t]? := by
              by_cases hts : t < a0.tmps.size
              · rw [actOf_last _ _ hts, hl]
              · have h1 : (actOf ops a0 vs (B.getD i [])).tmps.size ≤ t := by rw [actOf_size]; exact Nat.le_of_not_lt hts
                rw [Array.getElem?_eq_none h1, Array.getElem?_eq_none (Nat.le_of_not_lt hts)]
            rw [hkeep, ← Array.getD_eq_getD_getElem?]
            cases ht : env.get t with
            | none => trivial
            | some v => exact he0'.at_ t v ht
    have hdst : dstAt ops i = o.dst := by simp [dstAt, ho]
    have hact : ∀ v, a.put o.dst v = actOf ops a0 (upd vs i v) ((List.range ops.size).filter (lst (listed.setIfInBounds i true))) := fun v => by
      rw [actOf_insert ops a0 vs ops.size i _ (lst listed) _ hilt hnl (lst_set hils), ← hD.act, hdst]
      intro k hik hkn hkl t ht hkt
      rw [hdst] at ht
      refine (hS i k o ho hkn (by omega) (fun hkB => ?_) (hiB k hkl) t hkt).2 ht
      have := (hE i k hkB hilt).1
      omega
    have hsz' : (listed.setIfInBounds i true).size = ops.size := by simpa using hJ.size
    have hcl' : ∀ j, lst (listed.setIfInBounds i true) j = true → ∀ k ∈ B.getD j [], lst (listed.setIfInBounds i true) k = true := by
      intro j hj k hk
      rw [lst_set hils] at hj ⊢
      rcases Bool.or_eq_true_iff.1 hj with h | h
      · rw [hJ.closed j h k hk]; rfl
      · rw [beq_iff_eq.1 h] at hk; rw [hBi k hk]; rfl
    have hlf : ∀ j, lst (listed.setIfInBounds i true) j = false → j ≠ i ∧ lst listed j = false := fun j hj => by
      rw [lst_set hils, Bool.or_eq_false_iff] at hj
      exact ⟨by have := hj.2; rwa [beq_eq_false_iff_ne] at this, hj.1⟩
    have hlt' : ∀ j, lst (listed.setIfInBounds i true) j = true → j = i ∨ lst listed j = true := fun j hj => by
      rw [lst_set hils] at hj
      rcases Bool.or_eq_true_iff.1 hj with h | h
      · exact .inr h
      · exact .inl (beq_iff_eq.1 h)
    obtain ⟨r, hrs⟩ := hasId_iff.1 (List.all_eq_true.1 hall i (List.mem_range.2 hilt))
    obtain ⟨o', ho', hrow⟩ := (stepsOf_spec hst).2 _ hrs
    simp only at ho' hrow
    rw [ho] at ho'; cases ho'
    unfold wpOp
    simp only [ho]
    have hs0 := hD.stp.next
    rw [hD.split] at hrs
    rcases List.mem_append.1 hrs with hdn | hre
    · -- one that waits
      have hpend := hD.pend _ hdn hnl
      have hvals : ∀ {ρ' : Ren} {v : Value}, Sub ρ ρ' → VR ρ' (valD vals i) v → ∀ j, lst (listed.setIfInBounds i true) j = true → VR ρ' (valD vals j) (upd vs i v j) := by
        intro ρ' v hsub hv j hj
        by_cases hji : j = i
        · subst hji; rw [upd_self]; exact hv
        · rw [upd_ne _ _ hji]; exact (hD.vals_ j ((hlt' j hj).resolve_left hji)).mono hsub
      have hnext : ∀ {ρ' : Ren} {W' : World} {v : Value}, HR ρ' σ W' → Stp σ0.next ρ0 σ0 W0 ρ' σ W' → Sub ρ ρ' → VR ρ' (valD vals i) v → (∀ p ∈ done, kd pu p.2 = .A → p.1 ≠ i → lst listed p.1 = false → ρ (bl p.1) = none → ρ' (bl p.1) = none) →
          DInv Γ pu ops steps B env ρ0 σ0 W0 a0 rc (listed.setIfInBounds i true) (a.put o.dst v) W' := by
        intro ρ' W' v h1 h2 h3 h4 h5
        refine ⟨hsz', hcl', done, rest, vals, σ, ρ', upd vs i v, bl, ⟨hD.split, fun p hp hk => by rw [lst_set hils, hD.barS p hp hk]; rfl, fun j hj => ?_, hD.eval, hD.ok, h1, h2, hvals h3 h4, hact v, fun p hp hl => ?_, fun p hp q hq hk hk' hne hl hl' => hD.apart p hp q hq hk hk' hne (hlf _ hl).2 (hlf _ hl').2⟩, hhead⟩
        · rcases hlt' j hj with rfl | h
          · exact ⟨r, hdn⟩
          · exact hD.only j h
        · obtain ⟨hne, hl⟩ := hlf _ hl
          have hp0 := hD.pend p hp hl
          refine ⟨hp0.val, fun hk => ?_⟩
          obtain ⟨σ', e1, e2, e3, e4, e5, e6⟩ := hp0.new hk
          exact ⟨σ', e1, e2, e3, h5 p hp hk hne hl e4, e5, e6⟩
      cases hk : kd pu r with
      | S => have := hD.barS _ hdn hk; rw [hnl] at this; cases this
      | A =>
        obtain ⟨σ', e1, e2, e3, e4, e5, e6⟩ := hpend.new hk
        simp only at e1 e2 e3 e4 e5
        obtain ⟨hw, v, x, n, s, hrun, hO, hval⟩ := A_run hrow hk hev e6 W
        rw [if_pos hw]
        refine .inl ?_
        unfold Oper.wp
        rw [hrun, Oper.upon_value]
        obtain ⟨ρ', f1, f2, f3, f4⟩ := (hD.hr.drew n).fill e4 e3 e5 hO
        refine hnext f4 ⟨fun m hm => (f2 m (by omega)).trans (hD.stp.ext m hm), fun m c d hc => ?_, hs0, fun m ob hm hn => hD.stp.keep m ob hm hn, fun c hc hn => ?_, hD.stp.tape, hD.stp.os, hD.stp.output, by have := hD.stp.size; simp; omega, fun m c d ob hm hρ hc ho hr => let ⟨q1, q2⟩ := hD.stp.ro m c d ob hm hρ hc ho hr; ⟨q1, by
          have hcW : c < W.heap.size := Nat.lt_of_lt_of_le hc hD.stp.size
          rw [← q2]
          show (W.heap.push x)[c]? = _
          rw [Array.getElem?_push, if_neg (by omega)]⟩⟩ f3 ?_ (fun p hp hkp hne hl hn => ?_)
        · by_cases hmb : m = bl i
          · subst hmb; rw [f1] at hc; cases hc; exact .inr hD.stp.size
          · rw [f2 m hmb] at hc; exact hD.stp.img m c d hc
        · have hcW : c < W.heap.size := Nat.lt_of_lt_of_le hc hD.stp.size
          have := hD.stp.frame c hc hn
          rw [← this]
          show (W.heap.push x)[c]? = _
          rw [Array.getElem?_push, if_neg (by omega)]
        · rw [e1]
          exact hval ρ' _ f1
        · rw [f2 _ (hD.apart p hp (i, r) hdn hkp hk hne hl hnl)]
          exact hn
      | P =>
        obtain ⟨e1, e2, e3⟩ := hpend.val (.inl hk)
        refine row_sound hΓ he0'.glob hrow hev hD.hr e1 fun v W' ρ' h1 h2 h3 => ?_
        simp only at e2 e3
        rw [e3] at h1 h2
        rw [e2] at h3
        exact hnext h1 (hD.stp.trans h2 hs0) (h2.sub hD.hr) h3 fun p hp hkp _ hl hn => by
          obtain ⟨_, _, _, f3, _⟩ := (hD.pend p hp hl).new hkp
          rw [h2.ext _ f3]; exact hn
      | L =>
        obtain ⟨e1, e2, e3⟩ := hpend.val (.inr hk)
        refine row_sound hΓ he0'.glob hrow hev hD.hr e1 fun v W' ρ' h1 h2 h3 => ?_
        simp only at e2 e3
        rw [e3] at h1 h2
        rw [e2] at h3
        exact hnext h1 (hD.stp.trans h2 hs0) (h2.sub hD.hr) h3 fun p hp hkp _ hl hn => by
          obtain ⟨_, _, _, f3, _⟩ := (hD.pend p hp hl).new hkp
          rw [h2.ext _ f3]; exact hn
    · -- the bar
      have hisHead : ∃ rest', rest = (i, r) :: rest' := by
        cases hrr : rest with
        | nil => rw [hrr] at hre; cases hre
        | cons s rest' =>
          rw [hrr] at hre
          rcases List.mem_cons.1 hre with h | h
          · exact ⟨rest', by rw [h]⟩
          · exfalso
            obtain ⟨l1, l2, e⟩ := List.append_of_mem h
            have hsS := hhead s (by rw [hrr]; rfl)
            have hs' : steps = (done ++ s :: l1) ++ (i, r) :: l2 := by rw [hD.split, hrr, e]; simp
            have hsB := (ord_spec hord hs').2.2.1 s (by simp) hsS
            have hsl := hBi _ hsB
            obtain ⟨r', hr'⟩ := hD.only _ hsl
            have hs2 : steps = done ++ s :: rest' := by rw [hD.split, hrr]
            exact (ord_spec hord hs2).2.1 _ hr' rfl
      obtain ⟨rest', rfl⟩ := hisHead
      have hkS : kd pu r = .S := hhead _ rfl
      obtain ⟨hB, hdis, hbar, hLs⟩ := ord_spec hord hD.split
      have hps : (i, r) ∈ steps := by rw [hD.split]; simp
      have hi20 := (id_small hst hsm hps).2
      simp only at hi20 hB hdis hbar hLs
      have hok' := hD.ok
      rw [evD_cons] at hok'
      generalize hg : gstep std Γ (evR env vals) σ r = g at hok'
      obtain ⟨ok, v0, σ1⟩ := g
      simp only at hok'
      generalize hrk : rechk std Γ env steps (vals.put i v0) σ1 (rc i) = rk at hok'
      generalize hrest : evD std Γ env steps rc rest' (vals.put i v0) σ1 = rr at hok'
      obtain ⟨okr, xr⟩ := rr
      simp only [Bool.and_eq_true] at hok'
      obtain ⟨⟨rfl, rfl⟩, rfl⟩ := hok'
      have hgok : (gstep std Γ (evR env vals) σ r).1 = true := by rw [hg]
      refine row_sound hΓ he0'.glob hrow hev hD.hr hgok fun v W' ρ' h1 h2 h3 => ?_
      rw [hg] at h1 h2 h3
      simp only at h1 h2 h3
      have hsub := h2.sub hD.hr
      have hvalj : ∀ j, j ≠ i → valD (vals.put i v0) j = valD vals j := fun j hj => by rw [valD_put hi20, if_neg hj]
      have hagree : ∀ q ∈ done, ∀ x ∈ q.2.refs, evR env (vals.put i v0) x = evR env vals x := fun q hq => evR_agree hi20 (done_refs hst hord hD.split (List.mem_append_left _ hq))
      have hnew : DSt Γ pu ops steps env ρ0 σ0 W0 a0 rc bl (listed.setIfInBounds i true) (a.put o.dst v) W' (done ++ [(i, r)]) rest' (vals.put i v0) σ1 ρ' (upd vs i v) := by
        refine ⟨by rw [hD.split]; simp, fun p hp hk => ?_, fun j hj => ?_, ?_, by rw [hrest], h1, hD.stp.trans h2 hs0, fun j hj => ?_, hact v, fun q hq hl => ?_, fun p hp q hq hk hk' hne hl hl' => ?_⟩
        · rw [lst_set hils]
          rcases List.mem_append.1 hp with hp | hp
          · rw [hD.barS p hp hk]; rfl
          · rw [List.mem_singleton] at hp; subst hp; simp
        · rcases hlt' j hj with rfl | h
          · exact ⟨r, by simp⟩
          · obtain ⟨r', hr'⟩ := hD.only j h; exact ⟨r', List.mem_append_left _ hr'⟩
        · rw [evD_append _ _ _ _ _ _ hD.eval, evD_cons, hg]; simp only [hrk]; rfl
        · by_cases hji : j = i
          · subst hji; rw [upd_self, valD_put hi20, if_pos rfl]; exact h3
          · rw [upd_ne _ _ hji, hvalj j hji]; exact (hD.vals_ j ((hlt' j hj).resolve_left hji)).mono hsub
        · obtain ⟨hne, hl⟩ := hlf _ hl
          have hqd : q ∈ done := by
            rcases List.mem_append.1 hq with h | h
            · exact h
            · rw [List.mem_singleton] at h; subst h; exact absurd rfl hne
          have hp0 := hD.pend q hqd hl
          refine ⟨fun hk => ?_, fun hk => ?_⟩
          · rcases hk with hk | hk
            · obtain ⟨e1, e2, _⟩ := hp0.val (.inl hk)
              rw [gstep_congr (hagree q hqd), kd_P (A := std) hpu (fun v => lit_evR (env := env) vals v) hk σ1 σ, hvalj _ hne]
              exact ⟨e1, e2, rfl⟩
            · rcases hLs hkS q hqd hk with hin | hin
              · exfalso
                have := hBi _ hin
                rw [hl] at this; cases this
              · obtain ⟨q', hq', e1, e2, e3⟩ := rechk_mem hrk q.1 hin
                have hqs : q ∈ steps := by rw [hD.split]; exact List.mem_append_left _ hqd
                obtain ⟨oq, hoq, hrq⟩ := (stepsOf_spec hst).2 q hqs
                obtain ⟨oq', hoq', hrq'⟩ := (stepsOf_spec hst).2 q' hq'
                rw [e1, hoq] at hoq'
                cases hoq'
                rw [e1, hrq] at hrq'
                simp only [Option.some.injEq] at hrq'
                rw [← hrq'] at e2 e3
                exact ⟨e2, e3, (kd_L (Γ := Γ) hk (σ := σ1) (σ' := σ1) (fun _ _ h => h) e2).2⟩
          · obtain ⟨σ', e1, e2, e3, e4, e5, e6⟩ := hp0.new hk
            rw [hvalj _ hne, objA_congr (hagree q hqd), valA_congr (hagree q hqd)]
            refine ⟨σ', e1, e2, Nat.lt_of_lt_of_le e3 h2.next, by rw [h2.ext _ e3]; exact e4, h2.keep _ _ e3 e4 e5 (objA_tail e6 hk), by rw [gstep_congr (hagree q hqd)]; exact e6⟩
        · obtain ⟨hn1, hl⟩ := hlf _ hl
          obtain ⟨hn2, hl'⟩ := hlf _ hl'
          have hd : ∀ q ∈ done ++ [(i, r)], q.1 ≠ i → q ∈ done := fun q hq hne => by
            rcases List.mem_append.1 hq with h | h
            · exact h
            · rw [List.mem_singleton] at h; subst h; exact absurd rfl hne
          exact hD.apart p (hd p hp hn1) q (hd q hq hn2) hk hk' hne hl hl'
      obtain ⟨d', r', v', s', bl', k1, k2⟩ := seg hpu hst hord hsm rest' _ _ _ _ hnew
      exact ⟨hsz', hcl', d', r', v', s', ρ', _, bl', k1, k2⟩
  · -- the end
    intro listed a W hJ hr
    have hallL : ∀ n, n ≤ ops.size → ∀ k, k < n → lst listed k = true := by
      intro n
      induction n with
      | zero => intro _ k hk; omega
      | succ n ih =>
        intro hn k hk
        have ih := ih (by omega)
        by_cases hkn : k < n
        · exact ih k hkn
        · obtain rfl : k = n := by omega
          cases hl : lst listed k with
          | true => rfl
          | false =>
            have hks : k < listed.size := by rw [hJ.size]; omega
            obtain ⟨o, ho⟩ : ∃ o, ops[k]? = some o := ⟨_, Array.getElem?_eq_getElem (by omega)⟩
            have : k ∈ Region.ready .any ops listed := by
              refine mem_ready.2 ⟨?_, o, ho, fun e he hb => ?_⟩
              · have : listed[k] = false := by simpa [lst, hks] using hl
                simp [hks, this]
              · have := List.all_eq_true.1 cB k (List.mem_range.2 (by omega))
                rw [ho] at this
                have := Array.all_eq_true_iff_forall_mem.1 this e he
                rw [hb] at this
                simp at this
                exact ih e.on this
            rw [hr] at this; cases this
    have hallL := hallL ops.size (Nat.le_refl _)
    obtain ⟨done, rest, vals, σ, ρ, vs, bl, hD, hhead⟩ := hJ.ex
    have hrest : rest = [] := by
      cases hrr : rest with
      | nil => rfl
      | cons p rest' =>
        exfalso
        have hs' : steps = done ++ p :: rest' := by rw [hD.split, hrr]
        have hps : p ∈ steps := by rw [hs']; simp
        obtain ⟨r', hr'⟩ := hD.only _ (hallL _ (id_small hst hsm hps).1)
        exact (ord_spec hord hs').2.1 _ hr' rfl
    subst hrest
    have hsd : steps = done := by rw [hD.split]; simp
    have hev := hD.eval
    rw [← hsd] at hev
    have hfil : (List.range ops.size).filter (lst listed) = List.range ops.size := List.filter_eq_self.2 fun k hk => hallL k (List.mem_range.1 hk)
    have hact := hD.act
    rw [hfil] at hact
    have hdd : ops.toList.map (·.dst) = (List.range' 0 ops.size).map (dstAt ops) := by
      apply List.ext_getElem?
      intro j
      rw [List.getElem?_map, List.getElem?_map, Array.getElem?_toList]
      by_cases hj : j < ops.size
      · rw [List.getElem?_range' hj]
        simp [dstAt, hj]
      · rw [Array.getElem?_eq_none (by omega), List.getElem?_eq_none (by simp; omega)]; rfl
    refine hQ ρ a W (by rw [hev]; exact hD.hr) ?_ (by rw [hev]; exact hD.stp) (by rw [hact, actOf_defers])
    rw [hev, hdd, hact, List.range_eq_range']
    exact putAll_er hdl (fun k hk => hD.vals_ k (hallL k hk)) ops.size 0 env a0 (by omega) (he0.sub (hD.stp.sub hr0))
  · -- the begin
    have hf : ∀ i, lst (Array.replicate ops.size false) i = false := fun i => by
      unfold lst; rw [Array.getD_eq_getD_getElem?, Array.getElem?_replicate]; split <;> rfl
    have hstart : DSt Γ pu ops steps env ρ0 σ0 W0 a0 rc (fun _ => 0) (Array.replicate ops.size false) a0 W0 [] steps .leaf σ0 ρ0 (fun _ => undef) := by
      refine ⟨rfl, fun p hp => (by cases hp), fun i hi => (by rw [hf] at hi; cases hi), rfl, hok, hr0, Stp.refl (Nat.le_refl _), fun i hi => (by rw [hf] at hi; cases hi), ?_, fun p hp => (by cases hp), fun p hp => (by cases hp)⟩
      have : (List.range ops.size).filter (lst (Array.replicate ops.size false)) = [] := List.filter_eq_nil_iff.2 fun k hk => by rw [hf]; simp
      rw [this]; rfl
    obtain ⟨d', r', v', s', bl', k1, k2⟩ := seg hpu hst hord hsm steps [] _ _ _ hstart
    exact ⟨by simp, fun i hi => (by rw [hf] at hi; cases hi), d', r', v', s', ρ0, _, bl', k1, k2⟩
end
end
end Go.Proofs.YtjkicmlelilcaaaDoor.V2
namespace Go.Proofs.YtjkicmlelilcaaaDoor.V2
open Go
noncomputable section
inductive ACode where
  | skip
  | ret
  | exit (id : Nat)
  | seq (a b : ACode)
  | cond (c : Ref) (a b : ACode)
  | block (id : Nat) (c : ACode)
  | loop (c : ACode)
  | reg (rows : List CRow)
  | regd (steps : List (Nat × CRow)) (rcs : List (Nat × List Nat)) (dsts : List (Option Nat))
  | bad
  | rfun (f : Ref) (ps : List Nat) (a b : ACode)
def cloGo : List Oper → List (List Nat) → List (List Nat)
  | [], acc => acc
  | o :: l, acc => cloGo l (acc ++ [(List.range acc.length).filter fun k => o.after.any fun e => Region.binds .any e && (k == e.on || (acc.getD e.on []).contains k)])
def takeFirst {α : Type} (f : α → Bool) : List α → Option (α × List α)
  | [] => none
  | x :: l => bif f x then some (x, l) else match takeFirst f l with
    | some (y, m) => some (y, x :: m)
    | none => none
def sched (pu : FuncId → Bool) (B : List (List Nat)) : Nat → List (Nat × CRow) → List (Nat × CRow) → List (Nat × CRow)
  | 0, done, _ => done
  | n + 1, done, todo => match takeFirst (fun p => !(kd pu p.2 == .S) && (B.getD p.1 []).all (hasId done)) todo with
    | some (p, r) => sched pu B n (done ++ [p]) r
    | none => match takeFirst (fun p => (B.getD p.1 []).all (hasId done)) todo with
      | some (p, r) => sched pu B n (done ++ [p]) r
      | none => done
/-- What is to be loaded again behind each bar. -/
def rcsOf (pu : FuncId → Bool) (B : List (List Nat)) : List (Nat × CRow) → List (Nat × CRow) → List (Nat × List Nat)
  | _, [] => []
  | done, p :: l => match (done.filter fun q => (kd pu q.2 == .L) && !(B.getD p.1 []).contains q.1).map (·.1) with
    | [] => rcsOf pu B (done ++ [p]) l
    | ks => bif kd pu p.2 == .S then (p.1, ks) :: rcsOf pu B (done ++ [p]) l else rcsOf pu B (done ++ [p]) l
def rcGet : List (Nat × List Nat) → Nat → List Nat
  | [], _ => []
  | p :: l, k => bif Nat.beq p.1 k then p.2 else rcGet l k
def compD (P : Program) (G nt : Nat) (pu : FuncId → Bool) (ops : Array Oper) : Option (List (Nat × CRow) × List (Nat × List Nat)) :=
  match stepsOf P nt G ops (cloGo ops.toList []) (List.range ops.size) with
  | none => none
  | some ts => match stepsOf P nt G ops (cloGo ops.toList []) ((sched pu (cloGo ops.toList []) ops.size [] ts).map (·.1)) with
    | none => none
    | some st => bif chkRegion ops (cloGo ops.toList []) [] && (chkOrd pu (cloGo ops.toList []) (rcGet (rcsOf pu (cloGo ops.toList []) [] st)) [] st && ((List.range ops.size).all (hasId st) && Nat.ble ops.size 1000000)) then some (st, rcsOf pu (cloGo ops.toList []) [] st) else none
def compC (P : Program) (G nt : Nat) (pu : FuncId → Bool) : Code → Option ACode
  | .skip => some .skip
  | .ret => some .ret
  | .exit id => some (.exit id)
  | .seq a b => match compC P G nt pu a with
    | none => none
    | some a' => match compC P G nt pu b with
      | none => none
      | some b' => some (.seq a' b')
  | .cond c a b => match compC P G nt pu a with
    | none => none
    | some a' => match compC P G nt pu b with
      | none => none
      | some b' => some (.cond (rfS G c) a' b')
  | .block id c => match compC P G nt pu c with
    | none => none
    | some c' => some (.block id c')
  | .loop c => match compC P G nt pu c with
    | none => none
    | some c' => some (.loop c')
  | .region _ ops false => match rowsOf P nt (rfS G) ops ops.toList with
    | none => none
    | some rows => some (.reg rows)
  | .region _ ops true => match compD P G nt pu ops with
    | none => some .bad
    | some st => some (.regd st.1 st.2 (ops.toList.map (·.dst)))
  | .rangeFunc f ps a b => match compC P G nt pu a with
    | none => none
    | some a' => match compC P G nt pu b with
      | none => none
      | some b' => some (.rfun (rfS G f) ps.toList a' b')
  | _ => some .bad
def evDr (A : Ar) (Γ : Gam) (steps : List (Nat × CRow)) (rcs : List (Nat × List Nat)) (dsts : List (Option Nat)) (env : T AV) (σ : AH) : Bool × T AV × AH := match evD A Γ env steps (rcGet rcs) steps .leaf σ with
  | (ok, vals, σ') => (ok, putAll vals dsts 0 env, σ')
/-- The same world, less said of it, its newer blocks under other numbers. -/
def Wk (G nt N : Nat) (env : T AV) (σ : AH) (env' : T AV) (σ' : AH) : Prop := ∀ ρ W, HR ρ σ W → ∃ ρ', HR ρ' σ' W ∧ (∀ a, ER G nt ρ env a → ER G nt ρ' env' a) ∧ (∀ b, b < N → ρ' b = ρ b) ∧
  (∀ b c d, ρ' b = some (c, d) → ∃ b0 d0, ρ b0 = some (c, d0)) ∧ N ≤ σ'.next ∧ ∀ b, b < N → σ'.get b = σ.get b
def AK := Exit → T AV → AH → Prop
def AK.seq (k : T AV → AH → Prop) (K : AK) : AK
  | .normal, env, σ => k env σ
  | e, env, σ => K e env σ
def AK.block (id : Nat) (K : AK) : AK
  | .exit i, env, σ => if i = id then K .normal env σ else K (.exit i) env σ
  | e, env, σ => K e env σ
def avc (A : Ar) (Γ : Gam) (G nt N : Nat) : ACode → AK → T AV → AH → Prop
  | .skip, K, env, σ => K .normal env σ
  | .ret, K, env, σ => K .ret env σ
  | .exit id, K, env, σ => K (.exit id) env σ
  | .seq a b, K, env, σ => avc A Γ G nt N a (AK.seq (avc A Γ G nt N b K) K) env σ
  | .cond c a b, K, env, σ => match evS env c with
    | .bool t => (t = true → avc A Γ G nt N a K env σ) ∧ (t = false → avc A Γ G nt N b K env σ)
    | _ => False
  | .block id c, K, env, σ => avc A Γ G nt N c (AK.block id K) env σ
  | .loop c, K, env, σ => ∃ (I : T AV → AH → Prop) (μ : T AV → AH → Nat), (∃ env1 σ1, Wk G nt N env σ env1 σ1 ∧ I env1 σ1) ∧
      ∀ env σ, I env σ → avc A Γ G nt N c (AK.seq (fun env' σ' => ∃ env2 σ2, Wk G nt N env' σ' env2 σ2 ∧ I env2 σ2 ∧ μ env2 σ2 < μ env σ) K) env σ
  | .reg rows, K, env, σ => (evP A Γ rows env σ).1 = true ∧ K .normal (evP A Γ rows env σ).2.1 (evP A Γ rows env σ).2.2
  | .regd st rcs ds, K, env, σ => (evDr A Γ st rcs ds env σ).1 = true ∧ K .normal (evDr A Γ st rcs ds env σ).2.1 (evDr A Γ st rcs ds env σ).2.2
  | .bad, _, _, _ => False
  | .rfun _ _ _ _, _, _, _ => False
section
variable {P : Program} {Γ : Gam} {pu : FuncId → Bool} {G nt N : Nat} {ρ0 : Ren} {σ0 : AH} {W0 : World}
def AQ (G nt N : Nat) (ρ0 : Ren) (σ0 : AH) (W0 : World) (K : AK) (e : Exit) (a : Act) (W : World) : Prop :=
  ∃ ρ env σ, K e env σ ∧ HR ρ σ W ∧ ER G nt ρ env a ∧ Stp N ρ0 σ0 W0 ρ σ W ∧ a.defers = []
theorem Stp.weak {ρ ρ' : Ren} {σ σ' : AH} {W : World} (h : Stp N ρ0 σ0 W0 ρ σ W) (h1 : ∀ b, b < N → ρ' b = ρ b) (h2 : ∀ b c d, ρ' b = some (c, d) → ∃ b0 d0, ρ b0 = some (c, d0)) (h3 : N ≤ σ'.next) (h4 : ∀ b, b < N → σ'.get b = σ.get b) :
    Stp N ρ0 σ0 W0 ρ' σ' W :=
  ⟨fun b hb => (h1 b hb).trans (h.ext b hb), fun b c d hb => by obtain ⟨b0, d0, h0⟩ := h2 b c d hb; exact h.img b0 c d0 h0, h3, fun b ob hb hn ho ht => (h4 b hb).trans (h.keep b ob hb hn ho ht), h.frame, h.tape, h.os, h.output, h.size, fun b c d ob hb hρ hc ho hr => let ⟨e1, e2⟩ := h.ro b c d ob hb hρ hc ho hr; ⟨(h4 b hb).trans e1, e2⟩⟩
theorem wp_loop_n {c : Code} {Q : Exit → Act → World → Prop} (J : Nat → Act → World → Prop)
    (round : ∀ n a w, J n a w → c.wp P (Exit.then (fun a' w' => ∃ m, m < n ∧ J m a' w') Q) a w) {n : Nat} {a : Act} {w : World} (h₀ : J n a w) : (Code.loop c).wp P Q a w := by
  intro b k cs
  have key : ∀ n a w, J n a w →
      ∃ e a' w', Q e a' w' ∧ Arrives P (lone (b.at a (.code c :: .inLoop c :: k)) cs w) b k cs e a' w' := by
    intro n
    induction n using Nat.strongRecOn with
    | _ n ih =>
      intro a w hI
      obtain ⟨e, a₁, w₁, hq, harr⟩ := round n a w hI b (.inLoop c :: k) cs
      cases e with
      | normal =>
        obtain ⟨m, hlt, hI₁⟩ := hq
        obtain ⟨e₂, a₂, w₂, hq₂, harr₂⟩ := ih m hlt a₁ w₁ hI₁
        exact ⟨e₂, a₂, w₂, hq₂, .of_steps (Steps.trans harr (.one step_inLoop)) harr₂⟩
      | exit id => exact ⟨_, a₁, w₁, hq, .pass (x := .inLoop c) rfl (fun _ _ => .inl (by simp)) harr⟩
      | goto l => exact ⟨_, a₁, w₁, hq, .pass (x := .inLoop c) rfl (fun _ _ => .inl (by simp)) harr⟩
      | ret => exact ⟨_, a₁, w₁, hq, .pass (x := .inLoop c) rfl (fun _ _ => .inl (by simp)) harr⟩
      | panic ch => exact ⟨_, a₁, w₁, hq, .pass (x := .inLoop c) rfl (fun _ _ => .inl (by simp)) harr⟩
      | outgrown => exact ⟨_, a₁, w₁, hq, .pass (x := .inLoop c) rfl (fun _ _ => .inl (by simp)) harr⟩
  obtain ⟨e, a', w', hq, harr⟩ := key _ a w h₀
  exact ⟨e, a', w', hq, .of_steps (.one step_loop) harr⟩
theorem avc_sound (hm : P.follows .mixedOrders = true) (hΓ : GamOk P G Γ) (hpu : PuOk Γ pu) : ∀ (c : Code) (c' : ACode), compC P G nt pu c = some c' → ∀ (K : AK) (env : T AV) (σ : AH) (ρ : Ren) (W : World) (a : Act),
    avc std Γ G nt N c' K env σ → HR ρ σ W → ER G nt ρ env a → Stp N ρ0 σ0 W0 ρ σ W → a.defers = [] → c.wp P (AQ G nt N ρ0 σ0 W0 K) a W := by
  intro c
  induction c with
  | skip => intro c' hc K env σ ρ W a h hr he hs hd; cases hc; exact wp_skip ⟨ρ, env, σ, h, hr, he, hs, hd⟩
  | ret => intro c' hc K env σ ρ W a h hr he hs hd; cases hc; exact wp_ret ⟨ρ, env, σ, h, hr, he, hs, hd⟩
  | exit id => intro c' hc K env σ ρ W a h hr he hs hd; cases hc; exact wp_exit ⟨ρ, env, σ, h, hr, he, hs, hd⟩
  | seq x y ihx ihy =>
    intro c' hc K env σ ρ W a h hr he hs hd
    unfold compC at hc
    split at hc
    · cases hc
    · rename_i x' hx
      split at hc
      · cases hc
      · rename_i y' hy
        cases hc
        refine wp_seq (wp_mono (ihx x' hx _ env σ ρ W a h hr he hs hd) fun e a' W' ⟨ρ', env', σ', h1, h2, h3, h4, h5⟩ => ?_)
        cases e
        case normal => exact ihy y' hy K env' σ' ρ' W' a' h1 h2 h3 h4 h5
        all_goals exact ⟨ρ', env', σ', h1, h2, h3, h4, h5⟩
  | cond t x y ihx ihy =>
    intro c' hc K env σ ρ W a h hr he hs hd
    unfold compC at hc
    split at hc
    · cases hc
    · rename_i x' hx
      split at hc
      · cases hc
      · rename_i y' hy
        cases hc
        unfold avc at h
        have hv := he.ev t
        cases hcv : evS env (rfS G t) <;> rw [hcv] at h hv <;> try exact h.elim
        rename_i b
        unfold VR at hv
        cases b
        · exact wp_cond_false hv (ihy y' hy K env σ ρ W a (h.2 rfl) hr he hs hd)
        · exact wp_cond_true hv (ihx x' hx K env σ ρ W a (h.1 rfl) hr he hs hd)
  | block id x ih =>
    intro c' hc K env σ ρ W a h hr he hs hd
    unfold compC at hc
    split at hc
    · cases hc
    · rename_i x' hx
      cases hc
      refine wp_block (wp_mono (ih x' hx _ env σ ρ W a h hr he hs hd) fun e a' W' ⟨ρ', env', σ', h1, h2, h3, h4, h5⟩ => ?_)
      cases e
      case exit i =>
        simp only [AK.block] at h1
        simp only [Exit.inBlock]
        split
        · rename_i hi; rw [if_pos hi] at h1; exact ⟨ρ', env', σ', h1, h2, h3, h4, h5⟩
        · rename_i hi; rw [if_neg hi] at h1; exact ⟨ρ', env', σ', h1, h2, h3, h4, h5⟩
      all_goals exact ⟨ρ', env', σ', h1, h2, h3, h4, h5⟩
  | loop x ih =>
    intro c' hc K env σ ρ W a h hr he hs hd
    unfold compC at hc
    split at hc
    · cases hc
    · rename_i x' hx
      cases hc
      unfold avc at h
      obtain ⟨I, μ, ⟨env1, σ1, hw, h0⟩, hround⟩ := h
      -- the least measure of what the frame may be said to be
      let J : Nat → Act → World → Prop := fun n a W => ∃ ρ env σ, I env σ ∧ μ env σ = n ∧ HR ρ σ W ∧ ER G nt ρ env a ∧ Stp N ρ0 σ0 W0 ρ σ W ∧ a.defers = []
      have hloop : ∀ n, ∀ a W, J n a W → (Code.loop x).wp P (AQ G nt N ρ0 σ0 W0 K) a W := by
        intro n a W hJ
        refine wp_loop_n J (fun n a W hI => ?_) hJ
        obtain ⟨ρ, env, σ, i1, i2, i3, i4, i5, i6⟩ := hI
        refine wp_mono (ih x' hx _ env σ ρ W a (hround env σ i1) i3 i4 i5 i6) fun e a' W' ⟨ρ', env', σ', h1, h2, h3, h4, h5⟩ => ?_
        cases e
        case normal =>
          obtain ⟨env2, σ2, w1, w2, w3⟩ := h1
          obtain ⟨ρ'', k1, k2, k3, k4, k5, k6⟩ := w1 ρ' W' h2
          exact ⟨μ env2 σ2, by rw [← i2]; exact w3, ρ'', env2, σ2, w2, rfl, k1, k2 a' h3, h4.weak k3 k4 k5 k6, h5⟩
        all_goals exact ⟨ρ', env', σ', h1, h2, h3, h4, h5⟩
      obtain ⟨ρ1, k1, k2, k3, k4, k5, k6⟩ := hw ρ W hr
      exact hloop _ a W ⟨ρ1, env1, σ1, h0, rfl, k1, k2 a he, hs.weak k3 k4 k5 k6, hd⟩
  | region id ops draw =>
    intro c' hc K env σ ρ W a h hr he hs hd
    cases draw with
    | false =>
      unfold compC at hc
      split at hc
      · cases hc
      · rename_i rows hrows
        cases hc
        unfold avc at h
        refine wp_region ?_
        have hl : ops.size = ops.toList.length := by simp
        rw [List.range_eq_range', hl]
        exact plain_sound hΓ ops.toList rows 0 hrows (fun j => by simp) hr he h.1 fun ρ' a' W' h1 h2 h3 h4 => ⟨ρ', _, _, h.2, h1, h2, hs.trans h3 hs.next, by rw [h4]; exact hd⟩
    | true =>
      unfold compC at hc
      split at hc
      · cases hc; exact h.elim
      · rename_i st hst
        cases hc
        unfold compD at hst
        split at hst
        · cases hst
        · split at hst
          · cases hst
          · rename_i st' hst'
            generalize hB : cloGo ops.toList [] = B at hst hst'
            cases hck : (chkRegion ops B [] && (chkOrd pu B (rcGet (rcsOf pu B [] st')) [] st' && ((List.range ops.size).all (hasId st') && Nat.ble ops.size 1000000))) <;> rw [hck] at hst
            · cases hst
            · cases hst
              simp only [Bool.and_eq_true, Nat.ble_eq] at hck
              unfold avc at h
              unfold evDr at h
              generalize hrc : rcsOf pu B [] st' = rcs at h hck
              generalize hev : evD std Γ env st' (rcGet rcs) st' .leaf σ = ev at h
              obtain ⟨ok, vals, σ'⟩ := ev
              simp only at h
              refine wp_region_any hm (drawn_any (W0 := { W with drawn := W.drawn + 1 }) hΓ hpu hst' hck.2.1 hck.2.2.1 hck.2.2.2 hck.1 (hr.drew _) he (by rw [hev]; exact h.1) fun ρ' a' W' h1 h2 h3 h4 => ?_)
              rw [hev] at h1 h2 h3
              exact ⟨ρ', _, _, h.2, h1, h2, hs.trans h3.drew hs.next, by rw [h4]; exact hd⟩
  | rangeFunc f ps x y ihx ihy =>
    intro c' hc
    unfold compC at hc
    split at hc
    · cases hc
    · split at hc
      · cases hc
      · cases hc; intro K env σ ρ W a h; exact h.elim
  | _ => intro c' hc; cases hc; intro K env σ ρ W a h; exact h.elim
end
end
end Go.Proofs.YtjkicmlelilcaaaDoor.V2
namespace Go.Proofs.YtjkicmlelilcaaaDoor.V2
open Go
noncomputable section
inductive ARes where
  | tmp (t : Nat)
  | cell1 (a : Nat)
  | cellN (a n : Nat)
def compR1 (P : Program) : ResultVar → Option ARes
  | .tmp t => some (.tmp t)
  | .cell a t => match P.underlying t with
    | some d => match isAggD d with
      | true => match P.info? t with
        | some i => some (.cellN a i.size)
        | none => none
      | false => some (.cell1 a)
    | none => none
def compR (P : Program) : List ResultVar → Option (List ARes)
  | [] => some []
  | r :: l => match compR1 P r with
    | none => none
    | some x => match compR P l with
      | none => none
      | some xs => some (x :: xs)
def resV (A : Ar) (env : T AV) (σ : AH) : ARes → Bool × AV
  | .tmp t => (true, evS env (.slot t))
  | .cell1 a => match oLoad1 A (evS env (.slot a)) σ with
    | (ok, v, _) => (ok, v)
  | .cellN a n => match oLoadN A n (evS env (.slot a)) σ with
    | (ok, v, _) => (ok, v)
def resL (A : Ar) (env : T AV) (σ : AH) : List ARes → Bool × List AV
  | [] => (true, [])
  | r :: l => match resV A env σ r with
    | (ok, v) => match resL A env σ l with
      | (ok', vs) => (ok && ok', v :: vs)
def retV : List AV → AV
  | [x] => x
  | l => .tup l
def envOf : List AV → Nat → T AV → T AV
  | [], _, t => t
  | a :: l, i, t => envOf l (i + 1) (t.put i a)
def resF (tmps : Array Value) (r : ResultVar) : Sem Value := match r with
  | .tmp t => pure (tmps.getD t undef)
  | .cell a t => do loadVar t (← asAddr (tmps.getD a undef))
theorem results_eq (fn : Func) (tmps : Array Value) : results fn tmps = (do let vs ← fn.results.mapM (resF tmps); pure (if h : vs.size = 1 then vs[0] else .tuple vs)) := rfl
section
variable {P : Program} {W : World} {ρ : Ren} {σ : AH} {G nt : Nat}
theorem resV_run (hr : HR ρ σ W) {env : T AV} {a : Act} (he : ER G nt ρ env a) {r : ResultVar} {x : ARes} (hc : compR1 P r = some x) (hok : (resV std env σ x).1 = true) :
    ∃ v, (resF a.tmps r).run P W = .ok v W ∧ VR ρ (resV std env σ x).2 v := by
  cases r with
  | tmp t =>
    cases hc
    exact ⟨_, rfl, he.ev (.tmp t)⟩
  | cell b t =>
    have hv := he.ev (.tmp b)
    simp only [rfS, Act.eval] at hv
    simp only [compR1] at hc
    split at hc
    · rename_i d hu
      split at hc
      · rename_i hd
        split at hc
        · rename_i i hi
          cases hc
          simp only [resV] at hok ⊢
          have h := loadN_run (P := P) (W := W) (ax := evS env (.slot b)) hr hu hd hi hv
          generalize oLoadN std i.size (evS env (.slot b)) σ = out at h hok ⊢
          obtain ⟨ok, v, σ'⟩ := out
          obtain ⟨_, c, o, u, e1, e2, e3⟩ := h hok
          refine ⟨u, ?_, e3⟩
          simp only [resF, e1, asAddr, Sem.run_bind, Sem.run_pure, Result.andThen_ok, e2]
        · cases hc
      · rename_i hd
        cases hc
        simp only [resV] at hok ⊢
        have h := load1_run (P := P) (W := W) (ax := evS env (.slot b)) hr hu hd hv
        generalize oLoad1 std (evS env (.slot b)) σ = out at h hok ⊢
        obtain ⟨ok, v, σ'⟩ := out
        obtain ⟨_, c, o, u, e1, e2, e3⟩ := h hok
        refine ⟨u, ?_, e3⟩
        simp only [resF, e1, asAddr, Sem.run_bind, Sem.run_pure, Result.andThen_ok, e2]
    · cases hc
theorem resL_run (hr : HR ρ σ W) {env : T AV} {a : Act} (he : ER G nt ρ env a) : ∀ (rs : List ResultVar) (xs : List ARes), compR P rs = some xs → (resL std env σ xs).1 = true →
    ∃ vs, (rs.mapM (resF a.tmps)).run P W = .ok vs W ∧ VRs ρ (resL std env σ xs).2 vs
  | [], xs, hc, _ => by cases hc; exact ⟨[], rfl, rfl⟩
  | r :: rs, xs, hc, hok => by
    unfold compR at hc
    split at hc
    · cases hc
    · rename_i x hx
      split at hc
      · cases hc
      · rename_i xs' hxs
        cases hc
        unfold resL at hok ⊢
        have h1 := resV_run (P := P) hr he hx
        have h2 := resL_run hr he rs xs' hxs
        generalize resV std env σ x = o1 at hok h1 ⊢
        obtain ⟨k1, v1⟩ := o1
        generalize resL std env σ xs' = o2 at hok h2 ⊢
        obtain ⟨k2, v2⟩ := o2
        simp only [Bool.and_eq_true] at hok
        obtain ⟨v, e1, e2⟩ := h1 hok.1
        obtain ⟨vs, e3, e4⟩ := h2 hok.2
        refine ⟨v :: vs, ?_, v, vs, rfl, e2, e4⟩
        rw [List.mapM_cons, Sem.run_bind, e1, Result.andThen_ok, Sem.run_bind, e3]; rfl
theorem results_run (hr : HR ρ σ W) {env : T AV} {a : Act} (he : ER G nt ρ env a) {fn : Func} {xs : List ARes} (hc : compR P fn.results.toList = some xs) (hok : (resL std env σ xs).1 = true) :
    ∃ v, (results fn a.tmps).run P W = .ok v W ∧ VR ρ (retV (resL std env σ xs).2) v := by
  obtain ⟨vs, h1, h2⟩ := resL_run (P := P) hr he _ _ hc hok
  rw [results_eq, Array.mapM_eq_mapM_toList, Sem.run_bind, Sem.run_map, h1]
  simp only [Result.andThen_ok]
  generalize (resL std env σ xs).2 = l at h2
  match l, vs, h2 with
  | [], _, e => cases e; exact ⟨_, rfl, by show VR ρ (.tup []) _; unfold VR; exact ⟨[], rfl, rfl⟩⟩
  | [x], _, ⟨v, m, e1, e2, e3⟩ =>
    cases e3; cases e1
    exact ⟨v, rfl, e2⟩
  | x :: y :: l, vs, h2 =>
    have hl := h2.length
    refine ⟨.tuple vs.toArray, ?_, ?_⟩
    · rw [dif_neg (by simp at hl ⊢; omega)]; rfl
    · show VR ρ (.tup (x :: y :: l)) _
      unfold VR; exact ⟨vs, rfl, h2⟩
theorem envOf_get : ∀ (l : List AV) (i : Nat) (t : T AV) (m : Nat), i + l.length ≤ 1048576 → (envOf l i t).get m = if i ≤ m ∧ m < i + l.length then l[m - i]? else t.get m
  | [], i, t, m, _ => by rw [if_neg (by intro h; simp at h; omega)]; rfl
  | a :: l, i, t, m, h => by
    simp only [List.length_cons] at h
    show (envOf l (i + 1) (t.put i a)).get m = _
    rw [envOf_get l (i + 1) _ m (by omega), T.get_put _ _ _ _ (by omega)]
    by_cases h1 : i + 1 ≤ m ∧ m < i + 1 + l.length
    · rw [if_pos h1, if_pos (by simp; omega), show m - i = (m - (i + 1)) + 1 by omega, List.getElem?_cons_succ]
    · rw [if_neg h1]
      by_cases hm : m = i
      · subst hm; rw [if_pos rfl, if_pos (by simp)]; simp
      · rw [if_neg hm, if_neg (by simp; omega)]
/-- A call, by what its code says. -/
theorem call_sound {Γ : Gam} {pu : FuncId → Bool} (hm : P.follows .mixedOrders = true) (hΓ : GamOk P G Γ) (hpu : PuOk Γ pu) {f : FuncId} {fn : Func} {c : Code} {c' : ACode} {xs : List ARes} (hf : P.funcs[f]? = some fn) (hb : fn.body = some c)
    (hc : compC P G fn.ntmps pu c = some c') (hres : compR P fn.results.toList = some xs) (hnt : Nat.ble fn.ntmps 1048576 = true) {args : List AV} (hargs : Nat.ble args.length fn.ntmps = true) {K : AV → AH → Prop}
    (h : avc std Γ G fn.ntmps σ.next c' (fun e env σ' => (match e with | .normal => True | .ret => True | _ => False) ∧ (resL std env σ' xs).1 = true ∧ K (retV (resL std env σ' xs).2) σ') (envOf args 0 .leaf) σ)
    {vs : List Value} (hG : ∀ g, g < G → ∃ s, ρ g = some (g, (0, s))) (hr : HR ρ σ W) (hvs : VRs ρ args vs) :
    Calls P f vs.toArray W fun e W' => ∃ v av σ' ρ', e = .returned v ∧ K av σ' ∧ HR ρ' σ' W' ∧ Stp σ.next ρ σ W ρ' σ' W' ∧ VR ρ' av v := by
  rw [Nat.ble_eq] at hnt hargs
  have hl := hvs.length
  refine calls_of_wp hf hb (wp_mono (avc_sound hm hΓ hpu c c' hc _ _ _ ρ W _ h hr ⟨hnt, ?_, hG, fun t v ht => ?_⟩ (Stp.refl (Nat.le_refl _)) rfl) fun e a W' ⟨ρ', env', σ', ⟨h1, h2, h3⟩, h4, h5, h6, h7⟩ => ?_)
  · simp; omega
  · rw [envOf_get _ _ _ _ (by omega)] at ht
    simp only [Nat.zero_le, true_and, Nat.zero_add, Nat.sub_zero, T.get_leaf] at ht
    split at ht
    · rename_i hlt
      obtain ⟨u, hu, hr'⟩ := hvs.at t v ht
      have : (vs.toArray ++ Array.replicate (fn.ntmps - vs.toArray.size) undef).getD t undef = u := by
        rw [Array.getD_eq_getD_getElem?, Array.getElem?_append_left (by simp; omega)]
        simp [hu]
      rw [this]; exact hr'
    · cases ht
  · obtain ⟨v, e1, e2⟩ := results_run (P := P) h4 h5 hres h2
    cases e
    case normal => exact ⟨h7, v, e1, v, _, σ', ρ', rfl, h3, h4, h6, e2⟩
    case ret => exact ⟨h7, v, e1, v, _, σ', ρ', rfl, h3, h4, h6, e2⟩
    all_goals exact h1.elim
end
end
end Go.Proofs.YtjkicmlelilcaaaDoor.V2
namespace Go.Proofs.YtjkicmlelilcaaaDoor.V2
open Go
noncomputable section
def ofL : List (Nat × AV) → T AV
  | [] => .leaf
  | p :: l => (ofL l).put p.1 p.2
theorem ofL_get : ∀ (l : List (Nat × AV)) (t : Nat) (v : AV), (∀ p ∈ l, Nat.blt p.1 1048576 = true) → (ofL l).get t = some v → (t, v) ∈ l
  | [], t, v, _, h => by cases h
  | p :: l, t, v, hs, h => by
    have hp := hs p List.mem_cons_self
    rw [Nat.blt_eq] at hp
    simp only [ofL, T.get_put _ _ _ _ hp] at h
    by_cases ht : t = p.1
    · rw [if_pos ht] at h; cases h; rw [ht]; exact List.mem_cons_self
    · rw [if_neg ht] at h; exact List.mem_cons_of_mem _ (ofL_get l t v (fun q hq => hs q (List.mem_cons_of_mem _ hq)) h)
section
variable {A : Ar} {Γ : Gam} {G nt N : Nat} {K : AK} {env : T AV} {σ : AH}
theorem avc_reg {rows : List CRow} {r : Bool × T AV × AH} (h : evP A Γ rows env σ = r) (h1 : r.1 = true) (h2 : K .normal r.2.1 r.2.2) : avc A Γ G nt N (.reg rows) K env σ := by
  show (evP A Γ rows env σ).1 = true ∧ K .normal (evP A Γ rows env σ).2.1 (evP A Γ rows env σ).2.2
  rw [h]; exact ⟨h1, h2⟩
theorem avc_regd {st : List (Nat × CRow)} {rcs : List (Nat × List Nat)} {ds : List (Option Nat)} {r : Bool × T AV × AH} (h : evDr A Γ st rcs ds env σ = r) (h1 : r.1 = true) (h2 : K .normal r.2.1 r.2.2) : avc A Γ G nt N (.regd st rcs ds) K env σ := by
  show (evDr A Γ st rcs ds env σ).1 = true ∧ K .normal (evDr A Γ st rcs ds env σ).2.1 (evDr A Γ st rcs ds env σ).2.2
  rw [h]; exact ⟨h1, h2⟩
theorem avc_seq {a b : ACode} (h : avc A Γ G nt N a (AK.seq (avc A Γ G nt N b K) K) env σ) : avc A Γ G nt N (.seq a b) K env σ := h
theorem avc_cond {c : Ref} {a b : ACode} {t : Bool} (hc : evS env c = .bool t) (h1 : t = true → avc A Γ G nt N a K env σ) (h2 : t = false → avc A Γ G nt N b K env σ) : avc A Γ G nt N (.cond c a b) K env σ := by
  show (match evS env c with | .bool t => (t = true → avc A Γ G nt N a K env σ) ∧ (t = false → avc A Γ G nt N b K env σ) | _ => False)
  rw [hc]; exact ⟨h1, h2⟩
theorem avc_loop {c : ACode} (I : T AV → AH → Prop) (μ : T AV → AH → Nat) {env1 : T AV} {σ1 : AH} (hw : Wk G nt N env σ env1 σ1) (h0 : I env1 σ1)
    (hr : ∀ env σ, I env σ → avc A Γ G nt N c (AK.seq (fun env' σ' => ∃ env2 σ2, Wk G nt N env' σ' env2 σ2 ∧ I env2 σ2 ∧ μ env2 σ2 < μ env σ) K) env σ) : avc A Γ G nt N (.loop c) K env σ :=
  ⟨I, μ, ⟨env1, σ1, hw, h0⟩, hr⟩
end
end
end Go.Proofs.YtjkicmlelilcaaaDoor.V2
namespace Go.Proofs.YtjkicmlelilcaaaDoor.V2
open Go
noncomputable section
inductive AX where
  | normal
  | exit (id : Nat)
  | ret
def AX.out : AX → Exit
  | .normal => .normal
  | .exit id => .exit id
  | .ret => .ret
inductive RR where
  | bad
  | ok (e : AX) (env : T AV) (σ : AH)
def RR.next (r : RR) (f : T AV → AH → RR) : RR := RR.rec (motive := fun _ => RR) .bad (fun e env σ => AX.rec (motive := fun _ => RR) (f env σ) (fun i => .ok (.exit i) env σ) (.ok .ret env σ) e) r
def RR.block (id : Nat) (r : RR) : RR := RR.rec (motive := fun _ => RR) .bad (fun e env σ => AX.rec (motive := fun _ => RR) (.ok .normal env σ) (fun i => bif Nat.beq i id then .ok .normal env σ else .ok (.exit i) env σ) (.ok .ret env σ) e) r
def runLoop (N : Nat) (f : T AV → AH → RR) (n : Nat) : T AV → AH → RR := Nat.rec (motive := fun _ => T AV → AH → RR) (fun _ _ => .bad) (fun _ ih env σ => bif Nat.ble N σ.next then (f env σ).next ih else .bad) n
def run (A : Ar) (Γ : Gam) (N fuel : Nat) (c : ACode) : T AV → AH → RR :=
  ACode.rec (motive := fun _ => T AV → AH → RR)
    (fun env σ => .ok .normal env σ)
    (fun env σ => .ok .ret env σ)
    (fun id env σ => .ok (.exit id) env σ)
    (fun _ _ ia ib env σ => (ia env σ).next ib)
    (fun c _ _ ia ib env σ => match evS env c with | .bool t => bif t then ia env σ else ib env σ | _ => .bad)
    (fun id _ ih env σ => (ih env σ).block id)
    (fun _ ih env σ => runLoop N ih fuel env σ)
    (fun rows env σ => match evP A Γ rows env σ with | (ok, env', σ') => bif ok then .ok .normal env' σ' else .bad)
    (fun st rcs ds env σ => match evDr A Γ st rcs ds env σ with | (ok, env', σ') => bif ok then .ok .normal env' σ' else .bad)
    (fun _ _ => .bad)
    (fun _ _ _ _ _ _ _ _ => .bad)
    c
theorem Wk.refl {G nt N : Nat} {env : T AV} {σ : AH} (hN : N ≤ σ.next) : Wk G nt N env σ env σ := fun ρ _ hr =>
  ⟨ρ, hr, fun _ he => he, fun _ _ => rfl, fun b _ d hb => ⟨b, d, hb⟩, hN, fun _ _ => rfl⟩
theorem RR.next_ok {r : RR} {f : T AV → AH → RR} {e : AX} {env : T AV} {σ : AH} (h : r.next f = .ok e env σ) :
    (∃ env1 σ1, r = .ok .normal env1 σ1 ∧ f env1 σ1 = .ok e env σ) ∨ (e ≠ .normal ∧ r = .ok e env σ) := by
  cases r with
  | bad => cases h
  | ok e1 env1 σ1 =>
    cases e1 with
    | normal => exact .inl ⟨env1, σ1, rfl, h⟩
    | exit i => cases h; exact .inr ⟨by simp, rfl⟩
    | ret => cases h; exact .inr ⟨by simp, rfl⟩
theorem least {p : Nat → Prop} (h : ∃ k, p k) : ∃ k, p k ∧ ∀ j, p j → k ≤ j := by
  obtain ⟨k, hk⟩ := h
  induction k using Nat.strongRecOn with
  | _ k ih =>
    by_cases hj : ∃ j, j < k ∧ p j
    · obtain ⟨j, h1, h2⟩ := hj; exact ih j h1 h2
    · exact ⟨k, hk, fun j hp => Nat.le_of_not_lt fun hlt => hj ⟨j, hlt, hp⟩⟩
open Classical in
def leastD (p : Nat → Prop) : Nat := if h : ∃ k, p k then (least h).choose else 0
theorem leastD_le {p : Nat → Prop} {k : Nat} (h : p k) : leastD p ≤ k := by
  unfold leastD
  rw [dif_pos ⟨k, h⟩]
  exact (least ⟨k, h⟩).choose_spec.2 k h
theorem leastD_mem {p : Nat → Prop} {k : Nat} (h : p k) : p (leastD p) := by
  unfold leastD
  rw [dif_pos ⟨k, h⟩]
  exact (least ⟨k, h⟩).choose_spec.1
theorem run_avc {A : Ar} {Γ : Gam} {G nt N fuel : Nat} : ∀ (c : ACode) (K : AK) (env : T AV) (σ : AH) (e : AX) (env' : T AV) (σ' : AH), run A Γ N fuel c env σ = .ok e env' σ' → K e.out env' σ' → avc A Γ G nt N c K env σ := by
  intro c
  induction c with
  | skip => intro K env σ e env' σ' h hK; cases h; exact hK
  | ret => intro K env σ e env' σ' h hK; cases h; exact hK
  | exit id => intro K env σ e env' σ' h hK; cases h; exact hK
  | seq a b ia ib =>
    intro K env σ e env' σ' h hK
    rcases RR.next_ok (r := run A Γ N fuel a env σ) (f := run A Γ N fuel b) h with ⟨env1, σ1, h1, h2⟩ | ⟨h1, h2⟩
    · exact ia _ _ _ _ _ _ h1 (ib K _ _ _ _ _ h2 hK)
    · refine ia _ _ _ _ _ _ h2 ?_
      cases e with
      | normal => exact absurd rfl h1
      | exit i => exact hK
      | ret => exact hK
  | cond c a b ia ib =>
    intro K env σ e env' σ' h hK
    have h : (match evS env c with | .bool t => bif t then run A Γ N fuel a env σ else run A Γ N fuel b env σ | _ => RR.bad) = .ok e env' σ' := h
    show (match evS env c with | .bool t => (t = true → avc A Γ G nt N a K env σ) ∧ (t = false → avc A Γ G nt N b K env σ) | _ => False)
    cases hc : evS env c <;> rw [hc] at h <;> try (cases h; done)
    rename_i t
    cases t
    · exact ⟨fun h => (by cases h), fun _ => ib K _ _ _ _ _ h hK⟩
    · exact ⟨fun _ => ia K _ _ _ _ _ h hK, fun h => (by cases h)⟩
  | block id c ih =>
    intro K env σ e env' σ' h hK
    have h : (run A Γ N fuel c env σ).block id = .ok e env' σ' := h
    show avc A Γ G nt N c (AK.block id K) env σ
    cases hr : run A Γ N fuel c env σ with
    | bad => rw [hr] at h; cases h
    | ok e1 env1 σ1 =>
      rw [hr] at h
      refine ih _ _ _ _ _ _ hr ?_
      cases e1 with
      | normal => cases h; exact hK
      | ret => cases h; exact hK
      | exit i =>
        have h : (bif Nat.beq i id then RR.ok .normal env1 σ1 else .ok (.exit i) env1 σ1) = .ok e env' σ' := h
        show (if i = id then K .normal env1 σ1 else K (.exit i) env1 σ1)
        by_cases hi : i = id
        · rw [if_pos hi]
          rw [hi, Nat.beq_refl] at h
          cases h; exact hK
        · rw [if_neg hi]
          rw [T.beq_f hi] at h
          cases h; exact hK
  | loop c ih =>
    intro K env σ e env' σ' h hK
    have h : runLoop N (run A Γ N fuel c) fuel env σ = .ok e env' σ' := h
    let p : T AV → AH → Nat → Prop := fun env σ k => runLoop N (run A Γ N fuel c) k env σ = .ok e env' σ'
    have hN : ∀ k env σ, p env σ k → N ≤ σ.next := by
      intro k env σ hp
      cases k with
      | zero => cases hp
      | succ k =>
        have hp : (bif Nat.ble N σ.next then (run A Γ N fuel c env σ).next (runLoop N (run A Γ N fuel c) k) else RR.bad) = .ok e env' σ' := hp
        cases hb : Nat.ble N σ.next with
        | false => rw [hb] at hp; cases hp
        | true => exact Nat.le_of_ble_eq_true hb
    refine avc_loop (fun env σ => ∃ k, p env σ k) (fun env σ => leastD (p env σ)) (Wk.refl (hN _ _ _ h)) ⟨fuel, h⟩ ?_
    rintro env σ ⟨k, hk⟩
    have hl := leastD_mem hk
    generalize hm : leastD (p env σ) = m at hl
    cases m with
    | zero => cases hl
    | succ m =>
      have hb := hN _ _ _ hl
      have hl : (bif Nat.ble N σ.next then (run A Γ N fuel c env σ).next (runLoop N (run A Γ N fuel c) m) else RR.bad) = .ok e env' σ' := hl
      rw [show Nat.ble N σ.next = true from Nat.ble_eq_true_of_le hb, cond_true] at hl
      rcases RR.next_ok hl with ⟨env1, σ1, h1, h2⟩ | ⟨h1, h2⟩
      · refine ih _ _ _ _ _ _ h1 ?_
        have h2 : p env1 σ1 m := h2
        exact ⟨env1, σ1, Wk.refl (hN _ _ _ h2), ⟨m, h2⟩, Nat.lt_of_le_of_lt (leastD_le h2) (Nat.lt_succ_self m)⟩
      · refine ih _ _ _ _ _ _ h2 ?_
        cases e with
        | normal => exact absurd rfl h1
        | exit i => exact hK
        | ret => exact hK
  | reg rows =>
    intro K env σ e env' σ' h hK
    have h : (match evP A Γ rows env σ with | (ok, env', σ') => bif ok then RR.ok .normal env' σ' else .bad) = .ok e env' σ' := h
    cases hr : evP A Γ rows env σ with
    | mk ok p =>
      obtain ⟨env1, σ1⟩ := p
      rw [hr] at h
      cases ok
      · cases h
      · cases h; exact avc_reg hr rfl hK
  | bad => intro K env σ e env' σ' h hK; cases h
  | rfun f ps a b _ _ => intro K env σ e env' σ' h hK; cases h
  | regd st rcs ds =>
    intro K env σ e env' σ' h hK
    have h : (match evDr A Γ st rcs ds env σ with | (ok, env', σ') => bif ok then RR.ok .normal env' σ' else .bad) = .ok e env' σ' := h
    cases hr : evDr A Γ st rcs ds env σ with
    | mk ok p =>
      obtain ⟨env1, σ1⟩ := p
      rw [hr] at h
      cases ok
      · cases h
      · cases h; exact avc_regd hr rfl hK
/-- A function's code and results. -/
structure Ent where
  nt : Nat
  code : ACode
  res : List ARes
def isRet : AX → Bool
  | .exit _ => false
  | _ => true
def runF (A : Ar) (Γ : Gam) (fuel : Nat) (x : Ent) (args : List AV) (σ : AH) : Out :=
  match run A Γ σ.next fuel x.code (envOf args 0 .leaf) σ with
  | .bad => bad σ
  | .ok e env σ' => match resL A env σ' x.res with
    | (ok, vs) => (ok && isRet e && Nat.ble args.length x.nt, retV vs, σ')
def Gam.grow (A : Ar) (fuel : Nat) (tab : T Ent) (Γ0 : Gam) (n : Nat) : Gam :=
  Nat.rec (motive := fun _ => Gam) Γ0 (fun _ Γ f args σ => match tab.get f with
    | none => Γ0 f args σ
    | some x => runF A Γ fuel x args σ) n
def TabOk (P : Program) (G : Nat) (pu : FuncId → Bool) (tab : T Ent) : Prop := ∀ f x, tab.get f = some x → ∃ fn c, P.funcs[f]? = some fn ∧ fn.body = some c ∧ (fn.name == "runtime.NumGoroutine") = false ∧ fn.ntmps = x.nt ∧ compC P G fn.ntmps pu c = some x.code ∧ compR P fn.results.toList = some x.res ∧ Nat.ble fn.ntmps 1048576 = true
theorem grow_ok {P : Program} {G fuel : Nat} {pu : FuncId → Bool} {tab : T Ent} {Γ0 : Gam} (hm : P.follows .mixedOrders = true) (h0 : GamOk P G Γ0) (ht : TabOk P G pu tab) (hpu : PuOk Γ0 pu) (hpt : ∀ f, pu f = true → tab.get f = none) (n : Nat) :
    GamOk P G (Gam.grow std fuel tab Γ0 n) ∧ PuOk (Gam.grow std fuel tab Γ0 n) pu := by
  induction n with
  | zero => exact ⟨h0, hpu⟩
  | succ n ih =>
    refine ⟨?_, fun f hf args σ σ' => ?_⟩
    · intro f args σ hok
      have e : Gam.grow std fuel tab Γ0 (n + 1) f args σ = (match tab.get f with | none => Γ0 f args σ | some x => runF std (Gam.grow std fuel tab Γ0 n) fuel x args σ) := rfl
      rw [e] at hok ⊢
      cases hx : tab.get f with
      | none => rw [hx] at hok; exact h0 f args σ hok
      | some x =>
        rw [hx] at hok
        dsimp only at hok ⊢
        obtain ⟨fn, c, e1, e2, e3, e4, e5, e6, e7⟩ := ht f x hx
        refine ⟨⟨fn, e1, by rw [e2]; rfl, e3⟩, fun ρ W vs hG hr hvs => ?_⟩
        unfold runF at hok ⊢
        cases hrun : run std (Gam.grow std fuel tab Γ0 n) σ.next fuel x.code (envOf args 0 .leaf) σ with
        | bad => rw [hrun] at hok; cases hok
        | ok ex env σ' =>
          rw [hrun] at hok
          dsimp only at hok ⊢
          cases hres : resL std env σ' x.res with
          | mk ok vs' =>
            rw [hres] at hok
            dsimp only at hok ⊢
            simp only [Bool.and_eq_true] at hok
            obtain ⟨⟨k1, k2⟩, k3⟩ := hok
            refine (call_sound (K := fun av σ1 => av = retV vs' ∧ σ1 = σ') hm ih.1 ih.2 e1 e2 e5 e6 e7 (by rw [e4]; exact k3) (run_avc x.code _ _ _ _ _ _ hrun ⟨?_, by rw [hres]; exact k1, by rw [hres], rfl⟩) hG hr hvs).mono ?_
            · cases ex with
              | normal => trivial
              | ret => trivial
              | exit i => cases k2
            · rintro e' W' ⟨v, av, σ1, ρ', h1, ⟨rfl, rfl⟩, h3, h4, h5⟩
              exact ⟨v, ρ', h1, h3, h4, h5⟩
    · have e : ∀ σ, Gam.grow std fuel tab Γ0 (n + 1) f args σ = (match tab.get f with | none => Γ0 f args σ | some x => runF std (Gam.grow std fuel tab Γ0 n) fuel x args σ) := fun _ => rfl
      rw [e, e, hpt f hf]
      exact hpu f hf args σ σ'
end
end Go.Proofs.YtjkicmlelilcaaaDoor.V2
namespace Go.Proofs.YtjkicmlelilcaaaDoor
open Go
/-- A tree of things by number. -/
inductive T (α : Type) where
  | leaf
  | node (v : Option α) (l r : T α)
namespace T
variable {α : Type}
def vl : T α → Option α
  | leaf => none
  | node v _ _ => v
def le : T α → T α
  | leaf => leaf
  | node _ l _ => l
def ri : T α → T α
  | leaf => leaf
  | node _ _ r => r
noncomputable def get (t : T α) : Nat → Option α :=
  T.rec (motive := fun _ => Nat → Option α) (fun _ => none) (fun v _ _ gl gr n => bif Nat.beq n 0 then v else bif Nat.beq (n % 2) 1 then gl (n / 2) else gr (n / 2 - 1)) t
noncomputable def set (f : Nat) : T α → Nat → α → T α :=
  Nat.rec (motive := fun _ => T α → Nat → α → T α) (fun t _ x => node (some x) t.le t.ri)
    (fun _ ih t n x => bif Nat.beq n 0 then node (some x) t.le t.ri else bif Nat.beq (n % 2) 1 then node t.vl (ih t.le (n / 2) x) t.ri else node t.vl t.le (ih t.ri (n / 2 - 1) x)) f
noncomputable def put (t : T α) (n : Nat) (x : α) : T α := set 20 t n x
theorem beq_t {a b : Nat} (h : a = b) : Nat.beq a b = true := by subst h; exact Nat.beq_refl a
theorem beq_f {a b : Nat} (h : a ≠ b) : Nat.beq a b = false := by rw [Bool.eq_false_iff]; exact fun e => h (Nat.eq_of_beq_eq_true e)
theorem get_eq (t : T α) (n : Nat) : t.get n = bif Nat.beq n 0 then t.vl else bif Nat.beq (n % 2) 1 then t.le.get (n / 2) else t.ri.get (n / 2 - 1) := by
  cases t with
  | leaf => show none = _; cases Nat.beq n 0 <;> cases Nat.beq (n % 2) 1 <;> rfl
  | node v l r => rfl
theorem set_succ (f : Nat) (t : T α) (n : Nat) (x : α) : set (f + 1) t n x = bif Nat.beq n 0 then node (some x) t.le t.ri else bif Nat.beq (n % 2) 1 then node t.vl (set f t.le (n / 2) x) t.ri else node t.vl t.le (set f t.ri (n / 2 - 1) x) := rfl
theorem get_set (f : Nat) : ∀ (t : T α) (n m : Nat) (x : α), n < 2 ^ f → (set f t n x).get m = if m = n then some x else t.get m := by
  induction f with
  | zero =>
    intro t n m x h
    have hn : n = 0 := by simpa using h
    subst hn
    show (node (some x) t.le t.ri).get m = _
    rw [get_eq, get_eq t]
    by_cases hm : m = 0
    · subst hm; simp [vl]
    · simp only [beq_f hm, cond_false, if_neg hm]; rfl
  | succ f ih =>
    intro t n m x h
    rw [Nat.pow_succ] at h
    rw [set_succ]
    by_cases hn : n = 0
    · subst hn
      rw [beq_t rfl, cond_true, get_eq, get_eq t]
      by_cases hm : m = 0
      · subst hm; simp [vl]
      · simp only [beq_f hm, cond_false, if_neg hm]; rfl
    · rw [beq_f hn, cond_false]
      by_cases ho : n % 2 = 1
      · rw [beq_t ho, cond_true, get_eq, get_eq t]
        by_cases hm : m = 0
        · subst hm; simp [vl, Ne.symm hn]
        · rw [beq_f hm, cond_false, cond_false]
          by_cases hmo : m % 2 = 1
          · rw [beq_t hmo, cond_true, cond_true]
            show (set f t.le (n / 2) x).get (m / 2) = _
            rw [ih _ _ _ _ (by omega)]
            by_cases hmn : m = n
            · subst hmn; simp
            · rw [if_neg (by omega), if_neg hmn]
          · rw [beq_f hmo, cond_false, cond_false, if_neg (by rintro rfl; exact hmo ho)]; rfl
      · rw [beq_f ho, cond_false, get_eq, get_eq t]
        by_cases hm : m = 0
        · subst hm; simp [vl, Ne.symm hn]
        · rw [beq_f hm, cond_false, cond_false]
          by_cases hmo : m % 2 = 1
          · rw [beq_t hmo, cond_true, cond_true, if_neg (by rintro rfl; exact ho hmo)]; rfl
          · rw [beq_f hmo, cond_false, cond_false]
            show (set f t.ri (n / 2 - 1) x).get (m / 2 - 1) = _
            rw [ih _ _ _ _ (by omega)]
            by_cases hmn : m = n
            · subst hmn; simp
            · rw [if_neg (by omega), if_neg hmn]
theorem get_put (t : T α) (n m : Nat) (x : α) (h : n < 1048576) : (t.put n x).get m = if m = n then some x else t.get m := get_set 20 t n m x h
theorem get_leaf (n : Nat) : (leaf : T α).get n = none := rfl
end T
inductive AV where
  | top
  | bool (b : Bool)
  | int (k : IntKind) (n : Int)
  | str (l : List UInt8)
  | ptr (b off : Nat)
  | nilptr
  | sl (b off len cap : Nat) (exact : Bool) (sz : Nat)
  | nilsl
  | map (b : Nat)
  | nilmap
  | fn (f : Fn) (first captured : List AV)
  | nilfn
  | ifc (t : TypeId) (v : AV)
  | nilifc
  | agg (l : List AV)
  | ints (k : IntKind) (l : List Int)
  | tup (l : List AV)
instance : Inhabited AV := ⟨.top⟩
/-- Where an abstract block lies: in which block, how far behind its begin, and how many cells that block has. -/
abbrev Ren := Nat → Option (Nat × (Nat × Nat))
mutual
/-- A value as an abstract one says it. -/
def VR (ρ : Ren) : AV → Value → Prop
  | .top, _ => True
  | .bool b, v => v = .bool b
  | .int k n, v => v = .int k n
  | .str l, v => v = .string ⟨l.toArray⟩
  | .ptr b o, v => ∃ c d, ρ b = some (c, d) ∧ v = .pointer (some ⟨c, o + d.1, none⟩)
  | .nilptr, v => v = .pointer none
  | .sl b o n k e z, v => (∃ c d o' k', ρ b = some (c, d) ∧ v = .slice (some ⟨c, o', none⟩) n k' ∧ (k ≠ 0 → o' = o + d.1) ∧ n ≤ k ∧ k ≤ k' ∧ (e = true → k' = k) ∧ o' + k' * z ≤ d.2) ∨ (n = 0 ∧ k = 0 ∧ e = false ∧ ∃ p, v = .slice p 0 0)
  | .nilsl, v => v = .slice none 0 0
  | .map b, v => ∃ c d, ρ b = some (c, d) ∧ v = .map (some c)
  | .nilmap, v => v = .map none
  | .fn f xs ys, v => ∃ us vs : List Value, v = .func f us.toArray vs.toArray ∧ VRs ρ xs us ∧ VRs ρ ys vs
  | .nilfn, v => v = .nilFunc
  | .ifc t a, v => ∃ u, v = .iface t u ∧ VR ρ a u
  | .nilifc, v => v = .nilIface
  | .agg l, v => ∃ us : List Value, v = .agg us.toArray ∧ VRs ρ l us
  | .ints k l, v => v = .agg (l.map (Value.int k)).toArray
  | .tup l, v => ∃ us : List Value, v = .tuple us.toArray ∧ VRs ρ l us
def VRs (ρ : Ren) : List AV → List Value → Prop
  | [], vs => vs = []
  | a :: l, vs => ∃ v m, vs = v :: m ∧ VR ρ a v ∧ VRs ρ l m
end
def Sub (ρ ρ' : Ren) : Prop := ∀ b x, ρ b = some x → ρ' b = some x
mutual
theorem VR.mono {ρ ρ' : Ren} (h : Sub ρ ρ') : ∀ (a : AV) (v : Value), VR ρ a v → VR ρ' a v
  | .top, _, _ => trivial
  | .bool _, _, e => e
  | .int _ _, _, e => e
  | .str _, _, e => e
  | .ptr _ _, _, ⟨c, d, hc, e⟩ => ⟨c, d, h _ _ hc, e⟩
  | .nilptr, _, e => e
  | .sl _ _ _ _ _ _, _, .inl ⟨c, d, o, k, hc, e⟩ => .inl ⟨c, d, o, k, h _ _ hc, e⟩
  | .sl _ _ _ _ _ _, _, .inr e => .inr e
  | .nilsl, _, e => e
  | .map _, _, ⟨c, d, hc, e⟩ => ⟨c, d, h _ _ hc, e⟩
  | .nilmap, _, e => e
  | .fn _ xs ys, _, ⟨us, vs, e, h1, h2⟩ => ⟨us, vs, e, VRs.mono h xs us h1, VRs.mono h ys vs h2⟩
  | .nilfn, _, e => e
  | .ifc _ a, _, ⟨u, e, hu⟩ => ⟨u, e, VR.mono h a u hu⟩
  | .nilifc, _, e => e
  | .agg l, _, ⟨us, e, hu⟩ => ⟨us, e, VRs.mono h l us hu⟩
  | .ints _ _, _, e => e
  | .tup l, _, ⟨us, e, hu⟩ => ⟨us, e, VRs.mono h l us hu⟩
theorem VRs.mono {ρ ρ' : Ren} (h : Sub ρ ρ') : ∀ (l : List AV) (vs : List Value), VRs ρ l vs → VRs ρ' l vs
  | [], _, e => e
  | a :: l, _, ⟨v, m, e, hv, hm⟩ => ⟨v, m, e, VR.mono h a v hv, VRs.mono h l m hm⟩
end
theorem VRs.length {ρ : Ren} : ∀ {l : List AV} {vs : List Value}, VRs ρ l vs → vs.length = l.length
  | [], _, e => by rw [show _ = [] from e]; rfl
  | _ :: _, _, ⟨_, _, e, _, hm⟩ => by rw [e]; simp [VRs.length hm]
theorem VRs.at {ρ : Ren} : ∀ {l : List AV} {vs : List Value}, VRs ρ l vs → ∀ (i : Nat) a, l[i]? = some a → ∃ v, vs[i]? = some v ∧ VR ρ a v
  | [], _, _, i, a, h => by simp at h
  | x :: l, _, ⟨v, m, e, hv, hm⟩, i, a, h => by
    subst e
    cases i with
    | zero => simp only [List.getElem?_cons_zero, Option.some.injEq] at h; subst h; exact ⟨v, rfl, hv⟩
    | succ i => exact VRs.at hm i a (by simpa using h)
theorem VRs.of {ρ : Ren} : ∀ (l : List AV) (vs : List Value), vs.length = l.length → (∀ (i : Nat) a, l[i]? = some a → ∃ v, vs[i]? = some v ∧ VR ρ a v) → VRs ρ l vs
  | [], vs, hl, _ => List.length_eq_zero_iff.1 hl
  | a :: l, [], hl, _ => by simp at hl
  | a :: l, v :: m, hl, h => by
    refine ⟨v, m, rfl, ?_, VRs.of l m (by simpa using hl) fun i b hb => ?_⟩
    · obtain ⟨u, hu, hr⟩ := h 0 a rfl
      simp only [List.getElem?_cons_zero, Option.some.injEq] at hu
      rw [hu]; exact hr
    · obtain ⟨u, hu, hr⟩ := h (i + 1) b (by simpa using hb)
      exact ⟨u, by simpa using hu, hr⟩
theorem VRs.append {ρ : Ren} : ∀ {l l' : List AV} {vs vs' : List Value}, VRs ρ l vs → VRs ρ l' vs' → VRs ρ (l ++ l') (vs ++ vs')
  | [], _, _, _, e, h => by rw [show _ = [] from e]; exact h
  | _ :: _, _, _, _, ⟨v, m, e, hv, hm⟩, h => by subst e; exact ⟨v, m ++ _, rfl, hv, VRs.append hm h⟩
/-- What holds one cell. -/
def AV.one : AV → Bool
  | .top | .agg _ | .ints _ _ | .tup _ => false
  | _ => true
theorem VR.one {ρ : Ren} {a : AV} {v : Value} (h : VR ρ a v) (ho : a.one = true) : v.oneCell' = true := by
  cases a <;> simp only [AV.one, Bool.false_eq_true] at ho <;> unfold VR at h
  all_goals first
    | (subst h; rfl)
    | (obtain ⟨_, _, _, h⟩ := h; subst h; rfl)
    | (rcases h with ⟨_, _, _, _, _, h, _⟩ | ⟨_, _, _, _, h⟩ <;> (subst h; rfl))
    | (obtain ⟨_, _, h, _⟩ := h; subst h; rfl)
    | (obtain ⟨_, h, _⟩ := h; subst h; rfl)
def AV.known : AV → Bool
  | .top => false
  | _ => true
def AV.cells : AV → List AV
  | .agg l => l
  | .ints k l => l.map (AV.int k)
  | a => [a]
theorem VRs.ints {ρ : Ren} (k : IntKind) : ∀ (l : List Int), VRs ρ (l.map (AV.int k)) (l.map (Value.int k))
  | [] => rfl
  | _n :: l => ⟨_, _, rfl, rfl, VRs.ints k l⟩
theorem VR.cells {ρ : Ren} {a : AV} {v : Value} (h : VR ρ a v) (hk : a.known = true) : VRs ρ a.cells v.cells.toList := by
  have sing : ∀ {a : AV} {v : Value}, VR ρ a v → v.cells = #[v] → VRs ρ [a] v.cells.toList := fun h e => by rw [e]; exact ⟨_, _, rfl, h, rfl⟩
  cases a
  case top => simp [AV.known] at hk
  case agg l => unfold VR at h; obtain ⟨us, rfl, hu⟩ := h; simpa [Value.cells, AV.cells] using hu
  case ints k l => unfold VR at h; subst h; simpa [Value.cells, AV.cells] using VRs.ints k l
  all_goals
    refine sing h ?_
    unfold VR at h
    first
      | (subst h; rfl)
      | (obtain ⟨_, _, _, h⟩ := h; subst h; rfl)
      | (rcases h with ⟨_, _, _, _, _, h, _⟩ | ⟨_, _, _, _, h⟩ <;> (subst h; rfl))
      | (obtain ⟨_, _, h, _⟩ := h; subst h; rfl)
      | (obtain ⟨_, h, _⟩ := h; subst h; rfl)
/-- Whether a block may have more cells than are said; whether it may only be read (and may then be another read-only block's, too). -/
inductive Tl where
  | exact
  | more
  | ro
def Tl.wide : Tl → Bool
  | .exact => false
  | _ => true
def Tl.isRo : Tl → Bool
  | .ro => true
  | _ => false
inductive AObj where
  | dead
  | cells (l : List AV) (elem : TypeId) (tail : Tl)
  | ints (k : IntKind) (l : List Int) (elem : TypeId) (tail : Tl)
def AObj.len : AObj → Nat
  | .dead => 0
  | .cells l _ _ => l.length
  | .ints _ l _ _ => l.length
def AObj.at (o : AObj) (i : Nat) : Option AV := match o with
  | .dead => none
  | .cells l _ _ => l[i]?
  | .ints k l _ _ => (l[i]?).map (.int k)
def AObj.elem : AObj → TypeId
  | .dead => 0
  | .cells _ e _ => e
  | .ints _ _ e _ => e
def AObj.tail : AObj → Bool
  | .dead => true
  | .cells _ _ t => t.wide
  | .ints _ _ _ t => t.wide
def AObj.isRo : AObj → Bool
  | .dead => false
  | .cells _ _ t => t.isRo
  | .ints _ _ _ t => t.isRo
def AObj.alive : AObj → Bool
  | .dead => false
  | _ => true
def Free (c : Array Value) (fr : Nat × Nat) : Prop := ∀ i, i < c.size → ¬(fr.1 ≤ i ∧ i < fr.2)
/-- A block as an abstract one says it, from cell d on. -/
def OR (ρ : Ren) (d : Nat × Nat) (o : AObj) (x : Option Obj) : Prop :=
  o.alive = true → o.len + d.1 ≤ d.2 ∧ ((o.isRo = true → 0 < o.len) → ∃ c e fr, x = some (.cells c e fr) ∧ (o.isRo = false → e = o.elem ∧ Free c fr ∧ c.size = d.2) ∧ o.len + d.1 ≤ c.size ∧ o.len + d.1 ≤ d.2 ∧ ∀ i a, o.at i = some a → ∃ v, c[i + d.1]? = some v ∧ VR ρ a v)
theorem OR.mk' {ρ : Ren} {d : Nat × Nat} {o : AObj} {x : Option Obj} (h : o.alive = true → ∃ c e fr, x = some (.cells c e fr) ∧ (o.isRo = false → e = o.elem ∧ Free c fr ∧ c.size = d.2) ∧ o.len + d.1 ≤ c.size ∧ o.len + d.1 ≤ d.2 ∧ ∀ i a, o.at i = some a → ∃ v, c[i + d.1]? = some v ∧ VR ρ a v) : OR ρ d o x :=
  fun ha => ⟨by obtain ⟨c, e, fr, _, _, _, h4, _⟩ := h ha; exact h4, fun _ => h ha⟩
structure AH where
  next : Nat
  mem : T AObj
noncomputable def AH.get (σ : AH) (b : Nat) : Option AObj := σ.mem.get b
noncomputable def AH.put (σ : AH) (b : Nat) (o : AObj) : AH := { σ with mem := σ.mem.put b o }
/-- Two names of one block. -/
def Shr (σ : AH) (b b' : Nat) : Prop := σ.get b = some .dead ∨ σ.get b' = some .dead ∨ ∃ o o', σ.get b = some o ∧ σ.get b' = some o' ∧ o.isRo = true ∧ o'.isRo = true
theorem Shr.congr {σ σ' : AH} {b b' : Nat} (h : Shr σ b b') (h1 : σ'.get b = σ.get b) (h2 : σ'.get b' = σ.get b') : Shr σ' b b' := by
  unfold Shr; rw [h1, h2]; exact h
theorem Shr.left {σ : AH} {b b' : Nat} {o : AObj} (h : Shr σ b b') (ho : σ.get b = some o) (hal : o.alive = true) (hro : o.isRo = false) : σ.get b' = some .dead := by
  rcases h with e | e | ⟨o1, _, e, _, e2, _⟩
  · rw [ho] at e; cases e; cases hal
  · exact e
  · rw [ho] at e; cases e; rw [hro] at e2; cases e2
/-- A world as an abstract memory says it. -/
structure HR (ρ : Ren) (σ : AH) (W : World) : Prop where
  small : σ.next ≤ 1000000
  none_ : ∀ b, σ.next ≤ b → σ.get b = none
  dom : ∀ b c d, ρ b = some (c, d) → b < σ.next ∧ c < W.heap.size ∧ ∃ o, σ.get b = some o ∧ OR ρ d o W.heap[c]?
  inj : ∀ b b' c d d', ρ b = some (c, d) → ρ b' = some (c, d') → b ≠ b' → Shr σ b b'
/-- What a step keeps. -/
structure Stp (N : Nat) (ρ : Ren) (σ : AH) (W : World) (ρ' : Ren) (σ' : AH) (W' : World) : Prop where
  ext : ∀ b, b < N → ρ' b = ρ b
  img : ∀ b c d, ρ' b = some (c, d) → (∃ b0 d0, ρ b0 = some (c, d0)) ∨ W.heap.size ≤ c
  next : N ≤ σ'.next
  keep : ∀ b o, b < N → ρ b = none → σ.get b = some o → o.tail = false → σ'.get b = some o
  frame : ∀ c, c < W.heap.size → (∀ b d, ρ b ≠ some (c, d)) → W'.heap[c]? = W.heap[c]?
  tape : W'.tape = W.tape
  os : W'.os = W.os
  output : W'.output = W.output
  size : W.heap.size ≤ W'.heap.size
  ro : ∀ b c d o, b < N → ρ b = some (c, d) → c < W.heap.size → σ.get b = some o → o.isRo = true → σ'.get b = some o ∧ W'.heap[c]? = W.heap[c]?
theorem Stp.refl {N : Nat} {ρ : Ren} {σ : AH} {W : World} (h : N ≤ σ.next) : Stp N ρ σ W ρ σ W :=
  ⟨fun _ _ => rfl, fun b _c d h => .inl ⟨b, d, h⟩, h, fun _ _ _ _ h _ => h, fun _ _ _ => rfl, rfl, rfl, rfl, Nat.le_refl _, fun _ _ _ _ _ _ _ h _ => ⟨h, rfl⟩⟩
theorem Stp.trans {N M : Nat} {ρ ρ' ρ'' : Ren} {σ σ' σ'' : AH} {W W' W'' : World} (h : Stp N ρ σ W ρ' σ' W') (h' : Stp M ρ' σ' W' ρ'' σ'' W'') (hM : N ≤ M) : Stp N ρ σ W ρ'' σ'' W'' where
  ext b hb := (h'.ext b (Nat.lt_of_lt_of_le hb hM)).trans (h.ext b hb)
  img b c d hc := by
    rcases h'.img b c d hc with ⟨b0, d0, h0⟩ | h0
    · exact h.img b0 c d0 h0
    · exact .inr (Nat.le_trans h.size h0)
  next := Nat.le_trans hM h'.next
  keep b o hb hn ho ht := h'.keep b o (Nat.lt_of_lt_of_le hb hM) ((h.ext b hb).trans hn) (h.keep b o hb hn ho ht) ht
  frame c hc hn := (h'.frame c (Nat.lt_of_lt_of_le hc h.size) fun b d hb => by
    rcases h.img b c d hb with ⟨b0, d0, h0⟩ | h0
    · exact hn b0 d0 h0
    · exact absurd hc (by omega)).trans (h.frame c hc hn)
  tape := h'.tape.trans h.tape
  os := h'.os.trans h.os
  output := h'.output.trans h.output
  size := Nat.le_trans h.size h'.size
  ro b c d o hb hρ hc ho hr := by
    obtain ⟨h1, h2⟩ := h.ro b c d o hb hρ hc ho hr
    obtain ⟨h3, h4⟩ := h'.ro b c d o (Nat.lt_of_lt_of_le hb hM) ((h.ext b hb).trans hρ) (Nat.lt_of_lt_of_le hc h.size) h1 hr
    exact ⟨h3, h4.trans h2⟩
theorem Stp.sub {ρ ρ' : Ren} {σ σ' : AH} {W W' : World} (h : Stp σ.next ρ σ W ρ' σ' W') (hr : HR ρ σ W) : Sub ρ ρ' := fun b x hc => by
  rw [h.ext b (hr.dom b x.1 x.2 hc).1]; exact hc
end Go.Proofs.YtjkicmlelilcaaaDoor
namespace Go.Proofs.YtjkicmlelilcaaaDoor
open Go
/-- The reckoning, as a parameter: so that a walk may leave it unreckoned. -/
structure Ar where
  add : Int → Int → Int
  sub : Int → Int → Int
  mul : Int → Int → Int
  tdiv : Int → Int → Int
  tmod : Int → Int → Int
  bits : BinOp → IntKind → Int → Int → Int
  shl : IntKind → Int → Int → Int
  shr : IntKind → Int → Int → Int
  eq : Int → Int → Bool
  lt : Int → Int → Bool
  le : Int → Int → Bool
  wr : IntKind → Int → Int
  ton : Int → Nat
  addN : Nat → Nat → Nat
  mulN : Nat → Nat → Nat
  subN : Nat → Nat → Nat
  ltN : Nat → Nat → Bool
  leN : Nat → Nat → Bool
  eqN : Nat → Nat → Bool
  len : List Int → Nat
  get : List Int → Nat → Int
  set : List Int → Nat → Int → List Int
  part : List Int → Nat → Nat → List Int
  lay : List Int → Nat → List Int → List Int
  app : List Int → List Int → List Int
  sint : List UInt8 → List Int
  slen : List UInt8 → Nat
  sapp : List UInt8 → List UInt8 → List UInt8
  spart : List UInt8 → Nat → Nat → List UInt8
  seq : List UInt8 → List UInt8 → Bool
  slt : List UInt8 → List UInt8 → Bool
/-- Wrapping round, by literal numbers. -/
def wr : IntKind → Int → Int
  | .u8, n => n % 256
  | .u16, n => n % 65536
  | .u32, n => n % 4294967296
  | .u64, n => n % 18446744073709551616
  | .i8, n => (n + 128) % 256 - 128
  | .i16, n => (n + 32768) % 65536 - 32768
  | .i32, n => (n + 2147483648) % 4294967296 - 2147483648
  | .i64, n => (n + 9223372036854775808) % 18446744073709551616 - 9223372036854775808
def stdBits (op : BinOp) (k : IntKind) (a b : Int) : Int := match op with
  | .and => ((BitVec.ofInt k.bits a &&& BitVec.ofInt k.bits b).toNat : Nat)
  | .or => ((BitVec.ofInt k.bits a ||| BitVec.ofInt k.bits b).toNat : Nat)
  | .xor => ((BitVec.ofInt k.bits a ^^^ BitVec.ofInt k.bits b).toNat : Nat)
  | _ => ((BitVec.ofInt k.bits a &&& ~~~(BitVec.ofInt k.bits b)).toNat : Nat)
def std : Ar where
  add a b := a + b
  sub a b := a - b
  mul a b := a * b
  tdiv := Int.tdiv
  tmod := Int.tmod
  bits := stdBits
  shl k a b := a * 2 ^ (min b.toNat k.bits)
  shr k a b := a.fdiv (2 ^ (min b.toNat k.bits))
  eq a b := decide (a = b)
  lt a b := decide (a < b)
  le a b := decide (a ≤ b)
  wr := Go.Proofs.YtjkicmlelilcaaaDoor.wr
  ton := Int.toNat
  addN a b := a + b
  mulN a b := a * b
  subN a b := a - b
  ltN a b := Nat.blt a b
  leN a b := Nat.ble a b
  eqN a b := Nat.beq a b
  len := List.length
  get l i := l.getD i 0
  set l i x := l.set i x
  part l o n := (l.drop o).take n
  lay l o m := l.take o ++ m ++ l.drop (o + m.length)
  app l m := l ++ m
  sint l := l.map fun b => (b.toNat : Int)
  slen := List.length
  sapp a b := a ++ b
  spart l o n := (l.drop o).take n
  seq a b := a == b
  slt := Op.bytesLess
def AObj.atD (A : Ar) (o : AObj) (i : Nat) : AV := match o with
  | .dead => .top
  | .cells l _ _ => l.getD i .top
  | .ints k l _ _ => .int k (A.get l i)
def AObj.atOk (A : Ar) (o : AObj) (i : Nat) : Bool := match o with
  | .dead => false
  | .cells l _ _ => Nat.blt i l.length
  | .ints _ l _ _ => A.ltN i (A.len l)
theorem AObj.at_of_ok {o : AObj} {i : Nat} (h : o.atOk std i = true) : o.at i = some (o.atD std i) := by
  cases o with
  | dead => cases h
  | cells l e t =>
    have h : Nat.blt i l.length = true := h
    rw [Nat.blt_eq] at h
    simp [AObj.at, AObj.atD, h]
  | ints k l e t =>
    have h : Nat.blt i l.length = true := h
    rw [Nat.blt_eq] at h
    simp [AObj.at, AObj.atD, std, h]
theorem AObj.at_alive {o : AObj} {i : Nat} {a : AV} (h : o.at i = some a) : o.alive = true := by
  cases o <;> simp [AObj.at, AObj.alive] at h ⊢
theorem AObj.at_lt {o : AObj} {i : Nat} {a : AV} (h : o.at i = some a) : i < o.len := by
  cases o with
  | dead => simp [AObj.at] at h
  | cells l e t => exact (List.getElem?_eq_some_iff.1 h).1
  | ints k l e t =>
    simp only [AObj.at, Option.map_eq_some_iff] at h
    obtain ⟨n, h, _⟩ := h
    exact (List.getElem?_eq_some_iff.1 h).1
theorem AH.get_put {σ : AH} {b : Nat} {o : AObj} (h : b < 1048576) (m : Nat) : (σ.put b o).get m = if m = b then some o else σ.get m := T.get_put _ _ _ _ h
theorem HR.load {ρ : Ren} {σ : AH} {W : World} (h : HR ρ σ W) {b c i : Nat} {d : Nat × Nat} {o : AObj} {a : AV} (hb : ρ b = some (c, d)) (ho : σ.get b = some o) (ha : o.at i = some a) :
    ∃ v, W.cell? ⟨c, i + d.1, none⟩ = some v ∧ VR ρ a v := by
  obtain ⟨_, hc, o', ho', hO⟩ := h.dom b c d hb
  rw [ho] at ho'; cases ho'
  obtain ⟨cs, e, fr, hx, _, hlen, _, hat⟩ := (hO (AObj.at_alive ha)).2 (fun _ => Nat.lt_of_le_of_lt (Nat.zero_le _) (AObj.at_lt ha))
  obtain ⟨v, hv, hr⟩ := hat i a ha
  exact ⟨v, by simp [World.cell?, hx, hv], hr⟩
theorem OR.mono {ρ ρ' : Ren} (h : Sub ρ ρ') {d : Nat × Nat} {o : AObj} {x : Option Obj} (hO : OR ρ d o x) : OR ρ' d o x := fun ha => ⟨(hO ha).1, fun hb => by
  obtain ⟨c, e, fr, h1, h2, h3, h4, h5⟩ := (hO ha).2 hb
  exact ⟨c, e, fr, h1, h2, h3, h4, fun i a hi => let ⟨v, hv, hr⟩ := h5 i a hi; ⟨v, hv, hr.mono h⟩⟩⟩
theorem setCell_heap (W : World) (c i : Nat) (v : Value) (k : Nat) : (W.setCell ⟨c, i, none⟩ v).heap[k]? = if k = c then (W.heap[c]?).map (fun | .cells cs e fr => .cells (cs.setIfInBounds i v) e fr | o => o) else W.heap[k]? := by
  unfold World.setCell
  show (W.heap.modify c _)[k]? = _
  rw [Array.getElem?_modify]
  by_cases hk : c = k
  · subst hk
    rw [if_pos rfl, if_pos rfl]
    cases W.heap[c]? with
    | none => rfl
    | some o => cases o <;> rfl
  · rw [if_neg hk, if_neg (Ne.symm hk)]
theorem HR.replace {ρ : Ren} {σ : AH} {W W' : World} (h : HR ρ σ W) {b c : Nat} {d : Nat × Nat} {o o' : AObj} (hb : ρ b = some (c, d)) (ho : σ.get b = some o) (hal : o.alive = true) (hro : o.isRo = false) (hO : OR ρ d o' W'.heap[c]?)
    (hother : ∀ k, k ≠ c → W'.heap[k]? = W.heap[k]?) (hsz : W'.heap.size = W.heap.size) (ht : W'.tape = W.tape) (hos : W'.os = W.os) (hout : W'.output = W.output) :
    HR ρ (σ.put b o') W' ∧ Stp σ.next ρ σ W ρ (σ.put b o') W' := by
  have hbn := (h.dom b c d hb).1
  have hs := h.small
  have hb20 : b < 1048576 := by omega
  have hdead : ∀ b' d', b' ≠ b → ρ b' = some (c, d') → σ.get b' = some .dead := fun b' d' hne hb' => by
    exact (h.inj b b' c d d' hb hb' (Ne.symm hne)).left ho hal hro
  refine ⟨⟨h.small, fun m hm => by rw [AH.get_put hb20, if_neg (by rintro rfl; exact absurd hm (by show ¬ σ.next ≤ _; omega))]; exact h.none_ m hm, fun b' c' d' hb' => ?_, fun b1 b2 c' d1 d2 h1 h2 hne => ?_⟩, ⟨fun _ _ => rfl, fun b' c' d' hb' => .inl ⟨b', d', hb'⟩, Nat.le_refl _, fun b' ob' _ hn ho' _ => ?_, fun k hk hn => ?_, ht, hos, hout, Nat.le_of_eq hsz.symm, fun b' c' d' ob _ hb' _ ho' hr' => ?ro⟩⟩
  case ro =>
    have hne : b' ≠ b := by rintro rfl; rw [ho] at ho'; cases ho'; rw [hro] at hr'; cases hr'
    refine ⟨by rw [AH.get_put hb20, if_neg hne]; exact ho', hother c' fun e => ?_⟩
    subst e
    have := hdead b' d' hne hb'
    rw [ho'] at this; cases this; cases hr'
  · obtain ⟨h1, h2, o2, h3, h4⟩ := h.dom b' c' d' hb'
    refine ⟨h1, by rw [hsz]; exact h2, ?_⟩
    rw [AH.get_put hb20]
    by_cases hbb : b' = b
    · subst hbb
      rw [hb] at hb'; cases hb'
      exact ⟨_, if_pos rfl, hO⟩
    · rw [if_neg hbb]
      refine ⟨o2, h3, ?_⟩
      by_cases hcc : c' = c
      · subst hcc
        have := hdead b' d' hbb hb'
        rw [h3] at this; cases this
        intro e; simp [AObj.alive] at e
      · rw [hother c' hcc]; exact h4
  · by_cases e1 : b1 = b
    · subst e1
      rw [hb] at h1; cases h1
      refine .inr (.inl ?_)
      rw [AH.get_put hb20, if_neg (Ne.symm hne)]
      exact hdead b2 d2 (Ne.symm hne) h2
    · by_cases e2 : b2 = b
      · subst e2
        rw [hb] at h2; cases h2
        refine .inl ?_
        rw [AH.get_put hb20, if_neg e1]
        exact hdead b1 d1 e1 h1
      · exact (h.inj b1 b2 c' d1 d2 h1 h2 hne).congr (by rw [AH.get_put hb20, if_neg e1]) (by rw [AH.get_put hb20, if_neg e2])
  · rw [AH.get_put hb20, if_neg (by rintro rfl; rw [hb] at hn; cases hn)]; exact ho'
  · rw [hother k (by rintro rfl; exact hn b d hb)]
/-- Cells laid one by one. -/
def setL (cs : Array Value) (o : Nat) : List Value → Array Value
  | [] => cs
  | v :: r => setL (cs.setIfInBounds o v) (o + 1) r
theorem setL_size : ∀ (vs : List Value) (o : Nat) (cs : Array Value), (setL cs o vs).size = cs.size
  | [], _, _ => rfl
  | v :: r, o, cs => by rw [setL, setL_size r]; simp
theorem setL_at : ∀ (vs : List Value) (o : Nat) (cs : Array Value), o + vs.length ≤ cs.size → ∀ j, (setL cs o vs)[j]? = if o ≤ j ∧ j < o + vs.length then vs[j - o]? else cs[j]?
  | [], o, cs, _, j => by rw [if_neg (by intro h; simp at h; omega)]; rfl
  | v :: r, o, cs, h, j => by
    simp only [List.length_cons] at h
    rw [setL, setL_at r (o + 1) _ (by simp; omega)]
    by_cases h1 : o + 1 ≤ j ∧ j < o + 1 + r.length
    · rw [if_pos h1, if_pos (by simp; omega), show j - o = (j - (o + 1)) + 1 by omega, List.getElem?_cons_succ]
    · rw [if_neg h1]
      by_cases hj : j = o
      · subst hj
        rw [if_pos (by simp)]
        simp [show j < cs.size by omega]
      · rw [Array.getElem?_setIfInBounds_ne (Ne.symm hj), if_neg (by simp; omega)]
theorem setCells_heap : ∀ (vs : List Value) (W : World) (c o k : Nat), (W.setCells c o vs).heap[k]? = if k = c then (W.heap[c]?).map (fun | .cells cs e fr => .cells (setL cs o vs) e fr | x => x) else W.heap[k]?
  | [], W, c, o, k => by
    show W.heap[k]? = _
    by_cases hk : k = c
    · subst hk; rw [if_pos rfl]
      cases W.heap[k]? with
      | none => rfl
      | some x => cases x <;> rfl
    · rw [if_neg hk]
  | v :: r, W, c, o, k => by
    rw [World.setCells, setCells_heap r, setCell_heap, setCell_heap]
    by_cases hk : k = c
    · subst hk; rw [if_pos rfl, if_pos rfl, if_pos rfl]
      cases W.heap[k]? with
      | none => rfl
      | some x => cases x <;> rfl
    · rw [if_neg hk, if_neg hk, if_neg hk]
theorem setCells_rest : ∀ (vs : List Value) (W : World) (c o : Nat), (W.setCells c o vs).tape = W.tape ∧ (W.setCells c o vs).os = W.os ∧ (W.setCells c o vs).output = W.output ∧ (W.setCells c o vs).heap.size = W.heap.size
  | [], _, _, _ => ⟨rfl, rfl, rfl, rfl⟩
  | v :: r, W, c, o => by
    obtain ⟨h1, h2, h3, h4⟩ := setCells_rest r (W.setCell ⟨c, o, none⟩ v) c (o + 1)
    rw [World.setCells]
    exact ⟨h1, h2, h3, h4.trans (by simp [World.setCell])⟩
/-- What a value laid over a piece of a block makes of it. -/
def AObj.writeOk (A : Ar) (o : AObj) (off : Nat) (a : AV) : Bool := match o with
  | .dead => false
  | .cells l _ t => !t.isRo && (a.known && a.cells.all AV.one && Nat.ble (off + a.cells.length) l.length)
  | .ints k l _ t => match a with
    | .int k' _ => !t.isRo && (decide (k = k') && A.ltN off (A.len l))
    | .ints k' m => !t.isRo && (decide (k = k') && A.leN (A.addN off (A.len m)) (A.len l))
    | _ => false
def AObj.write (A : Ar) (o : AObj) (off : Nat) (a : AV) : AObj := match o with
  | .dead => .dead
  | .cells l e t => match a with
    | .agg m => .cells (l.take off ++ m ++ l.drop (off + m.length)) e t
    | .ints k m => .cells (l.take off ++ m.map (AV.int k) ++ l.drop (off + m.length)) e t
    | a => .cells (l.set off a) e t
  | .ints k l e t => match a with
    | .int _ n => .ints k (A.set l off n) e t
    | .ints _ m => .ints k (A.lay l off m) e t
    | _ => .dead
theorem splice_at {α : Type} (l m : List α) (off : Nat) (h : off + m.length ≤ l.length) (j : Nat) : (l.take off ++ m ++ l.drop (off + m.length))[j]? = if off ≤ j ∧ j < off + m.length then m[j - off]? else l[j]? := by
  rw [List.append_assoc, List.getElem?_append, List.length_take, Nat.min_eq_left (by omega)]
  by_cases h1 : j < off
  · rw [if_pos h1, if_neg (by omega), List.getElem?_take, if_pos h1]
  · rw [if_neg h1, List.getElem?_append]
    by_cases h2 : j - off < m.length
    · rw [if_pos h2, if_pos (by omega)]
    · rw [if_neg h2, if_neg (by omega), List.getElem?_drop, show off + m.length + (j - off - m.length) = j by omega]
theorem splice_length {α : Type} (l m : List α) (off : Nat) (h : off + m.length ≤ l.length) : (l.take off ++ m ++ l.drop (off + m.length)).length = l.length := by simp; omega
theorem set_as {α : Type} (l : List α) (off : Nat) (a : α) (h : off + 1 ≤ l.length) (j : Nat) : (l.set off a)[j]? = if off ≤ j ∧ j < off + 1 then [a][j - off]? else l[j]? := by
  rw [List.getElem?_set]
  by_cases hj : off = j
  · subst hj; rw [if_pos rfl, if_pos (by omega), if_pos (by omega)]; simp
  · rw [if_neg hj, if_neg (by omega)]
theorem AObj.write_spec {o : AObj} {off : Nat} {a : AV} (h : o.writeOk std off a = true) : o.isRo = false ∧ o.alive = true ∧ (o.write std off a).alive = true ∧ a.known = true ∧ a.cells.all AV.one = true ∧ off + a.cells.length ≤ o.len ∧ (o.write std off a).len = o.len ∧ (o.write std off a).elem = o.elem ∧ (o.write std off a).tail = o.tail ∧
    ∀ j, (o.write std off a).at j = if off ≤ j ∧ j < off + a.cells.length then a.cells[j - off]? else o.at j := by
  cases o with
  | dead => simp [AObj.writeOk] at h
  | cells l e t =>
    simp only [AObj.writeOk, Bool.and_eq_true, Nat.ble_eq] at h
    obtain ⟨h0, ⟨h1, h2⟩, h3⟩ := h
    have h0 : (AObj.cells l e t).isRo = false := by simpa [AObj.isRo] using h0
    cases a
    case agg m =>
      simp only [AV.cells] at h3
      exact ⟨h0, rfl, rfl, h1, h2, h3, splice_length l m off h3, rfl, rfl, splice_at l m off h3⟩
    case ints k m =>
      have h3' : off + m.length ≤ l.length := by simpa [AV.cells] using h3
      have e : l.take off ++ m.map (AV.int k) ++ l.drop (off + m.length) = l.take off ++ m.map (AV.int k) ++ l.drop (off + (m.map (AV.int k)).length) := by rw [List.length_map]
      refine ⟨h0, rfl, rfl, h1, h2, h3, ?_, rfl, rfl, fun j => ?_⟩
      · show (l.take off ++ m.map (AV.int k) ++ l.drop (off + m.length)).length = _
        rw [e]; exact splice_length l _ off h3
      · show (l.take off ++ m.map (AV.int k) ++ l.drop (off + m.length))[j]? = _
        rw [e]; exact splice_at l _ off h3 j
    all_goals exact ⟨h0, rfl, rfl, h1, h2, h3, by simp [AObj.write, AObj.len], rfl, rfl, set_as l off _ h3⟩
  | ints k l e t =>
    cases a with
    | int k' n =>
      simp only [AObj.writeOk, std, Bool.and_eq_true, decide_eq_true_eq, Nat.blt_eq] at h
      obtain ⟨h0, rfl, h⟩ := h
      have h0 : (AObj.ints k l e t).isRo = false := by simpa [AObj.isRo] using h0
      refine ⟨h0, rfl, rfl, rfl, rfl, h, by simp [AObj.write, AObj.len, std], rfl, rfl, fun j => ?_⟩
      show ((l.set off n)[j]?).map _ = _
      show _ = if off ≤ j ∧ j < off + 1 then [AV.int k n][j - off]? else (l[j]?).map (AV.int k)
      rw [set_as l off n h]
      by_cases hj : off ≤ j ∧ j < off + 1
      · rw [if_pos hj, if_pos hj, show j - off = 0 by omega]; rfl
      · rw [if_neg hj, if_neg hj]
    | ints k' m =>
      simp only [AObj.writeOk, std, Bool.and_eq_true, decide_eq_true_eq, Nat.ble_eq] at h
      obtain ⟨h0, rfl, h⟩ := h
      have h0 : (AObj.ints k l e t).isRo = false := by simpa [AObj.isRo] using h0
      refine ⟨h0, rfl, rfl, rfl, ?_, by simp only [AV.cells, List.length_map]; exact h, splice_length l m off h, rfl, rfl, fun j => ?_⟩
      · simp [AV.cells, AV.one]
      · show ((l.take off ++ m ++ l.drop (off + m.length))[j]?).map _ = _
        rw [splice_at l m off h]
        simp only [AV.cells, List.length_map]
        by_cases hj : off ≤ j ∧ j < off + m.length
        · rw [if_pos hj, if_pos hj]; simp
        · rw [if_neg hj, if_neg hj]; rfl
    | _ => simp [AObj.writeOk] at h
theorem HR.store {ρ : Ren} {σ : AH} {W : World} (h : HR ρ σ W) (P : Program) {b c off : Nat} {d : Nat × Nat} {o : AObj} {a : AV} {v : Value} (hb : ρ b = some (c, d)) (ho : σ.get b = some o) (ha : o.writeOk std off a = true) (hv : VR ρ a v) :
    ∃ W', (storeCells ⟨c, off + d.1, none⟩ v.cells.toList).run P W = .ok () W' ∧ HR ρ (σ.put b (o.write std off a)) W' ∧ Stp σ.next ρ σ W ρ (σ.put b (o.write std off a)) W' := by
  obtain ⟨hro, hal, hal', hkn, hone, hlen0, hl, he, ht, hset⟩ := AObj.write_spec ha
  have hvs := hv.cells hkn
  have hvl := hvs.length
  obtain ⟨_, hc, o', ho', hO⟩ := h.dom b c d hb
  rw [ho] at ho'; cases ho'
  obtain ⟨cs, e0, fr, hx, hrw, hlen, hlen2, hat⟩ := (hO hal).2 (fun h => by rw [hro] at h; cases h)
  obtain ⟨rfl, hfr, hsz⟩ := hrw hro
  have hrun := run_storeCells_cells (P := P) c (off + d.1) v.cells.toList 0 W (fun j hj => by simp [World.cell?, hx]; omega) (fun j hj => by
      have := hfr (off + d.1 + 0 + j) (by omega)
      simp only [World.frozen?, hx]
      rw [Bool.eq_false_iff]
      intro e
      rw [Bool.and_eq_true, decide_eq_true_eq, decide_eq_true_eq] at e
      exact this e) (fun u hu => by
      obtain ⟨i, hi⟩ := List.mem_iff_getElem?.1 hu
      have hil := (List.getElem?_eq_some_iff.1 hi).1
      have ha' : a.cells[i]? = some a.cells[i] := List.getElem?_eq_getElem (by omega)
      obtain ⟨u', hu', hr⟩ := hvs.at i _ ha'
      rw [hi] at hu'; cases hu'
      exact hr.one (List.all_eq_true.1 hone _ (List.getElem_mem _)))
  rw [Nat.add_zero] at hrun
  obtain ⟨r1, r2, r3, r4⟩ := setCells_rest v.cells.toList W c (off + d.1)
  obtain ⟨g1, g2⟩ := h.replace (W' := W.setCells c (off + d.1) v.cells.toList) (o' := o.write std off a) hb ho hal hro (OR.mk' fun _ => by
    refine ⟨setL cs (off + d.1) v.cells.toList, o.elem, fr, by rw [setCells_heap, if_pos rfl, hx]; rfl, fun _ => ⟨he.symm, fun i hi => hfr i (by rwa [setL_size] at hi), by rw [setL_size]; exact hsz⟩, by rw [hl, setL_size]; exact hlen, by rw [hl]; exact hlen2, fun j x hj => ?_⟩
    rw [hset] at hj
    rw [setL_at _ _ _ (by omega), hvl, show j + d.1 - (off + d.1) = j - off by omega]
    by_cases hjr : off ≤ j ∧ j < off + a.cells.length
    · rw [if_pos hjr] at hj; rw [if_pos (by omega)]; exact hvs.at _ _ hj
    · rw [if_neg hjr] at hj; rw [if_neg (by omega)]; exact hat j x hj) (fun k hk => by rw [setCells_heap, if_neg hk]) r4 r1 r2 r3
  exact ⟨_, hrun, g1, g2⟩
/-- A new block. -/
noncomputable def AH.new (σ : AH) (o : AObj) : AH := ⟨σ.next + 1, σ.mem.put σ.next o⟩
theorem HR.new {ρ : Ren} {σ : AH} {W : World} (h : HR ρ σ W) {o : AObj} {x : Obj} {s : Nat} (hs : Nat.blt σ.next 1000000 = true) (hO : OR ρ (0, s) o (some x)) :
    ∃ ρ', ρ' σ.next = some (W.heap.size, (0, s)) ∧ Sub ρ ρ' ∧ HR ρ' (σ.new o) { W with heap := W.heap.push x } ∧ Stp σ.next ρ σ W ρ' (σ.new o) { W with heap := W.heap.push x } := by
  have hs : σ.next < 1000000 := by rw [Nat.blt_eq] at hs; exact hs
  have hn : ρ σ.next = none := by
    cases hc : ρ σ.next with
    | none => rfl
    | some c => have := (h.dom _ c.1 c.2 hc).1; omega
  have hget : ∀ m, (σ.new o).get m = if m = σ.next then some o else σ.get m := fun m => T.get_put _ _ _ _ (by omega)
  have hsub : Sub ρ (fun b => if b = σ.next then some (W.heap.size, (0, s)) else ρ b) := fun b x hc => by
    have hne : b ≠ σ.next := by rintro rfl; rw [hn] at hc; cases hc
    simp only [if_neg hne]; exact hc
  refine ⟨fun b => if b = σ.next then some (W.heap.size, (0, s)) else ρ b, if_pos rfl, hsub, ⟨by show σ.next + 1 ≤ _; omega, fun m hm => by have hm : σ.next + 1 ≤ m := hm; rw [hget, if_neg (by omega)]; exact h.none_ m (by omega), fun b c d hc => ?_, fun b b' c d d' h1 h2 hne => ?_⟩, ⟨fun b hb => if_neg (by omega), fun b c d hc => ?_, by show σ.next ≤ σ.next + 1; omega, fun b ob hb _ ho' _ => ?_, fun c hc _ => ?_, rfl, rfl, rfl, by simp, fun b c d ob hb _ hc ho' _ => ⟨by rw [hget, if_neg (by omega)]; exact ho', by show (W.heap.push x)[c]? = _; rw [Array.getElem?_push, if_neg (by omega)]⟩⟩⟩
  · rw [hget]
    by_cases hb : b = σ.next
    · subst hb
      simp only [if_true, Option.some.injEq, Prod.mk.injEq] at hc
      obtain ⟨rfl, rfl⟩ := hc
      refine ⟨Nat.lt_succ_self _, by simp, o, if_pos rfl, ?_⟩
      have : (W.heap.push x)[W.heap.size]? = some x := by simp
      rw [this]
      exact hO.mono hsub
    · simp only [if_neg hb] at hc ⊢
      obtain ⟨h1, h2, o2, h3, h4⟩ := h.dom b c d hc
      refine ⟨by show b < σ.next + 1; omega, by simp; omega, o2, h3, ?_⟩
      have : (W.heap.push x)[c]? = W.heap[c]? := by rw [Array.getElem?_push, if_neg (by omega)]
      rw [this]
      exact h4.mono hsub
  · by_cases e1 : b = σ.next
    · subst e1
      simp only [if_true, Option.some.injEq, Prod.mk.injEq] at h1
      obtain ⟨rfl, rfl⟩ := h1
      simp only [if_neg (Ne.symm hne)] at h2
      have := (h.dom _ _ _ h2).2.1
      omega
    · by_cases e2 : b' = σ.next
      · subst e2
        simp only [if_true, Option.some.injEq, Prod.mk.injEq] at h2
        obtain ⟨rfl, rfl⟩ := h2
        simp only [if_neg e1] at h1
        have := (h.dom _ _ _ h1).2.1
        omega
      · simp only [if_neg e1, if_neg e2] at h1 h2
        exact (h.inj b b' c d d' h1 h2 hne).congr (by rw [hget, if_neg e1]) (by rw [hget, if_neg e2])
  · by_cases hb : b = σ.next
    · subst hb
      simp only [if_true, Option.some.injEq, Prod.mk.injEq] at hc
      exact .inr (Nat.le_of_eq hc.1)
    · simp only [if_neg hb] at hc
      exact .inl ⟨b, d, hc⟩
  · rw [hget, if_neg (by omega)]; exact ho'
  · show (W.heap.push x)[c]? = _
    rw [Array.getElem?_push, if_neg (by omega)]
theorem HR.drew {ρ : Ren} {σ : AH} {W : World} (h : HR ρ σ W) (n : Nat) : HR ρ σ { W with drawn := n } := ⟨h.small, h.none_, h.dom, h.inj⟩
theorem Stp.drew {N : Nat} {ρ ρ' : Ren} {σ σ' : AH} {W W' : World} {n : Nat} (h : Stp N ρ σ { W with drawn := n } ρ' σ' W') : Stp N ρ σ W ρ' σ' W' := ⟨h.ext, h.img, h.next, h.keep, h.frame, h.tape, h.os, h.output, h.size, h.ro⟩
/-- An object out of its cells. -/
def allInt (k : IntKind) : List AV → Option (List Int)
  | [] => some []
  | .int k' n :: l => if k = k' then (allInt k l).map (n :: ·) else none
  | _ :: _ => none
def AObj.of (l : List AV) (e : TypeId) (t : Tl) : AObj := match l with
  | .int k n :: l' => match allInt k l' with
    | some ns => .ints k (n :: ns) e t
    | none => .cells l e t
  | _ => .cells l e t
theorem allInt_spec (k : IntKind) : ∀ (l : List AV) ns, allInt k l = some ns → l = ns.map (AV.int k)
  | [], ns, h => by cases h; rfl
  | a :: l, ns, h => by
    cases a <;> simp [allInt] at h
    obtain ⟨rfl, m, hm, rfl⟩ := h
    rw [allInt_spec _ l m hm]; rfl
theorem AObj.of_spec (l : List AV) (e : TypeId) (t : Tl) : (AObj.of l e t).alive = true ∧ (AObj.of l e t).len = l.length ∧ (AObj.of l e t).elem = e ∧ (AObj.of l e t).tail = t.wide ∧ ∀ i, (AObj.of l e t).at i = l[i]? := by
  unfold AObj.of
  split
  · rename_i k n l'
    split
    · rename_i ns hns
      have := allInt_spec k l' ns hns
      subst this
      refine ⟨rfl, by simp [AObj.len], rfl, rfl, fun i => ?_⟩
      show ((n :: ns)[i]?).map _ = _
      cases i <;> simp
    · exact ⟨rfl, rfl, rfl, rfl, fun _ => rfl⟩
  · exact ⟨rfl, rfl, rfl, rfl, fun _ => rfl⟩
theorem OR.of {ρ : Ren} {l : List AV} {vs : List Value} {e : TypeId} (h : VRs ρ l vs) : OR ρ (0, vs.length) (AObj.of l e .exact) (some (.cells vs.toArray e)) := OR.mk' fun _ => by
  obtain ⟨_, h2, h3, h4, h5⟩ := AObj.of_spec l e .exact
  refine ⟨vs.toArray, e, (0, 0), rfl, fun _ => ⟨h3.symm, fun i _ => by simp, by simp⟩, by rw [h2, List.size_toArray, h.length]; exact Nat.le_refl _, by rw [h2, h.length]; exact Nat.le_refl _, fun i a hi => ?_⟩
  rw [h5] at hi
  obtain ⟨v, hv, hr⟩ := h.at i a hi
  exact ⟨v, by simpa using hv, hr⟩
end Go.Proofs.YtjkicmlelilcaaaDoor
