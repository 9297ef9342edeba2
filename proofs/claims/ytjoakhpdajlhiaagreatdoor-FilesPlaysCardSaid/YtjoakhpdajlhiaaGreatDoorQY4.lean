/- Part 4 of the proof: texts of the proof. -/
import Derived.Test.YtjoakhpdajlhiaaGreatDoorQY3
import Derived.RangeFuncLeaves
import Derived.Sort.LoopGhostIn
namespace Go.Proofs.YtjoakhpdajlhiaaGreatDoor.V2
open Go
noncomputable section
theorem HR.fill {ρ : Ren} {σ : AH} {W : World} (h : HR ρ σ W) {b : Nat} {o : AObj} {x : Obj} {s : Nat} (hn : ρ b = none) (hlt : b < σ.next) (hg : σ.get b = some o) (hO : OR ρ (0, s) o (some x)) :
    ∃ ρ', ρ' b = some (W.heap.size, (0, s)) ∧ (∀ m, m ≠ b → ρ' m = ρ m) ∧ Sub ρ ρ' ∧ HR ρ' σ { W with heap := W.heap.push x } := by
  have hsub : Sub ρ (fun m => if m = b then some (W.heap.size, (0, s)) else ρ m) := fun m y hy => by
    have hne : m ≠ b := by rintro rfl; rw [hn] at hy; cases hy
    simp only [if_neg hne]; exact hy
  refine ⟨fun m => if m = b then some (W.heap.size, (0, s)) else ρ m, if_pos rfl, fun m hm => if_neg hm, hsub, ⟨h.small, h.none_, fun m c d hc => ?_, fun m m' c d d' h1 h2 hne => ?_⟩⟩
  · by_cases hm : m = b
    · subst hm
      simp only [if_true, Option.some.injEq, Prod.mk.injEq] at hc
      obtain ⟨rfl, rfl⟩ := hc
      refine ⟨hlt, by simp, o, hg, ?_⟩
      have : (W.heap.push x)[W.heap.size]? = some x := by simp
      rw [this]
      exact hO.mono hsub
    · simp only [if_neg hm] at hc
      obtain ⟨h1, h2, o2, h3, h4⟩ := h.dom m c d hc
      refine ⟨h1, by simp; omega, o2, h3, ?_⟩
      have : (W.heap.push x)[c]? = W.heap[c]? := by rw [Array.getElem?_push, if_neg (by omega)]
      rw [this]
      exact h4.mono hsub
  · by_cases e1 : m = b
    · subst e1
      simp only [if_true, Option.some.injEq, Prod.mk.injEq] at h1
      obtain ⟨rfl, rfl⟩ := h1
      simp only [if_neg (Ne.symm hne)] at h2
      have := (h.dom _ _ _ h2).2.1
      omega
    · by_cases e2 : m' = b
      · subst e2
        simp only [if_true, Option.some.injEq, Prod.mk.injEq] at h2
        obtain ⟨rfl, rfl⟩ := h2
        simp only [if_neg e1] at h1
        have := (h.dom _ _ _ h1).2.1
        omega
      · simp only [if_neg e1, if_neg e2] at h1 h2
        exact h.inj m m' c d d' h1 h2 hne
theorem AH.get_new {σ : AH} {o : AObj} (h : σ.next < 1048576) (m : Nat) : (σ.new o).get m = if m = σ.next then some o else σ.get m := T.get_put _ _ _ _ h
theorem F4 {vals : T AV} {i : Nat} {v : AV} (h : i < 1048576) (j : Nat) : Fg (vals.put i v) j = if j = i then v else Fg vals j := by
  unfold Fg
  rw [T.get_put _ _ _ _ h]
  by_cases hj : j = i
  · rw [if_pos hj, if_pos hj]
  · rw [if_neg hj, if_neg hj]
section
variable (P : Program) (Γ : Gam) (pu : FuncId → Bool) (ops : Array Oper) (steps : List (Nat × CRow)) (env : T AV) (ρ0 : Ren) (σ0 : AH) (W0 : World) (a0 : Act) (rc : Nat → List Nat) (bl : Nat → Nat)
structure Pend (vals : T AV) (σ : AH) (ρ : Ren) (p : Nat × CRow) : Prop where
  val : kd pu p.2 = .P ∨ kd pu p.2 = .L → (Ay std Γ (evR env vals) σ p.2).1 = true ∧ (Ay std Γ (evR env vals) σ p.2).2.1 = Fg vals p.1 ∧ (Ay std Γ (evR env vals) σ p.2).2.2 = σ
  new : kd pu p.2 = .A → ∃ σ', Fg vals p.1 = Kw std (evR env vals) p.2 (bl p.1) ∧ σ0.next ≤ bl p.1 ∧ bl p.1 < σ.next ∧ ρ (bl p.1) = none ∧ σ.get (bl p.1) = some (Ji std (evR env vals) p.2) ∧ (Ay std Γ (evR env vals) σ' p.2).1 = true
structure DSt (listed : Array Bool) (a : Act) (W : World) (done rest : List (Nat × CRow)) (vals : T AV) (σ : AH) (ρ : Ren) (vs : Nat → Value) : Prop where
  split : steps = done ++ rest
  barS : ∀ p ∈ done, kd pu p.2 = .S → lst listed p.1 = true
  only : ∀ i, lst listed i = true → ∃ r, (i, r) ∈ done
  eval : evD std Γ env steps rc done .leaf σ0 = (true, vals, σ)
  ok : (evD std Γ env steps rc rest vals σ).1 = true
  hr : HR ρ σ W
  stp : Stp σ0.next ρ0 σ0 W0 ρ σ W
  vals_ : ∀ i, lst listed i = true → VR ρ (Fg vals i) (vs i)
  act : a = Cw ops a0 vs ((List.range ops.size).filter (lst listed))
  pend : ∀ p ∈ done, lst listed p.1 = false → Pend Γ pu env σ0 bl vals σ ρ p
  apart : ∀ p ∈ done, ∀ q ∈ done, kd pu p.2 = .A → kd pu q.2 = .A → p.1 ≠ q.1 → lst listed p.1 = false → lst listed q.1 = false → bl p.1 ≠ bl q.1
end
section
variable {P : Program} {Γ : Gam} {pu : FuncId → Bool} {ops : Array Oper} {steps : List (Nat × CRow)} {env : T AV} {ρ0 : Ren} {σ0 : AH} {W0 : World} {a0 : Act}
variable {nt G : Nat} {B : List (List Nat)} {order : List Nat} {rc : Nat → List Nat}
theorem nstep_tail (x : NOp) (args : List AV) : (Bl std x args).2.2.tail = true → (Bl std x args).1 = false := by
  unfold Bl
  split
  · intro h; rw [show (AObj.of (args.flatMap AV.cells) _ .exact).tail = false from (AObj.of_spec _ _ _).2.2.2.1] at h; cases h
  · split
    · intro h; cases h
    · intro _; rfl
  · split
    · intro h
      exfalso
      simp only [Df] at h
      split at h
      · rename_i z
        cases hz : std.eq z 0 <;> rw [hz] at h <;> cases h
      · cases h
    · intro _; rfl
  · split
    · intro h; cases h
    · intro h; cases h
    · intro _; rfl
theorem objA_tail {pu : FuncId → Bool} {ev : Ref → AV} {r : CRow} {Γ : Gam} {σ : AH} (hok : (Ay std Γ ev σ r).1 = true) (h : kd pu r = .A) : (Ji std ev r).tail = false := by
  unfold kd at h
  unfold Ji
  split at h
  · rename_i a ha
    split at h
    · rename_i hk
      rw [ha]
      cases a <;> simp only [kdA, reduceCtorEq] at hk
      · exact (AObj.of_spec _ _ _).2.2.2.1
      · exact boxO_tail
      · rename_i x args
        split at h
        · rename_i hg
          unfold Ay at hok
          rw [hg] at hok
          simp only [ha, Cl, step, Bool.and_eq_true] at hok
          cases ht : (Bl std x (args.map ev)).2.2.tail with
          | false => rfl
          | true => rw [nstep_tail _ _ ht] at hok; cases hok.1
        · cases h
    · rename_i hk; exact absurd h hk
  · rename_i f args hf
    split at h
    · rename_i g; cases hg : pu g <;> rw [hg] at h <;> cases h
    · cases h
  · cases h
theorem refs_B (hst : Ec P nt G ops B order = some steps) {p : Nat × CRow} (hp : p ∈ steps) {k : Nat} (hk : Ref.op k ∈ p.2.refs) : k ∈ B.getD p.1 [] := by
  obtain ⟨o, _, hrow⟩ := (Cy hst).2 p hp
  obtain ⟨y, hy⟩ := rowOf_refs hrow _ hk
  exact rfD_op hy.symm
theorem evR_agree {vals : T AV} {i : Nat} {v : AV} (hi : i < 1048576) {r : CRow} (h : Ref.op i ∉ r.refs) : ∀ x ∈ r.refs, evR env (vals.put i v) x = evR env vals x := fun x hx => by
  cases x with
  | op k =>
    have : k ≠ i := by rintro rfl; exact h hx
    simp only [evR, F4 hi, if_neg this]
  | slot t => rfl
  | lit v => rfl
theorem E6 (hord : F1 pu B rc [] steps = true) {done rest : List (Nat × CRow)} {p : Nat × CRow} (hs : steps = done ++ p :: rest) :
    (∀ k ∈ B.getD p.1 [], ∃ r, (k, r) ∈ done) ∧ (∀ q ∈ done, q.1 ≠ p.1) ∧ (∀ q ∈ done, kd pu q.2 = .S → q.1 ∈ B.getD p.1 []) ∧ (kd pu p.2 = .S → ∀ q ∈ done, kd pu q.2 = .L → q.1 ∈ B.getD p.1 [] ∨ q.1 ∈ rc p.1) := by
  have := Mi steps [] hord done p rest hs
  simpa using this
theorem done_refs (hst : Ec P nt G ops B order = some steps) (hord : F1 pu B rc [] steps = true) {done rest : List (Nat × CRow)} {p : Nat × CRow} (hs : steps = done ++ p :: rest) {q : Nat × CRow} (hq : q ∈ done ++ [p]) : Ref.op p.1 ∉ q.2.refs := by
  intro hmem
  obtain ⟨h1, h2, _, _⟩ := E6 hord hs
  rcases List.mem_append.1 hq with hq | hq
  · have hqs : q ∈ steps := by rw [hs]; exact List.mem_append_left _ hq
    have hk := refs_B hst hqs hmem
    obtain ⟨l1, l2, e⟩ := List.append_of_mem hq
    have hs' : steps = l1 ++ q :: (l2 ++ p :: rest) := by rw [hs, e]; simp
    obtain ⟨r, hr⟩ := (E6 hord hs').1 _ hk
    exact h2 (p.1, r) (by rw [e]; exact List.mem_append_left _ hr) rfl
  · rw [List.mem_singleton] at hq
    subst hq
    have hk := refs_B hst (by rw [hs]; simp) hmem
    obtain ⟨r, hr⟩ := h1 _ hk
    exact h2 _ hr rfl
theorem id_small (hst : Ec P nt G ops B order = some steps) (hsm : ops.size ≤ 1000000) {p : Nat × CRow} (hp : p ∈ steps) : p.1 < ops.size ∧ p.1 < 1048576 := by
  obtain ⟨o, ho, _⟩ := (Cy hst).2 p hp
  have := (Array.getElem?_eq_some_iff.1 ho).1
  exact ⟨this, by omega⟩
theorem lit_evR (vals : T AV) (v : AV) : evR env vals (.lit v) = v := rfl
theorem seg (hpu : Iw Γ pu) (hst : Ec P nt G ops B order = some steps) (hord : F1 pu B rc [] steps = true) (hsm : ops.size ≤ 1000000) {listed : Array Bool} {a : Act} {W : World} {ρ : Ren} {vs : Nat → Value} :
    ∀ (rest done : List (Nat × CRow)) (vals : T AV) (σ : AH) (bl : Nat → Nat), DSt Γ pu ops steps env ρ0 σ0 W0 a0 rc bl listed a W done rest vals σ ρ vs →
    ∃ done' rest' vals' σ' bl', DSt Γ pu ops steps env ρ0 σ0 W0 a0 rc bl' listed a W done' rest' vals' σ' ρ vs ∧ ∀ p, rest'.head? = some p → kd pu p.2 = .S := by
  intro rest
  induction rest with
  | nil => intro done vals σ bl h; exact ⟨done, [], vals, σ, bl, h, fun p hp => by cases hp⟩
  | cons p rest ih =>
    intro done vals σ bl h
    by_cases hS : kd pu p.2 = .S
    · exact ⟨done, p :: rest, vals, σ, bl, h, fun q hq => by simp at hq; rw [← hq]; exact hS⟩
    obtain ⟨hB, hdis, hbar, _⟩ := E6 hord h.split
    have hps : p ∈ steps := by rw [h.split]; simp
    have hi := (id_small hst hsm hps).2
    have hun : lst listed p.1 = false := by
      cases hl : lst listed p.1 with
      | false => rfl
      | true => obtain ⟨r, hr⟩ := h.only _ hl; exact absurd rfl (hdis (p.1, r) hr)
    have hok := h.ok
    rw [Fc] at hok
    generalize hg : Ay std Γ (evR env vals) σ p.2 = g at hok
    obtain ⟨ok, v, σ1⟩ := g
    simp only at hok
    generalize hrk : I0 std Γ env steps (vals.put p.1 v) σ1 (rc p.1) = rk at hok
    generalize hrest : evD std Γ env steps rc rest (vals.put p.1 v) σ1 = rr at hok
    obtain ⟨ok', x⟩ := rr
    simp only [Bool.and_eq_true] at hok
    obtain ⟨⟨rfl, rfl⟩, rfl⟩ := hok
    have hgok : (Ay std Γ (evR env vals) σ p.2).1 = true := by rw [hg]
    have hs0 := h.stp.next
    have hsmall := h.hr.small
    have hmem : (σ1 = σ ∨ (kd pu p.2 = .A ∧ σ1 = σ.new (Ji std (evR env vals) p.2) ∧ v = Kw std (evR env vals) p.2 σ.next ∧ σ.next < 1000000)) ∧ (kd pu p.2 ≠ .A → σ1 = σ) := by
      cases hk : kd pu p.2 with
      | S => exact absurd hk hS
      | P =>
        have := kd_P (A := std) hpu (fun v => lit_evR (env := env) vals v) hk σ σ
        rw [hg] at this
        simp only [Prod.mk.injEq] at this
        exact ⟨.inl this.2.2, fun _ => this.2.2⟩
      | L =>
        have := (kd_L (Γ := Γ) hk (σ := σ) (σ' := σ) (fun _ _ h => h) hgok).2
        rw [hg] at this
        exact ⟨.inl this, fun _ => this⟩
      | A =>
        obtain ⟨h1, h2⟩ := kd_A (Γ := Γ) (A := std) hk σ hgok
        rw [hg] at h1
        simp only [Prod.mk.injEq] at h1
        rw [Nat.blt_eq] at h2
        exact ⟨.inr ⟨rfl, h1.2.2, h1.2.1, h2⟩, fun h => absurd rfl h⟩
    have hnx : σ.next ≤ σ1.next := by
      rcases hmem.1 with rfl | ⟨_, rfl, _⟩
      · exact Nat.le_refl _
      · exact Nat.le_succ _
    have hget : ∀ b, b < σ.next → σ1.get b = σ.get b := fun b hb => by
      rcases hmem.1 with rfl | ⟨_, rfl, _⟩
      · rfl
      · rw [AH.get_new (by omega), if_neg (by omega)]
    have hget' : ∀ b o, σ.get b = some o → σ1.get b = some o := fun b o hb => by
      rw [hget b (Nat.lt_of_not_le fun hle => by rw [h.hr.none_ b hle] at hb; cases hb)]; exact hb
    have hr1 : HR ρ σ1 W := h.hr.more (by
        rcases hmem.1 with rfl | ⟨_, rfl, _, hlt⟩
        · exact hsmall
        · show σ.next + 1 ≤ _; omega) (fun b hb => by
        rcases hmem.1 with rfl | ⟨_, rfl, _⟩
        · exact h.hr.none_ b hb
        · have hb : σ.next + 1 ≤ b := hb
          rw [AH.get_new (by omega), if_neg (by omega)]; exact h.hr.none_ b (by omega)) hnx hget
    have hagree : ∀ q ∈ done ++ [p], ∀ x ∈ q.2.refs, evR env (vals.put p.1 v) x = evR env vals x := fun q hq => evR_agree hi (done_refs hst hord h.split hq)
    have hval : ∀ j, j ≠ p.1 → Fg (vals.put p.1 v) j = Fg vals j := fun j hj => by rw [F4 hi, if_neg hj]
    refine ih (done ++ [p]) (vals.put p.1 v) σ1 (fun j => if j = p.1 then σ.next else bl j) ⟨by rw [h.split]; simp, fun q hq hk => ?_, fun j hj => ?_, ?_, by rw [hrest], hr1, ?_, fun j hj => ?_, h.act, fun q hq hl => ?_, fun q hq q' hq' hk hk' hne hl hl' => ?_⟩
    · rcases List.mem_append.1 hq with hq | hq
      · exact h.barS q hq hk
      · rw [List.mem_singleton] at hq; subst hq; exact absurd hk hS
    · obtain ⟨r, hr⟩ := h.only j hj; exact ⟨r, List.mem_append_left _ hr⟩
    · rw [Jm _ _ _ _ _ _ h.eval, Fc, hg]; simp only [hrk]; rfl
    · exact ⟨h.stp.ext, h.stp.img, Nat.le_trans hs0 hnx, fun b ob hb hn ho ht => (hget b (by omega)).trans (h.stp.keep b ob hb hn ho ht), h.stp.frame, h.stp.tape, h.stp.os, h.stp.output, h.stp.size, fun b c d ob hb hρ hc ho hr => let ⟨e1, e2⟩ := h.stp.ro b c d ob hb hρ hc ho hr; ⟨(hget b (by omega)).trans e1, e2⟩⟩
    · have hne : j ≠ p.1 := by rintro rfl; rw [hun] at hj; cases hj
      rw [hval j hne]; exact h.vals_ j hj
    · have hag := hagree q hq
      rcases List.mem_append.1 hq with hqd | hqp
      · have hne : q.1 ≠ p.1 := hdis q hqd
        have hp0 := h.pend q hqd hl
        refine ⟨fun hk => ?_, fun hk => ?_⟩
        · obtain ⟨e1, e2, e3⟩ := hp0.val hk
          rw [Dw hag, hval _ hne]
          rcases hk with hk | hk
          · rw [kd_P (A := std) hpu (fun v => lit_evR (env := env) vals v) hk σ1 σ]; exact ⟨e1, e2, rfl⟩
          · rw [(kd_L (Γ := Γ) hk hget' e1).1]; exact ⟨rfl, e2, rfl⟩
        · obtain ⟨σ', e1, e2, e3, e4, e5, e6⟩ := hp0.new hk
          rw [hval _ hne, Jh hag, I9 hag, if_neg hne]
          exact ⟨σ', e1, e2, by omega, e4, by rw [hget _ e3]; exact e5, by rw [Dw hag]; exact e6⟩
      · rw [List.mem_singleton] at hqp
        subst hqp
        refine ⟨fun hk => ?_, fun hk => ?_⟩
        · have e := hmem.2 (by rcases hk with hk | hk <;> rw [hk] <;> simp)
          subst e
          rw [Dw hag, hg, F4 hi, if_pos rfl]
          exact ⟨rfl, rfl, rfl⟩
        · rcases hmem.1 with e | ⟨_, e, ev, hlt⟩
          · exfalso
            obtain ⟨h1, _⟩ := kd_A (Γ := Γ) (A := std) hk σ hgok
            rw [hg] at h1
            simp only [Prod.mk.injEq] at h1
            have : σ1.next = σ.next + 1 := by rw [h1.2.2]; rfl
            rw [e] at this; omega
          · subst e; subst ev
            rw [F4 hi, if_pos rfl, Jh hag, I9 hag, if_pos rfl]
            refine ⟨σ, rfl, hs0, Nat.lt_succ_self _, ?_, by rw [AH.get_new (by omega), if_pos rfl], by rw [Dw hag]; exact hgok⟩
            cases hc : ρ σ.next with
            | none => rfl
            | some c => have := (h.hr.dom _ c.1 c.2 hc).1; omega
    · have hcase : ∀ q ∈ done ++ [p], kd pu q.2 = .A → lst listed q.1 = false → (q ∈ done ∧ (if q.1 = p.1 then σ.next else bl q.1) = bl q.1 ∧ bl q.1 < σ.next) ∨ (q = p ∧ (if q.1 = p.1 then σ.next else bl q.1) = σ.next) := fun q hq hk hl => by
        rcases List.mem_append.1 hq with hqd | hqp
        · obtain ⟨_, _, _, e3, _⟩ := (h.pend q hqd hl).new hk
          exact .inl ⟨hqd, if_neg (hdis q hqd), e3⟩
        · rw [List.mem_singleton] at hqp
          subst hqp
          exact .inr ⟨rfl, if_pos rfl⟩
      rcases hcase q hq hk hl with ⟨hqd, e1, e2⟩ | ⟨rfl, e1⟩ <;> rcases hcase q' hq' hk' hl' with ⟨hqd', e1', e2'⟩ | ⟨rfl, e1'⟩
      · rw [e1, e1']; exact h.apart q hqd q' hqd' hk hk' hne hl hl'
      · rw [e1, e1']; omega
      · rw [e1, e1']; omega
      · exact absurd rfl hne
end
end
end Go.Proofs.YtjoakhpdajlhiaaGreatDoor.V2
namespace Go.Proofs.YtjoakhpdajlhiaaGreatDoor.V2
open Go
noncomputable section
def Jf (vals : T AV) : List (Option Nat) → Nat → T AV → T AV
  | [], _, env => env
  | d :: l, i, env => Jf vals l (i + 1) (Hb env d (Fg vals i))
section
variable {P : Program} {Γ : Gam} {pu : FuncId → Bool} {ops : Array Oper} {steps : List (Nat × CRow)} {env : T AV} {ρ0 : Ren} {σ0 : AH} {W0 : World} {a0 : Act}
variable {nt G : Nat} {B : List (List Nat)} {order : List Nat} {rc : Nat → List Nat}
theorem putAll_er {ρ : Ren} {vals : T AV} {vs : Nat → Value} (hd : ∀ k d, Bn ops k = some d → d < nt) (hv : ∀ k, k < ops.size → VR ρ (Fg vals k) (vs k)) : ∀ (n i : Nat) (env : T AV) (a : Act), i + n = ops.size → ER G nt ρ env a →
    ER G nt ρ (Jf vals ((List.range' i n).map (Bn ops)) i env) (Cw ops a vs (List.range' i n))
  | 0, i, env, a, _, h => h
  | n + 1, i, env, a, he, h => by
    rw [List.range'_succ, List.map_cons]
    exact putAll_er hd hv n (i + 1) _ _ (by omega) (h.put (hd i) (hv i (by omega)))
structure DInv (Γ : Gam) (pu : FuncId → Bool) (ops : Array Oper) (steps : List (Nat × CRow)) (B : List (List Nat)) (env : T AV) (ρ0 : Ren) (σ0 : AH) (W0 : World) (a0 : Act) (rc : Nat → List Nat) (listed : Array Bool) (a : Act) (W : World) : Prop where
  size : listed.size = ops.size
  closed : ∀ i, lst listed i = true → ∀ k ∈ B.getD i [], lst listed k = true
  ex : ∃ done rest vals σ ρ vs bl, DSt Γ pu ops steps env ρ0 σ0 W0 a0 rc bl listed a W done rest vals σ ρ vs ∧ ∀ p, rest.head? = some p → kd pu p.2 = .S
theorem wpAnyIn_of_inv {F : Fence} {n : Nat} {P : Program} {ops : Array Oper} {Q : Exit → Act → World → Prop} (J : Array Bool → Act → World → Prop)
    (hstep : ∀ listed a w, J listed a w → ∀ i ∈ Region.ready .any ops listed, wpOpIn F n P ops Q i (J (listed.setIfInBounds i true)) a w)
    (hend : ∀ listed a w, J listed a w → Region.ready .any ops listed = [] → Q .normal a w) :
    ∀ (fuel : Nat) (listed : Array Bool) (a : Act) (w : World), listed.size = ops.size → (listed.toList.filter (! ·)).length ≤ fuel → J listed a w → wpAnyIn F n P .any ops Q fuel listed a w := by
  intro fuel
  induction fuel with
  | zero =>
    intro listed a w hs hc hJ
    have hr : Region.ready .any ops listed = [] := by
      apply List.eq_nil_iff_forall_not_mem.2
      intro i hi
      have h0 := (mem_ready.1 hi).1
      have hlt : i < listed.size := by
        rcases Nat.lt_or_ge i listed.size with h | h
        · exact h
        · simp [Array.getElem?_eq_none h] at h0
      have : (false : Bool) ∈ listed.toList.filter (! ·) := List.mem_filter.2 ⟨by
        have e : listed[i] = false := by simpa [hlt] using h0
        rw [← e]; exact Array.getElem_mem_toList hlt, rfl⟩
      have := List.length_pos_of_mem this
      omega
    exact ⟨hr, hend _ _ _ hJ hr⟩
  | succ fuel ih =>
    intro listed a w hs hc hJ
    refine ⟨hend _ _ _ hJ, fun i hi => ?_⟩
    refine wpOpIn_mono (fun a' w' hJ' => ih _ a' w' (by simpa using hs) ?_ hJ') (hstep _ _ _ hJ i hi)
    have h0 := (mem_ready.1 hi).1
    have hlt : i < listed.size := by
      rcases Nat.lt_or_ge i listed.size with h | h
      · exact h
      · simp [Array.getElem?_eq_none h] at h0
    have e : listed[i] = false := by simpa [hlt] using h0
    have hcount : ∀ (l : List Bool) (i : Nat) (h : i < l.length), l[i] = false → ((l.set i true).filter (! ·)).length + 1 = (l.filter (! ·)).length := by
      intro l
      induction l with
      | nil => intro i h; simp at h
      | cons x l ih =>
        intro i h hx
        cases i with
        | zero => simp at hx; subst hx; simp
        | succ i =>
          have := ih i (by simpa using h) (by simpa using hx)
          cases x <;> simp at this ⊢ <;> omega
    have := hcount listed.toList i (by simpa using hlt) (by simpa using e)
    rw [Array.toList_setIfInBounds]
    omega
theorem kd_nd {P : Program} {nt : Nat} {rf : Operand → Ref} {ops : Array Oper} {o : Oper} {r : CRow} {pu : FuncId → Bool} (hrow : Iz P nt rf ops o = some r) (hk : kd pu r = .A) : ∀ c, o.op ≠ .defer c := fun c e => by
  obtain ⟨_, h2, _, _⟩ := Cz hrow
  rw [e] at h2
  have h3 : r.op = .aop .badop := (Option.some.inj (show some (COp.aop .badop) = some r.op from h2)).symm
  unfold kd at hk
  rw [h3] at hk
  revert hk
  simp only [kdA]
  repeat' split
  all_goals (intro h; cases h)
theorem drawn_any {Y : List Yl} {ro : Option Nat} (hΓ : GamOk P G Γ Y) (hY0 : YInv Y ρ0 σ0 W0) (hpu : Iw Γ pu) (hst : Ec P nt G ops B order = some steps) (hord : F1 pu B rc [] steps = true) (hall : (List.range ops.size).all (I5 steps) = true) (hsm : ops.size ≤ 1000000)
    (hchk : Ip ops B [] = true) (hr0 : HR ρ0 σ0 W0) (he0 : ER G nt ρ0 env a0) (hok : (evD std Γ env steps rc steps .leaf σ0).1 = true) {Q : Exit → Act → World → Prop}
    (hQ : ∀ ρ' a' W', HR ρ' (evD std Γ env steps rc steps .leaf σ0).2.2 W' → ER G nt ρ' (Jf (evD std Γ env steps rc steps .leaf σ0).2.1 (ops.toList.map (·.dst)) 0 env) a' → Stp σ0.next ρ0 σ0 W0 ρ' (evD std Γ env steps rc steps .leaf σ0).2.2 W' → a'.defers = a0.defers → Q .normal a' W') :
    wpAnyIn (fen ro) 0 P .any ops Q ops.size (Array.replicate ops.size false) a0 W0 := by
  have hchk0 := hchk
  simp only [Ip, Bool.and_eq_true] at hchk
  obtain ⟨⟨⟨⟨⟨_, cE⟩, cB⟩, cS⟩, cT⟩, cN⟩ := hchk
  have hE : ∀ i k, k ∈ B.getD i [] → i < ops.size → k < i ∧ ∃ o, ops[i]? = some o ∧ ∃ e ∈ o.after, Region.binds .any e = true ∧ (k = e.on ∨ k ∈ B.getD e.on []) := by
    intro i k hk hi
    have := List.all_eq_true.1 (List.all_eq_true.1 cE i (List.mem_range.2 hi)) k hk
    cases ho : ops[i]? with
    | none => rw [ho] at this; simp at this
    | some o =>
      rw [ho] at this
      simp only [Bool.and_eq_true, decide_eq_true_eq] at this
      obtain ⟨e, he, hb⟩ : ∃ e ∈ o.after, (Region.binds .any e && (k == e.on || (B.getD e.on []).contains k)) = true := by
        obtain ⟨j, hj, hb⟩ := Array.any_eq_true.1 this.2
        exact ⟨_, Array.getElem_mem hj, hb⟩
      simp only [Bool.and_eq_true, Bool.or_eq_true, beq_iff_eq, List.contains_iff_mem] at hb
      exact ⟨this.1, o, rfl, e, he, hb.1, hb.2⟩
  have hS : ∀ i k o, ops[i]? = some o → k < ops.size → k ≠ i → k ∉ B.getD i [] → i ∉ B.getD k [] → ∀ t, Bn ops k = some t → t ∉ o.looksAt ops ∧ o.dst ≠ some t := by
    intro i k o ho hk hne h1 h2 t ht
    have hi : i < ops.size := (Array.getElem?_eq_some_iff.1 ho).1
    have := List.all_eq_true.1 cS i (List.mem_range.2 hi)
    rw [ho] at this
    have := List.all_eq_true.1 this k (List.mem_range.2 hk)
    rw [ht] at this
    simp only [Bool.or_eq_true, beq_iff_eq, List.contains_iff_mem, Bool.and_eq_true, Bool.not_eq_true', beq_eq_false_iff_ne] at this
    rcases this with ((h | h) | h) | h
    · exact absurd h hne
    · exact absurd h h1
    · exact absurd h h2
    · exact ⟨fun hm => by have := List.contains_iff_mem.2 hm; rw [this] at h; simp at h, h.2⟩
  have hdl : ∀ k d, Bn ops k = some d → d < nt := by
    intro k d hk
    unfold Bn at hk
    cases ho : ops[k]? with
    | none => rw [ho] at hk; cases hk
    | some o =>
      rw [ho] at hk
      have hks : k < ops.size := (Array.getElem?_eq_some_iff.1 ho).1
      obtain ⟨r, hr⟩ := hasId_iff.1 (List.all_eq_true.1 hall k (List.mem_range.2 hks))
      obtain ⟨o', ho', hrow⟩ := (Cy hst).2 _ hr
      rw [ho] at ho'; cases ho'
      exact (Cz hrow).2.2.2 d hk
  refine wpAnyIn_of_inv (DInv Γ pu ops steps B env ρ0 σ0 W0 a0 rc) ?_ ?_ ops.size _ a0 _ (by simp) (by simp) ?_
  · -- one operation more
    intro listed a W hJ i hi
    obtain ⟨hun, o, ho, hready⟩ := mem_ready.1 hi
    have hilt : i < ops.size := (Array.getElem?_eq_some_iff.1 ho).1
    have hils : i < listed.size := by rw [hJ.size]; exact hilt
    have hnl : lst listed i = false := by
      have : listed[i] = false := by simpa [hils] using hun
      simp [lst, hils, this]
    have hBi : ∀ k ∈ B.getD i [], lst listed k = true := by
      intro k hk
      obtain ⟨_, o', ho', e, he, hb, hor⟩ := hE i k hk hilt
      rw [ho] at ho'; cases ho'
      have hon := hready e he hb
      rcases hor with rfl | hk2
      · exact hon
      · exact hJ.closed _ hon k hk2
    obtain ⟨done, rest, vals, σ, ρ, vs, bl, hD, hhead⟩ := hJ.ex
    have hiB : ∀ k, lst listed k = true → i ∉ B.getD k [] := fun k hk hik => by
      have := hJ.closed k hk i hik; rw [hnl] at this; cases this
    have hsort : B.getD i [] = (List.range ops.size).filter fun k => (B.getD i []).contains k := by
      have := List.all_eq_true.1 cT i (List.mem_range.2 hilt)
      exact beq_iff_eq.1 this
    have hsame : ∀ t ∈ o.looksAt ops, a.tmps[t]? = (Cw ops a0 vs (B.getD i [])).tmps[t]? := by
      intro t ht
      rw [hD.act, hsort]
      refine actOf_at ops vs t _ _ _ (fun k hk hd => ?_) a0 a0 rfl rfl
      have hklt := List.mem_range.1 hk
      by_cases hkB : k ∈ B.getD i []
      · rw [hBi k hkB, List.contains_iff_mem.2 hkB]
      · rw [show (B.getD i []).contains k = false from by rw [Bool.eq_false_iff]; exact fun h => hkB (List.contains_iff_mem.1 h)]
        rw [Bool.eq_false_iff]
        intro hkl
        have hki : k ≠ i := fun e => by rw [e, hnl] at hkl; cases hkl
        exact (hS i k o ho hklt hki hkB (hiB k hkl) t hd).1 ht
    have he0' : ER G nt ρ env a0 := he0.sub (hD.stp.sub hr0)
    have hev : ∀ x, VR ρ (evR env vals (rfD G ops (B.getD i []) o x)) (a.eval x) := by
      intro x
      cases x with
      | const v => exact F2 ρ v
      | global g => exact he0'.ev (.global g)
      | func f => exact he0'.ev (.func f)
      | tmp t =>
        simp only [rfD]
        cases hc : (o.looksAt ops).contains t
        · trivial
        · simp only [cond_true, Act.eval]
          have hs := hsame t (List.contains_iff_mem.1 hc)
          rw [Array.getD_eq_getD_getElem?, hs]
          cases hl : Hs ops t (B.getD i []) with
          | some k =>
            simp only [evR]
            have hkB := Lm hl
            have hdk : Bn ops k = some t := by
              have : ∀ {l : List Nat} {k : Nat}, Hs ops t l = some k → Bn ops k = some t := by
                intro l
                induction l with
                | nil => intro k h; cases h
                | cons j l ih =>
                  intro k h
                  rw [lastW_cons] at h
                  split at h
                  · rename_i i hi; cases h; exact ih hi
                  · cases hd : Bn ops j == some t <;> rw [hd] at h <;> cases h
                    exact beq_iff_eq.1 hd
              exact this hl
            rw [Jp _ _ (by rw [he0.size]; exact hdl k t hdk), hl]
            exact hD.vals_ k (hBi k hkB)
          | none =>
            simp only [evR]
            have hkeep : (Cw ops a0 vs (B.getD i [])).tmps[t]? = a0.tmps[t]? := by
              by_cases hts : t < a0.tmps.size
              · rw [Jp _ _ hts, hl]
              · have h1 : (Cw ops a0 vs (B.getD i [])).tmps.size ≤ t := by rw [actOf_size]; exact Nat.le_of_not_lt hts
                rw [Array.getElem?_eq_none h1, Array.getElem?_eq_none (Nat.le_of_not_lt hts)]
            rw [hkeep, ← Array.getD_eq_getD_getElem?]
            cases ht : env.get t with
            | none => trivial
            | some v => exact he0'.at_ t v ht
    have hdst : Bn ops i = o.dst := by simp [Bn, ho]
    have hact : ∀ v, a.put o.dst v = Cw ops a0 (upd vs i v) ((List.range ops.size).filter (lst (listed.setIfInBounds i true))) := fun v => by
      rw [actOf_insert ops a0 vs ops.size i _ (lst listed) _ hilt hnl (Ik hils), ← hD.act, hdst]
      intro k hik hkn hkl t ht hkt
      rw [hdst] at ht
      refine (hS i k o ho hkn (by omega) (fun hkB => ?_) (hiB k hkl) t hkt).2 ht
      have := (hE i k hkB hilt).1
      omega
    have hsz' : (listed.setIfInBounds i true).size = ops.size := by simpa using hJ.size
    have hcl' : ∀ j, lst (listed.setIfInBounds i true) j = true → ∀ k ∈ B.getD j [], lst (listed.setIfInBounds i true) k = true := by
      intro j hj k hk
      rw [Ik hils] at hj ⊢
      rcases Bool.or_eq_true_iff.1 hj with h | h
      · rw [hJ.closed j h k hk]; rfl
      · rw [beq_iff_eq.1 h] at hk; rw [hBi k hk]; rfl
    have hlf : ∀ j, lst (listed.setIfInBounds i true) j = false → j ≠ i ∧ lst listed j = false := fun j hj => by
      rw [Ik hils, Bool.or_eq_false_iff] at hj
      exact ⟨by have := hj.2; rwa [beq_eq_false_iff_ne] at this, hj.1⟩
    have hlt' : ∀ j, lst (listed.setIfInBounds i true) j = true → j = i ∨ lst listed j = true := fun j hj => by
      rw [Ik hils] at hj
      rcases Bool.or_eq_true_iff.1 hj with h | h
      · exact .inr h
      · exact .inl (beq_iff_eq.1 h)
    obtain ⟨r, hrs⟩ := hasId_iff.1 (List.all_eq_true.1 hall i (List.mem_range.2 hilt))
    obtain ⟨o', ho', hrow⟩ := (Cy hst).2 _ hrs
    simp only at ho' hrow
    rw [ho] at ho'; cases ho'
    unfold wpOpIn
    simp only [ho]
    have hs0 := hD.stp.next
    rw [hD.split] at hrs
    rcases List.mem_append.1 hrs with hdn | hre
    · -- one that waits
      have hpend := hD.pend _ hdn hnl
      have hvals : ∀ {ρ' : Ren} {v : Value}, Sub ρ ρ' → VR ρ' (Fg vals i) v → ∀ j, lst (listed.setIfInBounds i true) j = true → VR ρ' (Fg vals j) (upd vs i v j) := by
        intro ρ' v hsub hv j hj
        by_cases hji : j = i
        · subst hji; rw [upd_self]; exact hv
        · rw [upd_ne _ _ hji]; exact (hD.vals_ j ((hlt' j hj).resolve_left hji)).mono hsub
      have hnext : ∀ {ρ' : Ren} {W' : World} {v : Value}, HR ρ' σ W' → Stp σ0.next ρ0 σ0 W0 ρ' σ W' → Sub ρ ρ' → VR ρ' (Fg vals i) v → (∀ p ∈ done, kd pu p.2 = .A → p.1 ≠ i → lst listed p.1 = false → ρ (bl p.1) = none → ρ' (bl p.1) = none) →
          DInv Γ pu ops steps B env ρ0 σ0 W0 a0 rc (listed.setIfInBounds i true) (a.put o.dst v) W' := by
        intro ρ' W' v h1 h2 h3 h4 h5
        refine ⟨hsz', hcl', done, rest, vals, σ, ρ', upd vs i v, bl, ⟨hD.split, fun p hp hk => by rw [Ik hils, hD.barS p hp hk]; rfl, fun j hj => ?_, hD.eval, hD.ok, h1, h2, hvals h3 h4, hact v, fun p hp hl => ?_, fun p hp q hq hk hk' hne hl hl' => hD.apart p hp q hq hk hk' hne (hlf _ hl).2 (hlf _ hl').2⟩, hhead⟩
        · rcases hlt' j hj with rfl | h
          · exact ⟨r, hdn⟩
          · exact hD.only j h
        · obtain ⟨hne, hl⟩ := hlf _ hl
          have hp0 := hD.pend p hp hl
          refine ⟨hp0.val, fun hk => ?_⟩
          obtain ⟨σ', e1, e2, e3, e4, e5, e6⟩ := hp0.new hk
          exact ⟨σ', e1, e2, e3, h5 p hp hk hne hl e4, e5, e6⟩
      cases hk : kd pu r with
      | S => have := hD.barS _ hdn hk; rw [hnl] at this; cases this
      | A =>
        obtain ⟨σ', e1, e2, e3, e4, e5, e6⟩ := hpend.new hk
        simp only at e1 e2 e3 e4 e5
        obtain ⟨hw, v, x, n, s, hrun, hO, hval⟩ := A_run hrow hk hev e6 W
        rw [if_pos hw]
        refine ⟨fun _ _ => trivial, ?_⟩
        rw [Oper.semAt_eq _ _ _ (kd_nd hrow hk), hrun, Oper.uponIn_value]
        obtain ⟨ρ', f1, f2, f3, f4⟩ := (hD.hr.drew n).fill e4 e3 e5 hO
        refine hnext f4 ⟨fun m hm => (f2 m (by omega)).trans (hD.stp.ext m hm), fun m c d hc => ?_, hs0, fun m ob hm hn => hD.stp.keep m ob hm hn, fun c hc hn => ?_, hD.stp.tape, hD.stp.os, hD.stp.output, by have := hD.stp.size; simp; omega, fun m c d ob hm hρ hc ho hr => let ⟨q1, q2⟩ := hD.stp.ro m c d ob hm hρ hc ho hr; ⟨q1, by
          have hcW : c < W.heap.size := Nat.lt_of_lt_of_le hc hD.stp.size
          rw [← q2]
          show (W.heap.push x)[c]? = _
          rw [Array.getElem?_push, if_neg (by omega)]⟩⟩ f3 ?_ (fun p hp hkp hne hl hn => ?_)
        · by_cases hmb : m = bl i
          · subst hmb; rw [f1] at hc; cases hc; exact .inr hD.stp.size
          · rw [f2 m hmb] at hc; exact hD.stp.img m c d hc
        · have hcW : c < W.heap.size := Nat.lt_of_lt_of_le hc hD.stp.size
          have := hD.stp.frame c hc hn
          rw [← this]
          show (W.heap.push x)[c]? = _
          rw [Array.getElem?_push, if_neg (by omega)]
        · rw [e1]
          exact hval ρ' _ f1
        · rw [f2 _ (hD.apart p hp (i, r) hdn hkp hk hne hl hnl)]
          exact hn
      | P =>
        obtain ⟨e1, e2, e3⟩ := hpend.val (.inl hk)
        refine Ex hΓ (hY0.step (fun y hy => (hY0 y hy).lt) hD.stp) he0'.glob hrow hev hD.hr e1 fun v W' ρ' h1 h2 h3 => ?_
        simp only at e2 e3
        rw [e3] at h1 h2
        rw [e2] at h3
        exact hnext h1 (hD.stp.trans h2 hs0) (h2.sub hD.hr) h3 fun p hp hkp _ hl hn => by
          obtain ⟨_, _, _, f3, _⟩ := (hD.pend p hp hl).new hkp
          rw [h2.ext _ f3]; exact hn
      | L =>
        obtain ⟨e1, e2, e3⟩ := hpend.val (.inr hk)
        refine Ex hΓ (hY0.step (fun y hy => (hY0 y hy).lt) hD.stp) he0'.glob hrow hev hD.hr e1 fun v W' ρ' h1 h2 h3 => ?_
        simp only at e2 e3
        rw [e3] at h1 h2
        rw [e2] at h3
        exact hnext h1 (hD.stp.trans h2 hs0) (h2.sub hD.hr) h3 fun p hp hkp _ hl hn => by
          obtain ⟨_, _, _, f3, _⟩ := (hD.pend p hp hl).new hkp
          rw [h2.ext _ f3]; exact hn
    · -- the bar
      have hisHead : ∃ rest', rest = (i, r) :: rest' := by
        cases hrr : rest with
        | nil => rw [hrr] at hre; cases hre
        | cons s rest' =>
          rw [hrr] at hre
          rcases List.mem_cons.1 hre with h | h
          · exact ⟨rest', by rw [h]⟩
          · exfalso
            obtain ⟨l1, l2, e⟩ := List.append_of_mem h
            have hsS := hhead s (by rw [hrr]; rfl)
            have hs' : steps = (done ++ s :: l1) ++ (i, r) :: l2 := by rw [hD.split, hrr, e]; simp
            have hsB := (E6 hord hs').2.2.1 s (by simp) hsS
            have hsl := hBi _ hsB
            obtain ⟨r', hr'⟩ := hD.only _ hsl
            have hs2 : steps = done ++ s :: rest' := by rw [hD.split, hrr]
            exact (E6 hord hs2).2.1 _ hr' rfl
      obtain ⟨rest', rfl⟩ := hisHead
      have hkS : kd pu r = .S := hhead _ rfl
      obtain ⟨hB, hdis, hbar, hLs⟩ := E6 hord hD.split
      have hps : (i, r) ∈ steps := by rw [hD.split]; simp
      have hi20 := (id_small hst hsm hps).2
      simp only at hi20 hB hdis hbar hLs
      have hok' := hD.ok
      rw [Fc] at hok'
      generalize hg : Ay std Γ (evR env vals) σ r = g at hok'
      obtain ⟨ok, v0, σ1⟩ := g
      simp only at hok'
      generalize hrk : I0 std Γ env steps (vals.put i v0) σ1 (rc i) = rk at hok'
      generalize hrest : evD std Γ env steps rc rest' (vals.put i v0) σ1 = rr at hok'
      obtain ⟨okr, xr⟩ := rr
      simp only [Bool.and_eq_true] at hok'
      obtain ⟨⟨rfl, rfl⟩, rfl⟩ := hok'
      have hgok : (Ay std Γ (evR env vals) σ r).1 = true := by rw [hg]
      refine Ex hΓ (hY0.step (fun y hy => (hY0 y hy).lt) hD.stp) he0'.glob hrow hev hD.hr hgok fun v W' ρ' h1 h2 h3 => ?_
      rw [hg] at h1 h2 h3
      simp only at h1 h2 h3
      have hsub := h2.sub hD.hr
      have hvalj : ∀ j, j ≠ i → Fg (vals.put i v0) j = Fg vals j := fun j hj => by rw [F4 hi20, if_neg hj]
      have hagree : ∀ q ∈ done, ∀ x ∈ q.2.refs, evR env (vals.put i v0) x = evR env vals x := fun q hq => evR_agree hi20 (done_refs hst hord hD.split (List.mem_append_left _ hq))
      have hnew : DSt Γ pu ops steps env ρ0 σ0 W0 a0 rc bl (listed.setIfInBounds i true) (a.put o.dst v) W' (done ++ [(i, r)]) rest' (vals.put i v0) σ1 ρ' (upd vs i v) := by
        refine ⟨by rw [hD.split]; simp, fun p hp hk => ?_, fun j hj => ?_, ?_, by rw [hrest], h1, hD.stp.trans h2 hs0, fun j hj => ?_, hact v, fun q hq hl => ?_, fun p hp q hq hk hk' hne hl hl' => ?_⟩
        · rw [Ik hils]
          rcases List.mem_append.1 hp with hp | hp
          · rw [hD.barS p hp hk]; rfl
          · rw [List.mem_singleton] at hp; subst hp; simp
        · rcases hlt' j hj with rfl | h
          · exact ⟨r, by simp⟩
          · obtain ⟨r', hr'⟩ := hD.only j h; exact ⟨r', List.mem_append_left _ hr'⟩
        · rw [Jm _ _ _ _ _ _ hD.eval, Fc, hg]; simp only [hrk]; rfl
        · by_cases hji : j = i
          · subst hji; rw [upd_self, F4 hi20, if_pos rfl]; exact h3
          · rw [upd_ne _ _ hji, hvalj j hji]; exact (hD.vals_ j ((hlt' j hj).resolve_left hji)).mono hsub
        · obtain ⟨hne, hl⟩ := hlf _ hl
          have hqd : q ∈ done := by
            rcases List.mem_append.1 hq with h | h
            · exact h
            · rw [List.mem_singleton] at h; subst h; exact absurd rfl hne
          have hp0 := hD.pend q hqd hl
          refine ⟨fun hk => ?_, fun hk => ?_⟩
          · rcases hk with hk | hk
            · obtain ⟨e1, e2, _⟩ := hp0.val (.inl hk)
              rw [Dw (hagree q hqd), kd_P (A := std) hpu (fun v => lit_evR (env := env) vals v) hk σ1 σ, hvalj _ hne]
              exact ⟨e1, e2, rfl⟩
            · rcases hLs hkS q hqd hk with hin | hin
              · exfalso
                have := hBi _ hin
                rw [hl] at this; cases this
              · obtain ⟨q', hq', e1, e2, e3⟩ := rechk_mem hrk q.1 hin
                have hqs : q ∈ steps := by rw [hD.split]; exact List.mem_append_left _ hqd
                obtain ⟨oq, hoq, hrq⟩ := (Cy hst).2 q hqs
                obtain ⟨oq', hoq', hrq'⟩ := (Cy hst).2 q' hq'
                rw [e1, hoq] at hoq'
                cases hoq'
                rw [e1, hrq] at hrq'
                simp only [Option.some.injEq] at hrq'
                rw [← hrq'] at e2 e3
                exact ⟨e2, e3, (kd_L (Γ := Γ) hk (σ := σ1) (σ' := σ1) (fun _ _ h => h) e2).2⟩
          · obtain ⟨σ', e1, e2, e3, e4, e5, e6⟩ := hp0.new hk
            rw [hvalj _ hne, Jh (hagree q hqd), I9 (hagree q hqd)]
            refine ⟨σ', e1, e2, Nat.lt_of_lt_of_le e3 h2.next, by rw [h2.ext _ e3]; exact e4, h2.keep _ _ e3 e4 e5 (objA_tail e6 hk), by rw [Dw (hagree q hqd)]; exact e6⟩
        · obtain ⟨hn1, hl⟩ := hlf _ hl
          obtain ⟨hn2, hl'⟩ := hlf _ hl'
          have hd : ∀ q ∈ done ++ [(i, r)], q.1 ≠ i → q ∈ done := fun q hq hne => by
            rcases List.mem_append.1 hq with h | h
            · exact h
            · rw [List.mem_singleton] at h; subst h; exact absurd rfl hne
          exact hD.apart p (hd p hp hn1) q (hd q hq hn2) hk hk' hne hl hl'
      obtain ⟨d', r', v', s', bl', k1, k2⟩ := seg hpu hst hord hsm rest' _ _ _ _ hnew
      exact ⟨hsz', hcl', d', r', v', s', ρ', _, bl', k1, k2⟩
  · -- the end
    intro listed a W hJ hr
    have hallL : ∀ n, n ≤ ops.size → ∀ k, k < n → lst listed k = true := by
      intro n
      induction n with
      | zero => intro _ k hk; omega
      | succ n ih =>
        intro hn k hk
        have ih := ih (by omega)
        by_cases hkn : k < n
        · exact ih k hkn
        · obtain rfl : k = n := by omega
          cases hl : lst listed k with
          | true => rfl
          | false =>
            have hks : k < listed.size := by rw [hJ.size]; omega
            obtain ⟨o, ho⟩ : ∃ o, ops[k]? = some o := ⟨_, Array.getElem?_eq_getElem (by omega)⟩
            have : k ∈ Region.ready .any ops listed := by
              refine mem_ready.2 ⟨?_, o, ho, fun e he hb => ?_⟩
              · have : listed[k] = false := by simpa [lst, hks] using hl
                simp [hks, this]
              · have := List.all_eq_true.1 cB k (List.mem_range.2 (by omega))
                rw [ho] at this
                have := Array.all_eq_true_iff_forall_mem.1 this e he
                rw [hb] at this
                simp at this
                exact ih e.on this
            rw [hr] at this; cases this
    have hallL := hallL ops.size (Nat.le_refl _)
    obtain ⟨done, rest, vals, σ, ρ, vs, bl, hD, hhead⟩ := hJ.ex
    have hrest : rest = [] := by
      cases hrr : rest with
      | nil => rfl
      | cons p rest' =>
        exfalso
        have hs' : steps = done ++ p :: rest' := by rw [hD.split, hrr]
        have hps : p ∈ steps := by rw [hs']; simp
        obtain ⟨r', hr'⟩ := hD.only _ (hallL _ (id_small hst hsm hps).1)
        exact (E6 hord hs').2.1 _ hr' rfl
    subst hrest
    have hsd : steps = done := by rw [hD.split]; simp
    have hev := hD.eval
    rw [← hsd] at hev
    have hfil : (List.range ops.size).filter (lst listed) = List.range ops.size := List.filter_eq_self.2 fun k hk => hallL k (List.mem_range.1 hk)
    have hact := hD.act
    rw [hfil] at hact
    have hdd : ops.toList.map (·.dst) = (List.range' 0 ops.size).map (Bn ops) := by
      apply List.ext_getElem?
      intro j
      rw [List.getElem?_map, List.getElem?_map, Array.getElem?_toList]
      by_cases hj : j < ops.size
      · rw [List.getElem?_range' hj]
        simp [Bn, hj]
      · rw [Array.getElem?_eq_none (by omega), List.getElem?_eq_none (by simp; omega)]; rfl
    refine hQ ρ a W (by rw [hev]; exact hD.hr) ?_ (by rw [hev]; exact hD.stp) (by rw [hact, actOf_defers])
    rw [hev, hdd, hact, List.range_eq_range']
    exact putAll_er hdl (fun k hk => hD.vals_ k (hallL k hk)) ops.size 0 env a0 (by omega) (he0.sub (hD.stp.sub hr0))
  · -- the begin
    have hf : ∀ i, lst (Array.replicate ops.size false) i = false := fun i => by
      unfold lst; rw [Array.getD_eq_getD_getElem?, Array.getElem?_replicate]; split <;> rfl
    have hstart : DSt Γ pu ops steps env ρ0 σ0 W0 a0 rc (fun _ => 0) (Array.replicate ops.size false) a0 W0 [] steps .leaf σ0 ρ0 (fun _ => undef) := by
      refine ⟨rfl, fun p hp => (by cases hp), fun i hi => (by rw [hf] at hi; cases hi), rfl, hok, hr0, Stp.refl (Nat.le_refl _), fun i hi => (by rw [hf] at hi; cases hi), ?_, fun p hp => (by cases hp), fun p hp => (by cases hp)⟩
      have : (List.range ops.size).filter (lst (Array.replicate ops.size false)) = [] := List.filter_eq_nil_iff.2 fun k hk => by rw [hf]; simp
      rw [this]; rfl
    obtain ⟨d', r', v', s', bl', k1, k2⟩ := seg hpu hst hord hsm steps [] _ _ _ hstart
    exact ⟨by simp, fun i hi => (by rw [hf] at hi; cases hi), d', r', v', s', ρ0, _, bl', k1, k2⟩
end
end
end Go.Proofs.YtjoakhpdajlhiaaGreatDoor.V2
namespace Go.Proofs.YtjoakhpdajlhiaaGreatDoor.V2
open Go
noncomputable section
def sameTl : Tl → Tl → Bool
  | .exact, .exact => true
  | .more, .more => true
  | .ro, .ro => true
  | _, _ => false
theorem sameTl_eq {a b : Tl} (h : sameTl a b = true) : a = b := by cases a <;> cases b <;> first | rfl | cases h
def samesP (A : Ar) : List (AV × AV) → List (AV × AV) → Bool
  | [], [] => true
  | p :: l, q :: m => same A p.1 q.1 && same A p.2 q.2 && samesP A l m
  | _, _ => false
theorem samesP_eq : ∀ {a b : List (AV × AV)}, samesP std a b = true → a = b
  | [], [], _ => rfl
  | (p1, p2) :: l, (q1, q2) :: m, h => by
    simp only [samesP, Bool.and_eq_true] at h
    rw [Ih _ _ h.1.1, Ih _ _ h.1.2, samesP_eq h.2]
  | [], _ :: _, h => by cases h
  | _ :: _, [], h => by cases h
def sameO (A : Ar) : AObj → AObj → Bool
  | .dead, .dead => true
  | .cells l e t, .cells l' e' t' => G1 A l l' && Nat.beq e e' && sameTl t t'
  | .ints k l e t, .ints k' l' e' t' => decide (k = k') && A.ieq l l' && Nat.beq e e' && sameTl t t'
  | .map l, .map l' => samesP A l l'
  | .hid, .hid => true
  | _, _ => false
theorem sameO_eq {a b : AObj} (h : sameO std a b = true) : a = b := by
  cases a <;> cases b <;> try (cases h; done)
  · rfl
  · simp only [sameO, Bool.and_eq_true, Nat.beq_eq] at h
    rw [F8 _ _ h.1.1, h.1.2, sameTl_eq h.2]
  · simp only [sameO, Bool.and_eq_true, Nat.beq_eq, std, decide_eq_true_eq] at h
    rw [h.1.1.1, h.1.1.2, h.1.2, sameTl_eq h.2]
  · rw [samesP_eq h]
  · rfl
def eqT (A : Ar) : T AObj → T AObj → Bool
  | .leaf, .leaf => true
  | .node v l r, .node v' l' r' => (match v, v' with
    | none, none => true
    | some a, some b => sameO A a b
    | _, _ => false) && eqT A l l' && eqT A r r'
  | _, _ => false
theorem eqT_eq : ∀ {a b : T AObj}, eqT std a b = true → a = b
  | .leaf, .leaf, _ => rfl
  | .node v l r, .node v' l' r', h => by
    simp only [eqT, Bool.and_eq_true] at h
    obtain ⟨⟨h1, h2⟩, h3⟩ := h
    have e : v = v' := by
      cases v <;> cases v' <;> try (cases h1; done)
      · rfl
      · rw [sameO_eq h1]
    rw [e, eqT_eq h2, eqT_eq h3]
  | .leaf, .node _ _ _, h => by cases h
  | .node _ _ _, .leaf, h => by cases h
def meetO (A : Ar) : Option AV → Option AV → Option AV
  | some a, some b => bif same A a b then some a else none
  | _, _ => none
def I4 (A : Ar) : T AV → T AV → T AV
  | .node v l r, .node v' l' r' => .node (meetO A v v') (I4 A l l') (I4 A r r')
  | .leaf, _ => .leaf
  | .node _ _ _, .leaf => .leaf
theorem Li : ∀ (a b : T AV) (n : Nat) (v : AV), (I4 std a b).get n = some v → a.get n = some v ∧ b.get n = some v
  | .leaf, b, n, v, h => by
    have h : (T.leaf : T AV).get n = some v := h
    rw [T.get_leaf] at h; cases h
  | .node x l r, .leaf, n, v, h => by
    have h : (T.leaf : T AV).get n = some v := h
    rw [T.get_leaf] at h; cases h
  | .node x l r, .node x' l' r', n, v, h => by
    have e : I4 std (.node x l r) (.node x' l' r') = .node (meetO std x x') (I4 std l l') (I4 std r r') := rfl
    rw [e, T.get_eq] at h
    rw [T.get_eq, T.get_eq (.node x' l' r')]
    cases hn : Nat.beq n 0 with
    | true =>
      rw [hn] at h
      have h : meetO std x x' = some v := h
      show x = some v ∧ x' = some v
      cases x with
      | none => cases h
      | some a =>
        cases x' with
        | none => cases h
        | some b =>
          have h : (bif same std a b then some a else none) = some v := h
          cases hs : same std a b with
          | false => rw [hs] at h; cases h
          | true => rw [hs] at h; cases h; exact ⟨rfl, by rw [Ih _ _ hs]⟩
    | false =>
      rw [hn] at h
      cases ho : Nat.beq (n % 2) 1 with
      | true => rw [ho] at h; exact Li l l' (n / 2) v h
      | false => rw [ho] at h; exact Li r r' (n / 2 - 1) v h
end
end Go.Proofs.YtjoakhpdajlhiaaGreatDoor.V2
namespace Go.Proofs.YtjoakhpdajlhiaaGreatDoor.V2
open Go
noncomputable section
structure ML where
  it : Nat
  n0 : Nat
  n1 : Nat
  e0 : Nat
  id1 : Nat
  rN : List CRow
  rE : List CRow
structure MD where
  r1 : List CRow
  c : Ref
  r2 : List CRow
  xm : Ref
  xk : Ref
  ks : List CK
  dst : Option Nat
inductive ACode where
  | skip
  | ret
  | exit (id : Nat)
  | seq (a b : ACode)
  | cond (c : Ref) (a b : ACode)
  | block (id : Nat) (c : ACode)
  | loop (c : ACode)
  | reg (rows : List CRow)
  | regd (steps : List (Nat × CRow)) (rcs : List (Nat × List Nat)) (dsts : List (Option Nat))
  | bad
  | rfun (f : Ref) (ps : List Nat) (a b : ACode)
  | mfor (pre : List CRow) (x : Ref) (m : ML) (body : ACode) (dl : Option MD)
def Ki : List Oper → List (List Nat) → List (List Nat)
  | [], acc => acc
  | o :: l, acc => Ki l (acc ++ [(List.range acc.length).filter fun k => o.after.any fun e => Region.binds .any e && (k == e.on || (acc.getD e.on []).contains k)])
def K0 {α : Type} (f : α → Bool) : List α → Option (α × List α)
  | [] => none
  | x :: l => bif f x then some (x, l) else match K0 f l with
    | some (y, m) => some (y, x :: m)
    | none => none
def sched (pu : FuncId → Bool) (B : List (List Nat)) : Nat → List (Nat × CRow) → List (Nat × CRow) → List (Nat × CRow)
  | 0, done, _ => done
  | n + 1, done, Jr => match K0 (fun p => !(kd pu p.2 == .S) && (B.getD p.1 []).all (I5 done)) Jr with
    | some (p, r) => sched pu B n (done ++ [p]) r
    | none => match K0 (fun p => (B.getD p.1 []).all (I5 done)) Jr with
      | some (p, r) => sched pu B n (done ++ [p]) r
      | none => done
def rcsOf (pu : FuncId → Bool) (B : List (List Nat)) : List (Nat × CRow) → List (Nat × CRow) → List (Nat × List Nat)
  | _, [] => []
  | done, p :: l => match (done.filter fun q => (kd pu q.2 == .L) && !(B.getD p.1 []).contains q.1).map (·.1) with
    | [] => rcsOf pu B (done ++ [p]) l
    | ks => bif kd pu p.2 == .S then (p.1, ks) :: rcsOf pu B (done ++ [p]) l else rcsOf pu B (done ++ [p]) l
def Mb : List (Nat × List Nat) → Nat → List Nat
  | [], _ => []
  | p :: l, k => bif Nat.beq p.1 k then p.2 else Mb l k
def compD (P : Program) (G nt : Nat) (pu : FuncId → Bool) (ops : Array Oper) : Option (List (Nat × CRow) × List (Nat × List Nat)) :=
  match Ec P nt G ops (Ki ops.toList []) (List.range ops.size) with
  | none => none
  | some ts => match Ec P nt G ops (Ki ops.toList []) ((sched pu (Ki ops.toList []) ops.size [] ts).map (·.1)) with
    | none => none
    | some st => bif Ip ops (Ki ops.toList []) [] && (F1 pu (Ki ops.toList []) (Mb (rcsOf pu (Ki ops.toList []) [] st)) [] st && ((List.range ops.size).all (I5 st) && Nat.ble ops.size 1000000)) then some (st, rcsOf pu (Ki ops.toList []) [] st) else none
def Hu : List Oper → Option (List Oper × Oper)
  | [] => none
  | o :: l => match Hu l with
    | none => some ([], o)
    | some (k, p) => some (o :: k, p)
def Fm (P : Program) (G nt : Nat) : Code → Option (List CRow × Ref × Nat)
  | .region _ O false => match Hu O.toList with
    | some (l0, oR) => match oR.op with
      | .range t x => match P.underlying t with
        | some (.map _ _) => match oR.guard with
          | none => match oR.dst with
            | some it => bif Nat.blt it nt then match C7 P nt (rfS G) O l0 with
              | some pre => some (pre, rfS G x, it)
              | none => none else none
            | none => none
          | some _ => none
        | _ => none
      | _ => none
    | none => none
  | _ => none
def Hp (P : Program) (G nt it : Nat) : Code → Option (ML × Code)
  | .block id (.loop (.seq (.region _ ON false) (.seq (.cond (.tmp n1) .skip (.exit id')) (.block id1 (.seq (.region _ OE false) BODY))))) => bif Nat.beq id' id then match ON.toList with
    | oN :: lN => match OE.toList with
      | oE :: lE => match oN.op with
        | .next (.tmp t1) false => match oE.op with
          | .entry (.tmp t2) => bif Nat.beq t1 it && Nat.beq t2 it && oN.guard.isNone && oE.guard.isNone then match oN.dst with
            | some n0 => match oE.dst with
              | some e0 => bif Nat.blt n0 nt && Nat.blt e0 nt then match C7 P nt (rfS G) ON lN with
                | some rN => match C7 P nt (rfS G) OE lE with
                  | some rE => some (⟨it, n0, n1, e0, id1, rN, rE⟩, BODY)
                  | none => none
                | none => none else none
              | none => none
            | none => none else none
          | _ => none
        | _ => none
      | [] => none
    | [] => none else none
  | _ => none
def delOf (P : Program) (G nt : Nat) : Code → Option MD
  | .seq (.region _ R1 false) (.cond c (.region _ R2 false) .skip) => match Hu R2.toList with
    | some (l2, oD) => match oD.op with
      | .call { callee := .builtin .delete, args := args, argTypes := ats } => match args.toList with
        | [xm, xk] => match ats.toList with
          | t :: _ => match P.underlying t with
            | some (.map k _) => match Bx P 100 k with
              | some ks => bif A5 P k && oD.guard.isNone && (match oD.dst with | none => true | some d => Nat.blt d nt) then match C7 P nt (rfS G) R1 R1.toList with
                | some r1 => match C7 P nt (rfS G) R2 l2 with
                  | some r2 => some ⟨r1, rfS G c, r2, rfS G xm, rfS G xk, ks, oD.dst⟩
                  | none => none
                | none => none else none
              | none => none
            | _ => none
          | [] => none
        | _ => none
      | _ => none
    | none => none
  | _ => none
def bodyOf : ACode → Option ACode
  | .block _ (.loop (.seq _ (.seq _ (.block _ (.seq (.reg _) b))))) => some b
  | _ => none
def I3 (P : Program) (G nt : Nat) (x : Code) (y : Code) (y' : ACode) : Option ACode := match Fm P G nt x with
  | none => none
  | some (pre, x, it) => match Hp P G nt it y with
    | none => none
    | some (m, BODY) => match bodyOf y' with
      | none => none
      | some b => match delOf P G nt BODY with
        | some q => some (.mfor pre x m .skip (some q))
        | none => some (.mfor pre x m b none)
def E8 (P : Program) (G nt : Nat) (x y : Code) (x' y' : ACode) : ACode := match I3 P G nt x y y' with
  | some z => z
  | none => match y, y' with
    | .seq y1 _, .seq y1' y2' => match I3 P G nt x y1 y1' with
      | some z => .seq z y2'
      | none => .seq x' y'
    | _, _ => .seq x' y'
def A9 (P : Program) (G nt : Nat) (pu : FuncId → Bool) : Code → Option ACode
  | .skip => some .skip
  | .ret => some .ret
  | .exit id => some (.exit id)
  | .seq a b => match A9 P G nt pu a with
    | none => none
    | some a' => match A9 P G nt pu b with
      | none => none
      | some b' => some (E8 P G nt a b a' b')
  | .cond c a b => match A9 P G nt pu a with
    | none => none
    | some a' => match A9 P G nt pu b with
      | none => none
      | some b' => some (.cond (rfS G c) a' b')
  | .block id c => match A9 P G nt pu c with
    | none => none
    | some c' => some (.block id c')
  | .loop c => match A9 P G nt pu c with
    | none => none
    | some c' => some (.loop c')
  | .region _ ops false => match C7 P nt (rfS G) ops ops.toList with
    | none => none
    | some rows => some (.reg rows)
  | .region _ ops true => match compD P G nt pu ops with
    | none => some .bad
    | some st => some (.regd st.1 st.2 (ops.toList.map (·.dst)))
  | .rangeFunc f ps a b => match A9 P G nt pu a with
    | none => none
    | some a' => match A9 P G nt pu b with
      | none => none
      | some b' => bif ps.toList.all (fun p => Nat.blt p nt) then some (.rfun (rfS G f) ps.toList a' b') else some .bad
  | _ => some .bad
def evDr (A : Ar) (Γ : Gam) (steps : List (Nat × CRow)) (rcs : List (Nat × List Nat)) (dsts : List (Option Nat)) (env : T AV) (σ : AH) : Bool × T AV × AH := match evD A Γ env steps (Mb rcs) steps .leaf σ with
  | (ok, vals, σ') => (ok, Jf vals dsts 0 env, σ')
inductive AX where
  | normal
  | exit (id : Nat)
  | ret
def AX.out : AX → Exit
  | .normal => .normal
  | .exit id => .exit id
  | .ret => .ret
abbrev RS := Option (List (AX × T AV × AH))
inductive RR where
  | bad
  | ok (e : AX) (env : T AV) (σ : AH)
def RR.next (r : RR) (f : T AV → AH → RR) : RR := RR.rec (motive := fun _ => RR) .bad (fun e env σ => AX.rec (motive := fun _ => RR) (f env σ) (fun i => .ok (.exit i) env σ) (.ok .ret env σ) e) r
def RR.block (id : Nat) (r : RR) : RR := RR.rec (motive := fun _ => RR) .bad (fun e env σ => AX.rec (motive := fun _ => RR) (.ok .normal env σ) (fun i => bif Nat.beq i id then .ok .normal env σ else .ok (.exit i) env σ) (.ok .ret env σ) e) r
def Gn (N : Nat) (f : T AV → AH → RR) (n : Nat) : T AV → AH → RR := Nat.rec (motive := fun _ => T AV → AH → RR) (fun _ _ => .bad) (fun _ ih env σ => bif Nat.ble N σ.next then (f env σ).next ih else .bad) n
def Ko : T AV → List Nat → List AV → T AV
  | env, p :: ps, v :: vs => Ko (env.put p v) ps vs
  | env, _, _ => env
abbrev Cs := List ((AV × AV) × Bool)
def Jr : Cs → Nat → List Nat
  | [], _ => []
  | x :: l, i => bif x.2 then Jr l (i + 1) else i :: Jr l (i + 1)
def isPtr (b : Nat) : AV → Bool
  | .ptr b' o => Nat.beq b' b && Nat.beq o 0
  | _ => false
def Lp (t : Bool) : AV → Bool
  | .bool b => b == t
  | _ => false
abbrev Bd := Nat → Cs → Nat → T AV → AH → Option (AX × T AV × AH × Cs)
def shw (bm : Nat) (cs : Cs) (σ : AH) : AH := σ.put bm (.map (cs.map (·.1)))
def bindL {α β : Type} : List α → (α → Option (List β)) → Option (List β)
  | [], _ => some []
  | p :: L, f => match f p with
    | none => none
    | some l => match bindL L f with
      | none => none
      | some m => some (l ++ m)
def mnext (m : ML) (bm : Nat) (go : Cs → T AV → AH → RS) (o : AX × T AV × AH × Cs) : RS := match o.1 with
  | .normal => go o.2.2.2 o.2.1 o.2.2.1
  | .exit j => bif Nat.beq j m.id1 then go o.2.2.2 o.2.1 o.2.2.1 else none
  | .ret => some [(.ret, o.2.1, shw bm o.2.2.2 o.2.2.1)]
def mround (A : Ar) (Γ : Gam) (m : ML) (bm bi : Nat) (bd : Bd) (go : Cs → T AV → AH → RS) (cs : Cs) (e1 : T AV) (σ1 : AH) (i : Nat) : RS := match cs[i]? with
  | none => none
  | some x => match evP A Γ m.rE (e1.put m.e0 (.tup [x.1.1, x.1.2])) σ1 with
    | (ok, e2, σ2) => bif ok then match bd bm (cs.set i (x.1, true)) i e2 σ2 with
      | none => none
      | some o => mnext m bm go o else none
def mgo (A : Ar) (Γ : Gam) (m : ML) (bm bi : Nat) (bd : Bd) : Nat → Cs → T AV → AH → RS
  | 0, _, _, _ => none
  | k + 1, cs, env, σ => bif isPtr bi (evS env (.slot m.it)) then match Jr cs 0 with
    | [] => match evP A Γ m.rN (env.put m.n0 (.tup [.bool false])) σ with
      | (ok, e1, σ1) => bif ok && Lp false (evS e1 (.slot m.n1)) then some [(.normal, e1, shw bm cs σ1)] else none
    | is => match evP A Γ m.rN (env.put m.n0 (.tup [.bool true, .top, .top])) σ with
      | (ok, e1, σ1) => bif ok && Lp true (evS e1 (.slot m.n1)) && isPtr bi (evS e1 (.slot m.it)) then bindL is (mround A Γ m bm bi bd (mgo A Γ m bm bi bd k) cs e1 σ1) else none else none
def mfr (A : Ar) (Γ : Gam) (pre : List CRow) (x : Ref) (m : ML) (bd : Bd) (env : T AV) (σ : AH) : RS := match evP A Γ pre env σ with
  | (ok, e1, σ1) => bif ok && Nat.blt σ1.next 1000000 then match evS e1 x with
    | .map bm => match σ1.get bm with
      | some (.map l) => mgo A Γ m bm σ1.next bd (l.length + 1) (l.map fun p => (p, false)) (e1.put m.it (.ptr σ1.next 0)) ((σ1.put bm .hid).new .hid)
      | _ => none
    | _ => none else none
def bdR (f : Nat → T AV → AH → RR) : Bd := fun _ cs _ env σ => match f σ.next env σ with
  | .bad => none
  | .ok e env' σ' => some (e, env', σ', cs)
def bdD (A : Ar) (Γ : Gam) (q : MD) : Bd := fun bm cs _ env σ => match evP A Γ q.r1 env σ with
  | (ok, e1, σ1) => bif ok then match evS e1 q.c with
    | .bool t => bif t then match evP A Γ q.r2 e1 σ1 with
      | (ok2, e2, σ2) => bif ok2 then match evS e2 q.xm with
        | .map b => bif Nat.beq b bm then match Cc A true q.ks (evS e2 q.xk) (cs.map (·.1)) 0 with
          | (ok3, r) => bif ok3 then some (.normal, Hb e2 q.dst (.tup []), σ2, match r with | some (i, _) => cs.eraseIdx i | none => cs) else none else none
        | _ => none else none else some (.normal, e1, σ1, cs)
    | _ => none else none
def detR (A : Ar) : RS → RR
  | none => .bad
  | some L => match L with
    | [] => .bad
    | o :: L => match L with
      | [] => .ok o.1 o.2.1 o.2.2
      | _ => match o.1 with
        | .normal => bif L.all fun p => (match p.1 with | .normal => true | _ => false) && Nat.beq p.2.2.next o.2.2.next && eqT A p.2.2.mem o.2.2.mem then .ok .normal (L.foldl (fun e p => I4 A e p.2.1) o.2.1) o.2.2 else .bad
        | _ => .bad
def rnd (f : T AV → AH → RR) (env : T AV) (ps : List Nat) (args : List AV) (σ : AH) : Out := bif Nat.beq ps.length args.length then (match f (Ko env ps args) σ with
    | .ok e _ σ' => (match e with
      | .normal => (true, .bool true, σ')
      | _ => bad σ)
    | .bad => bad σ) else bad σ
def runR (A : Ar) (fuel : Nat) (c : ACode) : Gam → Nat → T AV → AH → RR :=
  ACode.rec (motive := fun _ => Gam → Nat → T AV → AH → RR)
    (fun _ _ env σ => .ok .normal env σ)
    (fun _ _ env σ => .ok .ret env σ)
    (fun id _ _ env σ => .ok (.exit id) env σ)
    (fun _ _ ia ib Γ N env σ => (ia Γ N env σ).next (ib Γ N))
    (fun c _ _ ia ib Γ N env σ => match evS env c with | .bool t => bif t then ia Γ N env σ else ib Γ N env σ | _ => .bad)
    (fun id _ ih Γ N env σ => (ih Γ N env σ).block id)
    (fun _ ih Γ N env σ => Gn N (ih Γ N) fuel env σ)
    (fun rows Γ _ env σ => match evP A Γ rows env σ with | (ok, env', σ') => bif ok then .ok .normal env' σ' else .bad)
    (fun st rcs ds Γ _ env σ => match evDr A Γ st rcs ds env σ with | (ok, env', σ') => bif ok then .ok .normal env' σ' else .bad)
    (fun _ _ _ _ => .bad)
    (fun f ps _ _ ia ib Γ _ env σ => match evS env f with
      | .fn g first cap => match g with
        | .func n => match (Γ.up σ.next (rnd (fun e s => (ia Γ.bare s.next e s).next (ib Γ.bare s.next)) env ps)).fn n (first ++ (.yld σ.next :: cap)) (σ.new AObj.shut) with
          | (ok, _, σ') => bif Nat.blt σ.next 1000000 && ok then .ok .normal env σ' else .bad
        | _ => .bad
      | _ => .bad)
    (fun pre x m _ dl ib Γ _ env σ => detR A (mfr A Γ pre x m (match dl with | none => bdR (ib Γ) | some q => bdD A Γ q) env σ))
    c
def run (A : Ar) (Γ : Gam) (N fuel : Nat) (c : ACode) (env : T AV) (σ : AH) : RR := runR A fuel c Γ N env σ
def both (A : Ar) (Γ : Gam) (fuel : Nat) (a b : ACode) (e : T AV) (s : AH) : RR := (run A Γ s.next fuel a e s).next (run A Γ s.next fuel b)
def Wk (G nt N : Nat) (env : T AV) (σ : AH) (env' : T AV) (σ' : AH) : Prop := ∀ ρ W, HR ρ σ W → ∃ ρ', HR ρ' σ' W ∧ (∀ a, ER G nt ρ env a → ER G nt ρ' env' a) ∧ (∀ b, b < N → ρ' b = ρ b) ∧
  (∀ b c d, ρ' b = some (c, d) → ∃ b0 d0, ρ b0 = some (c, d0)) ∧ N ≤ σ'.next ∧ ∀ b, b < N → σ'.get b = σ.get b
def Le (env env' : T AV) : Prop := ∀ t v, env'.get t = some v → v = evS env (.slot t)
theorem Le.refl (env : T AV) : Le env env := fun t v h => by simp only [evS, h]
theorem ER.le {G nt : Nat} {ρ : Ren} {env env' : T AV} {a : Act} (h : ER G nt ρ env a) (hl : Le env env') : ER G nt ρ env' a :=
  ⟨h.small, h.size, h.glob, fun t v ht => by rw [hl t v ht]; exact h.ev (.tmp t)⟩
def Lw (G nt N : Nat) (env : T AV) (σ : AH) (env' : T AV) (σ' : AH) : Prop := (Le env env' ∧ σ' = σ) ∨ Wk G nt N env σ env' σ'
theorem Lw.refl {G nt N : Nat} {env : T AV} {σ : AH} : Lw G nt N env σ env σ := .inl ⟨Le.refl env, rfl⟩
theorem Lw.use {G nt N : Nat} {env : T AV} {σ : AH} {env' : T AV} {σ' : AH} (h : Lw G nt N env σ env' σ') (hN : N ≤ σ.next) {ρ : Ren} {W : World} (hr : HR ρ σ W) : ∃ ρ', HR ρ' σ' W ∧ (∀ a, ER G nt ρ env a → ER G nt ρ' env' a) ∧ (∀ b, b < N → ρ' b = ρ b) ∧
  (∀ b c d, ρ' b = some (c, d) → ∃ b0 d0, ρ b0 = some (c, d0)) ∧ N ≤ σ'.next ∧ ∀ b, b < N → σ'.get b = σ.get b := by
  rcases h with ⟨h, rfl⟩ | h
  · exact ⟨ρ, hr, fun a ha => ha.le h, fun _ _ => rfl, fun b _ d hb => ⟨b, d, hb⟩, hN, fun _ _ => rfl⟩
  · exact h ρ W hr
def bdF (A : Ar) (Γ : Gam) (fuel : Nat) (b : ACode) (dl : Option MD) : Bd := match dl with | none => bdR (fun N => run A Γ N fuel b) | some q => bdD A Γ q
def AK := Exit → T AV → AH → Prop
def AK.seq (k : T AV → AH → Prop) (K : AK) : AK
  | .normal, env, σ => k env σ
  | e, env, σ => K e env σ
def AK.block (id : Nat) (K : AK) : AK
  | .exit i, env, σ => if i = id then K .normal env σ else K (.exit i) env σ
  | e, env, σ => K e env σ
def avc (A : Ar) (Γ : Gam) (G nt N : Nat) : ACode → AK → T AV → AH → Prop
  | .skip, K, env, σ => K .normal env σ
  | .ret, K, env, σ => K .ret env σ
  | .exit id, K, env, σ => K (.exit id) env σ
  | .seq a b, K, env, σ => avc A Γ G nt N a (AK.seq (fun env' σ' => ∃ env2 σ2, Lw G nt N env' σ' env2 σ2 ∧ avc A Γ G nt N b K env2 σ2) K) env σ
  | .cond c a b, K, env, σ => match evS env c with
    | .bool t => (t = true → avc A Γ G nt N a K env σ) ∧ (t = false → avc A Γ G nt N b K env σ)
    | _ => False
  | .block id c, K, env, σ => avc A Γ G nt N c (AK.block id K) env σ
  | .loop c, K, env, σ => ∃ (I : T AV → AH → Prop) (μ : T AV → AH → Nat), (∃ env1 σ1, Lw G nt N env σ env1 σ1 ∧ I env1 σ1) ∧
      ∀ env σ, I env σ → avc A Γ G nt N c (AK.seq (fun env' σ' => ∃ env2 σ2, Lw G nt N env' σ' env2 σ2 ∧ I env2 σ2 ∧ μ env2 σ2 < μ env σ) K) env σ
  | .reg rows, K, env, σ => ((evP A Γ rows env σ).1 = true ∧ K .normal (evP A Γ rows env σ).2.1 (evP A Γ rows env σ).2.2) ∨ ∃ L, evPS A Γ rows env σ = some L ∧ ∀ p ∈ L, K .normal p.1 p.2
  | .regd st rcs ds, K, env, σ => (evDr A Γ st rcs ds env σ).1 = true ∧ K .normal (evDr A Γ st rcs ds env σ).2.1 (evDr A Γ st rcs ds env σ).2.2
  | .bad, _, _, _ => False
  | .rfun f ps a b, K, env, σ => match evS env f with
    | .fn g first cap => match g with
      | .func n => Nat.blt σ.next 1000000 = true ∧ ∃ fuel, (((Γ.up σ.next (rnd (both A Γ.bare fuel a b) env ps)).fn n (first ++ (.yld σ.next :: cap)) (σ.new AObj.shut)).1 = true ∧
          K .normal env ((Γ.up σ.next (rnd (both A Γ.bare fuel a b) env ps)).fn n (first ++ (.yld σ.next :: cap)) (σ.new AObj.shut)).2.2) ∨
          ∃ L, (Γ.up σ.next (rnd (both A Γ.bare fuel a b) env ps)).dm n (first ++ (.yld σ.next :: cap)) (σ.new AObj.shut) = some L ∧ ∀ p ∈ L, K .normal env p.2
      | _ => False
    | _ => False
  | .mfor pre x m b dl, K, env, σ => ∃ fuel L, mfr A Γ pre x m (bdF A Γ fuel b dl) env σ = some L ∧ ∀ o ∈ L, ∃ env2 σ2, Lw G nt N o.2.1 o.2.2 env2 σ2 ∧ K o.1.out env2 σ2
theorem RR.next_ok {r : RR} {f : T AV → AH → RR} {e : AX} {env : T AV} {σ : AH} (h : r.next f = .ok e env σ) :
    (∃ env1 σ1, r = .ok .normal env1 σ1 ∧ f env1 σ1 = .ok e env σ) ∨ (e ≠ .normal ∧ r = .ok e env σ) := by
  cases r with
  | bad => cases h
  | ok e1 env1 σ1 =>
    cases e1 with
    | normal => exact .inl ⟨env1, σ1, rfl, h⟩
    | exit i => cases h; exact .inr ⟨by simp, rfl⟩
    | ret => cases h; exact .inr ⟨by simp, rfl⟩
theorem least {p : Nat → Prop} (h : ∃ k, p k) : ∃ k, p k ∧ ∀ j, p j → k ≤ j := by
  obtain ⟨k, hk⟩ := h
  induction k using Nat.strongRecOn with
  | _ k ih =>
    by_cases hj : ∃ j, j < k ∧ p j
    · obtain ⟨j, h1, h2⟩ := hj; exact ih j h1 h2
    · exact ⟨k, hk, fun j hp => Nat.le_of_not_lt fun hlt => hj ⟨j, hlt, hp⟩⟩
open Classical in
def Hr (p : Nat → Prop) : Nat := if h : ∃ k, p k then (least h).choose else 0
theorem leastD_le {p : Nat → Prop} {k : Nat} (h : p k) : Hr p ≤ k := by
  unfold Hr
  rw [dif_pos ⟨k, h⟩]
  exact (least ⟨k, h⟩).choose_spec.2 k h
theorem leastD_mem {p : Nat → Prop} {k : Nat} (h : p k) : p (Hr p) := by
  unfold Hr
  rw [dif_pos ⟨k, h⟩]
  exact (least ⟨k, h⟩).choose_spec.1
theorem foldl_meet : ∀ (L : List (AX × T AV × AH)) (e : T AV) (t : Nat) (v : AV), (L.foldl (fun e p => I4 std e p.2.1) e).get t = some v → e.get t = some v ∧ ∀ p ∈ L, p.2.1.get t = some v
  | [], e, t, v, h => ⟨h, fun p hp => by cases hp⟩
  | q :: L, e, t, v, h => by
    obtain ⟨h1, h2⟩ := foldl_meet L (I4 std e q.2.1) t v h
    obtain ⟨h3, h4⟩ := Li _ _ _ _ h1
    refine ⟨h3, fun p hp => ?_⟩
    rcases List.mem_cons.1 hp with rfl | hp
    · exact h4
    · exact h2 p hp
theorem detR_ok {r : RS} {e : AX} {env : T AV} {σ : AH} (h : detR std r = .ok e env σ) : ∃ L, r = some L ∧ ∀ o ∈ L, o.1 = e ∧ Le o.2.1 env ∧ o.2.2 = σ := by
  unfold detR at h
  cases r with
  | none => cases h
  | some L =>
  cases L with
  | nil => cases h
  | cons o L =>
  cases L with
  | nil =>
    cases h
    refine ⟨_, rfl, fun p hp => ?_⟩
    rw [List.mem_singleton] at hp
    subst hp
    exact ⟨rfl, Le.refl _, rfl⟩
  | cons q L =>
    obtain ⟨oe, oenv, oσ⟩ := o
    cases oe with
    | exit i => cases h
    | ret => cases h
    | normal =>
      dsimp only at h
      generalize hc : ((q :: L).all fun p => (match p.1 with | .normal => true | _ => false) && Nat.beq p.2.2.next oσ.next && eqT std p.2.2.mem oσ.mem) = c at h
      cases c with
      | false => cases h
      | true =>
        dsimp only [cond_true] at h
        simp only [RR.ok.injEq] at h
        obtain ⟨rfl, rfl, rfl⟩ := h
        refine ⟨_, rfl, fun p hp => ?_⟩
        have hle : ∀ t v, (List.foldl (fun e p => I4 std e p.2.1) oenv (q :: L)).get t = some v → p.2.1.get t = some v := fun t v ht => by
          obtain ⟨h1, h2⟩ := foldl_meet _ _ _ _ ht
          rcases List.mem_cons.1 hp with rfl | hp
          · exact h1
          · exact h2 p hp
        refine ⟨?_, fun t v ht => by simp only [evS, hle t v ht], ?_⟩
        · rcases List.mem_cons.1 hp with rfl | hp
          · rfl
          · have := List.all_eq_true.1 hc p hp
            obtain ⟨pe, _⟩ := p
            cases pe <;> first | rfl | cases this
        · rcases List.mem_cons.1 hp with rfl | hp
          · rfl
          · have := List.all_eq_true.1 hc p hp
            simp only [Bool.and_eq_true, Nat.beq_eq] at this
            have e1 := this.1.2
            have e2 := eqT_eq this.2
            obtain ⟨pe, penv, ⟨pn, pm⟩⟩ := p
            dsimp only at e1 e2
            rw [e1, e2]
theorem My {G nt N fuel : Nat} {Γ : Gam} : ∀ (c : ACode) (K : AK) (env : T AV) (σ : AH) (e : AX) (env' : T AV) (σ' : AH), run std Γ N fuel c env σ = .ok e env' σ' → K e.out env' σ' → avc std Γ G nt N c K env σ := by
  intro c
  induction c with
  | skip => intro K env σ e env' σ' h hK; cases h; exact hK
  | ret => intro K env σ e env' σ' h hK; cases h; exact hK
  | exit id => intro K env σ e env' σ' h hK; cases h; exact hK
  | seq a b ia ib =>
    intro K env σ e env' σ' h hK
    rcases RR.next_ok (r := run std Γ N fuel a env σ) (f := run std Γ N fuel b) h with ⟨env1, σ1, h1, h2⟩ | ⟨h1, h2⟩
    · exact ia _ _ _ _ _ _ h1 ⟨env1, σ1, .refl, ib K _ _ _ _ _ h2 hK⟩
    · refine ia _ _ _ _ _ _ h2 ?_
      cases e with
      | normal => exact absurd rfl h1
      | exit i => exact hK
      | ret => exact hK
  | cond c a b ia ib =>
    intro K env σ e env' σ' h hK
    have h : (match evS env c with | .bool t => bif t then run std Γ N fuel a env σ else run std Γ N fuel b env σ | _ => RR.bad) = .ok e env' σ' := h
    show (match evS env c with | .bool t => (t = true → avc std Γ G nt N a K env σ) ∧ (t = false → avc std Γ G nt N b K env σ) | _ => False)
    cases hc : evS env c <;> rw [hc] at h <;> try (cases h; done)
    rename_i t
    cases t
    · exact ⟨fun h => (by cases h), fun _ => ib K _ _ _ _ _ h hK⟩
    · exact ⟨fun _ => ia K _ _ _ _ _ h hK, fun h => (by cases h)⟩
  | block id c ih =>
    intro K env σ e env' σ' h hK
    have h : (run std Γ N fuel c env σ).block id = .ok e env' σ' := h
    show avc std Γ G nt N c (AK.block id K) env σ
    cases hr : run std Γ N fuel c env σ with
    | bad => rw [hr] at h; cases h
    | ok e1 env1 σ1 =>
      rw [hr] at h
      refine ih _ _ _ _ _ _ hr ?_
      cases e1 with
      | normal => cases h; exact hK
      | ret => cases h; exact hK
      | exit i =>
        have h : (bif Nat.beq i id then RR.ok .normal env1 σ1 else .ok (.exit i) env1 σ1) = .ok e env' σ' := h
        show (if i = id then K .normal env1 σ1 else K (.exit i) env1 σ1)
        by_cases hi : i = id
        · rw [if_pos hi]
          rw [hi, Nat.beq_refl] at h
          cases h; exact hK
        · rw [if_neg hi]
          rw [T.beq_f hi] at h
          cases h; exact hK
  | loop c ih =>
    intro K env σ e env' σ' h hK
    have h : Gn N (run std Γ N fuel c) fuel env σ = .ok e env' σ' := h
    let p : T AV → AH → Nat → Prop := fun env σ k => Gn N (run std Γ N fuel c) k env σ = .ok e env' σ'
    have hN : ∀ k env σ, p env σ k → N ≤ σ.next := by
      intro k env σ hp
      cases k with
      | zero => cases hp
      | succ k =>
        have hp : (bif Nat.ble N σ.next then (run std Γ N fuel c env σ).next (Gn N (run std Γ N fuel c) k) else RR.bad) = .ok e env' σ' := hp
        cases hb : Nat.ble N σ.next with
        | false => rw [hb] at hp; cases hp
        | true => exact Nat.le_of_ble_eq_true hb
    refine ⟨fun env σ => ∃ k, p env σ k, fun env σ => Hr (p env σ), ⟨env, σ, .refl, ⟨fuel, h⟩⟩, ?_⟩
    rintro env σ ⟨k, hk⟩
    have hl := leastD_mem hk
    generalize hm : Hr (p env σ) = m at hl
    cases m with
    | zero => cases hl
    | succ m =>
      have hb := hN _ _ _ hl
      have hl : (bif Nat.ble N σ.next then (run std Γ N fuel c env σ).next (Gn N (run std Γ N fuel c) m) else RR.bad) = .ok e env' σ' := hl
      rw [show Nat.ble N σ.next = true from Nat.ble_eq_true_of_le hb, cond_true] at hl
      rcases RR.next_ok hl with ⟨env1, σ1, h1, h2⟩ | ⟨h1, h2⟩
      · refine ih _ _ _ _ _ _ h1 ?_
        have h2 : p env1 σ1 m := h2
        exact ⟨env1, σ1, .refl, ⟨m, h2⟩, by
          show Hr (p env1 σ1) < Hr (p env σ)
          rw [hm]
          exact Nat.lt_of_le_of_lt (leastD_le h2) (Nat.lt_succ_self m)⟩
      · refine ih _ _ _ _ _ _ h2 ?_
        cases e with
        | normal => exact absurd rfl h1
        | exit i => exact hK
        | ret => exact hK
  | reg rows =>
    intro K env σ e env' σ' h hK
    have h : (match evP std Γ rows env σ with | (ok, env', σ') => bif ok then RR.ok .normal env' σ' else .bad) = .ok e env' σ' := h
    cases hr : evP std Γ rows env σ with
    | mk ok p =>
      obtain ⟨env1, σ1⟩ := p
      rw [hr] at h
      cases ok
      · cases h
      · cases h; exact .inl ⟨by rw [hr], by rw [hr]; exact hK⟩
  | bad => intro K env σ e env' σ' h hK; cases h
  | rfun f ps a b _ _ =>
    intro K env σ e env' σ' h hK
    have h : (match evS env f with
      | .fn g first cap => match g with
        | .func n => match (Γ.up σ.next (rnd (both std Γ.bare fuel a b) env ps)).fn n (first ++ (AV.yld σ.next :: cap)) (σ.new AObj.shut) with
          | (ok, _, σ') => bif Nat.blt σ.next 1000000 && ok then RR.ok .normal env σ' else .bad
        | _ => .bad
      | _ => .bad) = .ok e env' σ' := h
    unfold avc
    cases hc : evS env f <;> rw [hc] at h <;> try (cases h; done)
    rename_i g first cap
    cases g <;> try (cases h; done)
    rename_i n
    dsimp only at h ⊢
    cases hx : (Γ.up σ.next (rnd (both std Γ.bare fuel a b) env ps)).fn n (first ++ (AV.yld σ.next :: cap)) (σ.new AObj.shut) with
    | mk ok p =>
      obtain ⟨v, σ1⟩ := p
      rw [hx] at h
      cases ok
      · rw [Bool.and_false] at h; cases h
      · cases hb : Nat.blt σ.next 1000000 with
        | false => rw [hb] at h; cases h
        | true =>
          rw [hb] at h
          cases h
          exact ⟨rfl, fuel, .inl ⟨by rw [hx], by rw [hx]; exact hK⟩⟩
  | regd st rcs ds =>
    intro K env σ e env' σ' h hK
    have h : (match evDr std Γ st rcs ds env σ with | (ok, env', σ') => bif ok then RR.ok .normal env' σ' else .bad) = .ok e env' σ' := h
    cases hr : evDr std Γ st rcs ds env σ with
    | mk ok p =>
      obtain ⟨env1, σ1⟩ := p
      rw [hr] at h
      cases ok
      · cases h
      · cases h; exact ⟨by rw [hr], by rw [hr]; exact hK⟩
  | mfor pre x m b dl _ =>
    intro K env σ e env' σ' h hK
    have h : detR std (mfr std Γ pre x m (bdF std Γ fuel b dl) env σ) = .ok e env' σ' := h
    obtain ⟨L, hL, ho⟩ := detR_ok h
    refine ⟨fuel, L, hL, fun o hm => ?_⟩
    obtain ⟨h1, h2, h3⟩ := ho o hm
    exact ⟨env', σ', .inl ⟨h2, h3.symm⟩, by rw [h1]; exact hK⟩
section
variable {P : Program} {Γ : Gam} {pu : FuncId → Bool} {G nt N : Nat} {ρ0 : Ren} {σ0 : AH} {W0 : World}
def Fv (r : Nat) : Deferred := { target := .collected r, args := #[] }
def setB (W : World) (r : Nat) (o : Obj) : World := { W with heap := W.heap.setIfInBounds r o }
theorem Cb {W : World} {r c : Nat} {o : Obj} (h : c ≠ r) : (setB W r o).heap[c]? = W.heap[c]? := Array.getElem?_setIfInBounds_ne (Ne.symm h)
theorem C5 {W : World} {r : Nat} {o : Obj} : (setB W r o).heap.size = W.heap.size := Array.size_setIfInBounds
theorem K6 {W : World} {r : Nat} {l : Loop} {o' : Obj} (h : W.heap[r]? = some (.loop l)) : (setObj r o').run P W = .ok () (setB W r o') := by simp [setObj, Sem.run, h, setB]
theorem setB_deferred {W : World} {r : Nat} {l : Option (List Deferred)} {o' : Obj} (h : W.heap[r]? = some (.deferred l)) : (setObj r o').run P W = .ok () (setB W r o') := by simp [setObj, Sem.run, h, setB]
theorem HR.keepW {ρ : Ren} {σ : AH} {W W' : World} (h : HR ρ σ W) (hs : W.heap.size ≤ W'.heap.size) (hk : ∀ c, c < W.heap.size → W'.heap[c]? = W.heap[c]?) : HR ρ σ W' :=
  ⟨h.small, h.none_, fun b c d hb => by
    obtain ⟨h1, h2, o, h3, h4⟩ := h.dom b c d hb
    exact ⟨h1, Nat.lt_of_lt_of_le h2 hs, o, h3, by rw [hk c h2]; exact h4⟩, h.inj⟩
def Mks (ρ : Ren) (W : World) : List Deferred → Prop
  | [] => True
  | d :: ds => ∃ r, d = Fv r ∧ W.heap[r]? = some (.deferred (some [])) ∧ (∀ b x, ρ b ≠ some (r, x)) ∧ (∀ r', Fv r' ∈ ds → r' ≠ r) ∧ Mks ρ W ds
theorem Mks.step {M : Nat} {ρ ρ' : Ren} {σ σ' : AH} {W W' : World} (hs : Stp M ρ σ W ρ' σ' W') : ∀ {ds : List Deferred}, Mks ρ W ds → Mks ρ' W' ds
  | [], _ => trivial
  | _ :: _, ⟨r, e, h1, h2, h3, h4⟩ => by
    have hlt : r < W.heap.size := (Array.getElem?_eq_some_iff.1 h1).1
    refine ⟨r, e, by rw [hs.frame r hlt fun b d => h2 b d]; exact h1, fun b x hb => ?_, h3, Mks.step hs h4⟩
    rcases hs.img b r x hb with ⟨b0, d0, h0⟩ | h0
    · exact h2 b0 d0 h0
    · omega
theorem Mks.weak {ρ ρ' : Ren} {W : World} (h2 : ∀ b c d, ρ' b = some (c, d) → ∃ b0 d0, ρ b0 = some (c, d0)) : ∀ {ds : List Deferred}, Mks ρ W ds → Mks ρ' W ds
  | [], _ => trivial
  | _ :: _, ⟨r, e, h1, hn, h3, h4⟩ => ⟨r, e, h1, fun b x hb => by obtain ⟨b0, d0, h0⟩ := h2 b r x hb; exact hn b0 d0 h0, h3, Mks.weak h2 h4⟩
theorem Mks.lt {ρ : Ren} {W : World} : ∀ {ds : List Deferred}, Mks ρ W ds → ∀ r, Fv r ∈ ds → r < W.heap.size
  | [], _, r, h => by cases h
  | d :: ds, ⟨r0, e, h1, _, _, h4⟩, r, h => by
    rcases List.mem_cons.1 h with h | h
    · rw [e] at h
      have : r = r0 := by simpa [Fv] using h
      subst this
      exact (Array.getElem?_eq_some_iff.1 h1).1
    · exact Mks.lt h4 r h
theorem Mks.setB {ρ : Ren} {W : World} {c : Nat} {o : Obj} : ∀ {ds : List Deferred}, (∀ r, Fv r ∈ ds → r ≠ c) → Mks ρ W ds → Mks ρ (setB W c o) ds
  | [], _, _ => trivial
  | _ :: _, hc, ⟨r, e, h1, h2, h3, h4⟩ => ⟨r, e, by rw [Cb (hc r (by rw [e]; exact List.mem_cons_self))]; exact h1, h2, h3, Mks.setB (fun r' hr => hc r' (List.mem_cons_of_mem _ hr)) h4⟩
theorem HR.setB {ρ : Ren} {σ : AH} {W : World} {r : Nat} {o : Obj} (h : HR ρ σ W) (hn : ∀ b x, ρ b ≠ some (r, x)) : HR ρ σ (setB W r o) :=
  ⟨h.small, h.none_, fun b c d hb => by
    obtain ⟨h1, h2, o, h3, h4⟩ := h.dom b c d hb
    exact ⟨h1, by rw [C5]; exact h2, o, h3, by rw [Cb (fun e => hn b d (by rw [hb, e]))]; exact h4⟩, h.inj⟩
theorem Stp.setB {ρ : Ren} {σ : AH} {W : World} {r : Nat} {o : Obj} (h : Stp N ρ0 σ0 W0 ρ σ W) (hr : W0.heap.size ≤ r) : Stp N ρ0 σ0 W0 ρ σ (setB W r o) :=
  ⟨h.ext, h.img, h.next, h.keep, fun c hc hn => (Cb (by omega)).trans (h.frame c hc hn), h.tape, h.os, h.output, by rw [C5]; exact h.size, fun b c d o hb hρ hc ho hro => by
    obtain ⟨e1, e2⟩ := h.ro b c d o hb hρ hc ho hro
    exact ⟨e1, (Cb (by omega)).trans e2⟩⟩
def AQ (G nt N B : Nat) (ρ0 : Ren) (σ0 : AH) (W0 : World) (K : AK) (e : Exit) (a : Act) (W : World) : Prop :=
  ∃ ρ env σ, K e env σ ∧ HR ρ σ W ∧ ER G nt ρ env a ∧ Stp N ρ0 σ0 W0 ρ σ W ∧ Mks ρ W a.defers ∧ (∀ r, Fv r ∈ a.defers → B ≤ r)
theorem Stp.weak {ρ ρ' : Ren} {σ σ' : AH} {W : World} (h : Stp N ρ0 σ0 W0 ρ σ W) (h1 : ∀ b, b < N → ρ' b = ρ b) (h2 : ∀ b c d, ρ' b = some (c, d) → ∃ b0 d0, ρ b0 = some (c, d0)) (h3 : N ≤ σ'.next) (h4 : ∀ b, b < N → σ'.get b = σ.get b) :
    Stp N ρ0 σ0 W0 ρ' σ' W :=
  ⟨fun b hb => (h1 b hb).trans (h.ext b hb), fun b c d hb => by obtain ⟨b0, d0, h0⟩ := h2 b c d hb; exact h.img b0 c d0 h0, h3, fun b ob hb hn ho ht => (h4 b hb).trans (h.keep b ob hb hn ho ht), h.frame, h.tape, h.os, h.output, h.size, fun b c d ob hb hρ hc ho hr => let ⟨e1, e2⟩ := h.ro b c d ob hb hρ hc ho hr; ⟨(h4 b hb).trans e1, e2⟩⟩
theorem OR.loop_any {ρ : Ren} {d : Nat × Nat} {o : AObj} {lp : Loop} {x : Option Obj} (h : OR ρ d o (some (.loop lp))) : OR ρ d o x := by
  refine ⟨fun hc => ?_, fun l e => ?_⟩
  · obtain ⟨h1, h2⟩ := h.1 hc
    exact ⟨h1, fun hp => by obtain ⟨c, e, fr, hx, _⟩ := h2 hp; cases hx⟩
  · obtain ⟨es, ck, hx, _⟩ := h.2 l e
    cases hx
theorem setB_self {W : World} {c : Nat} {o : Obj} (h : c < W.heap.size) : (setB W c o).heap[c]? = some o := by
  show (W.heap.setIfInBounds c o)[c]? = _
  rw [Array.getElem?_setIfInBounds_self_of_lt h]
theorem HR.turnL {ρ : Ren} {σ : AH} {W : World} {c : Nat} {lp : Loop} {o : Obj} (h : HR ρ σ W) (hl : W.heap[c]? = some (.loop lp)) : HR ρ σ (V2.setB W c o) :=
  ⟨h.small, h.none_, fun b c' d hb => by
    obtain ⟨h1, h2, o', h3, h4⟩ := h.dom b c' d hb
    refine ⟨h1, by rw [C5]; exact h2, o', h3, ?_⟩
    by_cases hc : c' = c
    · subst hc; rw [hl] at h4; exact h4.loop_any
    · rw [Cb hc]; exact h4, h.inj⟩
theorem YInv.turn {Y : List Yl} {ρ : Ren} {σ : AH} {W : World} {c : Nat} {o : Obj} (h : YInv Y ρ σ W) (hc : ∀ y ∈ Y, y.c ≠ c) : YInv Y ρ σ (setB W c o) := fun y hy =>
  ⟨(h y hy).lt, (h y hy).get, (h y hy).at_, (Cb (hc y hy)).trans (h y hy).rec_, (h y hy).sub⟩
theorem YInv.drew {Y : List Yl} {ρ : Ren} {σ : AH} {W : World} (h : YInv Y ρ σ W) (n : Nat) : YInv Y ρ σ { W with drawn := n } := fun y hy => ⟨(h y hy).lt, (h y hy).get, (h y hy).at_, (h y hy).rec_, (h y hy).sub⟩
theorem Stp.round {N c : Nat} {X Z : Obj} {ρ ρ1 ρ2 : Ren} {σ σ1 σ2 : AH} {W W1 W3 : World} (h1 : Stp N ρ σ W ρ1 σ1 W1) (h2 : Stp N ρ1 σ1 (V2.setB W1 c X) ρ2 σ2 W3) (hc : c < W.heap.size) (e0 : W.heap[c]? = some Z) :
    Stp N ρ σ W ρ2 σ2 (V2.setB W3 c Z) := by
  have hs1 := h1.size
  have hs2 : W1.heap.size ≤ W3.heap.size := by have := h2.size; rwa [C5] at this
  have hself : (V2.setB W3 c Z).heap[c]? = some Z := setB_self (by omega)
  refine ⟨fun b hb => (h2.ext b hb).trans (h1.ext b hb), fun b k d hb => ?_, h2.next, fun b o hb hn ho ht => h2.keep b o hb (by rw [h1.ext b hb]; exact hn) (h1.keep b o hb hn ho ht) ht, fun k hk hn => ?_, ?_, ?_, ?_, by rw [C5]; omega, fun b k d o hb hρ hk ho hro => ?_⟩
  · rcases h2.img b k d hb with ⟨b0, d0, h0⟩ | h0
    · rcases h1.img b0 k d0 h0 with h | h
      · exact .inl h
      · exact .inr h
    · rw [C5] at h0
      exact .inr (by omega)
  · by_cases hkc : k = c
    · subst hkc; rw [hself, e0]
    · rw [Cb hkc, h2.frame k (by rw [C5]; omega) (fun b d hb => by
        rcases h1.img b k d hb with ⟨b0, d0, h0⟩ | h0
        · exact hn b0 d0 h0
        · omega), Cb hkc]
      exact h1.frame k hk hn
  · exact h2.tape.trans h1.tape
  · exact h2.os.trans h1.os
  · exact h2.output.trans h1.output
  · obtain ⟨a1, a2⟩ := h1.ro b k d o hb hρ hk ho hro
    obtain ⟨b1, b2⟩ := h2.ro b k d o hb (by rw [h1.ext b hb]; exact hρ) (by rw [C5]; omega) a1 hro
    refine ⟨b1, ?_⟩
    by_cases hkc : k = c
    · subst hkc; rw [hself, e0]
    · rw [Cb hkc, b2, Cb hkc, a2]
structure Start (Y : List Yl) (N B : Nat) (ρ0 : Ren) (σ0 : AH) (W0 : World) : Prop where
  b : B ≤ W0.heap.size
  inv : YInv Y ρ0 σ0 W0
  lt : ∀ y ∈ Y, y.l < N
  hr : HR ρ0 σ0 W0
theorem bindP_er {ρ : Ren} : ∀ (ps : List Nat) (args : List AV) (vs : List Value) (env : T AV) (tmps : Array Value), ps.length = args.length → (ps.all fun p => Nat.blt p nt) = true → VRs ρ args vs → ER G nt ρ env { tmps := tmps, defers := [] } →
    ER G nt ρ (Ko env ps args) { tmps := (ps.zip vs).foldl (fun tmps (t, a) => tmps.setIfInBounds t a) tmps, defers := [] }
  | [], _, _, _, _, _, _, _, he => he
  | p :: ps, [], _, _, _, hl, _, _, _ => by cases hl
  | p :: ps, a :: args, vs, env, tmps, hl, hp, hv, he => by
    obtain ⟨v, m, rfl, hv, hm⟩ := hv
    rw [List.all_cons, Bool.and_eq_true, Nat.blt_eq] at hp
    exact bindP_er ps args m (env.put p a) _ (by simpa using hl) hp.2 hm (he.put (d := some p) (fun t e => by cases e; exact hp.1) hv)
theorem yield_run {W : World} {c : Nat} {lp : Loop} {vs : List Value} (h : W.heap[c]? = some (.loop lp)) (hl : lp.params.toList.length = vs.length) :
    (Instr.yield c vs.toArray).run P W = .ok (.round c lp.fn ((lp.params.toList.zip vs).foldl (fun tmps (t, a) => tmps.setIfInBounds t a) lp.tmps) lp.assign lp.body) W := by
  have hz : (lp.params.zip vs.toArray).foldl (fun tmps (x : Tmp × Value) => tmps.setIfInBounds x.1 x.2) lp.tmps = (lp.params.toList.zip vs).foldl (fun tmps x => tmps.setIfInBounds x.1 x.2) lp.tmps := by
    rw [← Array.foldl_toList, Array.toList_zip]
  have hs : ¬ (vs.toArray.size ≠ lp.params.size) := by
    intro hne; apply hne; rw [List.size_toArray, ← hl, Array.length_toList]
  simp only [Instr.yield, Instr.getLoop, getObj, Sem.run_bind, Sem.run, h, Result.andThen_ok, Sem.run_pure, if_neg hs]
  rw [hz]
theorem rnd_ok {f : T AV → AH → RR} {env : T AV} {ps : List Nat} {args : List AV} {σ : AH} (h : (rnd f env ps args σ).1 = true) : ps.length = args.length ∧ ∃ e2 s2, f (Ko env ps args) σ = .ok .normal e2 s2 ∧ rnd f env ps args σ = (true, .bool true, s2) := by
  unfold rnd at h ⊢
  cases hl : Nat.beq ps.length args.length with
  | false => rw [hl] at h; cases h
  | true =>
    rw [hl] at h
    simp only [cond_true] at h ⊢
    refine ⟨Nat.eq_of_beq_eq_true hl, ?_⟩
    cases hr : f (Ko env ps args) σ with
    | bad => rw [hr] at h; cases h
    | ok e e2 s2 =>
      rw [hr] at h
      cases e with
      | normal => exact ⟨e2, s2, rfl, rfl⟩
      | exit i => cases h
      | ret => cases h
theorem Gam.bare_up (Γ : Gam) : Γ.bare.up = fun _ _ => .no := by cases Γ <;> rfl
theorem beginRound_run {W : World} {c : Nat} {lp : Loop} (h : W.heap[c]? = some (.loop lp)) (hs : lp.state = .ready) : (Instr.beginRound c).run P W = .ok () (setB W c (.loop { lp with state := .busy })) := by
  simp [Instr.beginRound, Instr.getLoop, getObj, Sem.run_bind, Sem.run, h, K6 h, hs]
theorem endRound_run {W : World} {c : Nat} {lp : Loop} (h : W.heap[c]? = some (.loop { lp with state := .busy })) (hs : lp.state = .ready) (hp : lp.pending = none) : (Instr.endRound c none).run P W = .ok (.bool true) (setB W c (.loop lp)) := by
  have e : ({ lp with state := .ready, pending := none } : Loop) = lp := by cases lp; simp_all
  simp [Instr.endRound, Instr.getLoop, getObj, Sem.run_bind, Sem.run, h, K6 h, e]
end
end
end Go.Proofs.YtjoakhpdajlhiaaGreatDoor.V2
