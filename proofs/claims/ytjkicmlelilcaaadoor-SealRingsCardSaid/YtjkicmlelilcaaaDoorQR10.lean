/- Part 10 of the proof: texts of the proof. -/
import Derived.Test.YtjkicmlelilcaaaDoorQR9
namespace Go.Proofs.YtjkicmlelilcaaaDoor.V2
open Go
noncomputable section
def putAll (vals : T AV) : List (Option Nat) → Nat → T AV → T AV
  | [], _, env => env
  | d :: l, i, env => putAll vals l (i + 1) (putD env d (valD vals i))
section
variable {P : Program} {Γ : Gam} {pu : FuncId → Bool} {ops : Array Oper} {steps : List (Nat × CRow)} {env : T AV} {ρ0 : Ren} {σ0 : AH} {W0 : World} {a0 : Act}
variable {nt G : Nat} {B : List (List Nat)} {order : List Nat} {rc : Nat → List Nat}
theorem putAll_er {ρ : Ren} {vals : T AV} {vs : Nat → Value} (hd : ∀ k d, dstAt ops k = some d → d < nt) (hv : ∀ k, k < ops.size → VR ρ (valD vals k) (vs k)) : ∀ (n i : Nat) (env : T AV) (a : Act), i + n = ops.size → ER G nt ρ env a →
    ER G nt ρ (putAll vals ((List.range' i n).map (dstAt ops)) i env) (actOf ops a vs (List.range' i n))
  | 0, i, env, a, _, h => h
  | n + 1, i, env, a, he, h => by
    rw [List.range'_succ, List.map_cons]
    exact putAll_er hd hv n (i + 1) _ _ (by omega) (h.put (hd i) (hv i (by omega)))
structure DInv (Γ : Gam) (pu : FuncId → Bool) (ops : Array Oper) (steps : List (Nat × CRow)) (B : List (List Nat)) (env : T AV) (ρ0 : Ren) (σ0 : AH) (W0 : World) (a0 : Act) (rc : Nat → List Nat) (listed : Array Bool) (a : Act) (W : World) : Prop where
  size : listed.size = ops.size
  closed : ∀ i, lst listed i = true → ∀ k ∈ B.getD i [], lst listed k = true
  ex : ∃ done rest vals σ ρ vs bl, DSt Γ pu ops steps env ρ0 σ0 W0 a0 rc bl listed a W done rest vals σ ρ vs ∧ ∀ p, rest.head? = some p → kd pu p.2 = .S
theorem drawn_any (hΓ : GamOk P G Γ) (hpu : PuOk Γ pu) (hst : stepsOf P nt G ops B order = some steps) (hord : chkOrd pu B rc [] steps = true) (hall : (List.range ops.size).all (hasId steps) = true) (hsm : ops.size ≤ 1000000)
    (hchk : chkRegion ops B [] = true) (hr0 : HR ρ0 σ0 W0) (he0 : ER G nt ρ0 env a0) (hok : (evD std Γ env steps rc steps .leaf σ0).1 = true) {Q : Exit → Act → World → Prop}
    (hQ : ∀ ρ' a' W', HR ρ' (evD std Γ env steps rc steps .leaf σ0).2.2 W' → ER G nt ρ' (putAll (evD std Γ env steps rc steps .leaf σ0).2.1 (ops.toList.map (·.dst)) 0 env) a' → Stp σ0.next ρ0 σ0 W0 ρ' (evD std Γ env steps rc steps .leaf σ0).2.2 W' → a'.defers = a0.defers → Q .normal a' W') :
    wpAny P .any ops Q ops.size (Array.replicate ops.size false) a0 W0 := by
  have hchk0 := hchk
  simp only [chkRegion, Bool.and_eq_true] at hchk
  obtain ⟨⟨⟨⟨⟨_, cE⟩, cB⟩, cS⟩, cT⟩, cN⟩ := hchk
  have hE : ∀ i k, k ∈ B.getD i [] → i < ops.size → k < i ∧ ∃ o, ops[i]? = some o ∧ ∃ e ∈ o.after, Region.binds .any e = true ∧ (k = e.on ∨ k ∈ B.getD e.on []) := by
    intro i k hk hi
    have := List.all_eq_true.1 (List.all_eq_true.1 cE i (List.mem_range.2 hi)) k hk
    cases ho : ops[i]? with
    | none => rw [ho] at this; simp at this
    | some o =>
      rw [ho] at this
      simp only [Bool.and_eq_true, decide_eq_true_eq] at this
      obtain ⟨e, he, hb⟩ : ∃ e ∈ o.after, (Region.binds .any e && (k == e.on || (B.getD e.on []).contains k)) = true := by
        obtain ⟨j, hj, hb⟩ := Array.any_eq_true.1 this.2
        exact ⟨_, Array.getElem_mem hj, hb⟩
      simp only [Bool.and_eq_true, Bool.or_eq_true, beq_iff_eq, List.contains_iff_mem] at hb
      exact ⟨this.1, o, rfl, e, he, hb.1, hb.2⟩
  have hS : ∀ i k o, ops[i]? = some o → k < ops.size → k ≠ i → k ∉ B.getD i [] → i ∉ B.getD k [] → ∀ t, dstAt ops k = some t → t ∉ o.looksAt ops ∧ o.dst ≠ some t := by
    intro i k o ho hk hne h1 h2 t ht
    have hi : i < ops.size := (Array.getElem?_eq_some_iff.1 ho).1
    have := List.all_eq_true.1 cS i (List.mem_range.2 hi)
    rw [ho] at this
    have := List.all_eq_true.1 this k (List.mem_range.2 hk)
    rw [ht] at this
    simp only [Bool.or_eq_true, beq_iff_eq, List.contains_iff_mem, Bool.and_eq_true, Bool.not_eq_true', beq_eq_false_iff_ne] at this
    rcases this with ((h | h) | h) | h
    · exact absurd h hne
    · exact absurd h h1
    · exact absurd h h2
    · exact ⟨fun hm => by have := List.contains_iff_mem.2 hm; rw [this] at h; simp at h, h.2⟩
  have hdl : ∀ k d, dstAt ops k = some d → d < nt := by
    intro k d hk
    unfold dstAt at hk
    cases ho : ops[k]? with
    | none => rw [ho] at hk; cases hk
    | some o =>
      rw [ho] at hk
      have hks : k < ops.size := (Array.getElem?_eq_some_iff.1 ho).1
      obtain ⟨r, hr⟩ := hasId_iff.1 (List.all_eq_true.1 hall k (List.mem_range.2 hks))
      obtain ⟨o', ho', hrow⟩ := (stepsOf_spec hst).2 _ hr
      rw [ho] at ho'; cases ho'
      exact (rowOf_spec hrow).2.2.2 d hk
  refine wpAny_of_inv (DInv Γ pu ops steps B env ρ0 σ0 W0 a0 rc) ?_ ?_ ops.size _ a0 _ (by simp) (by simp) ?_
  · -- one operation more
    intro listed a W hJ i hi
    obtain ⟨hun, o, ho, hready⟩ := mem_ready.1 hi
    have hilt : i < ops.size := (Array.getElem?_eq_some_iff.1 ho).1
    have hils : i < listed.size := by rw [hJ.size]; exact hilt
    have hnl : lst listed i = false := by
      have : listed[i] = false := by simpa [hils] using hun
      simp [lst, hils, this]
    have hBi : ∀ k ∈ B.getD i [], lst listed k = true := by
      intro k hk
      obtain ⟨_, o', ho', e, he, hb, hor⟩ := hE i k hk hilt
      rw [ho] at ho'; cases ho'
      have hon := hready e he hb
      rcases hor with rfl | hk2
      · exact hon
      · exact hJ.closed _ hon k hk2
    obtain ⟨done, rest, vals, σ, ρ, vs, bl, hD, hhead⟩ := hJ.ex
    have hiB : ∀ k, lst listed k = true → i ∉ B.getD k [] := fun k hk hik => by
      have := hJ.closed k hk i hik; rw [hnl] at this; cases this
    have hsort : B.getD i [] = (List.range ops.size).filter fun k => (B.getD i []).contains k := by
      have := List.all_eq_true.1 cT i (List.mem_range.2 hilt)
      exact beq_iff_eq.1 this
    have hsame : ∀ t ∈ o.looksAt ops, a.tmps[t]? = (actOf ops a0 vs (B.getD i [])).tmps[t]? := by
      intro t ht
      rw [hD.act, hsort]
      refine actOf_at ops vs t _ _ _ (fun k hk hd => ?_) a0 a0 rfl rfl
      have hklt := List.mem_range.1 hk
      by_cases hkB : k ∈ B.getD i []
      · rw [hBi k hkB, List.contains_iff_mem.2 hkB]
      · rw [show (B.getD i []).contains k = false from by rw [Bool.eq_false_iff]; exact fun h => hkB (List.contains_iff_mem.1 h)]
        rw [Bool.eq_false_iff]
        intro hkl
        have hki : k ≠ i := fun e => by rw [e, hnl] at hkl; cases hkl
        exact (hS i k o ho hklt hki hkB (hiB k hkl) t hd).1 ht
    have he0' : ER G nt ρ env a0 := he0.sub (hD.stp.sub hr0)
    have hev : ∀ x, VR ρ (evR env vals (rfD G ops (B.getD i []) o x)) (a.eval x) := by
      intro x
      cases x with
      | const v => exact vr_ofVal ρ v
      | global g => exact he0'.ev (.global g)
      | func f => exact he0'.ev (.func f)
      | tmp t =>
        simp only [rfD]
        cases hc : (o.looksAt ops).contains t
        · trivial
        · simp only [cond_true, Act.eval]
          have hs := hsame t (List.contains_iff_mem.1 hc)
          rw [Array.getD_eq_getD_getElem?, hs]
          cases hl : lastW ops t (B.getD i []) with
          | some k =>
            simp only [evR]
            have hkB := lastW_mem hl
            have hdk : dstAt ops k = some t := by
              have : ∀ {l : List Nat} {k : Nat}, lastW ops t l = some k → dstAt ops k = some t := by
                intro l
                induction l with
                | nil => intro k h; cases h
                | cons j l ih =>
                  intro k h
                  rw [lastW_cons] at h
                  split at h
                  · rename_i i hi; cases h; exact ih hi
                  · cases hd : dstAt ops j == some t <;> rw [hd] at h <;> cases h
                    exact beq_iff_eq.1 hd
              exact this hl
            rw [actOf_last _ _ (by rw [he0.size]; exact hdl k t hdk), hl]
            exact hD.vals_ k (hBi k hkB)
          | none =>
            simp only [evR]
            have hkeep : (actOf ops a0 vs (B.getD i [])).tmps[t]? = a0.tmps[t]? := by
              by_cases hts : t < a0.tmps.size
              · rw [actOf_last _ _ hts, hl]
              · have h1 : (actOf ops a0 vs (B.getD i [])).tmps.size ≤ t := by rw [actOf_size]; exact Nat.le_of_not_lt hts
                rw [Array.getElem?_eq_none h1, Array.getElem?_eq_none (Nat.le_of_not_lt hts)]
            rw [hkeep, ← Array.getD_eq_getD_getElem?]
            cases ht : env.get t with
            | none => trivial
            | some v => exact he0'.at_ t v ht
    have hdst : dstAt ops i = o.dst := by simp [dstAt, ho]
    have hact : ∀ v, a.put o.dst v = actOf ops a0 (upd vs i v) ((List.range ops.size).filter (lst (listed.setIfInBounds i true))) := fun v => by
      rw [actOf_insert ops a0 vs ops.size i _ (lst listed) _ hilt hnl (lst_set hils), ← hD.act, hdst]
      intro k hik hkn hkl t ht hkt
      rw [hdst] at ht
      refine (hS i k o ho hkn (by omega) (fun hkB => ?_) (hiB k hkl) t hkt).2 ht
      have := (hE i k hkB hilt).1
      omega
    have hsz' : (listed.setIfInBounds i true).size = ops.size := by simpa using hJ.size
    have hcl' : ∀ j, lst (listed.setIfInBounds i true) j = true → ∀ k ∈ B.getD j [], lst (listed.setIfInBounds i true) k = true := by
      intro j hj k hk
      rw [lst_set hils] at hj ⊢
      rcases Bool.or_eq_true_iff.1 hj with h | h
      · rw [hJ.closed j h k hk]; rfl
      · rw [beq_iff_eq.1 h] at hk; rw [hBi k hk]; rfl
    have hlf : ∀ j, lst (listed.setIfInBounds i true) j = false → j ≠ i ∧ lst listed j = false := fun j hj => by
      rw [lst_set hils, Bool.or_eq_false_iff] at hj
      exact ⟨by have := hj.2; rwa [beq_eq_false_iff_ne] at this, hj.1⟩
    have hlt' : ∀ j, lst (listed.setIfInBounds i true) j = true → j = i ∨ lst listed j = true := fun j hj => by
      rw [lst_set hils] at hj
      rcases Bool.or_eq_true_iff.1 hj with h | h
      · exact .inr h
      · exact .inl (beq_iff_eq.1 h)
    obtain ⟨r, hrs⟩ := hasId_iff.1 (List.all_eq_true.1 hall i (List.mem_range.2 hilt))
    obtain ⟨o', ho', hrow⟩ := (stepsOf_spec hst).2 _ hrs
    simp only at ho' hrow
    rw [ho] at ho'; cases ho'
    unfold wpOp
    simp only [ho]
    have hs0 := hD.stp.next
    rw [hD.split] at hrs
    rcases List.mem_append.1 hrs with hdn | hre
    · -- one that waits
      have hpend := hD.pend _ hdn hnl
      have hvals : ∀ {ρ' : Ren} {v : Value}, Sub ρ ρ' → VR ρ' (valD vals i) v → ∀ j, lst (listed.setIfInBounds i true) j = true → VR ρ' (valD vals j) (upd vs i v j) := by
        intro ρ' v hsub hv j hj
        by_cases hji : j = i
        · subst hji; rw [upd_self]; exact hv
        · rw [upd_ne _ _ hji]; exact (hD.vals_ j ((hlt' j hj).resolve_left hji)).mono hsub
      have hnext : ∀ {ρ' : Ren} {W' : World} {v : Value}, HR ρ' σ W' → Stp σ0.next ρ0 σ0 W0 ρ' σ W' → Sub ρ ρ' → VR ρ' (valD vals i) v → (∀ p ∈ done, kd pu p.2 = .A → p.1 ≠ i → lst listed p.1 = false → ρ (bl p.1) = none → ρ' (bl p.1) = none) →
          DInv Γ pu ops steps B env ρ0 σ0 W0 a0 rc (listed.setIfInBounds i true) (a.put o.dst v) W' := by
        intro ρ' W' v h1 h2 h3 h4 h5
        refine ⟨hsz', hcl', done, rest, vals, σ, ρ', upd vs i v, bl, ⟨hD.split, fun p hp hk => by rw [lst_set hils, hD.barS p hp hk]; rfl, fun j hj => ?_, hD.eval, hD.ok, h1, h2, hvals h3 h4, hact v, fun p hp hl => ?_, fun p hp q hq hk hk' hne hl hl' => hD.apart p hp q hq hk hk' hne (hlf _ hl).2 (hlf _ hl').2⟩, hhead⟩
        · rcases hlt' j hj with rfl | h
          · exact ⟨r, hdn⟩
          · exact hD.only j h
        · obtain ⟨hne, hl⟩ := hlf _ hl
          have hp0 := hD.pend p hp hl
          refine ⟨hp0.val, fun hk => ?_⟩
          obtain ⟨σ', e1, e2, e3, e4, e5, e6⟩ := hp0.new hk
          exact ⟨σ', e1, e2, e3, h5 p hp hk hne hl e4, e5, e6⟩
      cases hk : kd pu r with
      | S => have := hD.barS _ hdn hk; rw [hnl] at this; cases this
      | A =>
        obtain ⟨σ', e1, e2, e3, e4, e5, e6⟩ := hpend.new hk
        simp only at e1 e2 e3 e4 e5
        obtain ⟨hw, v, x, n, s, hrun, hO, hval⟩ := A_run hrow hk hev e6 W
        rw [if_pos hw]
        refine .inl ?_
        unfold Oper.wp
        rw [hrun, Oper.upon_value]
        obtain ⟨ρ', f1, f2, f3, f4⟩ := (hD.hr.drew n).fill e4 e3 e5 hO
        refine hnext f4 ⟨fun m hm => (f2 m (by omega)).trans (hD.stp.ext m hm), fun m c d hc => ?_, hs0, fun m ob hm hn => hD.stp.keep m ob hm hn, fun c hc hn => ?_, hD.stp.tape, hD.stp.os, hD.stp.output, by have := hD.stp.size; simp; omega, fun m c d ob hm hρ hc ho hr => let ⟨q1, q2⟩ := hD.stp.ro m c d ob hm hρ hc ho hr; ⟨q1, by
          have hcW : c < W.heap.size := Nat.lt_of_lt_of_le hc hD.stp.size
          rw [← q2]
          show (W.heap.push x)[c]? = _
          rw [Array.getElem?_push, if_neg (by omega)]⟩⟩ f3 ?_ (fun p hp hkp hne hl hn => ?_)
        · by_cases hmb : m = bl i
          · subst hmb; rw [f1] at hc; cases hc; exact .inr hD.stp.size
          · rw [f2 m hmb] at hc; exact hD.stp.img m c d hc
        · have hcW : c < W.heap.size := Nat.lt_of_lt_of_le hc hD.stp.size
          have := hD.stp.frame c hc hn
          rw [← this]
          show (W.heap.push x)[c]? = _
          rw [Array.getElem?_push, if_neg (by omega)]
        · rw [e1]
          exact hval ρ' _ f1
        · rw [f2 _ (hD.apart p hp (i, r) hdn hkp hk hne hl hnl)]
          exact hn
      | P =>
        obtain ⟨e1, e2, e3⟩ := hpend.val (.inl hk)
        refine row_sound hΓ he0'.glob hrow hev hD.hr e1 fun v W' ρ' h1 h2 h3 => ?_
        simp only at e2 e3
        rw [e3] at h1 h2
        rw [e2] at h3
        exact hnext h1 (hD.stp.trans h2 hs0) (h2.sub hD.hr) h3 fun p hp hkp _ hl hn => by
          obtain ⟨_, _, _, f3, _⟩ := (hD.pend p hp hl).new hkp
          rw [h2.ext _ f3]; exact hn
      | L =>
        obtain ⟨e1, e2, e3⟩ := hpend.val (.inr hk)
        refine row_sound hΓ he0'.glob hrow hev hD.hr e1 fun v W' ρ' h1 h2 h3 => ?_
        simp only at e2 e3
        rw [e3] at h1 h2
        rw [e2] at h3
        exact hnext h1 (hD.stp.trans h2 hs0) (h2.sub hD.hr) h3 fun p hp hkp _ hl hn => by
          obtain ⟨_, _, _, f3, _⟩ := (hD.pend p hp hl).new hkp
          rw [h2.ext _ f3]; exact hn
    · -- the bar
      have hisHead : ∃ rest', rest = (i, r) :: rest' := by
        cases hrr : rest with
        | nil => rw [hrr] at hre; cases hre
        | cons s rest' =>
          rw [hrr] at hre
          rcases List.mem_cons.1 hre with h | h
          · exact ⟨rest', by rw [h]⟩
          · exfalso
            obtain ⟨l1, l2, e⟩ := List.append_of_mem h
            have hsS := hhead s (by rw [hrr]; rfl)
            have hs' : steps = (done ++ s :: l1) ++ (i, r) :: l2 := by rw [hD.split, hrr, e]; simp
            have hsB := (ord_spec hord hs').2.2.1 s (by simp) hsS
            have hsl := hBi _ hsB
            obtain ⟨r', hr'⟩ := hD.only _ hsl
            have hs2 : steps = done ++ s :: rest' := by rw [hD.split, hrr]
            exact (ord_spec hord hs2).2.1 _ hr' rfl
      obtain ⟨rest', rfl⟩ := hisHead
      have hkS : kd pu r = .S := hhead _ rfl
      obtain ⟨hB, hdis, hbar, hLs⟩ := ord_spec hord hD.split
      have hps : (i, r) ∈ steps := by rw [hD.split]; simp
      have hi20 := (id_small hst hsm hps).2
      simp only at hi20 hB hdis hbar hLs
      have hok' := hD.ok
      rw [evD_cons] at hok'
      generalize hg : gstep std Γ (evR env vals) σ r = g at hok'
      obtain ⟨ok, v0, σ1⟩ := g
      simp only at hok'
      generalize hrk : rechk std Γ env steps (vals.put i v0) σ1 (rc i) = rk at hok'
      generalize hrest : evD std Γ env steps rc rest' (vals.put i v0) σ1 = rr at hok'
      obtain ⟨okr, xr⟩ := rr
      simp only [Bool.and_eq_true] at hok'
      obtain ⟨⟨rfl, rfl⟩, rfl⟩ := hok'
      have hgok : (gstep std Γ (evR env vals) σ r).1 = true := by rw [hg]
      refine row_sound hΓ he0'.glob hrow hev hD.hr hgok fun v W' ρ' h1 h2 h3 => ?_
      rw [hg] at h1 h2 h3
      simp only at h1 h2 h3
      have hsub := h2.sub hD.hr
      have hvalj : ∀ j, j ≠ i → valD (vals.put i v0) j = valD vals j := fun j hj => by rw [valD_put hi20, if_neg hj]
      have hagree : ∀ q ∈ done, ∀ x ∈ q.2.refs, evR env (vals.put i v0) x = evR env vals x := fun q hq => evR_agree hi20 (done_refs hst hord hD.split (List.mem_append_left _ hq))
      have hnew : DSt Γ pu ops steps env ρ0 σ0 W0 a0 rc bl (listed.setIfInBounds i true) (a.put o.dst v) W' (done ++ [(i, r)]) rest' (vals.put i v0) σ1 ρ' (upd vs i v) := by
        refine ⟨by rw [hD.split]; simp, fun p hp hk => ?_, fun j hj => ?_, ?_, by rw [hrest], h1, hD.stp.trans h2 hs0, fun j hj => ?_, hact v, fun q hq hl => ?_, fun p hp q hq hk hk' hne hl hl' => ?_⟩
        · rw [lst_set hils]
          rcases List.mem_append.1 hp with hp | hp
          · rw [hD.barS p hp hk]; rfl
          · rw [List.mem_singleton] at hp; subst hp; simp
        · rcases hlt' j hj with rfl | h
          · exact ⟨r, by simp⟩
          · obtain ⟨r', hr'⟩ := hD.only j h; exact ⟨r', List.mem_append_left _ hr'⟩
        · rw [evD_append _ _ _ _ _ _ hD.eval, evD_cons, hg]; simp only [hrk]; rfl
        · by_cases hji : j = i
          · subst hji; rw [upd_self, valD_put hi20, if_pos rfl]; exact h3
          · rw [upd_ne _ _ hji, hvalj j hji]; exact (hD.vals_ j ((hlt' j hj).resolve_left hji)).mono hsub
        · obtain ⟨hne, hl⟩ := hlf _ hl
          have hqd : q ∈ done := by
            rcases List.mem_append.1 hq with h | h
            · exact h
            · rw [List.mem_singleton] at h; subst h; exact absurd rfl hne
          have hp0 := hD.pend q hqd hl
          refine ⟨fun hk => ?_, fun hk => ?_⟩
          · rcases hk with hk | hk
            · obtain ⟨e1, e2, _⟩ := hp0.val (.inl hk)
              rw [gstep_congr (hagree q hqd), kd_P (A := std) hpu (fun v => lit_evR (env := env) vals v) hk σ1 σ, hvalj _ hne]
              exact ⟨e1, e2, rfl⟩
            · rcases hLs hkS q hqd hk with hin | hin
              · exfalso
                have := hBi _ hin
                rw [hl] at this; cases this
              · obtain ⟨q', hq', e1, e2, e3⟩ := rechk_mem hrk q.1 hin
                have hqs : q ∈ steps := by rw [hD.split]; exact List.mem_append_left _ hqd
                obtain ⟨oq, hoq, hrq⟩ := (stepsOf_spec hst).2 q hqs
                obtain ⟨oq', hoq', hrq'⟩ := (stepsOf_spec hst).2 q' hq'
                rw [e1, hoq] at hoq'
                cases hoq'
                rw [e1, hrq] at hrq'
                simp only [Option.some.injEq] at hrq'
                rw [← hrq'] at e2 e3
                exact ⟨e2, e3, (kd_L (Γ := Γ) hk (σ := σ1) (σ' := σ1) (fun _ _ h => h) e2).2⟩
          · obtain ⟨σ', e1, e2, e3, e4, e5, e6⟩ := hp0.new hk
            rw [hvalj _ hne, objA_congr (hagree q hqd), valA_congr (hagree q hqd)]
            refine ⟨σ', e1, e2, Nat.lt_of_lt_of_le e3 h2.next, by rw [h2.ext _ e3]; exact e4, h2.keep _ _ e3 e4 e5 (objA_tail e6 hk), by rw [gstep_congr (hagree q hqd)]; exact e6⟩
        · obtain ⟨hn1, hl⟩ := hlf _ hl
          obtain ⟨hn2, hl'⟩ := hlf _ hl'
          have hd : ∀ q ∈ done ++ [(i, r)], q.1 ≠ i → q ∈ done := fun q hq hne => by
            rcases List.mem_append.1 hq with h | h
            · exact h
            · rw [List.mem_singleton] at h; subst h; exact absurd rfl hne
          exact hD.apart p (hd p hp hn1) q (hd q hq hn2) hk hk' hne hl hl'
      obtain ⟨d', r', v', s', bl', k1, k2⟩ := seg hpu hst hord hsm rest' _ _ _ _ hnew
      exact ⟨hsz', hcl', d', r', v', s', ρ', _, bl', k1, k2⟩
  · -- the end
    intro listed a W hJ hr
    have hallL : ∀ n, n ≤ ops.size → ∀ k, k < n → lst listed k = true := by
      intro n
      induction n with
      | zero => intro _ k hk; omega
      | succ n ih =>
        intro hn k hk
        have ih := ih (by omega)
        by_cases hkn : k < n
        · exact ih k hkn
        · obtain rfl : k = n := by omega
          cases hl : lst listed k with
          | true => rfl
          | false =>
            have hks : k < listed.size := by rw [hJ.size]; omega
            obtain ⟨o, ho⟩ : ∃ o, ops[k]? = some o := ⟨_, Array.getElem?_eq_getElem (by omega)⟩
            have : k ∈ Region.ready .any ops listed := by
              refine mem_ready.2 ⟨?_, o, ho, fun e he hb => ?_⟩
              · have : listed[k] = false := by simpa [lst, hks] using hl
                simp [hks, this]
              · have := List.all_eq_true.1 cB k (List.mem_range.2 (by omega))
                rw [ho] at this
                have := Array.all_eq_true_iff_forall_mem.1 this e he
                rw [hb] at this
                simp at this
                exact ih e.on this
            rw [hr] at this; cases this
    have hallL := hallL ops.size (Nat.le_refl _)
    obtain ⟨done, rest, vals, σ, ρ, vs, bl, hD, hhead⟩ := hJ.ex
    have hrest : rest = [] := by
      cases hrr : rest with
      | nil => rfl
      | cons p rest' =>
        exfalso
        have hs' : steps = done ++ p :: rest' := by rw [hD.split, hrr]
        have hps : p ∈ steps := by rw [hs']; simp
        obtain ⟨r', hr'⟩ := hD.only _ (hallL _ (id_small hst hsm hps).1)
        exact (ord_spec hord hs').2.1 _ hr' rfl
    subst hrest
    have hsd : steps = done := by rw [hD.split]; simp
    have hev := hD.eval
    rw [← hsd] at hev
    have hfil : (List.range ops.size).filter (lst listed) = List.range ops.size := List.filter_eq_self.2 fun k hk => hallL k (List.mem_range.1 hk)
    have hact := hD.act
    rw [hfil] at hact
    have hdd : ops.toList.map (·.dst) = (List.range' 0 ops.size).map (dstAt ops) := by
      apply List.ext_getElem?
      intro j
      rw [List.getElem?_map, List.getElem?_map, Array.getElem?_toList]
      by_cases hj : j < ops.size
      · rw [List.getElem?_range' hj]
        simp [dstAt, hj]
      · rw [Array.getElem?_eq_none (by omega), List.getElem?_eq_none (by simp; omega)]; rfl
    refine hQ ρ a W (by rw [hev]; exact hD.hr) ?_ (by rw [hev]; exact hD.stp) (by rw [hact, actOf_defers])
    rw [hev, hdd, hact, List.range_eq_range']
    exact putAll_er hdl (fun k hk => hD.vals_ k (hallL k hk)) ops.size 0 env a0 (by omega) (he0.sub (hD.stp.sub hr0))
  · -- the begin
    have hf : ∀ i, lst (Array.replicate ops.size false) i = false := fun i => by
      unfold lst; rw [Array.getD_eq_getD_getElem?, Array.getElem?_replicate]; split <;> rfl
    have hstart : DSt Γ pu ops steps env ρ0 σ0 W0 a0 rc (fun _ => 0) (Array.replicate ops.size false) a0 W0 [] steps .leaf σ0 ρ0 (fun _ => undef) := by
      refine ⟨rfl, fun p hp => (by cases hp), fun i hi => (by rw [hf] at hi; cases hi), rfl, hok, hr0, Stp.refl (Nat.le_refl _), fun i hi => (by rw [hf] at hi; cases hi), ?_, fun p hp => (by cases hp), fun p hp => (by cases hp)⟩
      have : (List.range ops.size).filter (lst (Array.replicate ops.size false)) = [] := List.filter_eq_nil_iff.2 fun k hk => by rw [hf]; simp
      rw [this]; rfl
    obtain ⟨d', r', v', s', bl', k1, k2⟩ := seg hpu hst hord hsm steps [] _ _ _ hstart
    exact ⟨by simp, fun i hi => (by rw [hf] at hi; cases hi), d', r', v', s', ρ0, _, bl', k1, k2⟩
end
end
end Go.Proofs.YtjkicmlelilcaaaDoor.V2
namespace Go.Proofs.YtjkicmlelilcaaaDoor.V2
open Go
noncomputable section
inductive ACode where
  | skip
  | ret
  | exit (id : Nat)
  | seq (a b : ACode)
  | cond (c : Ref) (a b : ACode)
  | block (id : Nat) (c : ACode)
  | loop (c : ACode)
  | reg (rows : List CRow)
  | regd (steps : List (Nat × CRow)) (rcs : List (Nat × List Nat)) (dsts : List (Option Nat))
  | bad
  | rfun (f : Ref) (ps : List Nat) (a b : ACode)
def cloGo : List Oper → List (List Nat) → List (List Nat)
  | [], acc => acc
  | o :: l, acc => cloGo l (acc ++ [(List.range acc.length).filter fun k => o.after.any fun e => Region.binds .any e && (k == e.on || (acc.getD e.on []).contains k)])
def takeFirst {α : Type} (f : α → Bool) : List α → Option (α × List α)
  | [] => none
  | x :: l => bif f x then some (x, l) else match takeFirst f l with
    | some (y, m) => some (y, x :: m)
    | none => none
def sched (pu : FuncId → Bool) (B : List (List Nat)) : Nat → List (Nat × CRow) → List (Nat × CRow) → List (Nat × CRow)
  | 0, done, _ => done
  | n + 1, done, todo => match takeFirst (fun p => !(kd pu p.2 == .S) && (B.getD p.1 []).all (hasId done)) todo with
    | some (p, r) => sched pu B n (done ++ [p]) r
    | none => match takeFirst (fun p => (B.getD p.1 []).all (hasId done)) todo with
      | some (p, r) => sched pu B n (done ++ [p]) r
      | none => done
def rcsOf (pu : FuncId → Bool) (B : List (List Nat)) : List (Nat × CRow) → List (Nat × CRow) → List (Nat × List Nat)
  | _, [] => []
  | done, p :: l => match (done.filter fun q => (kd pu q.2 == .L) && !(B.getD p.1 []).contains q.1).map (·.1) with
    | [] => rcsOf pu B (done ++ [p]) l
    | ks => bif kd pu p.2 == .S then (p.1, ks) :: rcsOf pu B (done ++ [p]) l else rcsOf pu B (done ++ [p]) l
def rcGet : List (Nat × List Nat) → Nat → List Nat
  | [], _ => []
  | p :: l, k => bif Nat.beq p.1 k then p.2 else rcGet l k
def compD (P : Program) (G nt : Nat) (pu : FuncId → Bool) (ops : Array Oper) : Option (List (Nat × CRow) × List (Nat × List Nat)) :=
  match stepsOf P nt G ops (cloGo ops.toList []) (List.range ops.size) with
  | none => none
  | some ts => match stepsOf P nt G ops (cloGo ops.toList []) ((sched pu (cloGo ops.toList []) ops.size [] ts).map (·.1)) with
    | none => none
    | some st => bif chkRegion ops (cloGo ops.toList []) [] && (chkOrd pu (cloGo ops.toList []) (rcGet (rcsOf pu (cloGo ops.toList []) [] st)) [] st && ((List.range ops.size).all (hasId st) && Nat.ble ops.size 1000000)) then some (st, rcsOf pu (cloGo ops.toList []) [] st) else none
def compC (P : Program) (G nt : Nat) (pu : FuncId → Bool) : Code → Option ACode
  | .skip => some .skip
  | .ret => some .ret
  | .exit id => some (.exit id)
  | .seq a b => match compC P G nt pu a with
    | none => none
    | some a' => match compC P G nt pu b with
      | none => none
      | some b' => some (.seq a' b')
  | .cond c a b => match compC P G nt pu a with
    | none => none
    | some a' => match compC P G nt pu b with
      | none => none
      | some b' => some (.cond (rfS G c) a' b')
  | .block id c => match compC P G nt pu c with
    | none => none
    | some c' => some (.block id c')
  | .loop c => match compC P G nt pu c with
    | none => none
    | some c' => some (.loop c')
  | .region _ ops false => match rowsOf P nt (rfS G) ops ops.toList with
    | none => none
    | some rows => some (.reg rows)
  | .region _ ops true => match compD P G nt pu ops with
    | none => some .bad
    | some st => some (.regd st.1 st.2 (ops.toList.map (·.dst)))
  | .rangeFunc f ps a b => match compC P G nt pu a with
    | none => none
    | some a' => match compC P G nt pu b with
      | none => none
      | some b' => some (.rfun (rfS G f) ps.toList a' b')
  | _ => some .bad
def evDr (A : Ar) (Γ : Gam) (steps : List (Nat × CRow)) (rcs : List (Nat × List Nat)) (dsts : List (Option Nat)) (env : T AV) (σ : AH) : Bool × T AV × AH := match evD A Γ env steps (rcGet rcs) steps .leaf σ with
  | (ok, vals, σ') => (ok, putAll vals dsts 0 env, σ')
def Wk (G nt N : Nat) (env : T AV) (σ : AH) (env' : T AV) (σ' : AH) : Prop := ∀ ρ W, HR ρ σ W → ∃ ρ', HR ρ' σ' W ∧ (∀ a, ER G nt ρ env a → ER G nt ρ' env' a) ∧ (∀ b, b < N → ρ' b = ρ b) ∧
  (∀ b c d, ρ' b = some (c, d) → ∃ b0 d0, ρ b0 = some (c, d0)) ∧ N ≤ σ'.next ∧ ∀ b, b < N → σ'.get b = σ.get b
def AK := Exit → T AV → AH → Prop
def AK.seq (k : T AV → AH → Prop) (K : AK) : AK
  | .normal, env, σ => k env σ
  | e, env, σ => K e env σ
def AK.block (id : Nat) (K : AK) : AK
  | .exit i, env, σ => if i = id then K .normal env σ else K (.exit i) env σ
  | e, env, σ => K e env σ
def avc (A : Ar) (Γ : Gam) (G nt N : Nat) : ACode → AK → T AV → AH → Prop
  | .skip, K, env, σ => K .normal env σ
  | .ret, K, env, σ => K .ret env σ
  | .exit id, K, env, σ => K (.exit id) env σ
  | .seq a b, K, env, σ => avc A Γ G nt N a (AK.seq (avc A Γ G nt N b K) K) env σ
  | .cond c a b, K, env, σ => match evS env c with
    | .bool t => (t = true → avc A Γ G nt N a K env σ) ∧ (t = false → avc A Γ G nt N b K env σ)
    | _ => False
  | .block id c, K, env, σ => avc A Γ G nt N c (AK.block id K) env σ
  | .loop c, K, env, σ => ∃ (I : T AV → AH → Prop) (μ : T AV → AH → Nat), (∃ env1 σ1, Wk G nt N env σ env1 σ1 ∧ I env1 σ1) ∧
      ∀ env σ, I env σ → avc A Γ G nt N c (AK.seq (fun env' σ' => ∃ env2 σ2, Wk G nt N env' σ' env2 σ2 ∧ I env2 σ2 ∧ μ env2 σ2 < μ env σ) K) env σ
  | .reg rows, K, env, σ => (evP A Γ rows env σ).1 = true ∧ K .normal (evP A Γ rows env σ).2.1 (evP A Γ rows env σ).2.2
  | .regd st rcs ds, K, env, σ => (evDr A Γ st rcs ds env σ).1 = true ∧ K .normal (evDr A Γ st rcs ds env σ).2.1 (evDr A Γ st rcs ds env σ).2.2
  | .bad, _, _, _ => False
  | .rfun _ _ _ _, _, _, _ => False
section
variable {P : Program} {Γ : Gam} {pu : FuncId → Bool} {G nt N : Nat} {ρ0 : Ren} {σ0 : AH} {W0 : World}
def AQ (G nt N : Nat) (ρ0 : Ren) (σ0 : AH) (W0 : World) (K : AK) (e : Exit) (a : Act) (W : World) : Prop :=
  ∃ ρ env σ, K e env σ ∧ HR ρ σ W ∧ ER G nt ρ env a ∧ Stp N ρ0 σ0 W0 ρ σ W ∧ a.defers = []
theorem Stp.weak {ρ ρ' : Ren} {σ σ' : AH} {W : World} (h : Stp N ρ0 σ0 W0 ρ σ W) (h1 : ∀ b, b < N → ρ' b = ρ b) (h2 : ∀ b c d, ρ' b = some (c, d) → ∃ b0 d0, ρ b0 = some (c, d0)) (h3 : N ≤ σ'.next) (h4 : ∀ b, b < N → σ'.get b = σ.get b) :
    Stp N ρ0 σ0 W0 ρ' σ' W :=
  ⟨fun b hb => (h1 b hb).trans (h.ext b hb), fun b c d hb => by obtain ⟨b0, d0, h0⟩ := h2 b c d hb; exact h.img b0 c d0 h0, h3, fun b ob hb hn ho ht => (h4 b hb).trans (h.keep b ob hb hn ho ht), h.frame, h.tape, h.os, h.output, h.size, fun b c d ob hb hρ hc ho hr => let ⟨e1, e2⟩ := h.ro b c d ob hb hρ hc ho hr; ⟨(h4 b hb).trans e1, e2⟩⟩
theorem wp_loop_n {c : Code} {Q : Exit → Act → World → Prop} (J : Nat → Act → World → Prop)
    (round : ∀ n a w, J n a w → c.wp P (Exit.then (fun a' w' => ∃ m, m < n ∧ J m a' w') Q) a w) {n : Nat} {a : Act} {w : World} (h₀ : J n a w) : (Code.loop c).wp P Q a w := by
  intro b k cs
  have key : ∀ n a w, J n a w →
      ∃ e a' w', Q e a' w' ∧ Arrives P (lone (b.at a (.code c :: .inLoop c :: k)) cs w) b k cs e a' w' := by
    intro n
    induction n using Nat.strongRecOn with
    | _ n ih =>
      intro a w hI
      obtain ⟨e, a₁, w₁, hq, harr⟩ := round n a w hI b (.inLoop c :: k) cs
      cases e with
      | normal =>
        obtain ⟨m, hlt, hI₁⟩ := hq
        obtain ⟨e₂, a₂, w₂, hq₂, harr₂⟩ := ih m hlt a₁ w₁ hI₁
        exact ⟨e₂, a₂, w₂, hq₂, .of_steps (Steps.trans harr (.one step_inLoop)) harr₂⟩
      | exit id => exact ⟨_, a₁, w₁, hq, .pass (x := .inLoop c) rfl (fun _ _ => .inl (by simp)) harr⟩
      | goto l => exact ⟨_, a₁, w₁, hq, .pass (x := .inLoop c) rfl (fun _ _ => .inl (by simp)) harr⟩
      | ret => exact ⟨_, a₁, w₁, hq, .pass (x := .inLoop c) rfl (fun _ _ => .inl (by simp)) harr⟩
      | panic ch => exact ⟨_, a₁, w₁, hq, .pass (x := .inLoop c) rfl (fun _ _ => .inl (by simp)) harr⟩
      | outgrown => exact ⟨_, a₁, w₁, hq, .pass (x := .inLoop c) rfl (fun _ _ => .inl (by simp)) harr⟩
  obtain ⟨e, a', w', hq, harr⟩ := key _ a w h₀
  exact ⟨e, a', w', hq, .of_steps (.one step_loop) harr⟩
theorem avc_sound (hm : P.follows .mixedOrders = true) (hΓ : GamOk P G Γ) (hpu : PuOk Γ pu) : ∀ (c : Code) (c' : ACode), compC P G nt pu c = some c' → ∀ (K : AK) (env : T AV) (σ : AH) (ρ : Ren) (W : World) (a : Act),
    avc std Γ G nt N c' K env σ → HR ρ σ W → ER G nt ρ env a → Stp N ρ0 σ0 W0 ρ σ W → a.defers = [] → c.wp P (AQ G nt N ρ0 σ0 W0 K) a W := by
  intro c
  induction c with
  | skip => intro c' hc K env σ ρ W a h hr he hs hd; cases hc; exact wp_skip ⟨ρ, env, σ, h, hr, he, hs, hd⟩
  | ret => intro c' hc K env σ ρ W a h hr he hs hd; cases hc; exact wp_ret ⟨ρ, env, σ, h, hr, he, hs, hd⟩
  | exit id => intro c' hc K env σ ρ W a h hr he hs hd; cases hc; exact wp_exit ⟨ρ, env, σ, h, hr, he, hs, hd⟩
  | seq x y ihx ihy =>
    intro c' hc K env σ ρ W a h hr he hs hd
    unfold compC at hc
    split at hc
    · cases hc
    · rename_i x' hx
      split at hc
      · cases hc
      · rename_i y' hy
        cases hc
        refine wp_seq (wp_mono (ihx x' hx _ env σ ρ W a h hr he hs hd) fun e a' W' ⟨ρ', env', σ', h1, h2, h3, h4, h5⟩ => ?_)
        cases e
        case normal => exact ihy y' hy K env' σ' ρ' W' a' h1 h2 h3 h4 h5
        all_goals exact ⟨ρ', env', σ', h1, h2, h3, h4, h5⟩
  | cond t x y ihx ihy =>
    intro c' hc K env σ ρ W a h hr he hs hd
    unfold compC at hc
    split at hc
    · cases hc
    · rename_i x' hx
      split at hc
      · cases hc
      · rename_i y' hy
        cases hc
        unfold avc at h
        have hv := he.ev t
        cases hcv : evS env (rfS G t) <;> rw [hcv] at h hv <;> try exact h.elim
        rename_i b
        unfold VR at hv
        cases b
        · exact wp_cond_false hv (ihy y' hy K env σ ρ W a (h.2 rfl) hr he hs hd)
        · exact wp_cond_true hv (ihx x' hx K env σ ρ W a (h.1 rfl) hr he hs hd)
  | block id x ih =>
    intro c' hc K env σ ρ W a h hr he hs hd
    unfold compC at hc
    split at hc
    · cases hc
    · rename_i x' hx
      cases hc
      refine wp_block (wp_mono (ih x' hx _ env σ ρ W a h hr he hs hd) fun e a' W' ⟨ρ', env', σ', h1, h2, h3, h4, h5⟩ => ?_)
      cases e
      case exit i =>
        simp only [AK.block] at h1
        simp only [Exit.inBlock]
        split
        · rename_i hi; rw [if_pos hi] at h1; exact ⟨ρ', env', σ', h1, h2, h3, h4, h5⟩
        · rename_i hi; rw [if_neg hi] at h1; exact ⟨ρ', env', σ', h1, h2, h3, h4, h5⟩
      all_goals exact ⟨ρ', env', σ', h1, h2, h3, h4, h5⟩
  | loop x ih =>
    intro c' hc K env σ ρ W a h hr he hs hd
    unfold compC at hc
    split at hc
    · cases hc
    · rename_i x' hx
      cases hc
      unfold avc at h
      obtain ⟨I, μ, ⟨env1, σ1, hw, h0⟩, hround⟩ := h
      let J : Nat → Act → World → Prop := fun n a W => ∃ ρ env σ, I env σ ∧ μ env σ = n ∧ HR ρ σ W ∧ ER G nt ρ env a ∧ Stp N ρ0 σ0 W0 ρ σ W ∧ a.defers = []
      have hloop : ∀ n, ∀ a W, J n a W → (Code.loop x).wp P (AQ G nt N ρ0 σ0 W0 K) a W := by
        intro n a W hJ
        refine wp_loop_n J (fun n a W hI => ?_) hJ
        obtain ⟨ρ, env, σ, i1, i2, i3, i4, i5, i6⟩ := hI
        refine wp_mono (ih x' hx _ env σ ρ W a (hround env σ i1) i3 i4 i5 i6) fun e a' W' ⟨ρ', env', σ', h1, h2, h3, h4, h5⟩ => ?_
        cases e
        case normal =>
          obtain ⟨env2, σ2, w1, w2, w3⟩ := h1
          obtain ⟨ρ'', k1, k2, k3, k4, k5, k6⟩ := w1 ρ' W' h2
          exact ⟨μ env2 σ2, by rw [← i2]; exact w3, ρ'', env2, σ2, w2, rfl, k1, k2 a' h3, h4.weak k3 k4 k5 k6, h5⟩
        all_goals exact ⟨ρ', env', σ', h1, h2, h3, h4, h5⟩
      obtain ⟨ρ1, k1, k2, k3, k4, k5, k6⟩ := hw ρ W hr
      exact hloop _ a W ⟨ρ1, env1, σ1, h0, rfl, k1, k2 a he, hs.weak k3 k4 k5 k6, hd⟩
  | region id ops draw =>
    intro c' hc K env σ ρ W a h hr he hs hd
    cases draw with
    | false =>
      unfold compC at hc
      split at hc
      · cases hc
      · rename_i rows hrows
        cases hc
        unfold avc at h
        refine wp_region ?_
        have hl : ops.size = ops.toList.length := by simp
        rw [List.range_eq_range', hl]
        exact plain_sound hΓ ops.toList rows 0 hrows (fun j => by simp) hr he h.1 fun ρ' a' W' h1 h2 h3 h4 => ⟨ρ', _, _, h.2, h1, h2, hs.trans h3 hs.next, by rw [h4]; exact hd⟩
    | true =>
      unfold compC at hc
      split at hc
      · cases hc; exact h.elim
      · rename_i st hst
        cases hc
        unfold compD at hst
        split at hst
        · cases hst
        · split at hst
          · cases hst
          · rename_i st' hst'
            generalize hB : cloGo ops.toList [] = B at hst hst'
            cases hck : (chkRegion ops B [] && (chkOrd pu B (rcGet (rcsOf pu B [] st')) [] st' && ((List.range ops.size).all (hasId st') && Nat.ble ops.size 1000000))) <;> rw [hck] at hst
            · cases hst
            · cases hst
              simp only [Bool.and_eq_true, Nat.ble_eq] at hck
              unfold avc at h
              unfold evDr at h
              generalize hrc : rcsOf pu B [] st' = rcs at h hck
              generalize hev : evD std Γ env st' (rcGet rcs) st' .leaf σ = ev at h
              obtain ⟨ok, vals, σ'⟩ := ev
              simp only at h
              refine wp_region_any hm (drawn_any (W0 := { W with drawn := W.drawn + 1 }) hΓ hpu hst' hck.2.1 hck.2.2.1 hck.2.2.2 hck.1 (hr.drew _) he (by rw [hev]; exact h.1) fun ρ' a' W' h1 h2 h3 h4 => ?_)
              rw [hev] at h1 h2 h3
              exact ⟨ρ', _, _, h.2, h1, h2, hs.trans h3.drew hs.next, by rw [h4]; exact hd⟩
  | rangeFunc f ps x y ihx ihy =>
    intro c' hc
    unfold compC at hc
    split at hc
    · cases hc
    · split at hc
      · cases hc
      · cases hc; intro K env σ ρ W a h; exact h.elim
  | _ => intro c' hc; cases hc; intro K env σ ρ W a h; exact h.elim
end
end
end Go.Proofs.YtjkicmlelilcaaaDoor.V2
namespace Go.Proofs.YtjkicmlelilcaaaDoor.V2
open Go
noncomputable section
inductive ARes where
  | tmp (t : Nat)
  | cell1 (a : Nat)
  | cellN (a n : Nat)
def compR1 (P : Program) : ResultVar → Option ARes
  | .tmp t => some (.tmp t)
  | .cell a t => match P.underlying t with
    | some d => match isAggD d with
      | true => match P.info? t with
        | some i => some (.cellN a i.size)
        | none => none
      | false => some (.cell1 a)
    | none => none
def compR (P : Program) : List ResultVar → Option (List ARes)
  | [] => some []
  | r :: l => match compR1 P r with
    | none => none
    | some x => match compR P l with
      | none => none
      | some xs => some (x :: xs)
def resV (A : Ar) (env : T AV) (σ : AH) : ARes → Bool × AV
  | .tmp t => (true, evS env (.slot t))
  | .cell1 a => match oLoad1 A (evS env (.slot a)) σ with
    | (ok, v, _) => (ok, v)
  | .cellN a n => match oLoadN A n (evS env (.slot a)) σ with
    | (ok, v, _) => (ok, v)
def resL (A : Ar) (env : T AV) (σ : AH) : List ARes → Bool × List AV
  | [] => (true, [])
  | r :: l => match resV A env σ r with
    | (ok, v) => match resL A env σ l with
      | (ok', vs) => (ok && ok', v :: vs)
def retV : List AV → AV
  | [x] => x
  | l => .tup l
def envOf : List AV → Nat → T AV → T AV
  | [], _, t => t
  | a :: l, i, t => envOf l (i + 1) (t.put i a)
def resF (tmps : Array Value) (r : ResultVar) : Sem Value := match r with
  | .tmp t => pure (tmps.getD t undef)
  | .cell a t => do loadVar t (← asAddr (tmps.getD a undef))
theorem results_eq (fn : Func) (tmps : Array Value) : results fn tmps = (do let vs ← fn.results.mapM (resF tmps); pure (if h : vs.size = 1 then vs[0] else .tuple vs)) := rfl
section
variable {P : Program} {W : World} {ρ : Ren} {σ : AH} {G nt : Nat}
theorem resV_run (hr : HR ρ σ W) {env : T AV} {a : Act} (he : ER G nt ρ env a) {r : ResultVar} {x : ARes} (hc : compR1 P r = some x) (hok : (resV std env σ x).1 = true) :
    ∃ v, (resF a.tmps r).run P W = .ok v W ∧ VR ρ (resV std env σ x).2 v := by
  cases r with
  | tmp t =>
    cases hc
    exact ⟨_, rfl, he.ev (.tmp t)⟩
  | cell b t =>
    have hv := he.ev (.tmp b)
    simp only [rfS, Act.eval] at hv
    simp only [compR1] at hc
    split at hc
    · rename_i d hu
      split at hc
      · rename_i hd
        split at hc
        · rename_i i hi
          cases hc
          simp only [resV] at hok ⊢
          have h := loadN_run (P := P) (W := W) (ax := evS env (.slot b)) hr hu hd hi hv
          generalize oLoadN std i.size (evS env (.slot b)) σ = out at h hok ⊢
          obtain ⟨ok, v, σ'⟩ := out
          obtain ⟨_, c, o, u, e1, e2, e3⟩ := h hok
          refine ⟨u, ?_, e3⟩
          simp only [resF, e1, asAddr, Sem.run_bind, Sem.run_pure, Result.andThen_ok, e2]
        · cases hc
      · rename_i hd
        cases hc
        simp only [resV] at hok ⊢
        have h := load1_run (P := P) (W := W) (ax := evS env (.slot b)) hr hu hd hv
        generalize oLoad1 std (evS env (.slot b)) σ = out at h hok ⊢
        obtain ⟨ok, v, σ'⟩ := out
        obtain ⟨_, c, o, u, e1, e2, e3⟩ := h hok
        refine ⟨u, ?_, e3⟩
        simp only [resF, e1, asAddr, Sem.run_bind, Sem.run_pure, Result.andThen_ok, e2]
    · cases hc
theorem resL_run (hr : HR ρ σ W) {env : T AV} {a : Act} (he : ER G nt ρ env a) : ∀ (rs : List ResultVar) (xs : List ARes), compR P rs = some xs → (resL std env σ xs).1 = true →
    ∃ vs, (rs.mapM (resF a.tmps)).run P W = .ok vs W ∧ VRs ρ (resL std env σ xs).2 vs
  | [], xs, hc, _ => by cases hc; exact ⟨[], rfl, rfl⟩
  | r :: rs, xs, hc, hok => by
    unfold compR at hc
    split at hc
    · cases hc
    · rename_i x hx
      split at hc
      · cases hc
      · rename_i xs' hxs
        cases hc
        unfold resL at hok ⊢
        have h1 := resV_run (P := P) hr he hx
        have h2 := resL_run hr he rs xs' hxs
        generalize resV std env σ x = o1 at hok h1 ⊢
        obtain ⟨k1, v1⟩ := o1
        generalize resL std env σ xs' = o2 at hok h2 ⊢
        obtain ⟨k2, v2⟩ := o2
        simp only [Bool.and_eq_true] at hok
        obtain ⟨v, e1, e2⟩ := h1 hok.1
        obtain ⟨vs, e3, e4⟩ := h2 hok.2
        refine ⟨v :: vs, ?_, v, vs, rfl, e2, e4⟩
        rw [List.mapM_cons, Sem.run_bind, e1, Result.andThen_ok, Sem.run_bind, e3]; rfl
theorem results_run (hr : HR ρ σ W) {env : T AV} {a : Act} (he : ER G nt ρ env a) {fn : Func} {xs : List ARes} (hc : compR P fn.results.toList = some xs) (hok : (resL std env σ xs).1 = true) :
    ∃ v, (results fn a.tmps).run P W = .ok v W ∧ VR ρ (retV (resL std env σ xs).2) v := by
  obtain ⟨vs, h1, h2⟩ := resL_run (P := P) hr he _ _ hc hok
  rw [results_eq, Array.mapM_eq_mapM_toList, Sem.run_bind, Sem.run_map, h1]
  simp only [Result.andThen_ok]
  generalize (resL std env σ xs).2 = l at h2
  match l, vs, h2 with
  | [], _, e => cases e; exact ⟨_, rfl, by show VR ρ (.tup []) _; unfold VR; exact ⟨[], rfl, rfl⟩⟩
  | [x], _, ⟨v, m, e1, e2, e3⟩ =>
    cases e3; cases e1
    exact ⟨v, rfl, e2⟩
  | x :: y :: l, vs, h2 =>
    have hl := h2.length
    refine ⟨.tuple vs.toArray, ?_, ?_⟩
    · rw [dif_neg (by simp at hl ⊢; omega)]; rfl
    · show VR ρ (.tup (x :: y :: l)) _
      unfold VR; exact ⟨vs, rfl, h2⟩
theorem envOf_get : ∀ (l : List AV) (i : Nat) (t : T AV) (m : Nat), i + l.length ≤ 1048576 → (envOf l i t).get m = if i ≤ m ∧ m < i + l.length then l[m - i]? else t.get m
  | [], i, t, m, _ => by rw [if_neg (by intro h; simp at h; omega)]; rfl
  | a :: l, i, t, m, h => by
    simp only [List.length_cons] at h
    show (envOf l (i + 1) (t.put i a)).get m = _
    rw [envOf_get l (i + 1) _ m (by omega), T.get_put _ _ _ _ (by omega)]
    by_cases h1 : i + 1 ≤ m ∧ m < i + 1 + l.length
    · rw [if_pos h1, if_pos (by simp; omega), show m - i = (m - (i + 1)) + 1 by omega, List.getElem?_cons_succ]
    · rw [if_neg h1]
      by_cases hm : m = i
      · subst hm; rw [if_pos rfl, if_pos (by simp)]; simp
      · rw [if_neg hm, if_neg (by simp; omega)]
theorem call_sound {Γ : Gam} {pu : FuncId → Bool} (hm : P.follows .mixedOrders = true) (hΓ : GamOk P G Γ) (hpu : PuOk Γ pu) {f : FuncId} {fn : Func} {c : Code} {c' : ACode} {xs : List ARes} (hf : P.funcs[f]? = some fn) (hb : fn.body = some c)
    (hc : compC P G fn.ntmps pu c = some c') (hres : compR P fn.results.toList = some xs) (hnt : Nat.ble fn.ntmps 1048576 = true) {args : List AV} (hargs : Nat.ble args.length fn.ntmps = true) {K : AV → AH → Prop}
    (h : avc std Γ G fn.ntmps σ.next c' (fun e env σ' => (match e with | .normal => True | .ret => True | _ => False) ∧ (resL std env σ' xs).1 = true ∧ K (retV (resL std env σ' xs).2) σ') (envOf args 0 .leaf) σ)
    {vs : List Value} (hG : ∀ g, g < G → ∃ s, ρ g = some (g, (0, s))) (hr : HR ρ σ W) (hvs : VRs ρ args vs) :
    Calls P f vs.toArray W fun e W' => ∃ v av σ' ρ', e = .returned v ∧ K av σ' ∧ HR ρ' σ' W' ∧ Stp σ.next ρ σ W ρ' σ' W' ∧ VR ρ' av v := by
  rw [Nat.ble_eq] at hnt hargs
  have hl := hvs.length
  refine calls_of_wp hf hb (wp_mono (avc_sound hm hΓ hpu c c' hc _ _ _ ρ W _ h hr ⟨hnt, ?_, hG, fun t v ht => ?_⟩ (Stp.refl (Nat.le_refl _)) rfl) fun e a W' ⟨ρ', env', σ', ⟨h1, h2, h3⟩, h4, h5, h6, h7⟩ => ?_)
  · simp; omega
  · rw [envOf_get _ _ _ _ (by omega)] at ht
    simp only [Nat.zero_le, true_and, Nat.zero_add, Nat.sub_zero, T.get_leaf] at ht
    split at ht
    · rename_i hlt
      obtain ⟨u, hu, hr'⟩ := hvs.at t v ht
      have : (vs.toArray ++ Array.replicate (fn.ntmps - vs.toArray.size) undef).getD t undef = u := by
        rw [Array.getD_eq_getD_getElem?, Array.getElem?_append_left (by simp; omega)]
        simp [hu]
      rw [this]; exact hr'
    · cases ht
  · obtain ⟨v, e1, e2⟩ := results_run (P := P) h4 h5 hres h2
    cases e
    case normal => exact ⟨h7, v, e1, v, _, σ', ρ', rfl, h3, h4, h6, e2⟩
    case ret => exact ⟨h7, v, e1, v, _, σ', ρ', rfl, h3, h4, h6, e2⟩
    all_goals exact h1.elim
end
end
end Go.Proofs.YtjkicmlelilcaaaDoor.V2
namespace Go.Proofs.YtjkicmlelilcaaaDoor.V2
open Go
noncomputable section
def ofL : List (Nat × AV) → T AV
  | [] => .leaf
  | p :: l => (ofL l).put p.1 p.2
theorem ofL_get : ∀ (l : List (Nat × AV)) (t : Nat) (v : AV), (∀ p ∈ l, Nat.blt p.1 1048576 = true) → (ofL l).get t = some v → (t, v) ∈ l
  | [], t, v, _, h => by cases h
  | p :: l, t, v, hs, h => by
    have hp := hs p List.mem_cons_self
    rw [Nat.blt_eq] at hp
    simp only [ofL, T.get_put _ _ _ _ hp] at h
    by_cases ht : t = p.1
    · rw [if_pos ht] at h; cases h; rw [ht]; exact List.mem_cons_self
    · rw [if_neg ht] at h; exact List.mem_cons_of_mem _ (ofL_get l t v (fun q hq => hs q (List.mem_cons_of_mem _ hq)) h)
def Has (env : T AV) : List (Nat × AV) → Prop
  | [] => True
  | p :: l => (env.get p.1 = some p.2 ∧ Nat.blt p.1 1048576 = true) ∧ Has env l
theorem Has.mem {env : T AV} : ∀ {l : List (Nat × AV)}, Has env l → ∀ p ∈ l, env.get p.1 = some p.2 ∧ Nat.blt p.1 1048576 = true
  | [], _, p, hp => by cases hp
  | q :: l, h, p, hp => by
    rcases List.mem_cons.1 hp with rfl | hp
    · exact h.1
    · exact Has.mem h.2 p hp
theorem Wk.env {G nt N : Nat} {env : T AV} {σ : AH} {l : List (Nat × AV)} (h : Has env l) (hN : N ≤ σ.next) : Wk G nt N env σ (ofL l) σ := fun ρ W hr =>
  ⟨ρ, hr, fun a he => ⟨he.small, he.size, he.glob, fun t v ht => he.at_ t v (by
      have hm := ofL_get l t v (fun p hp => (h.mem p hp).2) ht
      exact (h.mem _ hm).1)⟩, fun _ _ => rfl, fun b c d hb => ⟨b, d, hb⟩, hN, fun _ _ => rfl⟩
section
variable {A : Ar} {Γ : Gam} {G nt N : Nat} {K : AK} {env : T AV} {σ : AH}
theorem avc_regd {st : List (Nat × CRow)} {rcs : List (Nat × List Nat)} {ds : List (Option Nat)} {r : Bool × T AV × AH} (h : evDr A Γ st rcs ds env σ = r) (h1 : r.1 = true) (h2 : K .normal r.2.1 r.2.2) : avc A Γ G nt N (.regd st rcs ds) K env σ := by
  show (evDr A Γ st rcs ds env σ).1 = true ∧ K .normal (evDr A Γ st rcs ds env σ).2.1 (evDr A Γ st rcs ds env σ).2.2
  rw [h]; exact ⟨h1, h2⟩
theorem avc_seq_regd {st : List (Nat × CRow)} {rcs : List (Nat × List Nat)} {ds : List (Option Nat)} {b : ACode} {r : Bool × T AV × AH} (h : evDr A Γ st rcs ds env σ = r) (h1 : r.1 = true) (h2 : avc A Γ G nt N b K r.2.1 r.2.2) : avc A Γ G nt N (.seq (.regd st rcs ds) b) K env σ := avc_regd (G := G) (nt := nt) (N := N) (K := AK.seq (avc A Γ G nt N b K) K) h h1 h2
theorem avc_seq {a b : ACode} (h : avc A Γ G nt N a (AK.seq (avc A Γ G nt N b K) K) env σ) : avc A Γ G nt N (.seq a b) K env σ := h
theorem avc_block {id : Nat} {c : ACode} (h : avc A Γ G nt N c (AK.block id K) env σ) : avc A Γ G nt N (.block id c) K env σ := h
theorem avc_cond {c : Ref} {a b : ACode} {t : Bool} (hc : evS env c = .bool t) (h1 : t = true → avc A Γ G nt N a K env σ) (h2 : t = false → avc A Γ G nt N b K env σ) : avc A Γ G nt N (.cond c a b) K env σ := by
  show (match evS env c with | .bool t => (t = true → avc A Γ G nt N a K env σ) ∧ (t = false → avc A Γ G nt N b K env σ) | _ => False)
  rw [hc]; exact ⟨h1, h2⟩
theorem avc_loop {c : ACode} (I : T AV → AH → Prop) (μ : T AV → AH → Nat) {env1 : T AV} {σ1 : AH} (hw : Wk G nt N env σ env1 σ1) (h0 : I env1 σ1)
    (hr : ∀ env σ, I env σ → avc A Γ G nt N c (AK.seq (fun env' σ' => ∃ env2 σ2, Wk G nt N env' σ' env2 σ2 ∧ I env2 σ2 ∧ μ env2 σ2 < μ env σ) K) env σ) : avc A Γ G nt N (.loop c) K env σ :=
  ⟨I, μ, ⟨env1, σ1, hw, h0⟩, hr⟩
theorem avc_seq_seq {a b c : ACode} (h : avc A Γ G nt N (.seq a (.seq b c)) K env σ) : avc A Γ G nt N (.seq (.seq a b) c) K env σ := by
  have e : ∀ e env σ, AK.seq (avc A Γ G nt N (.seq b c) K) K e env σ → AK.seq (avc A Γ G nt N b (AK.seq (avc A Γ G nt N c K) K)) (AK.seq (avc A Γ G nt N c K) K) e env σ := fun e env σ h => by cases e <;> exact h
  have mono : ∀ (a : ACode) (K K' : AK), (∀ e env σ, K e env σ → K' e env σ) → ∀ env σ, avc A Γ G nt N a K env σ → avc A Γ G nt N a K' env σ := by
    intro a
    induction a with
    | skip => intro K K' hk env σ h; exact hk _ _ _ h
    | ret => intro K K' hk env σ h; exact hk _ _ _ h
    | exit id => intro K K' hk env σ h; exact hk _ _ _ h
    | seq a b iha ihb => intro K K' hk env σ h; exact iha _ _ (fun e env σ h => by cases e <;> first | exact ihb _ _ hk _ _ h | exact hk _ _ _ h) _ _ h
    | cond c a b iha ihb =>
      intro K K' hk env σ h
      unfold avc at h ⊢
      cases hc : evS env c <;> rw [hc] at h <;> try exact h.elim
      exact ⟨fun ht => iha _ _ hk _ _ (h.1 ht), fun ht => ihb _ _ hk _ _ (h.2 ht)⟩
    | block id a ih =>
      intro K K' hk env σ h
      refine ih _ _ (fun e env σ h => ?_) _ _ h
      cases e
      case exit i =>
        simp only [AK.block] at h ⊢
        split at h
        · rename_i hi; rw [if_pos hi]; exact hk _ _ _ h
        · rename_i hi; rw [if_neg hi]; exact hk _ _ _ h
      all_goals exact hk _ _ _ h
    | loop a ih =>
      intro K K' hk env σ h
      obtain ⟨I, μ, h0, hr⟩ := h
      exact ⟨I, μ, h0, fun env σ hI => ih _ _ (fun e env σ h => by cases e <;> first | exact h | exact hk _ _ _ h) _ _ (hr env σ hI)⟩
    | reg rows => intro K K' hk env σ h; exact ⟨h.1, hk _ _ _ h.2⟩
    | regd st rcs ds => intro K K' hk env σ h; exact ⟨h.1, hk _ _ _ h.2⟩
    | bad => intro K K' hk env σ h; exact h
    | rfun f ps a b _ _ => intro K K' hk env σ h; exact h.elim
  exact mono a _ _ e env σ h
theorem avc_seq_block {id : Nat} {a b : ACode} (h : avc A Γ G nt N a (AK.block id (AK.seq (avc A Γ G nt N b K) K)) env σ) : avc A Γ G nt N (.seq (.block id a) b) K env σ := h
theorem avc_seq_cond {c : Ref} {a b d : ACode} {t : Bool} (hc : evS env c = .bool t) (h1 : t = true → avc A Γ G nt N (.seq a d) K env σ) (h2 : t = false → avc A Γ G nt N (.seq b d) K env σ) : avc A Γ G nt N (.seq (.cond c a b) d) K env σ :=
  avc_cond (K := AK.seq (avc A Γ G nt N d K) K) hc h1 h2
theorem avc_seq_skip {b : ACode} (h : avc A Γ G nt N b K env σ) : avc A Γ G nt N (.seq .skip b) K env σ := h
theorem avc_seq_exit {b : ACode} {id : Nat} (h : K (.exit id) env σ) : avc A Γ G nt N (.seq (.exit id) b) K env σ := h
theorem avc_seq_ret {b : ACode} (h : K .ret env σ) : avc A Γ G nt N (.seq .ret b) K env σ := h
end
end
end Go.Proofs.YtjkicmlelilcaaaDoor.V2
namespace Go.Proofs.YtjkicmlelilcaaaDoor.V2
open Go
noncomputable section
theorem least {p : Nat → Prop} (h : ∃ k, p k) : ∃ k, p k ∧ ∀ j, p j → k ≤ j := by
  obtain ⟨k, hk⟩ := h
  induction k using Nat.strongRecOn with
  | _ k ih =>
    by_cases hj : ∃ j, j < k ∧ p j
    · obtain ⟨j, h1, h2⟩ := hj; exact ih j h1 h2
    · exact ⟨k, hk, fun j hp => Nat.le_of_not_lt fun hlt => hj ⟨j, hlt, hp⟩⟩
open Classical in
def leastD (p : Nat → Prop) : Nat := if h : ∃ k, p k then (least h).choose else 0
theorem leastD_le {p : Nat → Prop} {k : Nat} (h : p k) : leastD p ≤ k := by
  unfold leastD
  rw [dif_pos ⟨k, h⟩]
  exact (least ⟨k, h⟩).choose_spec.2 k h
theorem leastD_mem {p : Nat → Prop} {k : Nat} (h : p k) : p (leastD p) := by
  unfold leastD
  rw [dif_pos ⟨k, h⟩]
  exact (least ⟨k, h⟩).choose_spec.1
end
end Go.Proofs.YtjkicmlelilcaaaDoor.V2
namespace Go.Proofs.YtjkicmlelilcaaaDoor.V2
open Go
open Go.RowKit
theorem HR.below {ρ : Ren} {σ : AH} {W W' : World} (h : HR ρ σ W) (hb : Below W.heap.size W W') : HR ρ σ W' :=
  ⟨h.small, h.none_, fun b c d hρ => by
    obtain ⟨h1, h2, o, h3, h4⟩ := h.dom b c d hρ
    refine ⟨h1, Nat.lt_of_lt_of_le h2 hb.size, o, h3, ?_⟩
    rw [hb.block c h2]; exact h4, h.inj⟩
theorem Stp.below {N : Nat} {ρ : Ren} {σ : AH} {W W' : World} (hN : N ≤ σ.next) (hb : Below W.heap.size W W') : Stp N ρ σ W ρ σ W' :=
  ⟨fun _ _ => rfl, fun b _c d h => .inl ⟨b, d, h⟩, hN, fun _ _ _ _ h _ => h, fun c hc _ => hb.block c hc, hb.tape, hb.os, hb.output, hb.size, fun _ c _ _ _ _ hc h _ => ⟨h, hb.block c hc⟩⟩
def rowB : Row → Option (List Int)
  | .ints k l => match k with
    | .u8 => some l
    | _ => none
  | .cells l => match l with
    | [] => some []
    | _ => none
def byI (l : List Int) : Bool := l.all fun n => decide (0 ≤ n) && decide (n ≤ 255)
theorem byI_iff {l : List Int} (h : byI l = true) : ∀ n ∈ l, 0 ≤ n ∧ n ≤ 255 := fun n hn => by
  have := List.all_eq_true.1 h n hn
  simpa using this
noncomputable def bytesA (A : Ar) (By : List Int → Bool) (σ : AH) (v : AV) : Bool × List Int := match rowA A false 1 σ v with
  | (ok, _, r) => match rowB r with
    | some l => (ok && By l, l)
    | none => (false, [])
theorem bytes_of {ρ : Ren} {σ : AH} {W : World} (hr : HR ρ σ W) {s : AV} {v : Value} (hv : VR ρ s v) (hok : (bytesA std byI σ s).1 = true) : BSl W v (toBs (bytesA std byI σ s).2) ∧ bI (toBs (bytesA std byI σ s).2) = (bytesA std byI σ s).2 := by
  unfold bytesA at hok ⊢
  generalize hrow : rowA std false 1 σ s = row at hok ⊢
  obtain ⟨ok, n, r⟩ := row
  simp only at hok ⊢
  cases hB : rowB r with
  | none => rw [hB] at hok; cases hok
  | some l =>
    rw [hB] at hok
    simp only [Bool.and_eq_true] at hok ⊢
    obtain ⟨hok, hby⟩ := hok
    have hby := byI_iff hby
    refine ⟨?_, bI_toBs l hby⟩
    cases s
    case nilsl =>
      simp only [VR] at hv
      simp only [rowA, Prod.mk.injEq] at hrow
      obtain ⟨_, _, rfl⟩ := hrow
      simp only [rowB, Option.some.injEq] at hB
      subst hB; subst hv
      exact .inl ⟨rfl, rfl⟩
    case sl b o n' k e z =>
      rcases vr_sl hv with ⟨c, d, o', k', hb, rfl, ho, hnk, hk, _, _⟩ | ⟨rfl, rfl, rfl, _, pp, rfl⟩
      rotate_left
      · refine .inr (.inr ⟨pp, rfl, ?_⟩)
        have hl : l = [] := by
          simp only [rowA] at hrow
          cases hob : σ.get b with
          | none => rw [hob] at hrow; cases hrow; cases hok
          | some ob =>
            rw [hob] at hrow
            cases ob with
            | map m => cases hrow; cases hok
            | dead => cases hrow; cases hB; rfl
            | cells m e2 t =>
              simp only [Prod.mk.injEq] at hrow
              obtain ⟨_, _, rfl⟩ := hrow
              rw [Nat.zero_mul, List.take_zero] at hB
              cases hB; rfl
            | ints ik m e2 t =>
              simp only [Prod.mk.injEq] at hrow
              obtain ⟨_, _, rfl⟩ := hrow
              have hik : ik = .u8 := by cases ik <;> first | rfl | (simp [rowB] at hB)
              subst hik
              simp only [std, rowB, Option.some.injEq] at hB
              rw [← hB]; simp
        rw [hl]; rfl
      have hc := (hr.dom _ _ _ hb).2.1
      simp only [rowA] at hrow
      have hempty : n' = 0 → l = [] → BSl W (.slice (some ⟨c, o', none⟩) n' k') (toBs l) := fun h1 h2 => by
        subst h1; subst h2
        exact .inr (.inl ⟨c, o', k', rfl, Nat.zero_le _, hc, fun j hj => by cases hj⟩)
      cases hob : σ.get b with
      | none => rw [hob] at hrow; cases hrow; cases hok
      | some ob =>
        rw [hob] at hrow
        cases ob with
        | map m => cases hrow; cases hok
        | dead =>
          simp only [Prod.mk.injEq] at hrow
          obtain ⟨h1, _, rfl⟩ := hrow
          simp only [rowB, Option.some.injEq] at hB
          rw [← h1, Bool.and_eq_true, Nat.beq_eq] at hok
          exact hempty hok.2 hB.symm
        | cells m e2 t =>
          simp only [Prod.mk.injEq] at hrow
          obtain ⟨h1, _, rfl⟩ := hrow
          rw [← h1] at hok
          simp only [Bool.and_eq_true, Nat.ble_eq] at hok
          cases hm : (m.drop o).take (n' * 1) with
          | nil =>
            have h0 : ((m.drop o).take (n' * 1)).length = 0 := by rw [hm]; rfl
            rw [List.length_take, List.length_drop] at h0
            rw [hm] at hB
            simp only [rowB, Option.some.injEq] at hB
            exact hempty (by omega) hB.symm
          | cons x y => rw [hm] at hB; cases hB
        | ints ik m e2 t =>
          simp only [Prod.mk.injEq] at hrow
          obtain ⟨h1, _, rfl⟩ := hrow
          rw [← h1] at hok
          simp only [std, Bool.and_eq_true, Nat.ble_eq] at hok
          have hik : ik = .u8 := by cases ik <;> first | rfl | (simp [rowB] at hB)
          subst hik
          simp only [std, rowB, Option.some.injEq] at hB
          have hln : l.length = n' := by rw [← hB, List.length_take, List.length_drop]; omega
          by_cases hn : n' = 0
          · exact hempty hn (List.length_eq_zero_iff.1 (by rw [hln, hn]))
          · have ho := ho (by omega)
            subst ho
            refine .inr (.inl ⟨c, o + d.1, k', by rw [toBs_length, hln], by rw [toBs_length, hln]; omega, hc, fun j hj => ?_⟩)
            rw [toBs_length, hln] at hj
            have hjm : o + j < m.length := by omega
            obtain ⟨u, hu, hvr⟩ := hr.load (i := o + j) (a := .int .u8 m[o + j]) hb hob (by simp only [AObj.at]; rw [List.getElem?_eq_getElem hjm]; rfl)
            simp only [VR] at hvr
            subst hvr
            rw [show o + d.1 + j = o + j + d.1 by omega, hu]
            have hlj : l[j]? = some m[o + j] := by rw [← hB, List.getElem?_take, if_pos (by omega), List.getElem?_drop, List.getElem?_eq_getElem hjm]
            have : (bI (toBs l)).getD j 0 = m[o + j] := by rw [bI_toBs l hby, List.getD_eq_getElem?_getD, hlj]; rfl
            rw [bI_getD] at this
            rw [this]
    all_goals (simp only [rowA, Prod.mk.injEq] at hrow; obtain ⟨h1, _⟩ := hrow; rw [← h1] at hok; cases hok)
noncomputable def partsA (A : Ar) (By : List Int → Bool) (σ : AH) : List AV → Bool × List (List Int)
  | [] => (true, [])
  | v :: l => match bytesA A By σ v with
    | (ok, b) => match partsA A By σ l with
      | (ok', m) => (ok && ok', b :: m)
noncomputable def listA (A : Ar) (By : List Int → Bool) (σ : AH) (v : AV) : Bool × List (List Int) := match rowA A false 1 σ v with
  | (ok, _, r) => match r with
    | .cells l => match partsA A By σ l with
      | (ok', m) => (ok && ok' && v.sure, m)
    | _ => (false, [])
end Go.Proofs.YtjkicmlelilcaaaDoor.V2
namespace Go.Proofs.YtjkicmlelilcaaaDoor.V2
open Go
open Go.RowKit
theorem atV_get {vs : List Value} {j : Nat} {v : Value} (h : vs[j]? = some v) : atV vs j = v := by
  unfold atV; rw [List.getD_eq_getElem?_getD, h]; rfl
theorem atP_get {ps : List (List UInt8)} {j : Nat} {p : List UInt8} (h : ps[j]? = some p) : atP ps j = p := by
  unfold atP; rw [List.getD_eq_getElem?_getD, h]; rfl
theorem parts_of {ρ : Ren} {σ : AH} {W : World} (hr : HR ρ σ W) : ∀ {l : List AV} {vs : List Value}, VRs ρ l vs → (partsA std byI σ l).1 = true → vs.length = ((partsA std byI σ l).2.map toBs).length ∧ ∀ j, j < vs.length → BSl W (atV vs j) (atP ((partsA std byI σ l).2.map toBs) j)
  | [], _, h, _ => by rw [show _ = [] from h]; exact ⟨rfl, fun j hj => by simp at hj⟩
  | a :: l, _, ⟨v, m, e, hv, hm⟩, hok => by
    subst e
    unfold partsA at hok ⊢
    have hB := fun h => bytes_of hr hv h
    have hL := fun h => parts_of hr hm h
    generalize bytesA std byI σ a = b at hok hB ⊢
    generalize partsA std byI σ l = q at hok hL ⊢
    obtain ⟨ok, b⟩ := b
    obtain ⟨ok', q⟩ := q
    simp only [Bool.and_eq_true] at hok hB hL ⊢
    obtain ⟨h1, h2⟩ := hL hok.2
    refine ⟨by simp [h1], fun j hj => ?_⟩
    cases j with
    | zero => exact (hB hok.1).1
    | succ j =>
      have := h2 j (by simpa using hj)
      simpa [atV, atP] using this
theorem list_of {ρ : Ren} {σ : AH} {W : World} (hr : HR ρ σ W) {s : AV} {v : Value} (hv : VR ρ s v) (hok : (listA std byI σ s).1 = true) : ∃ vs, PSl W v vs ((listA std byI σ s).2.map toBs) := by
  unfold listA at hok ⊢
  generalize hrow : rowA std false 1 σ s = row at hok ⊢
  obtain ⟨ok, n, r⟩ := row
  simp only at hok ⊢
  cases r with
  | ints k l => cases hok
  | cells l =>
    simp only at hok ⊢
    have hp := fun vs (h : VRs ρ l vs) => parts_of hr h
    generalize hpa : partsA std byI σ l = q at hok hp ⊢
    obtain ⟨ok', m⟩ := q
    simp only [Bool.and_eq_true] at hok hp ⊢
    obtain ⟨⟨hok, hok'⟩, hsu⟩ := hok
    cases s
    case nilsl =>
      simp only [VR] at hv
      simp only [rowA, Prod.mk.injEq, Row.cells.injEq] at hrow
      obtain ⟨_, _, rfl⟩ := hrow
      cases hpa
      subst hv
      exact ⟨[], ⟨rfl, .inl ⟨rfl, rfl⟩, fun j hj => by simp at hj⟩⟩
    case sl b o n' k e z =>
      obtain ⟨c, d, o', k', hb, rfl, ho, hnk, hk, _, _⟩ := (vr_sl hv).resolve_right (fun h => by obtain ⟨_, rfl, rfl, _⟩ := h; cases hsu)
      have hc := (hr.dom _ _ _ hb).2.1
      simp only [rowA] at hrow
      cases hob : σ.get b with
      | none => rw [hob] at hrow; cases hrow; cases hok
      | some ob =>
        rw [hob] at hrow
        cases ob with
        | map m => cases hrow; cases hok
        | ints ik m e2 t => simp at hrow
        | dead =>
          simp only [Prod.mk.injEq, Row.cells.injEq] at hrow
          obtain ⟨h1, _, rfl⟩ := hrow
          cases hpa
          rw [← h1, Bool.and_eq_true, Nat.beq_eq] at hok
          obtain rfl := hok.2
          exact ⟨[], ⟨rfl, .inr ⟨c, o', k', rfl, Nat.zero_le _, hc, fun j hj => by simp at hj⟩, fun j hj => by simp at hj⟩⟩
        | cells q e2 t =>
          simp only [Prod.mk.injEq, Row.cells.injEq] at hrow
          obtain ⟨h1, _, h2⟩ := hrow
          rw [← h1] at hok
          simp only [Bool.and_eq_true, Nat.ble_eq, Nat.mul_one] at hok h2
          by_cases hn : n' = 0
          · subst hn
            rw [List.take_zero] at h2
            subst h2
            cases hpa
            exact ⟨[], ⟨rfl, .inr ⟨c, o', k', rfl, Nat.zero_le _, hc, fun j hj => by simp at hj⟩, fun j hj => by simp at hj⟩⟩
          have ho := ho (by omega)
          subst ho
          have hll : l.length = n' := by rw [← h2, List.length_take, List.length_drop]; omega
          have hex : ∀ j, j < n' → ∃ u, W.cell? ⟨c, o + d.1 + j, none⟩ = some u ∧ ∀ a, l[j]? = some a → VR ρ a u := fun j hj => by
            have hq : o + j < q.length := by omega
            obtain ⟨u, hu, hur⟩ := hr.load (i := o + j) (a := q[o + j]) hb hob (by simp only [AObj.at]; exact List.getElem?_eq_getElem hq)
            refine ⟨u, by rw [show o + d.1 + j = o + j + d.1 by omega]; exact hu, fun a ha => ?_⟩
            rw [← h2, List.getElem?_take, if_pos hj, List.getElem?_drop, List.getElem?_eq_getElem hq] at ha
            cases ha; exact hur
          obtain ⟨vs, hvl, hvs⟩ : ∃ vs : List Value, vs.length = n' ∧ ∀ j, j < n' → W.cell? ⟨c, o + d.1 + j, none⟩ = some (atV vs j) ∧ ∀ a, l[j]? = some a → VR ρ a (atV vs j) := by
            refine ⟨(List.range n').map fun j => (W.cell? ⟨c, o + d.1 + j, none⟩).getD undef, by simp, fun j hj => ?_⟩
            obtain ⟨u, hu, hua⟩ := hex j hj
            have : atV ((List.range n').map fun j => (W.cell? ⟨c, o + d.1 + j, none⟩).getD undef) j = u := atV_get (by simp [hj, hu])
            rw [this]; exact ⟨hu, hua⟩
          have hV : VRs ρ l vs := VRs.of l vs (by rw [hvl, hll]) fun j a ha => by
            have hj : j < n' := by rw [← hll]; exact (List.getElem?_eq_some_iff.1 ha).1
            refine ⟨atV vs j, ?_, (hvs j hj).2 a ha⟩
            unfold atV
            rw [List.getD_eq_getElem?_getD, List.getElem?_eq_getElem (by omega)]; rfl
          obtain ⟨p1, p2⟩ := hp vs hV hok'
          have hpl : (m.map toBs).length = n' := by rw [← p1, hvl]
          exact ⟨vs, ⟨p1, .inr ⟨c, o + d.1, k', by rw [hpl], by rw [hpl]; omega, hc, fun j hj => (hvs j (by rw [hpl] at hj; exact hj)).1⟩, fun j hj => p2 j (by rw [hpl] at hj; rw [hvl]; exact hj)⟩⟩
    all_goals (simp only [rowA, Prod.mk.injEq] at hrow; obtain ⟨h1, _⟩ := hrow; rw [← h1] at hok; cases hok)
end Go.Proofs.YtjkicmlelilcaaaDoor.V2
namespace Go.Proofs.YtjkicmlelilcaaaDoor.V2
open Go
open Go.RowKit
noncomputable def globA (σ : AH) (g : Nat) (t : List Int → Bool) : Bool := match σ.get g with
  | some ob => match ob with
    | .ints k l _ _ => match k with
      | .u32 => t l
      | _ => false
    | _ => false
  | none => false
noncomputable def tabA (σ : AH) (g n : Nat) (t : List Int → Bool) : Bool := match σ.get g with
  | some ob => match ob with
    | .cells l _ _ => match l with
      | [.sl b o m _ _ _] => Nat.beq o 0 && Nat.beq m n && globA σ b t
      | _ => false
    | _ => false
  | none => false
theorem glob_of {ρ : Ren} {σ : AH} {W : World} (hr : HR ρ σ W) {g n : Nat} {T : List UInt32} {t : List Int → Bool} (ht : ∀ l, t l = true → l = wI T) (hn : T.length = n) (hg : ∃ s, ρ g = some (g, (0, s))) (h : globA σ g t = true) : ∀ i, i < n → W.cell? ⟨g, i, none⟩ = some (.int .u32 (N32 (at32 T i))) := by
  unfold globA at h
  split at h
  case h_2 => cases h
  rename_i ob hob
  split at h
  case h_2 => cases h
  rename_i k l e tl
  split at h
  case h_2 => cases h
  have hl := ht _ h
  subst hl
  obtain ⟨s, hs⟩ := hg
  intro i hi
  have hi2 : i < (wI T).length := by rw [wI_length, hn]; exact hi
  obtain ⟨u, hu, hur⟩ := hr.load (i := i) (a := .int .u32 (wI T)[i]) hs hob (by simp only [AObj.at]; rw [List.getElem?_eq_getElem hi2]; rfl)
  simp only [VR] at hur
  subst hur
  have hu : W.cell? ⟨g, i, none⟩ = _ := hu
  rw [hu]
  have := wI_getD T i
  rw [List.getD_eq_getElem?_getD, List.getElem?_eq_getElem hi2] at this
  rw [← this]; rfl
theorem tab_of {ρ : Ren} {σ : AH} {W : World} (hr : HR ρ σ W) {g n : Nat} {T : List UInt32} {t : List Int → Bool} (ht : ∀ l, t l = true → l = wI T) (hn : T.length = n) (hn0 : 0 < n) (hg : ∃ s, ρ g = some (g, (0, s))) (h : tabA σ g n t = true) : TabC W g T := by
  unfold tabA at h
  split at h
  case h_2 => cases h
  rename_i ob hob
  split at h
  case h_2 => cases h
  rename_i l e2 t2
  split at h
  case h_2 => cases h
  rename_i b o m k e z
  rw [Bool.and_eq_true, Bool.and_eq_true, Nat.beq_eq, Nat.beq_eq] at h
  obtain ⟨⟨rfl, rfl⟩, h⟩ := h
  unfold globA at h
  split at h
  case h_2 => cases h
  rename_i ob2 hob2
  split at h
  case h_2 => cases h
  rename_i kk l2 e3 t3
  split at h
  case h_2 => cases h
  have hl := ht _ h
  subst hl
  obtain ⟨s, hs⟩ := hg
  obtain ⟨v, hv, hvr⟩ := hr.load (i := 0) (a := .sl b 0 m k e z) hs hob rfl
  obtain ⟨c, d, o', k', hb, rfl, ho, hnk, hk, _, _⟩ := (vr_sl hvr).resolve_right (fun h => by omega)
  have ho := ho (by omega)
  subst ho
  refine ⟨c, 0 + d.1, k', by rw [hn]; exact hv, by omega, (hr.dom _ _ _ hb).2.1, fun i hi => ?_⟩
  have hi2 : i < (wI T).length := by rw [wI_length]; exact hi
  obtain ⟨u, hu, hur⟩ := hr.load (i := i) (a := .int .u32 (wI T)[i]) hb hob2 (by simp only [AObj.at]; rw [List.getElem?_eq_getElem hi2]; rfl)
  simp only [VR] at hur
  subst hur
  rw [show 0 + d.1 + i = i + d.1 by omega, hu]
  have := wI_getD T i
  rw [List.getD_eq_getElem?_getD, List.getElem?_eq_getElem hi2] at this
  rw [← this]; rfl
def isS (l : List Int) : Bool := decide (l = wI S0)
def isK (l : List Int) : Bool := decide (l = wI KK)
def shaI (l : List Int) : List Int := bI (shaB (toBs l))
def hmI (k l : List Int) : List Int := bI (hmB (toBs k) (toBs l))
def catI (A : Ar) : List (List Int) → List Int
  | [] => []
  | [l] => l
  | l :: m => A.app l (catI A m)
theorem catI_std : ∀ l : List (List Int), catI std l = l.flatten
  | [] => rfl
  | [l] => by simp [catI]
  | l :: m :: r => by rw [catI, catI_std (m :: r)]; rfl; simp
noncomputable def Γ3 (A : Ar) (Sh : List Int → List Int) (Hm : List Int → List Int → List Int) (By tS tK : List Int → Bool) : Gam := fun f args σ =>
  bif Nat.beq f 12 then (match args with
    | [s] => match listA A By σ s with
      | (ok, ps) => (ok && Nat.ble ps.length 1000000 && A.leN (A.len (catI A ps)) 10000000000 && globA σ 0 tS && globA σ 3 tK, .ints .u8 (Sh (catI A ps)), σ)
    | _ => bad σ)
  else bif Nat.beq f 13 then (match args with
    | [s] => match bytesA A By σ s with
      | (ok, l) => (ok && A.leN (A.len l) 10000000000 && tabA σ 1 8 tS && tabA σ 2 64 tK, .ints .u8 (Sh l), σ)
    | _ => bad σ)
  else bif Nat.beq f 14 then (match args with
    | [k, s] => match bytesA A By σ k with
      | (ok1, kl) => match listA A By σ s with
        | (ok, ps) => (ok1 && ok && A.leN (A.len kl) 10000000000 && Nat.ble ps.length 1000000 && A.leN (A.len (catI A ps)) 10000000000 && globA σ 0 tS && globA σ 3 tK, .ints .u8 (Hm kl (catI A ps)), σ)
    | _ => bad σ)
  else bif Nat.beq f 15 then (match args with
    | [k, s] => match bytesA A By σ k with
      | (ok1, kl) => match bytesA A By σ s with
        | (ok, l) => (ok1 && ok && A.leN (A.len kl) 10000000000 && A.leN (A.len l) 10000000000 && tabA σ 1 8 tS && tabA σ 2 64 tK, .ints .u8 (Hm kl l), σ)
    | _ => bad σ)
  else bif Nat.beq f 16 then (match args with
    | [] => (globA σ 0 tS && globA σ 3 tK, .bool true, σ)
    | _ => bad σ)
  else bad σ
theorem flatten_toBs (ps : List (List Int)) : (ps.map toBs).flatten = toBs ps.flatten := by
  unfold toBs
  induction ps with
  | nil => rfl
  | cons p ps ih => rw [List.map_cons, List.flatten_cons, List.flatten_cons, List.map_append, ih]
theorem vr_bytes {ρ : Ren} (l : List UInt8) : VR ρ (.ints .u8 (bI l)) (.agg (c8 l)) := by
  unfold VR bI c8 c8l
  rw [List.map_map]; rfl
theorem vrs_one {ρ : Ren} {a : AV} {vs : List Value} (h : VRs ρ [a] vs) : ∃ v, vs = [v] ∧ VR ρ a v := by
  obtain ⟨v, m, rfl, hv, hm⟩ := h
  have hm : m = [] := hm
  subst hm; exact ⟨v, rfl, hv⟩
theorem vrs_two {ρ : Ren} {a b : AV} {vs : List Value} (h : VRs ρ [a, b] vs) : ∃ v u, vs = [v, u] ∧ VR ρ a v ∧ VR ρ b u := by
  obtain ⟨v, m, rfl, hv, u, m', rfl, hu, hm⟩ := h
  have hm : m' = [] := hm
  subst hm; exact ⟨v, u, rfl, hv, hu⟩
theorem gam3_ok : GamOk Tryd.prog 4 (Γ3 std shaI hmI byI isS isK) := by
  have isS' : ∀ l, isS l = true → l = wI S0 := fun l h => by simpa [isS] using h
  have isK' : ∀ l, isK l = true → l = wI KK := fun l h => by simpa [isK] using h
  intro f args σ h
  unfold Γ3 at h ⊢
  cases h12 : Nat.beq f 12
  case true =>
    rw [h12] at h
    have e := Nat.eq_of_beq_eq_true h12
    subst e
    simp only [cond_true] at h ⊢
    split at h
    case h_2 => cases h
    rename_i s
    refine ⟨⟨_, Tryd.func12, by kernel_rfl, by kernel_rfl⟩, fun ρ W vs hG hr hvs => ?_⟩
    obtain ⟨v, rfl, hv⟩ := vrs_one hvs
    have hL := fun h => list_of hr hv h
    dsimp only at h ⊢
    generalize listA std byI σ s = q at h hL ⊢
    obtain ⟨ok, ps⟩ := q
    simp only [Bool.and_eq_true, Nat.ble_eq] at h hL ⊢
    obtain ⟨⟨⟨⟨h1, h2⟩, h3⟩, h4⟩, h5⟩ := h
    obtain ⟨us, hP⟩ := hL h1
    rw [catI_std] at h3 ⊢
    have h3 : Nat.ble ps.flatten.length 10000000000 = true := h3
    rw [Nat.ble_eq] at h3
    obtain ⟨s3, hs3⟩ := hG 3 (by decide)
    refine (sha_any v us _ W hP (by rw [List.length_map]; omega) (by rw [flatten_toBs, toBs_length]; omega) (glob_of hr isK' rfl (hG 3 (by decide)) h5) (glob_of hr isS' rfl (hG 0 (by decide)) h4) (hr.dom _ _ _ hs3).2.1).mono fun e W' ⟨e1, e2⟩ => ?_
    subst e1
    rw [flatten_toBs]
    exact ⟨_, ρ, rfl, hr.below e2, Stp.below (Nat.le_refl _) e2, vr_bytes _⟩
  rw [h12] at h
  simp only [cond_false] at h ⊢
  cases h13 : Nat.beq f 13
  case true =>
    rw [h13] at h
    have e := Nat.eq_of_beq_eq_true h13
    subst e
    simp only [cond_true] at h ⊢
    split at h
    case h_2 => cases h
    rename_i s
    refine ⟨⟨_, Tryd.func13, by kernel_rfl, by kernel_rfl⟩, fun ρ W vs hG hr hvs => ?_⟩
    obtain ⟨v, rfl, hv⟩ := vrs_one hvs
    have hL := fun h => bytes_of hr hv h
    dsimp only at h ⊢
    generalize bytesA std byI σ s = q at h hL ⊢
    obtain ⟨ok, l⟩ := q
    simp only [Bool.and_eq_true] at h hL ⊢
    obtain ⟨⟨⟨h1, h2⟩, h3⟩, h4⟩ := h
    have h2 : Nat.ble l.length 10000000000 = true := h2
    rw [Nat.ble_eq] at h2
    obtain ⟨s3, hs3⟩ := hG 3 (by decide)
    refine (rsha_any v (toBs l) W (hL h1).1 (by rw [toBs_length]; omega) (tab_of hr isS' rfl (by decide) (hG 1 (by decide)) h3) (tab_of hr isK' rfl (by decide) (hG 2 (by decide)) h4) (hr.dom _ _ _ hs3).2.1).mono fun e W' ⟨e1, e2⟩ => ?_
    subst e1
    exact ⟨_, ρ, rfl, hr.below e2, Stp.below (Nat.le_refl _) e2, vr_bytes _⟩
  rw [h13] at h
  simp only [cond_false] at h ⊢
  cases h14 : Nat.beq f 14
  case true =>
    rw [h14] at h
    have e := Nat.eq_of_beq_eq_true h14
    subst e
    simp only [cond_true] at h ⊢
    split at h
    case h_2 => cases h
    rename_i k s
    refine ⟨⟨_, Tryd.func14, by kernel_rfl, by kernel_rfl⟩, fun ρ W vs hG hr hvs => ?_⟩
    obtain ⟨u, v, rfl, hu, hv⟩ := vrs_two hvs
    have hB := fun h => bytes_of hr hu h
    have hL := fun h => list_of hr hv h
    dsimp only at h ⊢
    generalize bytesA std byI σ k = q1 at h hB ⊢
    generalize listA std byI σ s = q at h hL ⊢
    obtain ⟨ok1, kl⟩ := q1
    obtain ⟨ok, ps⟩ := q
    simp only [Bool.and_eq_true, Nat.ble_eq] at h hB hL ⊢
    obtain ⟨⟨⟨⟨⟨⟨h0, h1⟩, h2⟩, h2'⟩, h3⟩, h4⟩, h5⟩ := h
    obtain ⟨us, hP⟩ := hL h1
    rw [catI_std] at h3 ⊢
    have h3 : Nat.ble ps.flatten.length 10000000000 = true := h3
    have h2 : Nat.ble kl.length 10000000000 = true := h2
    rw [Nat.ble_eq] at h3 h2
    obtain ⟨s3, hs3⟩ := hG 3 (by decide)
    refine (hmac_any u v (toBs kl) us _ W (hB h0).1 (by rw [toBs_length]; exact h2) hP (by rw [List.length_map]; omega) (by rw [flatten_toBs, toBs_length]; omega) (glob_of hr isK' rfl (hG 3 (by decide)) h5) (glob_of hr isS' rfl (hG 0 (by decide)) h4) (hr.dom _ _ _ hs3).2.1).mono fun e W' ⟨e1, e2⟩ => ?_
    subst e1
    rw [flatten_toBs]
    exact ⟨_, ρ, rfl, hr.below e2, Stp.below (Nat.le_refl _) e2, vr_bytes _⟩
  rw [h14] at h
  simp only [cond_false] at h ⊢
  cases h15 : Nat.beq f 15
  case true =>
    rw [h15] at h
    have e := Nat.eq_of_beq_eq_true h15
    subst e
    simp only [cond_true] at h ⊢
    split at h
    case h_2 => cases h
    rename_i k s
    refine ⟨⟨_, Tryd.func15, by kernel_rfl, by kernel_rfl⟩, fun ρ W vs hG hr hvs => ?_⟩
    obtain ⟨u, v, rfl, hu, hv⟩ := vrs_two hvs
    have hB := fun h => bytes_of hr hu h
    have hL := fun h => bytes_of hr hv h
    dsimp only at h ⊢
    generalize bytesA std byI σ k = q1 at h hB ⊢
    generalize bytesA std byI σ s = q at h hL ⊢
    obtain ⟨ok1, kl⟩ := q1
    obtain ⟨ok, l⟩ := q
    simp only [Bool.and_eq_true] at h hB hL ⊢
    obtain ⟨⟨⟨⟨⟨h0, h1⟩, h2⟩, h2'⟩, h3⟩, h4⟩ := h
    have h2' : Nat.ble l.length 10000000000 = true := h2'
    have h2 : Nat.ble kl.length 10000000000 = true := h2
    rw [Nat.ble_eq] at h2' h2
    obtain ⟨s3, hs3⟩ := hG 3 (by decide)
    refine (rhm_any u v (toBs kl) (toBs l) W (hB h0).1 (hL h1).1 (by rw [toBs_length]; exact h2) (by rw [toBs_length]; exact h2') (tab_of hr isS' rfl (by decide) (hG 1 (by decide)) h3) (tab_of hr isK' rfl (by decide) (hG 2 (by decide)) h4) (hr.dom _ _ _ hs3).2.1).mono fun e W' ⟨e1, e2⟩ => ?_
    subst e1
    exact ⟨_, ρ, rfl, hr.below e2, Stp.below (Nat.le_refl _) e2, vr_bytes _⟩
  rw [h15] at h
  simp only [cond_false] at h ⊢
  cases h16 : Nat.beq f 16
  case false => rw [h16] at h; cases h
  rw [h16] at h
  have e := Nat.eq_of_beq_eq_true h16
  subst e
  simp only [cond_true] at h ⊢
  split at h
  case h_2 => cases h
  refine ⟨⟨_, Tryd.func16, by kernel_rfl, by kernel_rfl⟩, fun ρ W vs hG hr hvs => ?_⟩
  rw [show vs = [] from hvs]
  simp only [Bool.and_eq_true] at h
  obtain ⟨s3, hs3⟩ := hG 3 (by decide)
  refine (tells_any W (glob_of hr isK' rfl (hG 3 (by decide)) h.2) (glob_of hr isS' rfl (hG 0 (by decide)) h.1) (hr.dom _ _ _ hs3).2.1).mono fun e W' ⟨e1, e2⟩ => ?_
  subst e1
  exact ⟨_, ρ, rfl, hr.below e2, Stp.below (Nat.le_refl _) e2, by unfold VR; rfl⟩
end Go.Proofs.YtjkicmlelilcaaaDoor.V2
namespace Go.Proofs.YtjkicmlelilcaaaDoor.V2
open Go
noncomputable section
structure Grown (σ σ' : AH) : Prop where
  next : σ.next ≤ σ'.next
  get : ∀ b, b < σ.next → σ'.get b = σ.get b
theorem Grown.refl (σ : AH) : Grown σ σ := ⟨Nat.le_refl _, fun _ _ => rfl⟩
theorem Grown.trans {σ σ' σ'' : AH} (h : Grown σ σ') (h' : Grown σ' σ'') : Grown σ σ'' := ⟨Nat.le_trans h.next h'.next, fun b hb => (h'.get b (Nat.lt_of_lt_of_le hb h.next)).trans (h.get b hb)⟩
theorem Grown.new {σ : AH} {o : AObj} (h : σ.next < 1000000) : Grown σ (σ.new o) := ⟨Nat.le_succ _, fun b hb => by
  show ((σ.mem.put σ.next o).get b) = σ.mem.get b
  rw [T.get_put _ _ _ _ (by omega), if_neg (by omega)]⟩
theorem get_new {σ : AH} {o : AObj} (h : σ.next < 1000000) : (σ.new o).get σ.next = some o := by
  show ((σ.mem.put σ.next o).get σ.next) = _
  rw [T.get_put _ _ _ _ (by omega), if_pos rfl]
inductive IsB (σ : AH) : AV → List Int → Prop
  | nil : IsB σ .nilsl []
  | sl (b o n k : Nat) (ex : Bool) (l m : List Int) (e : TypeId) (tl : Tl) (hb : b < σ.next) (hg : σ.get b = some (.ints .u8 m e tl)) (hn : o + n ≤ m.length) (hk : n ≤ k) (hl : l = (m.drop o).take n) : IsB σ (.sl b o n k ex 1) l
theorem IsB.mono {σ σ' : AH} (h : Grown σ σ') {v : AV} {l : List Int} (hv : IsB σ v l) : IsB σ' v l := by
  cases hv with
  | nil => exact .nil
  | sl b o n k ex l m e tl hb hg hn hk hl => exact .sl b o n k ex l m e tl (Nat.lt_of_lt_of_le hb h.next) (by rw [h.get b hb]; exact hg) hn hk hl
theorem IsB.row {σ : AH} {v : AV} {l : List Int} (hv : IsB σ v l) : ∃ r, rowA std false 1 σ v = (true, l.length, r) ∧ rowB r = some l ∧ (r = .ints .u8 l ∨ r = .cells [] ∧ l = []) := by
  cases hv with
  | nil => exact ⟨_, rfl, rfl, .inr ⟨rfl, rfl⟩⟩
  | sl b o n k ex l m e tl hb hg hn hk hl =>
    have hlen : l.length = n := by rw [hl, List.length_take, List.length_drop]; omega
    refine ⟨.ints .u8 l, ?_, rfl, .inl rfl⟩
    simp only [rowA, hg, std, Nat.mul_one]
    rw [← hl, hlen]
    have : Nat.ble (o + n) m.length = true := by rw [Nat.ble_eq]; exact hn
    rw [this]; rfl
theorem IsB.bytes {σ : AH} {v : AV} {l : List Int} (hv : IsB σ v l) (hl : byI l = true) : bytesA std byI σ v = (true, l) := by
  obtain ⟨r, h1, h2, _⟩ := hv.row
  simp only [bytesA, h1, h2, hl]; rfl
theorem eq_u8 (l : List Int) (ks : List CK) (hk : ks.all CK.isInt = true) (hl : l.length = ks.length) : pstep std (.eqF false ks) [.ints .u8 l, .ints .u8 l] = (true, .bool true) := by
  have h : Nat.beq ks.length ks.length = true := Nat.beq_refl _
  simp [pstep, flatEq, hk, std, hl]
section
variable {A : Ar} {Γ : Gam} {G nt N : Nat} {K : AK} {env : T AV} {σ : AH}
theorem avc_reg_nil {b : ACode} (h : avc A Γ G nt N b K env σ) : avc A Γ G nt N (.seq (.reg []) b) K env σ := ⟨rfl, h⟩
theorem avc_reg_cons {r : CRow} {rows : List CRow} {b : ACode} {v : AV} {σ' : AH} (h : gstep A Γ (evS env) σ r = (true, v, σ')) (h2 : avc A Γ G nt N (.seq (.reg rows) b) K (putD env r.dst v) σ') : avc A Γ G nt N (.seq (.reg (r :: rows)) b) K env σ := by
  have h3 : (evP A Γ rows (putD env r.dst v) σ').1 = true ∧ (AK.seq (avc A Γ G nt N b K) K) .normal (evP A Γ rows (putD env r.dst v) σ').2.1 (evP A Γ rows (putD env r.dst v) σ').2.2 := h2
  show (evP A Γ (r :: rows) env σ).1 = true ∧ (AK.seq (avc A Γ G nt N b K) K) .normal (evP A Γ (r :: rows) env σ).2.1 (evP A Γ (r :: rows) env σ).2.2
  unfold evP
  rw [h]
  simp only
  generalize evP A Γ rows (putD env r.dst v) σ' = x at h3
  obtain ⟨ok, x⟩ := x
  exact h3
end
end
end Go.Proofs.YtjkicmlelilcaaaDoor.V2
namespace Go.Proofs.YtjkicmlelilcaaaDoor.V2
open Go
section
variable {A : Ar} {Γ : Gam} {G nt N : Nat} {K : AK} {env : T AV} {σ : AH} {ev : Ref → AV}
theorem g_if {op : COp} {d : Option Nat} {g : Ref} {b : Bool} {out : Out} (hg : ev g = .bool b) (h : gstep A Γ ev σ ⟨op, d, none⟩ = out) : gstep A Γ ev σ ⟨op, d, some (g, b)⟩ = out := by
  unfold gstep
  simp only [hg]
  cases b <;> exact h
theorem g_mov {d : Option Nat} {x : Ref} {v : AV} (h : ev x = v) : gstep A Γ ev σ ⟨.aop (.mov x), d, none⟩ = (true, v, σ) := by subst h; rfl
theorem g_pick {d : Option Nat} {c x y : Ref} {v : AV} (hc : ev c = .bool true) (h : ev x = v) : gstep A Γ ev σ ⟨.aop (.pick c x y), d, none⟩ = (true, v, σ) := by
  subst h
  show step A ev σ (.pick c x y) = _
  unfold step
  simp only [hc]; rfl
theorem g_ext {d : Option Nat} {x : XOp} {args : List Ref} {vs : List AV} {out : Out} (h : args.map ev = vs) (h2 : xstep A σ x vs = out) : gstep A Γ ev σ ⟨.aop (.ext x args), d, none⟩ = out := by subst h; exact h2
theorem g_call {d : Option Nat} {f : Ref} {n : FuncId} {args : List Ref} {vs : List AV} {out : Out} (hf : ev f = .fn (.func n) [] []) (h : args.map ev = vs) (h2 : Γ n vs σ = out) : gstep A Γ ev σ ⟨.call f args, d, none⟩ = out := by
  subst h
  show cstep A Γ ev σ (.call f args) = _
  unfold cstep
  simp only [hf, List.nil_append, List.append_nil]
  exact h2
theorem g_mk {d : Option Nat} {x : NOp} {args : List Ref} {vs : List AV} {v : Nat → AV} {o : AObj} (h : args.map ev = vs) (h2 : nstep A x vs = (true, v, o)) (hs : σ.next < 1000000) : gstep A Γ ev σ ⟨.aop (.mk x args), d, none⟩ = (true, v σ.next, σ.new o) := by
  subst h
  show step A ev σ (.mk x args) = _
  unfold step
  have : Nat.blt σ.next 1000000 = true := by rw [Nat.blt_eq]; exact hs
  simp only [h2, this]; rfl
theorem g_pur {d : Option Nat} {x : POp} {args : List Ref} {vs : List AV} {v : AV} (h : args.map ev = vs) (h2 : pstep A x vs = (true, v)) : gstep A Γ ev σ ⟨.aop (.pur x args), d, none⟩ = (true, v, σ) := by
  subst h
  show step A ev σ (.pur x args) = _
  unfold step
  simp only [h2]
theorem g_lenb {d : Option Nat} {x : Ref} {v : AV} {l : List Int} (h : ev x = v) (hv : IsB σ v l) : gstep A Γ ev σ ⟨.aop (.lenSl x), d, none⟩ = (true, .int .i64 l.length, σ) := by
  have e : gstep A Γ ev σ ⟨.aop (.lenSl x), d, none⟩ = (match ev x with | .sl _ _ n _ _ _ => (true, .int .i64 n, σ) | .nilsl => (true, .int .i64 0, σ) | _ => bad σ) := rfl
  rw [e, h]
  cases hv with
  | nil => rfl
  | sl b o n k ex l m e tl hb hg hn hk hl =>
    have hlen : l.length = n := by rw [hl, List.length_take, List.length_drop]; omega
    simp only [hlen]
theorem evD_step {all : List (Nat × CRow)} {rc : Nat → List Nat} {p : Nat × CRow} {l : List (Nat × CRow)} {vals : T AV} {v : AV} {σ' : AH} {r : T AV × AH} (h : gstep A Γ (evR env vals) σ p.2 = (true, v, σ')) (hr : rechk A Γ env all (vals.put p.1 v) σ' (rc p.1) = true)
    (h2 : evD A Γ env all rc l (vals.put p.1 v) σ' = (true, r)) : evD A Γ env all rc (p :: l) vals σ = (true, r) := by
  rw [evD_cons, h]
  simp only [h2, hr]; rfl
theorem avc_seq_evD {st : List (Nat × CRow)} {rcs : List (Nat × List Nat)} {ds : List (Option Nat)} {b : ACode} {r : T AV × AH} (h : evD A Γ env st (rcGet rcs) st .leaf σ = (true, r)) (h2 : avc A Γ G nt N b K (putAll r.1 ds 0 env) r.2) : avc A Γ G nt N (.seq (.regd st rcs ds) b) K env σ :=
  avc_seq_regd (r := (true, putAll r.1 ds 0 env, r.2)) (by unfold evDr; rw [h]) rfl h2
end
theorem IsB.cut {σ : AH} {v : AV} {l : List Int} (hv : IsB σ v l) (n : Nat) : ∃ v', oSlSl std 1 v none (some (.int .i64 (min (l.length : Int) n))) none σ = (true, v', σ) ∧ IsB σ v' (l.take n) := by
  cases hv with
  | nil =>
    have : min ((([] : List Int).length : Int)) (n : Int) = 0 := by simp; omega
    exact ⟨.nilsl, by rw [this]; rfl, by rw [List.take_nil]; exact .nil⟩
  | sl b o k c ex l m e tl hb hg hn hk hl =>
    have hlen : l.length = k := by rw [hl, List.length_take, List.length_drop]; omega
    have h1 : (min (l.length : Int) n).toNat = min k n := by omega
    have h2 : Nat.ble (min k n) c = true := by rw [Nat.ble_eq]; omega
    have h3 : (decide ((0 : Int) ≤ min (l.length : Int) n)) = true := by rw [decide_eq_true_eq]; omega
    refine ⟨.sl b o (min k n) c ex 1, ?_, .sl _ _ _ _ _ _ m e tl hb hg (by omega) (by omega) (by rw [hl, List.take_take, Nat.min_comm])⟩
    simp only [oSlSl, bnd, std, h1, h2, h3]
    simp
theorem g_cut {Γ : Gam} {σ : AH} {ev : Ref → AV} {d : Option Nat} {x y : Ref} {v v' : AV} {n : Int} (hx : ev x = v) (hy : ev y = .int .i64 n) (h : oSlSl std 1 v none (some (.int .i64 n)) none σ = (true, v', σ)) : gstep std Γ ev σ ⟨.aop (.slSl 1 x none (some y) none), d, none⟩ = (true, v', σ) := by
  subst hx
  show oSlSl std 1 (ev x) none (some (ev y)) none σ = _
  rw [hy]; exact h
end Go.Proofs.YtjkicmlelilcaaaDoor.V2
namespace Go.Proofs.YtjkicmlelilcaaaDoor.V2
open Go
structure Tabs (σ : AH) : Prop where
  n : 5 < σ.next
  s : ∃ e t, σ.get 0 = some (.ints .u32 (wI S0) e t)
  k : ∃ e t, σ.get 3 = some (.ints .u32 (wI KK) e t)
  ts : ∃ e t k ex z e' t', σ.get 1 = some (.cells [.sl 4 0 8 k ex z] e t) ∧ σ.get 4 = some (.ints .u32 (wI S0) e' t')
  tk : ∃ e t k ex z e' t', σ.get 2 = some (.cells [.sl 5 0 64 k ex z] e t) ∧ σ.get 5 = some (.ints .u32 (wI KK) e' t')
theorem Tabs.mono {σ σ' : AH} (h : Tabs σ) (g : Grown σ σ') : Tabs σ' := by
  have hn := h.n
  refine ⟨Nat.lt_of_lt_of_le h.n g.next, ?_, ?_, ?_, ?_⟩
  · rw [g.get 0 (by omega)]; exact h.s
  · rw [g.get 3 (by omega)]; exact h.k
  · rw [g.get 1 (by omega), g.get 4 (by omega)]; exact h.ts
  · rw [g.get 2 (by omega), g.get 5 (by omega)]; exact h.tk
theorem Tabs.g0 {σ : AH} (h : Tabs σ) : globA σ 0 isS = true := by
  obtain ⟨e, t, h⟩ := h.s
  simp [globA, h, isS]
theorem Tabs.g3 {σ : AH} (h : Tabs σ) : globA σ 3 isK = true := by
  obtain ⟨e, t, h⟩ := h.k
  simp [globA, h, isK]
theorem Tabs.t1 {σ : AH} (h : Tabs σ) : tabA σ 1 8 isS = true := by
  obtain ⟨e, t, k, ex, z, e', t', h1, h2⟩ := h.ts
  simp [tabA, h1, globA, h2, isS]
theorem Tabs.t2 {σ : AH} (h : Tabs σ) : tabA σ 2 64 isK = true := by
  obtain ⟨e, t, k, ex, z, e', t', h1, h2⟩ := h.tk
  simp [tabA, h1, globA, h2, isK]
theorem le_std {n m : Nat} (h : n ≤ m) : std.leN n m = true := by
  show Nat.ble n m = true
  rw [Nat.ble_eq]; exact h
section
variable {σ : AH}
theorem g3_15 {k v : AV} {kl l : List Int} (hT : Tabs σ) (hk : bytesA std byI σ k = (true, kl)) (h : bytesA std byI σ v = (true, l)) (hkl : kl.length ≤ 10000000000) (hl : l.length ≤ 10000000000) : Γ3 std shaI hmI byI isS isK 15 [k, v] σ = (true, .ints .u8 (hmI kl l), σ) := by
  have hl : std.leN (std.len l) 10000000000 = true := le_std hl
  have hkl : std.leN (std.len kl) 10000000000 = true := le_std hkl
  have e : Nat.beq 15 12 = false := rfl
  have e2 : Nat.beq 15 13 = false := rfl
  have e3 : Nat.beq 15 14 = false := rfl
  have e4 : Nat.beq 15 15 = true := rfl
  simp only [Γ3, e, e2, e3, e4, cond_true, cond_false, hk, h, hkl, hl, hT.t1, hT.t2]; rfl
end
def K32 : List CK := [.int, .int, .int, .int, .int, .int, .int, .int, .int, .int, .int, .int, .int, .int, .int, .int, .int, .int, .int, .int, .int, .int, .int, .int, .int, .int, .int, .int, .int, .int, .int, .int]
end Go.Proofs.YtjkicmlelilcaaaDoor.V2
namespace Go.Proofs.YtjkicmlelilcaaaDoor.V2
open Go
open Go.RowKit
def BSn (W : World) (v : Value) (bs : List UInt8) : Prop :=
  (v = .slice none 0 0 ∧ bs = []) ∨ ∃ b off c, v = .slice (some ⟨b, off, none⟩) bs.length c ∧ bs.length ≤ c ∧ b < W.heap.size ∧ ∀ i, i < bs.length → W.cell? ⟨b, off + i, none⟩ = some (.int .u8 (N8 (at8 bs i)))
noncomputable def memL : List AObj → Nat → T AObj → T AObj
  | [], _, t => t
  | a :: l, i, t => memL l (i + 1) (t.put i a)
theorem memL_get : ∀ (l : List AObj) (i : Nat) (t : T AObj) (m : Nat), i + l.length ≤ 1048576 → (memL l i t).get m = if i ≤ m ∧ m < i + l.length then l[m - i]? else t.get m
  | [], i, t, m, _ => by rw [if_neg (by intro h; simp at h; omega)]; rfl
  | a :: l, i, t, m, h => by
    simp only [List.length_cons] at h
    show (memL l (i + 1) (t.put i a)).get m = _
    rw [memL_get l (i + 1) _ m (by omega), T.get_put _ _ _ _ (by omega)]
    by_cases h1 : i + 1 ≤ m ∧ m < i + 1 + l.length
    · rw [if_pos h1, if_pos (by simp; omega), show m - i = (m - (i + 1)) + 1 by omega, List.getElem?_cons_succ]
    · rw [if_neg h1]
      by_cases hm : m = i
      · subst hm; rw [if_pos rfl, if_pos (by simp)]; simp
      · rw [if_neg hm, if_neg (by simp; omega)]
noncomputable def hL (l : List AObj) : AH := ⟨l.length, memL l 0 .leaf⟩
theorem hL_get {l : List AObj} (h : l.length ≤ 1000000) (b : Nat) : (hL l).get b = l[b]? := by
  show (memL l 0 .leaf).get b = _
  rw [memL_get _ _ _ _ (by omega), T.get_leaf]
  by_cases hb : b < l.length
  · rw [if_pos (by omega)]; simp
  · rw [if_neg (by omega), List.getElem?_eq_none (by omega)]
def rL (l : List (Option (Nat × (Nat × Nat)))) : Ren := fun b => (l[b]?).getD none
theorem hr_ro {w : World} {l : List AObj} {r : List (Option (Nat × (Nat × Nat)))} (hl : l.length ≤ 1000000) (hlr : r.length = l.length) (hro : ∀ o ∈ l, o.isRo = true)
    (h : ∀ (b c : Nat) (d : Nat × Nat) (o : AObj), r[b]? = some (some (c, d)) → l[b]? = some o → c < w.heap.size ∧ OR (rL r) d o w.heap[c]?) : HR (rL r) (hL l) w := by
  have hlt : ∀ {b x}, rL r b = some x → b < l.length := fun {b x} hb => by
    unfold rL at hb
    rw [← hlr]
    cases hq : r[b]? with
    | none => rw [hq] at hb; cases hb
    | some y => exact (List.getElem?_eq_some_iff.1 hq).1
  refine ⟨hl, fun b hb => ?_, fun b c d hb => ?_, fun b b' c d d' h1 h2 hne => ?_⟩
  · rw [hL_get hl, List.getElem?_eq_none hb]
  · have hbl := hlt hb
    have hb2 : r[b]? = some (some (c, d)) := by
      unfold rL at hb
      cases hq : r[b]? with
      | none => rw [hq] at hb; cases hb
      | some y => rw [hq] at hb; exact congrArg some hb
    obtain ⟨e1, e2⟩ := h b c d l[b] hb2 (List.getElem?_eq_getElem hbl)
    exact ⟨hbl, e1, _, (hL_get hl b).trans (List.getElem?_eq_getElem hbl), e2⟩
  · have k1 := hlt h1
    have k2 := hlt h2
    exact .inr (.inr ⟨l[b], l[b'], (hL_get hl b).trans (List.getElem?_eq_getElem k1), (hL_get hl b').trans (List.getElem?_eq_getElem k2), hro _ (List.getElem_mem k1), hro _ (List.getElem_mem k2)⟩)
theorem or_ro {ρ : Ren} {w : World} {b off D : Nat} {k : IntKind} {l : List Int} {e : TypeId} (hD : l.length + off ≤ D) (h : ∀ i, i < l.length → w.cell? ⟨b, off + i, none⟩ = some (.int k (l.getD i 0))) : OR ρ (off, D) (.ints k l e .ro) w.heap[b]? := ⟨fun _ => by
  refine ⟨hD, fun hl => ?_⟩
  have hl : 0 < l.length := hl rfl
  obtain ⟨c, t, fr, hb, _⟩ := cell_row (h 0 hl)
  have hat : ∀ i, i < l.length → c[i + off]? = some (.int k (l.getD i 0)) := fun i hi => by
    obtain ⟨c', t', fr', hb', hc⟩ := cell_row (h i hi)
    rw [hb] at hb'; cases hb'
    rw [Nat.add_comm]; exact hc
  refine ⟨c, t, fr, hb, (fun hh => by cases hh), ?_, hD, fun i a hi => ?_⟩
  · have := (Array.getElem?_eq_some_iff.1 (hat (l.length - 1) (by omega))).1
    show l.length + off ≤ c.size
    omega
  · simp only [AObj.at, Option.map_eq_some_iff] at hi
    obtain ⟨m, hm, rfl⟩ := hi
    have hil := (List.getElem?_eq_some_iff.1 hm).1
    refine ⟨_, hat i hil, ?_⟩
    show Value.int k (l.getD i 0) = Value.int k m
    rw [List.getD_eq_getElem?_getD, hm]; rfl, fun l e => by cases e⟩
theorem or_glob {ρ : Ren} {w : World} {g b off c n s e : Nat} (hc : w.cell? ⟨g, 0, none⟩ = some (.slice (some ⟨b, off, none⟩) n c)) (hn : n ≤ c) (hρ : ρ s = some (b, (off, off + c))) : OR ρ (0, 1) (.cells [.sl s 0 n n false 1] e .ro) w.heap[g]? := ⟨fun _ => by
  refine ⟨Nat.le_refl _, fun _ => ?_⟩
  obtain ⟨cs, t, fr, hb, h0⟩ := cell_row hc
  refine ⟨cs, t, fr, hb, (fun h => by cases h), ?_, Nat.le_refl _, fun i a hi => ?_⟩
  · have := (Array.getElem?_eq_some_iff.1 h0).1
    show 1 + 0 ≤ _; omega
  · match i, hi with
    | 0, hi =>
      simp only [AObj.at, List.getElem?_cons_zero, Option.some.injEq] at hi
      subst hi
      refine ⟨_, h0, ?_⟩
      unfold VR
      exact .inl ⟨b, (off, off + c), off, c, hρ, rfl, fun _ => (Nat.zero_add _).symm, Nat.le_refl _, hn, fun h => (by cases h), by show off + c * 1 ≤ off + c; omega⟩
    | i + 1, hi => simp [AObj.at] at hi, fun l e => by cases e⟩
theorem arg_of {w : World} {v : Value} {bs : List UInt8} (hB : BSn w v bs) (s : Nat) : ∃ (a : AV) (r : Option (Nat × (Nat × Nat))), (∀ c d, r = some (c, d) → c < w.heap.size ∧ ∀ ρ, OR ρ d (.ints .u8 (bI bs) 5 .ro) w.heap[c]?) ∧ (∀ ρ : Ren, ρ s = r → VR ρ a v) ∧
    ∀ σ : AH, s < σ.next → σ.get s = some (.ints .u8 (bI bs) 5 .ro) → IsB σ a (bI bs) := by
  rcases hB with ⟨rfl, rfl⟩ | ⟨b, off, c, rfl, hc, hb, hcell⟩
  · exact ⟨.nilsl, none, (fun c d h => by cases h), fun ρ _ => by unfold VR; rfl, fun σ _ _ => .nil⟩
  · refine ⟨.sl s 0 bs.length bs.length false 1, some (b, (off, off + c)), fun c' d h => ?_, fun ρ hρ => ?_, fun σ hs hg => .sl s 0 _ _ _ _ (bI bs) 5 .ro hs hg (by rw [bI_length]; omega) (Nat.le_refl _) ?_⟩
    · cases h
      exact ⟨hb, fun ρ => or_ro (by rw [bI_length]; omega) fun i hi => by rw [bI_getD]; exact hcell i (by rw [bI_length] at hi; exact hi)⟩
    · unfold VR
      exact .inl ⟨b, (off, off + c), off, c, hρ, rfl, fun _ => (Nat.zero_add _).symm, Nat.le_refl _, hc, fun h => (by cases h), by show off + c * 1 ≤ off + c; omega⟩
    · rw [← bI_length bs, List.drop_zero, List.take_length]
theorem byI_bI (bs : List UInt8) : byI (bI bs) = true := by
  unfold byI bI
  rw [List.all_eq_true]
  intro x hx
  obtain ⟨b, _, rfl⟩ := List.mem_map.1 hx
  have := b.toNat_lt
  rw [Bool.and_eq_true, decide_eq_true_eq, decide_eq_true_eq]
  show (0 : Int) ≤ ((b.toNat : Nat) : Int) ∧ ((b.toNat : Nat) : Int) ≤ 255
  omega
theorem Below.ofStp {ρ' : Ren} {l : List AObj} {r : List (Option (Nat × (Nat × Nat)))} {w W' : World} {σ' : AH} (hl : l.length ≤ 1000000) (hr : HR (rL r) (hL l) w) (hro : ∀ o ∈ l, o.isRo = true) (h : Stp (hL l).next (rL r) (hL l) w ρ' σ' W') : Below w.heap.size w W' := by
  refine ⟨h.os, h.tape, h.output, h.size, fun c hc => ?_⟩
  by_cases hm : ∃ b d, rL r b = some (c, d)
  · obtain ⟨b, d, hm⟩ := hm
    obtain ⟨k1, k2, o, k3, k4⟩ := hr.dom b c d hm
    have k5 : l[b]? = some o := by rw [← hL_get hl]; exact k3
    exact (h.ro b c d o k1 hm hc k3 (hro o (List.mem_of_getElem? k5))).2
  · exact h.frame c hc fun b d h => hm ⟨b, d, h⟩
end Go.Proofs.YtjkicmlelilcaaaDoor.V2
namespace Go.Proofs.YtjkicmlelilcaaaDoor
open Go.ChangeShapes Go.WideShapes Go.ChangeAt Go.RowKit
open Go.Proofs.YtjkicmlelilcaaaDoor.V2 (BSn)
theorem bsn_of {W : World} {v : Value} {bs : List UInt8} (hB : BSl W v bs) (h : ∀ a L C, v = .slice (some a) L C → a.spot = none ∧ a.block < W.heap.size) : BSn W v bs := by
  rcases hB with ⟨rfl, rfl⟩ | ⟨b, off, c, rfl, hc, hb, hcell⟩ | ⟨a, rfl, rfl⟩
  · exact .inl ⟨rfl, rfl⟩
  · exact .inr ⟨b, off, c, rfl, hc, hb, hcell⟩
  · obtain ⟨h1, h2⟩ := h a 0 0 rfl
    obtain ⟨b, o, sp⟩ := a
    cases h1
    exact .inr ⟨b, o, 0, rfl, Nat.le_refl _, h2, fun i hi => by cases hi⟩
set_option maxRecDepth 100000 in
theorem open_bsn {H : Type} {enc : TypeId × Value → H} {W : World} {v : Value} {d : DataW H} {p : List MemPlace} {r : Reach} {base : Nat} (hv : Value.okWide Tryd.prog W r base 22 v) (h : DataW.Trod enc Tryd.prog W 0 (fun _ => true) true 22 v d p) : ∃ bs, BSn W v bs := by
  obtain ⟨A, L, C, bs, rfl, hB, _⟩ := open_bytes hv h
  refine ⟨bs, bsn_of hB fun a L' C' e => ?_⟩
  cases e
  simp only [Value.okWide, Tryd.underlying22, Cell.okWide, Cell.ok] at hv
  obtain ⟨_, _, _, hsp, row, cells, hsh, _⟩ := hv
  refine ⟨hsp, ?_⟩
  unfold World.shape? at hsh
  split at hsh
  · rename_i hh; exact (Array.getElem?_eq_some_iff.1 hh).1
  · cases hsh
end Go.Proofs.YtjkicmlelilcaaaDoor
namespace Go.Proofs.YtjkicmlelilcaaaDoor
open Go.RowKit
attribute [local irreducible] chg shaB hmB
theorem hmB_length (key msg : List UInt8) : (hmB key msg).length = 32 := by unfold hmB hmS; exact shaB_length _
theorem range_of_row {w : World} {b T : Nat} {l : List UInt8} (h : w.heap[b]? = some (.cells (c8 l) T (0, 0))) : w.rangeAt b 0 (c8l l) := by
  intro j v hv
  rw [Nat.zero_add, cell_of_row w b j _ T (0, 0) h, c8, List.getElem?_toArray]; exact hv
theorem range_below {B : Nat} {w w' : World} {b : Nat} {cs : List Value} (h : w.rangeAt b 0 cs) (hb : Below B w w') (hB : b < B) : w'.rangeAt b 0 cs := fun j v hv => by
  rw [hb.cell (p := ⟨b, 0 + j, none⟩) hB]; exact h j v hv
end Go.Proofs.YtjkicmlelilcaaaDoor
namespace Go.Proofs.YtjkicmlelilcaaaDoor.V2
open Go
open Go.RowKit
theorem globS_row {w : World} (hS : GlobS w) : ∀ ρ, OR ρ (0, 8) (.ints .u32 (wI S0) 62 .ro) w.heap[0]? := fun ρ => or_ro (by rw [wI_length]; exact Nat.le_refl _) fun i hi => by
  rw [wI_getD, Nat.zero_add]; exact hS i (by rw [wI_length] at hi; exact hi)
theorem globK_row {w : World} (hK : GlobK w) : ∀ ρ, OR ρ (0, 64) (.ints .u32 (wI KK) 62 .ro) w.heap[3]? := fun ρ => or_ro (by rw [wI_length]; exact Nat.le_refl _) fun i hi => by
  rw [wI_getD, Nat.zero_add]; exact hK i (by rw [wI_length] at hi; exact hi)
end Go.Proofs.YtjkicmlelilcaaaDoor.V2
namespace Go.Proofs.YtjkicmlelilcaaaDoor.V2
open Go
open Go.RowKit
section
variable {Γ : Gam} {σ : AH} {ev : Ref → AV} {d : Option Nat}
theorem g_skip {A : Ar} {op : COp} {g : Ref} {b : Bool} (hg : ev g = .bool (!b)) : gstep A Γ ev σ ⟨op, d, some (g, b)⟩ = (true, .tup [], σ) := by
  unfold gstep
  simp only [hg]
  cases b <;> rfl
theorem g_pickf {A : Ar} {c x y : Ref} {v : AV} (hc : ev c = .bool false) (h : ev y = v) : gstep A Γ ev σ ⟨.aop (.pick c x y), d, none⟩ = (true, v, σ) := by
  subst h
  show step A ev σ (.pick c x y) = _
  unfold step
  simp only [hc]; rfl
theorem g_bin {op : BinOp} {x y : Ref} {k k' : IntKind} {a b : Int} {v : AV} (hx : ev x = .int k a) (hy : ev y = .int k' b) (hs : (isShift op || decide (k = k')) = true) (h : binI std op k a b = (true, v)) : gstep std Γ ev σ ⟨.aop (.bin op x y), d, none⟩ = (true, v, σ) := by
  show oBin std op (ev x) (ev y) σ = _
  simp only [oBin, hx, hy, h, hs]; rfl
theorem g_not {A : Ar} {x : Ref} {b c : Bool} (hx : ev x = .bool b) (hc : (!b) = c) : gstep A Γ ev σ ⟨.aop (.un .not x), d, none⟩ = (true, .bool c, σ) := by
  subst hc
  show ((unI A .not (ev x)).1, (unI A .not (ev x)).2, σ) = _
  rw [hx]; rfl
theorem g_conv {k k' : IntKind} {x : Ref} {n m : Int} (hx : ev x = .int k' n) (h : wr k n = m) : gstep std Γ ev σ ⟨.aop (.conv k x), d, none⟩ = (true, .int k m, σ) := by
  subst h
  show step std ev σ (.conv k x) = _
  unfold step
  simp only [hx]; rfl
theorem g_lenS {x : Ref} {l : List UInt8} (hx : ev x = .str l) : gstep std Γ ev σ ⟨.aop (.lenStr x), d, none⟩ = (true, .int .i64 l.length, σ) := by
  show step std ev σ (.lenStr x) = _
  unfold step
  simp only [hx]; rfl
theorem g_ext1 {A : Ar} {x : Ref} {i : Nat} {l : List AV} {v : AV} (hx : ev x = .tup l) (h : l[i]? = some v) : gstep A Γ ev σ ⟨.aop (.extract x i), d, none⟩ = (true, v, σ) := by
  show step A ev σ (.extract x i) = _
  unfold step
  have hi := (List.getElem?_eq_some_iff.1 h).1
  have : Nat.blt i l.length = true := by rw [Nat.blt_eq]; exact hi
  simp only [hx, this, List.getD_eq_getElem?_getD, h]; rfl
theorem g_alloc {A : Ar} {e : TypeId} {l : List AV} {o : AObj} (ho : AObj.of l e .exact = o) (hs : σ.next < 1000000) : gstep A Γ ev σ ⟨.aop (.alloc e l), d, none⟩ = (true, .ptr σ.next 0, σ.new o) := by
  subst ho
  show step A ev σ (.alloc e l) = _
  unfold step
  have : Nat.blt σ.next 1000000 = true := by rw [Nat.blt_eq]; exact hs
  simp only [this]
theorem g_box {A : Ar} {e : TypeId} {x : Ref} {v : AV} {o : AObj} (hx : ev x = v) (hk : v.known = true) (ho : AObj.of v.cells e .exact = o) (hs : σ.next < 1000000) : gstep A Γ ev σ ⟨.aop (.box e x), d, none⟩ = (true, .ptr σ.next 0, σ.new o) := by
  subst ho hx
  show step A ev σ (.box e x) = _
  unfold step
  have : Nat.blt σ.next 1000000 = true := by rw [Nat.blt_eq]; exact hs
  simp only [this, hk]; rfl
theorem g_store {n : Nat} {p x : Ref} {b off : Nat} {v : AV} {o : AObj} (hp : ev p = .ptr b off) (hx : ev x = v) (hg : σ.get b = some o) (hw : o.writeOk std off v = true) (hn : v.size std = n) : gstep std Γ ev σ ⟨.aop (.store n p x), d, none⟩ = (true, .tup [], σ.put b (o.write std off v)) := by
  subst hx hn
  show oStore std _ (ev p) (ev x) σ = _
  have : std.eqN ((ev x).size std) ((ev x).size std) = true := Nat.beq_refl _
  simp only [oStore, hp, hg, hw, this]; rfl
theorem g_load1 {x : Ref} {b off : Nat} {v : AV} {o : AObj} (hx : ev x = .ptr b off) (hg : σ.get b = some o) (h : o.atOk std off = true) (hv : o.atD std off = v) : gstep std Γ ev σ ⟨.aop (.load1 x), d, none⟩ = (true, v, σ) := by
  subst hv
  show oLoad1 std (ev x) σ = _
  simp only [oLoad1, hx, hg, h]
theorem g_loadN {n : Nat} {x : Ref} {b off : Nat} {v : AV} {o : AObj} (hx : ev x = .ptr b off) (hg : σ.get b = some o) (h : o.readOk std off n = true) (hv : o.read std off n = v) : gstep std Γ ev σ ⟨.aop (.loadN n x), d, none⟩ = (true, v, σ) := by
  subst hv
  show oLoadN std n (ev x) σ = _
  simp only [oLoadN, hx, hg, h]
theorem g_idxSl {size : Nat} {x i : Ref} {b o n c z : Nat} {e : Bool} {k : IntKind} {m : Nat} (hx : ev x = .sl b o n c e z) (hi : ev i = .int k m) (h : m < n) : gstep std Γ ev σ ⟨.aop (.idxSl size x i), d, none⟩ = (true, .ptr b (o + m * size), σ) := by
  show oIdxSl std size (ev x) (ev i) σ = _
  have h1 : (decide ((0 : Int) ≤ (m : Int)) && Nat.blt m n) = true := by rw [Bool.and_eq_true, decide_eq_true_eq, Nat.blt_eq]; omega
  have h2 : ((m : Int)).toNat = m := rfl
  simp only [oIdxSl, hx, hi, std, h2, h1]
theorem g_idxArr {len size : Nat} {x i : Ref} {b o : Nat} {k : IntKind} {m : Nat} (hx : ev x = .ptr b o) (hi : ev i = .int k m) (h : m < len) : gstep std Γ ev σ ⟨.aop (.idxArr len size x i), d, none⟩ = (true, .ptr b (o + m * size), σ) := by
  show oIdxArr std len size (ev x) (ev i) σ = _
  have h1 : (decide ((0 : Int) ≤ (m : Int)) && Nat.blt m len) = true := by rw [Bool.and_eq_true, decide_eq_true_eq, Nat.blt_eq]; omega
  have h2 : ((m : Int)).toNat = m := rfl
  simp only [oIdxArr, hx, hi, std, h2, h1]
theorem g_slArr {len size : Nat} {x : Ref} {b o : Nat} {ob : AObj} (hx : ev x = .ptr b o) (hg : σ.get b = some ob) (h : ob.readOk std o (len * size) = true) : gstep std Γ ev σ ⟨.aop (.slArr len size x none none none), d, none⟩ = (true, .sl b o len len true size, σ) := by
  show oSlArr std len size (ev x) none none none σ = _
  simp only [oSlArr, hx, hg, bnd, h]
  simp [std]
end
theorem get_put {σ : AH} {b : Nat} {o : AObj} (hb : b < 1000000) (m : Nat) : (σ.put b o).get m = if m = b then some o else σ.get m := T.get_put _ _ _ _ (by omega)
theorem Grown.put {σ σ' : AH} {b : Nat} {o : AObj} (h : Grown σ σ') (hb : σ.next ≤ b) (hs : b < 1000000) : Grown σ (σ'.put b o) := ⟨h.next, fun m hm => by rw [get_put hs, if_neg (by omega)]; exact h.get m hm⟩
theorem HR.same {ρ : Ren} {σ σ' : AH} {W : World} (h : HR ρ σ W) (hn : σ'.next = σ.next) (hg : ∀ b, σ'.get b = σ.get b) : HR ρ σ' W :=
  ⟨by rw [hn]; exact h.small, fun b hb => by rw [hg]; exact h.none_ b (by omega), fun b c d hρ => by
    obtain ⟨h1, h2, o, h3, h4⟩ := h.dom b c d hρ
    exact ⟨by omega, h2, o, by rw [hg]; exact h3, h4⟩, fun b b' c d d' h1 h2 hne => (h.inj b b' c d d' h1 h2 hne).congr (hg b) (hg b')⟩
theorem Stp.same {N : Nat} {ρ ρ' : Ren} {σ σ' σ'' : AH} {W W' : World} (h : Stp N ρ σ W ρ' σ' W') (hn : σ''.next = σ'.next) (hg : ∀ b, σ''.get b = σ'.get b) : Stp N ρ σ W ρ' σ'' W' :=
  ⟨h.ext, h.img, by rw [hn]; exact h.next, fun b o hb hρ ho ht => by rw [hg]; exact h.keep b o hb hρ ho ht, h.frame, h.tape, h.os, h.output, h.size, fun b c d o hb hρ hc ho hr => by rw [hg]; exact h.ro b c d o hb hρ hc ho hr⟩
mutual
theorem VR.back {ρ ρ' : Ren} (h : Sub ρ ρ') : ∀ (a : AV) (v v' : Value), VR ρ a v → VR ρ' a v' → VR ρ a v'
  | .top, _, _, _, _ => trivial
  | .bool _, _, _, _, e => e
  | .int _ _, _, _, _, e => e
  | .str _, _, _, _, e => e
  | .ptr _ _, _, _, ⟨c, d, hc, _⟩, ⟨c', d', hc', e'⟩ => by
    have := h _ _ hc
    rw [hc'] at this; cases this
    exact ⟨c, d, hc, e'⟩
  | .nilptr, _, _, _, e => e
  | .sl _ _ _ _ _ _, _, _, .inl ⟨c, d, o, k, hc, _⟩, .inl ⟨c', d', o', k', hc', e'⟩ => by
    have := h _ _ hc
    rw [hc'] at this; cases this
    exact .inl ⟨c, d, o', k', hc, e'⟩
  | .sl _ _ _ _ _ _, _, _, .inl ⟨_, _, _, _, hc, _⟩, .inr ⟨h1, h2, h3, _, e⟩ => .inr ⟨h1, h2, h3, ⟨_, hc⟩, e⟩
  | .sl _ _ _ _ _ _, _, _, .inr ⟨_, _, _, ⟨x, hx⟩, _⟩, .inl ⟨c', d', o', k', hc', e'⟩ => by
    have := h _ _ hx
    rw [hc'] at this; cases this
    exact .inl ⟨c', d', o', k', hx, e'⟩
  | .sl _ _ _ _ _ _, _, _, .inr ⟨_, _, _, hx, _⟩, .inr ⟨h1, h2, h3, _, e⟩ => .inr ⟨h1, h2, h3, hx, e⟩
  | .nilsl, _, _, _, e => e
  | .map _, _, _, ⟨c, d, hc, _⟩, ⟨c', d', hc', e'⟩ => by
    have := h _ _ hc
    rw [hc'] at this; cases this
    exact ⟨c, d, hc, e'⟩
  | .nilmap, _, _, _, e => e
  | .fn _ xs ys, _, _, ⟨us, vs, _, h1, h2⟩, ⟨us', vs', e, h1', h2'⟩ => ⟨us', vs', e, VRs.back h xs us us' h1 h1', VRs.back h ys vs vs' h2 h2'⟩
  | .nilfn, _, _, _, e => e
  | .ifc _ a, _, _, ⟨u, _, hu⟩, ⟨u', e, hu'⟩ => ⟨u', e, VR.back h a u u' hu hu'⟩
  | .nilifc, _, _, _, e => e
  | .agg l, _, _, ⟨us, _, hu⟩, ⟨us', e, hu'⟩ => ⟨us', e, VRs.back h l us us' hu hu'⟩
  | .ints _ _, _, _, _, e => e
  | .tup l, _, _, ⟨us, _, hu⟩, ⟨us', e, hu'⟩ => ⟨us', e, VRs.back h l us us' hu hu'⟩
theorem VRs.back {ρ ρ' : Ren} (h : Sub ρ ρ') : ∀ (l : List AV) (vs vs' : List Value), VRs ρ l vs → VRs ρ' l vs' → VRs ρ l vs'
  | [], _, _, _, e => e
  | a :: l, _, _, ⟨v, m, _, hv, hm⟩, ⟨v', m', e, hv', hm'⟩ => ⟨v', m', e, VR.back h a v v' hv hv', VRs.back h l m m' hm hm'⟩
end
theorem MapL.back {ρ ρ' : Ren} (h : Sub ρ ρ') : ∀ {l : List (AV × AV)} {es es' : List MapEntry}, MapL ρ l es → MapL ρ' l es' → MapL ρ l es'
  | [], _, _, _, e => e
  | _ :: _, _, _, ⟨e, m, _, h2, h3, h4⟩, ⟨e', m', h1', h2', h3', h4'⟩ => ⟨e', m', h1', VR.back h _ _ _ h2 h2', VR.back h _ _ _ h3 h3', h4.back h h4'⟩
theorem OR.back {ρ ρ' : Ren} (h : Sub ρ ρ') {d : Nat × Nat} {o : AObj} {x x' : Option Obj} (h1 : OR ρ d o x) (h2 : OR ρ' d o x') : OR ρ d o x' := by
  refine ⟨fun hc => ?_, fun l e => ?_⟩
  · obtain ⟨k1, k2⟩ := h1.1 hc
    obtain ⟨_, q2⟩ := h2.1 hc
    refine ⟨k1, fun hr => ?_⟩
    obtain ⟨_, _, _, _, _, _, _, k7⟩ := k2 hr
    obtain ⟨c, e, fr, q3, q4, q5, q6, q7⟩ := q2 hr
    refine ⟨c, e, fr, q3, q4, q5, q6, fun i a hi => ?_⟩
    obtain ⟨v, _, hv⟩ := k7 i a hi
    obtain ⟨v', hv1, hv'⟩ := q7 i a hi
    exact ⟨v', hv1, VR.back h a v v' hv hv'⟩
  · obtain ⟨es, ck, _, m1, _⟩ := h1.2 l e
    obtain ⟨es', ck', m2, m3, m4⟩ := h2.2 l e
    exact ⟨es', ck', m2, m1.back h m3, m4⟩
theorem HR.forget {ρ ρ' : Ren} {σ σ' : AH} {W W' : World} (h : HR ρ σ W) (h' : HR ρ' σ' W') (hs : Stp σ.next ρ σ W ρ' σ' W') (hg : Grown σ σ') : HR ρ σ W' ∧ Stp σ.next ρ σ W ρ σ W' := by
  have ext : Sub ρ ρ' := fun b x hb => by rw [hs.ext b (h.dom b x.1 x.2 hb).1]; exact hb
  refine ⟨⟨h.small, h.none_, fun b c d hb => ?_, fun b b' c d d' h1 h2 hne => h.inj b b' c d d' h1 h2 hne⟩, ⟨fun _ _ => rfl, fun b c d hb => .inl ⟨b, d, hb⟩, Nat.le_refl _, fun _ _ _ _ ho _ => ho, hs.frame, hs.tape, hs.os, hs.output, hs.size, fun b c d o hb hρ hc ho hr => ⟨ho, (hs.ro b c d o hb hρ hc ho hr).2⟩⟩⟩
  obtain ⟨k1, k2, o, k3, k4⟩ := h.dom b c d hb
  obtain ⟨_, q2, o', q3, q4⟩ := h'.dom b c d (ext _ _ hb)
  rw [hg.get b k1, k3] at q3
  cases q3
  exact ⟨k1, q2, o, k3, k4.back ext q4⟩
end Go.Proofs.YtjkicmlelilcaaaDoor.V2
