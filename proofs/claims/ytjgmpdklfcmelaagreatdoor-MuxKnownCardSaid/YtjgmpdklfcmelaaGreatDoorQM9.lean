/- Part 9 of the proof: texts of the proof. -/
import Derived.Test.YtjgmpdklfcmelaaGreatDoorQM8
import Derived.Test.YtjgmpdklfcmelaaGreatDoorChecked
namespace Go.Proofs.YtjgmpdklfcmelaaGreatDoor.V2
open Go
noncomputable section
mutual
def mapF (r : Nat → Nat) : FV → FV
  | .n k m => .n k m
  | .z k m => .z k m
  | .b t => .b t
  | .s c => .s c
  | .p b o => .p (r b) o
  | .sl b o n k e z => .sl (r b) o n k e z
  | .m b => .m (r b)
  | .y b => .y (r b)
  | .fn f x y => .fn f (mapFs r x) (mapFs r y)
  | .ifc t v => .ifc t (mapF r v)
  | .agg l => .agg (mapFs r l)
  | .bs c => .bs c
  | .ints k l => .ints k l
  | .tup l => .tup (mapFs r l)
  | .o j => .o j
def mapFs (r : Nat → Nat) : List FV → List FV
  | [] => []
  | v :: l => mapF r v :: mapFs r l
end
mutual
theorem mapF_α (r : Nat → Nat) : ∀ v, αV (mapF r v) = mapV r (αV v)
  | .n _ _ => rfl
  | .z _ _ => rfl
  | .b _ => rfl
  | .s _ => rfl
  | .p _ _ => rfl
  | .sl _ _ _ _ _ _ => rfl
  | .m _ => rfl
  | .y _ => rfl
  | .fn f x y => by simp only [mapF, αV, mapV, mapFs_α r x, mapFs_α r y]
  | .ifc t v => by simp only [mapF, αV, mapV, mapF_α r v]
  | .agg l => by simp only [mapF, αV, mapV, mapFs_α r l]
  | .bs _ => rfl
  | .ints _ _ => rfl
  | .tup l => by simp only [mapF, αV, mapV, mapFs_α r l]
  | .o j => by cases j <;> rfl
theorem mapFs_α (r : Nat → Nat) : ∀ l, αL (mapFs r l) = mapVs r (αL l)
  | [] => rfl
  | v :: l => by simp only [mapFs, αL, mapVs, mapF_α r v, mapFs_α r l]
end
def mapP (r : Nat → Nat) : List (FV × FV) → List (FV × FV)
  | [] => []
  | p :: l => (mapF r p.1, mapF r p.2) :: mapP r l
def mapFO (r : Nat → Nat) : FObj → FObj
  | .dead => .dead
  | .cells l e t => .cells (mapFs r l) e t
  | .bs c e t => .bs c e t
  | .ints k l e t => .ints k l e t
  | .map l => .map (mapP r l)
  | .hid => .hid
theorem mapP_α (r : Nat → Nat) : ∀ l, αP (mapP r l) = (αP l).map fun p => (mapV r p.1, mapV r p.2)
  | [] => rfl
  | p :: l => by simp only [mapP, αP, List.map_cons, mapF_α, mapP_α r l]
theorem mapFO_α (r : Nat → Nat) (o : FObj) : αO (mapFO r o) = mapO r (αO o) := by
  cases o with
  | cells l e t => simp only [mapFO, αO, mapO, mapFs_α]
  | map l => simp only [mapFO, αO, mapO, mapP_α]
  | _ => rfl
/-! What is laid at the begin. -/
def αl (l : List (Nat × FV)) : List (Nat × AV) := l.map fun p => (p.1, αV p.2)
def αm (L : List (Nat × FObj)) : List (Nat × AObj) := L.map fun p => (p.1, αO p.2)
def mkE (l : List (Nat × FV)) : (E → FR) → FR := List.rec (motive := fun _ => (E → FR) → FR) (fun k => k e0) (fun p _ ih k => ih fun e => Prod.rec (fun t v => wrE t e v k) p) l
def mkM (L : List (Nat × FObj)) : (T FObj → FR) → FR := List.rec (motive := fun _ => (T FObj → FR) → FR) (fun k => k .leaf) (fun p _ ih k => ih fun m => Prod.rec (fun b o => ts 20 m b o k) p) L
def ofMF : List (Nat × FObj) → T FObj
  | [] => .leaf
  | p :: l => (ofMF l).put p.1 p.2
theorem ofMF_α : ∀ L : List (Nat × FObj), (ofMF L).map αO = ofM (αm L)
  | [] => rfl
  | p :: l => by
    show ((ofMF l).put p.1 p.2).map αO = (ofM (αm l)).put p.1 (αO p.2)
    rw [T.map_put, ofMF_α l]
theorem mkM_eq : ∀ (L : List (Nat × FObj)) (k : T FObj → FR), mkM L k = k (ofMF L)
  | [], k => rfl
  | p :: l, k => by
    show (mkM l fun m => ts 20 m p.1 p.2 k) = _
    rw [mkM_eq l, ts_eq]; rfl
theorem mkE_ok {nt : Nat} {dr : List Nat} : ∀ (l : List (Nat × FV)) (k : E → FR), (l.all fun p => Nat.blt p.1 1024) = true → ∃ e, Ee nt dr e (ofL (αl l)) ∧ mkE l k = k e
  | [], k, _ => ⟨e0, fun t _ => by rw [e0_at]; rfl, rfl⟩
  | p :: l, k, h => by
    rw [List.all_cons, Bool.and_eq_true, Nat.blt_eq] at h
    obtain ⟨e, h1, h2⟩ := mkE_ok (nt := nt) (dr := dr) l (fun e => wrE p.1 e p.2 k) h.2
    obtain ⟨e', h3, h4⟩ := wr_ok (m := []) (v := p.2) (k := k) h1.m h.1
    refine ⟨e', h3.e, ?_⟩
    show (mkE l fun e => wrE p.1 e p.2 k) = _
    rw [h2, h4]
/-! What is asked at the end. -/
def chT : List FObj → T FObj
  | [] => .leaf
  | o :: l => .node (some o) .leaf (chT l)
theorem chT_inj : ∀ {a b : List FObj}, chT a = chT b → a = b
  | [], [], _ => rfl
  | [], _ :: _, h => by cases h
  | _ :: _, [], h => by cases h
  | x :: a, y :: b, h => by
    simp only [chT, T.node.injEq, Option.some.injEq, true_and] at h
    rw [h.1, chT_inj h.2]
def gMs (bs : List Nat) (σ : FH) (k : List FObj → FR) : FR := List.rec (motive := fun _ => (List FObj → FR) → FR) (fun k => k []) (fun b _ ih k => gM σ b fun o => ih fun l => k (o :: l)) bs k
theorem gMs_ok {σ : FH} : ∀ (bs : List Nat) (k : List FObj → FR), gMs bs σ k ≠ .bad → ∃ os, (bs.map fun b => (αH σ).get b) = os.map (fun o => some (αO o)) ∧ gMs bs σ k = k os
  | [], k, _ => ⟨[], rfl, rfl⟩
  | b :: bs, k, h => by
    have h : (gM σ b fun o => gMs bs σ fun l => k (o :: l)) ≠ .bad := h
    show ∃ os, _ ∧ (gM σ b fun o => gMs bs σ fun l => k (o :: l)) = _
    obtain ⟨o, _, h2, h3⟩ := gM_cases h
    rw [h3] at h ⊢
    obtain ⟨os, h4, h5⟩ := gMs_ok bs _ h
    exact ⟨o :: os, by rw [List.map_cons, h2, h4]; rfl, h5⟩
def rfS1 (nt : Nat) (dr : List Nat) (ts : List Nat) : List Rd := ts.map fun t => rdM nt dr [] (.slot t)
def endK (rs : List Rd) (bs : List Nat) : K2 := fun e σ => rdsK rs e fun vs => gMs bs σ fun os => .ok (.tup vs) ⟨0, chT os⟩
def runQ (tq : T (Phi → HF)) (b : FuncId → HF) (q : Cd) (l : List (Nat × FV)) (L : List (Nat × FObj)) (n : Nat) (kn kr : K2) : FR := fT (fun x c => c x) tq fun tab => mkE l fun e => mkM L fun m => q (PhiG tab 40 b fun _ _ _ _ => .bad) 6 kn kr kXe e ⟨n, m⟩
theorem runQ_eq {tq : T (Phi → HF)} {b : FuncId → HF} {q : Cd} {l : List (Nat × FV)} {L : List (Nat × FObj)} {n : Nat} {kn kr : K2} {nt : Nat} {dr : List Nat} (hl : (l.all fun p => Nat.blt p.1 1024) = true) :
    ∃ e, Ee nt dr e (ofL (αl l)) ∧ runQ tq b q l L n kn kr = q (PhiG tq 40 b fun _ _ _ _ => .bad) 6 kn kr kXe e ⟨n, ofMF L⟩ := by
  unfold runQ
  rw [fT_eq fun _ _ => rfl]
  obtain ⟨e, h1, h2⟩ := mkE_ok (nt := nt) (dr := dr) l (fun e => mkM L fun m => q (PhiG tq 40 b fun _ _ _ _ => .bad) 6 kn kr kXe e ⟨n, m⟩) hl
  exact ⟨e, h1, by rw [h2, mkM_eq]⟩
theorem αH_ofMF (n : Nat) (L : List (Nat × FObj)) : αH ⟨n, ofMF L⟩ = ⟨n, ofM (αm L)⟩ := by unfold αH; rw [ofMF_α]
def distN : List Nat → Bool
  | [] => true
  | a :: l => !hasN a l && distN l
theorem hasN_of {k : Nat} : ∀ {l : List Nat}, k ∈ l → hasN k l = true
  | [], h => by cases h
  | a :: m, h => by
    unfold hasN
    rcases List.mem_cons.1 h with h | h
    · rw [h, Nat.beq_refl]; rfl
    · cases Nat.beq a k
      · exact hasN_of h
      · rfl
theorem has_ofL : ∀ {l : List (Nat × AV)}, distN (l.map (·.1)) = true → (l.all fun p => Nat.blt p.1 1048576) = true → ∀ {l0 : List (Nat × AV)}, (∀ p ∈ l0, p ∈ l) → Has (ofL l) l0 := by
  intro l hd hs
  have key : ∀ p ∈ l, (ofL l).get p.1 = some p.2 := by
    induction l with
    | nil => intro p hp; cases hp
    | cons q l ih =>
      intro p hp
      rw [List.all_cons, Bool.and_eq_true, Nat.blt_eq] at hs
      simp only [List.map_cons, distN, Bool.and_eq_true, Bool.not_eq_true'] at hd
      show ((ofL l).put q.1 q.2).get p.1 = _
      rw [T.get_put _ _ _ _ hs.1]
      rcases List.mem_cons.1 hp with rfl | hp
      · rw [if_pos rfl]
      · have hne : p.1 ≠ q.1 := fun e => by
          have : hasN q.1 (l.map (·.1)) = true := by
            have hm : q.1 ∈ l.map (·.1) := by rw [← e]; exact List.mem_map_of_mem hp
            exact hasN_of hm
          rw [this] at hd; cases hd.1
        rw [if_neg hne]; exact ih hd.2 hs.2 p hp
  intro l0
  induction l0 with
  | nil => intro _; trivial
  | cons p l0 ih =>
    intro h
    refine ⟨⟨key p (h p List.mem_cons_self), ?_⟩, ih fun q hq => h q (List.mem_cons_of_mem _ hq)⟩
    exact List.all_eq_true.1 hs p (h p List.mem_cons_self)
section
variable {P : Program} {Γ0 : Gam} {pu : FuncId → Bool} {nt B fuel : Nat} {ρ0 : Ren} {σ0 : AH} {W0 : World} {Q : Exit → Act → World → Prop}
theorem Good.le {G N : Nat} {env env' : T AV} {σ : AH} {c : Code} (h : Le env env') (g : Good P G nt N B ρ0 σ0 W0 Q env' σ c) : Good P G nt N B ρ0 σ0 W0 Q env σ c := fun ρ W a hr he hs hd => g ρ W a hr (he.le h) hs hd
def lowL (L : List (Nat × AObj)) (b : Nat) : Option AObj := (L.find? fun p => Nat.beq p.1 b).map (·.2)
theorem low_of {σ : AH} {old : List Nat} {n : Nat} {L : List (Nat × AObj)} (hk : keepN (rn old) (L.map (·.1)) 6 = true) (hM : Had (rn old) σ n L) (h : ((List.range 6).map fun b => (ofM L).get b) = (List.range 6).map fun b => (lowL L b).map (mapO (rn old))) : ∀ b, b < 6 → (ofM L).get b = σ.get b := fun b hb => by
  have h1 : (ofM L).get b = (lowL L b).map (mapO (rn old)) := by
    have := congrArg (fun l => l[b]?) h
    simpa [hb] using this
  rw [h1]
  have h2 := List.all_eq_true.1 hk b (List.mem_range.2 hb)
  rw [Bool.and_eq_true, Nat.beq_eq, List.contains_iff_mem, List.mem_map] at h2
  obtain ⟨h3, p, hp, h4⟩ := h2
  unfold lowL
  cases hf : L.find? fun p => Nat.beq p.1 b with
  | none => exact absurd (by rw [h4]; exact Nat.beq_refl b) (List.find?_eq_none.1 hf p hp)
  | some q =>
    have h5 : q.1 = b := Nat.eq_of_beq_eq_true (List.find?_some (p := fun p : Nat × AObj => Nat.beq p.1 b) hf)
    have h6 := (hM.mem q (List.mem_of_find?_eq_some hf)).2
    rw [h5, h3] at h6
    rw [h6]; rfl
theorem Good.pieceQ {tab : T Ent} {tq : T (Phi → HF)} {b : FuncId → HF} (st : Start [] 6 B ρ0 σ0 W0) (hm : P.follows .mixedOrders = true) (hΓ : GamOk P 6 (Gam.grow std fuel tab Sp.none Γ0 40) []) (hpu : PuOk (Gam.grow std fuel tab Sp.none Γ0 40) pu)
    (ht : TabQ fuel tab tq) (hb : ∀ f, HOk (b f) (Γ0.fn f)) {m : Nat} {c : Code} {c' : ACode} {dr : List Nat} {q : Cd} {n0 n : Nat} {l0 l : List (Nat × FV)} {L0 L : List (Nat × FObj)} {old : List Nat} {rs : List Rd}
    (hn : noFor m c' = true) (hc : compC P 6 nt pu c = some c') (hq : thrK fuel nt dr (aT m c') [] cS = q) (hl0 : (l0.all fun p => Nat.blt p.1 1024) = true) (hrs : rfS1 nt dr (l.map (·.1)) = rs)
    (hrun : runQ tq b q l0 L0 n0 (endK rs (L.map fun p => rn old p.1)) kX = .ok (.tup (l.map fun p => mapF (rn old) p.2)) ⟨0, chT (L.map fun p => mapFO (rn old) p.2)⟩)
    (h1 : okN old n (αl l) (αm L) = true) (h2 : distN (l.map (·.1)) = true) (h3 : ((List.range 6).map fun b => (ofM (αm L)).get b) = (List.range 6).map fun b => (lowL (αm L) b).map (mapO (rn old)))
    (g : compC P 6 nt pu (cdD m c) = some (aD m c') → Good P 6 nt 6 B ρ0 σ0 W0 Q (ofL (αl l)) ⟨n, ofM (αm L)⟩ (cdD m c)) : Good P 6 nt 6 B ρ0 σ0 W0 Q (ofL (αl l0)) ⟨n0, ofM (αm L0)⟩ c := by
  obtain ⟨e, he, hr⟩ := runQ_eq (tq := tq) (b := b) (q := q) (L := L0) (n := n0) (kn := endK rs (L.map fun p => rn old p.1)) (kr := kX) (nt := nt) (dr := dr) hl0
  rw [hr] at hrun
  have hne : q (PhiG tq 40 b fun _ _ _ _ => .bad) 6 (endK rs (L.map fun p => rn old p.1)) kX kXe e ⟨n0, ofMF L0⟩ ≠ .bad := by rw [hrun]; exact fun h => by cases h
  have hΦ : PhiOk (PhiG tq 40 b fun _ _ _ _ => .bad) (Gam.grow std fuel tab Sp.none Γ0 40) := PhiG_ok ht 40 hb fun j l σ k => Sm.bad
  subst hq
  obtain ⟨x, env', e', σ', a1, _, a3⟩ := thrK_ok (aT m c') [] cS _ _ hΦ 6 _ _ _ e ⟨n0, ofMF L0⟩ _ he.m hne
  cases x with
  | ret => rw [a3.2] at hne; exact absurd rfl hne
  | exit i => rw [a3.2] at hne; exact absurd rfl hne
  | normal =>
    obtain ⟨m', a4, a5⟩ := a3
    rw [a5] at hrun hne
    have hne : (rdsK rs e' fun vs => gMs (L.map fun p => rn old p.1) σ' fun os => FR.ok (.tup vs) ⟨0, chT os⟩) ≠ .bad := hne
    have hrun : (rdsK rs e' fun vs => gMs (L.map fun p => rn old p.1) σ' fun os => FR.ok (.tup vs) ⟨0, chT os⟩) = _ := hrun
    subst hrs
    have e1 : rfS1 nt dr (l.map (·.1)) = ((l.map (·.1)).map Ref.slot).map (rdM nt dr []) := by unfold rfS1; exact (List.map_map (f := Ref.slot) (g := rdM nt dr []) (l := l.map (·.1))).symm
    rw [e1] at hne hrun
    obtain ⟨vs, b1, b2⟩ := (rdM_ok a4.e.m).list _ _ hne
    rw [b2] at hne hrun
    obtain ⟨os, b3, b4⟩ := gMs_ok _ _ hne
    rw [b4] at hrun
    simp only [FR.ok.injEq, FV.tup.injEq, FH.mk.injEq, true_and] at hrun
    have b5 := hrun.1
    have b6 := chT_inj hrun.2
    subst b5 b6
    rw [αH_ofMF] at a1
    have k1 : ∀ p ∈ l, evS env' (.slot p.1) = mapV (rn old) (αV p.2) := fun p hp => by
      rw [αL_map, List.map_map, List.map_map, List.map_map] at b1
      have := List.map_inj_left.1 b1 p hp
      simp only [Function.comp] at this
      rw [this, mapF_α]
    have k2 : ∀ p ∈ L, (αH σ').get (rn old p.1) = some (mapO (rn old) (αO p.2)) := fun p hp => by
      rw [List.map_map, List.map_map] at b3
      have := List.map_inj_left.1 b3 p hp
      simp only [Function.comp] at this
      rw [this, mapFO_α]
    unfold okN at h1
    simp only [Bool.and_eq_true] at h1
    obtain ⟨⟨⟨⟨⟨⟨⟨⟨c1, c2⟩, c3⟩, c4⟩, c5⟩, c6⟩, c7⟩, c8⟩, c9⟩ := h1
    have hHad : Had (rn old) (αH σ') n (αm L) := by
      have : ∀ L' : List (Nat × FObj), (∀ p ∈ L', p ∈ L) → ((αm L').all fun p => Nat.blt p.1 n) = true → Had (rn old) (αH σ') n (αm L') := by
        intro L'
        induction L' with
        | nil => intro _ _; trivial
        | cons p L' ih =>
          intro hs ha
          have ha : (Nat.blt p.1 n && (αm L').all fun p => Nat.blt p.1 n) = true := ha
          rw [Bool.and_eq_true] at ha
          exact ⟨⟨ha.1, k2 p (hs p List.mem_cons_self)⟩, ih (fun q hq => hs q (List.mem_cons_of_mem _ hq)) ha.2⟩
      exact this L (fun _ h => h) c9
    let l' : List (Nat × AV) := (αl l).map fun p => (p.1, mapV (rn old) p.2)
    have hmem : ∀ t v, (t, v) ∈ l' → evS env' (.slot t) = v := fun t v h => by
      obtain ⟨p, hp, hpe⟩ := List.mem_map.1 h
      obtain ⟨p0, hp0, hp0e⟩ := List.mem_map.1 hp
      subst hp0e
      cases hpe
      exact k1 p0 hp0
    have hsm : (l'.all fun p => Nat.blt p.1 1048576) = true := by
      rw [List.all_eq_true] at c8 ⊢
      intro p hp
      obtain ⟨p0, hp0, rfl⟩ := List.mem_map.1 hp
      exact c8 p0 hp0
    have hle : Le env' (ofL l') := fun t v ht => (hmem t v (ofL_get l' t v (fun p hp => List.all_eq_true.1 hsm p hp) ht)).symm
    have hhas : Has (ofL l') l' := has_ofL (by
      have : l'.map (·.1) = l.map (·.1) := by
        show ((αl l).map fun p => (p.1, mapV (rn old) p.2)).map (·.1) = _
        unfold αl
        rw [List.map_map, List.map_map]; rfl
      rw [this]; exact h2) hsm fun _ h => h
    have hwk : Wk 6 nt 6 (ofL l') (αH σ') (ofL (αl l)) ⟨n, ofM (αm L)⟩ := Wk.lay (rn old) c1 c2 (by decide) c3 c4 hHad (low_of c3 hHad h3) c5 c6 c7 hhas
    exact Good.cut st hm hΓ hpu m c c' (ofL (αl l0)) env' ⟨n0, ofM (αm L0)⟩ (αH σ') hn hc a1 fun hc1 => Good.le hle ((g hc1).wk hwk)
theorem Good.endQ {tab : T Ent} {tq : T (Phi → HF)} {b : FuncId → HF} (st : Start [] 6 B ρ0 σ0 W0) (hm : P.follows .mixedOrders = true) (hΓ : GamOk P 6 (Gam.grow std fuel tab Sp.none Γ0 40) []) (hpu : PuOk (Gam.grow std fuel tab Sp.none Γ0 40) pu)
    (ht : TabQ fuel tab tq) (hb : ∀ f, HOk (b f) (Γ0.fn f)) {c : Code} {c' : ACode} {dr : List Nat} {q : Cd} {n0 : Nat} {l0 : List (Nat × FV)} {L0 : List (Nat × FObj)} {xs : List ARes} {rs : List Rs} {vs : List FV}
    (hc : compC P 6 nt pu c = some c') (hq : thrK fuel nt dr c' [] cS = q) (hl0 : (l0.all fun p => Nat.blt p.1 1024) = true) (hrs : xs.map (thrV nt dr) = rs)
    (hrun : runQ tq b q l0 L0 n0 kX (fun e σ => rsQ rs e σ fun vs => .ok (.tup vs) ⟨0, .leaf⟩) = .ok (.tup vs) ⟨0, .leaf⟩) {K : AK} (hK : ∀ env σ, resL std env σ xs = (true, αL vs) → K .ret env σ) :
    Good P 6 nt 6 B ρ0 σ0 W0 (AQ 6 nt 6 B ρ0 σ0 W0 K) (ofL (αl l0)) ⟨n0, ofM (αm L0)⟩ c := by
  obtain ⟨e, he, hr⟩ := runQ_eq (tq := tq) (b := b) (q := q) (L := L0) (n := n0) (kn := kX) (kr := fun e σ => rsQ rs e σ fun vs => .ok (.tup vs) ⟨0, .leaf⟩) (nt := nt) (dr := dr) hl0
  rw [hr] at hrun
  have hne : q (PhiG tq 40 b fun _ _ _ _ => .bad) 6 kX (fun e σ => rsQ rs e σ fun vs => .ok (.tup vs) ⟨0, .leaf⟩) kXe e ⟨n0, ofMF L0⟩ ≠ .bad := by rw [hrun]; exact fun h => by cases h
  have hΦ : PhiOk (PhiG tq 40 b fun _ _ _ _ => .bad) (Gam.grow std fuel tab Sp.none Γ0 40) := PhiG_ok ht 40 hb fun j l σ k => Sm.bad
  subst hq
  obtain ⟨x, env', e', σ', a1, _, a3⟩ := thrK_ok c' [] cS _ _ hΦ 6 _ _ _ e ⟨n0, ofMF L0⟩ _ he.m hne
  cases x with
  | exit i => rw [a3.2] at hne; exact absurd rfl hne
  | normal => obtain ⟨m', _, a5⟩ := a3; rw [a5] at hne; exact absurd rfl hne
  | ret =>
    obtain ⟨a4, a5⟩ := a3
    rw [a5] at hrun hne
    subst hrs
    obtain ⟨ws, b1, b2⟩ := rsQ_ok a4 σ' xs _ hne
    have hrun : (rsQ (xs.map (thrV nt dr)) e' σ' fun vs => FR.ok (.tup vs) ⟨0, .leaf⟩) = _ := hrun
    rw [b2] at hrun
    cases hrun
    rw [αH_ofMF] at a1
    exact Good.end st hm hΓ hpu hc a1 (hK env' (αH σ') b1)
end
end
end Go.Proofs.YtjgmpdklfcmelaaGreatDoor.V2
namespace Go.Proofs.YtjgmpdklfcmelaaGreatDoor.V2
open Go
noncomputable def c72 : ACode := (.seq (.reg [⟨(.aop (.box 28 (.slot 0))), (some 3), none⟩, ⟨(.aop (.mov (.lit (.int .i64 (0))))), (some 6), none⟩]) (.seq (.seq (.reg [⟨(.aop (.load1 (.slot 3))), (some 10), none⟩, ⟨(.call (.lit (.fn (.func 159) [] [])) [(.slot 10)]), (some 11), none⟩, ⟨(.aop (.mov (.slot 11))), (some 12), none⟩, ⟨(.aop (.mov (.slot 1))), (some 13), (some ((.slot 12), false))⟩, ⟨(.aop (.load1 (.slot 3))), (some 14), (some ((.slot 12), false))⟩, ⟨(.aop (.nilCheck (.slot 14))), (some 15), (some ((.slot 12), false))⟩, ⟨(.aop (.fieldAddr 0 (.slot 15))), (some 16), (some ((.slot 12), false))⟩, ⟨(.aop (.load1 (.slot 16))), (some 17), (some ((.slot 12), false))⟩, ⟨(.call (.lit (.fn (.func 160) [] [])) [(.slot 17)]), (some 18), (some ((.slot 12), false))⟩, ⟨(.aop (.bin .gtr (.slot 13) (.slot 18))), (some 19), (some ((.slot 12), false))⟩, ⟨(.aop (.pick (.slot 12) (.lit (.bool true)) (.slot 19))), (some 20), none⟩]) (.cond (.slot 20) (.seq (.reg [⟨(.aop (.mov (.lit (.int .i64 (0))))), (some 6), none⟩]) .ret) .skip)) (.seq (.reg [⟨(.aop (.load1 (.slot 3))), (some 21), none⟩, ⟨(.aop (.nilCheck (.slot 21))), (some 22), none⟩, ⟨(.aop (.fieldAddr 3 (.slot 22))), (some 23), none⟩, ⟨(.aop (.load1 (.slot 23))), (some 24), none⟩, ⟨(.aop (.rd .lenMap [(.slot 24)])), (some 25), none⟩, ⟨(.aop (.mov (.slot 25))), (some 7), none⟩]) (.seq (.mfor [⟨(.aop (.load1 (.slot 3))), (some 26), none⟩, ⟨(.aop (.nilCheck (.slot 26))), (some 27), none⟩, ⟨(.aop (.fieldAddr 3 (.slot 27))), (some 28), none⟩, ⟨(.aop (.load1 (.slot 28))), (some 29), none⟩] (.slot 29) ⟨30, 31, 32, 33, 1, [⟨(.aop (.extract (.slot 31) 0)), (some 32), none⟩], [⟨(.aop (.extract (.slot 33) 0)), (some 34), none⟩, ⟨(.aop (.mov (.slot 34))), (some 8), none⟩]⟩ .skip (some ⟨[⟨(.aop (.mov (.slot 8))), (some 35), none⟩, ⟨(.aop (.mov (.slot 1))), (some 36), none⟩, ⟨(.aop (.bin .lss (.slot 35) (.slot 36))), (some 37), none⟩], (.slot 37), [⟨(.aop (.load1 (.slot 3))), (some 38), none⟩, ⟨(.aop (.nilCheck (.slot 38))), (some 39), none⟩, ⟨(.aop (.fieldAddr 3 (.slot 39))), (some 40), none⟩, ⟨(.aop (.load1 (.slot 40))), (some 41), none⟩, ⟨(.aop (.mov (.slot 8))), (some 42), none⟩], (.slot 41), (.slot 42), [.int], none⟩)) (.seq (.seq (.reg [⟨(.aop (.mov (.slot 1))), (some 43), none⟩, ⟨(.aop (.mov (.slot 2))), (some 44), none⟩, ⟨(.call (.lit (.fn (.func 161) [] [])) [(.slot 43), (.slot 44)]), (some 45), none⟩]) (.block 2 (.rfun (.slot 45) [46] (.reg [⟨(.aop (.mov (.slot 46))), (some 9), none⟩]) (.block 3 (.reg [⟨(.aop (.load1 (.slot 3))), (some 47), none⟩, ⟨(.aop (.nilCheck (.slot 47))), (some 48), none⟩, ⟨(.aop (.fieldAddr 3 (.slot 48))), (some 49), none⟩, ⟨(.aop (.load1 (.slot 49))), (some 50), none⟩, ⟨(.aop (.mov (.slot 9))), (some 51), none⟩, ⟨(.aop (.ext (.mapDel true [.int]) [(.slot 50), (.slot 51)])), none, none⟩]))))) (.seq (.reg [⟨(.aop (.mov (.slot 7))), (some 52), none⟩, ⟨(.aop (.load1 (.slot 3))), (some 53), none⟩, ⟨(.aop (.nilCheck (.slot 53))), (some 54), none⟩, ⟨(.aop (.fieldAddr 3 (.slot 54))), (some 55), none⟩, ⟨(.aop (.load1 (.slot 55))), (some 56), none⟩, ⟨(.aop (.rd .lenMap [(.slot 56)])), (some 57), none⟩, ⟨(.aop (.bin .sub (.slot 52) (.slot 57))), (some 58), none⟩, ⟨(.aop (.mov (.slot 58))), (some 6), none⟩]) .ret))))))
theorem comp72 : (V2.compC Tryz.prog 6 Tryz.f72.ntmps (fun _ => false) (Tryz.f72.body.getD .skip), V2.compR Tryz.prog Tryz.f72.results.toList) = (some c72, some [(.tmp 6)]) := by kernel_rfl
theorem body72 : Tryz.f72.body = some (Tryz.f72.body.getD .skip) := by kernel_rfl
noncomputable def c80 : ACode := (.seq (.reg [⟨(.aop (.mov (.lit .nilsl))), (some 4), none⟩]) (.seq (.seq (.reg [⟨(.aop (.mov (.slot 0))), (some 10), none⟩, ⟨(.call (.lit (.fn (.func 159) [] [])) [(.slot 10)]), (some 11), none⟩]) (.cond (.slot 11) (.seq (.reg [⟨(.aop (.mov (.lit .nilsl))), (some 4), none⟩]) .ret) .skip)) (.seq (.reg [⟨(.aop (.mov (.slot 1))), (some 12), none⟩, ⟨(.aop (.pur .minI [(.slot 12), (.lit (.int .i64 (1099511627776)))])), (some 13), none⟩, ⟨(.aop (.pur .maxI [(.slot 13), (.lit (.int .i64 (0)))])), (some 14), none⟩, ⟨(.aop (.mov (.slot 14))), (some 1), none⟩]) (.seq (.reg [⟨(.aop (.mov (.lit .nilsl))), (some 5), none⟩]) (.seq (.seq (.reg [⟨(.aop (.mov (.slot 0))), (some 15), none⟩, ⟨(.aop (.nilCheck (.slot 15))), (some 16), none⟩, ⟨(.aop (.fieldAddr 3 (.slot 16))), (some 17), none⟩, ⟨(.aop (.load1 (.slot 17))), (some 18), none⟩, ⟨(.call (.lit (.fn (.func 169) [] [])) [(.slot 18)]), (some 19), none⟩, ⟨(.call (.lit (.fn (.func 168) [] [])) [(.slot 19)]), (some 20), none⟩, ⟨(.aop (.lenSl (.slot 20))), (some 21), none⟩, ⟨(.aop (.mov (.lit (.int .i64 (0))))), (some 22), none⟩]) (.block 0 (.loop (.seq (.reg [⟨(.aop (.bin .lss (.slot 22) (.slot 21))), (some 23), none⟩]) (.seq (.cond (.slot 23) .skip (.exit 0)) (.seq (.block 1 (.seq (.reg [⟨(.aop (.idxSl 1 (.slot 20) (.slot 22))), (some 24), none⟩, ⟨(.aop (.load1 (.slot 24))), (some 25), none⟩, ⟨(.aop (.mov (.slot 25))), (some 7), none⟩]) (.seq (.reg [⟨(.aop (.mov (.slot 0))), (some 26), none⟩, ⟨(.aop (.nilCheck (.slot 26))), (some 27), none⟩, ⟨(.aop (.fieldAddr 3 (.slot 27))), (some 28), none⟩, ⟨(.aop (.load1 (.slot 28))), (some 29), none⟩, ⟨(.aop (.mov (.slot 7))), (some 30), none⟩, ⟨(.aop (.rd (.lookup true [.int] false (.agg [(.int .u32 (0)), .nilsl, (.int .i64 (0)), (.int .i64 (0))])) [(.slot 29), (.slot 30)])), (some 31), none⟩, ⟨(.aop (.alloc 262 [(.int .u32 (0)), .nilsl, (.int .i64 (0)), (.int .i64 (0))])), (some 8), none⟩, ⟨(.aop (.store 4 (.slot 8) (.slot 31))), none, none⟩]) (.seq (.seq (.reg [⟨(.aop (.fieldAddr 3 (.slot 8))), (some 32), none⟩, ⟨(.aop (.load1 (.slot 32))), (some 33), none⟩, ⟨(.aop (.mov (.slot 1))), (some 34), none⟩, ⟨(.aop (.bin .gtr (.slot 33) (.slot 34))), (some 35), none⟩]) (.cond (.slot 35) (.exit 1) .skip)) (.seq (.reg [⟨(.aop (.fieldAddr 0 (.slot 8))), (some 36), none⟩, ⟨(.aop (.fieldAddr 2 (.slot 36))), (some 37), none⟩, ⟨(.aop (.load1 (.slot 37))), (some 38), none⟩, ⟨(.aop (.bin .add (.slot 38) (.lit (.int .i64 (1))))), (some 39), none⟩, ⟨(.aop (.fieldAddr 0 (.slot 8))), (some 40), none⟩, ⟨(.aop (.fieldAddr 2 (.slot 40))), (some 41), none⟩, ⟨(.aop (.store 1 (.slot 41) (.slot 39))), none, none⟩]) (.seq (.reg [⟨(.aop (.mov (.slot 1))), (some 42), none⟩, ⟨(.aop (.mov (.slot 0))), (some 43), none⟩, ⟨(.aop (.fieldAddr 0 (.slot 8))), (some 44), none⟩, ⟨(.aop (.fieldAddr 2 (.slot 44))), (some 45), none⟩, ⟨(.aop (.load1 (.slot 45))), (some 46), none⟩, ⟨(.call (.lit (.fn (.func 170) [] [])) [(.slot 43), (.slot 46)]), (some 47), none⟩, ⟨(.aop (.bin .add (.slot 42) (.slot 47))), (some 48), none⟩, ⟨(.aop (.fieldAddr 3 (.slot 8))), (some 49), none⟩, ⟨(.aop (.store 1 (.slot 49) (.slot 48))), none, none⟩]) (.seq (.regd [(0, ⟨(.aop (.mov (.slot 0))), (some 50), none⟩), (1, ⟨(.aop (.nilCheck (.op 0))), (some 51), none⟩), (2, ⟨(.aop (.fieldAddr 3 (.op 1))), (some 52), none⟩), (3, ⟨(.aop (.load1 (.op 2))), (some 53), none⟩), (4, ⟨(.aop (.mov (.slot 7))), (some 54), none⟩), (5, ⟨(.aop (.loadN 4 (.slot 8))), (some 55), none⟩), (6, ⟨(.aop (.ext (.mapUpd true [.int]) [(.op 3), (.op 4), (.op 5)])), none, none⟩)] [] [(some 50), (some 51), (some 52), (some 53), (some 54), (some 55), none]) (.seq (.reg [⟨(.aop (.fieldAddr 0 (.slot 8))), (some 56), none⟩, ⟨(.aop (.loadN 3 (.slot 56))), (some 57), none⟩, ⟨(.aop (.alloc 150 [(.int .u32 (0)), .nilsl, (.int .i64 (0))])), (some 9), none⟩, ⟨(.aop (.store 3 (.slot 9) (.slot 57))), none, none⟩]) (.seq (.reg [⟨(.aop (.fieldAddr 1 (.slot 9))), (some 58), none⟩, ⟨(.aop (.load1 (.slot 58))), (some 59), none⟩, ⟨(.call (.lit (.fn (.func 142) [] [])) [(.slot 59)]), (some 60), none⟩, ⟨(.aop (.fieldAddr 1 (.slot 9))), (some 61), none⟩, ⟨(.aop (.store 1 (.slot 61) (.slot 60))), none, none⟩]) (.reg [⟨(.aop (.mov (.slot 5))), (some 62), none⟩, ⟨(.aop (.loadN 3 (.slot 9))), (some 63), none⟩, ⟨(.aop (.mk (.bslice 150 3 1) [(.slot 63)])), (some 64), none⟩, ⟨(.aop (.ext (.append 150 false 3) [(.slot 62), (.slot 64)])), (some 65), none⟩, ⟨(.aop (.mov (.slot 65))), (some 5), none⟩])))))))))) (.reg [⟨(.aop (.bin .add (.slot 22) (.lit (.int .i64 (1))))), (some 66), none⟩, ⟨(.aop (.mov (.slot 66))), (some 22), none⟩]))))))) (.seq (.reg [⟨(.aop (.mov (.slot 5))), (some 67), none⟩, ⟨(.aop (.mov (.slot 67))), (some 4), none⟩]) .ret))))))
theorem comp80 : (V2.compC Tryz.prog 6 Tryz.f80.ntmps (fun _ => false) (Tryz.f80.body.getD .skip), V2.compR Tryz.prog Tryz.f80.results.toList) = (some c80, some [(.tmp 4)]) := by kernel_rfl
theorem body80 : Tryz.f80.body = some (Tryz.f80.body.getD .skip) := by kernel_rfl
end Go.Proofs.YtjgmpdklfcmelaaGreatDoor.V2
namespace Go.Proofs.YtjgmpdklfcmelaaGreatDoor.V2
open Go
noncomputable def c142 : ACode := (.seq (.reg [⟨(.aop (.mov (.lit .nilsl))), (some 2), none⟩]) (.seq (.seq (.reg [⟨(.aop (.mov (.slot 0))), (some 3), none⟩, ⟨(.aop (.pur (.eqv false .sl) [(.slot 3), (.lit .nilsl)])), (some 4), none⟩]) (.cond (.slot 4) (.seq (.reg [⟨(.aop (.mov (.lit .nilsl))), (some 2), none⟩]) .ret) .skip)) (.seq (.reg [⟨(.aop (.mk (.bslice 5 1 0) [])), (some 5), none⟩, ⟨(.aop (.mov (.slot 0))), (some 6), none⟩, ⟨(.aop (.ext (.append 5 false 1) [(.slot 5), (.slot 6)])), (some 7), none⟩, ⟨(.aop (.mov (.slot 7))), (some 2), none⟩]) .ret)))
theorem comp142 : (V2.compC Tryz.prog 6 Tryz.f142.ntmps (fun _ => false) (Tryz.f142.body.getD .skip), V2.compR Tryz.prog Tryz.f142.results.toList) = (some c142, some [(.tmp 2)]) := by kernel_rfl
theorem body142 : Tryz.f142.body = some (Tryz.f142.body.getD .skip) := by kernel_rfl
noncomputable def c159 : ACode := (.seq (.reg [⟨(.aop (.mov (.lit (.bool false)))), (some 2), none⟩]) (.seq (.reg [⟨(.aop (.mov (.slot 0))), (some 3), none⟩, ⟨(.aop (.pur (.eqv false .ptr) [(.slot 3), (.lit .nilptr)])), (some 4), none⟩, ⟨(.aop (.mov (.slot 4))), (some 5), none⟩, ⟨(.aop (.mov (.slot 0))), (some 6), (some ((.slot 5), false))⟩, ⟨(.aop (.nilCheck (.slot 6))), (some 7), (some ((.slot 5), false))⟩, ⟨(.aop (.fieldAddr 3 (.slot 7))), (some 8), (some ((.slot 5), false))⟩, ⟨(.aop (.load1 (.slot 8))), (some 9), (some ((.slot 5), false))⟩, ⟨(.aop (.pur (.eqv false .map) [(.slot 9), (.lit .nilmap)])), (some 10), (some ((.slot 5), false))⟩, ⟨(.aop (.pick (.slot 5) (.lit (.bool true)) (.slot 10))), (some 11), none⟩, ⟨(.aop (.mov (.slot 11))), (some 2), none⟩]) .ret))
theorem comp159 : (V2.compC Tryz.prog 6 Tryz.f159.ntmps (fun _ => false) (Tryz.f159.body.getD .skip), V2.compR Tryz.prog Tryz.f159.results.toList) = (some c159, some [(.tmp 2)]) := by kernel_rfl
theorem body159 : Tryz.f159.body = some (Tryz.f159.body.getD .skip) := by kernel_rfl
noncomputable def c160 : ACode := (.seq (.reg [⟨(.aop (.mov (.lit (.int .u32 (0))))), (some 2), none⟩]) (.seq (.seq (.reg [⟨(.aop (.mov (.slot 0))), (some 3), none⟩, ⟨(.call (.lit (.fn (.func 229) [] [])) [(.slot 3)]), (some 4), none⟩]) (.cond (.slot 4) (.seq (.reg [⟨(.aop (.mov (.lit (.int .u32 (0))))), (some 2), none⟩]) .ret) .skip)) (.seq (.reg [⟨(.aop (.mov (.slot 0))), (some 5), none⟩, ⟨(.aop (.nilCheck (.slot 5))), (some 6), none⟩, ⟨(.aop (.fieldAddr 0 (.slot 6))), (some 7), none⟩, ⟨(.aop (.load1 (.slot 7))), (some 8), none⟩, ⟨(.aop (.mov (.slot 8))), (some 2), none⟩]) .ret)))
theorem comp160 : (V2.compC Tryz.prog 6 Tryz.f160.ntmps (fun _ => false) (Tryz.f160.body.getD .skip), V2.compR Tryz.prog Tryz.f160.results.toList) = (some c160, some [(.tmp 2)]) := by kernel_rfl
theorem body160 : Tryz.f160.body = some (Tryz.f160.body.getD .skip) := by kernel_rfl
noncomputable def c161 : ACode := (.seq (.reg [⟨(.aop (.box 23 (.slot 0))), (some 2), none⟩, ⟨(.aop (.box 23 (.slot 1))), (some 3), none⟩, ⟨(.aop (.mov (.lit .nilfn))), (some 4), none⟩]) (.seq (.reg [⟨(.aop (.load1 (.slot 2))), (some 5), none⟩, ⟨(.call (.lit (.fn (.func 231) [] [])) [(.slot 5)]), (some 6), none⟩, ⟨(.aop (.pur (.mkFn (.func 232) 0) [(.slot 3), (.slot 2)])), (some 7), none⟩, ⟨(.call (.lit (.fn (.func 230) [] [])) [(.slot 6), (.slot 7)]), (some 8), none⟩, ⟨(.aop (.mov (.slot 8))), (some 4), none⟩]) .ret))
theorem comp161 : (V2.compC Tryz.prog 6 Tryz.f161.ntmps (fun _ => false) (Tryz.f161.body.getD .skip), V2.compR Tryz.prog Tryz.f161.results.toList) = (some c161, some [(.tmp 4)]) := by kernel_rfl
theorem body161 : Tryz.f161.body = some (Tryz.f161.body.getD .skip) := by kernel_rfl
noncomputable def c169 : ACode := (.seq (.reg [⟨(.aop (.box 249 (.slot 0))), (some 1), none⟩, ⟨(.aop (.mov (.lit .nilfn))), (some 2), none⟩]) (.seq (.reg [⟨(.aop (.pur (.mkFn (.func 237) 0) [(.slot 1)])), (some 3), none⟩, ⟨(.aop (.mov (.slot 3))), (some 2), none⟩]) .ret))
theorem comp169 : (V2.compC Tryz.prog 6 Tryz.f169.ntmps (fun _ => false) (Tryz.f169.body.getD .skip), V2.compR Tryz.prog Tryz.f169.results.toList) = (some c169, some [(.tmp 2)]) := by kernel_rfl
theorem body169 : Tryz.f169.body = some (Tryz.f169.body.getD .skip) := by kernel_rfl
noncomputable def c170 : ACode := (.seq (.reg [⟨(.aop (.mov (.lit (.int .i64 (0))))), (some 4), none⟩]) (.seq (.reg [⟨(.aop (.mov (.slot 0))), (some 6), none⟩, ⟨(.aop (.nilCheck (.slot 6))), (some 7), none⟩, ⟨(.aop (.fieldAddr 1 (.slot 7))), (some 8), none⟩, ⟨(.aop (.load1 (.slot 8))), (some 9), none⟩, ⟨(.aop (.mov (.slot 9))), (some 5), none⟩]) (.seq (.block 0 (.loop (.seq (.seq (.reg [⟨(.aop (.mov (.slot 1))), (some 10), none⟩, ⟨(.aop (.bin .gtr (.slot 10) (.lit (.int .i64 (1))))), (some 11), none⟩, ⟨(.aop (.mov (.slot 11))), (some 12), none⟩, ⟨(.aop (.mov (.slot 5))), (some 13), (some ((.slot 12), true))⟩, ⟨(.aop (.mov (.slot 0))), (some 14), (some ((.slot 12), true))⟩, ⟨(.aop (.nilCheck (.slot 14))), (some 15), (some ((.slot 12), true))⟩, ⟨(.aop (.fieldAddr 2 (.slot 15))), (some 16), (some ((.slot 12), true))⟩, ⟨(.aop (.load1 (.slot 16))), (some 17), (some ((.slot 12), true))⟩, ⟨(.aop (.bin .lss (.slot 13) (.slot 17))), (some 18), (some ((.slot 12), true))⟩, ⟨(.aop (.pick (.slot 12) (.slot 18) (.lit (.bool false)))), (some 19), none⟩]) (.cond (.slot 19) .skip (.exit 0))) (.seq (.block 1 (.reg [⟨(.aop (.mov (.slot 5))), (some 22), none⟩, ⟨(.aop (.bin .mul (.slot 22) (.lit (.int .i64 (2))))), (some 23), none⟩, ⟨(.aop (.mov (.slot 23))), (some 5), none⟩])) (.reg [⟨(.aop (.mov (.slot 1))), (some 20), none⟩, ⟨(.aop (.bin .sub (.slot 20) (.lit (.int .i64 (1))))), (some 21), none⟩, ⟨(.aop (.mov (.slot 21))), (some 1), none⟩]))))) (.seq (.reg [⟨(.aop (.mov (.slot 5))), (some 24), none⟩, ⟨(.aop (.mov (.slot 0))), (some 25), none⟩, ⟨(.aop (.nilCheck (.slot 25))), (some 26), none⟩, ⟨(.aop (.fieldAddr 2 (.slot 26))), (some 27), none⟩, ⟨(.aop (.load1 (.slot 27))), (some 28), none⟩, ⟨(.aop (.pur .minI [(.slot 24), (.slot 28)])), (some 29), none⟩, ⟨(.aop (.mov (.slot 29))), (some 4), none⟩]) .ret))))
theorem comp170 : (V2.compC Tryz.prog 6 Tryz.f170.ntmps (fun _ => false) (Tryz.f170.body.getD .skip), V2.compR Tryz.prog Tryz.f170.results.toList) = (some c170, some [(.tmp 4)]) := by kernel_rfl
theorem body170 : Tryz.f170.body = some (Tryz.f170.body.getD .skip) := by kernel_rfl
end Go.Proofs.YtjgmpdklfcmelaaGreatDoor.V2
namespace Go.Proofs.YtjgmpdklfcmelaaGreatDoor.V2
open Go
noncomputable def c229 : ACode := (.seq (.reg [⟨(.aop (.mov (.lit (.bool false)))), (some 2), none⟩]) (.seq (.reg [⟨(.aop (.mov (.slot 0))), (some 3), none⟩, ⟨(.aop (.pur (.eqv false .ptr) [(.slot 3), (.lit .nilptr)])), (some 4), none⟩, ⟨(.aop (.mov (.slot 4))), (some 5), none⟩, ⟨(.aop (.mov (.slot 0))), (some 6), (some ((.slot 5), false))⟩, ⟨(.aop (.nilCheck (.slot 6))), (some 7), (some ((.slot 5), false))⟩, ⟨(.aop (.fieldAddr 1 (.slot 7))), (some 8), (some ((.slot 5), false))⟩, ⟨(.aop (.load1 (.slot 8))), (some 9), (some ((.slot 5), false))⟩, ⟨(.aop (.bin .eql (.slot 9) (.lit (.int .u32 (0))))), (some 10), (some ((.slot 5), false))⟩, ⟨(.aop (.pick (.slot 5) (.lit (.bool true)) (.slot 10))), (some 11), none⟩, ⟨(.aop (.mov (.slot 11))), (some 2), none⟩]) .ret))
theorem comp229 : (V2.compC Tryz.prog 6 Tryz.f229.ntmps (fun _ => false) (Tryz.f229.body.getD .skip), V2.compR Tryz.prog Tryz.f229.results.toList) = (some c229, some [(.tmp 2)]) := by kernel_rfl
theorem body229 : Tryz.f229.body = some (Tryz.f229.body.getD .skip) := by kernel_rfl
noncomputable def c230 : ACode := (.seq (.reg [⟨(.aop (.box 252 (.slot 0))), (some 2), none⟩, ⟨(.aop (.box 257 (.slot 1))), (some 3), none⟩, ⟨(.aop (.mov (.lit .nilfn))), (some 4), none⟩]) (.seq (.reg [⟨(.aop (.pur (.mkFn (.func 261) 0) [(.slot 2), (.slot 3)])), (some 5), none⟩, ⟨(.aop (.mov (.slot 5))), (some 4), none⟩]) .ret))
theorem comp230 : (V2.compC Tryz.prog 6 Tryz.f230.ntmps (fun _ => false) (Tryz.f230.body.getD .skip), V2.compR Tryz.prog Tryz.f230.results.toList) = (some c230, some [(.tmp 4)]) := by kernel_rfl
theorem body230 : Tryz.f230.body = some (Tryz.f230.body.getD .skip) := by kernel_rfl
noncomputable def c231 : ACode := (.seq (.reg [⟨(.aop (.box 23 (.slot 0))), (some 1), none⟩, ⟨(.aop (.mov (.lit .nilfn))), (some 2), none⟩]) (.seq (.reg [⟨(.aop (.pur (.mkFn (.func 262) 0) [(.slot 1)])), (some 3), none⟩, ⟨(.aop (.mov (.slot 3))), (some 2), none⟩]) .ret))
theorem comp231 : (V2.compC Tryz.prog 6 Tryz.f231.ntmps (fun _ => false) (Tryz.f231.body.getD .skip), V2.compR Tryz.prog Tryz.f231.results.toList) = (some c231, some [(.tmp 2)]) := by kernel_rfl
theorem body231 : Tryz.f231.body = some (Tryz.f231.body.getD .skip) := by kernel_rfl
noncomputable def c232 : ACode := (.seq (.reg [⟨(.aop (.mov (.lit (.bool false)))), (some 4), none⟩]) (.seq (.reg [⟨(.aop (.load1 (.slot 1))), (some 5), none⟩, ⟨(.aop (.mov (.slot 0))), (some 6), none⟩, ⟨(.aop (.load1 (.slot 2))), (some 7), none⟩, ⟨(.aop (.bin .sub (.slot 6) (.slot 7))), (some 8), none⟩, ⟨(.aop (.bin .sub (.slot 8) (.lit (.int .u32 (1))))), (some 9), none⟩, ⟨(.aop (.bin .shr (.slot 5) (.slot 9))), (some 10), none⟩, ⟨(.aop (.bin .and (.slot 10) (.lit (.int .u32 (1))))), (some 11), none⟩, ⟨(.aop (.bin .eql (.slot 11) (.lit (.int .u32 (1))))), (some 12), none⟩, ⟨(.aop (.mov (.slot 12))), (some 4), none⟩]) .ret))
theorem comp232 : (V2.compC Tryz.prog 6 Tryz.f232.ntmps (fun _ => false) (Tryz.f232.body.getD .skip), V2.compR Tryz.prog Tryz.f232.results.toList) = (some c232, some [(.tmp 4)]) := by kernel_rfl
theorem body232 : Tryz.f232.body = some (Tryz.f232.body.getD .skip) := by kernel_rfl
noncomputable def c236 : ACode := (.seq (.reg [⟨(.aop (.mov (.slot 0))), (some 3), none⟩, ⟨(.aop (.lenSl (.slot 3))), (some 4), none⟩, ⟨(.aop (.mov (.slot 4))), (some 2), none⟩]) (.reg [⟨(.aop (.mov (.slot 0))), (some 5), none⟩, ⟨(.aop (.mov (.slot 2))), (some 6), none⟩, ⟨(.aop (.mov (.slot 2))), (some 7), none⟩, ⟨(.aop (.conv .u64 (.slot 7))), (some 8), none⟩, ⟨(.call (.lit (.fn (.func 248) [] [])) [(.slot 8)]), (some 9), none⟩, ⟨(.call (.lit (.fn (.func 264) [] [])) [(.slot 5), (.lit (.int .i64 (0))), (.slot 6), (.slot 9)]), (some 10), none⟩]))
theorem comp236 : (V2.compC Tryz.prog 6 Tryz.f236.ntmps (fun _ => false) (Tryz.f236.body.getD .skip), V2.compR Tryz.prog Tryz.f236.results.toList) = (some c236, some []) := by kernel_rfl
theorem body236 : Tryz.f236.body = some (Tryz.f236.body.getD .skip) := by kernel_rfl
noncomputable def c248 : ACode := (.seq (.reg [⟨(.aop (.mov (.lit (.int .i64 (0))))), (some 2), none⟩]) (.seq (.cond (.lit (.bool false)) (.seq (.reg [⟨(.aop (.mov (.slot 0))), (some 3), none⟩, ⟨(.aop (.conv .u32 (.slot 3))), (some 4), none⟩, ⟨(.call (.lit (.fn (.func 280) [] [])) [(.slot 4)]), (some 5), none⟩, ⟨(.aop (.mov (.slot 5))), (some 2), none⟩]) .ret) .skip) (.seq (.reg [⟨(.aop (.mov (.slot 0))), (some 6), none⟩, ⟨(.call (.lit (.fn (.func 281) [] [])) [(.slot 6)]), (some 7), none⟩, ⟨(.aop (.mov (.slot 7))), (some 2), none⟩]) .ret)))
theorem comp248 : (V2.compC Tryz.prog 6 Tryz.f248.ntmps (fun _ => false) (Tryz.f248.body.getD .skip), V2.compR Tryz.prog Tryz.f248.results.toList) = (some c248, some [(.tmp 2)]) := by kernel_rfl
theorem body248 : Tryz.f248.body = some (Tryz.f248.body.getD .skip) := by kernel_rfl
noncomputable def c261 : ACode := (.seq (.reg [⟨(.aop (.box 257 (.slot 0))), (some 3), none⟩]) (.seq (.reg [⟨(.aop (.load1 (.slot 1))), (some 5), none⟩]) (.block 0 (.rfun (.slot 5) [6] (.reg [⟨(.aop (.mov (.slot 6))), (some 4), none⟩]) (.block 1 (.seq (.reg [⟨(.aop (.load1 (.slot 2))), (some 7), none⟩, ⟨(.aop (.mov (.slot 4))), (some 8), none⟩, ⟨(.call (.slot 7) [(.slot 8)]), (some 9), none⟩, ⟨(.aop (.mov (.slot 9))), (some 10), none⟩, ⟨(.aop (.load1 (.slot 3))), (some 11), (some ((.slot 10), true))⟩, ⟨(.aop (.mov (.slot 4))), (some 12), (some ((.slot 10), true))⟩, ⟨(.call (.slot 11) [(.slot 12)]), (some 13), (some ((.slot 10), true))⟩, ⟨(.aop (.un .not (.slot 13))), (some 14), (some ((.slot 10), true))⟩, ⟨(.aop (.pick (.slot 10) (.slot 14) (.lit (.bool false)))), (some 15), none⟩]) (.cond (.slot 15) .ret .skip)))))))
theorem comp261 : (V2.compC Tryz.prog 6 Tryz.f261.ntmps (fun _ => false) (Tryz.f261.body.getD .skip), V2.compR Tryz.prog Tryz.f261.results.toList) = (some c261, some []) := by kernel_rfl
theorem body261 : Tryz.f261.body = some (Tryz.f261.body.getD .skip) := by kernel_rfl
noncomputable def c262 : ACode := (.seq (.reg [⟨(.aop (.mov (.lit (.int .u32 (0))))), (some 5), none⟩]) (.block 0 (.loop (.seq (.reg [⟨(.aop (.bin .lss (.slot 5) (.lit (.int .u32 (32))))), (some 6), none⟩]) (.seq (.cond (.slot 6) .skip (.exit 0)) (.seq (.block 1 (.seq (.reg [⟨(.aop (.mov (.slot 5))), (some 7), none⟩, ⟨(.aop (.mov (.slot 7))), (some 3), none⟩]) (.seq (.reg [⟨(.aop (.load1 (.slot 1))), (some 8), none⟩, ⟨(.aop (.bin .add (.slot 8) (.lit (.int .u32 (1))))), (some 9), none⟩, ⟨(.aop (.mov (.slot 3))), (some 10), none⟩, ⟨(.aop (.bin .add (.slot 9) (.slot 10))), (some 11), none⟩, ⟨(.aop (.mov (.slot 11))), (some 4), none⟩]) (.seq (.reg [⟨(.aop (.mov (.slot 4))), (some 12), none⟩, ⟨(.aop (.load1 (.slot 1))), (some 13), none⟩, ⟨(.aop (.bin .leq (.slot 12) (.slot 13))), (some 14), none⟩, ⟨(.aop (.mov (.slot 14))), (some 15), none⟩, ⟨(.aop (.mov (.slot 0))), (some 16), (some ((.slot 15), false))⟩, ⟨(.aop (.mov (.slot 4))), (some 17), (some ((.slot 15), false))⟩, ⟨(.call (.slot 16) [(.slot 17)]), (some 18), (some ((.slot 15), false))⟩, ⟨(.aop (.un .not (.slot 18))), (some 19), (some ((.slot 15), false))⟩, ⟨(.aop (.pick (.slot 15) (.lit (.bool true)) (.slot 19))), (some 20), none⟩]) (.cond (.slot 20) .ret .skip))))) (.reg [⟨(.aop (.bin .add (.slot 5) (.lit (.int .u32 (1))))), (some 21), none⟩, ⟨(.aop (.mov (.slot 21))), (some 5), none⟩])))))))
theorem comp262 : (V2.compC Tryz.prog 6 Tryz.f262.ntmps (fun _ => false) (Tryz.f262.body.getD .skip), V2.compR Tryz.prog Tryz.f262.results.toList) = (some c262, some []) := by kernel_rfl
theorem body262 : Tryz.f262.body = some (Tryz.f262.body.getD .skip) := by kernel_rfl
noncomputable def c264 : ACode := (.seq (.reg [⟨(.aop (.mov (.lit (.bool true)))), (some 8), none⟩]) (.seq (.reg [⟨(.aop (.mov (.lit (.bool true)))), (some 9), none⟩]) (.block 0 (.loop (.block 1 (.seq (.reg [⟨(.aop (.mov (.slot 2))), (some 19), none⟩, ⟨(.aop (.mov (.slot 1))), (some 20), none⟩, ⟨(.aop (.bin .sub (.slot 19) (.slot 20))), (some 21), none⟩, ⟨(.aop (.mov (.slot 21))), (some 10), none⟩]) (.seq (.seq (.reg [⟨(.aop (.mov (.slot 10))), (some 22), none⟩, ⟨(.aop (.bin .leq (.slot 22) (.lit (.int .i64 (12))))), (some 23), none⟩]) (.cond (.slot 23) (.seq (.reg [⟨(.aop (.mov (.slot 0))), (some 24), none⟩, ⟨(.aop (.mov (.slot 1))), (some 25), none⟩, ⟨(.aop (.mov (.slot 2))), (some 26), none⟩, ⟨(.call (.lit (.fn (.func 288) [] [])) [(.slot 24), (.slot 25), (.slot 26)]), (some 27), none⟩]) .ret) .skip)) (.seq (.seq (.reg [⟨(.aop (.mov (.slot 3))), (some 28), none⟩, ⟨(.aop (.bin .eql (.slot 28) (.lit (.int .i64 (0))))), (some 29), none⟩]) (.cond (.slot 29) (.seq (.reg [⟨(.aop (.mov (.slot 0))), (some 30), none⟩, ⟨(.aop (.mov (.slot 1))), (some 31), none⟩, ⟨(.aop (.mov (.slot 2))), (some 32), none⟩, ⟨(.call (.lit (.fn (.func 289) [] [])) [(.slot 30), (.slot 31), (.slot 32)]), (some 33), none⟩]) .ret) .skip)) (.seq (.seq (.reg [⟨(.aop (.mov (.slot 8))), (some 34), none⟩, ⟨(.aop (.un .not (.slot 34))), (some 35), none⟩]) (.cond (.slot 35) (.seq (.reg [⟨(.aop (.mov (.slot 0))), (some 36), none⟩, ⟨(.aop (.mov (.slot 1))), (some 37), none⟩, ⟨(.aop (.mov (.slot 2))), (some 38), none⟩, ⟨(.call (.lit (.fn (.func 290) [] [])) [(.slot 36), (.slot 37), (.slot 38)]), (some 39), none⟩]) (.reg [⟨(.aop (.mov (.slot 3))), (some 40), none⟩, ⟨(.aop (.bin .sub (.slot 40) (.lit (.int .i64 (1))))), (some 41), none⟩, ⟨(.aop (.mov (.slot 41))), (some 3), none⟩])) .skip)) (.seq (.reg [⟨(.aop (.mov (.slot 0))), (some 43), none⟩, ⟨(.aop (.mov (.slot 1))), (some 44), none⟩, ⟨(.aop (.mov (.slot 2))), (some 45), none⟩, ⟨(.call (.lit (.fn (.func 291) [] [])) [(.slot 43), (.slot 44), (.slot 45)]), (some 46), none⟩, ⟨(.aop (.mov (.slot 46))), (some 42), none⟩, ⟨(.aop (.extract (.slot 42) 0)), (some 47), none⟩, ⟨(.aop (.extract (.slot 42) 1)), (some 48), none⟩, ⟨(.aop (.mov (.slot 47))), (some 11), none⟩, ⟨(.aop (.mov (.slot 48))), (some 12), none⟩]) (.seq (.seq (.reg [⟨(.aop (.mov (.slot 12))), (some 49), none⟩, ⟨(.aop (.bin .eql (.slot 49) (.lit (.int .i64 (2))))), (some 50), none⟩]) (.cond (.slot 50) (.seq (.reg [⟨(.aop (.mov (.slot 0))), (some 51), none⟩, ⟨(.aop (.mov (.slot 1))), (some 52), none⟩, ⟨(.aop (.mov (.slot 2))), (some 53), none⟩, ⟨(.call (.lit (.fn (.func 292) [] [])) [(.slot 51), (.slot 52), (.slot 53)]), (some 54), none⟩]) (.seq (.reg [⟨(.aop (.mov (.slot 2))), (some 55), none⟩, ⟨(.aop (.bin .sub (.slot 55) (.lit (.int .i64 (1))))), (some 56), none⟩, ⟨(.aop (.mov (.slot 11))), (some 57), none⟩, ⟨(.aop (.mov (.slot 1))), (some 58), none⟩, ⟨(.aop (.bin .sub (.slot 57) (.slot 58))), (some 59), none⟩, ⟨(.aop (.bin .sub (.slot 56) (.slot 59))), (some 60), none⟩, ⟨(.aop (.mov (.slot 60))), (some 11), none⟩]) (.reg [⟨(.aop (.mov (.lit (.int .i64 (1))))), (some 12), none⟩]))) .skip)) (.seq (.seq (.reg [⟨(.aop (.mov (.slot 8))), (some 61), none⟩, ⟨(.aop (.mov (.slot 61))), (some 62), none⟩, ⟨(.aop (.mov (.slot 9))), (some 63), (some ((.slot 62), true))⟩, ⟨(.aop (.pick (.slot 62) (.slot 63) (.lit (.bool false)))), (some 64), none⟩, ⟨(.aop (.mov (.slot 64))), (some 65), none⟩, ⟨(.aop (.mov (.slot 12))), (some 66), (some ((.slot 65), true))⟩, ⟨(.aop (.bin .eql (.slot 66) (.lit (.int .i64 (1))))), (some 67), (some ((.slot 65), true))⟩, ⟨(.aop (.pick (.slot 65) (.slot 67) (.lit (.bool false)))), (some 68), none⟩]) (.cond (.slot 68) (.seq (.reg [⟨(.aop (.mov (.slot 0))), (some 69), none⟩, ⟨(.aop (.mov (.slot 1))), (some 70), none⟩, ⟨(.aop (.mov (.slot 2))), (some 71), none⟩, ⟨(.call (.lit (.fn (.func 293) [] [])) [(.slot 69), (.slot 70), (.slot 71)]), (some 72), none⟩]) (.cond (.slot 72) .ret .skip)) .skip)) (.seq (.seq (.regd [(0, ⟨(.aop (.mov (.slot 1))), (some 73), none⟩), (1, ⟨(.aop (.bin .gtr (.op 0) (.lit (.int .i64 (0))))), (some 74), none⟩), (2, ⟨(.aop (.mov (.op 1))), (some 75), none⟩), (3, ⟨(.aop (.mov (.slot 0))), (some 76), (some ((.op 2), true))⟩), (4, ⟨(.aop (.mov (.slot 1))), (some 77), (some ((.op 2), true))⟩), (5, ⟨(.aop (.bin .sub (.op 4) (.lit (.int .i64 (1))))), (some 78), (some ((.op 2), true))⟩), (6, ⟨(.aop (.idxSl 1 (.op 3) (.op 5))), (some 79), (some ((.op 2), true))⟩), (7, ⟨(.aop (.load1 (.op 6))), (some 80), (some ((.op 2), true))⟩), (8, ⟨(.aop (.mov (.slot 0))), (some 81), (some ((.op 2), true))⟩), (9, ⟨(.aop (.mov (.slot 11))), (some 82), (some ((.op 2), true))⟩), (10, ⟨(.aop (.idxSl 1 (.op 8) (.op 9))), (some 83), (some ((.op 2), true))⟩), (11, ⟨(.aop (.load1 (.op 10))), (some 84), (some ((.op 2), true))⟩), (12, ⟨(.call (.lit (.fn (.func 294) [] [])) [(.op 7), (.op 11)]), (some 85), (some ((.op 2), true))⟩), (13, ⟨(.aop (.un .not (.op 12))), (some 86), (some ((.op 2), true))⟩), (14, ⟨(.aop (.pick (.op 2) (.op 13) (.lit (.bool false)))), (some 87), none⟩)] [] [(some 73), (some 74), (some 75), (some 76), (some 77), (some 78), (some 79), (some 80), (some 81), (some 82), (some 83), (some 84), (some 85), (some 86), (some 87)]) (.cond (.slot 87) (.seq (.reg [⟨(.aop (.mov (.slot 0))), (some 88), none⟩, ⟨(.aop (.mov (.slot 1))), (some 89), none⟩, ⟨(.aop (.mov (.slot 2))), (some 90), none⟩, ⟨(.aop (.mov (.slot 11))), (some 91), none⟩, ⟨(.call (.lit (.fn (.func 295) [] [])) [(.slot 88), (.slot 89), (.slot 90), (.slot 91)]), (some 92), none⟩, ⟨(.aop (.mov (.slot 92))), (some 13), none⟩]) (.seq (.reg [⟨(.aop (.mov (.slot 13))), (some 93), none⟩, ⟨(.aop (.mov (.slot 93))), (some 1), none⟩]) (.exit 1))) .skip)) (.seq (.reg [⟨(.aop (.mov (.slot 0))), (some 95), none⟩, ⟨(.aop (.mov (.slot 1))), (some 96), none⟩, ⟨(.aop (.mov (.slot 2))), (some 97), none⟩, ⟨(.aop (.mov (.slot 11))), (some 98), none⟩, ⟨(.call (.lit (.fn (.func 296) [] [])) [(.slot 95), (.slot 96), (.slot 97), (.slot 98)]), (some 99), none⟩, ⟨(.aop (.mov (.slot 99))), (some 94), none⟩, ⟨(.aop (.extract (.slot 94) 0)), (some 100), none⟩, ⟨(.aop (.extract (.slot 94) 1)), (some 101), none⟩, ⟨(.aop (.mov (.slot 100))), (some 14), none⟩, ⟨(.aop (.mov (.slot 101))), (some 15), none⟩]) (.seq (.reg [⟨(.aop (.mov (.slot 15))), (some 102), none⟩, ⟨(.aop (.mov (.slot 102))), (some 9), none⟩]) (.seq (.reg [⟨(.aop (.mov (.slot 14))), (some 103), none⟩, ⟨(.aop (.mov (.slot 1))), (some 104), none⟩, ⟨(.aop (.bin .sub (.slot 103) (.slot 104))), (some 105), none⟩, ⟨(.aop (.mov (.slot 2))), (some 106), none⟩, ⟨(.aop (.mov (.slot 14))), (some 107), none⟩, ⟨(.aop (.bin .sub (.slot 106) (.slot 107))), (some 108), none⟩, ⟨(.aop (.mov (.slot 105))), (some 16), none⟩, ⟨(.aop (.mov (.slot 108))), (some 17), none⟩]) (.seq (.reg [⟨(.aop (.mov (.slot 10))), (some 109), none⟩, ⟨(.aop (.bin .quo (.slot 109) (.lit (.int .i64 (8))))), (some 110), none⟩, ⟨(.aop (.mov (.slot 110))), (some 18), none⟩]) (.seq (.reg [⟨(.aop (.mov (.slot 16))), (some 111), none⟩, ⟨(.aop (.mov (.slot 17))), (some 112), none⟩, ⟨(.aop (.bin .lss (.slot 111) (.slot 112))), (some 113), none⟩]) (.cond (.slot 113) (.seq (.reg [⟨(.aop (.mov (.slot 16))), (some 114), none⟩, ⟨(.aop (.mov (.slot 18))), (some 115), none⟩, ⟨(.aop (.bin .geq (.slot 114) (.slot 115))), (some 116), none⟩, ⟨(.aop (.mov (.slot 116))), (some 8), none⟩]) (.seq (.reg [⟨(.aop (.mov (.slot 0))), (some 117), none⟩, ⟨(.aop (.mov (.slot 1))), (some 118), none⟩, ⟨(.aop (.mov (.slot 14))), (some 119), none⟩, ⟨(.aop (.mov (.slot 3))), (some 120), none⟩, ⟨(.call (.lit (.fn (.func 264) [] [])) [(.slot 117), (.slot 118), (.slot 119), (.slot 120)]), (some 121), none⟩]) (.reg [⟨(.aop (.mov (.slot 14))), (some 122), none⟩, ⟨(.aop (.bin .add (.slot 122) (.lit (.int .i64 (1))))), (some 123), none⟩, ⟨(.aop (.mov (.slot 123))), (some 1), none⟩]))) (.seq (.reg [⟨(.aop (.mov (.slot 17))), (some 124), none⟩, ⟨(.aop (.mov (.slot 18))), (some 125), none⟩, ⟨(.aop (.bin .geq (.slot 124) (.slot 125))), (some 126), none⟩, ⟨(.aop (.mov (.slot 126))), (some 8), none⟩]) (.seq (.reg [⟨(.aop (.mov (.slot 0))), (some 127), none⟩, ⟨(.aop (.mov (.slot 14))), (some 128), none⟩, ⟨(.aop (.bin .add (.slot 128) (.lit (.int .i64 (1))))), (some 129), none⟩, ⟨(.aop (.mov (.slot 2))), (some 130), none⟩, ⟨(.aop (.mov (.slot 3))), (some 131), none⟩, ⟨(.call (.lit (.fn (.func 264) [] [])) [(.slot 127), (.slot 129), (.slot 130), (.slot 131)]), (some 132), none⟩]) (.reg [⟨(.aop (.mov (.slot 14))), (some 133), none⟩, ⟨(.aop (.mov (.slot 133))), (some 2), none⟩]))))))))))))))))))))))
theorem comp264 : (V2.compC Tryz.prog 6 Tryz.f264.ntmps (fun _ => false) (Tryz.f264.body.getD .skip), V2.compR Tryz.prog Tryz.f264.results.toList) = (some c264, some []) := by kernel_rfl
theorem body264 : Tryz.f264.body = some (Tryz.f264.body.getD .skip) := by kernel_rfl
noncomputable def c281 : ACode := (.seq (.reg [⟨(.aop (.mov (.lit (.int .i64 (0))))), (some 2), none⟩]) (.seq (.seq (.reg [⟨(.aop (.mov (.slot 0))), (some 3), none⟩, ⟨(.aop (.bin .geq (.slot 3) (.lit (.int .u64 (4294967296))))), (some 4), none⟩]) (.cond (.slot 4) (.seq (.reg [⟨(.aop (.mov (.slot 0))), (some 5), none⟩, ⟨(.aop (.bin .shr (.slot 5) (.lit (.int .u64 (32))))), (some 6), none⟩, ⟨(.aop (.mov (.slot 6))), (some 0), none⟩]) (.reg [⟨(.aop (.mov (.lit (.int .i64 (32))))), (some 2), none⟩])) .skip)) (.seq (.seq (.reg [⟨(.aop (.mov (.slot 0))), (some 7), none⟩, ⟨(.aop (.bin .geq (.slot 7) (.lit (.int .u64 (65536))))), (some 8), none⟩]) (.cond (.slot 8) (.seq (.reg [⟨(.aop (.mov (.slot 0))), (some 9), none⟩, ⟨(.aop (.bin .shr (.slot 9) (.lit (.int .u64 (16))))), (some 10), none⟩, ⟨(.aop (.mov (.slot 10))), (some 0), none⟩]) (.reg [⟨(.aop (.mov (.slot 2))), (some 11), none⟩, ⟨(.aop (.bin .add (.slot 11) (.lit (.int .i64 (16))))), (some 12), none⟩, ⟨(.aop (.mov (.slot 12))), (some 2), none⟩])) .skip)) (.seq (.seq (.reg [⟨(.aop (.mov (.slot 0))), (some 13), none⟩, ⟨(.aop (.bin .geq (.slot 13) (.lit (.int .u64 (256))))), (some 14), none⟩]) (.cond (.slot 14) (.seq (.reg [⟨(.aop (.mov (.slot 0))), (some 15), none⟩, ⟨(.aop (.bin .shr (.slot 15) (.lit (.int .u64 (8))))), (some 16), none⟩, ⟨(.aop (.mov (.slot 16))), (some 0), none⟩]) (.reg [⟨(.aop (.mov (.slot 2))), (some 17), none⟩, ⟨(.aop (.bin .add (.slot 17) (.lit (.int .i64 (8))))), (some 18), none⟩, ⟨(.aop (.mov (.slot 18))), (some 2), none⟩])) .skip)) (.seq (.reg [⟨(.aop (.mov (.slot 2))), (some 19), none⟩, ⟨(.aop (.mov (.slot 0))), (some 20), none⟩, ⟨(.aop (.conv .u8 (.slot 20))), (some 21), none⟩, ⟨(.aop (.pur .idxStr [(.lit (.str [0, 1, 2, 2, 3, 3, 3, 3, 4, 4, 4, 4, 4, 4, 4, 4, 5, 5, 5, 5, 5, 5, 5, 5, 5, 5, 5, 5, 5, 5, 5, 5, 6, 6, 6, 6, 6, 6, 6, 6, 6, 6, 6, 6, 6, 6, 6, 6, 6, 6, 6, 6, 6, 6, 6, 6, 6, 6, 6, 6, 6, 6, 6, 6, 7, 7, 7, 7, 7, 7, 7, 7, 7, 7, 7, 7, 7, 7, 7, 7, 7, 7, 7, 7, 7, 7, 7, 7, 7, 7, 7, 7, 7, 7, 7, 7, 7, 7, 7, 7, 7, 7, 7, 7, 7, 7, 7, 7, 7, 7, 7, 7, 7, 7, 7, 7, 7, 7, 7, 7, 7, 7, 7, 7, 7, 7, 7, 7, 8, 8, 8, 8, 8, 8, 8, 8, 8, 8, 8, 8, 8, 8, 8, 8, 8, 8, 8, 8, 8, 8, 8, 8, 8, 8, 8, 8, 8, 8, 8, 8, 8, 8, 8, 8, 8, 8, 8, 8, 8, 8, 8, 8, 8, 8, 8, 8, 8, 8, 8, 8, 8, 8, 8, 8, 8, 8, 8, 8, 8, 8, 8, 8, 8, 8, 8, 8, 8, 8, 8, 8, 8, 8, 8, 8, 8, 8, 8, 8, 8, 8, 8, 8, 8, 8, 8, 8, 8, 8, 8, 8, 8, 8, 8, 8, 8, 8, 8, 8, 8, 8, 8, 8, 8, 8, 8, 8, 8, 8, 8, 8, 8, 8, 8, 8, 8, 8, 8, 8, 8, 8, 8, 8, 8, 8, 8, 8])), (.slot 21)])), (some 22), none⟩, ⟨(.aop (.conv .i64 (.slot 22))), (some 23), none⟩, ⟨(.aop (.bin .add (.slot 19) (.slot 23))), (some 24), none⟩, ⟨(.aop (.mov (.slot 24))), (some 2), none⟩]) .ret)))))
theorem comp281 : (V2.compC Tryz.prog 6 Tryz.f281.ntmps (fun _ => false) (Tryz.f281.body.getD .skip), V2.compR Tryz.prog Tryz.f281.results.toList) = (some c281, some [(.tmp 2)]) := by kernel_rfl
theorem body281 : Tryz.f281.body = some (Tryz.f281.body.getD .skip) := by kernel_rfl
noncomputable def c288 : ACode := (.seq (.reg [⟨(.aop (.mov (.slot 1))), (some 8), none⟩, ⟨(.aop (.bin .add (.slot 8) (.lit (.int .i64 (1))))), (some 9), none⟩, ⟨(.aop (.mov (.slot 9))), (some 6), none⟩]) (.block 0 (.loop (.seq (.seq (.reg [⟨(.aop (.mov (.slot 6))), (some 10), none⟩, ⟨(.aop (.mov (.slot 2))), (some 11), none⟩, ⟨(.aop (.bin .lss (.slot 10) (.slot 11))), (some 12), none⟩]) (.cond (.slot 12) .skip (.exit 0))) (.seq (.block 1 (.seq (.reg [⟨(.aop (.mov (.slot 6))), (some 15), none⟩, ⟨(.aop (.mov (.slot 15))), (some 7), none⟩]) (.block 2 (.loop (.seq (.seq (.regd [(0, ⟨(.aop (.mov (.slot 7))), (some 16), none⟩), (1, ⟨(.aop (.mov (.slot 1))), (some 17), none⟩), (2, ⟨(.aop (.bin .gtr (.op 0) (.op 1))), (some 18), none⟩), (3, ⟨(.aop (.mov (.op 2))), (some 19), none⟩), (4, ⟨(.aop (.mov (.slot 0))), (some 20), (some ((.op 3), true))⟩), (5, ⟨(.aop (.mov (.slot 7))), (some 21), (some ((.op 3), true))⟩), (6, ⟨(.aop (.idxSl 1 (.op 4) (.op 5))), (some 22), (some ((.op 3), true))⟩), (7, ⟨(.aop (.load1 (.op 6))), (some 23), (some ((.op 3), true))⟩), (8, ⟨(.aop (.mov (.slot 0))), (some 24), (some ((.op 3), true))⟩), (9, ⟨(.aop (.mov (.slot 7))), (some 25), (some ((.op 3), true))⟩), (10, ⟨(.aop (.bin .sub (.op 9) (.lit (.int .i64 (1))))), (some 26), (some ((.op 3), true))⟩), (11, ⟨(.aop (.idxSl 1 (.op 8) (.op 10))), (some 27), (some ((.op 3), true))⟩), (12, ⟨(.aop (.load1 (.op 11))), (some 28), (some ((.op 3), true))⟩), (13, ⟨(.call (.lit (.fn (.func 294) [] [])) [(.op 7), (.op 12)]), (some 29), (some ((.op 3), true))⟩), (14, ⟨(.aop (.pick (.op 3) (.op 13) (.lit (.bool false)))), (some 30), none⟩)] [] [(some 16), (some 17), (some 18), (some 19), (some 20), (some 21), (some 22), (some 23), (some 24), (some 25), (some 26), (some 27), (some 28), (some 29), (some 30)]) (.cond (.slot 30) .skip (.exit 2))) (.seq (.block 3 (.regd [(0, ⟨(.aop (.mov (.slot 0))), (some 33), none⟩), (1, ⟨(.aop (.mov (.slot 7))), (some 34), none⟩), (2, ⟨(.aop (.mov (.slot 0))), (some 35), none⟩), (3, ⟨(.aop (.mov (.slot 7))), (some 36), none⟩), (4, ⟨(.aop (.bin .sub (.op 3) (.lit (.int .i64 (1))))), (some 37), none⟩), (5, ⟨(.aop (.mov (.slot 0))), (some 38), none⟩), (6, ⟨(.aop (.mov (.slot 7))), (some 39), none⟩), (7, ⟨(.aop (.bin .sub (.op 6) (.lit (.int .i64 (1))))), (some 40), none⟩), (8, ⟨(.aop (.idxSl 1 (.op 5) (.op 7))), (some 41), none⟩), (9, ⟨(.aop (.load1 (.op 8))), (some 42), none⟩), (10, ⟨(.aop (.mov (.slot 0))), (some 43), none⟩), (11, ⟨(.aop (.mov (.slot 7))), (some 44), none⟩), (12, ⟨(.aop (.idxSl 1 (.op 10) (.op 11))), (some 45), none⟩), (13, ⟨(.aop (.load1 (.op 12))), (some 46), none⟩), (14, ⟨(.aop (.idxSl 1 (.op 0) (.op 1))), (some 47), none⟩), (15, ⟨(.aop (.store 1 (.op 14) (.op 9))), none, none⟩), (16, ⟨(.aop (.idxSl 1 (.op 2) (.op 4))), (some 48), none⟩), (17, ⟨(.aop (.store 1 (.op 16) (.op 13))), none, none⟩)] [] [(some 33), (some 34), (some 35), (some 36), (some 37), (some 38), (some 39), (some 40), (some 41), (some 42), (some 43), (some 44), (some 45), (some 46), (some 47), none, (some 48), none])) (.reg [⟨(.aop (.mov (.slot 7))), (some 31), none⟩, ⟨(.aop (.bin .sub (.slot 31) (.lit (.int .i64 (1))))), (some 32), none⟩, ⟨(.aop (.mov (.slot 32))), (some 7), none⟩]))))))) (.reg [⟨(.aop (.mov (.slot 6))), (some 13), none⟩, ⟨(.aop (.bin .add (.slot 13) (.lit (.int .i64 (1))))), (some 14), none⟩, ⟨(.aop (.mov (.slot 14))), (some 6), none⟩]))))))
theorem comp288 : (V2.compC Tryz.prog 6 Tryz.f288.ntmps (fun _ => false) (Tryz.f288.body.getD .skip), V2.compR Tryz.prog Tryz.f288.results.toList) = (some c288, some []) := by kernel_rfl
theorem body288 : Tryz.f288.body = some (Tryz.f288.body.getD .skip) := by kernel_rfl
noncomputable def c294 : ACode := (.seq (.reg [⟨(.aop (.mov (.lit (.bool false)))), (some 4), none⟩]) (.seq (.reg [⟨(.aop (.mov (.slot 0))), (some 5), none⟩, ⟨(.call (.lit (.fn (.func 315) [] [])) [(.slot 5)]), (some 6), none⟩, ⟨(.aop (.mov (.slot 6))), (some 7), none⟩, ⟨(.aop (.mov (.slot 1))), (some 8), (some ((.slot 7), true))⟩, ⟨(.call (.lit (.fn (.func 315) [] [])) [(.slot 8)]), (some 9), (some ((.slot 7), true))⟩, ⟨(.aop (.un .not (.slot 9))), (some 10), (some ((.slot 7), true))⟩, ⟨(.aop (.pick (.slot 7) (.slot 10) (.lit (.bool false)))), (some 11), none⟩, ⟨(.aop (.mov (.slot 11))), (some 12), none⟩, ⟨(.aop (.mov (.slot 0))), (some 13), (some ((.slot 12), false))⟩, ⟨(.aop (.mov (.slot 1))), (some 14), (some ((.slot 12), false))⟩, ⟨(.aop (.bin .lss (.slot 13) (.slot 14))), (some 15), (some ((.slot 12), false))⟩, ⟨(.aop (.pick (.slot 12) (.lit (.bool true)) (.slot 15))), (some 16), none⟩, ⟨(.aop (.mov (.slot 16))), (some 4), none⟩]) .ret))
theorem comp294 : (V2.compC Tryz.prog 6 Tryz.f294.ntmps (fun _ => false) (Tryz.f294.body.getD .skip), V2.compR Tryz.prog Tryz.f294.results.toList) = (some c294, some [(.tmp 4)]) := by kernel_rfl
theorem body294 : Tryz.f294.body = some (Tryz.f294.body.getD .skip) := by kernel_rfl
noncomputable def c315 : ACode := (.seq (.reg [⟨(.aop (.mov (.lit (.bool false)))), (some 2), none⟩]) (.seq (.reg [⟨(.aop (.mov (.slot 0))), (some 3), none⟩, ⟨(.aop (.mov (.slot 0))), (some 4), none⟩, ⟨(.aop (.bin .neq (.slot 3) (.slot 4))), (some 5), none⟩, ⟨(.aop (.mov (.slot 5))), (some 2), none⟩]) .ret))
theorem comp315 : (V2.compC Tryz.prog 6 Tryz.f315.ntmps (fun _ => false) (Tryz.f315.body.getD .skip), V2.compR Tryz.prog Tryz.f315.results.toList) = (some c315, some [(.tmp 2)]) := by kernel_rfl
theorem body315 : Tryz.f315.body = some (Tryz.f315.body.getD .skip) := by kernel_rfl
end Go.Proofs.YtjgmpdklfcmelaaGreatDoor.V2
namespace Go.Proofs.YtjgmpdklfcmelaaGreatDoor.V2
open Go
noncomputable def c168 : ACode := (.seq (.reg [⟨(.aop (.mov (.lit .nilsl))), (some 2), none⟩]) (.seq (.reg [⟨(.aop (.mov (.slot 0))), (some 4), none⟩, ⟨(.call (.lit (.fn (.func 235) [] [])) [(.slot 4)]), (some 5), none⟩, ⟨(.aop (.mov (.slot 5))), (some 3), none⟩]) (.seq (.reg [⟨(.aop (.mov (.slot 3))), (some 6), none⟩, ⟨(.call (.lit (.fn (.func 236) [] [])) [(.slot 6)]), (some 7), none⟩]) (.seq (.reg [⟨(.aop (.mov (.slot 3))), (some 8), none⟩, ⟨(.aop (.mov (.slot 8))), (some 2), none⟩]) .ret))))
theorem comp168 : (V2.compC Tryz.prog 6 Tryz.f168.ntmps (fun _ => false) (Tryz.f168.body.getD .skip), V2.compR Tryz.prog Tryz.f168.results.toList) = (some c168, some [(.tmp 2)]) := by kernel_rfl
theorem body168 : Tryz.f168.body = some (Tryz.f168.body.getD .skip) := by kernel_rfl
noncomputable def c235 : ACode := (.seq (.reg [⟨(.aop (.mov (.lit .nilsl))), (some 2), none⟩]) (.seq (.reg [⟨(.aop (.mov (.slot 0))), (some 3), none⟩, ⟨(.call (.lit (.fn (.func 263) [] [])) [(.lit .nilsl), (.slot 3)]), (some 4), none⟩, ⟨(.aop (.mov (.slot 4))), (some 2), none⟩]) .ret))
theorem comp235 : (V2.compC Tryz.prog 6 Tryz.f235.ntmps (fun _ => false) (Tryz.f235.body.getD .skip), V2.compR Tryz.prog Tryz.f235.results.toList) = (some c235, some [(.tmp 2)]) := by kernel_rfl
theorem body235 : Tryz.f235.body = some (Tryz.f235.body.getD .skip) := by kernel_rfl
noncomputable def c263 : ACode := (.seq (.reg [⟨(.aop (.box 266 (.slot 0))), (some 2), none⟩, ⟨(.aop (.mov (.lit .nilsl))), (some 4), none⟩]) (.seq (.seq (.reg [⟨(.aop (.mov (.slot 1))), (some 6), none⟩]) (.block 0 (.rfun (.slot 6) [7] (.reg [⟨(.aop (.mov (.slot 7))), (some 5), none⟩]) (.block 1 (.reg [⟨(.aop (.load1 (.slot 2))), (some 8), none⟩, ⟨(.aop (.mov (.slot 5))), (some 9), none⟩, ⟨(.aop (.mk (.bslice 23 1 1) [(.slot 9)])), (some 10), none⟩, ⟨(.aop (.ext (.append 23 false 1) [(.slot 8), (.slot 10)])), (some 11), none⟩, ⟨(.aop (.store 1 (.slot 2) (.slot 11))), none, none⟩]))))) (.seq (.reg [⟨(.aop (.load1 (.slot 2))), (some 12), none⟩, ⟨(.aop (.mov (.slot 12))), (some 4), none⟩]) .ret)))
theorem comp263 : (V2.compC Tryz.prog 6 Tryz.f263.ntmps (fun _ => false) (Tryz.f263.body.getD .skip), V2.compR Tryz.prog Tryz.f263.results.toList) = (some c263, some [(.tmp 4)]) := by kernel_rfl
theorem body263 : Tryz.f263.body = some (Tryz.f263.body.getD .skip) := by kernel_rfl
noncomputable def c237 : ACode := (.mfor [⟨(.aop (.load1 (.slot 1))), (some 4), none⟩] (.slot 4) ⟨5, 6, 7, 8, 1, [⟨(.aop (.extract (.slot 6) 0)), (some 7), none⟩], [⟨(.aop (.extract (.slot 8) 0)), (some 9), none⟩, ⟨(.aop (.mov (.slot 9))), (some 3), none⟩]⟩ (.seq (.reg [⟨(.aop (.mov (.slot 0))), (some 10), none⟩, ⟨(.aop (.mov (.slot 3))), (some 11), none⟩, ⟨(.call (.slot 10) [(.slot 11)]), (some 12), none⟩, ⟨(.aop (.un .not (.slot 12))), (some 13), none⟩]) (.cond (.slot 13) .ret .skip)) none)
theorem comp237 : (V2.compC Tryz.prog 6 Tryz.f237.ntmps (fun _ => false) (Tryz.f237.body.getD .skip), V2.compR Tryz.prog Tryz.f237.results.toList) = (some c237, some []) := by kernel_rfl
theorem body237 : Tryz.f237.body = some (Tryz.f237.body.getD .skip) := by kernel_rfl
end Go.Proofs.YtjgmpdklfcmelaaGreatDoor.V2
namespace Go.Proofs.YtjgmpdklfcmelaaGreatDoor.V2
open Go
attribute [local irreducible] c8 c72 c80 c142 c159 c160 c161 c169 c170 c229 c230 c231 c232 c236 c248 c261 c262 c264 c281 c288 c294 c315 c168 c235 c263 c237
noncomputable def tabL : List (Nat × Ent) → T Ent
  | [] => .leaf
  | p :: l => (tabL l).put p.1 p.2
theorem tabL_get : ∀ {l : List (Nat × Ent)}, (∀ p ∈ l, Nat.blt p.1 1048576 = true) → ∀ f x, (tabL l).get f = some x → (f, x) ∈ l
  | [], _, f, x, h => by cases h
  | p :: l, hs, f, x, h => by
    have hp := hs p List.mem_cons_self
    rw [Nat.blt_eq] at hp
    simp only [tabL, T.get_put _ _ _ _ hp] at h
    by_cases ht : f = p.1
    · rw [if_pos ht] at h; cases h; rw [ht]; exact List.mem_cons_self
    · rw [if_neg ht] at h; exact List.mem_cons_of_mem _ (tabL_get (fun q hq => hs q (List.mem_cons_of_mem _ hq)) f x h)
def EntOk (p : Nat × Ent) : Prop := ∃ fn c, Tryz.prog.funcs[p.1]? = some fn ∧ fn.body = some c ∧ (fn.name == "runtime.NumGoroutine") = false ∧ fn.ntmps = p.2.nt ∧ compC Tryz.prog 6 fn.ntmps (fun _ => false) c = some p.2.code ∧ compR Tryz.prog fn.results.toList = some p.2.res ∧ Nat.ble fn.ntmps 1048576 = true
noncomputable def en72 : Ent := ⟨Tryz.f72.ntmps, c72, [(.tmp 6)]⟩
theorem eok72 : EntOk (72, en72) := ⟨_, _, Tryz.func72, body72, by kernel_rfl, rfl, (Prod.mk.inj comp72).1, (Prod.mk.inj comp72).2, by kernel_rfl⟩
noncomputable def en80 : Ent := ⟨Tryz.f80.ntmps, c80, [(.tmp 4)]⟩
theorem eok80 : EntOk (80, en80) := ⟨_, _, Tryz.func80, body80, by kernel_rfl, rfl, (Prod.mk.inj comp80).1, (Prod.mk.inj comp80).2, by kernel_rfl⟩
noncomputable def en142 : Ent := ⟨Tryz.f142.ntmps, c142, [(.tmp 2)]⟩
theorem eok142 : EntOk (142, en142) := ⟨_, _, Tryz.func142, body142, by kernel_rfl, rfl, (Prod.mk.inj comp142).1, (Prod.mk.inj comp142).2, by kernel_rfl⟩
noncomputable def en159 : Ent := ⟨Tryz.f159.ntmps, c159, [(.tmp 2)]⟩
theorem eok159 : EntOk (159, en159) := ⟨_, _, Tryz.func159, body159, by kernel_rfl, rfl, (Prod.mk.inj comp159).1, (Prod.mk.inj comp159).2, by kernel_rfl⟩
noncomputable def en160 : Ent := ⟨Tryz.f160.ntmps, c160, [(.tmp 2)]⟩
theorem eok160 : EntOk (160, en160) := ⟨_, _, Tryz.func160, body160, by kernel_rfl, rfl, (Prod.mk.inj comp160).1, (Prod.mk.inj comp160).2, by kernel_rfl⟩
noncomputable def en161 : Ent := ⟨Tryz.f161.ntmps, c161, [(.tmp 4)]⟩
theorem eok161 : EntOk (161, en161) := ⟨_, _, Tryz.func161, body161, by kernel_rfl, rfl, (Prod.mk.inj comp161).1, (Prod.mk.inj comp161).2, by kernel_rfl⟩
noncomputable def en169 : Ent := ⟨Tryz.f169.ntmps, c169, [(.tmp 2)]⟩
theorem eok169 : EntOk (169, en169) := ⟨_, _, Tryz.func169, body169, by kernel_rfl, rfl, (Prod.mk.inj comp169).1, (Prod.mk.inj comp169).2, by kernel_rfl⟩
noncomputable def en170 : Ent := ⟨Tryz.f170.ntmps, c170, [(.tmp 4)]⟩
theorem eok170 : EntOk (170, en170) := ⟨_, _, Tryz.func170, body170, by kernel_rfl, rfl, (Prod.mk.inj comp170).1, (Prod.mk.inj comp170).2, by kernel_rfl⟩
noncomputable def en229 : Ent := ⟨Tryz.f229.ntmps, c229, [(.tmp 2)]⟩
theorem eok229 : EntOk (229, en229) := ⟨_, _, Tryz.func229, body229, by kernel_rfl, rfl, (Prod.mk.inj comp229).1, (Prod.mk.inj comp229).2, by kernel_rfl⟩
noncomputable def en230 : Ent := ⟨Tryz.f230.ntmps, c230, [(.tmp 4)]⟩
theorem eok230 : EntOk (230, en230) := ⟨_, _, Tryz.func230, body230, by kernel_rfl, rfl, (Prod.mk.inj comp230).1, (Prod.mk.inj comp230).2, by kernel_rfl⟩
noncomputable def en231 : Ent := ⟨Tryz.f231.ntmps, c231, [(.tmp 2)]⟩
theorem eok231 : EntOk (231, en231) := ⟨_, _, Tryz.func231, body231, by kernel_rfl, rfl, (Prod.mk.inj comp231).1, (Prod.mk.inj comp231).2, by kernel_rfl⟩
noncomputable def en232 : Ent := ⟨Tryz.f232.ntmps, c232, [(.tmp 4)]⟩
theorem eok232 : EntOk (232, en232) := ⟨_, _, Tryz.func232, body232, by kernel_rfl, rfl, (Prod.mk.inj comp232).1, (Prod.mk.inj comp232).2, by kernel_rfl⟩
noncomputable def en236 : Ent := ⟨Tryz.f236.ntmps, c236, []⟩
theorem eok236 : EntOk (236, en236) := ⟨_, _, Tryz.func236, body236, by kernel_rfl, rfl, (Prod.mk.inj comp236).1, (Prod.mk.inj comp236).2, by kernel_rfl⟩
noncomputable def en248 : Ent := ⟨Tryz.f248.ntmps, c248, [(.tmp 2)]⟩
theorem eok248 : EntOk (248, en248) := ⟨_, _, Tryz.func248, body248, by kernel_rfl, rfl, (Prod.mk.inj comp248).1, (Prod.mk.inj comp248).2, by kernel_rfl⟩
noncomputable def en261 : Ent := ⟨Tryz.f261.ntmps, c261, []⟩
theorem eok261 : EntOk (261, en261) := ⟨_, _, Tryz.func261, body261, by kernel_rfl, rfl, (Prod.mk.inj comp261).1, (Prod.mk.inj comp261).2, by kernel_rfl⟩
noncomputable def en262 : Ent := ⟨Tryz.f262.ntmps, c262, []⟩
theorem eok262 : EntOk (262, en262) := ⟨_, _, Tryz.func262, body262, by kernel_rfl, rfl, (Prod.mk.inj comp262).1, (Prod.mk.inj comp262).2, by kernel_rfl⟩
noncomputable def en264 : Ent := ⟨Tryz.f264.ntmps, c264, []⟩
theorem eok264 : EntOk (264, en264) := ⟨_, _, Tryz.func264, body264, by kernel_rfl, rfl, (Prod.mk.inj comp264).1, (Prod.mk.inj comp264).2, by kernel_rfl⟩
noncomputable def en281 : Ent := ⟨Tryz.f281.ntmps, c281, [(.tmp 2)]⟩
theorem eok281 : EntOk (281, en281) := ⟨_, _, Tryz.func281, body281, by kernel_rfl, rfl, (Prod.mk.inj comp281).1, (Prod.mk.inj comp281).2, by kernel_rfl⟩
noncomputable def en288 : Ent := ⟨Tryz.f288.ntmps, c288, []⟩
theorem eok288 : EntOk (288, en288) := ⟨_, _, Tryz.func288, body288, by kernel_rfl, rfl, (Prod.mk.inj comp288).1, (Prod.mk.inj comp288).2, by kernel_rfl⟩
noncomputable def en294 : Ent := ⟨Tryz.f294.ntmps, c294, [(.tmp 4)]⟩
theorem eok294 : EntOk (294, en294) := ⟨_, _, Tryz.func294, body294, by kernel_rfl, rfl, (Prod.mk.inj comp294).1, (Prod.mk.inj comp294).2, by kernel_rfl⟩
noncomputable def en315 : Ent := ⟨Tryz.f315.ntmps, c315, [(.tmp 2)]⟩
theorem eok315 : EntOk (315, en315) := ⟨_, _, Tryz.func315, body315, by kernel_rfl, rfl, (Prod.mk.inj comp315).1, (Prod.mk.inj comp315).2, by kernel_rfl⟩
noncomputable def en168 : Ent := ⟨Tryz.f168.ntmps, c168, [(.tmp 2)]⟩
theorem eok168 : EntOk (168, en168) := ⟨_, _, Tryz.func168, body168, by kernel_rfl, rfl, (Prod.mk.inj comp168).1, (Prod.mk.inj comp168).2, by kernel_rfl⟩
noncomputable def en235 : Ent := ⟨Tryz.f235.ntmps, c235, [(.tmp 2)]⟩
theorem eok235 : EntOk (235, en235) := ⟨_, _, Tryz.func235, body235, by kernel_rfl, rfl, (Prod.mk.inj comp235).1, (Prod.mk.inj comp235).2, by kernel_rfl⟩
noncomputable def en263 : Ent := ⟨Tryz.f263.ntmps, c263, [(.tmp 4)]⟩
theorem eok263 : EntOk (263, en263) := ⟨_, _, Tryz.func263, body263, by kernel_rfl, rfl, (Prod.mk.inj comp263).1, (Prod.mk.inj comp263).2, by kernel_rfl⟩
noncomputable def en237 : Ent := ⟨Tryz.f237.ntmps, c237, []⟩
theorem eok237 : EntOk (237, en237) := ⟨_, _, Tryz.func237, body237, by kernel_rfl, rfl, (Prod.mk.inj comp237).1, (Prod.mk.inj comp237).2, by kernel_rfl⟩
noncomputable def entsD : List (Nat × Ent) := [(168, en168), (235, en235), (263, en263), (237, en237)]
noncomputable def tabD : T Ent := tabL entsD
theorem tabD_ok : TabOk Tryz.prog 6 (fun _ => false) tabD := fun f x h => by
  have hm := tabL_get (l := entsD) (by unfold entsD; simp only [List.forall_mem_cons]; exact ⟨rfl, rfl, rfl, rfl, fun p hp => absurd hp List.not_mem_nil⟩) f x h
  have he : EntOk (f, x) := by
    have : ∀ p ∈ entsD, EntOk p := by
      unfold entsD
      simp only [List.forall_mem_cons]
      exact ⟨eok168, eok235, eok263, eok237, fun p hp => absurd hp List.not_mem_nil⟩
    exact this (f, x) hm
  exact he
theorem mixed : Tryz.prog.follows .mixedOrders = true := by kernel_rfl
noncomputable def Sd : Sp := ⟨fun f => Nat.beq f 168, fun Γ f args σ => detO std σ (dmT std 1000 tabD Γ f args σ), fun Γ => dmT std 1000 tabD Γ⟩
theorem Sd_ok : Sd.Ok Tryz.prog 6 (fun _ => false) := ⟨fun _ _ hΓ hpu => detO_ok (dmT_ok mixed tabD_ok hΓ hpu), fun _ _ hΓ hpu => dmT_ok mixed tabD_ok hΓ hpu, fun _ h => by cases h⟩
end Go.Proofs.YtjgmpdklfcmelaaGreatDoor.V2
namespace Go.Proofs.YtjgmpdklfcmelaaGreatDoor.V2
open Go
set_option linter.unusedVariables false
noncomputable section
def r3 (P : E → (E2 → FR) → FR) (p : E2 → (E1 → FR) → FR) (q : E1 → (FV → FR) → FR) : Rd := fun e k => P e fun a => p a fun b => q b k
def x3 (P : E → (E2 → FR) → FR) (p : E2 → (E1 → FR) → FR) (q : E1 → FV → (E1 → FR) → FR) (r : E2 → E1 → (E2 → FR) → FR) (w : E → E2 → (E → FR) → FR) : Wr := fun e v k => P e fun a => p a fun b => q b v fun b => r a b fun a => w e a k
def R0 := r3 pc0 pb0 pa0
def X0 := x3 pc0 pb0 wa0 wb0 wc0
def R1 := r3 pc0 pb0 pa1
def X1 := x3 pc0 pb0 wa1 wb0 wc0
def R2 := r3 pc0 pb0 pa2
def X2 := x3 pc0 pb0 wa2 wb0 wc0
def R3 := r3 pc0 pb0 pa3
def X3 := x3 pc0 pb0 wa3 wb0 wc0
def R4 := r3 pc0 pb0 pa4
def X4 := x3 pc0 pb0 wa4 wb0 wc0
def R5 := r3 pc0 pb0 pa5
def X5 := x3 pc0 pb0 wa5 wb0 wc0
def R6 := r3 pc0 pb0 pa6
def X6 := x3 pc0 pb0 wa6 wb0 wc0
def R7 := r3 pc0 pb0 pa7
def X7 := x3 pc0 pb0 wa7 wb0 wc0
def R8 := r3 pc0 pb1 pa0
def X8 := x3 pc0 pb1 wa0 wb1 wc0
def R9 := r3 pc0 pb1 pa1
def X9 := x3 pc0 pb1 wa1 wb1 wc0
def R10 := r3 pc0 pb1 pa2
def X10 := x3 pc0 pb1 wa2 wb1 wc0
def R11 := r3 pc0 pb1 pa3
def X11 := x3 pc0 pb1 wa3 wb1 wc0
def R12 := r3 pc0 pb1 pa4
def X12 := x3 pc0 pb1 wa4 wb1 wc0
def R13 := r3 pc0 pb1 pa5
def X13 := x3 pc0 pb1 wa5 wb1 wc0
def R14 := r3 pc0 pb1 pa6
def X14 := x3 pc0 pb1 wa6 wb1 wc0
def R16 := r3 pc0 pb2 pa0
def X16 := x3 pc0 pb2 wa0 wb2 wc0
def R17 := r3 pc0 pb2 pa1
def X17 := x3 pc0 pb2 wa1 wb2 wc0
def R19 := r3 pc0 pb2 pa3
def X19 := x3 pc0 pb2 wa3 wb2 wc0
def R20 := r3 pc0 pb2 pa4
def X20 := x3 pc0 pb2 wa4 wb2 wc0
def R21 := r3 pc0 pb2 pa5
def X21 := x3 pc0 pb2 wa5 wb2 wc0
def R22 := r3 pc0 pb2 pa6
def X22 := x3 pc0 pb2 wa6 wb2 wc0
def R23 := r3 pc0 pb2 pa7
def X23 := x3 pc0 pb2 wa7 wb2 wc0
def R24 := r3 pc0 pb3 pa0
def X24 := x3 pc0 pb3 wa0 wb3 wc0
def R26 := r3 pc0 pb3 pa2
def X26 := x3 pc0 pb3 wa2 wb3 wc0
def R27 := r3 pc0 pb3 pa3
def X27 := x3 pc0 pb3 wa3 wb3 wc0
def R31 := r3 pc0 pb3 pa7
def X31 := x3 pc0 pb3 wa7 wb3 wc0
def R51 := r3 pc0 pb6 pa3
def X51 := x3 pc0 pb6 wa3 wb6 wc0
def R63 := r3 pc0 pb7 pa7
def X63 := x3 pc0 pb7 wa7 wb7 wc0
def R196 := r3 pc3 pb0 pa4
def X196 := x3 pc3 pb0 wa4 wb0 wc3
end
end Go.Proofs.YtjgmpdklfcmelaaGreatDoor.V2
