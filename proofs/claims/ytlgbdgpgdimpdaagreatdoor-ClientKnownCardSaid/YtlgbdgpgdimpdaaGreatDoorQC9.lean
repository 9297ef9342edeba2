/- Part 9 of the proof: texts of the proof. -/
import Derived.Test.YtlgbdgpgdimpdaaGreatDoorQC8
import Derived.Test.YtlgbdgpgdimpdaaGreatDoorChecked
import Derived.Laws.Externs
import Derived.MapKept
import Derived.Test.YtlgbdgpgdimpdaaGreatDoorCards
import Derived.Test.YtlgbdgpgdimpdaaGreatDoorTie
import Derived.LaidMore
import Derived.ProofKit
import Derived.OpenShut
import Derived.Carry
import Derived.Deep.DeepHandedRow
import Derived.Deep.Matrix
import Derived.Lib.LaidTab
import Derived.Stop.LaidErr
namespace Go.Proofs.YtlgbdgpgdimpdaaGreatDoor.V2
open Go
noncomputable section
mutual
def mapF (r : Nat → Nat) : FV → FV
  | .n k m => .n k m
  | .z k m => .z k m
  | .b t => .b t
  | .s c => .s c
  | .p b o => .p (r b) o
  | .sl b o n k e z => .sl (r b) o n k e z
  | .m b => .m (r b)
  | .y b => .y (r b)
  | .fn f x y => .fn f (mapFs r x) (mapFs r y)
  | .ifc t v => .ifc t (mapF r v)
  | .agg l => .agg (mapFs r l)
  | .bs c => .bs c
  | .ints k l => .ints k l
  | .tup l => .tup (mapFs r l)
  | .o j => .o j
def mapFs (r : Nat → Nat) : List FV → List FV
  | [] => []
  | v :: l => mapF r v :: mapFs r l
end
mutual
theorem mapF_α (r : Nat → Nat) : ∀ v, αV (mapF r v) = mapV r (αV v)
  | .n _ _ => rfl
  | .z _ _ => rfl
  | .b _ => rfl
  | .s _ => rfl
  | .p _ _ => rfl
  | .sl _ _ _ _ _ _ => rfl
  | .m _ => rfl
  | .y _ => rfl
  | .fn f x y => by simp only [mapF, αV, mapV, mapFs_α r x, mapFs_α r y]
  | .ifc t v => by simp only [mapF, αV, mapV, mapF_α r v]
  | .agg l => by simp only [mapF, αV, mapV, mapFs_α r l]
  | .bs _ => rfl
  | .ints _ _ => rfl
  | .tup l => by simp only [mapF, αV, mapV, mapFs_α r l]
  | .o j => by cases j <;> rfl
theorem mapFs_α (r : Nat → Nat) : ∀ l, αL (mapFs r l) = mapVs r (αL l)
  | [] => rfl
  | v :: l => by simp only [mapFs, αL, mapVs, mapF_α r v, mapFs_α r l]
end
def mapP (r : Nat → Nat) : List (FV × FV) → List (FV × FV)
  | [] => []
  | p :: l => (mapF r p.1, mapF r p.2) :: mapP r l
def mapFO (r : Nat → Nat) : FObj → FObj
  | .dead => .dead
  | .cells l e t => .cells (mapFs r l) e t
  | .bs c e t => .bs c e t
  | .ints k l e t => .ints k l e t
  | .map l => .map (mapP r l)
  | .hid => .hid
theorem mapP_α (r : Nat → Nat) : ∀ l, αP (mapP r l) = (αP l).map fun p => (mapV r p.1, mapV r p.2)
  | [] => rfl
  | p :: l => by simp only [mapP, αP, List.map_cons, mapF_α, mapP_α r l]
theorem mapFO_α (r : Nat → Nat) (o : FObj) : αO (mapFO r o) = mapO r (αO o) := by
  cases o with
  | cells l e t => simp only [mapFO, αO, mapO, mapFs_α]
  | map l => simp only [mapFO, αO, mapO, mapP_α]
  | _ => rfl
/-! What is laid at the begin. -/
def αl (l : List (Nat × FV)) : List (Nat × AV) := l.map fun p => (p.1, αV p.2)
def αm (L : List (Nat × FObj)) : List (Nat × AObj) := L.map fun p => (p.1, αO p.2)
def mkE (l : List (Nat × FV)) : (E → FR) → FR := List.rec (motive := fun _ => (E → FR) → FR) (fun k => k e0) (fun p _ ih k => ih fun e => Prod.rec (fun t v => wrE t e v k) p) l
def mkM (L : List (Nat × FObj)) : (T FObj → FR) → FR := List.rec (motive := fun _ => (T FObj → FR) → FR) (fun k => k .leaf) (fun p _ ih k => ih fun m => Prod.rec (fun b o => ts 20 m b o k) p) L
def ofMF : List (Nat × FObj) → T FObj
  | [] => .leaf
  | p :: l => (ofMF l).put p.1 p.2
theorem ofMF_α : ∀ L : List (Nat × FObj), (ofMF L).map αO = ofM (αm L)
  | [] => rfl
  | p :: l => by
    show ((ofMF l).put p.1 p.2).map αO = (ofM (αm l)).put p.1 (αO p.2)
    rw [T.map_put, ofMF_α l]
theorem mkM_eq : ∀ (L : List (Nat × FObj)) (k : T FObj → FR), mkM L k = k (ofMF L)
  | [], k => rfl
  | p :: l, k => by
    show (mkM l fun m => ts 20 m p.1 p.2 k) = _
    rw [mkM_eq l, ts_eq]; rfl
theorem mkE_ok {nt : Nat} {dr : List Nat} : ∀ (l : List (Nat × FV)) (k : E → FR), (l.all fun p => Nat.blt p.1 1024) = true → ∃ e, Ee nt dr e (ofL (αl l)) ∧ mkE l k = k e
  | [], k, _ => ⟨e0, fun t _ => by rw [e0_at]; rfl, rfl⟩
  | p :: l, k, h => by
    rw [List.all_cons, Bool.and_eq_true, Nat.blt_eq] at h
    obtain ⟨e, h1, h2⟩ := mkE_ok (nt := nt) (dr := dr) l (fun e => wrE p.1 e p.2 k) h.2
    obtain ⟨e', h3, h4⟩ := wr_ok (m := []) (v := p.2) (k := k) h1.m h.1
    refine ⟨e', h3.e, ?_⟩
    show (mkE l fun e => wrE p.1 e p.2 k) = _
    rw [h2, h4]
/-! What is asked at the end. -/
def chT : List FObj → T FObj
  | [] => .leaf
  | o :: l => .node (some o) .leaf (chT l)
theorem chT_inj : ∀ {a b : List FObj}, chT a = chT b → a = b
  | [], [], _ => rfl
  | [], _ :: _, h => by cases h
  | _ :: _, [], h => by cases h
  | x :: a, y :: b, h => by
    simp only [chT, T.node.injEq, Option.some.injEq, true_and] at h
    rw [h.1, chT_inj h.2]
def gMs (bs : List Nat) (σ : FH) (k : List FObj → FR) : FR := List.rec (motive := fun _ => (List FObj → FR) → FR) (fun k => k []) (fun b _ ih k => gM σ b fun o => ih fun l => k (o :: l)) bs k
theorem gMs_ok {σ : FH} : ∀ (bs : List Nat) (k : List FObj → FR), gMs bs σ k ≠ .bad → ∃ os, (bs.map fun b => (αH σ).get b) = os.map (fun o => some (αO o)) ∧ gMs bs σ k = k os
  | [], k, _ => ⟨[], rfl, rfl⟩
  | b :: bs, k, h => by
    have h : (gM σ b fun o => gMs bs σ fun l => k (o :: l)) ≠ .bad := h
    show ∃ os, _ ∧ (gM σ b fun o => gMs bs σ fun l => k (o :: l)) = _
    obtain ⟨o, _, h2, h3⟩ := gM_cases h
    rw [h3] at h ⊢
    obtain ⟨os, h4, h5⟩ := gMs_ok bs _ h
    exact ⟨o :: os, by rw [List.map_cons, h2, h4]; rfl, h5⟩
def rfS1 (nt : Nat) (dr : List Nat) (ts : List Nat) : List Rd := ts.map fun t => rdM nt dr [] (.slot t)
def endK (rs : List Rd) (bs : List Nat) : K2 := fun e σ => rdsK rs e fun vs => gMs bs σ fun os => .ok (.tup vs) ⟨0, chT os⟩
def runQ (tq : T (Phi → HF)) (b : FuncId → HF) (q : Cd) (l : List (Nat × FV)) (L : List (Nat × FObj)) (n : Nat) (kn kr : K2) : FR := fT (fun x c => c x) tq fun tab => mkE l fun e => mkM L fun m => q (PhiG tab 40 b fun _ _ _ _ => .bad) 6 kn kr kXe e ⟨n, m⟩
theorem runQ_eq {tq : T (Phi → HF)} {b : FuncId → HF} {q : Cd} {l : List (Nat × FV)} {L : List (Nat × FObj)} {n : Nat} {kn kr : K2} {nt : Nat} {dr : List Nat} (hl : (l.all fun p => Nat.blt p.1 1024) = true) :
    ∃ e, Ee nt dr e (ofL (αl l)) ∧ runQ tq b q l L n kn kr = q (PhiG tq 40 b fun _ _ _ _ => .bad) 6 kn kr kXe e ⟨n, ofMF L⟩ := by
  unfold runQ
  rw [fT_eq fun _ _ => rfl]
  obtain ⟨e, h1, h2⟩ := mkE_ok (nt := nt) (dr := dr) l (fun e => mkM L fun m => q (PhiG tq 40 b fun _ _ _ _ => .bad) 6 kn kr kXe e ⟨n, m⟩) hl
  exact ⟨e, h1, by rw [h2, mkM_eq]⟩
theorem αH_ofMF (n : Nat) (L : List (Nat × FObj)) : αH ⟨n, ofMF L⟩ = ⟨n, ofM (αm L)⟩ := by unfold αH; rw [ofMF_α]
def distN : List Nat → Bool
  | [] => true
  | a :: l => !hasN a l && distN l
theorem hasN_of {k : Nat} : ∀ {l : List Nat}, k ∈ l → hasN k l = true
  | [], h => by cases h
  | a :: m, h => by
    unfold hasN
    rcases List.mem_cons.1 h with h | h
    · rw [h, Nat.beq_refl]; rfl
    · cases Nat.beq a k
      · exact hasN_of h
      · rfl
theorem has_ofL : ∀ {l : List (Nat × AV)}, distN (l.map (·.1)) = true → (l.all fun p => Nat.blt p.1 1048576) = true → ∀ {l0 : List (Nat × AV)}, (∀ p ∈ l0, p ∈ l) → Has (ofL l) l0 := by
  intro l hd hs
  have key : ∀ p ∈ l, (ofL l).get p.1 = some p.2 := by
    induction l with
    | nil => intro p hp; cases hp
    | cons q l ih =>
      intro p hp
      rw [List.all_cons, Bool.and_eq_true, Nat.blt_eq] at hs
      simp only [List.map_cons, distN, Bool.and_eq_true, Bool.not_eq_true'] at hd
      show ((ofL l).put q.1 q.2).get p.1 = _
      rw [T.get_put _ _ _ _ hs.1]
      rcases List.mem_cons.1 hp with rfl | hp
      · rw [if_pos rfl]
      · have hne : p.1 ≠ q.1 := fun e => by
          have : hasN q.1 (l.map (·.1)) = true := by
            have hm : q.1 ∈ l.map (·.1) := by rw [← e]; exact List.mem_map_of_mem hp
            exact hasN_of hm
          rw [this] at hd; cases hd.1
        rw [if_neg hne]; exact ih hd.2 hs.2 p hp
  intro l0
  induction l0 with
  | nil => intro _; trivial
  | cons p l0 ih =>
    intro h
    refine ⟨⟨key p (h p List.mem_cons_self), ?_⟩, ih fun q hq => h q (List.mem_cons_of_mem _ hq)⟩
    exact List.all_eq_true.1 hs p (h p List.mem_cons_self)
section
variable {P : Program} {Γ0 : Gam} {pu : FuncId → Bool} {nt B fuel : Nat} {ρ0 : Ren} {σ0 : AH} {W0 : World} {Q : Exit → Act → World → Prop}
theorem Good.le {G N : Nat} {env env' : T AV} {σ : AH} {c : Code} (h : Le env env') (g : Good P G nt N B ρ0 σ0 W0 Q env' σ c) : Good P G nt N B ρ0 σ0 W0 Q env σ c := fun ρ W a hr he hs hd => g ρ W a hr (he.le h) hs hd
def lowL (L : List (Nat × AObj)) (b : Nat) : Option AObj := (L.find? fun p => Nat.beq p.1 b).map (·.2)
theorem low_of {σ : AH} {old : List Nat} {n : Nat} {L : List (Nat × AObj)} (hk : keepN (rn old) (L.map (·.1)) 6 = true) (hM : Had (rn old) σ n L) (h : ((List.range 6).map fun b => (ofM L).get b) = (List.range 6).map fun b => (lowL L b).map (mapO (rn old))) : ∀ b, b < 6 → (ofM L).get b = σ.get b := fun b hb => by
  have h1 : (ofM L).get b = (lowL L b).map (mapO (rn old)) := by
    have := congrArg (fun l => l[b]?) h
    simpa [hb] using this
  rw [h1]
  have h2 := List.all_eq_true.1 hk b (List.mem_range.2 hb)
  rw [Bool.and_eq_true, Nat.beq_eq, List.contains_iff_mem, List.mem_map] at h2
  obtain ⟨h3, p, hp, h4⟩ := h2
  unfold lowL
  cases hf : L.find? fun p => Nat.beq p.1 b with
  | none => exact absurd (by rw [h4]; exact Nat.beq_refl b) (List.find?_eq_none.1 hf p hp)
  | some q =>
    have h5 : q.1 = b := Nat.eq_of_beq_eq_true (List.find?_some (p := fun p : Nat × AObj => Nat.beq p.1 b) hf)
    have h6 := (hM.mem q (List.mem_of_find?_eq_some hf)).2
    rw [h5, h3] at h6
    rw [h6]; rfl
theorem Good.pieceQ {tab : T Ent} {tq : T (Phi → HF)} {b : FuncId → HF} (st : Start [] 6 B ρ0 σ0 W0) (hm : P.follows .mixedOrders = true) (hΓ : GamOk P 6 (Gam.grow std fuel tab Sp.none Γ0 40) []) (hpu : PuOk (Gam.grow std fuel tab Sp.none Γ0 40) pu)
    (ht : TabQ fuel tab tq) (hb : ∀ f, HOk (b f) (Γ0.fn f)) {m : Nat} {c : Code} {c' : ACode} {dr : List Nat} {q : Cd} {n0 n : Nat} {l0 l : List (Nat × FV)} {L0 L : List (Nat × FObj)} {old : List Nat} {rs : List Rd}
    (hn : noFor m c' = true) (hc : compC P 6 nt pu c = some c') (hq : thrK fuel nt dr (aT m c') [] cS = q) (hl0 : (l0.all fun p => Nat.blt p.1 1024) = true) (hrs : rfS1 nt dr (l.map (·.1)) = rs)
    (hrun : runQ tq b q l0 L0 n0 (endK rs (L.map fun p => rn old p.1)) kX = .ok (.tup (l.map fun p => mapF (rn old) p.2)) ⟨0, chT (L.map fun p => mapFO (rn old) p.2)⟩)
    (h1 : okN old n (αl l) (αm L) = true) (h2 : distN (l.map (·.1)) = true) (h3 : ((List.range 6).map fun b => (ofM (αm L)).get b) = (List.range 6).map fun b => (lowL (αm L) b).map (mapO (rn old)))
    (g : compC P 6 nt pu (cdD m c) = some (aD m c') → Good P 6 nt 6 B ρ0 σ0 W0 Q (ofL (αl l)) ⟨n, ofM (αm L)⟩ (cdD m c)) : Good P 6 nt 6 B ρ0 σ0 W0 Q (ofL (αl l0)) ⟨n0, ofM (αm L0)⟩ c := by
  obtain ⟨e, he, hr⟩ := runQ_eq (tq := tq) (b := b) (q := q) (L := L0) (n := n0) (kn := endK rs (L.map fun p => rn old p.1)) (kr := kX) (nt := nt) (dr := dr) hl0
  rw [hr] at hrun
  have hne : q (PhiG tq 40 b fun _ _ _ _ => .bad) 6 (endK rs (L.map fun p => rn old p.1)) kX kXe e ⟨n0, ofMF L0⟩ ≠ .bad := by rw [hrun]; exact fun h => by cases h
  have hΦ : PhiOk (PhiG tq 40 b fun _ _ _ _ => .bad) (Gam.grow std fuel tab Sp.none Γ0 40) := PhiG_ok ht 40 hb fun j l σ k => Sm.bad
  subst hq
  obtain ⟨x, env', e', σ', a1, _, a3⟩ := thrK_ok (aT m c') [] cS _ _ hΦ 6 _ _ _ e ⟨n0, ofMF L0⟩ _ he.m hne
  cases x with
  | ret => rw [a3.2] at hne; exact absurd rfl hne
  | exit i => rw [a3.2] at hne; exact absurd rfl hne
  | normal =>
    obtain ⟨m', a4, a5⟩ := a3
    rw [a5] at hrun hne
    have hne : (rdsK rs e' fun vs => gMs (L.map fun p => rn old p.1) σ' fun os => FR.ok (.tup vs) ⟨0, chT os⟩) ≠ .bad := hne
    have hrun : (rdsK rs e' fun vs => gMs (L.map fun p => rn old p.1) σ' fun os => FR.ok (.tup vs) ⟨0, chT os⟩) = _ := hrun
    subst hrs
    have e1 : rfS1 nt dr (l.map (·.1)) = ((l.map (·.1)).map Ref.slot).map (rdM nt dr []) := by unfold rfS1; exact (List.map_map (f := Ref.slot) (g := rdM nt dr []) (l := l.map (·.1))).symm
    rw [e1] at hne hrun
    obtain ⟨vs, b1, b2⟩ := (rdM_ok a4.e.m).list _ _ hne
    rw [b2] at hne hrun
    obtain ⟨os, b3, b4⟩ := gMs_ok _ _ hne
    rw [b4] at hrun
    simp only [FR.ok.injEq, FV.tup.injEq, FH.mk.injEq, true_and] at hrun
    have b5 := hrun.1
    have b6 := chT_inj hrun.2
    subst b5 b6
    rw [αH_ofMF] at a1
    have k1 : ∀ p ∈ l, evS env' (.slot p.1) = mapV (rn old) (αV p.2) := fun p hp => by
      rw [αL_map, List.map_map, List.map_map, List.map_map] at b1
      have := List.map_inj_left.1 b1 p hp
      simp only [Function.comp] at this
      rw [this, mapF_α]
    have k2 : ∀ p ∈ L, (αH σ').get (rn old p.1) = some (mapO (rn old) (αO p.2)) := fun p hp => by
      rw [List.map_map, List.map_map] at b3
      have := List.map_inj_left.1 b3 p hp
      simp only [Function.comp] at this
      rw [this, mapFO_α]
    unfold okN at h1
    simp only [Bool.and_eq_true] at h1
    obtain ⟨⟨⟨⟨⟨⟨⟨⟨c1, c2⟩, c3⟩, c4⟩, c5⟩, c6⟩, c7⟩, c8⟩, c9⟩ := h1
    have hHad : Had (rn old) (αH σ') n (αm L) := by
      have : ∀ L' : List (Nat × FObj), (∀ p ∈ L', p ∈ L) → ((αm L').all fun p => Nat.blt p.1 n) = true → Had (rn old) (αH σ') n (αm L') := by
        intro L'
        induction L' with
        | nil => intro _ _; trivial
        | cons p L' ih =>
          intro hs ha
          have ha : (Nat.blt p.1 n && (αm L').all fun p => Nat.blt p.1 n) = true := ha
          rw [Bool.and_eq_true] at ha
          exact ⟨⟨ha.1, k2 p (hs p List.mem_cons_self)⟩, ih (fun q hq => hs q (List.mem_cons_of_mem _ hq)) ha.2⟩
      exact this L (fun _ h => h) c9
    let l' : List (Nat × AV) := (αl l).map fun p => (p.1, mapV (rn old) p.2)
    have hmem : ∀ t v, (t, v) ∈ l' → evS env' (.slot t) = v := fun t v h => by
      obtain ⟨p, hp, hpe⟩ := List.mem_map.1 h
      obtain ⟨p0, hp0, hp0e⟩ := List.mem_map.1 hp
      subst hp0e
      cases hpe
      exact k1 p0 hp0
    have hsm : (l'.all fun p => Nat.blt p.1 1048576) = true := by
      rw [List.all_eq_true] at c8 ⊢
      intro p hp
      obtain ⟨p0, hp0, rfl⟩ := List.mem_map.1 hp
      exact c8 p0 hp0
    have hle : Le env' (ofL l') := fun t v ht => (hmem t v (ofL_get l' t v (fun p hp => List.all_eq_true.1 hsm p hp) ht)).symm
    have hhas : Has (ofL l') l' := has_ofL (by
      have : l'.map (·.1) = l.map (·.1) := by
        show ((αl l).map fun p => (p.1, mapV (rn old) p.2)).map (·.1) = _
        unfold αl
        rw [List.map_map, List.map_map]; rfl
      rw [this]; exact h2) hsm fun _ h => h
    have hwk : Wk 6 nt 6 (ofL l') (αH σ') (ofL (αl l)) ⟨n, ofM (αm L)⟩ := Wk.lay (rn old) c1 c2 (by decide) c3 c4 hHad (low_of c3 hHad h3) c5 c6 c7 hhas
    exact Good.cut st hm hΓ hpu m c c' (ofL (αl l0)) env' ⟨n0, ofM (αm L0)⟩ (αH σ') hn hc a1 fun hc1 => Good.le hle ((g hc1).wk hwk)
theorem Good.endQ {tab : T Ent} {tq : T (Phi → HF)} {b : FuncId → HF} (st : Start [] 6 B ρ0 σ0 W0) (hm : P.follows .mixedOrders = true) (hΓ : GamOk P 6 (Gam.grow std fuel tab Sp.none Γ0 40) []) (hpu : PuOk (Gam.grow std fuel tab Sp.none Γ0 40) pu)
    (ht : TabQ fuel tab tq) (hb : ∀ f, HOk (b f) (Γ0.fn f)) {c : Code} {c' : ACode} {dr : List Nat} {q : Cd} {n0 : Nat} {l0 : List (Nat × FV)} {L0 : List (Nat × FObj)} {xs : List ARes} {rs : List Rs} {vs : List FV}
    (hc : compC P 6 nt pu c = some c') (hq : thrK fuel nt dr c' [] cS = q) (hl0 : (l0.all fun p => Nat.blt p.1 1024) = true) (hrs : xs.map (thrV nt dr) = rs)
    (hrun : runQ tq b q l0 L0 n0 kX (fun e σ => rsQ rs e σ fun vs => .ok (.tup vs) ⟨0, .leaf⟩) = .ok (.tup vs) ⟨0, .leaf⟩) {K : AK} (hK : ∀ env σ, resL std env σ xs = (true, αL vs) → K .ret env σ) :
    Good P 6 nt 6 B ρ0 σ0 W0 (AQ 6 nt 6 B ρ0 σ0 W0 K) (ofL (αl l0)) ⟨n0, ofM (αm L0)⟩ c := by
  obtain ⟨e, he, hr⟩ := runQ_eq (tq := tq) (b := b) (q := q) (L := L0) (n := n0) (kn := kX) (kr := fun e σ => rsQ rs e σ fun vs => .ok (.tup vs) ⟨0, .leaf⟩) (nt := nt) (dr := dr) hl0
  rw [hr] at hrun
  have hne : q (PhiG tq 40 b fun _ _ _ _ => .bad) 6 kX (fun e σ => rsQ rs e σ fun vs => .ok (.tup vs) ⟨0, .leaf⟩) kXe e ⟨n0, ofMF L0⟩ ≠ .bad := by rw [hrun]; exact fun h => by cases h
  have hΦ : PhiOk (PhiG tq 40 b fun _ _ _ _ => .bad) (Gam.grow std fuel tab Sp.none Γ0 40) := PhiG_ok ht 40 hb fun j l σ k => Sm.bad
  subst hq
  obtain ⟨x, env', e', σ', a1, _, a3⟩ := thrK_ok c' [] cS _ _ hΦ 6 _ _ _ e ⟨n0, ofMF L0⟩ _ he.m hne
  cases x with
  | exit i => rw [a3.2] at hne; exact absurd rfl hne
  | normal => obtain ⟨m', _, a5⟩ := a3; rw [a5] at hne; exact absurd rfl hne
  | ret =>
    obtain ⟨a4, a5⟩ := a3
    rw [a5] at hrun hne
    subst hrs
    obtain ⟨ws, b1, b2⟩ := rsQ_ok a4 σ' xs _ hne
    have hrun : (rsQ (xs.map (thrV nt dr)) e' σ' fun vs => FR.ok (.tup vs) ⟨0, .leaf⟩) = _ := hrun
    rw [b2] at hrun
    cases hrun
    rw [αH_ofMF] at a1
    exact Good.end st hm hΓ hpu hc a1 (hK env' (αH σ') b1)
end
end
end Go.Proofs.YtlgbdgpgdimpdaaGreatDoor.V2
namespace Go.Proofs.YtlgbdgpgdimpdaaGreatDoor.V2
open Go
set_option linter.unusedVariables false
noncomputable section
def r3 (P : E → (E2 → FR) → FR) (p : E2 → (E1 → FR) → FR) (q : E1 → (FV → FR) → FR) : Rd := fun e k => P e fun a => p a fun b => q b k
def x3 (P : E → (E2 → FR) → FR) (p : E2 → (E1 → FR) → FR) (q : E1 → FV → (E1 → FR) → FR) (r : E2 → E1 → (E2 → FR) → FR) (w : E → E2 → (E → FR) → FR) : Wr := fun e v k => P e fun a => p a fun b => q b v fun b => r a b fun a => w e a k
def R0 := r3 pc0 pb0 pa0
def X0 := x3 pc0 pb0 wa0 wb0 wc0
def R1 := r3 pc0 pb0 pa1
def X1 := x3 pc0 pb0 wa1 wb0 wc0
def R2 := r3 pc0 pb0 pa2
def X2 := x3 pc0 pb0 wa2 wb0 wc0
def R3 := r3 pc0 pb0 pa3
def X3 := x3 pc0 pb0 wa3 wb0 wc0
def R4 := r3 pc0 pb0 pa4
def X4 := x3 pc0 pb0 wa4 wb0 wc0
def R5 := r3 pc0 pb0 pa5
def X5 := x3 pc0 pb0 wa5 wb0 wc0
def R6 := r3 pc0 pb0 pa6
def X6 := x3 pc0 pb0 wa6 wb0 wc0
def R7 := r3 pc0 pb0 pa7
def X7 := x3 pc0 pb0 wa7 wb0 wc0
def R8 := r3 pc0 pb1 pa0
def X8 := x3 pc0 pb1 wa0 wb1 wc0
def R9 := r3 pc0 pb1 pa1
def X9 := x3 pc0 pb1 wa1 wb1 wc0
def R10 := r3 pc0 pb1 pa2
def X10 := x3 pc0 pb1 wa2 wb1 wc0
def R11 := r3 pc0 pb1 pa3
def X11 := x3 pc0 pb1 wa3 wb1 wc0
def R12 := r3 pc0 pb1 pa4
def X12 := x3 pc0 pb1 wa4 wb1 wc0
def R13 := r3 pc0 pb1 pa5
def X13 := x3 pc0 pb1 wa5 wb1 wc0
def R14 := r3 pc0 pb1 pa6
def X14 := x3 pc0 pb1 wa6 wb1 wc0
def R16 := r3 pc0 pb2 pa0
def X16 := x3 pc0 pb2 wa0 wb2 wc0
def R17 := r3 pc0 pb2 pa1
def X17 := x3 pc0 pb2 wa1 wb2 wc0
def R18 := r3 pc0 pb2 pa2
def X18 := x3 pc0 pb2 wa2 wb2 wc0
def X20 := x3 pc0 pb2 wa4 wb2 wc0
def R21 := r3 pc0 pb2 pa5
def X21 := x3 pc0 pb2 wa5 wb2 wc0
def R22 := r3 pc0 pb2 pa6
def X22 := x3 pc0 pb2 wa6 wb2 wc0
def R23 := r3 pc0 pb2 pa7
def X23 := x3 pc0 pb2 wa7 wb2 wc0
def R24 := r3 pc0 pb3 pa0
def X24 := x3 pc0 pb3 wa0 wb3 wc0
def R26 := r3 pc0 pb3 pa2
def X26 := x3 pc0 pb3 wa2 wb3 wc0
def R27 := r3 pc0 pb3 pa3
def X27 := x3 pc0 pb3 wa3 wb3 wc0
def R29 := r3 pc0 pb3 pa5
def X29 := x3 pc0 pb3 wa5 wb3 wc0
def R31 := r3 pc0 pb3 pa7
def X31 := x3 pc0 pb3 wa7 wb3 wc0
def R34 := r3 pc0 pb4 pa2
def X34 := x3 pc0 pb4 wa2 wb4 wc0
def R42 := r3 pc0 pb5 pa2
def X42 := x3 pc0 pb5 wa2 wb5 wc0
def R48 := r3 pc0 pb6 pa0
def X48 := x3 pc0 pb6 wa0 wb6 wc0
def R51 := r3 pc0 pb6 pa3
def X51 := x3 pc0 pb6 wa3 wb6 wc0
def R54 := r3 pc0 pb6 pa6
def X54 := x3 pc0 pb6 wa6 wb6 wc0
def R63 := r3 pc0 pb7 pa7
def X63 := x3 pc0 pb7 wa7 wb7 wc0
def R68 := r3 pc1 pb0 pa4
def X68 := x3 pc1 pb0 wa4 wb0 wc1
def R77 := r3 pc1 pb1 pa5
def X77 := x3 pc1 pb1 wa5 wb1 wc1
def R100 := r3 pc1 pb4 pa4
def X100 := x3 pc1 pb4 wa4 wb4 wc1
def R123 := r3 pc1 pb7 pa3
def X123 := x3 pc1 pb7 wa3 wb7 wc1
def R125 := r3 pc1 pb7 pa5
def X125 := x3 pc1 pb7 wa5 wb7 wc1
def R141 := r3 pc2 pb1 pa5
def X141 := x3 pc2 pb1 wa5 wb1 wc2
def R175 := r3 pc2 pb5 pa7
def X175 := x3 pc2 pb5 wa7 wb5 wc2
def R187 := r3 pc2 pb7 pa3
def X187 := x3 pc2 pb7 wa3 wb7 wc2
def R212 := r3 pc3 pb2 pa4
def X212 := x3 pc3 pb2 wa4 wb2 wc3
def R224 := r3 pc3 pb4 pa0
def X224 := x3 pc3 pb4 wa0 wb4 wc3
end
end Go.Proofs.YtlgbdgpgdimpdaaGreatDoor.V2
namespace Go.Proofs.YtlgbdgpgdimpdaaGreatDoor.V2
open Go
set_option linter.unusedVariables false
noncomputable def tabL : List (Nat × Ent) → T Ent
  | [] => .leaf
  | p :: l => (tabL l).put p.1 p.2
theorem tabL_get : ∀ {l : List (Nat × Ent)}, (∀ p ∈ l, Nat.blt p.1 1048576 = true) → ∀ f x, (tabL l).get f = some x → (f, x) ∈ l
  | [], _, f, x, h => by cases h
  | p :: l, hs, f, x, h => by
    have hp := hs p List.mem_cons_self
    rw [Nat.blt_eq] at hp
    simp only [tabL, T.get_put _ _ _ _ hp] at h
    by_cases ht : f = p.1
    · rw [if_pos ht] at h; cases h; rw [ht]; exact List.mem_cons_self
    · rw [if_neg ht] at h; exact List.mem_cons_of_mem _ (tabL_get (fun q hq => hs q (List.mem_cons_of_mem _ hq)) f x h)
def EntOk (p : Nat × Ent) : Prop := ∃ fn c, Tryz.prog.funcs[p.1]? = some fn ∧ fn.body = some c ∧ (fn.name == "runtime.NumGoroutine") = false ∧ fn.ntmps = p.2.nt ∧ compC Tryz.prog 6 fn.ntmps (fun _ => false) c = some p.2.code ∧ compR Tryz.prog fn.results.toList = some p.2.res ∧ Nat.ble fn.ntmps 1048576 = true
noncomputable section
def cZ (f : Func) : ACode := (compC Tryz.prog 6 f.ntmps (fun _ => false) (f.body.getD .skip)).getD .bad
def eZ (f : Func) : Ent := ⟨f.ntmps, cZ f, (compR Tryz.prog f.results.toList).getD []⟩
def okZ (f : Func) : Bool := f.body.isSome && !(f.name == "runtime.NumGoroutine") && (compC Tryz.prog 6 f.ntmps (fun _ => false) (f.body.getD .skip)).isSome && (compR Tryz.prog f.results.toList).isSome && Nat.ble f.ntmps 1048576
theorem eokZ {n : Nat} {f : Func} (h : Tryz.prog.funcs[n]? = some f) (hb : okZ f = true) : EntOk (n, eZ f) := by
  unfold okZ at hb
  simp only [Bool.and_eq_true, Bool.not_eq_true'] at hb
  obtain ⟨⟨⟨⟨h1, h2⟩, h3⟩, h4⟩, h5⟩ := hb
  obtain ⟨c, hc⟩ := Option.isSome_iff_exists.1 h1
  obtain ⟨a, ha⟩ := Option.isSome_iff_exists.1 h3
  obtain ⟨r, hr⟩ := Option.isSome_iff_exists.1 h4
  refine ⟨f, c, h, hc, h2, rfl, ?_, ?_, h5⟩
  · have e : f.body.getD .skip = c := by rw [hc]; rfl
    show compC Tryz.prog 6 f.ntmps (fun _ => false) c = some (cZ f)
    unfold cZ
    rw [e] at ha ⊢
    rw [ha]; rfl
  · show compR Tryz.prog f.results.toList = some ((compR Tryz.prog f.results.toList).getD [])
    rw [hr]; rfl
end
theorem hpu0' {Γ : Gam} : PuOk Γ (fun _ => false) := fun f h => by cases h
structure Qe where
  f : Nat
  en : Ent
  q : Phi → HF
structure QeOk (p : Qe) : Prop where
  ent : EntOk (p.f, p.en)
  ok : ∀ Φ Γ, PhiOk Φ Γ → HOk (p.q Φ) (runF std Γ 1000000 p.en)
  lt : p.f < 1048576
theorem qe_of {f nt np : Nat} {kp : List Nat} {en : Ent} {q : Phi → HF} (h : EntOk (f, en)) (hq : thrF 1000000 (drOf nt kp) np en = q) (hf : Nat.blt f 1048576 = true) : QeOk ⟨f, en, q⟩ := ⟨h, fun Φ Γ hΦ => by subst hq; exact thrF_ok _ _ en hΦ, by rw [Nat.blt_eq] at hf; exact hf⟩
noncomputable def tabE : List Qe → T Ent
  | [] => .leaf
  | p :: l => (tabE l).put p.f p.en
noncomputable def tabP : List Qe → T (Phi → HF)
  | [] => .leaf
  | p :: l => (tabP l).put p.f p.q
theorem tabE_get : ∀ {l : List Qe}, (∀ p ∈ l, QeOk p) → ∀ f, (∀ x, (tabE l).get f = some x → ∃ q, (tabP l).get f = some q ∧ (∀ Φ Γ, PhiOk Φ Γ → HOk (q Φ) (runF std Γ 1000000 x)) ∧ EntOk (f, x)) ∧ ((tabE l).get f = none → (tabP l).get f = none)
  | [], _, f => ⟨fun x h => (by cases h), fun _ => rfl⟩
  | p :: l, hl, f => by
    have hp := hl p List.mem_cons_self
    obtain ⟨i1, i2⟩ := tabE_get (fun q hq => hl q (List.mem_cons_of_mem _ hq)) f
    simp only [tabE, tabP, T.get_put _ _ _ _ hp.lt]
    by_cases h : f = p.f
    · rw [if_pos h, if_pos h]
      refine ⟨fun x hx => ?_, fun h => (by cases h)⟩
      cases hx
      subst h
      exact ⟨p.q, rfl, hp.ok, hp.ent⟩
    · rw [if_neg h, if_neg h]; exact ⟨i1, i2⟩
theorem mixed : Tryz.prog.follows .mixedOrders = true := by kernel_rfl
end Go.Proofs.YtlgbdgpgdimpdaaGreatDoor.V2
namespace Go.Proofs.YtlgbdgpgdimpdaaGreatDoor.V2
open Go
open Go.RowKit
theorem eqIn_map {Pr : Program} (w : World) (d : Nat) (t k e : TypeId) (p : Option Nat) (h : Pr.underlying t = some (.map k e)) :
    (Op.equalIn (d + 1) t (.map p) (.map none)).run Pr w = .ok p.isNone w := by
  cases p <;> simp [Op.equalIn, run_underlying h]
theorem eql_map {Pr : Program} (w : World) (t k e : TypeId) (p : Option Nat) (h : Pr.underlying t = some (.map k e)) :
    (binOp .eql t (.map p) (.map none)).run Pr w = .ok (.bool p.isNone) w := by
  simp only [binOp]
  simp [show Op.equal t (.map p) (.map none) = Op.equalIn (9999 + 1) t (.map p) (.map none) from rfl, eqIn_map w 9999 t k e p h]
theorem assert_map {Pr : Program} (w : World) (t xT k e : TypeId) (v : Value) (h : Pr.underlying t = some (.map k e)) : (Instr.typeAssert (.iface t v) xT t false).run Pr w = .ok v w := by
  simp [Instr.typeAssert, run_underlying h, go_sem, Result.andThen]
theorem clone_map {Pr : Program} (w : World) {r : Nat} {es : Array MapEntry} {clock : Nat} (t : TypeId) (hb : w.heap[r]? = some (.map es clock)) :
    (Extern.MapsClone.clone #[.iface t (.map (some r))]).run Pr w = .ok (.iface t (.map (some w.heap.size))) (w.alloc (.map es clock)) := by
  have e : Extern.MapsClone.clone #[.iface t (.map (some r))] = (getObj r >>= fun o => match o with
      | .map entries clock => (newObj (.map entries clock) >>= fun n => pure (.iface t (.map (some n))))
      | _ => stuck "maps.clone: a map expected") := rfl
  rw [e]
  simp [MapKept.run_getObj_map hb, Result.andThen, go_sem]
set_option maxRecDepth 100000 in
set_option maxHeartbeats 2000000 in
theorem clone174 (b : Nat) (es : Array MapEntry) (clock : Nat) (w : World) (hb : w.heap[b]? = some (.map es clock)) :
    Calls Tryz.prog 168 #[.map (some b)] w fun e w' => e = .returned (.map (some w.heap.size)) ∧ w' = w.alloc (.map es clock) := by
  have hq := fun w => eql_map (Pr := Tryz.prog) w 246 _ _ (some b) Tryz.underlying246
  go_enter Tryz.func168, Tryz.ntmps168
  go_wp2
  rw [run_callFunc_extern Tryz.func190 (by kernel_rfl) (by kernel_rfl) (by kernel_rfl) (e := Extern.MapsClone.clone) (by kernel_rfl), clone_map w 246 hb]
  simp only [Result.andThen]
  rw [Oper.upon_value]
  go_wp2
  rw [assert_map _ 246 _ _ _ _ Tryz.underlying246]
  simp only [Result.andThen]
  rw [Oper.upon_value]
  go_wp2
  go_ret
  exact ⟨rfl, rfl⟩
set_option maxRecDepth 100000 in
set_option maxHeartbeats 2000000 in
theorem clone175 (b : Nat) (es : Array MapEntry) (clock : Nat) (w : World) (hb : w.heap[b]? = some (.map es clock)) :
    Calls Tryz.prog 169 #[.map (some b)] w fun e w' => e = .returned (.map (some w.heap.size)) ∧ w' = w.alloc (.map es clock) := by
  have hq := fun w => eql_map (Pr := Tryz.prog) w 249 _ _ (some b) Tryz.underlying249
  go_enter Tryz.func169, Tryz.ntmps169
  go_wp2
  rw [run_callFunc_extern Tryz.func190 (by kernel_rfl) (by kernel_rfl) (by kernel_rfl) (e := Extern.MapsClone.clone) (by kernel_rfl), clone_map w 249 hb]
  simp only [Result.andThen]
  rw [Oper.upon_value]
  go_wp2
  rw [assert_map _ 249 _ _ _ _ Tryz.underlying249]
  simp only [Result.andThen]
  rw [Oper.upon_value]
  go_wp2
  go_ret
  exact ⟨rfl, rfl⟩
noncomputable def mcF (g : FuncId → List AV → AH → Out) (f : FuncId) (args : List AV) (σ : AH) : Out :=
  bif Nat.beq f 168 || Nat.beq f 169 then (match args with
    | [.map b] => match σ.get b with
      | some (.map l) => (Nat.blt σ.next 1000000, .map σ.next, σ.new (.map l))
      | _ => bad σ
    | _ => bad σ)
  else g f args σ
theorem mcF_ok {Y : List Yl} {g : FuncId → List AV → AH → Out} (hg : FnOk Tryz.prog 6 g Y) : FnOk Tryz.prog 6 (mcF g) Y := by
  intro f args σ h
  unfold mcF at h ⊢
  cases hf : Nat.beq f 168 || Nat.beq f 169
  case false => rw [hf] at h; rw [cond_false] at h ⊢; exact hg f args σ h
  rw [hf] at h
  simp only [cond_true] at h ⊢
  split at h
  case h_2 => cases h
  rename_i b
  split at h
  case h_2 => cases h
  rename_i l hl
  have hfn : (∃ fn, Tryz.prog.funcs[f]? = some fn ∧ fn.body.isSome = true ∧ (fn.name == "runtime.NumGoroutine") = false) ∧ ∀ (c : Nat) (es : Array MapEntry) (clock : Nat) (w : World), w.heap[c]? = some (.map es clock) → Calls Tryz.prog f #[.map (some c)] w fun e w' => e = .returned (.map (some w.heap.size)) ∧ w' = w.alloc (.map es clock) := by
    rw [Bool.or_eq_true] at hf
    rcases hf with hf | hf
    · have e := Nat.eq_of_beq_eq_true hf; subst e
      exact ⟨⟨_, Tryz.func168, by kernel_rfl, by kernel_rfl⟩, fun c es ck w hw => clone174 c es ck w hw⟩
    · have e := Nat.eq_of_beq_eq_true hf; subst e
      exact ⟨⟨_, Tryz.func169, by kernel_rfl, by kernel_rfl⟩, fun c es ck w hw => clone175 c es ck w hw⟩
  refine ⟨hfn.1, fun ρ W vs _ hG hr hvs => ?_⟩
  obtain ⟨v, m, rfl, hv, hm⟩ := hvs
  have hm : m = [] := hm
  subst hm
  unfold VR at hv
  obtain ⟨c, d, hb, rfl⟩ := hv
  obtain ⟨_, hc, ob, ho, hO⟩ := hr.dom b c d hb
  rw [hl] at ho
  cases ho
  obtain ⟨es, ck, hx, h1, h2, h3⟩ := hO.2 l rfl
  refine (hfn.2 c es ck W hx).mono fun e W' ⟨e1, e2⟩ => ?_
  subst e1 e2
  have hOR : OR ρ (0, 0) (.map l) (some (.map es ck)) := ⟨fun h => (by cases h), fun l' hl' => (by cases hl'; exact ⟨es, ck, rfl, h1, h2, h3⟩)⟩
  obtain ⟨ρ', g1, g2, g3, g4⟩ := hr.new (s := 0) h hOR
  refine ⟨_, ρ', rfl, g3, g4, ?_⟩
  unfold VR
  exact ⟨_, _, g1, rfl⟩
end Go.Proofs.YtlgbdgpgdimpdaaGreatDoor.V2
namespace Go.Proofs.YtlgbdgpgdimpdaaGreatDoor.V2
open Go
set_option linter.unusedVariables false
noncomputable def cmA (args : List AV) (σ : AH) : Out := match args with
  | [.map b] => match σ.get b with
    | some (.map l) => (Nat.blt σ.next 1000000, .map σ.next, σ.new (.map l))
    | _ => bad σ
  | _ => bad σ
noncomputable def cmQ (l : List FV) (σ : FH) (k : KV) : FR := k1L l fun x => kM (fun b => gM σ b (kMp fun m => nM σ (.map m) fun b σ => k (.m b) σ)) x
theorem cmQ_sm (l : List FV) (σ : FH) (k : KV) : Sm (cmQ l σ k) k (cmA (αL l) (αH σ)) := by
  intro h
  unfold cmQ at h ⊢
  obtain ⟨x, rfl, h1⟩ := k1L_cases h
  rw [h1] at h ⊢
  obtain ⟨b, rfl, h2⟩ := kM_cases h
  rw [h2] at h ⊢
  obtain ⟨ob, _, h3, h4⟩ := gM_cases h
  rw [h4] at h ⊢
  obtain ⟨m, rfl, h5⟩ := kMp_cases h
  rw [h5] at h ⊢
  obtain ⟨h6, σ', h7, h8⟩ := nM_cases h
  rw [h8]
  refine ⟨.m σ.next, σ', ?_, rfl⟩
  unfold cmA
  simp only [αL, αV, h3, αO]
  rw [h6, h7]; rfl
end Go.Proofs.YtlgbdgpgdimpdaaGreatDoor.V2
namespace Go.Proofs.YtlgbdgpgdimpdaaGreatDoor.V2
open Go
open Go.RowKit
def hk0 : List UInt8 := [115, 101, 99, 114, 101, 116]
def hk1 : List UInt8 := [210, 252, 13, 157, 203, 250, 190, 114, 126, 45, 185, 163, 178, 251, 56, 18, 167, 172, 187, 78, 57, 63, 249, 231, 140, 3, 74, 226, 124, 52, 37, 140]
def hk2 : List UInt8 := [206, 51, 121, 254, 194, 226, 11, 65, 230, 1, 124, 65, 192, 211, 217, 210, 102, 192, 175, 42, 184, 72, 150, 245, 146, 92, 42, 175, 38, 179, 94, 57]
def hk3 : List UInt8 := [248, 193, 241, 102, 129, 247, 26, 164, 36, 175, 187, 206, 83, 255, 239, 232, 71, 230, 132, 102, 47, 159, 213, 160, 38, 31, 24, 212, 198, 213, 177, 133]
def hk4 : List UInt8 := [47, 209, 108, 33, 245, 163, 178, 104, 19, 174, 252, 10, 101, 28, 243, 202, 217, 174, 13, 224, 50, 125, 254, 250, 217, 251, 74, 190, 9, 159, 196, 157]
def hm0 : List UInt8 := [0, 5, 104, 101, 108, 108, 111]
def hr0 : List UInt8 := [210, 252, 13, 157, 203, 250, 190, 114, 126, 45, 185, 163, 178, 251, 56, 18, 167, 172, 187, 78, 57, 63, 249, 231, 140, 3, 74, 226, 124, 52, 37, 140]
set_option maxRecDepth 100000 in
theorem hmac_0 : hmB hk0 hm0 = hr0 := by decide +kernel
def hm1 : List UInt8 := [1, 0, 0, 0, 0, 0, 0, 0, 0, 0, 0, 0, 0, 0, 0, 0, 0, 0, 0, 0, 0, 0, 34, 0, 0, 0, 0, 0, 0, 0, 1, 0, 0, 0, 0, 0, 0, 0, 0, 0, 0, 0, 2, 1, 0, 0, 0, 1, 0, 0, 0, 0, 0, 0, 0, 0, 0]
def hr1 : List UInt8 := [153, 58, 4, 123, 191, 197, 199, 122, 204, 192, 161, 150, 244, 16, 148, 147, 112, 9, 217, 144, 206, 241, 38, 139, 43, 36, 149, 101, 142, 86, 133, 132]
set_option maxRecDepth 100000 in
theorem hmac_1 : hmB hk1 hm1 = hr1 := by decide +kernel
def hm2 : List UInt8 := [0, 5, 116, 111, 107, 101, 110]
def hr2 : List UInt8 := [206, 51, 121, 254, 194, 226, 11, 65, 230, 1, 124, 65, 192, 211, 217, 210, 102, 192, 175, 42, 184, 72, 150, 245, 146, 92, 42, 175, 38, 179, 94, 57]
set_option maxRecDepth 100000 in
theorem hmac_2 : hmB hk0 hm2 = hr2 := by decide +kernel
def hm3 : List UInt8 := [0, 0, 0, 7, 0, 0, 0, 1]
def hr3 : List UInt8 := [32, 140, 60, 6, 151, 188, 9, 192, 159, 92, 155, 246, 7, 188, 196, 159, 253, 44, 44, 211, 233, 246, 34, 215, 121, 186, 181, 129, 218, 31, 35, 150]
set_option maxRecDepth 100000 in
theorem hmac_3 : hmB hk2 hm3 = hr3 := by decide +kernel
def hm4 : List UInt8 := [2, 0, 0, 0, 7, 0, 0, 0, 1, 0, 0, 0, 0, 0, 0, 0, 0, 0, 0, 0, 0, 0, 28, 0, 0, 0, 0, 0, 0, 0, 1, 0, 0, 0, 0, 0, 0, 0, 1, 32, 140, 60, 6, 151, 188, 9, 192, 0, 0, 0, 0]
def hr4 : List UInt8 := [184, 187, 122, 80, 241, 251, 162, 192, 5, 245, 39, 62, 108, 187, 100, 48, 87, 182, 107, 89, 8, 22, 20, 144, 86, 29, 23, 22, 67, 124, 207, 33]
set_option maxRecDepth 100000 in
theorem hmac_4 : hmB hk1 hm4 = hr4 := by decide +kernel
def hm5 : List UInt8 := [0, 3, 119, 97, 121, 0, 0, 0, 1, 0, 0, 0, 0, 4, 0, 0, 0, 7, 0, 0, 0, 4, 0, 0, 0, 1, 0, 0, 0, 8, 0, 0, 0, 0, 0, 0, 0, 1, 0, 0, 0, 8, 0, 0, 0, 0, 0, 0, 0, 1]
def hr5 : List UInt8 := [248, 193, 241, 102, 129, 247, 26, 164, 36, 175, 187, 206, 83, 255, 239, 232, 71, 230, 132, 102, 47, 159, 213, 160, 38, 31, 24, 212, 198, 213, 177, 133]
set_option maxRecDepth 100000 in
theorem hmac_5 : hmB hk0 hm5 = hr5 := by decide +kernel
def hm6 : List UInt8 := [0, 3, 119, 97, 121, 0, 0, 0, 1, 1, 0, 0, 0, 4, 0, 0, 0, 7, 0, 0, 0, 4, 0, 0, 0, 1, 0, 0, 0, 8, 0, 0, 0, 0, 0, 0, 0, 1, 0, 0, 0, 8, 0, 0, 0, 0, 0, 0, 0, 1]
def hr6 : List UInt8 := [47, 209, 108, 33, 245, 163, 178, 104, 19, 174, 252, 10, 101, 28, 243, 202, 217, 174, 13, 224, 50, 125, 254, 250, 217, 251, 74, 190, 9, 159, 196, 157]
set_option maxRecDepth 100000 in
theorem hmac_6 : hmB hk0 hm6 = hr6 := by decide +kernel
def hm7 : List UInt8 := [3, 0, 0, 0, 7, 0, 0, 0, 1, 0, 0, 0, 0, 0, 0, 0, 0, 0, 0, 0, 0, 1, 0, 0, 0, 0, 0, 0, 1, 120, 120, 120, 120, 120, 120, 120, 120, 120, 120, 120, 120, 120, 120, 120, 120, 120, 120, 120, 120, 120, 120, 120, 120, 120, 120, 120, 120, 120, 120, 120, 120, 120, 120, 120, 120, 120, 120, 120, 120, 120, 120, 120, 120, 120, 120, 120, 120, 120, 120, 120, 120, 120, 120, 120, 120, 120, 120, 120, 120, 120, 120, 120, 120, 120, 120, 120, 120, 120, 120, 120, 120, 120, 120, 120, 120, 120, 120, 120, 120, 120, 120, 120, 120, 120, 120, 120, 120, 120, 120, 120, 120, 120, 120, 120, 120, 120, 120, 120, 120, 120, 120, 120, 120, 120, 120, 120, 120, 120, 120, 120, 120, 120, 120, 120, 120, 120, 120, 120, 120, 120, 120, 120, 120, 120, 120, 120, 120, 120, 120, 120, 120, 120, 120, 120, 120, 120, 120, 120, 120, 120, 120, 120, 120, 120, 120, 120, 120, 120, 120, 120, 120, 120, 120, 120, 120, 120, 120, 120, 120, 120, 120, 120, 120, 120, 120, 120, 120, 120, 120, 120, 120, 120, 120, 120, 120, 120, 120, 120, 120, 120, 120, 120, 120, 120, 120, 120, 120, 120, 120, 120, 120, 120, 120, 120, 120, 120, 120, 120, 120, 120, 120, 120, 120, 120, 120, 120, 120, 120, 120, 120, 120, 120, 120, 120, 120, 120, 120, 120, 120, 120, 120, 120, 120, 120, 120, 120, 120, 120, 120, 120, 120, 120, 120, 120, 120, 120, 120, 120, 120, 120, 120, 120, 120, 120, 120, 120, 120, 120, 120]
def hr7 : List UInt8 := [134, 238, 53, 156, 175, 152, 126, 150, 89, 238, 47, 89, 171, 54, 0, 39, 39, 24, 218, 22, 65, 172, 206, 123, 57, 95, 115, 203, 223, 154, 158, 245]
set_option maxRecDepth 100000 in
theorem hmac_7 : hmB hk3 hm7 = hr7 := by decide +kernel
def hm8 : List UInt8 := [3, 0, 0, 0, 7, 0, 0, 0, 1, 0, 0, 0, 1, 0, 0, 0, 0, 0, 0, 0, 0, 1, 0, 0, 0, 120, 120, 120, 120, 120, 120, 120, 120, 120, 120, 120, 120, 120, 120, 120, 120, 120, 120, 120, 120, 120, 120, 120, 120, 120, 120, 120, 120, 120, 120, 120, 120, 120, 120, 120, 120, 120, 120, 120, 120, 120, 120, 120, 120, 120, 120, 120, 120, 120, 120, 120, 120, 120, 120, 120, 120, 120, 120, 120, 120, 120, 120, 120, 120, 120, 120, 120, 120, 120, 120, 120, 120, 120, 120, 120, 120, 120, 120, 120, 120, 120, 120, 120, 120, 120, 120, 120, 120, 120, 120, 120, 120, 120, 120, 120, 120, 120, 120, 120, 120, 120, 120, 120, 120, 120, 120, 120, 120, 120, 120, 120, 120, 120, 120, 120, 120, 120, 120, 120, 120, 120, 120, 120, 120, 120, 120, 120, 120, 120, 120, 120, 120, 120, 120, 120, 120, 120, 120, 120, 120, 120, 120, 120, 120, 120, 120, 120, 120, 120, 120, 120, 120, 120, 120, 120, 120, 120, 120, 120, 120, 120, 120, 120, 120, 120, 120, 120, 120, 120, 120, 120, 120, 120, 120, 120, 120, 120, 120, 120, 120, 120, 120, 120, 120, 120, 120, 120, 120, 120, 120, 120, 120, 120, 120, 120, 120, 120, 120, 120, 120, 120, 120, 120, 120, 120, 120, 120, 120, 120, 120, 120, 120, 120, 120, 120, 120, 120, 120, 120, 120, 120, 120, 120, 120, 120, 120, 120, 120, 120, 120, 120, 120, 120, 120, 120, 120, 120, 120, 120, 120, 120, 120, 120, 120, 120, 120, 120, 120, 120, 120, 120, 120, 120, 120]
def hr8 : List UInt8 := [198, 131, 249, 30, 64, 27, 81, 220, 143, 189, 222, 28, 135, 114, 137, 188, 160, 194, 102, 102, 211, 31, 117, 28, 24, 106, 214, 95, 52, 123, 248, 165]
set_option maxRecDepth 100000 in
theorem hmac_8 : hmB hk3 hm8 = hr8 := by decide +kernel
def hm9 : List UInt8 := [3, 0, 0, 0, 7, 0, 0, 0, 1, 0, 0, 0, 2, 0, 0, 0, 0, 0, 0, 0, 0, 1, 0, 0, 0, 120, 120, 120, 120, 120, 120, 120, 120, 120, 120, 120, 120, 120, 120, 120, 120, 120, 120, 120, 120, 120, 120, 120, 120, 120, 120, 120, 120, 120, 120, 120, 120, 120, 120, 120, 120, 120, 120, 120, 120, 120, 120, 120, 120, 120, 120, 120, 120, 120, 120, 120, 120, 120, 120, 120, 120, 120, 120, 120, 120, 120, 120, 120, 120, 120, 120, 120, 120, 120, 120, 120, 120, 120, 120, 120, 120, 120, 120, 120, 120, 120, 120, 120, 120, 120, 120, 120, 120, 120, 120, 120, 120, 120, 120, 120, 120, 120, 120, 120, 120, 120, 120, 120, 120, 120, 120, 120, 120, 120, 120, 120, 120, 120, 120, 120, 120, 120, 120, 120, 120, 120, 120, 120, 120, 120, 120, 120, 120, 120, 120, 120, 120, 120, 120, 120, 120, 120, 120, 120, 120, 120, 120, 120, 120, 120, 120, 120, 120, 120, 120, 120, 120, 120, 120, 120, 120, 120, 120, 120, 120, 120, 120, 120, 120, 120, 120, 120, 120, 120, 120, 120, 120, 120, 120, 120, 120, 120, 120, 120, 120, 120, 120, 120, 120, 120, 120, 120, 120, 120, 120, 120, 120, 120, 120, 120, 120, 120, 120, 120, 120, 120, 120, 120, 120, 120, 120, 120, 120, 120, 120, 120, 120, 120, 120, 120, 120, 120, 120, 120, 120, 120, 120, 120, 120, 120, 120, 120, 120, 120, 120, 120, 120, 120, 120, 120, 120, 120, 120, 120, 120, 120, 120, 120, 120, 120, 120, 120, 120, 120, 120, 120, 120, 120, 120]
def hr9 : List UInt8 := [163, 184, 14, 71, 209, 145, 41, 162, 252, 212, 142, 181, 209, 96, 109, 249, 21, 80, 181, 175, 177, 125, 133, 234, 254, 37, 26, 222, 191, 16, 223, 88]
set_option maxRecDepth 100000 in
theorem hmac_9 : hmB hk3 hm9 = hr9 := by decide +kernel
def hm10 : List UInt8 := [3, 0, 0, 0, 7, 0, 0, 0, 1, 0, 0, 0, 3, 0, 0, 0, 0, 0, 0, 0, 0, 1, 0, 0, 0, 120, 120, 120, 120, 120, 120, 120, 120, 120, 120, 120, 120, 120, 120, 120, 120, 120, 120, 120, 120, 120, 120, 120, 120, 120, 120, 120, 120, 120, 120, 120, 120, 120, 120, 120, 120, 120, 120, 120, 120, 120, 120, 120, 120, 120, 120, 120, 120, 120, 120, 120, 120, 120, 120, 120, 120, 120, 120, 120, 120, 120, 120, 120, 120, 120, 120, 120, 120, 120, 120, 120, 120, 120, 120, 120, 120, 120, 120, 120, 120, 120, 120, 120, 120, 120, 120, 120, 120, 120, 120, 120, 120, 120, 120, 120, 120, 120, 120, 120, 120, 120, 120, 120, 120, 120, 120, 120, 120, 120, 120, 120, 120, 120, 120, 120, 120, 120, 120, 120, 120, 120, 120, 120, 120, 120, 120, 120, 120, 120, 120, 120, 120, 120, 120, 120, 120, 120, 120, 120, 120, 120, 120, 120, 120, 120, 120, 120, 120, 120, 120, 120, 120, 120, 120, 120, 120, 120, 120, 120, 120, 120, 120, 120, 120, 120, 120, 120, 120, 120, 120, 120, 120, 120, 120, 120, 120, 120, 120, 120, 120, 120, 120, 120, 120, 120, 120, 120, 120, 120, 120, 120, 120, 120, 120, 120, 120, 120, 120, 120, 120, 120, 120, 120, 120, 120, 120, 120, 120, 120, 120, 120, 120, 120, 120, 120, 120, 120, 120, 120, 120, 120, 120, 120, 120, 120, 120, 120, 120, 120, 120, 120, 120, 120, 120, 120, 120, 120, 120, 120, 120, 120, 120, 120, 120, 120, 120, 120, 120, 120, 120, 120, 120, 120, 120]
def hr10 : List UInt8 := [238, 70, 143, 195, 55, 254, 50, 75, 184, 110, 202, 49, 168, 18, 93, 204, 55, 0, 222, 150, 115, 124, 37, 6, 207, 14, 249, 132, 197, 126, 58, 152]
set_option maxRecDepth 100000 in
theorem hmac_10 : hmB hk3 hm10 = hr10 := by decide +kernel
def hm11 : List UInt8 := [3, 0, 0, 0, 7, 0, 0, 0, 1, 0, 0, 0, 4, 0, 0, 0, 0, 0, 0, 0, 0, 1, 0, 0, 0, 120, 120, 120, 120, 120, 120, 120, 120, 120, 120, 120, 120, 120, 120, 120, 120, 120, 120, 120, 120, 120, 120, 120, 120, 120, 120, 120, 120, 120, 120, 120, 120, 120, 120, 120, 120, 120, 120, 120, 120, 120, 120, 120, 120, 120, 120, 120, 120, 120, 120, 120, 120, 120, 120, 120, 120, 120, 120, 120, 120, 120, 120, 120, 120, 120, 120, 120, 120, 120, 120, 120, 120, 120, 120, 120, 120, 120, 120, 120, 120, 120, 120, 120, 120, 120, 120, 120, 120, 120, 120, 120, 120, 120, 120, 120, 120, 120, 120, 120, 120, 120, 120, 120, 120, 120, 120, 120, 120, 120, 120, 120, 120, 120, 120, 120, 120, 120, 120, 120, 120, 120, 120, 120, 120, 120, 120, 120, 120, 120, 120, 120, 120, 120, 120, 120, 120, 120, 120, 120, 120, 120, 120, 120, 120, 120, 120, 120, 120, 120, 120, 120, 120, 120, 120, 120, 120, 120, 120, 120, 120, 120, 120, 120, 120, 120, 120, 120, 120, 120, 120, 120, 120, 120, 120, 120, 120, 120, 120, 120, 120, 120, 120, 120, 120, 120, 120, 120, 120, 120, 120, 120, 120, 120, 120, 120, 120, 120, 120, 120, 120, 120, 120, 120, 120, 120, 120, 120, 120, 120, 120, 120, 120, 120, 120, 120, 120, 120, 120, 120, 120, 120, 120, 120, 120, 120, 120, 120, 120, 120, 120, 120, 120, 120, 120, 120, 120, 120, 120, 120, 120, 120, 120, 120, 120, 120, 120, 120, 120, 120, 120, 120, 120, 120, 120]
def hr11 : List UInt8 := [102, 3, 77, 228, 133, 36, 13, 196, 173, 171, 19, 125, 43, 255, 145, 81, 3, 114, 199, 250, 110, 123, 212, 220, 143, 115, 230, 6, 93, 178, 62, 24]
set_option maxRecDepth 100000 in
theorem hmac_11 : hmB hk3 hm11 = hr11 := by decide +kernel
def hm12 : List UInt8 := [3, 0, 0, 0, 7, 0, 0, 0, 1, 0, 0, 0, 5, 0, 0, 0, 0, 0, 0, 0, 0, 1, 0, 0, 0, 120, 120, 120, 120, 120, 120, 120, 120, 120, 120, 120, 120, 120, 120, 120, 120, 120, 120, 120, 120, 120, 120, 120, 120, 120, 120, 120, 120, 120, 120, 120, 120, 120, 120, 120, 120, 120, 120, 120, 120, 120, 120, 120, 120, 120, 120, 120, 120, 120, 120, 120, 120, 120, 120, 120, 120, 120, 120, 120, 120, 120, 120, 120, 120, 120, 120, 120, 120, 120, 120, 120, 120, 120, 120, 120, 120, 120, 120, 120, 120, 120, 120, 120, 120, 120, 120, 120, 120, 120, 120, 120, 120, 120, 120, 120, 120, 120, 120, 120, 120, 120, 120, 120, 120, 120, 120, 120, 120, 120, 120, 120, 120, 120, 120, 120, 120, 120, 120, 120, 120, 120, 120, 120, 120, 120, 120, 120, 120, 120, 120, 120, 120, 120, 120, 120, 120, 120, 120, 120, 120, 120, 120, 120, 120, 120, 120, 120, 120, 120, 120, 120, 120, 120, 120, 120, 120, 120, 120, 120, 120, 120, 120, 120, 120, 120, 120, 120, 120, 120, 120, 120, 120, 120, 120, 120, 120, 120, 120, 120, 120, 120, 120, 120, 120, 120, 120, 120, 120, 120, 120, 120, 120, 120, 120, 120, 120, 120, 120, 120, 120, 120, 120, 120, 120, 120, 120, 120, 120, 120, 120, 120, 120, 120, 120, 120, 120, 120, 120, 120, 120, 120, 120, 120, 120, 120, 120, 120, 120, 120, 120, 120, 120, 120, 120, 120, 120, 120, 120, 120, 120, 120, 120, 120, 120, 120, 120, 120, 120, 120, 120, 120, 120, 120, 120]
def hr12 : List UInt8 := [179, 40, 31, 77, 221, 149, 215, 139, 74, 109, 240, 129, 145, 194, 51, 197, 232, 221, 216, 38, 40, 73, 131, 138, 205, 170, 210, 75, 252, 70, 195, 144]
set_option maxRecDepth 100000 in
theorem hmac_12 : hmB hk3 hm12 = hr12 := by decide +kernel
def hm13 : List UInt8 := [3, 0, 0, 0, 7, 0, 0, 0, 1, 0, 0, 0, 6, 0, 0, 0, 0, 0, 0, 0, 0, 1, 0, 0, 0, 120, 120, 120, 120, 120, 120, 120, 120, 120, 120, 120, 120, 120, 120, 120, 120, 120, 120, 120, 120, 120, 120, 120, 120, 120, 120, 120, 120, 120, 120, 120, 120, 120, 120, 120, 120, 120, 120, 120, 120, 120, 120, 120, 120, 120, 120, 120, 120, 120, 120, 120, 120, 120, 120, 120, 120, 120, 120, 120, 120, 120, 120, 120, 120, 120, 120, 120, 120, 120, 120, 120, 120, 120, 120, 120, 120, 120, 120, 120, 120, 120, 120, 120, 120, 120, 120, 120, 120, 120, 120, 120, 120, 120, 120, 120, 120, 120, 120, 120, 120, 120, 120, 120, 120, 120, 120, 120, 120, 120, 120, 120, 120, 120, 120, 120, 120, 120, 120, 120, 120, 120, 120, 120, 120, 120, 120, 120, 120, 120, 120, 120, 120, 120, 120, 120, 120, 120, 120, 120, 120, 120, 120, 120, 120, 120, 120, 120, 120, 120, 120, 120, 120, 120, 120, 120, 120, 120, 120, 120, 120, 120, 120, 120, 120, 120, 120, 120, 120, 120, 120, 120, 120, 120, 120, 120, 120, 120, 120, 120, 120, 120, 120, 120, 120, 120, 120, 120, 120, 120, 120, 120, 120, 120, 120, 120, 120, 120, 120, 120, 120, 120, 120, 120, 120, 120, 120, 120, 120, 120, 120, 120, 120, 120, 120, 120, 120, 120, 120, 120, 120, 120, 120, 120, 120, 120, 120, 120, 120, 120, 120, 120, 120, 120, 120, 120, 120, 120, 120, 120, 120, 120, 120, 120, 120, 120, 120, 120, 120, 120, 120, 120, 120, 120, 120]
def hr13 : List UInt8 := [143, 71, 157, 97, 41, 127, 136, 74, 132, 215, 19, 154, 4, 36, 204, 101, 100, 251, 170, 199, 187, 63, 164, 201, 88, 125, 112, 177, 194, 34, 111, 123]
set_option maxRecDepth 100000 in
theorem hmac_13 : hmB hk3 hm13 = hr13 := by decide +kernel
def hm14 : List UInt8 := [3, 0, 0, 0, 7, 0, 0, 0, 1, 0, 0, 0, 7, 0, 0, 0, 0, 0, 0, 0, 0, 1, 0, 0, 0, 120, 120, 120, 120, 120, 120, 120, 120, 120, 120, 120, 120, 120, 120, 120, 120, 120, 120, 120, 120, 120, 120, 120, 120, 120, 120, 120, 120, 120, 120, 120, 120, 120, 120, 120, 120, 120, 120, 120, 120, 120, 120, 120, 120, 120, 120, 120, 120, 120, 120, 120, 120, 120, 120, 120, 120, 120, 120, 120, 120, 120, 120, 120, 120, 120, 120, 120, 120, 120, 120, 120, 120, 120, 120, 120, 120, 120, 120, 120, 120, 120, 120, 120, 120, 120, 120, 120, 120, 120, 120, 120, 120, 120, 120, 120, 120, 120, 120, 120, 120, 120, 120, 120, 120, 120, 120, 120, 120, 120, 120, 120, 120, 120, 120, 120, 120, 120, 120, 120, 120, 120, 120, 120, 120, 120, 120, 120, 120, 120, 120, 120, 120, 120, 120, 120, 120, 120, 120, 120, 120, 120, 120, 120, 120, 120, 120, 120, 120, 120, 120, 120, 120, 120, 120, 120, 120, 120, 120, 120, 120, 120, 120, 120, 120, 120, 120, 120, 120, 120, 120, 120, 120, 120, 120, 120, 120, 120, 120, 120, 120, 120, 120, 120, 120, 120, 120, 120, 120, 120, 120, 120, 120, 120, 120, 120, 120, 120, 120, 120, 120, 120, 120, 120, 120, 120, 120, 120, 120, 120, 120, 120, 120, 120, 120, 120, 120, 120, 120, 120, 120, 120, 120, 120, 120, 120, 120, 120, 120, 120, 120, 120, 120, 120, 120, 120, 120, 120, 120, 120, 120, 120, 120, 120, 120, 120, 120, 120, 120, 120, 120, 120, 120, 120, 120]
def hr14 : List UInt8 := [76, 87, 168, 106, 37, 236, 204, 95, 171, 99, 163, 225, 225, 66, 234, 205, 220, 254, 54, 117, 239, 147, 198, 72, 153, 204, 142, 102, 84, 57, 222, 203]
set_option maxRecDepth 100000 in
theorem hmac_14 : hmB hk3 hm14 = hr14 := by decide +kernel
def hm15 : List UInt8 := [3, 0, 0, 0, 7, 0, 0, 0, 1, 0, 0, 0, 8, 0, 0, 0, 0, 0, 0, 0, 0, 0, 22, 0, 1, 120, 120, 120, 120, 120, 120, 120, 120, 120, 120, 120, 120, 120, 120, 120, 120, 120, 120, 120, 120]
def hr15 : List UInt8 := [134, 170, 149, 207, 191, 31, 36, 105, 65, 114, 83, 18, 69, 6, 100, 0, 15, 172, 7, 126, 47, 65, 134, 160, 79, 215, 135, 53, 235, 74, 178, 163]
set_option maxRecDepth 100000 in
theorem hmac_15 : hmB hk3 hm15 = hr15 := by decide +kernel
def hm16 : List UInt8 := [3, 0, 0, 0, 7, 0, 0, 0, 1, 0, 0, 0, 9, 0, 0, 0, 0, 0, 0, 0, 0, 0, 6, 1, 1, 0, 0, 0, 1]
def hr16 : List UInt8 := [163, 167, 148, 71, 51, 23, 246, 126, 5, 92, 48, 255, 151, 159, 54, 136, 106, 111, 168, 36, 209, 1, 77, 118, 206, 241, 240, 88, 102, 10, 72, 194]
set_option maxRecDepth 100000 in
theorem hmac_16 : hmB hk3 hm16 = hr16 := by decide +kernel
def hm17 : List UInt8 := [1, 0, 0, 0, 7, 0, 0, 0, 1, 0, 0, 0, 0, 0, 0, 0, 0, 0, 0, 0, 0, 0, 34, 0, 0, 0, 0, 0, 0, 0, 4, 32, 140, 60, 6, 151, 188, 9, 192, 0, 0, 0, 2, 1, 0, 0, 0, 1, 0, 0, 0, 0, 0, 0, 0, 0, 0]
def hr17 : List UInt8 := [95, 36, 213, 132, 224, 200, 131, 224, 220, 62, 109, 92, 225, 105, 45, 103, 14, 6, 215, 176, 255, 157, 240, 99, 243, 128, 5, 24, 148, 38, 249, 166]
set_option maxRecDepth 100000 in
theorem hmac_17 : hmB hk1 hm17 = hr17 := by decide +kernel
def hm18 : List UInt8 := [3, 0, 0, 0, 7, 0, 0, 0, 1, 0, 0, 0, 0, 0, 0, 0, 0, 0, 0, 0, 0, 0, 7, 0, 1, 0, 0, 0, 1, 97]
def hr18 : List UInt8 := [63, 85, 75, 184, 188, 89, 82, 200, 64, 133, 108, 26, 230, 159, 230, 208, 68, 255, 43, 5, 56, 178, 11, 161, 152, 218, 146, 155, 156, 194, 134, 197]
set_option maxRecDepth 100000 in
theorem hmac_18 : hmB hk3 hm18 = hr18 := by decide +kernel
def hm19 : List UInt8 := [3, 0, 0, 0, 7, 0, 0, 0, 1, 0, 0, 0, 0, 0, 0, 0, 1, 0, 0, 0, 0, 0, 12, 2, 1, 0, 0, 0, 1, 0, 0, 0, 0, 97, 98]
def hr19 : List UInt8 := [6, 195, 210, 39, 102, 20, 30, 120, 190, 134, 250, 18, 2, 58, 81, 168, 78, 157, 138, 55, 169, 2, 245, 153, 1, 234, 205, 143, 139, 222, 237, 236]
set_option maxRecDepth 100000 in
theorem hmac_19 : hmB hk4 hm19 = hr19 := by decide +kernel
def hm20 : List UInt8 := [3, 0, 0, 0, 7, 0, 0, 0, 1, 0, 0, 0, 1, 0, 0, 0, 1, 0, 0, 0, 0, 0, 12, 2, 1, 0, 0, 0, 1, 0, 0, 0, 1, 98, 99]
def hr20 : List UInt8 := [56, 255, 12, 156, 31, 85, 71, 129, 170, 68, 81, 132, 31, 23, 143, 25, 253, 35, 94, 162, 200, 153, 114, 21, 230, 154, 31, 202, 16, 90, 223, 172]
set_option maxRecDepth 100000 in
theorem hmac_20 : hmB hk4 hm20 = hr20 := by decide +kernel
def hm21 : List UInt8 := [3, 0, 0, 0, 7, 0, 0, 0, 1, 0, 0, 0, 2, 0, 0, 0, 1, 0, 0, 0, 0, 0, 15, 4, 1, 0, 0, 0, 1, 0, 0, 0, 0, 3, 0, 0, 0, 0]
def hr21 : List UInt8 := [158, 146, 169, 227, 253, 98, 100, 228, 122, 20, 217, 20, 231, 228, 60, 46, 32, 72, 152, 254, 221, 178, 208, 135, 165, 20, 112, 61, 202, 85, 40, 88]
set_option maxRecDepth 100000 in
theorem hmac_21 : hmB hk4 hm21 = hr21 := by decide +kernel
def hmT (k l : List Int) : List Int := bif decide (l = bI hm0) && decide (k = bI hk0) then bI hr0 else bif decide (l = bI hm1) && decide (k = bI hk1) then bI hr1 else bif decide (l = bI hm2) && decide (k = bI hk0) then bI hr2 else bif decide (l = bI hm3) && decide (k = bI hk2) then bI hr3 else bif decide (l = bI hm4) && decide (k = bI hk1) then bI hr4 else bif decide (l = bI hm5) && decide (k = bI hk0) then bI hr5 else bif decide (l = bI hm6) && decide (k = bI hk0) then bI hr6 else bif decide (l = bI hm7) && decide (k = bI hk3) then bI hr7 else bif decide (l = bI hm8) && decide (k = bI hk3) then bI hr8 else bif decide (l = bI hm9) && decide (k = bI hk3) then bI hr9 else bif decide (l = bI hm10) && decide (k = bI hk3) then bI hr10 else bif decide (l = bI hm11) && decide (k = bI hk3) then bI hr11 else bif decide (l = bI hm12) && decide (k = bI hk3) then bI hr12 else bif decide (l = bI hm13) && decide (k = bI hk3) then bI hr13 else bif decide (l = bI hm14) && decide (k = bI hk3) then bI hr14 else bif decide (l = bI hm15) && decide (k = bI hk3) then bI hr15 else bif decide (l = bI hm16) && decide (k = bI hk3) then bI hr16 else bif decide (l = bI hm17) && decide (k = bI hk1) then bI hr17 else bif decide (l = bI hm18) && decide (k = bI hk3) then bI hr18 else bif decide (l = bI hm19) && decide (k = bI hk4) then bI hr19 else bif decide (l = bI hm20) && decide (k = bI hk4) then bI hr20 else bif decide (l = bI hm21) && decide (k = bI hk4) then bI hr21 else []
theorem hmT_step {l k : List Int} {m kk r : List UInt8} {rest : List Int} (hr : hmB kk m = r) (ih : rest ≠ [] → rest = hmI k l) (h : (bif decide (l = bI m) && decide (k = bI kk) then bI r else rest) ≠ []) : (bif decide (l = bI m) && decide (k = bI kk) then bI r else rest) = hmI k l := by
  by_cases h0 : l = bI m ∧ k = bI kk
  · rw [decide_eq_true h0.1, decide_eq_true h0.2, Bool.and_true, cond_true]
    unfold hmI
    rw [h0.1, h0.2, toBs_bI, toBs_bI, hr]
  · have e0 : (decide (l = bI m) && decide (k = bI kk)) = false := by rw [Bool.and_eq_false_iff, decide_eq_false_iff_not, decide_eq_false_iff_not]; exact Decidable.not_and_iff_or_not.1 h0
    rw [e0, cond_false] at h ⊢
    exact ih h
theorem hmT_ok {k l : List Int} (h : hmT k l ≠ []) : hmT k l = hmI k l := by
  unfold hmT at h ⊢
  revert h
  refine hmT_step hmac_0 ?_
  refine hmT_step hmac_1 ?_
  refine hmT_step hmac_2 ?_
  refine hmT_step hmac_3 ?_
  refine hmT_step hmac_4 ?_
  refine hmT_step hmac_5 ?_
  refine hmT_step hmac_6 ?_
  refine hmT_step hmac_7 ?_
  refine hmT_step hmac_8 ?_
  refine hmT_step hmac_9 ?_
  refine hmT_step hmac_10 ?_
  refine hmT_step hmac_11 ?_
  refine hmT_step hmac_12 ?_
  refine hmT_step hmac_13 ?_
  refine hmT_step hmac_14 ?_
  refine hmT_step hmac_15 ?_
  refine hmT_step hmac_16 ?_
  refine hmT_step hmac_17 ?_
  refine hmT_step hmac_18 ?_
  refine hmT_step hmac_19 ?_
  refine hmT_step hmac_20 ?_
  refine hmT_step hmac_21 ?_
  exact fun h => absurd rfl h
noncomputable def hmA (args : List AV) (σ : AH) : Out := match args with
  | [k, s] => match bytesA std byI σ k with
    | (ok1, kl) => match listA std byI σ s with
      | (ok, ps) => (ok1 && ok && Nat.ble kl.length 10000000000 && Nat.ble ps.length 1000000 && Nat.ble ps.flatten.length 10000000000 && globA σ 4 isS && globA σ 5 isK && !(hmT kl ps.flatten).isEmpty, .ints .u8 (hmT kl ps.flatten), σ)
  | _ => bad σ
noncomputable def hmF (g : FuncId → List AV → AH → Out) (f : FuncId) (args : List AV) (σ : AH) : Out := bif Nat.beq f 157 then hmA args σ else g f args σ
theorem hmF_ok {Y : List Yl} {g : FuncId → List AV → AH → Out} (hg : FnOk Tryz.prog 6 g Y) : FnOk Tryz.prog 6 (hmF g) Y := by
  have isS' : ∀ l, isS l = true → l = wI S0 := fun l h => by simpa [isS] using h
  have isK' : ∀ l, isK l = true → l = wI KK := fun l h => by simpa [isK] using h
  intro f args σ h
  unfold hmF at h ⊢
  cases h14 : Nat.beq f 157
  case false => rw [h14] at h; rw [cond_false] at h ⊢; exact hg f args σ h
  rw [h14] at h
  have e := Nat.eq_of_beq_eq_true h14
  subst e
  simp only [cond_true] at h ⊢
  unfold hmA at h ⊢
  split at h
  case h_2 => cases h
  rename_i k s
  refine ⟨⟨_, Tryz.func157, by kernel_rfl, by kernel_rfl⟩, fun ρ W vs _ hG hr hvs => ?_⟩
  obtain ⟨u, v, rfl, hu, hv⟩ := vrs_two hvs
  have hB := fun h => bytes_of hr hu h
  have hL := fun h => list_of hr hv h
  dsimp only at h ⊢
  generalize bytesA std byI σ k = q1 at h hB ⊢
  generalize listA std byI σ s = q at h hL ⊢
  obtain ⟨ok1, kl⟩ := q1
  obtain ⟨ok, ps⟩ := q
  simp only [Bool.and_eq_true, Nat.ble_eq] at h hB hL ⊢
  obtain ⟨⟨⟨⟨⟨⟨⟨h0, h1⟩, h2⟩, h2'⟩, h3⟩, h4⟩, h5⟩, h6⟩ := h
  obtain ⟨us, hP⟩ := hL h1
  have h7 : hmT kl ps.flatten ≠ [] := by
    intro e
    rw [e] at h6
    cases h6
  rw [hmT_ok h7]
  obtain ⟨s3, hs3⟩ := hG 5 (by decide)
  refine (hmac_any u v (toBs kl) us _ W (hB h0).1 (by rw [toBs_length]; exact h2) hP (by rw [List.length_map]; omega) (by rw [flatten_toBs, toBs_length]; omega) (glob_of hr isK' rfl (hG 5 (by decide)) h5) (glob_of hr isS' rfl (hG 4 (by decide)) h4) (hr.dom _ _ _ hs3).2.1).mono fun e W' ⟨e1, e2⟩ => ?_
  subst e1
  rw [flatten_toBs]
  exact ⟨_, ρ, rfl, hr.below e2, Stp.below (Nat.le_refl _) e2, vr_bytes _⟩
end Go.Proofs.YtlgbdgpgdimpdaaGreatDoor.V2
namespace Go.Proofs.YtlgbdgpgdimpdaaGreatDoor.V2
open Go
theorem hmA_mem (args : List AV) (σ : AH) : (hmA args σ).2.2 = σ := by
  unfold hmA
  split
  · rfl
  · rfl
noncomputable def hmQ (l : List FV) (σ : FH) (k : KV) : FR := slV ((hmA (αL l) (αH σ)).1, (hmA (αL l) (αH σ)).2.1) fun v => k v σ
theorem hmQ_sm (l : List FV) (σ : FH) (k : KV) : Sm (hmQ l σ k) k (hmA (αL l) (αH σ)) := by
  have e : hmA (αL l) (αH σ) = ((hmA (αL l) (αH σ)).1, (hmA (αL l) (αH σ)).2.1, αH σ) := by
    have := hmA_mem (αL l) (αH σ)
    generalize hmA (αL l) (αH σ) = r at this
    obtain ⟨a, b, c⟩ := r
    cases this; rfl
  unfold hmQ
  rw [e]
  exact Sm.ofv (slV_sv _ _)
end Go.Proofs.YtlgbdgpgdimpdaaGreatDoor.V2
namespace Go.Proofs.YtlgbdgpgdimpdaaGreatDoor.V2
open Go
set_option linter.unusedVariables false
open Go.RowKit
def memM : List AObj := [(AObj.cells [AV.nilfn, AV.fn (Go.Fn.func 253) [] [], AV.fn (Go.Fn.func 253) [] [], AV.fn (Go.Fn.func 254) [] [], AV.fn (Go.Fn.func 255) [] [], AV.fn (Go.Fn.func 253) [] []] 225 (Tl.ro)), (AObj.ints (IntKind.i64) [0, 0, 1, 1, 1] 61 (Tl.ro)), (AObj.ints (IntKind.u32) [0, 498536548, 997073096, 651767980, 1994146192, 1802195444, 1303535960, 1342533948, 3988292384, 4027552580, 3604390888, 3412177804, 2607071920, 2262029012, 2685067896, 3183342108] 270 (Tl.ro)), (AObj.cells [] 0 (Tl.ro)), (AObj.ints (IntKind.u32) [1779033703, 3144134277, 1013904242, 2773480762, 1359893119, 2600822924, 528734635, 1541459225] 309 (Tl.ro)), (AObj.ints (IntKind.u32) [1116352408, 1899447441, 3049323471, 3921009573, 961987163, 1508970993, 2453635748, 2870763221, 3624381080, 310598401, 607225278, 1426881987, 1925078388, 2162078206, 2614888103, 3248222580, 3835390401, 4022224774, 264347078, 604807628, 770255983, 1249150122, 1555081692, 1996064986, 2554220882, 2821834349, 2952996808, 3210313671, 3336571891, 3584528711, 113926993, 338241895, 666307205, 773529912, 1294757372, 1396182291, 1695183700, 1986661051, 2177026350, 2456956037, 2730485921, 2820302411, 3259730800, 3345764771, 3516065817, 3600352804, 4094571909, 275423344, 430227734, 506948616, 659060556, 883997877, 958139571, 1322822218, 1537002063, 1747873779, 1955562222, 2024104815, 2227730452, 2361852424, 2428436474, 2756734187, 3204031479, 3329325298] 327 (Tl.ro))]
def TM : List UInt32 := [0, 498536548, 997073096, 651767980, 1994146192, 1802195444, 1303535960, 1342533948, 3988292384, 4027552580, 3604390888, 3412177804, 2607071920, 2262029012, 2685067896, 3183342108]
def mayM : List Value := [.nilFunc, .func (.func 253) #[] #[], .func (.func 253) #[] #[], .func (.func 254) #[] #[], .func (.func 255) #[] #[], .func (.func 253) #[] #[]]
def GlobTM (w : World) : Prop := ∀ i, i < 16 → w.cell? ⟨2, i, none⟩ = some (.int .u32 (N32 (at32 TM i)))
def GlobFM (w : World) : Prop := ∀ i, i < 6 → w.cell? ⟨0, i, none⟩ = some (mayM.getD i .nilFunc)
def zM : List Int := [0, 0, 1, 1, 1]
def GlobZM (w : World) : Prop := ∀ i, i < 5 → w.cell? ⟨1, i, none⟩ = some (.int .i64 (zM.getD i 0))
structure GlobM (w : World) : Prop where
  z : GlobZM w
  f : GlobFM w
  t : GlobTM w
  s : GlobS w
  k : GlobK w
  size : 5 < w.heap.size
def rM : Ren := rL [some (0, (0, 6)), some (1, (0, 5)), some (2, (0, 16)), some (3, (0, 1)), some (4, (0, 8)), some (5, (0, 64))]
theorem rM_glob : ∀ g, g < 6 → ∃ s, rM g = some (g, (0, s)) := fun g hg => by
  match g, hg with
  | 0, _ => exact ⟨6, rfl⟩
  | 1, _ => exact ⟨5, rfl⟩
  | 2, _ => exact ⟨16, rfl⟩
  | 3, _ => exact ⟨1, rfl⟩
  | 4, _ => exact ⟨8, rfl⟩
  | 5, _ => exact ⟨64, rfl⟩
theorem memM_sh : ∀ o ∈ memM, o.isSh = true := by
  intro o ho
  simp only [memM, List.mem_cons, List.not_mem_nil, or_false] at ho
  rcases ho with rfl | rfl | rfl | rfl | rfl | rfl <;> rfl
theorem memM_ro : ∀ o ∈ memM, o.isRo = true := fun o ho => AObj.isSh_ro (memM_sh o ho)
theorem or_croM {ρ : Ren} {w : World} {b D : Nat} {l : List AV} {e : TypeId} (hD : l.length ≤ D) (hl : 0 < l.length) (h : ∀ i a, l[i]? = some a → ∃ v, w.cell? ⟨b, i, none⟩ = some v ∧ VR ρ a v) : OR ρ (0, D) (.cells l e .ro) w.heap[b]? := ⟨fun _ => by
  refine ⟨hD, fun _ => ?_⟩
  obtain ⟨v0, h0, _⟩ := h (l.length - 1) l[l.length - 1] (List.getElem?_eq_getElem (by omega))
  obtain ⟨c, t, fr, hb, hc⟩ := cell_row h0
  refine ⟨c, t, fr, hb, (fun hh => by cases hh), ?_, hD, fun i a hi => ?_⟩
  · have := (Array.getElem?_eq_some_iff.1 hc).1
    show l.length + 0 ≤ c.size
    omega
  · obtain ⟨v, hv, hr⟩ := h i a hi
    obtain ⟨c', t', fr', hb', hc'⟩ := cell_row hv
    rw [hb] at hb'; cases hb'
    exact ⟨v, hc', hr⟩, fun l e => by cases e⟩
theorem vr_fnM {ρ : Ren} (n : Nat) : VR ρ (.fn (.func n) [] []) (.func (.func n) #[] #[]) := by
  unfold VR; exact ⟨[], [], rfl, rfl, rfl⟩
theorem row_ofM {w : World} {b n k : Nat} {T : List UInt32} {l : List Int} {e : TypeId} (hn : T.length = n) (hl : l = wI T) (h : ∀ i, i < n → w.cell? ⟨b, i, none⟩ = some (.int .u32 (N32 (at32 T i)))) (hk : n = k) : ∀ ρ, OR ρ (0, k) (.ints .u32 l e .ro) w.heap[b]? := fun ρ => by
  subst hl hk
  refine or_ro (by rw [wI_length]; omega) fun i hi => ?_
  rw [wI_getD, Nat.zero_add]; exact h i (by rw [wI_length] at hi; omega)
theorem hrM {w : World} (h : GlobM w) : HR rM (hL memM) w := by
  refine hr_ro (by show 6 ≤ _; omega) rfl memM_sh fun b c d o hb ho => ?_
  have hs := h.size
  match b with
  | 1 => cases hb; cases ho; exact ⟨by omega, or_ro (k := .i64) (l := zM) (Nat.le_refl _) fun i hi => by rw [Nat.zero_add]; exact h.z i hi⟩
  | 0 =>
    cases hb; cases ho
    refine ⟨by omega, or_croM (Nat.le_refl _) (by decide) fun i a hi => ?_⟩
    match i, hi with
    | 0, hi => cases hi; exact ⟨_, h.f 0 (by omega), rfl⟩
    | 1, hi => cases hi; exact ⟨_, h.f 1 (by omega), vr_fnM 253⟩
    | 2, hi => cases hi; exact ⟨_, h.f 2 (by omega), vr_fnM 253⟩
    | 3, hi => cases hi; exact ⟨_, h.f 3 (by omega), vr_fnM 254⟩
    | 4, hi => cases hi; exact ⟨_, h.f 4 (by omega), vr_fnM 255⟩
    | 5, hi => cases hi; exact ⟨_, h.f 5 (by omega), vr_fnM 253⟩
    | n + 6, hi => cases hi
  | 2 => cases hb; cases ho; exact ⟨by omega, row_ofM (T := TM) (n := 16) rfl (by decide +kernel) h.t rfl _⟩
  | 4 => cases hb; cases ho; exact ⟨by omega, row_ofM (T := S0) (n := 8) rfl (by decide +kernel) h.s rfl _⟩
  | 3 => cases hb; cases ho; exact ⟨by omega, OR.shut (Nat.zero_le _)⟩
  | 5 => cases hb; cases ho; exact ⟨by omega, row_ofM (T := KK) (n := 64) rfl (by decide +kernel) h.k rfl _⟩
  | n + 6 => cases hb
end Go.Proofs.YtlgbdgpgdimpdaaGreatDoor.V2
namespace Go.Proofs.YtlgbdgpgdimpdaaGreatDoor
open Go.ChangeShapes Go.WideShapes Go.ChangeAt Go.RowKit
section
variable {H : Type} {enc : TypeId × Value → H} {P : Program}
theorem trodAll_stays (hl : laidOutB P = true) {W W' : World} {sp' : Nat → Bool} : ∀ {ts : List TypeId} {vs : List Value} {ds : List (DataW H)} {ps : List MemPlace}, (∀ t ∈ ts, P.readableRec t = true ∧ t < P.types.size) →
    DataW.TrodAll enc P W 0 (fun _ => true) true ts vs ds ps → (∀ p ∈ ps, W.sameAt W' p) → (∀ p ∈ ps, sp' p.block = true) → DataW.TrodAll enc P W' 0 sp' true ts vs ds ps
  | [], _, _, _, _, h, _, _ => by
    obtain ⟨rfl, rfl, rfl⟩ := trodAll_nil h
    exact trodAll_mk0
  | t :: ts, _, _, _, ht, h, h1, h2 => by
    obtain ⟨v, vs1, d, ds1, a, b, rfl, rfl, rfl, ha, hb⟩ := trodAll_cons h
    exact trodAll_cons_mk (WideElems.Trod_stays hl (ht t (by simp)).1 (ht t (by simp)).2 ha (fun p hp => h1 p (by simp [hp])) (fun p hp => h2 p (by simp [hp])))
      (trodAll_stays hl (fun t' h' => ht t' (by simp [h'])) hb (fun p hp => h1 p (by simp [hp])) (fun p hp => h2 p (by simp [hp])))
theorem post_of_below {f : Func} {s : ChangeSpec} {apart fresh handsOn again : Bool} {W W' : World} {args : Array Value} {v : Value} {ds gs : List (DataW H)} {before : List MemPlace}
    (hW : DataW.Whole enc P f.params.toList s.vars apart W args.toList ds gs before) (hl : laidOutB P = true) (hsv : s.vars = []) (hts : ∀ t ∈ f.params.toList, P.readableRec t = true ∧ t < P.types.size)
    (hb : Below W.heap.size W W') (ha : (s.fn H (ds ++ gs)).args = ds) (hgv : (s.fn H (ds ++ gs)).vars = [])
    (hres : ∀ (b : Nat) (sp : Nat → Bool) (hd : Bool), DataW.TrodAll enc P W' b sp hd f.resultTypes.toList (v.resultList f.resultTypes.size) (s.fn H (ds ++ gs)).results [])
    (hok : ∀ (j : Nat) (t : TypeId) (r : Value), f.resultTypes[j]? = some t → (v.resultList f.resultTypes.size)[j]? = some r → Value.okWide P W' .any 0 t r) :
    s.post enc P f apart fresh handsOn again W args v W' := by
  have hlt := hW.lt
  have hW0 := hW
  obtain ⟨p, q, hA0, hV, rfl, hz, hn⟩ := hW
  have hA : DataW.TrodAll enc P W 0 (fun _ => true) true f.params.toList args.toList ds p := hA0
  rw [hsv] at hV
  obtain ⟨rfl, rfl⟩ := trodVars_none hV
  rw [List.append_nil] at hlt hz hn
  have hs : ∀ x ∈ p, W.sameAt W' x := fun x hx => hb.same (hlt x hx)
  have hargs : ∀ sp : Nat → Bool, (∀ x ∈ p, sp x.block = true) → DataW.TrodAll enc P W' 0 sp true f.params.toList args.toList (s.fn H (ds ++ [])).args p := fun sp hsp => by
    rw [ha]; exact trodAll_stays hl hts hA hs hsp
  have hvars : ∀ sp : Nat → Bool, DataW.TrodVars enc P W' sp s.vars (s.fn H (ds ++ [])).vars [] := fun sp => by rw [hgv, hsv]; rfl
  have hold : ∀ x ∈ p, (fun b => decide (b < W.heap.size)) x.block = true := fun x hx => by simpa using hlt x hx
  refine ⟨ds, [], p ++ [], [], p, [], hW0, hres _ _ _, hargs _ hold, hvars _, ?_, fun _ => ?_⟩
  · exact hb.frame _
  · refine ⟨hok, _, _, ([] ++ p) ++ [], ⟨[] ++ p, [], trodAll_append (hargs _ (fun _ _ => rfl)) (hres _ _ _), hvars _, rfl, ?_, ?_⟩, ?_⟩
    · intro b off hp
      simp only [List.nil_append, List.append_nil] at hp
      rw [hb.frozen (hlt _ hp)]
      exact hz b off hp
    · intro h'
      simpa using hn h'
    · intro x hx _
      simpa using hx
end
theorem laidOut : laidOutB Tryz.prog = true := by kernel_rfl
theorem own : ownKnob Tryz.prog.godebug = none := by kernel_rfl
/-! The program's tables. -/
theorem gStart : Tryz.prog.globalNamed "longwire/hash.start" = some 4 := by kernel_rfl
theorem gConst : Tryz.prog.globalNamed "longwire/hash.constants" = some 5 := by kernel_rfl
theorem gTable : Tryz.prog.globalNamed "longwire/scribe.table" = some 2 := by kernel_rfl
theorem gMay : Tryz.prog.globalNamed "longwire/frame.may" = some 0 := by kernel_rfl
theorem gStartType : (Tryz.prog.globals[4]?).map (·.type) = some 309 := by kernel_rfl
theorem gConstType : (Tryz.prog.globals[5]?).map (·.type) = some 327 := by kernel_rfl
theorem gTableType : (Tryz.prog.globals[2]?).map (·.type) = some 270 := by kernel_rfl
theorem gMayType : (Tryz.prog.globals[0]?).map (·.type) = some 225 := by kernel_rfl
theorem cells23_ : Tryz.prog.cellsOf 24 = 1 := by kernel_rfl
theorem cells351_ : Tryz.prog.cellsOf 309 = 8 := by kernel_rfl
theorem cells374_ : Tryz.prog.cellsOf 327 = 64 := by kernel_rfl
theorem cells349_ : Tryz.prog.cellsOf 270 = 16 := by kernel_rfl
theorem cells325_ : Tryz.prog.cellsOf 224 = 1 := by kernel_rfl
theorem tabS_eq {H : Type} : (Rows.laid_longwire_hash_start : DataW H) = Lib.tabData .u32 (S0.map N32) := by kernel_rfl
theorem tabK_eq {H : Type} : (Rows.laid_longwire_hash_constants : DataW H) = Lib.tabData .u32 (KK.map N32) := by kernel_rfl
theorem tabT_eq {H : Type} : (Rows.laid_longwire_scribe_table : DataW H) = Lib.tabData .u32 (V2.TM.map N32) := by kernel_rfl
theorem row_laid {W : World} {name : String} {g t : Nat} {n : Nat} {T : List UInt32} {data : DataW Unit} {rest : List (String × DataW Unit)} (hg : Tryz.prog.globalNamed name = some g) (ht : (Tryz.prog.globals[g]?).map (·.type) = some t)
    (hu : Tryz.prog.underlying t = some (.array n 24)) (hc : Tryz.prog.cellsOf t = n) (hd : data = Lib.tabData .u32 (T.map N32)) (h : laidMet Tryz.prog ((name, data) :: rest) W) : ∀ i, i < T.length → W.cell? ⟨g, i, none⟩ = some (.int .u32 (N32 (at32 T i))) := by
  rw [hd] at h
  intro i hi
  have := (Lib.tabIs_of_head hg ht hu Tryz.underlying24 cells23_ hc h).cell hg i (by simpa using hi)
  rw [this]
  simp [at32, List.getD_eq_getElem?_getD, hi]
theorem nil_of_trod {w : World} {sp : Nat → Bool} {fuel : Nat} {t : TypeId} {ps rs : Array TypeId} {va : Bool} {v : Value} {q : List MemPlace} (ht : Tryz.prog.underlying t = some (.func ps rs va))
    (h : DataW.trod (funcToken Tryz.prog) Tryz.prog w 0 sp true fuel t [v] = some (.nil, q)) : v = .nilFunc := by
  cases fuel with
  | zero => simp [DataW.trod] at h
  | succ n => cases v <;> simp [DataW.trod, ht] at h ⊢
set_option maxRecDepth 100000 in
theorem globF_of {W : World} (h : funcsAt Tryz.prog W "longwire/frame.may" (.agg [.nil, .iface "func" (.lit (.string [108, 111, 110, 103, 119, 105, 114, 101, 47, 102, 114, 97, 109, 101, 46, 98, 97, 114, 101])), .iface "func" (.lit (.string [108, 111, 110, 103, 119, 105, 114, 101, 47, 102, 114, 97, 109, 101, 46, 98, 97, 114, 101])), .iface "func" (.lit (.string [108, 111, 110, 103, 119, 105, 114, 101, 47, 102, 114, 97, 109, 101, 46, 109, 97, 121, 36, 49])), .iface "func" (.lit (.string [108, 111, 110, 103, 119, 105, 114, 101, 47, 102, 114, 97, 109, 101, 46, 109, 97, 121, 36, 50])), .iface "func" (.lit (.string [108, 111, 110, 103, 119, 105, 114, 101, 47, 102, 114, 97, 109, 101, 46, 98, 97, 114, 101]))])) : V2.GlobFM W := by
  obtain ⟨g, t, cs, fuel, p, hg, ht, hv, hd⟩ := h
  obtain rfl := Option.some.inj (gMay.symm.trans hg)
  obtain rfl := Option.some.inj (gMayType.symm.trans ht)
  obtain ⟨xs, m, _, hx, _, hlen, hel⟩ := DataW.trod_array Tryz.underlying225 hd
  rw [cells325_] at hel
  have hx2 : (DataW.agg ([.nil, .held [108, 111, 110, 103, 119, 105, 114, 101, 47, 102, 114, 97, 109, 101, 46, 98, 97, 114, 101], .held [108, 111, 110, 103, 119, 105, 114, 101, 47, 102, 114, 97, 109, 101, 46, 98, 97, 114, 101], .held [108, 111, 110, 103, 119, 105, 114, 101, 47, 102, 114, 97, 109, 101, 46, 109, 97, 121, 36, 49], .held [108, 111, 110, 103, 119, 105, 114, 101, 47, 102, 114, 97, 109, 101, 46, 109, 97, 121, 36, 50], .held [108, 111, 110, 103, 119, 105, 114, 101, 47, 102, 114, 97, 109, 101, 46, 98, 97, 114, 101]] : List (DataW (List UInt8))), p) = (.agg (xs.map (·.1)), xs.flatMap (·.2)) := hx
  have hx1 : xs.map (·.1) = ([.nil, .held [108, 111, 110, 103, 119, 105, 114, 101, 47, 102, 114, 97, 109, 101, 46, 98, 97, 114, 101], .held [108, 111, 110, 103, 119, 105, 114, 101, 47, 102, 114, 97, 109, 101, 46, 98, 97, 114, 101], .held [108, 111, 110, 103, 119, 105, 114, 101, 47, 102, 114, 97, 109, 101, 46, 109, 97, 121, 36, 49], .held [108, 111, 110, 103, 119, 105, 114, 101, 47, 102, 114, 97, 109, 101, 46, 109, 97, 121, 36, 50], .held [108, 111, 110, 103, 119, 105, 114, 101, 47, 102, 114, 97, 109, 101, 46, 98, 97, 114, 101]] : List (DataW (List UInt8))) := (DataW.agg.inj (Prod.mk.inj hx2).1).symm
  have key : ∀ (i : Nat) (d : DataW (List UInt8)), i < 6 → ([.nil, .held [108, 111, 110, 103, 119, 105, 114, 101, 47, 102, 114, 97, 109, 101, 46, 98, 97, 114, 101], .held [108, 111, 110, 103, 119, 105, 114, 101, 47, 102, 114, 97, 109, 101, 46, 98, 97, 114, 101], .held [108, 111, 110, 103, 119, 105, 114, 101, 47, 102, 114, 97, 109, 101, 46, 109, 97, 121, 36, 49], .held [108, 111, 110, 103, 119, 105, 114, 101, 47, 102, 114, 97, 109, 101, 46, 109, 97, 121, 36, 50], .held [108, 111, 110, 103, 119, 105, 114, 101, 47, 102, 114, 97, 109, 101, 46, 98, 97, 114, 101]] : List (DataW (List UInt8)))[i]? = some d → ∃ v q, cs[i]? = some v ∧ DataW.trod (funcToken Tryz.prog) Tryz.prog W 0 (fun _ => true) true m 224 [v] = some (d, q) := fun i d hi hd => by
    have h1 := hel i hi
    rw [← hx1, List.getElem?_map, Option.map_eq_some_iff] at hd
    obtain ⟨⟨d', q⟩, hq, rfl⟩ := hd
    rw [hq, Nat.mul_one] at h1
    cases hc : cs.toList.drop i with
    | nil => rw [hc] at h1; cases m <;> simp [DataW.trod, Tryz.underlying224] at h1
    | cons v r =>
      rw [hc] at h1
      refine ⟨v, q, ?_, h1⟩
      rw [← Array.getElem?_toList, ← Nat.add_zero i, ← List.getElem?_drop, hc]; rfl
  intro i hi
  rw [World.var?_cell hg hv i]
  match i, hi with
  | 0, _ =>
    obtain ⟨v, q, hc, hr⟩ := key 0 _ (by omega) rfl
    rw [hc]
    rw [nil_of_trod Tryz.underlying224 hr]; rfl
  | 1, _ =>
    obtain ⟨v, q, hc, hr⟩ := key 1 _ (by omega) rfl
    rw [hc]
    rw [func_of_trod (f0 := 253) Tryz.underlying224 (by kernel_rfl) hr]; rfl
  | 2, _ =>
    obtain ⟨v, q, hc, hr⟩ := key 2 _ (by omega) rfl
    rw [hc]
    rw [func_of_trod (f0 := 253) Tryz.underlying224 (by kernel_rfl) hr]; rfl
  | 3, _ =>
    obtain ⟨v, q, hc, hr⟩ := key 3 _ (by omega) rfl
    rw [hc]
    rw [func_of_trod (f0 := 254) Tryz.underlying224 (by kernel_rfl) hr]; rfl
  | 4, _ =>
    obtain ⟨v, q, hc, hr⟩ := key 4 _ (by omega) rfl
    rw [hc]
    rw [func_of_trod (f0 := 255) Tryz.underlying224 (by kernel_rfl) hr]; rfl
  | 5, _ =>
    obtain ⟨v, q, hc, hr⟩ := key 5 _ (by omega) rfl
    rw [hc]
    rw [func_of_trod (f0 := 253) Tryz.underlying224 (by kernel_rfl) hr]; rfl
theorem gFrom : Tryz.prog.globalNamed "longwire/mux.from" = some 1 := by kernel_rfl
theorem gFromType : (Tryz.prog.globals[1]?).map (·.type) = some 61 := by kernel_rfl
theorem cells3_ : Tryz.prog.cellsOf 3 = 1 := by kernel_rfl
theorem cells200_ : Tryz.prog.cellsOf 61 = 5 := by kernel_rfl
theorem globZ_of {W : World} {rest : List (String × DataW Unit)} (h : laidMet Tryz.prog (("longwire/mux.from", Rows.laid_longwire_mux_from) :: rest) W) : V2.GlobZM W := by
  have e : (Rows.laid_longwire_mux_from : DataW Unit) = Lib.tabData .i64 V2.zM := by kernel_rfl
  rw [e] at h
  intro i hi
  have hi' : i < V2.zM.length := hi
  have := (Lib.tabIs_of_head gFrom gFromType Tryz.underlying61 Tryz.underlying3 cells3_ cells200_ h).cell gFrom i hi'
  rw [this]
theorem globs_of {W : World} (h : laidMetH Tryz.prog Rows.clientKnownRow.laid W) : V2.GlobM W := by
  have hd : laidMet Tryz.prog [("longwire/hash.start", Rows.laid_longwire_hash_start), ("longwire/hash.constants", Rows.laid_longwire_hash_constants), ("longwire/scribe.table", Rows.laid_longwire_scribe_table), ("longwire/mux.from", Rows.laid_longwire_mux_from)] W := h.1
  have hK := row_laid gConst gConstType Tryz.underlying327 cells374_ tabK_eq hd.tail
  refine ⟨globZ_of hd.tail.tail.tail, globF_of (h.funcs (by simp [Rows.clientKnownRow, Rows.laid_longwire_frame_may])), row_laid gTable gTableType Tryz.underlying270 cells349_ tabT_eq hd.tail.tail, row_laid gStart gStartType Tryz.underlying309 cells351_ tabS_eq hd, hK, ?_⟩
  have := hK 0 (by decide)
  unfold World.cell? at this
  split at this
  · rename_i hh; exact (Array.getElem?_eq_some_iff.1 hh).1
  · cases this
end Go.Proofs.YtlgbdgpgdimpdaaGreatDoor
