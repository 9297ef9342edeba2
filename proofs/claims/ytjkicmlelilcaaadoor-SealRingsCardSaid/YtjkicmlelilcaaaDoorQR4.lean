/- Part 4 of the proof: texts of the proof. -/
import Derived.Test.YtjkicmlelilcaaaDoorQR3
import Derived.WalkSpells
import Derived.WalkLawsBesides
import Derived.Lib.Hide
import Derived.Laws.CopyOwn
import Derived.Lib.AppendZerosOnto
import Derived.Lib.Overlaps
import Derived.Deep.RegionLaw
import Derived.Deep.MidRow
import Derived.StillTailTactics
import Derived.Deep.RegionHeld3
import Derived.Lib.SlBytesConst
import Derived.ChangeKeysEq
import Derived.Laws.StructEq
import Derived.Lib.ConvBytes
namespace Go.Proofs.YtjkicmlelilcaaaDoor
open Go
noncomputable def ofL : List (Nat × AV) → T AV
  | [] => .leaf
  | p :: l => (ofL l).put p.1 p.2
theorem ofL_get : ∀ (l : List (Nat × AV)) (t : Nat) (v : AV), (∀ p ∈ l, Nat.blt p.1 1048576 = true) → (ofL l).get t = some v → (t, v) ∈ l
  | [], t, v, _, h => by cases h
  | p :: l, t, v, hs, h => by
    have hp := hs p List.mem_cons_self
    rw [Nat.blt_eq] at hp
    simp only [ofL, T.get_put _ _ _ _ hp] at h
    by_cases ht : t = p.1
    · rw [if_pos ht] at h; cases h; rw [ht]; exact List.mem_cons_self
    · rw [if_neg ht] at h; exact List.mem_cons_of_mem _ (ofL_get l t v (fun q hq => hs q (List.mem_cons_of_mem _ hq)) h)
def Has (env : T AV) : List (Nat × AV) → Prop
  | [] => True
  | p :: l => (env.get p.1 = some p.2 ∧ Nat.blt p.1 1048576 = true) ∧ Has env l
theorem Has.mem {env : T AV} : ∀ {l : List (Nat × AV)}, Has env l → ∀ p ∈ l, env.get p.1 = some p.2 ∧ Nat.blt p.1 1048576 = true
  | [], _, p, hp => by cases hp
  | q :: l, h, p, hp => by
    rcases List.mem_cons.1 hp with rfl | hp
    · exact h.1
    · exact Has.mem h.2 p hp
theorem Wk.env {G nt N : Nat} {env : T AV} {σ : AH} {l : List (Nat × AV)} (h : Has env l) (hN : N ≤ σ.next) : Wk G nt N env σ (ofL l) σ := fun ρ W hr =>
  ⟨ρ, hr, fun a he => ⟨he.small, he.size, he.glob, fun t v ht => he.at_ t v (by
      have hm := ofL_get l t v (fun p hp => (h.mem p hp).2) ht
      exact (h.mem _ hm).1)⟩, fun _ _ => rfl, fun b c d hb => ⟨b, d, hb⟩, hN, fun _ _ => rfl⟩
section
variable {A : Ar} {Γ : Gam} {G nt N : Nat} {K : AK} {env : T AV} {σ : AH}
theorem avc_reg {rows : List CRow} {r : Bool × T AV × AH} (h : evP A Γ rows env σ = r) (h1 : r.1 = true) (h2 : K .normal r.2.1 r.2.2) : avc A Γ G nt N (.reg rows) K env σ := by
  show (evP A Γ rows env σ).1 = true ∧ K .normal (evP A Γ rows env σ).2.1 (evP A Γ rows env σ).2.2
  rw [h]; exact ⟨h1, h2⟩
theorem avc_regd {st : List (Nat × CRow)} {ds : List (Option Nat)} {r : Bool × T AV × AH} (h : evDr A Γ st ds env σ = r) (h1 : r.1 = true) (h2 : K .normal r.2.1 r.2.2) : avc A Γ G nt N (.regd st ds) K env σ := by
  show (evDr A Γ st ds env σ).1 = true ∧ K .normal (evDr A Γ st ds env σ).2.1 (evDr A Γ st ds env σ).2.2
  rw [h]; exact ⟨h1, h2⟩
theorem avc_seq_reg {rows : List CRow} {b : ACode} {r : Bool × T AV × AH} (h : evP A Γ rows env σ = r) (h1 : r.1 = true) (h2 : avc A Γ G nt N b K r.2.1 r.2.2) : avc A Γ G nt N (.seq (.reg rows) b) K env σ := avc_reg (G := G) (nt := nt) (N := N) (K := AK.seq (avc A Γ G nt N b K) K) h h1 h2
theorem avc_seq_regd {st : List (Nat × CRow)} {ds : List (Option Nat)} {b : ACode} {r : Bool × T AV × AH} (h : evDr A Γ st ds env σ = r) (h1 : r.1 = true) (h2 : avc A Γ G nt N b K r.2.1 r.2.2) : avc A Γ G nt N (.seq (.regd st ds) b) K env σ := avc_regd (G := G) (nt := nt) (N := N) (K := AK.seq (avc A Γ G nt N b K) K) h h1 h2
theorem avc_seq {a b : ACode} (h : avc A Γ G nt N a (AK.seq (avc A Γ G nt N b K) K) env σ) : avc A Γ G nt N (.seq a b) K env σ := h
theorem avc_block {id : Nat} {c : ACode} (h : avc A Γ G nt N c (AK.block id K) env σ) : avc A Γ G nt N (.block id c) K env σ := h
theorem avc_cond {c : Ref} {a b : ACode} {t : Bool} (hc : evS env c = .bool t) (h1 : t = true → avc A Γ G nt N a K env σ) (h2 : t = false → avc A Γ G nt N b K env σ) : avc A Γ G nt N (.cond c a b) K env σ := by
  show (match evS env c with | .bool t => (t = true → avc A Γ G nt N a K env σ) ∧ (t = false → avc A Γ G nt N b K env σ) | _ => False)
  rw [hc]; exact ⟨h1, h2⟩
theorem avc_loop {c : ACode} (I : T AV → AH → Prop) (μ : T AV → AH → Nat) {env1 : T AV} {σ1 : AH} (hw : Wk G nt N env σ env1 σ1) (h0 : I env1 σ1)
    (hr : ∀ env σ, I env σ → avc A Γ G nt N c (AK.seq (fun env' σ' => ∃ env2 σ2, Wk G nt N env' σ' env2 σ2 ∧ I env2 σ2 ∧ μ env2 σ2 < μ env σ) K) env σ) : avc A Γ G nt N (.loop c) K env σ :=
  ⟨I, μ, ⟨env1, σ1, hw, h0⟩, hr⟩
theorem avc_seq_seq {a b c : ACode} (h : avc A Γ G nt N (.seq a (.seq b c)) K env σ) : avc A Γ G nt N (.seq (.seq a b) c) K env σ := by
  have e : ∀ e env σ, AK.seq (avc A Γ G nt N (.seq b c) K) K e env σ → AK.seq (avc A Γ G nt N b (AK.seq (avc A Γ G nt N c K) K)) (AK.seq (avc A Γ G nt N c K) K) e env σ := fun e env σ h => by cases e <;> exact h
  have mono : ∀ (a : ACode) (K K' : AK), (∀ e env σ, K e env σ → K' e env σ) → ∀ env σ, avc A Γ G nt N a K env σ → avc A Γ G nt N a K' env σ := by
    intro a
    induction a with
    | skip => intro K K' hk env σ h; exact hk _ _ _ h
    | ret => intro K K' hk env σ h; exact hk _ _ _ h
    | exit id => intro K K' hk env σ h; exact hk _ _ _ h
    | seq a b iha ihb => intro K K' hk env σ h; exact iha _ _ (fun e env σ h => by cases e <;> first | exact ihb _ _ hk _ _ h | exact hk _ _ _ h) _ _ h
    | cond c a b iha ihb =>
      intro K K' hk env σ h
      unfold avc at h ⊢
      cases hc : evS env c <;> rw [hc] at h <;> try exact h.elim
      exact ⟨fun ht => iha _ _ hk _ _ (h.1 ht), fun ht => ihb _ _ hk _ _ (h.2 ht)⟩
    | block id a ih =>
      intro K K' hk env σ h
      refine ih _ _ (fun e env σ h => ?_) _ _ h
      cases e
      case exit i =>
        simp only [AK.block] at h ⊢
        split at h
        · rename_i hi; rw [if_pos hi]; exact hk _ _ _ h
        · rename_i hi; rw [if_neg hi]; exact hk _ _ _ h
      all_goals exact hk _ _ _ h
    | loop a ih =>
      intro K K' hk env σ h
      obtain ⟨I, μ, h0, hr⟩ := h
      exact ⟨I, μ, h0, fun env σ hI => ih _ _ (fun e env σ h => by cases e <;> first | exact h | exact hk _ _ _ h) _ _ (hr env σ hI)⟩
    | reg rows => intro K K' hk env σ h; exact ⟨h.1, hk _ _ _ h.2⟩
    | regd st ds => intro K K' hk env σ h; exact ⟨h.1, hk _ _ _ h.2⟩
  exact mono a _ _ e env σ h
theorem avc_seq_block {id : Nat} {a b : ACode} (h : avc A Γ G nt N a (AK.block id (AK.seq (avc A Γ G nt N b K) K)) env σ) : avc A Γ G nt N (.seq (.block id a) b) K env σ := h
theorem avc_seq_cond {c : Ref} {a b d : ACode} {t : Bool} (hc : evS env c = .bool t) (h1 : t = true → avc A Γ G nt N (.seq a d) K env σ) (h2 : t = false → avc A Γ G nt N (.seq b d) K env σ) : avc A Γ G nt N (.seq (.cond c a b) d) K env σ :=
  avc_cond (K := AK.seq (avc A Γ G nt N d K) K) hc h1 h2
theorem avc_seq_skip {b : ACode} (h : avc A Γ G nt N b K env σ) : avc A Γ G nt N (.seq .skip b) K env σ := h
theorem avc_seq_exit {b : ACode} {id : Nat} (h : K (.exit id) env σ) : avc A Γ G nt N (.seq (.exit id) b) K env σ := h
end
end Go.Proofs.YtjkicmlelilcaaaDoor
namespace Go.Proofs.YtjkicmlelilcaaaDoor
open Go
mutual
def mapV (r : Nat → Nat) : AV → AV
  | .top => .top
  | .bool b => .bool b
  | .int k n => .int k n
  | .str l => .str l
  | .ptr b o => .ptr (r b) o
  | .nilptr => .nilptr
  | .sl b o n k e z => .sl (r b) o n k e z
  | .nilsl => .nilsl
  | .map b => .map (r b)
  | .nilmap => .nilmap
  | .fn f xs ys => .fn f (mapVs r xs) (mapVs r ys)
  | .nilfn => .nilfn
  | .ifc t a => .ifc t (mapV r a)
  | .nilifc => .nilifc
  | .agg l => .agg (mapVs r l)
  | .ints k l => .ints k l
  | .tup l => .tup (mapVs r l)
def mapVs (r : Nat → Nat) : List AV → List AV
  | [] => []
  | a :: l => mapV r a :: mapVs r l
end
def mapO (r : Nat → Nat) : AObj → AObj
  | .dead => .dead
  | .cells l e t => .cells (mapVs r l) e t
  | .ints k l e t => .ints k l e t
theorem mapVs_at (r : Nat → Nat) : ∀ (l : List AV) (i : Nat), (mapVs r l)[i]? = (l[i]?).map (mapV r)
  | [], i => by simp [mapVs]
  | a :: l, 0 => by simp [mapVs]
  | a :: l, i + 1 => by simp [mapVs, mapVs_at r l i]
theorem mapVs_length (r : Nat → Nat) : ∀ (l : List AV), (mapVs r l).length = l.length
  | [] => rfl
  | a :: l => by simp [mapVs, mapVs_length r l]
mutual
def below (n : Nat) : AV → Bool
  | .ptr b _ => Nat.blt b n
  | .sl b _ _ _ _ _ => Nat.blt b n
  | .map b => Nat.blt b n
  | .fn _ xs ys => belows n xs && belows n ys
  | .ifc _ a => below n a
  | .agg l => belows n l
  | .tup l => belows n l
  | .top => true
  | .bool _ => true
  | .int _ _ => true
  | .str _ => true
  | .nilptr => true
  | .nilsl => true
  | .nilmap => true
  | .nilfn => true
  | .nilifc => true
  | .ints _ _ => true
def belows (n : Nat) : List AV → Bool
  | [] => true
  | a :: l => below n a && belows n l
end
def belowO (n : Nat) : AObj → Bool
  | .dead => true
  | .cells l _ _ => belows n l
  | .ints _ _ _ _ => true
theorem belows_at {n : Nat} : ∀ {l : List AV}, belows n l = true → ∀ (i : Nat) a, l[i]? = some a → below n a = true
  | [], _, i, a, h => by simp at h
  | x :: l, hb, 0, a, h => by
    unfold belows at hb; rw [Bool.and_eq_true] at hb
    simp only [List.getElem?_cons_zero, Option.some.injEq] at h; subst h; exact hb.1
  | x :: l, hb, i + 1, a, h => by
    unfold belows at hb; rw [Bool.and_eq_true] at hb
    exact belows_at hb.2 i a (by simpa using h)
theorem lt_of_blt {a b : Nat} (h : Nat.blt a b = true) : a < b := by rwa [Nat.blt_eq] at h
mutual
theorem VR.unmap {ρ ρ' : Ren} {r : Nat → Nat} {n : Nat} (h : ∀ b x, b < n → ρ (r b) = some x → ρ' b = some x) : ∀ (a : AV) (v : Value), below n a = true → VR ρ (mapV r a) v → VR ρ' a v
  | .top, _, _, _ => trivial
  | .bool _, _, _, e => e
  | .int _ _, _, _, e => e
  | .str _, _, _, e => e
  | .ptr _ _, _, hb, ⟨c, d, hc, e⟩ => ⟨c, d, h _ _ (lt_of_blt hb) hc, e⟩
  | .nilptr, _, _, e => e
  | .sl _ _ _ _ _ _, _, hb, .inl ⟨c, d, o, k, hc, e⟩ => .inl ⟨c, d, o, k, h _ _ (lt_of_blt hb) hc, e⟩
  | .sl _ _ _ _ _ _, _, _, .inr e => .inr e
  | .nilsl, _, _, e => e
  | .map _, _, hb, ⟨c, d, hc, e⟩ => ⟨c, d, h _ _ (lt_of_blt hb) hc, e⟩
  | .nilmap, _, _, e => e
  | .fn _ xs ys, _, hb, ⟨us, vs, e, h1, h2⟩ => ⟨us, vs, e, VRs.unmap h xs us ((Bool.and_eq_true _ _).mp hb).1 h1, VRs.unmap h ys vs ((Bool.and_eq_true _ _).mp hb).2 h2⟩
  | .nilfn, _, _, e => e
  | .ifc _ a, _, hb, ⟨u, e, hu⟩ => ⟨u, e, VR.unmap h a u hb hu⟩
  | .nilifc, _, _, e => e
  | .agg l, _, hb, ⟨us, e, hu⟩ => ⟨us, e, VRs.unmap h l us hb hu⟩
  | .ints _ _, _, _, e => e
  | .tup l, _, hb, ⟨us, e, hu⟩ => ⟨us, e, VRs.unmap h l us hb hu⟩
theorem VRs.unmap {ρ ρ' : Ren} {r : Nat → Nat} {n : Nat} (h : ∀ b x, b < n → ρ (r b) = some x → ρ' b = some x) : ∀ (l : List AV) (vs : List Value), belows n l = true → VRs ρ (mapVs r l) vs → VRs ρ' l vs
  | [], _, _, e => e
  | a :: l, _, hb, ⟨v, m, e, hv, hm⟩ => ⟨v, m, e, VR.unmap h a v ((Bool.and_eq_true _ _).mp hb).1 hv, VRs.unmap h l m ((Bool.and_eq_true _ _).mp hb).2 hm⟩
end
noncomputable def ofM : List (Nat × AObj) → T AObj
  | [] => .leaf
  | p :: l => (ofM l).put p.1 p.2
def Had (r : Nat → Nat) (σ : AH) (n : Nat) : List (Nat × AObj) → Prop
  | [] => True
  | p :: l => (Nat.blt p.1 n = true ∧ σ.get (r p.1) = some (mapO r p.2)) ∧ Had r σ n l
theorem Had.mem {r : Nat → Nat} {σ : AH} {n : Nat} : ∀ {l : List (Nat × AObj)}, Had r σ n l → ∀ p ∈ l, p.1 < n ∧ σ.get (r p.1) = some (mapO r p.2)
  | [], _, p, hp => by cases hp
  | q :: l, h, p, hp => by
    rcases List.mem_cons.1 hp with rfl | hp
    · exact ⟨by have := h.1.1; rwa [Nat.blt_eq] at this, h.1.2⟩
    · exact Had.mem h.2 p hp
theorem ofM_get : ∀ (l : List (Nat × AObj)) (t : Nat) (v : AObj), (∀ p ∈ l, p.1 < 1048576) → (ofM l).get t = some v → (t, v) ∈ l
  | [], t, v, _, h => by cases h
  | p :: l, t, v, hs, h => by
    simp only [ofM, T.get_put _ _ _ _ (hs p List.mem_cons_self)] at h
    by_cases ht : t = p.1
    · rw [if_pos ht] at h; cases h; rw [ht]; exact List.mem_cons_self
    · rw [if_neg ht] at h; exact List.mem_cons_of_mem _ (ofM_get l t v (fun q hq => hs q (List.mem_cons_of_mem _ hq)) h)
theorem mapO_spec (r : Nat → Nat) (o : AObj) : (mapO r o).alive = o.alive ∧ (mapO r o).isRo = o.isRo ∧ (mapO r o).len = o.len ∧ (mapO r o).elem = o.elem ∧ ∀ i a, o.at i = some a → (mapO r o).at i = some (mapV r a) := by
  cases o with
  | dead => exact ⟨rfl, rfl, rfl, rfl, fun i a h => by cases h⟩
  | cells l e t => exact ⟨rfl, rfl, mapVs_length r l, rfl, fun i a h => by simp only [AObj.at, mapO] at h ⊢; rw [mapVs_at, h]; rfl⟩
  | ints k l e t => exact ⟨rfl, rfl, rfl, rfl, fun i a h => by
      simp only [AObj.at, mapO] at h ⊢
      rw [h]
      cases hl : l[i]? with
      | none => rw [hl] at h; cases h
      | some m => rw [hl] at h; cases h; rfl⟩
def keepN (r : Nat → Nat) (keys : List Nat) (N : Nat) : Bool := (List.range N).all fun b => Nat.beq (r b) b && keys.contains b
def injR (r : Nat → Nat) : List Nat → Bool
  | [] => true
  | b :: l => l.all (fun c => Nat.beq b c || !Nat.beq (r b) (r c)) && injR r l
theorem injR_spec {r : Nat → Nat} : ∀ {l : List Nat}, injR r l = true → ∀ b ∈ l, ∀ c ∈ l, r b = r c → b = c
  | [], _, b, hb, _, _, _ => by cases hb
  | x :: l, h, b, hb, c, hc, e => by
    unfold injR at h
    rw [Bool.and_eq_true, List.all_eq_true] at h
    have key : ∀ c ∈ l, r x = r c → x = c := fun c hc e => by
      have := h.1 c hc
      rw [Bool.or_eq_true, Nat.beq_eq] at this
      rcases this with h | h
      · exact h
      · rw [e, Nat.beq_refl] at h; cases h
    rcases List.mem_cons.1 hb with h1 | h1 <;> rcases List.mem_cons.1 hc with h2 | h2
    · rw [h1, h2]
    · rw [h1] at e ⊢; exact key c h2 e
    · rw [h2] at e ⊢; exact (key b h1 e.symm).symm
    · exact injR_spec h.2 b h1 c h2 e
theorem Wk.lay {G nt N : Nat} {env : T AV} {σ : AH} (r : Nat → Nat) {l : List (Nat × AV)} {L : List (Nat × AObj)} {n : Nat} (hn : Nat.ble n 1000000 = true) (hNn : Nat.ble N n = true) (hG : Nat.ble G N = true)
    (hk : keepN r (L.map (·.1)) N = true) (hi : injR r (L.map (·.1)) = true) (hM : Had r σ n L) (hlow : ∀ b, b < N → (ofM L).get b = σ.get b)
    (hd : (List.range n).all (L.map (·.1)).contains = true) (hbe : (l.all fun p => below n p.2) = true) (hbM : (L.all fun p => belowO n p.2) = true) (he : Has env (l.map fun p => (p.1, mapV r p.2))) : Wk G nt N env σ (ofL l) ⟨n, ofM L⟩ := fun ρ W hr => by
  rw [Nat.ble_eq] at hn hNn hG
  have hMs := hM.mem
  have hLs : ∀ p ∈ L, p.1 < 1048576 := fun p hp => by have := (hMs p hp).1; omega
  have hkey : ∀ b, b < N → r b = b ∧ b ∈ L.map (·.1) := fun b hb => by
    have := List.all_eq_true.1 hk b (List.mem_range.2 hb)
    rw [Bool.and_eq_true, Nat.beq_eq, List.contains_iff_mem] at this
    exact this
  have hget : ∀ b o, (ofM L).get b = some o → b ∈ L.map (·.1) ∧ b < n ∧ σ.get (r b) = some (mapO r o) := fun b o h => by
    have := ofM_get L b o hLs h
    exact ⟨List.mem_map.2 ⟨_, this, rfl⟩, (hMs _ this).1, (hMs _ this).2⟩
  let ρ' : Ren := fun b => if b < n then ρ (r b) else none
  have hin : ∀ b, b ∈ L.map (·.1) → (ofM L).get b ≠ none := by
    have : ∀ (M : List (Nat × AObj)), (∀ p ∈ M, p.1 < 1048576) → ∀ b, b ∈ M.map (·.1) → (ofM M).get b ≠ none := by
      intro M
      induction M with
      | nil => intro _ b hb; cases hb
      | cons p M ih =>
        intro hs b hb
        simp only [ofM, T.get_put _ _ _ _ (hs p List.mem_cons_self)]
        by_cases hbp : b = p.1
        · rw [if_pos hbp]; simp
        · rw [if_neg hbp]
          refine ih (fun q hq => hs q (List.mem_cons_of_mem _ hq)) b ?_
          simp only [List.map_cons, List.mem_cons] at hb
          exact hb.resolve_left hbp
    exact this L hLs
  have hsome : ∀ b x, ρ' b = some x → ∃ o, (ofM L).get b = some o ∧ ρ (r b) = some x := fun b x h => by
    simp only [ρ'] at h
    split at h
    · rename_i hlt
      have := List.all_eq_true.1 hd b (List.mem_range.2 hlt)
      rw [List.contains_iff_mem] at this
      cases ho : (ofM L).get b with
      | none => exact absurd ho (hin b this)
      | some o => exact ⟨o, rfl, h⟩
    · cases h
  have hup : ∀ b x, b < n → ρ (r b) = some x → ρ' b = some x := fun b x hb h => by simp only [ρ']; rw [if_pos hb]; exact h
  have hlowρ : ∀ b, b < N → ρ' b = ρ b := fun b hb => by
    simp only [ρ']
    rw [if_pos (by omega), (hkey b hb).1]
  refine ⟨ρ', ⟨hn, fun b hb => ?_, fun b c d hb => ?_, fun b b' c d d' h1 h2 hne => ?_⟩, fun a ha => ?_, hlowρ, fun b c d hb => ?_, hNn, fun b hb => hlow b hb⟩
  · cases ho : (ofM L).get b with
    | none => exact ho
    | some o => have := (hget b o ho).2.1; have hb : n ≤ b := hb; omega
  · obtain ⟨o, ho, hρ⟩ := hsome b _ hb
    obtain ⟨h1, h2, h3⟩ := hget b o ho
    obtain ⟨_, hc, o2, ho2, hO⟩ := hr.dom _ _ _ hρ
    rw [h3] at ho2; cases ho2
    refine ⟨h2, hc, o, ho, fun hal => ?_⟩
    obtain ⟨m1, m2, m3, m4, m5⟩ := mapO_spec r o
    refine ⟨by have := (hO (by rw [m1]; exact hal)).1; rwa [m3] at this, fun hro => ?_⟩
    obtain ⟨cs, e, fr, k1, k2, k3, k4, k5⟩ := (hO (by rw [m1]; exact hal)).2 (by rw [m2, m3]; exact hro)
    rw [m2, m4] at k2
    rw [m3] at k3 k4
    refine ⟨cs, e, fr, k1, k2, k3, k4, fun i a hi => ?_⟩
    obtain ⟨v, hv, hvr⟩ := k5 i _ (m5 i a hi)
    refine ⟨v, hv, VR.unmap hup a v ?_ hvr⟩
    have := ofM_get L b o hLs ho
    have hbo := List.all_eq_true.1 hbM _ this
    cases o with
    | dead => cases hi
    | cells l e t => exact belows_at hbo i a hi
    | ints k l e t => simp only [AObj.at, Option.map_eq_some_iff] at hi; obtain ⟨_, _, rfl⟩ := hi; rfl
  · obtain ⟨o1, ho1, hρ1⟩ := hsome b _ h1
    obtain ⟨o2, ho2, hρ2⟩ := hsome b' _ h2
    obtain ⟨q1, _, q3⟩ := hget b o1 ho1
    obtain ⟨q1', _, q3'⟩ := hget b' o2 ho2
    have hrne : r b ≠ r b' := fun e => hne (injR_spec hi b q1 b' q1' e)
    have hdeadof : ∀ o, mapO r o = .dead → o = .dead := fun o h => by cases o <;> first | rfl | cases h
    rcases hr.inj _ _ _ _ _ hρ1 hρ2 hrne with e | e | ⟨x, y, e1, e2, e3, e4⟩
    · rw [q3] at e
      exact .inl (by show (ofM L).get b = _; rw [ho1, hdeadof o1 (Option.some.inj e)])
    · rw [q3'] at e
      exact .inr (.inl (by show (ofM L).get b' = _; rw [ho2, hdeadof o2 (Option.some.inj e)]))
    · rw [q3] at e1; rw [q3'] at e2
      cases e1; cases e2
      rw [(mapO_spec r o1).2.1] at e3
      rw [(mapO_spec r o2).2.1] at e4
      exact .inr (.inr ⟨o1, o2, ho1, ho2, e3, e4⟩)
  · refine ⟨ha.small, ha.size, fun g hg => ?_, fun t v ht => ?_⟩
    · obtain ⟨s, hs⟩ := ha.glob g hg
      exact ⟨s, by rw [hlowρ g (by omega)]; exact hs⟩
    · have hsm : ∀ p ∈ l, Nat.blt p.1 1048576 = true := fun p hp => (he.mem (p.1, mapV r p.2) (List.mem_map.2 ⟨p, hp, rfl⟩)).2
      have hm := ofL_get l t v hsm ht
      have := (he.mem (t, mapV r v) (List.mem_map.2 ⟨_, hm, rfl⟩)).1
      exact VR.unmap hup v _ (List.all_eq_true.1 hbe _ hm) (ha.at_ t _ this)
  · obtain ⟨_, _, hρ⟩ := hsome b _ hb
    exact ⟨_, _, hρ⟩
end Go.Proofs.YtjkicmlelilcaaaDoor
namespace Go.Proofs.YtjkicmlelilcaaaDoor
open Go
theorem Wk.trans {G nt N : Nat} {env env1 env2 : T AV} {σ σ1 σ2 : AH} (h : Wk G nt N env σ env1 σ1) (h' : Wk G nt N env1 σ1 env2 σ2) : Wk G nt N env σ env2 σ2 := fun ρ W hr => by
  obtain ⟨ρ1, r1, a1, b1, c1, d1, e1⟩ := h ρ W hr
  obtain ⟨ρ2, r2, a2, b2, c2, d2, e2⟩ := h' ρ1 W r1
  refine ⟨ρ2, r2, fun a ha => a2 a (a1 a ha), fun b hb => (b2 b hb).trans (b1 b hb), fun b c d hb => ?_, d2, fun b hb => (e2 b hb).trans (e1 b hb)⟩
  obtain ⟨b0, d0, h0⟩ := c2 b c d hb
  exact c1 _ _ _ h0
theorem Wk.nil {G nt N : Nat} {env : T AV} {σ : AH} (t z : Nat) (o : AObj) (ht : env.get t = some .nilsl) (hs : Nat.blt t 1048576 = true) (hn : Nat.blt σ.next 1000000 = true) (hN : Nat.ble N σ.next = true) :
    Wk G nt N env σ (env.put t (.sl σ.next 0 0 0 false z)) (σ.new o) := fun ρ W hr => by
  rw [Nat.blt_eq] at hn hs
  rw [Nat.ble_eq] at hN
  have hget : ∀ b, b < σ.next → (σ.new o).get b = σ.get b := fun b hb => by
    show (σ.mem.put σ.next o).get b = _
    rw [T.get_put _ _ _ _ (by omega), if_neg (by omega)]; rfl
  have hnone : ∀ b, (σ.new o).next ≤ b → (σ.new o).get b = none := fun b hb => by
    have hb : σ.next + 1 ≤ b := hb
    show (σ.mem.put σ.next o).get b = _
    rw [T.get_put _ _ _ _ (by omega), if_neg (by omega)]
    exact hr.none_ b (by omega)
  refine ⟨ρ, HR.more hr (by show σ.next + 1 ≤ _; omega) hnone (by show _ ≤ σ.next + 1; omega) hget, fun a ha => ⟨ha.small, ha.size, ha.glob, fun t' v hv => ?_⟩, fun _ _ => rfl, fun b c d h => ⟨b, d, h⟩, by show N ≤ σ.next + 1; omega, fun b hb => hget b (by omega)⟩
  rw [T.get_put _ _ _ _ (by omega)] at hv
  split at hv
  · rename_i e
    cases hv
    subst e
    exact .inr ⟨rfl, rfl, rfl, none, ha.at_ _ _ ht⟩
  · exact ha.at_ _ _ hv
end Go.Proofs.YtjkicmlelilcaaaDoor
namespace Go.Proofs.YtjkicmlelilcaaaDoor
open Go.RowKit
attribute [local go_sem] u8_bits_xor
def keyW (key : List UInt8) : List UInt8 := key ++ List.replicate (64 - key.length) 0
def chgTo (key : List UInt8) (c : UInt8) : Nat → List UInt8
  | 0 => keyW key
  | k + 1 => (chgTo key c k).set k (at8 (chgTo key c k) k ^^^ c)
theorem keyW_length (key : List UInt8) (h : key.length ≤ 64) : (keyW key).length = 64 := by simp [keyW]; omega
theorem chgTo_length (key : List UInt8) (c : UInt8) (k : Nat) (h : key.length ≤ 64) : (chgTo key c k).length = 64 := by
  induction k with
  | zero => exact keyW_length key h
  | succ k ih => simp [chgTo, ih]
def chg (key : List UInt8) (c : UInt8) : List UInt8 := chgTo key c 64
theorem chg_length (key : List UInt8) (c : UInt8) (h : key.length ≤ 64) : (chg key c).length = 64 := chgTo_length key c 64 h
theorem info5s : (Tryd.prog.info? 5).map (·.size) = some 1 := by kernel_rfl
theorem make64 (w : World) : (Instr.makeSlice 22 (.int .i64 64) (.int .i64 64)).run Tryd.prog w = .ok (.slice (some ⟨w.heap.size, 0, none⟩) 64 64) (w.alloc (.cells (c8l (List.replicate 64 0)).toArray 5)) := by kernel_rfl
theorem splice_key (key : List UInt8) (_h : key.length ≤ 64) : splice (c8l (List.replicate 64 0)) 0 (c8l key) = c8l (keyW key) := by
  unfold splice keyW
  rw [List.take_zero, List.nil_append, c8l_append, Nat.zero_add, c8l_length]
  congr 1
  unfold c8l
  rw [← List.map_drop, List.drop_replicate]
def ChgR (key : List UInt8) (c : UInt8) (w : World) (i : Value) (wr : World) : Prop :=
  ∃ k : Nat, k ≤ 64 ∧ i = .int .i64 k ∧ wr.heap[w.heap.size]? = some (.cells (c8 (chgTo key c k)) 5 (0, 0)) ∧ Below w.heap.size w wr
def ChgP (key : List UInt8) (c : UInt8) (w : World) (e : Ending) (w' : World) : Prop :=
  e = .returned (.slice (some ⟨w.heap.size, 0, none⟩) 64 64) ∧ w'.heap[w.heap.size]? = some (.cells (c8 (chg key c)) 5 (0, 0)) ∧ Below w.heap.size w w'
set_option maxHeartbeats 1000000 in
theorem changed_at (a : Option Addr) (n cp : Nat) (key : List UInt8) (c : UInt8) (w : World) (hn : n = key.length) (h : BSl w (.slice a n cp) key) (hl : key.length ≤ 64) :
    Calls Tryd.prog 54 #[.slice a n cp, .int .u8 (N8 c)] w (ChgP key c w) := by
  have hb0 : Below w.heap.size w (w.alloc (.cells (c8l (List.replicate 64 0)).toArray 5)) := (Below.refl _ _).alloc (Nat.le_refl _) _
  have h0 := h.below hb0 (Nat.le_refl _)
  have HN := Lib.hid hn
  have HMK := Lib.hid make64
  have hpos : 0 < (c8l key).length → (some ⟨w.heap.size, 0, none⟩ : Option Addr) = some ⟨w.heap.size, 0, none⟩ ∧ ∃ ad, a = some ad ∧ ∀ j v, (c8l key)[j]? = some v → (w.alloc (.cells (c8l (List.replicate 64 0)).toArray 5)).cell? (ad.add j) = some v := by
    intro hp
    rw [c8l_length] at hp
    rcases h0 with ⟨e, hk⟩ | ⟨b, off, c1, e, hc1, hlt, hcell⟩ | ⟨_, e, hk⟩
    rotate_right
    · subst hk; simp at hp
    · subst hk; simp at hp
    · cases e
      exact ⟨rfl, _, rfl, news_of hcell⟩
  have HP := Lib.hid hpos
  clear hpos h0 h
  have hmk : ∀ w : World, (Instr.makeSlice 22 (.int .i64 64) (.int .i64 64)).run Tryd.prog w = .ok (.slice (some ⟨w.heap.size, 0, none⟩) 64 64) (w.alloc (.cells (c8l (List.replicate 64 0)).toArray 5)) := make64
  clear hn
  have hn64 : n ≤ 64 := by have := HN.out; omega
  go_enter Tryd.func54, Tryd.ntmps54
  go_wp2_with (refine wpList_copy_splice rfl (.tmp 8) (.tmp 9) 22 22 rfl 5 Tryd.underlying22 info5s (some ⟨w.heap.size, 0, none⟩) a 64 64 n cp rfl rfl w.heap.size 0 (c8l (List.replicate 64 0)) 5 (row_new _ _ _) (c8l key) (by rw [c8l_length, HN.out]; exact (Nat.min_eq_left (by omega)).symm) HP.out (by rw [c8l_length, c8l_length]; simp; omega) (c8l_one _) w.heap.size w hb0 (Nat.le_refl _) ?_; intro w2 HG2 hb2)
  rw [splice_key key hl] at HG2
  clear hmk
  go_wp2
  go_loopw [13] (ChgR key c w) (fun i _ => 64 - (intOf i).toNat)
  case atStart => exact ⟨0, by omega, rfl, HG2.out, hb2⟩
  case round =>
    obtain ⟨k, hk, rfl, hG, hb3⟩ := hrel
    have HG := Lib.hid hG
    clear hG
    by_cases h64 : k < 64
    · have d64 : decide ((k : Int) < 64) = true := decide_eq_true (by omega)
      have ck := row8_cell HG.out k (by rw [chgTo_length _ _ _ hl]; exact h64)
      have fk := row_free HG.out k
      have HF := Lib.hid (row8_set HG.out k (at8 (chgTo key c k) k ^^^ c))
      go_wp2
      go_roundw
      case rel => exact ⟨k + 1, by omega, by go_num, HF.out, hb3.setCell (Nat.le_refl _) _⟩
      case measure => simp [intOf]; omega
    · have d64 : decide ((k : Int) < 64) = false := decide_eq_false (by omega)
      obtain rfl : k = 64 := by omega
      go_wp2
      go_ret
      exact ⟨rfl, HG.out, hb3⟩
end Go.Proofs.YtjkicmlelilcaaaDoor
namespace Go.Proofs.YtjkicmlelilcaaaDoor
open Go.RowKit
theorem info22 : (Tryd.prog.info? 22).map (fun i => (i.zero, i.size, i.bytes)) = some (some (.slice none 0 0), 1, 24) := by kernel_rfl
def OwnedV (w : World) (n : Nat) (xs : List Value) (e : Ending) (w' : World) : Prop :=
  ∃ v, e = .returned v ∧ w'.ownsRow w.heap.size 22 1 v n xs ∧ Below w.heap.size w w'
set_option maxHeartbeats 400000 in
theorem clone_nil (w : World) : Calls Tryd.prog 53 #[.slice none 0 0] w (OwnedV w 0 []) := by
  have he := fun w : World => Lib.run_eql_slice_nil (P := Tryd.prog) w 31 22 none 0 0 0 0 Tryd.underlying31
  go_enter Tryd.func53, Tryd.ntmps53
  go_wp2
  go_ret
  exact ⟨_, rfl, ⟨rfl, .inl ⟨rfl, rfl⟩⟩, Below.refl _ _⟩
set_option maxHeartbeats 400000 in
theorem clone_some (b off c : Nat) (vs : List Value) (w : World) (hlt : b < w.heap.size) (hn : vs.length ≤ 1000000000)
    (hcell : ∀ j u, vs[j]? = some u → w.cell? ((⟨b, off, none⟩ : Addr).add j) = some u) (h1 : ∀ u ∈ vs, u.oneCell' = true) :
    Calls Tryd.prog 53 #[.slice (some ⟨b, off, none⟩) vs.length c] w (OwnedV w vs.length vs) := by
  obtain ⟨i0, hi, hz0, hz1, hz2⟩ := info_parts info22
  have HI := Lib.hid hi
  have HZ := Lib.hid hz0
  have H1 := Lib.hid hz1
  have H2 := Lib.hid hz2
  clear hi hz0 hz1 hz2
  have he := fun w : World => Lib.run_eql_slice_nil (P := Tryd.prog) w 31 22 (some ⟨b, off, none⟩) vs.length c 0 0 Tryd.underlying31
  have hb0 : Below w.heap.size w (w.alloc (.cells #[] 22)) := (Below.refl _ _).alloc (Nat.le_refl _) _
  have hown : (w.alloc (.cells #[] 22)).ownsRow w.heap.size 22 1 (.slice (some ⟨w.heap.size, 0, none⟩) 0 0) 0 [] := ⟨rfl, .inr ⟨w.heap.size, 0, #[], rfl, Nat.le_refl _, row_new _ _ _, Nat.le_refl _, by unfold maxLen; omega, rfl, rfl⟩⟩
  have HC : Hid (∀ j u, vs[j]? = some u → (w.alloc (.cells #[] 22)).cell? ((⟨b, off, none⟩ : Addr).add j) = some u) := fun j u hu => by
    have := hcell j u hu
    rw [Addr.add_mid] at this ⊢
    rw [hb0.cell (p := ⟨b, off + j, none⟩) hlt]; exact this
  clear hcell
  go_enter Tryd.func53, Tryd.ntmps53
  go_wp2_with (at_builtin; refine wpList_append_own _ rfl (.tmp 5) (.tmp 6) 31 rfl w.heap.size 22 i0 (.slice none 0 0) 1 24 Tryd.underlying31 HI.out HZ.out H1.out H2.out rfl (by decide) _ _ _ rfl hown ⟨b, off, none⟩ vs.length c vs rfl (by omega) HC.out h1 (by unfold maxLen; omega) (by omega) (by simp) ?_)
  intro v' w2 hown2 hg2 _
  have hb2 : Below w.heap.size w w2 := hb0.grown hg2 (by simp) (fun g hg => owns_block hown hg)
  go_wp2
  go_ret
  exact ⟨_, rfl, hown2, hb2⟩
def InsP (base : Nat) (row : Option Nat) (w : World) (cv : Value) (n : Nat) (vs : List Value) (e : Ending) (w' : World) : Prop :=
  ∃ v, e = .returned v ∧ w'.ownsRow base 22 1 v (n + 1) (cv :: vs) ∧ w.grownBy w' row
theorem grown_of_below {w w' : World} (h : Below w.heap.size w w') (row : Option Nat) : w.grownBy w' row := ⟨h.os, h.tape, h.output, h.size, fun k hk _ => h.block k hk⟩
set_option maxHeartbeats 400000 in
theorem insert_empty (base vb : Nat) (sv cv : Value) (w : World) (hown : w.ownsRow base 22 1 sv 0 []) (hbase : base ≤ w.heap.size) (hcell : w.cell? ⟨vb, 0, none⟩ = some cv) (h1 : cv.oneCell' = true) :
    Calls Tryd.prog 52 #[sv, .int .i64 0, .slice (some ⟨vb, 0, none⟩) 1 1] w (InsP base sv.ownBlock w cv 0 []) := by
  obtain ⟨i0, hi, hz0, hz1, hz2⟩ := info_parts info22
  have HI := Lib.hid hi
  have HZ := Lib.hid hz0
  have H1 := Lib.hid hz1
  have H2 := Lib.hid hz2
  clear hi hz0 hz1 hz2
  have HC : Hid (∀ j u, [cv][j]? = some u → w.cell? ((⟨vb, 0, none⟩ : Addr).add j) = some u) := fun j u hu => by
    have hj : j = 0 := by have := (List.getElem?_eq_some_iff.1 hu).1; simpa using this
    subst hj
    rw [Addr.add_mid, hcell, ← hu]; rfl
  clear hcell
  rcases hown.2 with ⟨rfl, _⟩ | ⟨g, cap, cur, rfl, hg, hh, _⟩
  all_goals
    go_enter Tryd.func52, Tryd.ntmps52
    go_wp2_with (at_builtin; refine wpList_append_own _ rfl (.tmp 23) (.tmp 24) 31 rfl base 22 i0 (.slice none 0 0) 1 24 Tryd.underlying31 HI.out HZ.out H1.out H2.out rfl (by decide) _ _ _ rfl hown ⟨vb, 0, none⟩ 1 1 [cv] rfl rfl HC.out (by simpa using h1) (by unfold maxLen; omega) (by omega) hbase ?_)
    intro v' w2 hown2 hg2 _
    go_wp2
    go_ret
    exact ⟨_, rfl, hown2, hg2⟩
theorem zeroCells_nil (k : Nat) : Builtin.zeroCells (Value.slice none 0 0).cells k = (List.replicate k (Value.slice none 0 0)).toArray := by
  apply Array.ext'
  simp only [Builtin.zeroCells, Value.cells]
  apply List.ext_getElem
  · simp
  · intro i h1 h2
    simp [Nat.mod_one]
theorem info22s : (Tryd.prog.info? 22).map (·.size) = some 1 := by kernel_rfl
theorem one_pos {w : World} {g b off : Nat} {cv : Value} (hcell : w.cell? ⟨b, 0, none⟩ = some cv) :
    0 < [cv].length → (some ⟨g, off, none⟩ : Option Addr) = some ⟨g, off, none⟩ ∧ ∃ ad, (some ⟨b, 0, none⟩ : Option Addr) = some ad ∧ ∀ j v, [cv][j]? = some v → w.cell? (ad.add j) = some v := by
  refine fun _ => ⟨rfl, _, rfl, fun j v hv => ?_⟩
  have hj : j = 0 := by have := (List.getElem?_eq_some_iff.1 hv).1; simpa using this
  subst hj
  rw [Addr.add_mid, hcell, ← hv]; rfl
theorem one_src {w : World} {b : Nat} {cv : Value} (hcell : w.cell? ⟨b, 0, none⟩ = some cv) : ∀ j v, [cv][j]? = some v → w.cell? ((⟨b, 0, none⟩ : Addr).add j) = some v := by
  intro j v hv
  have hj : j = 0 := by have := (List.getElem?_eq_some_iff.1 hv).1; simpa using this
  subst hj
  rw [Addr.add_mid, hcell, ← hv]; rfl
theorem row_pos {w : World} {g b off : Nat} {vs : List Value} (h : ∀ j v, vs[j]? = some v → w.cell? ((⟨b, 0, none⟩ : Addr).add j) = some v) :
    0 < vs.length → (some ⟨g, off, none⟩ : Option Addr) = some ⟨g, off, none⟩ ∧ ∃ ad, (some ⟨b, 0, none⟩ : Option Addr) = some ad ∧ ∀ j v, vs[j]? = some v → w.cell? (ad.add j) = some v :=
  fun _ => ⟨rfl, _, rfl, h⟩
theorem spl_a (nc : Nat) (cv : Value) (vs : List Value) (h : vs.length + 1 ≤ nc) :
    (splice (splice (List.replicate nc (Value.slice none 0 0)) 0 [cv]) 1 vs).length = nc ∧ (splice (splice (List.replicate nc (Value.slice none 0 0)) 0 [cv]) 1 vs).take (vs.length + 1) = cv :: vs := by
  have hl : (splice (List.replicate nc (Value.slice none 0 0)) 0 [cv]).length = nc := by rw [length_splice _ _ _ (by simp; omega)]; simp
  refine ⟨by rw [length_splice _ _ _ (by rw [hl]; omega), hl], ?_⟩
  have e : splice (List.replicate nc (Value.slice none 0 0)) 0 [cv] = cv :: List.replicate (nc - 1) (Value.slice none 0 0) := by simp [splice]
  rw [e]
  simp [splice]
theorem spl_b (cur : List Value) (cv : Value) (vs : List Value) (h : vs.length + 1 ≤ cur.length) :
    (splice (splice cur 1 vs) 0 [cv]).length = cur.length ∧ (splice (splice cur 1 vs) 0 [cv]).take (vs.length + 1) = cv :: vs := by
  have hl : (splice cur 1 vs).length = cur.length := length_splice _ _ _ (by omega)
  refine ⟨by rw [length_splice _ _ _ (by rw [hl]; simp; omega), hl], ?_⟩
  cases cur with
  | nil => simp at h
  | cons x xs => simp [splice]
set_option maxRecDepth 100000 in
set_option maxHeartbeats 400000 in
theorem insert_grow (base vb g n cap : Nat) (cv : Value) (vs : List Value) (w : World) (hown : w.ownsRow base 22 1 (.slice (some ⟨g, 0, none⟩) n cap) n vs) (hbase : base ≤ w.heap.size) (hn : 0 < n) (hn2 : n ≤ 1000000000)
    (hcap : cap < n + 1) (hcell : w.cell? ⟨vb, 0, none⟩ = some cv) (h1 : cv.oneCell' = true) (h2 : ∀ u ∈ vs, u.oneCell' = true) (hvb : vb < w.heap.size) (hgw : g < w.heap.size) :
    Calls Tryd.prog 52 #[.slice (some ⟨g, 0, none⟩) n cap, .int .i64 0, .slice (some ⟨vb, 0, none⟩) 1 1] w (InsP base (some g) w cv n vs) := by
  obtain ⟨i0, hi, hz0, hz1, hz2⟩ := info_parts info22
  have hvl : vs.length = n := by have := hown.1; omega
  have hnc : n ≤ cap := by
    rcases hown.2 with ⟨e, _⟩ | ⟨g', cap', cur', e, _, _, h, _⟩
    · cases e
    · cases e; exact h
  have hvs : ∀ j u, vs[j]? = some u → w.cell? ((⟨g, 0, none⟩ : Addr).add j) = some u := hown.cells (g := g) rfl
  have hold := run_firstCells_some (P := Tryd.prog) w.drew i0.size 0 ⟨g, 0, none⟩ 0 cap [] (by simp) (fun j u hu => by simp at hu)
  have hr := Lib.run_append_grow_zeros (P := Tryd.prog) w 31 3 31 22 i0 (.slice none 0 0) .i64 .i64 Tryd.underlying31 Tryd.underlying3 hi hz0 (some ⟨g, 0, none⟩) 0 cap [] hold (n + 1) (by omega) (by rw [hz1]; decide) (by omega) (by omega) (by rw [hz2]; omega) (growslice_fits (by omega) (by rw [hz2]; omega))
  rw [Nat.zero_add, zeroCells_nil, zeroCells_nil] at hr
  obtain ⟨nc, hnc2⟩ : ∃ nc, nc = grownCap w (n + 1) cap 22 := ⟨_, rfl⟩
  have hge := grownCap_ge w (n + 1) cap 22
  have hle := grownCap_le_maxLen w (n + 1) cap 22 (by unfold maxLen; omega)
  rw [← hnc2] at hr hge hle
  clear hnc2
  have hcat : ([] : List Value).toArray ++ (List.replicate (n + 1) (Value.slice none 0 0)).toArray ++ (List.replicate (nc - (n + 1)) (Value.slice none 0 0)).toArray = (List.replicate nc (Value.slice none 0 0)).toArray := by
    apply Array.ext'; simp; omega
  rw [hcat] at hr
  have HR := Lib.hid hr
  clear hr hcat hold hi hz0 hz1 hz2
  obtain ⟨w1, hw1⟩ : ∃ w1, w1 = w.drew.alloc (.cells (List.replicate nc (Value.slice none 0 0)).toArray 22) := ⟨_, rfl⟩
  rw [← hw1] at HR
  have hb1 : Below w.heap.size w w1 := by rw [hw1]; exact (Below.refl _ _).drew.alloc (by simp) _
  have HG1 : Hid (w1.heap[w.heap.size]? = some (.cells (List.replicate nc (Value.slice none 0 0)).toArray 22 (0, 0))) := by rw [hw1]; exact row_new w.drew _ _
  clear hw1
  have c1 : w1.cell? ⟨vb, 0, none⟩ = some cv := (hb1.cell (p := ⟨vb, 0, none⟩) hvb).trans hcell
  have dn : (((n : Int)) == 0) = false := by simp; omega
  have dn' : ((0 : Int) == (n : Int)) = false := by simp; omega
  have dc : decide ((cap : Int) < (n : Int) + 1) = true := decide_eq_true (by omega)
  have z1 : (0 : Int) ≤ (n : Int) := by omega
  go_enter Tryd.func52, Tryd.ntmps52
  go_wp2_with (first | (at_builtin; refine Lib.wpList_append_run w rfl (.tmp 34) (.tmp 39) 31 3 rfl (.slice (some ⟨g, 0, none⟩) 0 cap) (.int .i64 ((n + 1 : Nat) : Int)) rfl rfl _ _ HR.out ?_) | (refine wpList_copy_splice rfl (.tmp 43) (.tmp 44) 31 31 rfl 22 Tryd.underlying31 info22s (some ⟨w.heap.size, 0, none⟩) (some ⟨vb, 0, none⟩) (n + 1) nc 1 1 rfl rfl w.heap.size 0 _ 22 HG1.out [cv] (by simp) (one_pos c1) (by simp; omega) (by simpa using h1) w.heap.size w hb1 (Nat.le_refl _) ?_; intro w2 HG2 hb2))
  go_frame
  have hz2 := hb2.size
  have HV2 : Hid (∀ j u, vs[j]? = some u → w2.drew.cell? ((⟨g, 0, none⟩ : Addr).add j) = some u) := fun j u hu => by
    have := hvs j u hu
    rw [Addr.add_mid] at this ⊢
    rw [hb2.drew.cell (p := ⟨g, 0 + j, none⟩) hgw]; exact this
  clear hvs
  have HG2d : Hid (w2.drew.heap[w.heap.size]? = some (.cells (splice (List.replicate nc (Value.slice none 0 0)) 0 [cv]).toArray 22 (0, 0))) := HG2.out
  have e1 : IntKind.i64.wrap 1 = 1 := by decide
  have ne1 : ¬ nc = 1 := by omega
  have q1 : (1 : Int) ≤ (n : Int) + 1 := by omega
  have q2 : (1 : Int) ≤ (nc : Int) := by omega
  have q3 : (1 : Int) < (nc : Int) := by omega
  go_still_tail 8, (by kernel_rfl)
  change wpList _ _ _ _ _ w2.drew
  refine wpList_copy_splice rfl (.tmp 50) (.tmp 53) 31 31 rfl 22 Tryd.underlying31 info22s (some ⟨w.heap.size, 1, none⟩) (some ⟨g, 0, none⟩) n (nc - 1) n cap rfl rfl w.heap.size 1 _ 22 HG2d.out vs (by simp; omega) (row_pos HV2.out) (by rw [length_splice _ _ _ (by simp; omega)]; simp; omega) h2 w.heap.size w hb2.drew (Nat.le_refl _) ?_
  intro w3 HG3 hb3
  go_wp2
  go_ret
  obtain ⟨t1, t2⟩ := spl_a nc cv vs (by omega)
  exact ⟨_, rfl, ⟨by simp [hvl], .inr ⟨w.heap.size, nc, _, rfl, hbase, HG3.out, hge, hle, by simp [t1], by simp only [Nat.mul_one]; rw [← hvl]; exact t2⟩⟩, grown_of_below hb3 _⟩
theorem size22 (w : World) : (Go.sizeOf 22).run Tryd.prog w = .ok 1 w := by
  obtain ⟨i0, hi, hz0, hz1, hz2⟩ := info_parts info22
  simp [sizeOf, typeInfo, hi, hz1]
set_option maxRecDepth 100000 in
set_option maxHeartbeats 400000 in
theorem insert_room (base vb g n cap : Nat) (cv : Value) (vs : List Value) (w : World) (hown : w.ownsRow base 22 1 (.slice (some ⟨g, 0, none⟩) n cap) n vs) (_hbase : base ≤ w.heap.size) (hn : 0 < n) (hn2 : n ≤ 1000000000)
    (hcap : n + 1 ≤ cap) (hcell : w.cell? ⟨vb, 0, none⟩ = some cv) (h1 : cv.oneCell' = true) (h2 : ∀ u ∈ vs, u.oneCell' = true) (hvg : vb ≠ g) (hvr : ∃ C, w.heap[vb]? = some (.cells C 22 (0, 0))) :
    Calls Tryd.prog 52 #[.slice (some ⟨g, 0, none⟩) n cap, .int .i64 0, .slice (some ⟨vb, 0, none⟩) 1 1] w (InsP base (some g) w cv n vs) := by
  have hvl : vs.length = n := by have := hown.1; omega
  have hvs : ∀ j u, vs[j]? = some u → w.drew.cell? ((⟨g, 0, none⟩ : Addr).add j) = some u := hown.cells (g := g) rfl
  obtain ⟨cur, hbg, hg, hcm, hcs, htake⟩ : ∃ cur : Array Value, base ≤ g ∧ w.heap[g]? = some (.cells cur 22 (0, 0)) ∧ cap ≤ maxLen ∧ cur.size = cap ∧ cur.toList.take n = vs := by
    rcases hown.2 with ⟨e, _⟩ | ⟨g', cap', cur', e, h1, h2, _, h3, h4, h5⟩
    · cases e
    · cases e; exact ⟨cur', h1, h2, h3, by simpa using h4, by simpa using h5⟩
  have HG := Lib.hid hg
  have HV := Lib.hid hvs
  clear hg hvs
  have hcmx : cap ≤ 9223372036854775807 := hcm
  have dn : (((n : Int)) == 0) = false := by simp; omega
  have dn' : ((0 : Int) == (n : Int)) = false := by simp; omega
  have dc : decide ((cap : Int) < (n : Int) + 1) = false := decide_eq_false (by omega)
  have z1 : (0 : Int) ≤ (n : Int) := by omega
  have e1 : IntKind.i64.wrap 1 = 1 := by decide
  have ne1 : ¬ cap = 1 := by omega
  have hov : (callFunc 76 #[.slice (some ⟨vb, 0, none⟩) 1 1, .slice (some ⟨g, 1, none⟩) n (cap - 1)]).run Tryd.prog w = .ok (.value (.bool false)) w := by
    obtain ⟨C, hC⟩ := hvr
    rw [run_callFunc_extern Tryd.func76 (by kernel_rfl) (by kernel_rfl) (by kernel_rfl) (e := Extern.SlicesOverlaps.overlaps #[31, 31] #[4]) (by kernel_rfl),
      Lib.run_overlaps_apart w 31 4 22 Tryd.underlying31 1 size22 ⟨vb, 0, none⟩ ⟨g, 1, none⟩ 1 1 n (cap - 1) hvg 22 22 C.size cur.size (by simp [World.shape?, hC]) (by have := HG.out; simp [World.shape?, this]) (by omega) (row_free hC 0) (row_free hC C.size)]
    rfl
  have HGd : Hid (w.drew.heap[g]? = some (.cells cur.toList.toArray 22 (0, 0))) := by rw [Array.toArray_toList]; exact HG.out
  have q1 : (1 : Int) ≤ (n : Int) + 1 := by omega
  have q2 : (1 : Int) ≤ (cap : Int) := by omega
  have q3 : (1 : Int) < (cap : Int) := by omega
  have z2 : (0 : Int) ≤ (n : Int) + 1 := by omega
  have ne0 : ¬ cap = 0 := by omega
  go_enter Tryd.func52, Tryd.ntmps52
  go_wp2
  go_still_tail 8, (by kernel_rfl)
  change wpList _ _ _ _ _ w.drew
  refine wpList_copy_own rfl (.tmp 73) (.tmp 76) 31 31 rfl 22 Tryd.underlying31 info22s g 1 n (cap - 1) ⟨g, 0, none⟩ (n + 1) cap rfl rfl cur.toList.toArray 22 HGd.out vs (by simp; omega) (fun j v hv => HV.out j v hv) (by simp; omega) h2 ?_
  have HG3 : Hid ((w.drew.setRow g (splice cur.toList 1 vs).toArray).heap[g]? = some (.cells (splice cur.toList 1 vs).toArray 22 (0, 0))) := setRow_heap _ _ _ _ _ _ HGd.out
  have hg3 : w.grownBy (w.drew.setRow g (splice cur.toList 1 vs).toArray) (some g) := ⟨rfl, rfl, rfl, by simp, fun k hk hne => setRow_other _ _ _ _ (fun e => hne (by rw [e]))⟩
  have c3 : (w.drew.setRow g (splice cur.toList 1 vs).toArray).cell? ⟨vb, 0, none⟩ = some cv := (World.cell?_of_block (setRow_other _ _ _ _ hvg)).trans hcell
  change wpList _ _ _ _ _ (w.drew.setRow g (splice cur.toList 1 vs).toArray)
  generalize w.drew.setRow g (splice cur.toList 1 vs).toArray = w3 at *
  go_wp2_with (refine wpList_copy_own rfl (.tmp 80) (.tmp 81) 31 31 rfl 22 Tryd.underlying31 info22s g 0 (n + 1) cap ⟨vb, 0, none⟩ 1 1 rfl rfl (splice cur.toList 1 vs).toArray 22 HG3.out [cv] (by simp) (one_src c3) (by simp; rw [length_splice _ _ _ (by simp; omega)]; simp; omega) (by simpa using h1) ?_)
  have e4 : splice (splice cur.toList 1 vs) 0 [cv] = cv :: (splice cur.toList 1 vs).tail := by
    have : ∀ L : List Value, splice L 0 [cv] = cv :: L.tail := fun L => by simp [splice]
    exact this _
  obtain ⟨t1, t2⟩ := spl_b cur.toList cv vs (by simp; omega)
  rw [e4] at t1 t2
  go_ret
  exact ⟨_, rfl, ⟨by simp [hvl], .inr ⟨g, cap, _, rfl, hbg, setRow_heap _ _ _ _ _ _ HG3.out, hcap, hcm, by rw [List.size_toArray, t1]; simp [hcs], by simp only [Nat.mul_one]; rw [← hvl]; exact t2⟩⟩,
    ⟨hg3.os, hg3.tape, hg3.output, by simpa using hg3.size, fun k hk hne => (setRow_other _ _ _ _ (fun e => hne (by rw [e]))).trans (hg3.block k hk hne)⟩⟩
end Go.Proofs.YtjkicmlelilcaaaDoor
namespace Go.Proofs.YtjkicmlelilcaaaDoor
open Go.RowKit
theorem BSl.one {w : World} {v : Value} {bs : List UInt8} (h : BSl w v bs) : v.oneCell' = true := by
  rcases h with ⟨rfl, _⟩ | ⟨b, off, c, rfl, _⟩ | ⟨a, rfl, _⟩ <;> rfl
theorem clone_any (pv : Value) (vs : List Value) (ps : List (List UInt8)) (w : World) (h : PSl w pv vs ps) (hc0 : ps.length ≤ 1000000000) :
    Calls Tryd.prog 53 #[pv] w (OwnedV w ps.length vs) := by
  rcases h.lies with ⟨rfl, rfl⟩ | ⟨b, off, c, rfl, hc, hlt, hcell⟩
  · obtain rfl : vs = [] := List.eq_nil_of_length_eq_zero h.len
    exact clone_nil w
  · rw [← h.len]
    refine clone_some b off c vs w hlt (by rw [h.len]; exact hc0) (fun j u hu => ?_) (fun u hu => ?_)
    · have hj : j < vs.length := (List.getElem?_eq_some_iff.1 hu).1
      rw [Addr.add_mid, hcell j (by rw [← h.len]; exact hj)]
      simp [atV, hu]
    · obtain ⟨j, hj, rfl⟩ := List.getElem_of_mem hu
      have := (h.each j (by rw [← h.len]; exact hj)).one
      simpa [atV, hj] using this
theorem insert_any (base vb n : Nat) (sv cv : Value) (vs : List Value) (w : World) (hown : w.ownsRow base 22 1 sv n vs) (hbase : base ≤ w.heap.size) (hn2 : n ≤ 1000000000)
    (hcell : w.cell? ⟨vb, 0, none⟩ = some cv) (h1 : cv.oneCell' = true) (h2 : ∀ u ∈ vs, u.oneCell' = true) (hvb : vb < w.heap.size) (hvg : ∀ g, sv.ownBlock = some g → vb ≠ g) (hvr : ∃ C, w.heap[vb]? = some (.cells C 22 (0, 0))) :
    Calls Tryd.prog 52 #[sv, .int .i64 0, .slice (some ⟨vb, 0, none⟩) 1 1] w (InsP base sv.ownBlock w cv n vs) := by
  by_cases h0 : n = 0
  · subst h0
    obtain rfl : vs = [] := List.eq_nil_of_length_eq_zero (by simpa using hown.1)
    exact insert_empty base vb sv cv w hown hbase hcell h1
  · rcases hown.2 with ⟨rfl, h⟩ | ⟨g, cap, cur, rfl, hbg, hg, hnc, _⟩
    · omega
    · by_cases hc : n + 1 ≤ cap
      · exact insert_room base vb g n cap cv vs w hown hbase (by omega) hn2 hc hcell h1 h2 (hvg g rfl) hvr
      · exact insert_grow base vb g n cap cv vs w hown hbase (by omega) hn2 (by omega) hcell h1 h2 hvb (Array.getElem?_eq_some_iff.1 hg).1
theorem owns_below {w w' : World} {base e size B n : Nat} {v : Value} {xs : List Value} (h : w.ownsRow base e size v n xs) (hb : Below B w w') (hB : w.heap.size ≤ B) : w'.ownsRow base e size v n xs := by
  refine ⟨h.1, ?_⟩
  rcases h.2 with h | ⟨g, cap, cur, e1, h1, hh, h2⟩
  · exact .inl h
  · exact .inr ⟨g, cap, cur, e1, h1, (hb.block g (Nat.lt_of_lt_of_le (Array.getElem?_eq_some_iff.1 hh).1 hB)).trans hh, h2⟩
theorem owns_lt {w : World} {base e size n : Nat} {v : Value} {xs : List Value} (h : w.ownsRow base e size v n xs) {g : Nat} (hg : v.ownBlock = some g) : g < w.heap.size := by
  rcases h.2 with ⟨rfl, _⟩ | ⟨g', cap, cur, rfl, _, hh, _⟩
  · cases hg
  · cases hg; exact (Array.getElem?_eq_some_iff.1 hh).1
theorem PSl.of_owns {w : World} {base n : Nat} {v : Value} {vs : List Value} {ps : List (List UInt8)} (h : w.ownsRow base 22 1 v n vs) (hl : vs.length = ps.length) (he : ∀ j, j < ps.length → BSl w (atV vs j) (atP ps j)) : PSl w v vs ps := by
  have hn : n = ps.length := by have := h.1; omega
  subst hn
  refine ⟨hl, ?_, he⟩
  rcases h.2 with ⟨rfl, h0⟩ | ⟨g, cap, cur, rfl, hg, hh, hc, hm, hs, ht⟩
  · exact .inl ⟨rfl, List.eq_nil_of_length_eq_zero h0⟩
  · refine .inr ⟨g, 0, cap, rfl, hc, (Array.getElem?_eq_some_iff.1 hh).1, fun j hj => ?_⟩
    rw [Nat.zero_add, cell_of_row w g j cur 22 (0, 0) hh]
    have : vs[j]? = some (atV vs j) := by simp [atV, show j < vs.length by omega]
    rw [← this, ← ht, List.getElem?_take, if_pos (by omega)]
    simp
theorem BSl.of_row {w : World} {g T c : Nat} {bs : List UInt8} (h : w.heap[g]? = some (.cells (c8 bs) T (0, 0))) (hc : bs.length ≤ c) (n : Nat) (hn : n = bs.length) : BSl w (.slice (some ⟨g, 0, none⟩) n c) bs := by
  subst hn
  exact .inr (.inl ⟨g, 0, c, rfl, hc, (Array.getElem?_eq_some_iff.1 h).1, fun j hj => by rw [Nat.zero_add]; exact row8_cell h j hj⟩)
theorem atV_cons_zero (x : Value) (vs : List Value) : atV (x :: vs) 0 = x := rfl
theorem atV_cons_succ (x : Value) (vs : List Value) (j : Nat) : atV (x :: vs) (j + 1) = atV vs j := rfl
theorem atP_cons_zero (x : List UInt8) (ps : List (List UInt8)) : atP (x :: ps) 0 = x := rfl
theorem atP_cons_succ (x : List UInt8) (ps : List (List UInt8)) (j : Nat) : atP (x :: ps) (j + 1) = atP ps j := rfl
theorem GlobK.below {w w' : World} (h : GlobK w) (hb : Below w.heap.size w w') (h3 : 3 < w.heap.size) : GlobK w' := fun i hi => (hb.cell (p := ⟨3, i, none⟩) h3).trans (h i hi)
theorem GlobS.below {w w' : World} (h : GlobS w) (hb : Below w.heap.size w w') (h3 : 3 < w.heap.size) : GlobS w' := fun i hi => (hb.cell (p := ⟨0, i, none⟩) (by simp; omega)).trans (h i hi)
theorem changed_k (a : Option Addr) (n cp : Nat) (key : List UInt8) (k : Int) (c : UInt8) (hc : N8 c = k) (w : World) (hn : n = key.length) (h : BSl w (.slice a n cp) key) (hl : key.length ≤ 64) :
    Calls Tryd.prog 54 #[.slice a n cp, .int .u8 k] w (ChgP key c w) := by
  subst hc; exact changed_at a n cp key c w hn h hl
theorem BSl.same {w w' : World} {v : Value} {bs : List UInt8} (h : BSl w v bs) (e : w'.heap = w.heap) : BSl w' v bs := by
  rcases h with h | ⟨b, off, c, e1, hc, hlt, hcell⟩ | h
  · exact .inl h
  · exact .inr (.inl ⟨b, off, c, e1, hc, by rw [e]; exact hlt, fun j hj => by rw [← hcell j hj]; unfold World.cell?; rw [e]⟩)
  · exact .inr (.inr h)
theorem two_psl {w : World} {x y : Value} {p q : List UInt8} (hx : BSl w x p) (hy : BSl w y q) : PSl (w.alloc (.cells #[x, y] 22)) (.slice (some ⟨w.heap.size, 0, none⟩) 2 2) [x, y] [p, q] := by
  have hb : Below w.heap.size w (w.alloc (.cells #[x, y] 22)) := (Below.refl _ _).alloc (Nat.le_refl _) _
  refine ⟨rfl, .inr ⟨w.heap.size, 0, 2, rfl, Nat.le_refl _, by simp, fun j hj => ?_⟩, fun j hj => ?_⟩
  · rw [Nat.zero_add, cell_of_row _ _ j _ 22 (0, 0) (row_new _ _ _)]
    match j, hj with
    | 0, _ => rfl
    | 1, _ => rfl
  · match j, hj with
    | 0, _ => exact hx.below hb (Nat.le_refl _)
    | 1, _ => exact hy.below hb (Nat.le_refl _)
theorem mid_psl {w5 w6 w7 : World} {key hm : List UInt8} (hk64 : key.length ≤ 64) (hml : hm.length = 32) (hz : w5.heap.size < w6.heap.size) (hG6 : w6.heap[w5.heap.size]? = some (.cells (c8 hm) 24 (0, 0)))
    (hG7 : w7.heap[w6.drew.heap.size]? = some (.cells (c8 (chg key 92)) 5 (0, 0))) (hb7 : Below w6.drew.heap.size w6.drew w7) :
    PSl (w7.alloc (.cells #[.slice (some ⟨w6.heap.size, 0, none⟩) 64 64, .slice (some ⟨w5.heap.size, 0, none⟩) 32 32] 22)) (.slice (some ⟨w7.heap.size, 0, none⟩) 2 2) [.slice (some ⟨w6.heap.size, 0, none⟩) 64 64, .slice (some ⟨w5.heap.size, 0, none⟩) 32 32] [chg key 92, hm] := by
  have hl := chg_length key 92 hk64
  refine two_psl (BSl.of_row (T := 5) (c := 64) hG7 (by omega) 64 hl.symm) (BSl.of_row (T := 24) (c := 32) ?_ (by omega) 32 hml.symm)
  exact (hb7.block _ hz).trans hG6
theorem results_mid {P : Program} {fn : Func} {p : Tmp} {ty : TypeId} (h : fn.results = #[.cell p ty]) (tmps : Array Value) (w : World) (b : Nat) (cs : List Value) (d : TypeDesc)
    (hp : tmps.getD p undef = .pointer (some ⟨b, 0, none⟩)) (hc : w.rangeAt b 0 cs) (hu : P.underlying ty = some d) (hd : d.isRow = true) (hi : (P.info? ty).map (·.size) = some cs.length) :
    (results fn tmps).run P w = .ok (.agg cs.toArray) w := by
  have hp' : tmps[p]?.getD undef = .pointer (some ⟨b, 0, none⟩) := by simpa using hp
  simp [results, h, hp', asAddr, run_loadVar_mid w b 0 ty cs d hc hu hd hi]
theorem there_of_row {w : World} {b T : Nat} {l : List UInt8} (h : w.heap[b]? = some (.cells (c8 l) T (0, 0))) : w.there b 0 l.length := fun j hj => by
  rw [Nat.zero_add]
  exact ⟨by rw [row8_cell h j hj]; rfl, row_free h j⟩
theorem there_below {B : Nat} {w w' : World} {b o n : Nat} (h : w.there b o n) (hb : Below B w w') (hB : b < B) : w'.there b o n := fun j hj => by
  rw [hb.cell (p := ⟨b, o + j, none⟩) hB, hb.frozen (p := ⟨b, o + j, none⟩) hB]; exact h j hj
def hmS (key msg : List UInt8) : List UInt8 := shaB (chg key 92 ++ shaB (chg key 54 ++ msg))
def hmB (key msg : List UInt8) : List UInt8 := hmS (if key.length > 64 then shaB key else key) msg
attribute [local irreducible] chg shaB
theorem below_cells {B b : Nat} {a : World} (hb : B ≤ b) : ∀ (vs : List Value) (o : Nat) (w : World), Below B a w → Below B a (w.setCells b o vs)
  | [], _, _, h => h
  | _ :: r, o, _, h => below_cells hb r (o + 1) _ (h.setCell hb _)
theorem mid_len {key hm : List UInt8} (hk64 : key.length ≤ 64) (hml : hm.length = 32) : ([chg key 92, hm].flatten).length ≤ 100000000000 := by
  have hl := chg_length key 92 hk64
  simp [hl, hml]
theorem alloc_below {o : Obj} (w : World) : Below w.heap.size w (w.alloc o) := (Below.refl _ _).alloc (Nat.le_refl _) _
theorem mid_below {w w6 w7 : World} {o : Obj} (h6 : Below w.heap.size w w6) (h7 : Below w6.drew.heap.size w6.drew w7) : Below w.heap.size w (w7.alloc o) :=
  (h6.drew.trans (h7.mono h6.size)).alloc (Nat.le_trans h6.size h7.size) _
theorem mid_lt {w w' : World} (h3 : 3 < w.heap.size) (h : Below w.heap.size w w') : 3 < w'.heap.size := Nat.lt_of_lt_of_le h3 h.size
theorem mid_lt2 {n : Nat} {w6 w7 : World} (h : n < w6.heap.size) (h7 : Below w6.drew.heap.size w6.drew w7) : n < w7.heap.size := Nat.lt_of_lt_of_le h h7.size
theorem mid_lt3 {n : Nat} {w6 w7 : World} {o : Obj} (h : n < w6.heap.size) (h7 : Below w6.drew.heap.size w6.drew w7) : n < (w7.alloc o).heap.size := by
  have := mid_lt2 h h7; simp; omega
set_option maxRecDepth 100000 in
set_option maxHeartbeats 1000000 in
theorem hmac_short (kv pv : Value) (key : List UInt8) (vs : List Value) (ps : List (List UInt8)) (w : World) (hk : BSl w kv key) (hk64 : key.length ≤ 64) (hP : PSl w pv vs ps) (hc0 : ps.length ≤ 100000000) (ht : ps.flatten.length ≤ 10000000000)
    (hK : GlobK w) (hS : GlobS w) (h3 : 3 < w.heap.size) :
    Calls Tryd.prog 14 #[kv, pv] w fun e w' => e = .returned (.agg (c8 (hmS key ps.flatten))) ∧ Below w.heap.size w w' := by
  have HK : Hid (GlobK w) := hK
  have HS : Hid (GlobS w) := hS
  clear hK hS
  obtain ⟨a0, c0, hkv⟩ := hk.len
  subst hkv
  have d64 : decide ((64 : Int) < (key.length : Int)) = false := decide_eq_false (by omega)
  have HR1 := Lib.hid (row_new8 w)
  go_enter Tryd.func14, Tryd.ntmps14
  go_wp2_with fail
  generalize hw1 : w.alloc _ = w1 at HR1 ⊢
  have hb1 : Below w.heap.size w w1 := by rw [← hw1]; exact (Below.refl _ _).alloc (Nat.le_refl _) _
  have HZ1 : Hid (w.heap.size < w1.heap.size) := by rw [← hw1]; simp [Hid]
  clear hw1
  have hk1 := hk.below hb1 (Nat.le_refl _)
  refine (clone_any pv vs ps w1 (hP.below hb1 (Nat.le_refl _)) (by omega)).mono ?_
  rintro e w2 ⟨v2, rfl, hown2, hb2⟩
  have hz2 := hb2.size
  have hbw2 : Below w.heap.size w w2 := hb1.trans (hb2.mono (by have := HZ1.out; omega))
  go_wp2_with fail
  refine (changed_k a0 key.length c0 key 54 54 rfl w2 rfl (hk1.below hb2 (Nat.le_refl _)) hk64).mono ?_
  rintro e w3 ⟨rfl, hG3, hb3⟩
  have HG3 := Lib.hid hG3
  clear hG3
  have hz3 := hb3.size
  have hz3' : w2.heap.size < w3.heap.size := (Array.getElem?_eq_some_iff.1 HG3.out).1
  go_wp2_with fail
  have hb3' : Below w2.heap.size w2 (w3.alloc (.cells #[.slice (some ⟨w2.heap.size, 0, none⟩) 64 64] 22)) := hb3.alloc hz3 _
  refine (insert_any w1.heap.size w3.heap.size ps.length v2 (.slice (some ⟨w2.heap.size, 0, none⟩) 64 64) vs _ (owns_below hown2 hb3' (Nat.le_refl _)) (by simp; omega) (by omega) (by simp) rfl ?_ (by simp) (fun g hg => by have := owns_lt hown2 hg; omega) ⟨_, row_new _ _ _⟩).mono ?_
  · intro u hu
    obtain ⟨j, hj, rfl⟩ := List.getElem_of_mem hu
    have := (hP.each j (by rw [← hP.len]; exact hj)).one
    simpa [atV, hj] using this
  rintro e w4 ⟨v4, rfl, hown4, hg4⟩
  have hb4 : Below w1.heap.size w1 w4 := (hb2.trans (hb3'.mono hz2)).grown hg4 (by simp; omega) (fun g hg => owns_block hown2 hg)
  have hbw4 : Below w.heap.size w w4 := hb1.trans (hb4.mono (by have := HZ1.out; omega))
  have HG4 : Hid (w4.heap[w2.heap.size]? = some (.cells (c8 (chg key 54)) 5 (0, 0))) := by
    show _ = _
    rw [hg4.block _ (by simp; omega) (fun e => by have := owns_lt hown2 e.symm; omega), Below.heap_alloc _ _ _ hz3']
    exact HG3.out
  have hP4 : PSl w4 v4 (.slice (some ⟨w2.heap.size, 0, none⟩) 64 64 :: vs) (chg key 54 :: ps) := by
    refine PSl.of_owns hown4 (by simp [hP.len]) (fun j hj => ?_)
    cases j with
    | zero =>
      rw [atV_cons_zero, atP_cons_zero]
      have hl := chg_length key 54 hk64
      exact BSl.of_row HG4.out (by rw [hl]; exact Nat.le_refl _) 64 hl.symm
    | succ j =>
      rw [atV_cons_succ, atP_cons_succ]
      exact (hP.each j (by simpa using hj)).below hbw4 (Nat.le_refl _)
  have hz4 := hb4.size
  go_wp2_with fail
  refine (sha_any v4 _ (chg key 54 :: ps) w4 hP4 (by simp; omega) (by rw [List.flatten_cons, List.length_append, chg_length _ _ hk64]; omega) (HK.out.below hbw4 h3) (HS.out.below hbw4 h3) (by have := hbw4.size; omega)).mono ?_
  rintro e w5 ⟨rfl, hb5⟩
  have hbw5 : Below w.heap.size w w5 := hbw4.trans (hb5.mono hbw4.size)
  obtain ⟨hm, hhm⟩ : ∃ hm, hm = shaB (chg key 54 :: ps).flatten := ⟨_, rfl⟩
  rw [← hhm]
  have hml : hm.length = 32 := by rw [hhm]; exact shaB_length _
  have HHM := Lib.hid hhm
  clear hhm
  have HI24 : Hid ((Tryd.prog.info? 24).map (·.size) = some (c8 hm).size) := by rw [c8_size, hml]; exact info24
  have HQ : Hid ((c8 (List.replicate 32 0)).size = (c8 hm).size) := by rw [c8_size, c8_size, hml]; simp [Hid]
  have HML := Lib.hid hml
  clear hml
  go_wp2_with (refine wpList_store_row rfl 24 (.tmp 6) (.tmp 20) rfl w5.heap.size (c8 hm) rfl rfl 24 _ (row_new8 w5) HI24.out HQ.out (c8_one _) ?_)
  go_frame
  generalize hw6 : (w5.alloc _).setRow w5.heap.size (c8 hm) = w6
  have hb6 : Below w5.heap.size w5 w6 := by rw [← hw6]; exact below_setRow ((Below.refl _ _).alloc (Nat.le_refl _) _) (Nat.le_refl _) _
  have HG6 : Hid (w6.heap[w5.heap.size]? = some (.cells (c8 hm) 24 (0, 0))) := by rw [← hw6]; exact setRow_heap _ _ _ _ _ _ (row_new8 w5)
  clear hw6
  have hz6 : w5.heap.size < w6.heap.size := (Array.getElem?_eq_some_iff.1 HG6.out).1
  have hbw6 : Below w.heap.size w w6 := hbw5.trans (hb6.mono hbw5.size)
  have HR6 : Hid (w6.heap[w.heap.size]? = some (.cells (c8 (List.replicate 32 0)) 24 (0, 0))) := by
    show _ = _
    rw [hb6.block _ (by have := HZ1.out; have := hb5.size; omega), hb5.block _ (by have := HZ1.out; omega), hb4.block _ (by have := HZ1.out; omega)]
    exact HR1.out
  have hT6 : w6.there w.heap.size 0 32 := by have := there_of_row HR6.out; rwa [List.length_replicate] at this
  obtain ⟨X, hX⟩ : ∃ X, X = shaB [chg key 92, hm].flatten := ⟨_, rfl⟩
  have hXl : X.length = 32 := by rw [hX]; exact shaB_length _
  have hXc : (c8l X).length = 32 := by rw [c8l_length]; exact hXl
  have hX1 : ∀ v ∈ c8l X, v.oneCell' = true := c8l_one X
  have hi24 := info24
  have HX := Lib.hid hX
  clear hX hXl
  have hk6 := hk1.below (hb4.trans ((hb5.mono hb4.size).trans (hb6.mono (Nat.le_trans hb4.size hb5.size)))) (Nat.le_refl _)
  have hRz6 : w.heap.size < w6.heap.size := by have := HZ1.out; have := hb5.size; omega
  go_region_held3 (fun W => W.there w.heap.size 0 32) (first | exact hT6 | exact hT7 | exact there_below hT7 (alloc_below w7) (mid_lt2 hRz6 hb7) | exact hT8 | exact World.there_setCells hT8 _ _ _)
    (first | (go_at_call 54; refine (changed_k a0 key.length c0 key 92 92 rfl _ rfl ?_ hk64).mono ?_; exact hk6.same rfl; rintro e w7 ⟨rfl, hG7, hb7⟩; have HG7 := Lib.hid hG7; clear hG7; have hT7 : w7.there w.heap.size 0 32 := there_below (w := w6.drew) hT6 hb7 hRz6) | (go_at_call 12; refine (sha_any _ _ _ _ (mid_psl hk64 HML.out hz6 HG6.out HG7.out hb7) (by simp) ?_ ?_ ?_ ?_).mono ?_; exact mid_len hk64 HML.out; exact HK.out.below (mid_below hbw6 hb7) h3; exact HS.out.below (mid_below hbw6 hb7) h3; exact mid_lt h3 (mid_below hbw6 hb7); (rw [← HX.out]); rintro e w8 ⟨rfl, hb8⟩; have hT8 : w8.there w.heap.size 0 32 := there_below (there_below hT7 (alloc_below w7) (mid_lt2 hRz6 hb7)) hb8 (mid_lt3 hRz6 hb7)))
  go_wp2
  have hrs : (w8.setCells w.heap.size 0 (c8l X)).rangeAt w.heap.size 0 (c8l X) := World.rangeAt_setCells_same _ _ _ _ (by rw [hXc]; exact hT8)
  have hfin : Below w.heap.size w (w8.setCells w.heap.size 0 (c8l X)) := below_cells (Nat.le_refl _) _ _ _ ((mid_below hbw6 hb7).trans (hb8.mono (mid_below hbw6 hb7).size))
  refine bodyPost_ret (v := .agg (c8 X)) (results_mid (p := 4) (ty := 24) rfl _ _ w.heap.size (c8l X) _ rfl hrs Tryd.underlying24 rfl (by rw [hXc]; exact info24)) rfl ⟨?_, hfin⟩
  rw [HX.out, HHM.out]
  simp [hmS]
theorem one_psl {w : World} {x : Value} {p : List UInt8} (hx : BSl w x p) : PSl (w.alloc (.cells #[x] 22)) (.slice (some ⟨w.heap.size, 0, none⟩) 1 1) [x] [p] := by
  have hb : Below w.heap.size w (w.alloc (.cells #[x] 22)) := (Below.refl _ _).alloc (Nat.le_refl _) _
  refine ⟨rfl, .inr ⟨w.heap.size, 0, 1, rfl, Nat.le_refl _, by simp, fun j hj => ?_⟩, fun j hj => ?_⟩
  · rw [Nat.zero_add, cell_of_row _ _ j _ 22 (0, 0) (row_new _ _ _)]
    match j, hj with
    | 0, _ => rfl
  · match j, hj with
    | 0, _ => exact hx.below hb (Nat.le_refl _)
set_option maxRecDepth 100000 in
set_option maxHeartbeats 1000000 in
theorem hmac_long (kv pv : Value) (key : List UInt8) (vs : List Value) (ps : List (List UInt8)) (w : World) (hk : BSl w kv key) (hlong : 64 < key.length) (hkl : key.length ≤ 10000000000) (hP : PSl w pv vs ps) (hc0 : ps.length ≤ 100000000) (ht : ps.flatten.length ≤ 10000000000)
    (hK : GlobK w) (hS : GlobS w) (h3 : 3 < w.heap.size) :
    Calls Tryd.prog 14 #[kv, pv] w fun e w' => e = .returned (.agg (c8 (hmS (shaB key) ps.flatten))) ∧ Below w.heap.size w w' := by
  have HK : Hid (GlobK w) := hK
  have HS : Hid (GlobS w) := hS
  clear hK hS
  obtain ⟨a0, c0, hkv⟩ := hk.len
  subst hkv
  have d64 : decide ((64 : Int) < (key.length : Int)) = true := decide_eq_true (by omega)
  have HR0 := Lib.hid (row_new8 w)
  go_enter Tryd.func14, Tryd.ntmps14
  go_wp2_with fail
  generalize hy1 : w.alloc _ = y1 at HR0 ⊢
  have hby1 : Below w.heap.size w y1 := by rw [← hy1]; exact (Below.refl _ _).alloc (Nat.le_refl _) _
  have hyz : y1.heap.size = w.heap.size + 1 := by rw [← hy1]; simp
  clear hy1
  rw [← hyz]
  have hyz1 : w.heap.size < y1.heap.size := by omega
  clear hyz
  have hby2 : Below w.heap.size w (y1.alloc (.cells #[.slice a0 key.length c0] 22)) := hby1.alloc (by omega) _
  refine (sha_any _ _ _ _ (one_psl (hk.below hby1 (Nat.le_refl _))) (by simp) (by simp; omega) (HK.out.below hby2 h3) (HS.out.below hby2 h3) (mid_lt h3 hby2)).mono ?_
  rintro e y3 ⟨rfl, hby3⟩
  obtain ⟨ky, hky⟩ : ∃ ky, ky = shaB [key].flatten := ⟨_, rfl⟩
  rw [← hky]
  have hkyl : ky.length = 32 := by rw [hky]; exact shaB_length _
  have HKY := Lib.hid hky
  clear hky
  have HI24k : Hid ((Tryd.prog.info? 24).map (·.size) = some (c8 ky).size) := by rw [c8_size, hkyl]; exact info24
  have HQk : Hid ((c8 (List.replicate 32 0)).size = (c8 ky).size) := by rw [c8_size, c8_size, hkyl]; simp [Hid]
  have HKL := Lib.hid hkyl
  clear hkyl
  go_wp2_with (first | (refine wpList_store_row rfl 24 (.tmp 5) (.tmp 12) rfl y3.heap.size (c8 ky) rfl rfl 24 _ (row_new8 y3) HI24k.out HQk.out (c8_one _) ?_))
  generalize hw1 : (y3.alloc _).setRow y3.heap.size (c8 ky) = w1
  have hb31 : Below y3.heap.size y3 w1 := by rw [← hw1]; exact below_setRow (alloc_below _) (Nat.le_refl _) _
  have HGK : Hid (w1.heap[y3.heap.size]? = some (.cells (c8 ky) 24 (0, 0))) := by rw [← hw1]; exact setRow_heap _ _ _ _ _ _ (row_new8 y3)
  clear hw1
  have hby3s := hby3.size
  simp only [World.size_alloc] at hby3s
  have hb1 : Below w.heap.size w w1 := hby2.trans ((hby3.mono (by simp; omega)).trans (hb31.mono (by omega)))
  have HZ1 : Hid (w.heap.size < w1.heap.size) := by have := hb31.size; show _ < _; omega
  have HR1 : Hid (w1.heap[w.heap.size]? = some (.cells (c8 (List.replicate 32 0)) 24 (0, 0))) := by
    show _ = _
    rw [hb31.block _ (by omega), hby3.block _ (by simp; omega), Below.heap_alloc _ _ _ hyz1]
    exact HR0.out
  have hk1 : BSl w1 (.slice (some ⟨y3.heap.size, 0, none⟩) 32 32) ky := BSl.of_row (T := 24) HGK.out (by have := HKL.out; omega) 32 HKL.out.symm
  have hk64 : ky.length ≤ 64 := by have := HKL.out; omega
  refine (clone_any pv vs ps w1 (hP.below hb1 (Nat.le_refl _)) (by omega)).mono ?_
  rintro e w2 ⟨v2, rfl, hown2, hb2⟩
  have hz2 := hb2.size
  have hbw2 : Below w.heap.size w w2 := hb1.trans (hb2.mono (by have := HZ1.out; omega))
  go_wp2_with fail
  refine (changed_k (some ⟨y3.heap.size, 0, none⟩) 32 32 ky 54 54 rfl w2 HKL.out.symm (hk1.below hb2 (Nat.le_refl _)) hk64).mono ?_
  rintro e w3 ⟨rfl, hG3, hb3⟩
  have HG3 := Lib.hid hG3
  clear hG3
  have hz3 := hb3.size
  have hz3' : w2.heap.size < w3.heap.size := (Array.getElem?_eq_some_iff.1 HG3.out).1
  go_wp2_with fail
  have hb3' : Below w2.heap.size w2 (w3.alloc (.cells #[.slice (some ⟨w2.heap.size, 0, none⟩) 64 64] 22)) := hb3.alloc hz3 _
  refine (insert_any w1.heap.size w3.heap.size ps.length v2 (.slice (some ⟨w2.heap.size, 0, none⟩) 64 64) vs _ (owns_below hown2 hb3' (Nat.le_refl _)) (by simp; omega) (by omega) (by simp) rfl ?_ (by simp) (fun g hg => by have := owns_lt hown2 hg; omega) ⟨_, row_new _ _ _⟩).mono ?_
  · intro u hu
    obtain ⟨j, hj, rfl⟩ := List.getElem_of_mem hu
    have := (hP.each j (by rw [← hP.len]; exact hj)).one
    simpa [atV, hj] using this
  rintro e w4 ⟨v4, rfl, hown4, hg4⟩
  have hb4 : Below w1.heap.size w1 w4 := (hb2.trans (hb3'.mono hz2)).grown hg4 (by simp; omega) (fun g hg => owns_block hown2 hg)
  have hbw4 : Below w.heap.size w w4 := hb1.trans (hb4.mono (by have := HZ1.out; omega))
  have HG4 : Hid (w4.heap[w2.heap.size]? = some (.cells (c8 (chg ky 54)) 5 (0, 0))) := by
    show _ = _
    rw [hg4.block _ (by simp; omega) (fun e => by have := owns_lt hown2 e.symm; omega), Below.heap_alloc _ _ _ hz3']
    exact HG3.out
  have hP4 : PSl w4 v4 (.slice (some ⟨w2.heap.size, 0, none⟩) 64 64 :: vs) (chg ky 54 :: ps) := by
    refine PSl.of_owns hown4 (by simp [hP.len]) (fun j hj => ?_)
    cases j with
    | zero =>
      rw [atV_cons_zero, atP_cons_zero]
      have hl := chg_length ky 54 hk64
      exact BSl.of_row HG4.out (by rw [hl]; exact Nat.le_refl _) 64 hl.symm
    | succ j =>
      rw [atV_cons_succ, atP_cons_succ]
      exact (hP.each j (by simpa using hj)).below hbw4 (Nat.le_refl _)
  have hz4 := hb4.size
  go_wp2_with fail
  refine (sha_any v4 _ (chg ky 54 :: ps) w4 hP4 (by simp; omega) (by rw [List.flatten_cons, List.length_append, chg_length _ _ hk64]; omega) (HK.out.below hbw4 h3) (HS.out.below hbw4 h3) (by have := hbw4.size; omega)).mono ?_
  rintro e w5 ⟨rfl, hb5⟩
  have hbw5 : Below w.heap.size w w5 := hbw4.trans (hb5.mono hbw4.size)
  obtain ⟨hm, hhm⟩ : ∃ hm, hm = shaB (chg ky 54 :: ps).flatten := ⟨_, rfl⟩
  rw [← hhm]
  have hml : hm.length = 32 := by rw [hhm]; exact shaB_length _
  have HHM := Lib.hid hhm
  clear hhm
  have HI24 : Hid ((Tryd.prog.info? 24).map (·.size) = some (c8 hm).size) := by rw [c8_size, hml]; exact info24
  have HQ : Hid ((c8 (List.replicate 32 0)).size = (c8 hm).size) := by rw [c8_size, c8_size, hml]; simp [Hid]
  have HML := Lib.hid hml
  clear hml
  go_wp2_with (refine wpList_store_row rfl 24 (.tmp 6) (.tmp 20) rfl w5.heap.size (c8 hm) rfl rfl 24 _ (row_new8 w5) HI24.out HQ.out (c8_one _) ?_)
  go_frame
  generalize hw6 : (w5.alloc _).setRow w5.heap.size (c8 hm) = w6
  have hb6 : Below w5.heap.size w5 w6 := by rw [← hw6]; exact below_setRow ((Below.refl _ _).alloc (Nat.le_refl _) _) (Nat.le_refl _) _
  have HG6 : Hid (w6.heap[w5.heap.size]? = some (.cells (c8 hm) 24 (0, 0))) := by rw [← hw6]; exact setRow_heap _ _ _ _ _ _ (row_new8 w5)
  clear hw6
  have hz6 : w5.heap.size < w6.heap.size := (Array.getElem?_eq_some_iff.1 HG6.out).1
  have hbw6 : Below w.heap.size w w6 := hbw5.trans (hb6.mono hbw5.size)
  have HR6 : Hid (w6.heap[w.heap.size]? = some (.cells (c8 (List.replicate 32 0)) 24 (0, 0))) := by
    show _ = _
    rw [hb6.block _ (by have := HZ1.out; have := hb5.size; omega), hb5.block _ (by have := HZ1.out; omega), hb4.block _ (by have := HZ1.out; omega)]
    exact HR1.out
  have hT6 : w6.there w.heap.size 0 32 := by have := there_of_row HR6.out; rwa [List.length_replicate] at this
  obtain ⟨X, hX⟩ : ∃ X, X = shaB [chg ky 92, hm].flatten := ⟨_, rfl⟩
  have hXl : X.length = 32 := by rw [hX]; exact shaB_length _
  have hXc : (c8l X).length = 32 := by rw [c8l_length]; exact hXl
  have hX1 : ∀ v ∈ c8l X, v.oneCell' = true := c8l_one X
  have hi24 := info24
  have HX := Lib.hid hX
  clear hX hXl
  have hk6 := hk1.below (hb4.trans ((hb5.mono hb4.size).trans (hb6.mono (Nat.le_trans hb4.size hb5.size)))) (Nat.le_refl _)
  have hRz6 : w.heap.size < w6.heap.size := by have := HZ1.out; have := hb5.size; omega
  go_region_held3 (fun W => W.there w.heap.size 0 32) (first | exact hT6 | exact hT7 | exact there_below hT7 (alloc_below w7) (mid_lt2 hRz6 hb7) | exact hT8 | exact World.there_setCells hT8 _ _ _)
    (first | (go_at_call 54; refine (changed_k (some ⟨y3.heap.size, 0, none⟩) 32 32 ky 92 92 rfl _ HKL.out.symm ?_ hk64).mono ?_; exact hk6.same rfl; rintro e w7 ⟨rfl, hG7, hb7⟩; have HG7 := Lib.hid hG7; clear hG7; have hT7 : w7.there w.heap.size 0 32 := there_below (w := w6.drew) hT6 hb7 hRz6) | (go_at_call 12; refine (sha_any _ _ _ _ (mid_psl hk64 HML.out hz6 HG6.out HG7.out hb7) (by simp) ?_ ?_ ?_ ?_).mono ?_; exact mid_len hk64 HML.out; exact HK.out.below (mid_below hbw6 hb7) h3; exact HS.out.below (mid_below hbw6 hb7) h3; exact mid_lt h3 (mid_below hbw6 hb7); (rw [← HX.out]); rintro e w8 ⟨rfl, hb8⟩; have hT8 : w8.there w.heap.size 0 32 := there_below (there_below hT7 (alloc_below w7) (mid_lt2 hRz6 hb7)) hb8 (mid_lt3 hRz6 hb7)))
  go_wp2
  have hrs : (w8.setCells w.heap.size 0 (c8l X)).rangeAt w.heap.size 0 (c8l X) := World.rangeAt_setCells_same _ _ _ _ (by rw [hXc]; exact hT8)
  have hfin : Below w.heap.size w (w8.setCells w.heap.size 0 (c8l X)) := below_cells (Nat.le_refl _) _ _ _ ((mid_below hbw6 hb7).trans (hb8.mono (mid_below hbw6 hb7).size))
  refine bodyPost_ret (v := .agg (c8 X)) (results_mid (p := 4) (ty := 24) rfl _ _ w.heap.size (c8l X) _ rfl hrs Tryd.underlying24 rfl (by rw [hXc]; exact info24)) rfl ⟨?_, hfin⟩
  rw [HX.out, HHM.out, HKY.out]
  simp [hmS]
theorem hmac_any (kv pv : Value) (key : List UInt8) (vs : List Value) (ps : List (List UInt8)) (w : World) (hk : BSl w kv key) (hkl : key.length ≤ 10000000000) (hP : PSl w pv vs ps) (hc0 : ps.length ≤ 100000000) (ht : ps.flatten.length ≤ 10000000000)
    (hK : GlobK w) (hS : GlobS w) (h3 : 3 < w.heap.size) :
    Calls Tryd.prog 14 #[kv, pv] w fun e w' => e = .returned (.agg (c8 (hmB key ps.flatten))) ∧ Below w.heap.size w w' := by
  unfold hmB
  by_cases h : key.length > 64
  · rw [if_pos h]; exact hmac_long kv pv key vs ps w hk h hkl hP hc0 ht hK hS h3
  · rw [if_neg h]; exact hmac_short kv pv key vs ps w hk (by omega) hP hc0 ht hK hS h3
end Go.Proofs.YtjkicmlelilcaaaDoor
namespace Go.Proofs.YtjkicmlelilcaaaDoor
set_option maxRecDepth 100000 in
theorem sha_abc : shaB [97, 98, 99] = [186, 120, 22, 191, 143, 1, 207, 234, 65, 65, 64, 222, 93, 174, 34, 35, 176, 3, 97, 163, 150, 23, 122, 156, 180, 16, 255, 97, 242, 0, 21, 173] := by decide +kernel
def jefe : List UInt8 := [74, 101, 102, 101]
def whatA : List UInt8 := [119, 104, 97, 116, 32, 100, 111, 32, 121, 97, 32, 119, 97, 110, 116, 32]
def whatB : List UInt8 := [102, 111, 114, 32, 110, 111, 116, 104, 105, 110, 103, 63]
set_option maxRecDepth 100000 in
theorem hm_jefe : hmB jefe (whatA ++ whatB) = [0x5b, 0xdc, 0xc1, 0x46, 0xbf, 0x60, 0x75, 0x4e, 0x6a, 0x04, 0x24, 0x26, 0x08, 0x95, 0x75, 0xc7, 0x5a, 0x00, 0x3f, 0x08, 0x9d, 0x27, 0x39, 0x83, 0x9d, 0xec, 0x58, 0xb9, 0x64, 0xec, 0x38, 0x43] := by decide +kernel
end Go.Proofs.YtjkicmlelilcaaaDoor
namespace Go.Proofs.YtjkicmlelilcaaaDoor
open Go.RowKit
theorem fold_push : ∀ (bs : List UInt8) (s : ByteArray), (bs.map N8).foldl (fun r n => r.push (UInt8.ofNat n.toNat)) s = ⟨s.data ++ bs.toArray⟩
  | [], s => by simp
  | c :: bs, s => by
    rw [List.map_cons, List.foldl_cons, fold_push bs]
    have : UInt8.ofNat (N8 c).toNat = c := by unfold N8; simp
    rw [this]
    congr 1
    apply Array.ext'
    simp [ByteArray.push]
theorem conv_str {w : World} {v : Value} {bs : List UInt8} (h : BSl w v bs) : (convert 22 9 v).run Tryd.prog w = .ok (.string ⟨bs.toArray⟩) w := by
  rcases h with ⟨rfl, rfl⟩ | ⟨b, off, c, rfl, _, _, hcell⟩ | ⟨a, rfl, rfl⟩
  rotate_right
  · rw [run_convert_bytes_string w 22 9 5 _ _ 0 Tryd.underlying22 Tryd.underlying5 Tryd.underlying9]
    have hl : (loadCells a (c8l []).length).run Tryd.prog w = .ok (c8l []).toArray w := run_loadCells_list (P := Tryd.prog) w a (c8l []) (fun j u hu => by simp [c8l] at hu)
    exact run_bytesToString w a 0 0 [] hl
  · rw [run_convert_bytes_string w 22 9 5 none 0 0 Tryd.underlying22 Tryd.underlying5 Tryd.underlying9]
    rfl
  · rw [run_convert_bytes_string w 22 9 5 _ _ c Tryd.underlying22 Tryd.underlying5 Tryd.underlying9]
    have hl : (loadCells ⟨b, off, none⟩ (c8l bs).length).run Tryd.prog w = .ok (c8l bs).toArray w := run_loadCells_list (P := Tryd.prog) w ⟨b, off, none⟩ (c8l bs) (news_of hcell)
    rw [c8l_length] at hl
    have e : (c8l bs) = (bs.map N8).map (Value.int .u8) := by simp [c8l]
    rw [e] at hl
    rw [run_bytesToString w ⟨b, off, none⟩ bs.length c (bs.map N8) hl, fold_push]
    have : (ByteArray.empty.data ++ bs.toArray) = bs.toArray := by apply Array.ext'; simp
    rw [this]
theorem BSl.lit {w : World} {bs : List UInt8} {n c : Nat} {fr : Nat × Nat} (hn : n = bs.length) (hc : n ≤ c) : BSl (w.alloc (.cells (c8 bs) 5 fr)) (.slice (some ⟨w.heap.size, 0, none⟩) n c) bs := by
  subst hn
  refine .inr (.inl ⟨w.heap.size, 0, c, rfl, hc, by simp, fun j hj => ?_⟩)
  rw [Nat.zero_add, World.cell?_alloc_mark]
  exact c8_at bs j hj
theorem wpList_store_new {w : World} {ops : Array Oper} {rest : List Oper} {o : Oper} {a : Act} {Q : Exit → Act → World → Prop} (hgd : o.guard = none) (x y : Operand) (ho : o.op = .store 24 x y) (l : List UInt8) (hl : l.length = 32)
    (hx : a.eval x = .pointer (some ⟨w.heap.size, 0, none⟩)) (hy : a.eval y = .agg (c8 l))
    (h : ∀ w', Below w.heap.size w w' → Hid (w'.heap[w.heap.size]? = some (.cells (c8 l) 24 (0, 0))) → Hid (w'.heap.size = w.heap.size + 1) → wpList Tryd.prog ops Q rest (a.put o.dst undef) w') :
    wpList Tryd.prog ops Q (o :: rest) a (w.alloc (.cells #[.int .u8 0, .int .u8 0, .int .u8 0, .int .u8 0, .int .u8 0, .int .u8 0, .int .u8 0, .int .u8 0, .int .u8 0, .int .u8 0, .int .u8 0, .int .u8 0, .int .u8 0, .int .u8 0, .int .u8 0, .int .u8 0, .int .u8 0, .int .u8 0, .int .u8 0, .int .u8 0, .int .u8 0, .int .u8 0, .int .u8 0, .int .u8 0, .int .u8 0, .int .u8 0, .int .u8 0, .int .u8 0, .int .u8 0, .int .u8 0, .int .u8 0, .int .u8 0] 24)) := by
  refine wpList_store_row hgd 24 x y ho w.heap.size (c8 l) hx hy 24 _ (row_new8 w) (by rw [c8_size, hl]; exact info24) (by rw [c8_size, c8_size, hl]; rfl) (c8_one _) ?_
  exact h _ (below_setRow (alloc_below w) (Nat.le_refl _) _) (setRow_heap _ _ _ _ _ _ (row_new8 w)) (by show _ = _; simp)
theorem str_at {w : World} {b T : Nat} {l : List UInt8} (h : w.heap[b]? = some (.cells (c8 l) T (0, 0))) (off n c : Nat) (hn : off + n ≤ l.length) (hc : n ≤ c := by decide) :
    (convert 22 9 (.slice (some ⟨b, off, none⟩) n c)).run Tryd.prog w = .ok (.string ⟨((l.drop off).take n).toArray⟩) w := by
  refine conv_str (.inr (.inl ⟨b, off, c, ?_, ?_, (Array.getElem?_eq_some_iff.1 h).1, fun j hj => ?_⟩))
  · simp; omega
  · simp; omega
  · have hj' : j < n := by simp at hj; omega
    rw [row8_cell h (off + j) (by omega)]
    unfold at8
    rw [List.getD_eq_getElem?_getD, List.getD_eq_getElem?_getD, List.getElem?_take, if_pos hj', List.getElem?_drop]
theorem kc0 (w : World) (C : Array Value) (n c : Nat) : (convert 22 22 (.slice (some ⟨w.heap.size, 0, none⟩) n c)).run Tryd.prog (w.alloc (.cells C 5)) = .ok (.slice (some ⟨w.heap.size, 0, none⟩) n c) (w.alloc (.cells C 5 (C.size, C.size + 1))) :=
  Lib.run_convert_bytes_const (P := Tryd.prog) w 22 5 C n c Tryd.underlying22 Tryd.underlying5
theorem kc1 (w : World) (o1 : Obj) (C : Array Value) (n c : Nat) : (convert 22 22 (.slice (some ⟨w.heap.size + 1, 0, none⟩) n c)).run Tryd.prog ((w.alloc o1).alloc (.cells C 5)) = .ok (.slice (some ⟨w.heap.size + 1, 0, none⟩) n c) ((w.alloc o1).alloc (.cells C 5 (C.size, C.size + 1))) := by
  have h := kc0 (w.alloc o1) C n c
  rwa [World.size_alloc] at h
theorem kc2 (w : World) (o1 o2 : Obj) (C : Array Value) (n c : Nat) : (convert 22 22 (.slice (some ⟨w.heap.size + 2, 0, none⟩) n c)).run Tryd.prog (((w.alloc o1).alloc o2).alloc (.cells C 5)) = .ok (.slice (some ⟨w.heap.size + 2, 0, none⟩) n c) (((w.alloc o1).alloc o2).alloc (.cells C 5 (C.size, C.size + 1))) := by
  have h := kc1 (w.alloc o1) o2 C n c
  rwa [World.size_alloc] at h
theorem jefe_w (w : World) : ∃ W, W = (((w.alloc (.cells #[.int .u8 74, .int .u8 101, .int .u8 102, .int .u8 101] 5 (4, 5))).alloc (.cells #[.int .u8 119, .int .u8 104, .int .u8 97, .int .u8 116, .int .u8 32, .int .u8 100, .int .u8 111, .int .u8 32, .int .u8 121, .int .u8 97, .int .u8 32, .int .u8 119, .int .u8 97, .int .u8 110, .int .u8 116, .int .u8 32] 5 (16, 17))).alloc (.cells #[.int .u8 102, .int .u8 111, .int .u8 114, .int .u8 32, .int .u8 110, .int .u8 111, .int .u8 116, .int .u8 104, .int .u8 105, .int .u8 110, .int .u8 103, .int .u8 63] 5 (12, 13))).alloc (.cells #[.slice (some ⟨w.heap.size + 1, 0, none⟩) 16 16, .slice (some ⟨w.heap.size + 2, 0, none⟩) 12 12] 22) ∧ Below w.heap.size w W ∧ BSl W (.slice (some ⟨w.heap.size, 0, none⟩) 4 4) jefe ∧
    PSl W (.slice (some ⟨w.heap.size + 1 + 1 + 1, 0, none⟩) 2 2) [.slice (some ⟨w.heap.size + 1, 0, none⟩) 16 16, .slice (some ⟨w.heap.size + 2, 0, none⟩) 12 12] [whatA, whatB] := by
  refine ⟨_, rfl, (((alloc_below w).alloc (by simp) _).alloc (by simp; omega) _).alloc (by simp; omega) _, ?_, ?_⟩
  · have h0 : BSl (w.alloc (.cells #[.int .u8 74, .int .u8 101, .int .u8 102, .int .u8 101] 5 (4, 5))) (.slice (some ⟨w.heap.size, 0, none⟩) 4 4) jefe := BSl.lit (w := w) (bs := jefe) rfl (Nat.le_refl _)
    exact ((h0.below (alloc_below _) (Nat.le_refl _)).below (alloc_below _) (Nat.le_refl _)).below (alloc_below _) (Nat.le_refl _)
  · have h1 : BSl ((w.alloc (.cells #[.int .u8 74, .int .u8 101, .int .u8 102, .int .u8 101] 5 (4, 5))).alloc (.cells #[.int .u8 119, .int .u8 104, .int .u8 97, .int .u8 116, .int .u8 32, .int .u8 100, .int .u8 111, .int .u8 32, .int .u8 121, .int .u8 97, .int .u8 32, .int .u8 119, .int .u8 97, .int .u8 110, .int .u8 116, .int .u8 32] 5 (16, 17))) (.slice (some ⟨(w.alloc (.cells #[.int .u8 74, .int .u8 101, .int .u8 102, .int .u8 101] 5 (4, 5))).heap.size, 0, none⟩) 16 16) whatA := BSl.lit (bs := whatA) rfl (Nat.le_refl _)
    have h2 : BSl (((w.alloc (.cells #[.int .u8 74, .int .u8 101, .int .u8 102, .int .u8 101] 5 (4, 5))).alloc (.cells #[.int .u8 119, .int .u8 104, .int .u8 97, .int .u8 116, .int .u8 32, .int .u8 100, .int .u8 111, .int .u8 32, .int .u8 121, .int .u8 97, .int .u8 32, .int .u8 119, .int .u8 97, .int .u8 110, .int .u8 116, .int .u8 32] 5 (16, 17))).alloc (.cells #[.int .u8 102, .int .u8 111, .int .u8 114, .int .u8 32, .int .u8 110, .int .u8 111, .int .u8 116, .int .u8 104, .int .u8 105, .int .u8 110, .int .u8 103, .int .u8 63] 5 (12, 13))) (.slice (some ⟨((w.alloc (.cells #[.int .u8 74, .int .u8 101, .int .u8 102, .int .u8 101] 5 (4, 5))).alloc (.cells #[.int .u8 119, .int .u8 104, .int .u8 97, .int .u8 116, .int .u8 32, .int .u8 100, .int .u8 111, .int .u8 32, .int .u8 121, .int .u8 97, .int .u8 32, .int .u8 119, .int .u8 97, .int .u8 110, .int .u8 116, .int .u8 32] 5 (16, 17))).heap.size, 0, none⟩) 12 12) whatB := BSl.lit (bs := whatB) rfl (Nat.le_refl _)
    have h := two_psl (h1.below (alloc_below _) (Nat.le_refl _)) h2
    simp only [World.size_alloc] at h
    exact h
attribute [local irreducible] chg shaB hmB
set_option maxRecDepth 100000 in
set_option maxHeartbeats 1000000 in
theorem tells_any (w : World) (hK : GlobK w) (hS : GlobS w) (h3 : 3 < w.heap.size) : Calls Tryd.prog 16 #[] w fun e w' => e = .returned (.bool true) ∧ Below w.heap.size w w' := by
  have HK : Hid (GlobK w) := hK
  have HS : Hid (GlobS w) := hS
  clear hK hS
  have k0 := kc0
  have k1 := kc1
  have k2 := kc2
  go_enter Tryd.func16, Tryd.ntmps16
  go_wp2_with fail
  have hp1 : PSl ((w.alloc (.cells #[.int .u8 97, .int .u8 98, .int .u8 99] 5 (3, 4))).alloc (.cells #[.slice (some ⟨w.heap.size, 0, none⟩) 3 3] 22)) (.slice (some ⟨w.heap.size + 1, 0, none⟩) 1 1) [.slice (some ⟨w.heap.size, 0, none⟩) 3 3] [[97, 98, 99]] := by
    have h := one_psl (BSl.lit (w := w) (bs := [97, 98, 99]) (n := 3) (c := 3) (fr := (3, 4)) rfl (Nat.le_refl _))
    rw [World.size_alloc] at h
    exact h
  have hb1 : Below w.heap.size w ((w.alloc (.cells #[.int .u8 97, .int .u8 98, .int .u8 99] 5 (3, 4))).alloc (.cells #[.slice (some ⟨w.heap.size, 0, none⟩) 3 3] 22)) := (alloc_below w).alloc (by simp) _
  refine (sha_any _ _ _ _ hp1 (by simp) (by simp) (HK.out.below hb1 h3) (HS.out.below hb1 h3) (mid_lt h3 hb1)).mono ?_
  rintro e w2 ⟨rfl, hb2⟩
  have hbw2 : Below w.heap.size w w2 := hb1.trans (hb2.mono (by simp; omega))
  rw [show ([[97, 98, 99]] : List (List UInt8)).flatten = [97, 98, 99] from rfl, sha_abc]
  obtain ⟨A, hA⟩ : ∃ A : List UInt8, A = [186, 120, 22, 191, 143, 1, 207, 234, 65, 65, 64, 222, 93, 174, 34, 35, 176, 3, 97, 163, 150, 23, 122, 156, 180, 16, 255, 97, 242, 0, 21, 173] := ⟨_, rfl⟩
  rw [← hA]
  have HA := Lib.hid hA
  clear hA hp1 hb1 hb2
  have HAL : Hid (A.length = 32) := by rw [HA.out]; rfl
  go_wp2_with (refine wpList_store_new (o := { dst := none, op := .store 24 (.tmp 1) (.tmp 6), type := _, pos := _, after := _, guard := none }) rfl (.tmp 1) (.tmp 6) rfl A HAL.out rfl rfl ?_; intro w3 hb3 HG3 HZ3)
  obtain ⟨W, hW, hbW, hJ, hPJ⟩ := jefe_w w3
  rw [← hW]
  clear hW k0 k1 k2
  have hbw3 : Below w.heap.size w w3 := hbw2.trans (hb3.mono hbw2.size)
  have hbwW : Below w.heap.size w W := hbw3.trans (hbW.mono hbw3.size)
  refine (hmac_any _ _ jefe _ [whatA, whatB] W hJ (by decide) hPJ (by simp) (by decide) (HK.out.below hbwW h3) (HS.out.below hbwW h3) (mid_lt h3 hbwW)).mono ?_
  rintro e w4 ⟨rfl, hb4⟩
  have hbw4 : Below w.heap.size w w4 := hbwW.trans (hb4.mono hbwW.size)
  rw [show ([whatA, whatB] : List (List UInt8)).flatten = whatA ++ whatB from rfl, hm_jefe]
  obtain ⟨Bh, hBh⟩ : ∃ Bh : List UInt8, Bh = [0x5b, 0xdc, 0xc1, 0x46, 0xbf, 0x60, 0x75, 0x4e, 0x6a, 0x04, 0x24, 0x26, 0x08, 0x95, 0x75, 0xc7, 0x5a, 0x00, 0x3f, 0x08, 0x9d, 0x27, 0x39, 0x83, 0x9d, 0xec, 0x58, 0xb9, 0x64, 0xec, 0x38, 0x43] := ⟨_, rfl⟩
  rw [← hBh]
  have HB := Lib.hid hBh
  clear hBh
  have HBL : Hid (Bh.length = 32) := by rw [HB.out]; rfl
  have HG4 : Hid (w4.heap[w2.heap.size]? = some (.cells (c8 A) 24 (0, 0))) := by
    show _ = _
    rw [hb4.block _ (by have := HZ3.out; have := hbW.size; omega), hbW.block _ (by have := HZ3.out; omega)]
    exact HG3.out
  have t1 : List.take 4 A = [186, 120, 22, 191] := by rw [HA.out]; rfl
  have t2 : List.take 4 (List.drop 28 A) = [242, 0, 21, 173] := by rw [HA.out]; rfl
  have t3 : List.take 4 Bh = [91, 220, 193, 70] := by rw [HB.out]; rfl
  have t4 : List.take 4 (List.drop 28 Bh) = [100, 236, 56, 67] := by rw [HB.out]; rfl
  have hz24 : w2.heap.size < w4.heap.size := (Array.getElem?_eq_some_iff.1 HG4.out).1
  go_wp2_with (refine wpList_store_new (o := { dst := none, op := .store 24 (.tmp 2) (.tmp 14), type := _, pos := _, after := _, guard := none }) rfl (.tmp 2) (.tmp 14) rfl Bh HBL.out rfl rfl ?_; intro w5 hb5 HG5 HZ5; have HG5' : Hid (w5.heap[w2.heap.size]? = some (.cells (c8 A) 24 (0, 0))) := (hb5.block _ hz24).trans HG4.out; have s1 := str_at HG5'.out 0 4 32 (by rw [HAL.out]; decide); have s2 := str_at HG5'.out 28 4 4 (by rw [HAL.out]; decide); have s3 := str_at HG5.out 0 4 32 (by rw [HBL.out]; decide); have s4 := str_at HG5.out 28 4 4 (by rw [HBL.out]; decide))
  go_ret
  exact ⟨rfl, hbw4.trans (hb5.mono hbw4.size)⟩
end Go.Proofs.YtjkicmlelilcaaaDoor
namespace Go.Proofs.YtjkicmlelilcaaaDoor
open Go.RowKit
def r1 (m : UInt32) : UInt32 := UInt32.ofNat (m.toNat / 2 + m.toNat % 2 * 2147483648)
def rTo (n : UInt32) : Nat → UInt32
  | 0 => n
  | k + 1 => r1 (rTo n k)
theorem r1_nat (m : UInt32) : (r1 m).toNat = m.toNat / 2 + m.toNat % 2 * 2147483648 := by
  have := m.toNat_lt
  unfold r1; rw [UInt32.toNat_ofNat']; omega
theorem rTo_nat (n : UInt32) (k : Nat) (h : k ≤ 32) : (rTo n k).toNat = n.toNat / 2 ^ k + n.toNat % 2 ^ k * 2 ^ (32 - k) := by
  induction k with
  | zero => simp [rTo, Nat.mod_one]
  | succ k ih =>
    have ih := ih (by omega)
    rw [rTo, r1_nat, ih]
    have e1 : 2 ^ (32 - k) = 2 * 2 ^ (32 - (k + 1)) := by rw [show 32 - k = (32 - (k + 1)) + 1 by omega, Nat.pow_succ]; omega
    have e2 : 2 ^ k * 2 ^ (32 - (k + 1)) = 2147483648 := by rw [← Nat.pow_add, show k + (32 - (k + 1)) = 31 by omega]
    have e3 : n.toNat / 2 ^ (k + 1) = n.toNat / 2 ^ k / 2 := by rw [Nat.pow_succ, Nat.div_div_eq_div_mul]
    have e4 : n.toNat % 2 ^ (k + 1) = n.toNat % 2 ^ k + 2 ^ k * (n.toNat / 2 ^ k % 2) := by rw [Nat.pow_succ, Nat.mod_mul]
    rw [e3, e4, e1]
    generalize n.toNat / 2 ^ k = a
    generalize n.toNat % 2 ^ k = b
    generalize hp : 2 ^ (32 - (k + 1)) = p at *
    have e5 : (a + b * (2 * p)) = a + 2 * (b * p) := by rw [← Nat.mul_assoc, Nat.mul_comm b 2, Nat.mul_assoc]
    have e6 : (b + 2 ^ k * (a % 2)) * p = b * p + a % 2 * 2147483648 := by rw [Nat.add_mul, ← e2, Nat.mul_right_comm, Nat.mul_comm (2 ^ k * p) (a % 2)]
    rw [e5, e6]
    omega
theorem ror_rTo (n : UInt32) (x : Nat) (h : x < 32) : rTo n x = ror n x := by
  apply UInt32.toNat_inj.1
  rw [rTo_nat n x (by omega)]
  unfold ror
  rw [UInt32.toNat_or, UInt32.toNat_ofNat', UInt32.toNat_ofNat']
  have hn := n.toNat_lt
  have hp : 2 ^ x * 2 ^ (32 - x) = 2 ^ 32 := by rw [← Nat.pow_add, show x + (32 - x) = 32 by omega]
  have h1 : n.toNat / 2 ^ x < 2 ^ (32 - x) := by rw [Nat.div_lt_iff_lt_mul (Nat.two_pow_pos x), Nat.mul_comm, hp]; omega
  have h2 : n.toNat * 2 ^ (32 - x) % 2 ^ 32 = 2 ^ (32 - x) * (n.toNat % 2 ^ x) := by rw [← hp, Nat.mul_mod_mul_right, Nat.mul_comm]
  have h3 : n.toNat / 2 ^ x % 2 ^ 32 = n.toNat / 2 ^ x := Nat.mod_eq_of_lt (Nat.lt_of_le_of_lt (Nat.div_le_self _ _) hn)
  rw [h2, h3, ← Nat.two_pow_add_eq_or_of_lt h1, Nat.add_comm, Nat.mul_comm]
theorem sror_succ (n : UInt32) (k : Nat) : N32 (sror n k) / 2 = N32 (sror n (k + 1)) := by
  rw [← sror_eq, ← sror_eq, Int.ediv_ediv_of_nonneg (by exact Int.pow_nonneg (by decide)), Int.pow_succ]
theorem r1_int (m : UInt32) : N32 m / 2 + N32 m % 2 * 2147483648 = N32 (r1 m) := by
  unfold N32; rw [r1_nat]; omega
theorem sror_zero (n : UInt32) : sror n 0 = n := by unfold sror; simp
end Go.Proofs.YtjkicmlelilcaaaDoor
namespace Go.Proofs.YtjkicmlelilcaaaDoor
open Go
def c50 : ACode := (.seq (.reg [⟨(.aop (.mov (.lit (.int .u32 (0))))), (some 4), none⟩]) (.seq (.seq (.reg [⟨(.aop (.mov (.lit (.int .i64 (0))))), (some 5), none⟩]) (.block 0 (.loop (.seq (.seq (.reg [⟨(.aop (.mov (.slot 5))), (some 7), none⟩, ⟨(.aop (.mov (.slot 1))), (some 8), none⟩, ⟨(.aop (.bin .lss (.slot 7) (.slot 8))), (some 9), none⟩]) (.cond (.slot 9) .skip (.exit 0))) (.seq (.block 1 (.seq (.reg [⟨(.aop (.mov (.slot 0))), (some 12), none⟩, ⟨(.aop (.bin .rem (.slot 12) (.lit (.int .u32 (2))))), (some 13), none⟩, ⟨(.aop (.mov (.slot 13))), (some 6), none⟩]) (.reg [⟨(.aop (.mov (.slot 0))), (some 14), none⟩, ⟨(.aop (.bin .quo (.slot 14) (.lit (.int .u32 (2))))), (some 15), none⟩, ⟨(.aop (.mov (.slot 6))), (some 16), none⟩, ⟨(.aop (.bin .mul (.slot 16) (.lit (.int .u32 (2147483648))))), (some 17), none⟩, ⟨(.aop (.bin .add (.slot 15) (.slot 17))), (some 18), none⟩, ⟨(.aop (.mov (.slot 18))), (some 0), none⟩]))) (.reg [⟨(.aop (.mov (.slot 5))), (some 10), none⟩, ⟨(.aop (.bin .add (.slot 10) (.lit (.int .i64 (1))))), (some 11), none⟩, ⟨(.aop (.mov (.slot 11))), (some 5), none⟩])))))) (.seq (.reg [⟨(.aop (.mov (.slot 0))), (some 19), none⟩, ⟨(.aop (.mov (.slot 19))), (some 4), none⟩]) .ret)))
theorem comp50 : compC Tryd.prog 4 Tryd.f50.ntmps (fun _ => false) (Tryd.f50.body.getD .skip) = some c50 := by kernel_rfl
theorem right_avc (Γ : Gam) (n : UInt32) (x : Nat) (hx : x < 32) (nt N : Nat) (σ : AH) (hN : N ≤ σ.next) (K : AK) (hK : ∀ env, env.get 4 = some (.int .u32 (N32 (rTo n x))) → K .ret env σ) :
    avc std Γ 4 nt N c50 K (envOf [.int .u32 (N32 n), .int .i64 x] 0 .leaf) σ := by
  obtain ⟨A, hA⟩ : ∃ A, A = std := ⟨_, rfl⟩
  rw [← hA]
  unfold c50
  obtain ⟨n0, hn0⟩ : ∃ n0, n0 = N32 n := ⟨_, rfl⟩
  obtain ⟨x0, hx0⟩ : ∃ x0 : Int, x0 = (x : Int) := ⟨_, rfl⟩
  rw [← hn0, ← hx0]
  refine avc_seq_reg (by cbv) rfl (avc_seq_seq (avc_seq_reg (by cbv) rfl (avc_seq_block (avc_loop
    (fun env σ' => σ' = σ ∧ ∃ k : Nat, k ≤ x ∧ env = ofL [(0, .int .u32 (N32 (rTo n k))), (1, .int .i64 x0), (5, .int .i64 k)]) (fun env _ => match env.get 5 with | some (.int _ k) => x - k.toNat | _ => 0)
    (Wk.env (l := [(0, .int .u32 n0), (1, .int .i64 x0), (5, .int .i64 0)]) (by cbv) hN) ?_ ?_))))
  · exact ⟨rfl, 0, by omega, by rw [hn0]; rfl⟩
  · rintro env σ' ⟨rfl, k, hk, rfl⟩
    obtain ⟨r0, hr0⟩ : ∃ r0, r0 = N32 (rTo n k) := ⟨_, rfl⟩
    obtain ⟨k0, hk0⟩ : ∃ k0 : Int, k0 = (k : Int) := ⟨_, rfl⟩
    rw [← hr0, ← hk0]
    have hb := N32_bd (rTo n k)
    have HE := r1_int (rTo n k)
    refine avc_seq_seq (avc_seq_reg (by cbv) rfl (avc_seq_cond (t := A.lt k0 x0) (by cbv) (fun ht => ?_) (fun ht => ?_)))
    · refine avc_seq_skip (avc_seq_block (avc_seq_reg (by cbv) ?_ (avc_reg (by cbv) ?_ ?_)))
      · subst hA; simp [std]
      · subst hA; simp [std]
      · show avc A Γ 4 nt N _ _ _ _
        refine avc_reg (by cbv) rfl ?_
        obtain ⟨r1, hr1⟩ : ∃ r1, r1 = N32 (rTo n (k + 1)) := ⟨_, rfl⟩
        obtain ⟨k1, hk1⟩ : ∃ k1 : Int, k1 = ((k + 1 : Nat) : Int) := ⟨_, rfl⟩
        have HR1 : r0 / 2 + r0 % 2 * 2147483648 = r1 := by rw [hr1, hr0]; exact HE
        refine ⟨_, _, Wk.env (l := [(0, .int .u32 r1), (1, .int .i64 x0), (5, .int .i64 k1)]) ⟨⟨?_, rfl⟩, ⟨by cbv, rfl⟩, ⟨?_, rfl⟩, trivial⟩ hN, ⟨rfl, k + 1, ?_, by rw [hr1, hk1]⟩, ?_⟩
        · conv => lhs; cbv
          subst hA
          have e0 : r0.tdiv 2 = r0 / 2 := Int.tdiv_eq_ediv_of_nonneg (by omega)
          have e1 : r0.tmod 2 = r0 % 2 := Int.tmod_eq_emod_of_nonneg (by omega)
          simp only [std, wr, e0, e1]
          congr 2; omega
        · conv => lhs; cbv
          subst hA
          simp only [std, wr]
          congr 2; omega
        · have : k < x := by subst hA; simp only [std, decide_eq_true_eq] at ht; omega
          omega
        · have : k < x := by subst hA; simp only [std, decide_eq_true_eq] at ht; omega
          have e1 : (ofL [(0, .int .u32 r1), (1, .int .i64 x0), (5, .int .i64 k1)]).get 5 = some (.int .i64 k1) := by cbv
          have e0 : (ofL [(0, .int .u32 r0), (1, .int .i64 x0), (5, .int .i64 k0)]).get 5 = some (.int .i64 k0) := by cbv
          rw [e1, e0]
          show x - k1.toNat < x - k0.toNat
          omega
    · refine avc_seq_exit ?_
      show avc A Γ 4 nt N _ _ _ _
      refine avc_seq_reg (by cbv) rfl ?_
      refine hK _ ?_
      have : k = x := by subst hA; simp only [std, decide_eq_false_iff_not] at ht; omega
      rw [← this, ← hr0]
      cbv
def Γ0 : Gam := fun _ _ σ => bad σ
theorem gam0_ok : GamOk Tryd.prog 4 Γ0 := fun f args σ h => by cases h
theorem pu0_ok : PuOk Γ0 fun _ => false := fun f h => by cases h
theorem mixed : Tryd.prog.follows .mixedOrders = true := by kernel_rfl
theorem body50 : Tryd.f50.body = some (Tryd.f50.body.getD .skip) := by kernel_rfl
theorem c50_ok (n : UInt32) (x : Nat) (hx : x < 32) {ρ : Ren} {σ : AH} {W : World} (hr : HR ρ σ W) (hG : ∀ g, g < 4 → ∃ s, ρ g = some (g, (0, s))) {vs : List Value} (hvs : VRs ρ [.int .u32 (N32 n), .int .i64 x] vs) :
    Calls Tryd.prog 50 vs.toArray W fun e W' => ∃ v av σ' ρ', e = .returned v ∧ (av = .int .u32 (N32 (ror n x)) ∧ σ' = σ) ∧ HR ρ' σ' W' ∧ Stp σ.next ρ σ W ρ' σ' W' ∧ VR ρ' av v := by
  refine call_sound (xs := [.tmp 4]) mixed gam0_ok pu0_ok Tryd.func50 body50 comp50 (by kernel_rfl) (by kernel_rfl) (by kernel_rfl) (right_avc Γ0 n x hx _ _ σ (Nat.le_refl _) _ fun env he => ⟨trivial, rfl, ?_, rfl⟩) hG hr hvs
  rw [← ror_rTo n x hx]
  show evS env (.slot 4) = _
  simp only [evS, he]
end Go.Proofs.YtjkicmlelilcaaaDoor
namespace Go.Proofs.YtjkicmlelilcaaaDoor
open Go Go.RowKit
theorem info5c : (Tryd.prog.info? 5).map (fun i => (i.zero, i.size, i.bytes)) = some (some (.int .u8 0), 1, 1) := by kernel_rfl
theorem cells5 : Tryd.prog.cellsOf 5 = 1 := by kernel_rfl
theorem N8_inj {a b : UInt8} : (N8 a == N8 b) = (a == b) := by
  rw [Bool.eq_iff_iff, beq_iff_eq, beq_iff_eq]
  unfold N8
  exact ⟨fun e => UInt8.toNat_inj.1 (by omega), fun e => by rw [e]⟩
theorem run_part5 (X : List UInt8) (i : Nat) (h : i < X.length) (w : World) : (part 5 (c8 X) (i * 1)).run Tryd.prog w = .ok (.int .u8 (N8 (at8 X i))) w := by
  have hc := c8_at X i h
  rw [Nat.mul_one]
  simp [part, isAgg, run_underlying Tryd.underlying5, hc]
theorem eqItems5 (d : Nat) (X Y : List UInt8) (w : World) : ∀ is : List Nat, (∀ i ∈ is, i < X.length ∧ i < Y.length) →
    (Op.eqItems (d + 1) 5 1 (c8 X) (c8 Y) is).run Tryd.prog w = .ok (is.all fun i => at8 X i == at8 Y i) w
  | [], _ => by simp [Op.eqItems]
  | i :: is, h => by
    have hi := h i (by simp)
    have ih := eqItems5 d X Y w is (fun j hj => h j (by simp [hj]))
    simp only [Op.eqItems, Sem.run_bind, run_part5 X i hi.1, run_part5 Y i hi.2, Result.andThen_ok, run_equalIn_int w d 5 .u8 .u8 _ _ Tryd.underlying5, N8_inj]
    cases hq : (at8 X i == at8 Y i) <;> simp [hq, ih]
theorem all_eq (X Y : List UInt8) (n : Nat) (hx : X.length = n) (hy : Y.length = n) : ((List.range n).all fun i => at8 X i == at8 Y i) = (X == Y) := by
  rw [Bool.eq_iff_iff]
  simp only [List.all_eq_true, List.mem_range, beq_iff_eq]
  constructor
  · intro h
    apply List.ext_getElem (by omega)
    intro i h1 h2
    have := h i (by omega)
    simpa [at8, h1, h2] using this
  · intro h i _; rw [h]
end Go.Proofs.YtjkicmlelilcaaaDoor
namespace Go.Proofs.YtjkicmlelilcaaaDoor
open Go.RowKit
set_option maxHeartbeats 400000 in
theorem clone8_nil (w : World) : Calls Tryd.prog 18 #[.slice none 0 0] w (Owned w 0 []) := by
  have he := fun w : World => Lib.run_eql_slice_nil (P := Tryd.prog) w 22 5 none 0 0 0 0 Tryd.underlying22
  go_enter Tryd.func18, Tryd.ntmps18
  go_wp2
  go_ret
  exact ⟨_, rfl, ⟨rfl, .inl ⟨rfl, rfl⟩⟩, Below.refl _ _⟩
set_option maxHeartbeats 400000 in
theorem clone8_some (ad : Addr) (c : Nat) (bs : List UInt8) (w : World) (hn : bs.length ≤ 1000000000)
    (hcell : ∀ j u, (c8l bs)[j]? = some u → (w.alloc (.cells #[] 5)).cell? (ad.add j) = some u) :
    Calls Tryd.prog 18 #[.slice (some ad) bs.length c] w (Owned w bs.length bs) := by
  obtain ⟨i0, hi, hz0, hz1, hz2⟩ := info_parts info5
  have HI := Lib.hid hi
  have HZ := Lib.hid hz0
  have H1 := Lib.hid hz1
  have H2 := Lib.hid hz2
  clear hi hz0 hz1 hz2
  have he := fun w : World => Lib.run_eql_slice_nil (P := Tryd.prog) w 22 5 (some ad) bs.length c 0 0 Tryd.underlying22
  have hb0 : Below w.heap.size w (w.alloc (.cells #[] 5)) := (Below.refl _ _).alloc (Nat.le_refl _) _
  have hown : (w.alloc (.cells #[] 5)).ownsRow w.heap.size 5 1 (.slice (some ⟨w.heap.size, 0, none⟩) 0 0) 0 [] := ⟨rfl, .inr ⟨w.heap.size, 0, #[], rfl, Nat.le_refl _, row_new _ _ _, Nat.le_refl _, by unfold maxLen; omega, rfl, rfl⟩⟩
  have HC := Lib.hid hcell
  clear hcell
  go_enter Tryd.func18, Tryd.ntmps18
  go_wp2_with (at_builtin; refine wpList_append_own _ rfl (.tmp 5) (.tmp 6) 22 rfl w.heap.size 5 i0 (.int .u8 0) 1 1 Tryd.underlying22 HI.out HZ.out H1.out H2.out rfl (by decide) _ _ _ rfl hown ad bs.length c (c8l bs) rfl (by rw [c8l_length]; omega) HC.out (c8l_one _) (by unfold maxLen; omega) (by omega) (by simp) ?_)
  intro v' w2 hown2 hg2 _
  have hb2 : Below w.heap.size w w2 := hb0.grown hg2 (by simp) (fun g hg => owns_block hown hg)
  go_wp2
  go_ret
  exact ⟨_, rfl, by simpa using hown2, hb2⟩
theorem clone8_any (kv : Value) (bs : List UInt8) (w : World) (h : BSl w kv bs) (hn : bs.length ≤ 1000000000) : Calls Tryd.prog 18 #[kv] w (Owned w bs.length bs) := by
  rcases h with ⟨rfl, rfl⟩ | ⟨b, off, c, rfl, hc, hlt, hcell⟩ | ⟨a, rfl, rfl⟩
  · exact clone8_nil w
  · refine clone8_some ⟨b, off, none⟩ c bs w hn (fun j u hu => ?_)
    have := news_of hcell j u hu
    rw [Addr.add_mid] at this ⊢
    rw [(alloc_below w).cell (p := ⟨b, off + j, none⟩) hlt]; exact this
  · exact clone8_some a 0 [] w hn (fun j u hu => by simp [c8l] at hu)
/-! The plain law. -/
theorem at8_set_self {l : List UInt8} {i : Nat} {x : UInt8} (h : i < l.length) : at8 (l.set i x) i = x := by
  unfold at8; rw [List.getD_eq_getElem?_getD, List.getElem?_set_self h]; rfl
theorem at8_set_ne {l : List UInt8} {i j : Nat} {x : UInt8} (h : i ≠ j) : at8 (l.set i x) j = at8 l j := by
  unfold at8; rw [List.getD_eq_getElem?_getD, List.getElem?_set_ne h, List.getD_eq_getElem?_getD]
theorem chgTo_at (key : List UInt8) (c : UInt8) (hk : key.length ≤ 64) (n i : Nat) (hi : i < 64) : at8 (chgTo key c n) i = if i < n then at8 (keyW key) i ^^^ c else at8 (keyW key) i := by
  induction n generalizing i with
  | zero => simp [chgTo]
  | succ n ih =>
    by_cases h : n = i
    · subst h; rw [chgTo, at8_set_self (by rw [chgTo_length _ _ _ hk]; exact hi), if_pos (by omega), ih n hi, if_neg (by omega)]
    · rw [chgTo, at8_set_ne h, ih i hi]
      by_cases h2 : i < n
      · rw [if_pos h2, if_pos (by omega)]
      · rw [if_neg h2, if_neg (by omega)]
end Go.Proofs.YtjkicmlelilcaaaDoor
namespace Go.Proofs.YtjkicmlelilcaaaDoor
open Go.RowKit
def WrAt (p : Nat) (bs : List UInt8) (w : World) : Prop :=
  ∃ v, w.heap[p]? = some (.cells #[v, .int .i64 0] 80 (0, 0)) ∧ w.ownsRow (p + 1) 5 1 v bs.length (c8l bs)
theorem WrAt.below {p B : Nat} {bs : List UInt8} {w w' : World} (h : WrAt p bs w) (hb : Below B w w') (hB : w.heap.size ≤ B) : WrAt p bs w' := by
  obtain ⟨v, h1, h2⟩ := h
  exact ⟨v, (hb.block p (Nat.lt_of_lt_of_le (Array.getElem?_eq_some_iff.1 h1).1 hB)).trans h1, owns_below h2 hb hB⟩
theorem WrAt.lt {p : Nat} {bs : List UInt8} {w : World} (h : WrAt p bs w) : p < w.heap.size := by
  obtain ⟨v, h1, _⟩ := h
  exact (Array.getElem?_eq_some_iff.1 h1).1
theorem wr_set {w : World} {p : Nat} {v0 x : Value} (h : w.heap[p]? = some (.cells #[v0, x] 80 (0, 0))) (v : Value) : (w.setCell ⟨p, 0, none⟩ v).heap[p]? = some (.cells #[v, x] 80 (0, 0)) := by
  unfold World.setCell; simp [Array.getElem?_modify, h]
theorem owns_setCell {w : World} {base n p i : Nat} {v u : Value} {xs : List Value} (h : w.ownsRow base 5 1 v n xs) (hp : p < base) : (w.setCell ⟨p, i, none⟩ u).ownsRow base 5 1 v n xs := by
  refine ⟨h.1, ?_⟩
  rcases h.2 with h | ⟨g, cap, cur, e1, h1, hh, h2⟩
  · exact .inl h
  · exact .inr ⟨g, cap, cur, e1, h1, (heap_setCell_other _ _ _ _ (by simp; omega)).trans hh, h2⟩
theorem grown_block {w w' : World} {p : Nat} {b : Option Nat} (hg : w.grownBy w' b) (hp : p < w.heap.size) (h : ∀ g, b = some g → p < g) : w'.heap[p]? = w.heap[p]? :=
  hg.block p hp (fun e => by have := h p e.symm; omega)
theorem owns_form {w : World} {base e n : Nat} {v : Value} {xs : List Value} (h : w.ownsRow base e 1 v n xs) : ∃ a c, v = .slice a n c := by
  rcases h.2 with ⟨rfl, rfl⟩ | ⟨g, cap, cur, rfl, _⟩
  · exact ⟨_, _, rfl⟩
  · exact ⟨_, _, rfl⟩
def WrP (p : Nat) (bs : List UInt8) (w : World) (e : Ending) (w' : World) : Prop :=
  e = .returned (.pointer (some ⟨p, 0, none⟩)) ∧ WrAt p bs w' ∧ Below p w w'
set_option maxHeartbeats 1000000 in
theorem byte_any (p : Nat) (bs l : List UInt8) (lv : Value) (w : World) (hw : WrAt p bs w) (hl : BSl w lv l) (hn : bs.length + l.length ≤ 1000000000) :
    Calls Tryd.prog 59 #[.pointer (some ⟨p, 0, none⟩), lv] w (WrP p (bs ++ l) w) := by
  obtain ⟨i0, hi, hz0, hz1, hz2⟩ := info_parts info5
  have HI := Lib.hid hi
  have HZ := Lib.hid hz0
  have H1 := Lib.hid hz1
  have H2 := Lib.hid hz2
  clear hi hz0 hz1 hz2
  obtain ⟨v, hp, hown⟩ := hw
  have hps := (Array.getElem?_eq_some_iff.1 hp).1
  obtain ⟨a, c, rfl⟩ := (BSl.of_owns hown).len
  have c0 : w.cell? ⟨p, 0, none⟩ = some (.slice a bs.length c) := cell_of_row w p 0 _ 80 (0, 0) hp
  have c1 : w.cell? ⟨p, 1, none⟩ = some (.int .i64 0) := cell_of_row w p 1 _ 80 (0, 0) hp
  have f0 : w.frozen? ⟨p, 0, none⟩ = false := row_free hp 0
  have HP := Lib.hid hp
  clear hp
  rcases hl with ⟨rfl, rfl⟩ | ⟨b1, o1, k1, rfl, hc1, hl1, hx1⟩ | ⟨a1, rfl, rfl⟩
  · go_enter Tryd.func59, Tryd.ntmps59
    go_wp2_with (at_builtin; refine wpList_append_own_none rfl (.tmp 18) (.tmp 19) 22 rfl (p + 1) 5 i0 1 Tryd.underlying22 HI.out _ _ _ rfl hown rfl ?_)
    go_ret
    refine ⟨rfl, ⟨_, wr_set HP.out _, ?_⟩, (Below.refl p w).setCell (p := ⟨p, 0, none⟩) (Nat.le_refl _) _⟩
    rw [List.append_nil]
    exact owns_setCell hown (by omega)
  · have HX1 := Lib.hid hx1
    clear hx1
    go_enter Tryd.func59, Tryd.ntmps59
    go_wp2_with (at_builtin; refine wpList_append_own _ rfl (.tmp 18) (.tmp 19) 22 rfl (p + 1) 5 i0 (.int .u8 0) 1 1 Tryd.underlying22 HI.out HZ.out H1.out H2.out rfl (by decide) _ _ _ rfl hown ⟨b1, o1, none⟩ l.length k1 (c8l l) rfl (by rw [c8l_length]; omega) (news_of HX1.out) (c8l_one _) (by unfold maxLen; omega) (by omega) (by omega) ?_)
    intro v' w2 hown2 hg2 _
    rw [← c8l_append] at hown2
    have hp2 : w2.heap[p]? = some (.cells #[.slice a bs.length c, .int .i64 0] 80 (0, 0)) := (grown_block hg2 hps (fun g hg => by have := owns_block hown hg; omega)).trans HP.out
    have hb2 : Below p w w2 := (Below.refl _ _).grown hg2 (by omega) (fun g hg => by have := owns_block hown hg; omega)
    obtain ⟨a2, c2, rfl⟩ := owns_form hown2
    have d0 : w2.cell? ⟨p, 0, none⟩ = some (.slice a bs.length c) := cell_of_row w2 p 0 _ 80 (0, 0) hp2
    have e0 : w2.frozen? ⟨p, 0, none⟩ = false := row_free hp2 0
    have HP2 := Lib.hid hp2
    clear hp2
    go_wp2
    go_ret
    exact ⟨rfl, ⟨_, wr_set HP2.out _, by rw [List.length_append]; exact owns_setCell hown2 (by omega)⟩, hb2.setCell (p := ⟨p, 0, none⟩) (Nat.le_refl _) _⟩
  · go_enter Tryd.func59, Tryd.ntmps59
    go_wp2_with (at_builtin; refine wpList_append_own _ rfl (.tmp 18) (.tmp 19) 22 rfl (p + 1) 5 i0 (.int .u8 0) 1 1 Tryd.underlying22 HI.out HZ.out H1.out H2.out rfl (by decide) _ _ _ rfl hown a1 0 0 [] rfl rfl (fun j u hu => by simp at hu) (fun u hu => by simp at hu) (by unfold maxLen; omega) (by omega) (by omega) ?_)
    intro v' w2 hown2 hg2 _
    have hp2 : w2.heap[p]? = some (.cells #[.slice a bs.length c, .int .i64 0] 80 (0, 0)) := (grown_block hg2 hps (fun g hg => by have := owns_block hown hg; omega)).trans HP.out
    have hb2 : Below p w w2 := (Below.refl _ _).grown hg2 (by omega) (fun g hg => by have := owns_block hown hg; omega)
    obtain ⟨a2, c2, rfl⟩ := owns_form hown2
    have d0 : w2.cell? ⟨p, 0, none⟩ = some (.slice a bs.length c) := cell_of_row w2 p 0 _ 80 (0, 0) hp2
    have e0 : w2.frozen? ⟨p, 0, none⟩ = false := row_free hp2 0
    have HP2 := Lib.hid hp2
    clear hp2
    go_wp2
    go_ret
    exact ⟨rfl, ⟨_, wr_set HP2.out _, by rw [List.append_nil]; exact owns_setCell hown2 (by omega)⟩, hb2.setCell (p := ⟨p, 0, none⟩) (Nat.le_refl _) _⟩
def be2 (n : Nat) : List UInt8 := [UInt8.ofNat (n / 256), UInt8.ofNat n]
def be4 (n : Nat) : List UInt8 := be2 (n / 65536) ++ be2 (n % 65536)
def be8 (n : Nat) : List UInt8 := be4 (n / 4294967296) ++ be4 (n % 4294967296)
theorem be2_length (n : Nat) : (be2 n).length = 2 := rfl
theorem be4_length (n : Nat) : (be4 n).length = 4 := rfl
theorem n8_of (n : Nat) : N8 (UInt8.ofNat n) = ((n : Int) % 256) := by
  unfold N8; rw [UInt8.toNat_ofNat']; omega
theorem be2_cells (n : Nat) (h : n < 65536) : (#[Value.int .u8 ((n : Int) / 256), .int .u8 ((n : Int) % 256)] : Array Value) = c8 (be2 n) := by
  unfold c8 c8l be2
  simp only [List.map_cons, List.map_nil, n8_of]
  rw [show ((n / 256 : Nat) : Int) % 256 = (n : Int) / 256 by omega]
theorem bytes_world {w : World} (s : List UInt8) : Below w.heap.size w (Lib.bytesWorld w 5 ⟨s.toArray⟩) ∧ BSl (Lib.bytesWorld w 5 ⟨s.toArray⟩) (.slice (some ⟨w.heap.size, 0, none⟩) s.length (grownCap w s.length 0 5)) s := by
  have hsz : (⟨s.toArray⟩ : ByteArray).size = s.length := by simp [ByteArray.size]
  have hge := grownCap_ge w s.length 0 5
  have hb : Below w.heap.size w (Lib.bytesWorld w 5 ⟨s.toArray⟩) := ⟨rfl, rfl, rfl, by rw [Lib.bytesWorld_size]; omega, fun k hk => Lib.bytesWorld_at_old w 5 _ k hk⟩
  refine ⟨hb, .inr (.inl ⟨w.heap.size, 0, _, rfl, hge, by rw [Lib.bytesWorld_size]; omega, fun j hj => ?_⟩)⟩
  rw [Nat.zero_add, Lib.bytesWorld_cell w 5 ⟨s.toArray⟩ j (by rw [hsz]; exact hj)]
  rfl
theorem wrap_u16 (n : Nat) : IntKind.u16.wrap (n : Int) = ((n % 65536 : Nat) : Int) := by
  simp [IntKind.wrap, IntKind.bits, IntKind.signed]
attribute [local irreducible] be2 be4 be8
set_option maxHeartbeats 1000000 in
theorem two_any (p n : Nat) (bs : List UInt8) (w : World) (hw : WrAt p bs w) (hn : bs.length ≤ 900000000) (h2 : n < 65536) :
    Calls Tryd.prog 72 #[.pointer (some ⟨p, 0, none⟩), .int .u16 n] w (WrP p (bs ++ be2 n) w) := by
  have HB := Lib.hid (be2_cells n h2)
  have hps := hw.lt
  go_enter Tryd.func72, Tryd.ntmps72
  go_wp2_with fail
  rw [HB.out]
  refine (byte_any p bs (be2 n) _ _ (hw.below (alloc_below w) (Nat.le_refl _)) (BSl.lit (be2_length n).symm (Nat.le_refl _)) (by rw [be2_length]; omega)).mono ?_
  rintro e w1 ⟨rfl, hw1, hb1⟩
  go_wp2
  go_ret
  exact ⟨rfl, hw1, ((alloc_below w).mono (by omega)).trans hb1⟩
set_option maxHeartbeats 1000000 in
theorem four_any (p n : Nat) (bs : List UInt8) (w : World) (hw : WrAt p bs w) (hn : bs.length ≤ 800000000) (h2 : n < 4294967296) :
    Calls Tryd.prog 45 #[.pointer (some ⟨p, 0, none⟩), .int .u32 n] w (WrP p (bs ++ be4 n) w) := by
  have e1 : (n : Int) / 65536 = ((n / 65536 : Nat) : Int) := by omega
  have e2 := wrap_u16 n
  have HE1 := Lib.hid e1
  have HE2 := Lib.hid e2
  clear e1 e2
  go_enter Tryd.func45, Tryd.ntmps45
  go_wp2_with fail
  rw [HE1.out]
  refine (two_any p (n / 65536) bs w hw (by omega) (by omega)).mono ?_
  rintro e w1 ⟨rfl, hw1, hb1⟩
  go_wp2_with fail
  rw [HE2.out]
  refine (two_any p (n % 65536) _ w1 hw1 (by rw [List.length_append, be2_length]; omega) (by omega)).mono ?_
  rintro e w2 ⟨rfl, hw2, hb2⟩
  rw [List.append_assoc] at hw2
  go_wp2
  go_ret
  exact ⟨rfl, by unfold be4; exact hw2, hb1.trans hb2⟩
set_option maxHeartbeats 1000000 in
theorem text_any (p : Nat) (bs s : List UInt8) (w : World) (hw : WrAt p bs w) (hn : bs.length ≤ 800000000) (h2 : s.length ≤ 65535) :
    Calls Tryd.prog 58 #[.pointer (some ⟨p, 0, none⟩), .string ⟨s.toArray⟩] w (WrP p (bs ++ (be2 s.length ++ s)) w) := by
  have hd : decide ((65535 : Int) < (s.length : Int)) = false := decide_eq_false (by omega)
  obtain ⟨S, hS⟩ : ∃ S : ByteArray, S = ⟨s.toArray⟩ := ⟨_, rfl⟩
  have hsz : S.size = s.length := by rw [hS]; simp [ByteArray.size]
  rw [← hS]
  have HS := Lib.hid hS
  clear hS
  have hcv : ∀ w : World, (convert 9 22 (.string S)).run Tryd.prog w = .ok (.slice (some ⟨w.heap.size, 0, none⟩) s.length (grownCap w s.length 0 5)) (Lib.bytesWorld w 5 S) := fun w => by
    have := Lib.run_convert_string_bytes (P := Tryd.prog) w 9 22 5 S Tryd.underlying9 Tryd.underlying22 Tryd.underlying5
    rwa [hsz] at this
  go_enter Tryd.func58, Tryd.ntmps58
  go_wp2_with fail
  refine (byte_any p bs [] _ w hw (.inl ⟨rfl, rfl⟩) (by simp; omega)).mono ?_
  rw [List.append_nil]
  rintro e w1 ⟨rfl, hw1, hb1⟩
  go_wp2_with fail
  refine (two_any p s.length bs w1 hw1 (by omega) (by omega)).mono ?_
  rintro e w2 ⟨rfl, hw2, hb2⟩
  have hb3 := (bytes_world (w := w2) s).1
  have hB3 := (bytes_world (w := w2) s).2
  rw [← HS.out] at hb3 hB3
  have hps := hw2.lt
  go_wp2_with fail
  refine (byte_any p _ s _ _ (hw2.below hb3 (Nat.le_refl _)) hB3 (by rw [List.length_append, be2_length]; omega)).mono ?_
  rintro e w4 ⟨rfl, hw4, hb4⟩
  rw [List.append_assoc] at hw4
  go_wp2
  go_ret
  exact ⟨rfl, hw4, hb1.trans (hb2.trans ((hb3.mono (by omega)).trans hb4))⟩
set_option maxHeartbeats 1000000 in
theorem done_any (p : Nat) (bs : List UInt8) (w : World) (hw : WrAt p bs w) (hn : bs.length ≤ 800000000) :
    Calls Tryd.prog 46 #[.pointer (some ⟨p, 0, none⟩)] w fun e w' => ∃ v, e = .returned (.tuple #[v, .int .i64 0]) ∧ w'.ownsRow (p + 1) 5 1 v bs.length (c8l bs) ∧ Below p w w' := by
  go_enter Tryd.func46, Tryd.ntmps46
  go_wp2_with fail
  refine (byte_any p bs [] _ w hw (.inl ⟨rfl, rfl⟩) (by simp; omega)).mono ?_
  rw [List.append_nil]
  rintro e w1 ⟨rfl, ⟨v, hp1, hown1⟩, hb1⟩
  have hps := (Array.getElem?_eq_some_iff.1 hp1).1
  obtain ⟨a, c, rfl⟩ := owns_form hown1
  have c0 : w1.cell? ⟨p, 0, none⟩ = some (.slice a bs.length c) := cell_of_row w1 p 0 _ 80 (0, 0) hp1
  have c1 : w1.cell? ⟨p, 1, none⟩ = some (.int .i64 0) := cell_of_row w1 p 1 _ 80 (0, 0) hp1
  go_wp2_with fail
  refine (clone8_any _ bs w1 (BSl.of_owns hown1) (by omega)).mono ?_
  rintro e w2 ⟨v2, rfl, hown2, hb2⟩
  go_wp2
  go_ret2
  refine ⟨_, rfl, ⟨hown2.1, ?_⟩, hb1.trans (hb2.mono (by omega))⟩
  rcases hown2.2 with h | ⟨g, cap, cur, e1, h1, h2⟩
  · exact .inl h
  · exact .inr ⟨g, cap, cur, e1, by omega, h2⟩
end Go.Proofs.YtjkicmlelilcaaaDoor
namespace Go.Proofs.YtjkicmlelilcaaaDoor
open Go.RowKit
theorem putB_nat (x : UInt32) (c : UInt8) (h : x.toNat < 16777216) : (putB x c).toNat = x.toNat * 256 + c.toNat := by
  have hc := c.toNat_lt
  unfold putB
  rw [UInt32.toNat_or, UInt32.toNat_ofNat', UInt32.toNat_ofNat', Nat.mod_eq_of_lt (by omega), Nat.mod_eq_of_lt (by omega)]
  have := Nat.two_pow_add_eq_or_of_lt (i := 8) (b := c.toNat) (by omega) x.toNat
  rw [show x.toNat * 256 = 2 ^ 8 * x.toNat by omega, ← this]
theorem word_nat (bs : List UInt8) (t : Nat) : (wordTo bs t 4).toNat = (at8 bs (4 * t)).toNat * 16777216 + (at8 bs (4 * t + 1)).toNat * 65536 + (at8 bs (4 * t + 2)).toNat * 256 + (at8 bs (4 * t + 3)).toNat := by
  have h0 := (at8 bs (4 * t)).toNat_lt
  have h1 := (at8 bs (4 * t + 1)).toNat_lt
  have h2 := (at8 bs (4 * t + 2)).toNat_lt
  have e0 : (wordTo bs t 1).toNat = (at8 bs (4 * t)).toNat := by
    show (putB 0 (at8 bs (4 * t + 0))).toNat = _
    rw [putB_nat _ _ (by decide)]; simp
  have e1 : (wordTo bs t 2).toNat = (at8 bs (4 * t)).toNat * 256 + (at8 bs (4 * t + 1)).toNat := by
    rw [wordTo, putB_nat _ _ (by omega), e0]
  have e2 : (wordTo bs t 3).toNat = (at8 bs (4 * t)).toNat * 65536 + (at8 bs (4 * t + 1)).toNat * 256 + (at8 bs (4 * t + 2)).toNat := by
    rw [wordTo, putB_nat _ _ (by omega), e1]; omega
  rw [wordTo, putB_nat _ _ (by omega), e2]; omega
theorem word_int (bs : List UInt8) (t : Nat) : N8 (at8 bs (4 * t)) * 16777216 + N8 (at8 bs (4 * t + 1)) * 65536 + N8 (at8 bs (4 * t + 2)) * 256 + N8 (at8 bs (4 * t + 3)) = N32 (wordTo bs t 4) := by
  unfold N8 N32; rw [word_nat]; omega
theorem not_int (x : UInt32) : 4294967295 - N32 x = N32 (~~~ x) := by
  unfold N32
  have := x.toNat_lt
  have e : (~~~ x).toNat = 4294967295 - x.toNat := by rw [UInt32.toNat_not]; rfl
  rw [e]; omega
def schT (bs : List UInt8) (t : Nat) : List UInt32 := (schedTo bs t).take t
theorem schT_length (bs : List UInt8) (t : Nat) (h : t ≤ 64) : (schT bs t).length = t := by simp [schT, schedTo_length]; omega
theorem schT_succ (bs : List UInt8) (t : Nat) (h : t < 64) : schT bs (t + 1) = schT bs t ++ [if t < 16 then wordTo bs t 4 else nextW (schedTo bs t) t] := by
  unfold schT
  rw [schedTo, List.take_succ_eq_append_getElem (by simp [schedTo_length]; omega), List.take_set_of_le (by omega)]
  simp
theorem schT_at (bs : List UInt8) (t i : Nat) (h : i < t) : at32 (schT bs t) i = at32 (schedTo bs t) i := by
  unfold schT at32
  rw [List.getD_eq_getElem?_getD, List.getElem?_take, if_pos h, List.getD_eq_getElem?_getD]
theorem schT_all (bs : List UInt8) : schT bs 64 = schedTo bs 64 := by
  unfold schT; exact List.take_of_length_le (by rw [schedTo_length]; omega)
def zerTo (bs : List UInt8) (j : Nat) : List UInt8 := bs ++ [128] ++ List.replicate j 0
theorem zerTo_length (bs : List UInt8) (j : Nat) : (zerTo bs j).length = bs.length + 1 + j := by simp [zerTo]; omega
theorem zerTo_succ (bs : List UInt8) (j : Nat) : zerTo bs j ++ [0] = zerTo bs (j + 1) := by
  unfold zerTo; rw [List.append_assoc, List.replicate_succ']
theorem padZ_lt (n : Nat) : padZ n < 64 := by unfold padZ; omega
theorem padZ_stop (n j : Nat) (h : j < padZ n) : (n + 1 + j) % 64 ≠ 56 := by unfold padZ at h; omega
theorem padZ_end (n : Nat) : (n + 1 + padZ n) % 64 = 56 := by unfold padZ; omega
end Go.Proofs.YtjkicmlelilcaaaDoor
namespace Go.Proofs.YtjkicmlelilcaaaDoor
open Go
def c51 : ACode := (.seq (.reg [⟨(.aop (.mov (.lit (.int .u32 (0))))), (some 4), none⟩]) (.seq (.seq (.reg [⟨(.aop (.mov (.lit (.int .i64 (0))))), (some 5), none⟩]) (.block 0 (.loop (.seq (.seq (.reg [⟨(.aop (.mov (.slot 5))), (some 6), none⟩, ⟨(.aop (.mov (.slot 1))), (some 7), none⟩, ⟨(.aop (.bin .lss (.slot 6) (.slot 7))), (some 8), none⟩]) (.cond (.slot 8) .skip (.exit 0))) (.seq (.block 1 (.reg [⟨(.aop (.mov (.slot 0))), (some 11), none⟩, ⟨(.aop (.bin .quo (.slot 11) (.lit (.int .u32 (2))))), (some 12), none⟩, ⟨(.aop (.mov (.slot 12))), (some 0), none⟩])) (.reg [⟨(.aop (.mov (.slot 5))), (some 9), none⟩, ⟨(.aop (.bin .add (.slot 9) (.lit (.int .i64 (1))))), (some 10), none⟩, ⟨(.aop (.mov (.slot 10))), (some 5), none⟩])))))) (.seq (.reg [⟨(.aop (.mov (.slot 0))), (some 13), none⟩, ⟨(.aop (.mov (.slot 13))), (some 4), none⟩]) .ret)))
theorem comp51 : compC Tryd.prog 4 Tryd.f51.ntmps (fun _ => false) (Tryd.f51.body.getD .skip) = some c51 := by kernel_rfl
theorem shift_avc (Γ : Gam) (n : UInt32) (x : Nat) (hx : x < 32) (nt N : Nat) (σ : AH) (hN : N ≤ σ.next) (K : AK) (hK : ∀ env, env.get 4 = some (.int .u32 (N32 (sror n x))) → K .ret env σ) :
    avc std Γ 4 nt N c51 K (envOf [.int .u32 (N32 n), .int .i64 x] 0 .leaf) σ := by
  obtain ⟨A, hA⟩ : ∃ A, A = std := ⟨_, rfl⟩
  rw [← hA]
  unfold c51
  obtain ⟨n0, hn0⟩ : ∃ n0, n0 = N32 n := ⟨_, rfl⟩
  obtain ⟨x0, hx0⟩ : ∃ x0 : Int, x0 = (x : Int) := ⟨_, rfl⟩
  rw [← hn0, ← hx0]
  refine avc_seq_reg (by cbv) rfl (avc_seq_seq (avc_seq_reg (by cbv) rfl (avc_seq_block (avc_loop
    (fun env σ' => σ' = σ ∧ ∃ k : Nat, k ≤ x ∧ env = ofL [(0, .int .u32 (N32 (sror n k))), (1, .int .i64 x0), (5, .int .i64 k)]) (fun env _ => match env.get 5 with | some (.int _ k) => x - k.toNat | _ => 0)
    (Wk.env (l := [(0, .int .u32 n0), (1, .int .i64 x0), (5, .int .i64 0)]) (by cbv) hN) ?_ ?_))))
  · exact ⟨rfl, 0, by omega, by rw [hn0, sror_zero]; rfl⟩
  · rintro env σ' ⟨rfl, k, hk, rfl⟩
    obtain ⟨r0, hr0⟩ : ∃ r0, r0 = N32 (sror n k) := ⟨_, rfl⟩
    obtain ⟨k0, hk0⟩ : ∃ k0 : Int, k0 = (k : Int) := ⟨_, rfl⟩
    rw [← hr0, ← hk0]
    have hb := N32_bd (sror n k)
    have HE := sror_succ n k
    refine avc_seq_seq (avc_seq_reg (by cbv) rfl (avc_seq_cond (t := A.lt k0 x0) (by cbv) (fun ht => ?_) (fun ht => ?_)))
    · refine avc_seq_skip (avc_seq_block (avc_reg (by cbv) ?_ ?_))
      · subst hA; simp [std]
      · show avc A Γ 4 nt N _ _ _ _
        refine avc_reg (by cbv) rfl ?_
        obtain ⟨r1, hr1⟩ : ∃ r1, r1 = N32 (sror n (k + 1)) := ⟨_, rfl⟩
        obtain ⟨k1, hk1⟩ : ∃ k1 : Int, k1 = ((k + 1 : Nat) : Int) := ⟨_, rfl⟩
        have HR1 : r0 / 2 = r1 := by rw [hr1, hr0]; exact HE
        refine ⟨_, _, Wk.env (l := [(0, .int .u32 r1), (1, .int .i64 x0), (5, .int .i64 k1)]) ⟨⟨?_, rfl⟩, ⟨by cbv, rfl⟩, ⟨?_, rfl⟩, trivial⟩ hN, ⟨rfl, k + 1, ?_, by rw [hr1, hk1]⟩, ?_⟩
        · conv => lhs; cbv
          subst hA
          have e0 : r0.tdiv 2 = r0 / 2 := Int.tdiv_eq_ediv_of_nonneg (by omega)
          simp only [std, wr, e0]
          congr 2; omega
        · conv => lhs; cbv
          subst hA
          simp only [std, wr]
          congr 2; omega
        · have : k < x := by subst hA; simp only [std, decide_eq_true_eq] at ht; omega
          omega
        · have : k < x := by subst hA; simp only [std, decide_eq_true_eq] at ht; omega
          have e1 : (ofL [(0, .int .u32 r1), (1, .int .i64 x0), (5, .int .i64 k1)]).get 5 = some (.int .i64 k1) := by cbv
          have e0 : (ofL [(0, .int .u32 r0), (1, .int .i64 x0), (5, .int .i64 k0)]).get 5 = some (.int .i64 k0) := by cbv
          rw [e1, e0]
          show x - k1.toNat < x - k0.toNat
          omega
    · refine avc_seq_exit ?_
      show avc A Γ 4 nt N _ _ _ _
      refine avc_seq_reg (by cbv) rfl ?_
      refine hK _ ?_
      have : k = x := by subst hA; simp only [std, decide_eq_false_iff_not] at ht; omega
      rw [← this, ← hr0]
      cbv
theorem body51 : Tryd.f51.body = some (Tryd.f51.body.getD .skip) := by kernel_rfl
theorem c51_ok (n : UInt32) (x : Nat) (hx : x < 32) {ρ : Ren} {σ : AH} {W : World} (hr : HR ρ σ W) (hG : ∀ g, g < 4 → ∃ s, ρ g = some (g, (0, s))) {vs : List Value} (hvs : VRs ρ [.int .u32 (N32 n), .int .i64 x] vs) :
    Calls Tryd.prog 51 vs.toArray W fun e W' => ∃ v av σ' ρ', e = .returned v ∧ (av = .int .u32 (N32 (sror n x)) ∧ σ' = σ) ∧ HR ρ' σ' W' ∧ Stp σ.next ρ σ W ρ' σ' W' ∧ VR ρ' av v := by
  refine call_sound (xs := [.tmp 4]) mixed gam0_ok pu0_ok Tryd.func51 body51 comp51 (by kernel_rfl) (by kernel_rfl) (by kernel_rfl) (shift_avc Γ0 n x hx _ _ σ (Nat.le_refl _) _ fun env he => ⟨trivial, rfl, ?_, rfl⟩) hG hr hvs
  show evS env (.slot 4) = _
  simp only [evS, he]
def rorI (n x : Int) : Int := N32 (ror (UInt32.ofNat n.toNat) x.toNat)
def srorI (n x : Int) : Int := N32 (sror (UInt32.ofNat n.toNat) x.toNat)
def Γ1 (A : Ar) (R S : Int → Int → Int) : Gam := fun f args σ => match args with
  | [.int .u32 n, .int .i64 x] => bif Nat.beq f 50 then (A.le 0 n && A.le n 4294967295 && A.le 0 x && A.lt x 32, .int .u32 (R n x), σ) else
      bif Nat.beq f 51 then (A.le 0 n && A.le n 4294967295 && A.le 0 x && A.lt x 32, .int .u32 (S n x), σ) else bad σ
  | _ => bad σ
def pu1 (f : FuncId) : Bool := Nat.beq f 50 || Nat.beq f 51
theorem N32_back (n : Int) (h0 : 0 ≤ n) (h1 : n ≤ 4294967295) : N32 (UInt32.ofNat n.toNat) = n := by
  unfold N32; rw [UInt32.toNat_ofNat']; omega
theorem pu1_ok : PuOk (Γ1 std rorI srorI) pu1 := by
  intro f hf args σ σ'
  unfold Γ1
  split
  · cases hf0 : Nat.beq f 50
    · cases hf1 : Nat.beq f 51
      · simp [pu1, hf0, hf1] at hf
      · rfl
    · rfl
  · rfl
theorem gam1_ok : GamOk Tryd.prog 4 (Γ1 std rorI srorI) := by
  intro f args σ h
  unfold Γ1 at h ⊢
  split at h
  · rename_i n x
    cases hf0 : Nat.beq f 50 <;> rw [hf0] at h
    · cases hf1 : Nat.beq f 51 <;> rw [hf1] at h
      · cases h
      · have e := Nat.eq_of_beq_eq_true hf1
        subst e
        simp only [cond_true, cond_false, std, Bool.and_eq_true, decide_eq_true_eq] at h
        obtain ⟨⟨⟨h1, h2⟩, h3⟩, h4⟩ := h
        refine ⟨⟨_, Tryd.func51, by kernel_rfl, by kernel_rfl⟩, fun ρ W vs hG hr hvs => ?_⟩
        have e1 := N32_back n h1 h2
        have e2 : ((x.toNat : Nat) : Int) = x := by omega
        rw [← e1, ← e2] at hvs
        refine (c51_ok _ x.toNat (by omega) hr hG hvs).mono fun e W' ⟨v, av, σ', ρ', k1, ⟨k2, k3⟩, k4, k5, k6⟩ => ?_
        subst k2; subst k3
        exact ⟨v, ρ', k1, k4, k5, k6⟩
    · have e := Nat.eq_of_beq_eq_true hf0
      subst e
      simp only [cond_true, std, Bool.and_eq_true, decide_eq_true_eq] at h
      obtain ⟨⟨⟨h1, h2⟩, h3⟩, h4⟩ := h
      refine ⟨⟨_, Tryd.func50, by kernel_rfl, by kernel_rfl⟩, fun ρ W vs hG hr hvs => ?_⟩
      have e1 := N32_back n h1 h2
      have e2 : ((x.toNat : Nat) : Int) = x := by omega
      rw [← e1, ← e2] at hvs
      refine (c50_ok _ x.toNat (by omega) hr hG hvs).mono fun e W' ⟨v, av, σ', ρ', k1, ⟨k2, k3⟩, k4, k5, k6⟩ => ?_
      subst k2; subst k3
      exact ⟨v, ρ', k1, k4, k5, k6⟩
  · cases h
end Go.Proofs.YtjkicmlelilcaaaDoor
