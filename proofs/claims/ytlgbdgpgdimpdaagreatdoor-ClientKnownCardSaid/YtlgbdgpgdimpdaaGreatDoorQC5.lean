/- Part 5 of the proof: texts of the proof. -/
import Derived.Test.YtlgbdgpgdimpdaaGreatDoorQC4
import Derived.RangeFuncLeaves
import Derived.Sort.LoopGhostIn
import Derived.Test.YtlgbdgpgdimpdaaGreatDoorRows
import Derived.WalkKit
import Derived.Deep.Draws
import Derived.WalkSpells
import Derived.WalkLawsBesides
import Derived.Deep.QuietTactic
import Derived.BigQuiet
import Derived.Lib.Hide
import Derived.Deep.RegionHeld3
import Derived.Deep.RegionLaw
import Derived.Laws.CopyOwn
import Derived.OwnWalk
import Derived.Laws.AppendOwnNone
import Derived.Lib.AppendZeros
import Derived.RangeFuncBox
import Derived.OwnWalkIn
import Derived.TacticsInMore
import Derived.LoopNIn
import Derived.LoopIn
import Derived.RangeFuncWrites
import Derived.Lib.AppendZerosOnto
import Derived.Lib.Overlaps
import Derived.Deep.MidRow
import Derived.StillTailTactics
namespace Go.Proofs.YtlgbdgpgdimpdaaGreatDoor.V2
open Go
noncomputable section
section
variable {P : Program} {Γ : Gam} {pu : FuncId → Bool} {G nt N : Nat} {ρ0 : Ren} {σ0 : AH} {W0 : World}
def SoundAt (P : Program) (pu : FuncId → Bool) (G nt : Nat) (Y : List Yl) (c : Code) : Prop := ∀ (c' : ACode), compC P G nt pu c = some c' → ∀ {N B : Nat} {ρ0 : Ren} {σ0 : AH} {W0 : World} {ro : Option Nat} {Γ : Gam}, GamOk P G Γ Y ∧ PuOk Γ pu ∧ (ro ≠ none → Γ.up = fun _ _ => .no) → Start Y N B ρ0 σ0 W0 → ∀ (K : AK) (env : T AV) (σ : AH) (ρ : Ren) (W : World) (a : Act),
    avc std Γ G nt N c' K env σ → HR ρ σ W → ER G nt ρ env a → Stp N ρ0 σ0 W0 ρ σ W → Mks ρ W a.defers ∧ (∀ r, dmark r ∈ a.defers → B ≤ r) → c.wpIn (fen ro) 0 P (AQ G nt N B ρ0 σ0 W0 K) a W
theorem inv_block {id : Nat} {c : Code} {a : ACode} (h : compC P G nt pu (.block id c) = some a) : ∃ c', compC P G nt pu c = some c' ∧ a = .block id c' := by
  unfold compC at h
  split at h
  · cases h
  · rename_i c' hc; cases h; exact ⟨c', hc, rfl⟩
theorem inv_loop {c : Code} {a : ACode} (h : compC P G nt pu (.loop c) = some a) : ∃ c', compC P G nt pu c = some c' ∧ a = .loop c' := by
  unfold compC at h
  split at h
  · cases h
  · rename_i c' hc; cases h; exact ⟨c', hc, rfl⟩
theorem inv_seq {x y : Code} {a : ACode} (h : compC P G nt pu (.seq x y) = some a) : ∃ x' y', compC P G nt pu x = some x' ∧ compC P G nt pu y = some y' ∧ a = mkSeq P G nt x y x' y' := by
  unfold compC at h
  split at h
  · cases h
  · rename_i x' hx
    split at h
    · cases h
    · rename_i y' hy; cases h; exact ⟨x', y', hx, hy, rfl⟩
theorem mkFor_none {x y : Code} {y' : ACode} (h : rangeOf P G nt x = none ∨ ∀ it, loopOf P G nt it y = none) : mkFor P G nt x y y' = none := by
  unfold mkFor
  rcases h with h | h
  · rw [h]
  · split
    · rfl
    · rw [h]
theorem mkSeq_nb {x y : Code} {x' y' : ACode} (h : rangeOf P G nt x = none) : mkSeq P G nt x y x' y' = .seq x' y' := by
  unfold mkSeq
  rw [mkFor_none (.inl h)]
  dsimp only
  split
  · rw [mkFor_none (.inl h)]
  · rfl
theorem mkSeq_cases {x y : Code} {x' y' : ACode} : mkSeq P G nt x y x' y' = .seq x' y' ∨ (∃ z, mkFor P G nt x y y' = some z ∧ mkSeq P G nt x y x' y' = z) ∨ ∃ y1 y2 y1' y2' z, y = .seq y1 y2 ∧ y' = .seq y1' y2' ∧ mkFor P G nt x y1 y1' = some z ∧ mkSeq P G nt x y x' y' = .seq z y2' := by
  unfold mkSeq
  split
  · rename_i z hz; exact .inr (.inl ⟨z, hz, rfl⟩)
  · split
    · split
      · rename_i hz; exact .inr (.inr ⟨_, _, _, _, _, rfl, rfl, hz, rfl⟩)
      · exact .inl rfl
    · exact .inl rfl
theorem loopOf_form {it : Nat} {y : Code} {m : ML} {BODY : Code} (h : loopOf P G nt it y = some (m, BODY)) : ∃ id i1 ON n1 id1 i2 OE, y = .block id (.loop (.seq (.region i1 ON false) (.seq (.cond (.tmp n1) .skip (.exit id)) (.block id1 (.seq (.region i2 OE false) BODY))))) := by
  unfold loopOf at h
  split at h
  · rename_i id i1 ON n1 id' id1 i2 OE BODY'
    generalize hid : Nat.beq id' id = bi at h
    cases bi with
    | false => cases h
    | true =>
    obtain rfl := Nat.eq_of_beq_eq_true hid
    dsimp only [cond_true] at h
    repeat' (first | (cases h; done) | (cases h; exact ⟨_, _, _, _, _, _, _, rfl⟩) | (split at h) | (generalize (_ && _) = cb at h; cases cb <;> dsimp only [cond_true, cond_false] at h))
  · cases h
theorem mkFor_spec {x y : Code} {y' z : ACode} (h : mkFor P G nt x y y' = some z) : ∃ pre xr it m BODY b, rangeOf P G nt x = some (pre, xr, it) ∧ loopOf P G nt it y = some (m, BODY) ∧ bodyOf y' = some b ∧ ((∃ q, delOf P G nt BODY = some q ∧ z = .mfor pre xr m .skip (some q)) ∨ z = .mfor pre xr m b none) := by
  unfold mkFor at h
  split at h
  · cases h
  · rename_i pre xr it hx
    split at h
    · cases h
    · rename_i m BODY hy
      split at h
      · cases h
      · rename_i b hb
        split at h
        · rename_i q hq; cases h; exact ⟨pre, xr, it, m, BODY, b, hx, hy, hb, .inl ⟨q, hq, rfl⟩⟩
        · cases h; exact ⟨pre, xr, it, m, BODY, b, hx, hy, hb, .inr rfl⟩
theorem mkFor_block {x y : Code} {y' z : ACode} (h : mkFor P G nt x y y' = some z) : rangeOf P G nt y = none := by
  obtain ⟨_, _, _, _, _, _, _, h2, _⟩ := mkFor_spec h
  obtain ⟨id, i1, ON, n1, id1, i2, OE, rfl⟩ := loopOf_form h2
  rfl
theorem inv_seqb {y1 y2 : Code} {y1' y2' : ACode} (hn : rangeOf P G nt y1 = none) (h : compC P G nt pu (.seq y1 y2) = some (.seq y1' y2')) : compC P G nt pu y1 = some y1' ∧ compC P G nt pu y2 = some y2' := by
  obtain ⟨a, b, h1, h2, h3⟩ := inv_seq h
  rw [mkSeq_nb hn] at h3
  cases h3
  exact ⟨h1, h2⟩
theorem body_comp {it : Nat} {y : Code} {y' b : ACode} {m : ML} {BODY : Code} (h : loopOf P G nt it y = some (m, BODY)) (hy : compC P G nt pu y = some y') (hb : bodyOf y' = some b) : compC P G nt pu BODY = some b ∧ SizeOf.sizeOf BODY < SizeOf.sizeOf y := by
  obtain ⟨id, i1, ON, n1, id1, i2, OE, rfl⟩ := loopOf_form h
  refine ⟨?_, by simp only [Code.block.sizeOf_spec, Code.loop.sizeOf_spec, Code.seq.sizeOf_spec]; omega⟩
  obtain ⟨c1, k1, rfl⟩ := inv_block hy
  obtain ⟨c2, k2, rfl⟩ := inv_loop k1
  obtain ⟨rN, c3, k3, k4, rfl⟩ := inv_seq k2
  obtain ⟨cc, c4, k5, k6, rfl⟩ := inv_seq k4
  obtain ⟨c5, k7, rfl⟩ := inv_block k6
  obtain ⟨rE, c6, k8, k9, rfl⟩ := inv_seq k7
  have e1 : mkSeq P G nt (.cond (.tmp n1) .skip (.exit id)) (.block id1 (.seq (.region i2 OE false) BODY)) cc (.block id1 (mkSeq P G nt (.region i2 OE false) BODY rE c6)) = .seq cc (.block id1 (mkSeq P G nt (.region i2 OE false) BODY rE c6)) := mkSeq_nb rfl
  rw [e1] at hb
  have e2 : mkSeq P G nt (.region i1 ON false) (.seq (.cond (.tmp n1) .skip (.exit id)) (.block id1 (.seq (.region i2 OE false) BODY))) rN (.seq cc (.block id1 (mkSeq P G nt (.region i2 OE false) BODY rE c6))) = .seq rN (.seq cc (.block id1 (mkSeq P G nt (.region i2 OE false) BODY rE c6))) := by
    unfold mkSeq
    rw [mkFor_none (.inr fun _ => rfl)]
    dsimp only
    rw [mkFor_none (.inr fun _ => rfl)]
  rw [e2] at hb
  rcases mkSeq_cases (P := P) (G := G) (nt := nt) (x := .region i2 OE false) (y := BODY) (x' := rE) (y' := c6) with e | ⟨z, hz, e⟩ | ⟨y1, y2, y1', y2', z, _, _, hz, e⟩
  · rw [e] at hb
    have hre : ∃ rows, rE = .reg rows := by
      unfold compC at k8
      split at k8
      · cases k8
      · cases k8; exact ⟨_, rfl⟩
    obtain ⟨rows, rfl⟩ := hre
    cases hb
    exact k9
  · rw [e] at hb
    obtain ⟨_, _, _, _, _, _, _, _, _, h5⟩ := mkFor_spec hz
    rcases h5 with ⟨q, _, rfl⟩ | rfl <;> cases hb
  · rw [e] at hb
    obtain ⟨_, _, _, _, _, _, _, _, _, h5⟩ := mkFor_spec hz
    rcases h5 with ⟨q, _, rfl⟩ | rfl <;> cases hb
theorem bdR_ok {Y : List Yl} {ro : Option Nat} {BODY : Code} {b : ACode} {fuel : Nat} (hΓ : GamOk P G Γ Y ∧ PuOk Γ pu ∧ (ro ≠ none → Γ.up = fun _ _ => .no)) (hS : SoundAt P pu G nt Y BODY) (hb : compC P G nt pu BODY = some b) : BodyOk P G nt Y ro BODY (bdF std Γ fuel b none) := by
  intro bm cs i env σ o ho bi c r ck dm N B ρ0 ρ σ0 W0 W a st hl hr hY he hs hd
  have ho : (match run std Γ σ.next fuel b env σ with
    | .bad => none
    | .ok e env' σ' => some (e, env', σ', cs)) = some o := ho
  cases hrun : run std Γ σ.next fuel b env σ with
  | bad => rw [hrun] at ho; cases ho
  | ok e env' σ' =>
    rw [hrun] at ho
    cases ho
    have hA := hS b hb hΓ (N := σ.next) (B := B) (ρ0 := ρ) (σ0 := σ) (W0 := W) ⟨Nat.le_trans st.b hs.size, hY, fun y hy => (hY y hy).lt, hr⟩ (fun e' env'' σ'' => e' = e.out ∧ env'' = env' ∧ σ'' = σ') env σ ρ W a (run_avc (nt := nt) (G := G) b _ _ _ e env' σ' hrun ⟨rfl, rfl, rfl⟩) hr he (Stp.refl (Nat.le_refl _)) hd
    refine wpIn_mono hA fun e' a' W' ⟨ρ', env2, σ2, ⟨h1, h2, h3⟩, h4, h5, h6, h7, h8⟩ => ?_
    subst h1 h2 h3
    exact ⟨rfl, ρ', hl.step (M := 0) hr h6, h4, hY.step (fun y hy => (hY y hy).lt) h6, h5, hs.trans h6 hs.next, h7, h8⟩
theorem mfor_sound {Y : List Yl} {ro : Option Nat} {x y : Code} {y' z : ACode} {B : Nat} (hΓ : GamOk P G Γ Y ∧ PuOk Γ pu ∧ (ro ≠ none → Γ.up = fun _ _ => .no)) (st : Start Y N B ρ0 σ0 W0) (hz : mkFor P G nt x y y' = some z) (hy : compC P G nt pu y = some y')
    (IH : ∀ (BODY : Code) (b : ACode), SizeOf.sizeOf BODY < SizeOf.sizeOf y → compC P G nt pu BODY = some b → SoundAt P pu G nt Y BODY) {K : AK} {env : T AV} {σ : AH} {ρ : Ren} {W : World} {a : Act} (h : avc std Γ G nt N z K env σ)
    (hr : HR ρ σ W) (hY : YInv Y ρ σ W) (he : ER G nt ρ env a) (hs : Stp N ρ0 σ0 W0 ρ σ W) (hd : MkB B ρ W a) {Q : Exit → Act → World → Prop}
    (hQ : ∀ e env' σ' ρ' a' W', K e env' σ' → HR ρ' σ' W' → ER G nt ρ' env' a' → Stp N ρ0 σ0 W0 ρ' σ' W' → MkB B ρ' W' a' → Q e a' W') :
    x.wpIn (fen ro) 0 P (Exit.then (fun a' W' => y.wpIn (fen ro) 0 P Q a' W') Q) a W := by
  obtain ⟨pre, xr, it, m, BODY, b, h1, h2, h3, h4⟩ := mkFor_spec hz
  obtain ⟨hb, hsz⟩ := body_comp h2 hy h3
  have hfin : ∀ {L : List (AX × T AV × AH)} {bd : Bd}, BodyOk P G nt Y ro BODY bd → mfr std Γ pre xr m bd env σ = some L → (∀ o ∈ L, ∃ env2 σ2, Lw G nt N o.2.1 o.2.2 env2 σ2 ∧ K o.1.out env2 σ2) → x.wpIn (fen ro) 0 P (Exit.then (fun a' W' => y.wpIn (fen ro) 0 P Q a' W') Q) a W := by
    intro L bd hB hL hK
    refine mfr_sound hΓ.1 st h1 h2 hB hL hr hY he hs hd fun o ho ρ' a' W' k1 k2 k3 k4 => ?_
    obtain ⟨env2, σ2, w1, w2⟩ := hK o ho
    obtain ⟨ρ'', u1, u2, u3, u4, u5, u6⟩ := w1.use k3.next k1
    exact hQ _ env2 σ2 ρ'' a' W' w2 u1 (u2 a' k2) (k3.weak u3 u4 u5 u6) ⟨k4.1.weak u4, k4.2⟩
  rcases h4 with ⟨q, hq, rfl⟩ | rfl
  · obtain ⟨fuel, L, hL, hK⟩ := h
    exact hfin (bdD_ok hΓ.1 hq) hL hK
  · obtain ⟨fuel, L, hL, hK⟩ := h
    exact hfin (bdR_ok hΓ (IH BODY b hsz hb) hb) hL hK
theorem avc_sound {Y : List Yl} (hm : P.follows .mixedOrders = true) : ∀ (c : Code) (c' : ACode), compC P G nt pu c = some c' → ∀ {N B : Nat} {ρ0 : Ren} {σ0 : AH} {W0 : World} {ro : Option Nat} {Γ : Gam}, GamOk P G Γ Y ∧ PuOk Γ pu ∧ (ro ≠ none → Γ.up = fun _ _ => .no) → Start Y N B ρ0 σ0 W0 → ∀ (K : AK) (env : T AV) (σ : AH) (ρ : Ren) (W : World) (a : Act),
    avc std Γ G nt N c' K env σ → HR ρ σ W → ER G nt ρ env a → Stp N ρ0 σ0 W0 ρ σ W → Mks ρ W a.defers ∧ (∀ r, dmark r ∈ a.defers → B ≤ r) → c.wpIn (fen ro) 0 P (AQ G nt N B ρ0 σ0 W0 K) a W := by
  suffices hh : ∀ n (c : Code), SizeOf.sizeOf c ≤ n → SoundAt P pu G nt Y c from fun c c' hc => hh (SizeOf.sizeOf c) c (Nat.le_refl _) c' hc
  intro n
  induction n with
  | zero => intro c hsz; cases c <;> simp at hsz
  | succ n IH =>
  intro c hsz
  cases c with
  | skip => intro c' hc N B ρ0 σ0 W0 ro Γ hΓ st K env σ ρ W a h hr he hs hd; cases hc; exact wpIn_skip ⟨ρ, env, σ, h, hr, he, hs, hd⟩
  | ret => intro c' hc N B ρ0 σ0 W0 ro Γ hΓ st K env σ ρ W a h hr he hs hd; cases hc; exact wpIn_ret ⟨ρ, env, σ, h, hr, he, hs, hd⟩
  | exit id => intro c' hc N B ρ0 σ0 W0 ro Γ hΓ st K env σ ρ W a h hr he hs hd; cases hc; exact wpIn_exit ⟨ρ, env, σ, h, hr, he, hs, hd⟩
  | seq x y =>
    have ihx := IH x (by simp only [Code.seq.sizeOf_spec] at hsz; omega)
    have ihy := IH y (by simp only [Code.seq.sizeOf_spec] at hsz; omega)
    intro c' hc N B ρ0 σ0 W0 ro Γ hΓ st K env σ ρ W a h hr he hs hd
    unfold compC at hc
    split at hc
    · cases hc
    · rename_i x' hx
      split at hc
      · cases hc
      · rename_i y' hy
        cases hc
        rcases mkSeq_cases (P := P) (G := G) (nt := nt) (x := x) (y := y) (x' := x') (y' := y') with e | ⟨z, hz, e⟩ | ⟨y1, y2, y1', y2', z, e1, e2, hz, e⟩
        rotate_left
        · -- a loop over a map, at the end
          rw [e] at h
          exact wpIn_seq (mfor_sound (ro := ro) hΓ st hz hy (fun B b hs' hb => IH B (by simp only [Code.seq.sizeOf_spec] at hsz; omega)) h hr (st.inv.step st.lt hs) he hs hd fun e' env' σ' ρ' a' W' k1 k2 k3 k4 k5 => ⟨ρ', env', σ', k1, k2, k3, k4, k5.1, k5.2⟩)
        · -- a loop over a map, and what is behind it
          subst e1 e2
          rw [e] at h
          obtain ⟨hy1, hy2⟩ := inv_seqb (mkFor_block hz) hy
          have ih2 := IH y2 (by simp only [Code.seq.sizeOf_spec] at hsz; omega)
          refine wpIn_seq (wpIn_mono (mfor_sound (ro := ro) hΓ st hz hy1 (fun B b hs' hb => IH B (by simp only [Code.seq.sizeOf_spec] at hsz; omega)) h hr (st.inv.step st.lt hs) he hs hd (Q := Exit.then (fun a' W' => y2.wpIn (fen ro) 0 P (AQ G nt N B ρ0 σ0 W0 K) a' W') (AQ G nt N B ρ0 σ0 W0 K)) fun e' env' σ' ρ' a' W' k1 k2 k3 k4 k5 => ?_) fun e' a' W' hh => ?_)
          · cases e' with
            | normal =>
              obtain ⟨env2, σ2, w1, w2⟩ := k1
              obtain ⟨ρ'', u1, u2, u3, u4, u5, u6⟩ := w1.use k4.next k2
              exact ih2 y2' hy2 hΓ st K env2 σ2 ρ'' W' a' w2 u1 (u2 a' k3) (k4.weak u3 u4 u5 u6) ⟨k5.1.weak u4, k5.2⟩
            | _ => exact ⟨ρ', env', σ', k1, k2, k3, k4, k5.1, k5.2⟩
          · cases e' with
            | normal => exact wpIn_seq hh
            | _ => exact hh
        rw [e] at h
        refine wpIn_seq (wpIn_mono (ihx x' hx hΓ st _ env σ ρ W a h hr he hs hd) fun e a' W' ⟨ρ', env', σ', h1, h2, h3, h4, h5⟩ => ?_)
        cases e
        case normal =>
          obtain ⟨env2, σ2, w1, w2⟩ := h1
          obtain ⟨ρ'', k1, k2, k3, k4, k5, k6⟩ := w1.use h4.next h2
          exact ihy y' hy hΓ st K env2 σ2 ρ'' W' a' w2 k1 (k2 a' h3) (h4.weak k3 k4 k5 k6) ⟨h5.1.weak k4, h5.2⟩
        all_goals exact ⟨ρ', env', σ', h1, h2, h3, h4, h5⟩
  | cond t x y =>
    have ihx := IH x (by simp only [Code.cond.sizeOf_spec] at hsz; omega)
    have ihy := IH y (by simp only [Code.cond.sizeOf_spec] at hsz; omega)
    intro c' hc N B ρ0 σ0 W0 ro Γ hΓ st K env σ ρ W a h hr he hs hd
    unfold compC at hc
    split at hc
    · cases hc
    · rename_i x' hx
      split at hc
      · cases hc
      · rename_i y' hy
        cases hc
        unfold avc at h
        have hv := he.ev t
        cases hcv : evS env (rfS G t) <;> rw [hcv] at h hv <;> try exact h.elim
        rename_i b
        unfold VR at hv
        cases b
        · exact wpIn_cond_false hv (ihy y' hy hΓ st K env σ ρ W a (h.2 rfl) hr he hs hd)
        · exact wpIn_cond_true hv (ihx x' hx hΓ st K env σ ρ W a (h.1 rfl) hr he hs hd)
  | block id x =>
    have ih := IH x (by simp only [Code.block.sizeOf_spec] at hsz; omega)
    intro c' hc N B ρ0 σ0 W0 ro Γ hΓ st K env σ ρ W a h hr he hs hd
    unfold compC at hc
    split at hc
    · cases hc
    · rename_i x' hx
      cases hc
      refine wpIn_block (wpIn_mono (ih x' hx hΓ st _ env σ ρ W a h hr he hs hd) fun e a' W' ⟨ρ', env', σ', h1, h2, h3, h4, h5⟩ => ?_)
      cases e
      case exit i =>
        simp only [AK.block] at h1
        simp only [Exit.inBlock]
        split
        · rename_i hi; rw [if_pos hi] at h1; exact ⟨ρ', env', σ', h1, h2, h3, h4, h5⟩
        · rename_i hi; rw [if_neg hi] at h1; exact ⟨ρ', env', σ', h1, h2, h3, h4, h5⟩
      all_goals exact ⟨ρ', env', σ', h1, h2, h3, h4, h5⟩
  | loop x =>
    have ih := IH x (by simp only [Code.loop.sizeOf_spec] at hsz; omega)
    intro c' hc N B ρ0 σ0 W0 ro Γ hΓ st K env σ ρ W a h hr he hs hd
    unfold compC at hc
    split at hc
    · cases hc
    · rename_i x' hx
      cases hc
      unfold avc at h
      obtain ⟨I, μ, ⟨env1, σ1, hw, h0⟩, hround⟩ := h
      let J : Nat → Act → World → Prop := fun n a W => ∃ ρ env σ, I env σ ∧ μ env σ = n ∧ HR ρ σ W ∧ ER G nt ρ env a ∧ Stp N ρ0 σ0 W0 ρ σ W ∧ Mks ρ W a.defers ∧ (∀ r, dmark r ∈ a.defers → B ≤ r)
      have hloop : ∀ n, ∀ a W, J n a W → (Code.loop x).wpIn (fen ro) 0 P (AQ G nt N B ρ0 σ0 W0 K) a W := by
        intro n a W hJ
        refine wpIn_loop_ghost J n hJ (fun n a W hI => ?_)
        obtain ⟨ρ, env, σ, i1, i2, i3, i4, i5, i6⟩ := hI
        refine wpIn_mono (ih x' hx hΓ st _ env σ ρ W a (hround env σ i1) i3 i4 i5 i6) fun e a' W' ⟨ρ', env', σ', h1, h2, h3, h4, h5⟩ => ?_
        cases e
        case normal =>
          obtain ⟨env2, σ2, w1, w2, w3⟩ := h1
          obtain ⟨ρ'', k1, k2, k3, k4, k5, k6⟩ := w1.use h4.next h2
          exact ⟨μ env2 σ2, by rw [← i2]; exact w3, ρ'', env2, σ2, w2, rfl, k1, k2 a' h3, h4.weak k3 k4 k5 k6, h5.1.weak k4, h5.2⟩
        all_goals exact ⟨ρ', env', σ', h1, h2, h3, h4, h5⟩
      obtain ⟨ρ1, k1, k2, k3, k4, k5, k6⟩ := hw.use hs.next hr
      exact hloop _ a W ⟨ρ1, env1, σ1, h0, rfl, k1, k2 a he, hs.weak k3 k4 k5 k6, hd.1.weak k4, hd.2⟩
  | region id ops draw =>
    intro c' hc N B ρ0 σ0 W0 ro Γ hΓ st K env σ ρ W a h hr he hs hd
    cases draw with
    | false =>
      unfold compC at hc
      split at hc
      · cases hc
      · rename_i rows hrows
        cases hc
        unfold avc at h
        refine wpIn_region ?_
        have hl : ops.size = ops.toList.length := by simp
        rw [List.range_eq_range', hl]
        rcases h with h | ⟨L, hL, h⟩
        · exact plain_sound hΓ.1 ops.toList rows 0 hrows (fun j => by simp) (st.inv.step st.lt hs) hr he h.1 fun ρ' a' W' h1 h2 h3 h4 => ⟨ρ', _, _, h.2, h1, h2, hs.trans h3 hs.next, by rw [h4]; exact hd.1.step h3, by rw [h4]; exact hd.2⟩
        · exact plainS_sound hΓ.1 ops.toList rows 0 hrows (fun j => by simp) (st.inv.step st.lt hs) hr he hL fun p hp ρ' a' W' h1 h2 h3 h4 => ⟨ρ', _, _, h p hp, h1, h2, hs.trans h3 hs.next, by rw [h4]; exact hd.1.step h3, by rw [h4]; exact hd.2⟩
    | true =>
      unfold compC at hc
      split at hc
      · cases hc; exact h.elim
      · rename_i sts hst
        cases hc
        unfold compD at hst
        split at hst
        · cases hst
        · split at hst
          · cases hst
          · rename_i st' hst'
            generalize hBB : cloGo ops.toList [] = BB at hst hst'
            cases hck : (chkRegion ops BB [] && (chkOrd pu BB (rcGet (rcsOf pu BB [] st')) [] st' && ((List.range ops.size).all (hasId st') && Nat.ble ops.size 1000000))) <;> rw [hck] at hst
            · cases hst
            · cases hst
              simp only [Bool.and_eq_true, Nat.ble_eq] at hck
              unfold avc at h
              unfold evDr at h
              generalize hrc : rcsOf pu BB [] st' = rcs at h hck
              generalize hev : evD std Γ env st' (rcGet rcs) st' .leaf σ = ev at h
              obtain ⟨ok, vals, σ'⟩ := ev
              simp only at h
              refine wpIn_region_any hm (drawn_any (W0 := { W with drawn := W.drawn + 1 }) hΓ.1 ((st.inv.step st.lt hs).drew _) hΓ.2.1 hst' hck.2.1 hck.2.2.1 hck.2.2.2 hck.1 (hr.drew _) he (by rw [hev]; exact h.1) fun ρ' a' W' h1 h2 h3 h4 => ?_)
              rw [hev] at h1 h2 h3
              exact ⟨ρ', _, _, h.2, h1, h2, hs.trans h3.drew hs.next, by rw [h4]; exact hd.1.step h3.drew, by rw [h4]; exact hd.2⟩
  | rangeFunc f ps x y =>
    have ihx := IH x (by simp only [Code.rangeFunc.sizeOf_spec] at hsz; omega)
    have ihy := IH y (by simp only [Code.rangeFunc.sizeOf_spec] at hsz; omega)
    intro c' hc N B ρ0 σ0 W0 ro Γ hΓ st K env σ ρ W a h hr he hs hd
    unfold compC at hc
    split at hc
    · cases hc
    · rename_i x' hx
      split at hc
      · cases hc
      · rename_i y' hy
        cases hps : (ps.toList.all fun p => Nat.blt p nt) with
        | false => rw [hps] at hc; cases hc; exact h.elim
        | true =>
        rw [hps] at hc
        cases hc
        have hv := he.ev f
        unfold avc at h
        cases hcv : evS env (rfS G f) <;> rw [hcv] at h hv <;> try exact h.elim
        rename_i fn first cap
        cases fn <;> try exact h.elim
        rename_i g
        obtain ⟨hlt, fuel, hoK⟩ := h
        unfold VR at hv
        obtain ⟨us, vs, hv, hus, hvs⟩ := hv
        cases ro with
        | some c0 =>
          rw [hΓ.2.2 (by simp)] at hoK
          rcases hoK with ⟨hok, _⟩ | ⟨L, hok, _⟩ <;> cases hok
        | none =>
        have hltn : σ.next < 1000000 := by rwa [Nat.blt_eq] at hlt
        refine wpIn_rangeFunc fun fn _ => ?_
        let lp : Loop := { state := .ready, pending := none, fn, tmps := a.tmps, params := ps, assign := x, body := y, defers := W.heap.size }
        let W1 : World := W.alloc (.deferred (some []))
        let W2 : World := W1.alloc (.loop lp)
        have hsz1 : W1.heap.size = W.heap.size + 1 := by show (W.heap.push _).size = _; simp
        have hsz : W2.heap.size = W.heap.size + 2 := by show ((W.heap.push _).push _).size = _; simp
        have hl1 : W2.heap[W.heap.size + 1]? = some (.loop lp) := by show ((W.heap.push _).push _)[_]? = _; rw [Array.getElem?_push, if_pos (by simp)]
        have hl0 : W2.heap[W.heap.size]? = some (.deferred (some [])) := by show ((W.heap.push _).push _)[_]? = _; rw [Array.getElem?_push_lt (by simp)]; simp
        have hold1 : ∀ c, c < W.heap.size → W1.heap[c]? = W.heap[c]? := fun c hc => by
          show (W.heap.push _)[c]? = _
          rw [Array.getElem?_push_lt hc, Array.getElem?_eq_getElem hc]
        have hrW1 : HR ρ σ W1 := hr.keepW (by omega) hold1
        have hsW1 : Stp σ.next ρ σ W ρ σ W1 := ⟨fun _ _ => rfl, fun b c d hb => .inl ⟨b, d, hb⟩, Nat.le_refl _, fun _ _ _ _ ho _ => ho, fun c hc _ => hold1 c hc, rfl, rfl, rfl, by omega, fun b c d o _ _ hc ho _ => ⟨ho, hold1 c hc⟩⟩
        obtain ⟨ρ1, n1, n2, n3, n4⟩ := hrW1.new (o := AObj.shut) (x := .loop lp) (s := 0) hlt (OR.shut (Nat.le_refl _))
        rw [hsz1] at n1
        have n3 : HR ρ1 (σ.new AObj.shut) W2 := n3
        have hs1 : Stp σ.next ρ σ W ρ1 (σ.new AObj.shut) W2 := hsW1.trans n4 (Nat.le_refl _)
        let z : Yl := ⟨σ.next, W.heap.size + 1, lp, ρ⟩
        have hY : YInv Y ρ σ W := st.inv.step st.lt hs
        have hYc : ∀ y ∈ Y, y.c < W.heap.size := fun y hy => (Array.getElem?_eq_some_iff.1 (hY y hy).rec_).1
        have hYz : YInv (z :: Y) ρ1 (σ.new AObj.shut) W2 := fun y hy => by
          rcases List.mem_cons.1 hy with rfl | hy
          · exact ⟨Nat.lt_succ_self _, by rw [AH.get_new (by omega)]; exact if_pos rfl, n1, hl1, fun b x hb => ⟨(hr.dom b x.1 x.2 hb).1, n2 _ _ hb⟩⟩
          · exact hY.step (fun y hy => (hY y hy).lt) hs1 y hy
        generalize hh : rnd (both std Γ.bare fuel x' y') env ps.toList = k at hoK
        have hΓb : GamOk P G Γ.bare Y ∧ PuOk Γ.bare pu ∧ (some (W.heap.size + 1) ≠ none → Γ.bare.up = fun _ _ => .no) := ⟨hΓ.1.bare, by have := hΓ.2.1; unfold PuOk at this ⊢; rw [Gam.bare_fn]; exact this, fun _ => Γ.bare_up⟩
        have hYl : YlOk P G σ.next k (z :: Y) := by
          intro args σ' hok' ρ' W' vs' c' d' hY' hG' hr' hvs' hb'
          have hz' := hY' z List.mem_cons_self
          obtain ⟨rfl, rfl⟩ : c' = W.heap.size + 1 ∧ d' = (0, 0) := Prod.mk.inj (Option.some.inj (hb'.symm.trans hz'.at_))
          subst hh
          obtain ⟨hle, e2, s2, hrun, hrnd⟩ := rnd_ok hok'
          rw [hrnd]
          have hrec : W'.heap[W.heap.size + 1]? = some (.loop lp) := hz'.rec_
          have hcW : W.heap.size + 1 < W'.heap.size := (Array.getElem?_eq_some_iff.1 hrec).1
          refine ⟨_, _, _, _, yield_run hrec (by show ps.toList.length = _; rw [hle, hvs'.length]), ?_⟩
          refine roundIn_of_wpIn (F := Fence.wide) trivial ?_
          rcases RR.next_ok (show (run std Γ.bare σ'.next fuel x' (bindP env ps.toList args) σ').next (run std Γ.bare σ'.next fuel y') = _ from hrun) with ⟨e1, s1, h1, h2⟩ | ⟨h1, _⟩
          · have hst1 : Start Y σ'.next W'.heap.size ρ' σ' W' := ⟨Nat.le_refl _, fun y hy => hY' y (List.mem_cons_of_mem _ hy), fun y hy => (hY' y (List.mem_cons_of_mem _ hy)).lt, hr'⟩
            have her := bindP_er (nt := nt) ps.toList args vs' env a.tmps hle hps hvs' ⟨he.small, he.size, hG', fun t v ht => (he.at_ t v ht).mono fun b x hb => (hz'.sub b x hb).2⟩
            have hA := ihx x' hx (N := σ'.next) (B := W'.heap.size) (ro := some (W.heap.size + 1)) hΓb hst1 (fun e env' σ'' => e = .normal ∧ env' = e1 ∧ σ'' = s1) _ σ' ρ' W' _ (run_avc (nt := nt) (G := G) x' _ _ _ .normal e1 s1 h1 ⟨rfl, rfl, rfl⟩) hr' her (Stp.refl (Nat.le_refl _)) ⟨trivial, fun r hr => by cases hr⟩
            refine wpIn_mono hA fun e a1 W3 ⟨ρ2, env2, σ2, ⟨q1, q2, q3⟩, p1, p2, p3, p4, p5⟩ => ?_
            subst q1 q2 q3
            have hY2 := hY'.step (fun y hy => (hY' y hy).lt) p3
            have hz2 := hY2 z List.mem_cons_self
            have hl2 : W3.heap[W.heap.size + 1]? = some (.loop lp) := hz2.rec_
            have hcW3 : W.heap.size + 1 < W3.heap.size := (Array.getElem?_eq_some_iff.1 hl2).1
            have hsz3 := p3.size
            refine ⟨_, beginRound_run hl2 rfl, ?_⟩
            have hst2 : Start Y σ'.next W'.heap.size ρ2 σ2 (setB W3 (W.heap.size + 1) (.loop { lp with state := .busy })) :=
              ⟨by rw [setB_size]; exact hsz3, YInv.turn (fun y hy => hY2 y (List.mem_cons_of_mem _ hy)) (fun y hy => by have := hYc y hy; omega), hst1.lt, p1.turnL hl2⟩
            have hB := ihy y' hy (N := σ'.next) (B := W'.heap.size) (ro := some (W.heap.size + 1)) hΓb hst2 (fun e _ σ'' => e = .normal ∧ σ'' = s2) env2 σ2 ρ2 _ a1 (run_avc (nt := nt) (G := G) y' _ _ _ .normal e2 s2 h2 ⟨rfl, rfl⟩) (p1.turnL hl2) p2 (Stp.refl p3.next)
              ⟨p4.setB fun r hr => by have := p5 r hr; omega, p5⟩
            refine wpIn_mono hB fun e a2 W4 ⟨ρ3, env3, σ3, ⟨q1, q2⟩, r1, r2, r3, r4, r5⟩ => ?_
            subst q1 q2
            have hl3 : W4.heap[W.heap.size + 1]? = some (.loop { lp with state := .busy }) := (r3.ro z.l (W.heap.size + 1) (0, 0) _ hz'.lt hz2.at_ (by rw [setB_size]; exact hcW3) hz2.get rfl).2.trans (setB_self hcW3)
            exact ⟨.bool true, _, endRound_run hl3 rfl rfl, _, rfl, ρ3, r1.turnL hl3, Stp.round p3 r3 hcW hrec, by unfold VR; rfl⟩
          · exact absurd rfl h1
        have hΓ' := hΓ.1.up z hYl
        have hG1 : ∀ g, g < G → ∃ s, ρ1 g = some (g, (0, s)) := fun g hg => by obtain ⟨s, h'⟩ := he.glob g hg; exact ⟨s, n2 _ _ h'⟩
        have hargs : VRs ρ1 (first ++ (AV.yld σ.next :: cap)) (us ++ (Value.func (.yield (W.heap.size + 1)) #[] #[] :: vs)) := (hus.mono n2).append ⟨_, _, rfl, by unfold VR; exact ⟨_, _, n1, rfl⟩, hvs.mono n2⟩
        have hcalls : (∃ fd, P.funcs[g]? = some fd ∧ fd.body.isSome = true ∧ (fd.name == "runtime.NumGoroutine") = false) ∧ Calls P g (us ++ (Value.func (.yield (W.heap.size + 1)) #[] #[] :: vs)).toArray W2 fun e W' => ∃ v σ' ρ', e = .returned v ∧ K .normal env σ' ∧ HR ρ' σ' W' ∧ Stp (σ.next + 1) ρ1 (σ.new AObj.shut) W2 ρ' σ' W' := by
          rcases hoK with ⟨hok, hK⟩ | ⟨L, hok, hK⟩
          · obtain ⟨h1, h2⟩ := hΓ'.fn _ _ _ hok
            exact ⟨h1, (h2 ρ1 W2 _ hYz hG1 n3 hargs).mono fun e W' ⟨v, ρ', he', k1, k2, k3⟩ => ⟨v, _, ρ', he', hK, k1, k2⟩⟩
          · obtain ⟨h1, h2⟩ := hΓ'.dm _ _ _ _ hok
            exact ⟨h1, (h2 ρ1 W2 _ hYz hG1 n3 hargs).mono fun e W' ⟨v, av, σ', ρ', he', hm', k1, k2, k3⟩ => ⟨v, _, ρ', he', hK _ hm', k1, k2⟩⟩
        obtain ⟨⟨fd, hfd, hbody, hname⟩, hcall⟩ := hcalls
        obtain ⟨body, hbn⟩ := Option.isSome_iff_exists.1 hbody
        have hname' : ¬ fd.name = "runtime.NumGoroutine" := by simpa using hname
        refine ⟨W.heap.size + 1, [dmark W.heap.size], W2, { target := .fn (.func g) vs.toArray, args := us.toArray ++ #[.func (.yield (W.heap.size + 1)) #[] #[]] }, W2, g, (us ++ (Value.func (.yield (W.heap.size + 1)) #[] #[] :: vs)).toArray, W2, ?_, ?_, ?_, ?_, ?_, ?_⟩
        · show (Instr.enterLoop fn a.tmps ps x y none).run P W = _
          simp [Instr.enterLoop, dmark, W2, W1, lp]
        · have hc : a.eval (.const (.func (.yield (W.heap.size + 1)) #[] #[])) = .func (.yield (W.heap.size + 1)) #[] #[] := rfl
          simp [resolve, hv, Deferred.ofValue, hc]
        · exact fun _ _ => trivial
        · simp [invoke, callFunc, hfd, hbn, hname']
        · exact fun h => by cases h
        · refine callsIn_wide.2 (hcall.mono fun e W' ⟨v, σ', ρ', he', hK, k1, k2⟩ => ?_)
          subst he'
          have hYe := hYz.step (fun y hy => (hYz y hy).lt) k2
          have hl : W'.heap[W.heap.size + 1]? = some (.loop lp) := (hYe z List.mem_cons_self).rec_
          have hun1 : ∀ b x, ρ1 b ≠ some (W.heap.size, x) := fun b x hb => by
            rcases n4.img b _ x hb with ⟨b0, d0, h0⟩ | h0
            · have := (hr.dom b0 _ d0 h0).2.1; omega
            · omega
          have hd0 : W'.heap[W.heap.size]? = some (.deferred (some [])) := (k2.frame _ (by omega) fun b d => hun1 b d).trans hl0
          have hun' : ∀ b x, ρ' b ≠ some (W.heap.size, x) := fun b x hb => by
            rcases k2.img b _ x hb with ⟨b0, d0, h0⟩ | h0
            · exact hun1 b0 d0 h0
            · omega
          have hsize := hs.size
          refine ⟨none, setB W' (W.heap.size + 1) (.loop { lp with state := .exhausted }), ?_, ?_⟩
          · simp [Instr.endLoop, Instr.getLoop, getObj, Sem.run_bind, Sem.run, hl, setB_loop hl, lp]
          · have hsub : Sub ρ ρ' := fun b x hb => k2.sub n3 b x (n2 b x hb)
            have he2 := he.sub hsub
            have hstp : Stp N ρ0 σ0 W0 ρ' _ (setB W' (W.heap.size + 1) (.loop { lp with state := .exhausted })) := ((hs.trans hs1 hs.next).trans k2 (Nat.le_trans hs.next (Nat.le_succ _))).setB (by omega)
            have hm2 : Mks ρ' W' a.defers := (hd.1.step hs1).step k2
            refine ⟨ρ', env, _, hK, k1.turnL hl, ⟨he2.small, he2.size, he2.glob, he2.at_⟩, hstp, ⟨W.heap.size, rfl, by rw [setB_other (by omega)]; exact hd0, hun', fun r' hr' => by have := hd.1.lt r' hr'; omega, hm2.setB fun r hr => by have := hd.1.lt r hr; omega⟩, fun r hr' => ?_⟩
            rcases List.mem_cons.1 hr' with h | h
            · have : r = W.heap.size := by simpa [dmark] using h
              have := st.b
              omega
            · exact hd.2 r h
  | _ => intro c' hc; cases hc; intro N B ρ0 σ0 W0 ro Γ hΓ st K env σ ρ W a h; exact h.elim
end
end
end Go.Proofs.YtlgbdgpgdimpdaaGreatDoor.V2
namespace Go.Proofs.YtlgbdgpgdimpdaaGreatDoor.V2
open Go
noncomputable section
inductive ARes where
  | tmp (t : Nat)
  | cell1 (a : Nat)
  | cellN (a n : Nat)
def compR1 (P : Program) : ResultVar → Option ARes
  | .tmp t => some (.tmp t)
  | .cell a t => match P.underlying t with
    | some d => match isAggD d with
      | true => match P.info? t with
        | some i => some (.cellN a i.size)
        | none => none
      | false => some (.cell1 a)
    | none => none
def compR (P : Program) : List ResultVar → Option (List ARes)
  | [] => some []
  | r :: l => match compR1 P r with
    | none => none
    | some x => match compR P l with
      | none => none
      | some xs => some (x :: xs)
def resV (A : Ar) (env : T AV) (σ : AH) : ARes → Bool × AV
  | .tmp t => (true, evS env (.slot t))
  | .cell1 a => match oLoad1 A (evS env (.slot a)) σ with
    | (ok, v, _) => (ok, v)
  | .cellN a n => match oLoadN A n (evS env (.slot a)) σ with
    | (ok, v, _) => (ok, v)
def resL (A : Ar) (env : T AV) (σ : AH) : List ARes → Bool × List AV
  | [] => (true, [])
  | r :: l => match resV A env σ r with
    | (ok, v) => match resL A env σ l with
      | (ok', vs) => (ok && ok', v :: vs)
def retV : List AV → AV
  | [x] => x
  | l => .tup l
def envOf : List AV → Nat → T AV → T AV
  | [], _, t => t
  | a :: l, i, t => envOf l (i + 1) (t.put i a)
def resF (tmps : Array Value) (r : ResultVar) : Sem Value := match r with
  | .tmp t => pure (tmps.getD t undef)
  | .cell a t => do loadVar t (← asAddr (tmps.getD a undef))
theorem results_eq (fn : Func) (tmps : Array Value) : results fn tmps = (do let vs ← fn.results.mapM (resF tmps); pure (if h : vs.size = 1 then vs[0] else .tuple vs)) := rfl
section
variable {P : Program} {W : World} {ρ : Ren} {σ : AH} {G nt : Nat}
theorem resV_run (hr : HR ρ σ W) {env : T AV} {a : Act} (he : ER G nt ρ env a) {r : ResultVar} {x : ARes} (hc : compR1 P r = some x) (hok : (resV std env σ x).1 = true) :
    ∃ v, (resF a.tmps r).run P W = .ok v W ∧ VR ρ (resV std env σ x).2 v := by
  cases r with
  | tmp t =>
    cases hc
    exact ⟨_, rfl, he.ev (.tmp t)⟩
  | cell b t =>
    have hv := he.ev (.tmp b)
    simp only [rfS, Act.eval] at hv
    simp only [compR1] at hc
    split at hc
    · rename_i d hu
      split at hc
      · rename_i hd
        split at hc
        · rename_i i hi
          cases hc
          simp only [resV] at hok ⊢
          have h := loadN_run (P := P) (W := W) (ax := evS env (.slot b)) hr hu hd hi hv
          generalize oLoadN std i.size (evS env (.slot b)) σ = out at h hok ⊢
          obtain ⟨ok, v, σ'⟩ := out
          obtain ⟨_, c, o, u, e1, e2, e3⟩ := h hok
          refine ⟨u, ?_, e3⟩
          simp only [resF, e1, asAddr, Sem.run_bind, Sem.run_pure, Result.andThen_ok, e2]
        · cases hc
      · rename_i hd
        cases hc
        simp only [resV] at hok ⊢
        have h := load1_run (P := P) (W := W) (ax := evS env (.slot b)) hr hu hd hv
        generalize oLoad1 std (evS env (.slot b)) σ = out at h hok ⊢
        obtain ⟨ok, v, σ'⟩ := out
        obtain ⟨_, c, o, u, e1, e2, e3⟩ := h hok
        refine ⟨u, ?_, e3⟩
        simp only [resF, e1, asAddr, Sem.run_bind, Sem.run_pure, Result.andThen_ok, e2]
    · cases hc
theorem resL_run (hr : HR ρ σ W) {env : T AV} {a : Act} (he : ER G nt ρ env a) : ∀ (rs : List ResultVar) (xs : List ARes), compR P rs = some xs → (resL std env σ xs).1 = true →
    ∃ vs, (rs.mapM (resF a.tmps)).run P W = .ok vs W ∧ VRs ρ (resL std env σ xs).2 vs
  | [], xs, hc, _ => by cases hc; exact ⟨[], rfl, rfl⟩
  | r :: rs, xs, hc, hok => by
    unfold compR at hc
    split at hc
    · cases hc
    · rename_i x hx
      split at hc
      · cases hc
      · rename_i xs' hxs
        cases hc
        unfold resL at hok ⊢
        have h1 := resV_run (P := P) hr he hx
        have h2 := resL_run hr he rs xs' hxs
        generalize resV std env σ x = o1 at hok h1 ⊢
        obtain ⟨k1, v1⟩ := o1
        generalize resL std env σ xs' = o2 at hok h2 ⊢
        obtain ⟨k2, v2⟩ := o2
        simp only [Bool.and_eq_true] at hok
        obtain ⟨v, e1, e2⟩ := h1 hok.1
        obtain ⟨vs, e3, e4⟩ := h2 hok.2
        refine ⟨v :: vs, ?_, v, vs, rfl, e2, e4⟩
        rw [List.mapM_cons, Sem.run_bind, e1, Result.andThen_ok, Sem.run_bind, e3]; rfl
theorem results_run (hr : HR ρ σ W) {env : T AV} {a : Act} (he : ER G nt ρ env a) {fn : Func} {xs : List ARes} (hc : compR P fn.results.toList = some xs) (hok : (resL std env σ xs).1 = true) :
    ∃ v, (results fn a.tmps).run P W = .ok v W ∧ VR ρ (retV (resL std env σ xs).2) v := by
  obtain ⟨vs, h1, h2⟩ := resL_run (P := P) hr he _ _ hc hok
  rw [results_eq, Array.mapM_eq_mapM_toList, Sem.run_bind, Sem.run_map, h1]
  simp only [Result.andThen_ok]
  generalize (resL std env σ xs).2 = l at h2
  match l, vs, h2 with
  | [], _, e => cases e; exact ⟨_, rfl, by show VR ρ (.tup []) _; unfold VR; exact ⟨[], rfl, rfl⟩⟩
  | [x], _, ⟨v, m, e1, e2, e3⟩ =>
    cases e3; cases e1
    exact ⟨v, rfl, e2⟩
  | x :: y :: l, vs, h2 =>
    have hl := h2.length
    refine ⟨.tuple vs.toArray, ?_, ?_⟩
    · rw [dif_neg (by simp at hl ⊢; omega)]; rfl
    · show VR ρ (.tup (x :: y :: l)) _
      unfold VR; exact ⟨vs, rfl, h2⟩
theorem envOf_get : ∀ (l : List AV) (i : Nat) (t : T AV) (m : Nat), i + l.length ≤ 1048576 → (envOf l i t).get m = if i ≤ m ∧ m < i + l.length then l[m - i]? else t.get m
  | [], i, t, m, _ => by rw [if_neg (by intro h; simp at h; omega)]; rfl
  | a :: l, i, t, m, h => by
    simp only [List.length_cons] at h
    show (envOf l (i + 1) (t.put i a)).get m = _
    rw [envOf_get l (i + 1) _ m (by omega), T.get_put _ _ _ _ (by omega)]
    by_cases h1 : i + 1 ≤ m ∧ m < i + 1 + l.length
    · rw [if_pos h1, if_pos (by simp; omega), show m - i = (m - (i + 1)) + 1 by omega, List.getElem?_cons_succ]
    · rw [if_neg h1]
      by_cases hm : m = i
      · subst hm; rw [if_pos rfl, if_pos (by simp)]; simp
      · rw [if_neg hm, if_neg (by simp; omega)]
theorem leaves_marks {N : Nat} {ρ0 : Ren} {σ0 : AH} {W0 : World} {fn : Func} {tmps : Array Value} {R : Ending → World → Prop} (hR : ∀ W', HR ρ σ W' → Stp N ρ0 σ0 W0 ρ σ W' → ∃ v, (results fn tmps).run P W' = .ok v W' ∧ R (.returned v) W') : ∀ (ds : List Deferred) (W : World), Mks ρ W ds → (∀ r, dmark r ∈ ds → W0.heap.size ≤ r) → HR ρ σ W → Stp N ρ0 σ0 W0 ρ σ W → LeavesInM Fence.wide 0 P fn tmps R ds .returning W
  | [], W, _, _, h1, h2 => hR W h1 h2
  | _ :: ds, W, ⟨r, e, k1, k2, k3, k4⟩, hb, h1, h2 => by
    subst e
    refine ⟨(fun h => by cases h), .inl ⟨r, setB W r (.deferred none), rfl, ?_, leaves_marks hR ds _ (k4.setB k3) (fun r' hr => hb r' (List.mem_cons_of_mem _ hr)) (h1.setB k2) (h2.setB (hb r List.mem_cons_self))⟩⟩
    simp [Instr.takeDeferred, getObj, Sem.run_bind, Sem.run, k1, setB_deferred k1]
theorem call_sound {Γ : Gam} {pu : FuncId → Bool} {Y : List Yl} (hm : P.follows .mixedOrders = true) (hΓ : GamOk P G Γ Y) (hpu : PuOk Γ pu) {f : FuncId} {fn : Func} {c : Code} {c' : ACode} {xs : List ARes} (hf : P.funcs[f]? = some fn) (hb : fn.body = some c)
    (hc : compC P G fn.ntmps pu c = some c') (hres : compR P fn.results.toList = some xs) (hnt : Nat.ble fn.ntmps 1048576 = true) {args : List AV} (hargs : Nat.ble args.length fn.ntmps = true) {K : AV → AH → Prop}
    (h : avc std Γ G fn.ntmps σ.next c' (fun e env σ' => (match e with | .normal => True | .ret => True | _ => False) ∧ (resL std env σ' xs).1 = true ∧ K (retV (resL std env σ' xs).2) σ') (envOf args 0 .leaf) σ)
    {vs : List Value} (hY : YInv Y ρ σ W) (hG : ∀ g, g < G → ∃ s, ρ g = some (g, (0, s))) (hr : HR ρ σ W) (hvs : VRs ρ args vs) :
    Calls P f vs.toArray W fun e W' => ∃ v av σ' ρ', e = .returned v ∧ K av σ' ∧ HR ρ' σ' W' ∧ Stp σ.next ρ σ W ρ' σ' W' ∧ VR ρ' av v := by
  rw [Nat.ble_eq] at hnt hargs
  have hl := hvs.length
  refine callsIn_wide.1 (callsIn_of_wp_marks (n := 0) hf hb trivial (wpIn_mono (F := fen none) (avc_sound hm c c' hc ⟨hΓ, hpu, fun h => absurd rfl h⟩ ⟨Nat.le_refl _, hY, fun y hy => (hY y hy).lt, hr⟩ _ _ _ ρ W _ h hr ⟨hnt, ?_, hG, fun t v ht => ?_⟩ (Stp.refl (Nat.le_refl _)) ⟨trivial, fun r hr => by cases hr⟩) fun e a W' ⟨ρ', env', σ', ⟨h1, h2, h3⟩, h4, h5, h6, h7, h8⟩ => ?_))
  · simp; omega
  · rw [envOf_get _ _ _ _ (by omega)] at ht
    simp only [Nat.zero_le, true_and, Nat.zero_add, Nat.sub_zero, T.get_leaf] at ht
    split at ht
    · rename_i hlt
      obtain ⟨u, hu, hr'⟩ := hvs.at t v ht
      have : (vs.toArray ++ Array.replicate (fn.ntmps - vs.toArray.size) undef).getD t undef = u := by
        rw [Array.getD_eq_getD_getElem?, Array.getElem?_append_left (by simp; omega)]
        simp [hu]
      rw [this]; exact hr'
    · cases ht
  · have key := leaves_marks (P := P) (R := fun e W' => ∃ v av σ' ρ', e = .returned v ∧ K av σ' ∧ HR ρ' σ' W' ∧ Stp σ.next ρ σ W ρ' σ' W' ∧ VR ρ' av v) (fn := fn) (tmps := a.tmps) (fun W2 k1 k2 => by
      obtain ⟨v, e1, e2⟩ := results_run (P := P) k1 h5 hres h2
      exact ⟨v, e1, v, _, σ', ρ', rfl, h3, k1, k2, e2⟩) a.defers W' h7 h8 h4 h6
    cases e
    case normal => exact key
    case ret => exact key
    all_goals exact h1.elim
end
end
end Go.Proofs.YtlgbdgpgdimpdaaGreatDoor.V2
namespace Go.Proofs.YtlgbdgpgdimpdaaGreatDoor.V2
open Go
noncomputable section
def ofL : List (Nat × AV) → T AV
  | [] => .leaf
  | p :: l => (ofL l).put p.1 p.2
theorem ofL_get : ∀ (l : List (Nat × AV)) (t : Nat) (v : AV), (∀ p ∈ l, Nat.blt p.1 1048576 = true) → (ofL l).get t = some v → (t, v) ∈ l
  | [], t, v, _, h => by cases h
  | p :: l, t, v, hs, h => by
    have hp := hs p List.mem_cons_self
    rw [Nat.blt_eq] at hp
    simp only [ofL, T.get_put _ _ _ _ hp] at h
    by_cases ht : t = p.1
    · rw [if_pos ht] at h; cases h; rw [ht]; exact List.mem_cons_self
    · rw [if_neg ht] at h; exact List.mem_cons_of_mem _ (ofL_get l t v (fun q hq => hs q (List.mem_cons_of_mem _ hq)) h)
def Has (env : T AV) : List (Nat × AV) → Prop
  | [] => True
  | p :: l => (env.get p.1 = some p.2 ∧ Nat.blt p.1 1048576 = true) ∧ Has env l
theorem Has.mem {env : T AV} : ∀ {l : List (Nat × AV)}, Has env l → ∀ p ∈ l, env.get p.1 = some p.2 ∧ Nat.blt p.1 1048576 = true
  | [], _, p, hp => by cases hp
  | q :: l, h, p, hp => by
    rcases List.mem_cons.1 hp with rfl | hp
    · exact h.1
    · exact Has.mem h.2 p hp
section
variable {A : Ar} {Γ : Gam} {G nt N : Nat} {K : AK} {env : T AV} {σ : AH}
end
end
end Go.Proofs.YtlgbdgpgdimpdaaGreatDoor.V2
namespace Go.Proofs.YtlgbdgpgdimpdaaGreatDoor.V2
open Go
noncomputable section
structure Ent where
  nt : Nat
  code : ACode
  res : List ARes
def isRet : AX → Bool
  | .exit _ => false
  | _ => true
def runF (A : Ar) (Γ : Gam) (fuel : Nat) (x : Ent) (args : List AV) (σ : AH) : Out :=
  match run A Γ σ.next fuel x.code (envOf args 0 .leaf) σ with
  | .bad => bad σ
  | .ok e env σ' => match resL A env σ' x.res with
    | (ok, vs) => (ok && isRet e && Nat.ble args.length x.nt, retV vs, σ')
def Gam.ext (Γ0 : Gam) (l : Nat) (h : List AV → AH → Out) : Gam := .mk Γ0.fn (fun b args σ => bif Nat.beq b l then h args σ else Γ0.yl b args σ) (fun _ _ => .no) fun _ _ _ => none
structure Sp where
  is : FuncId → Bool
  fn : Gam → FuncId → List AV → AH → Out
  dm : Gam → FuncId → List AV → AH → Option (List (AV × AH))
def Gam.grow (A : Ar) (fuel : Nat) (tab : T Ent) (S : Sp) (Γ0 : Gam) (n : Nat) : Gam :=
  Nat.rec (motive := fun _ => Gam → Gam) (fun Γ0 => Γ0) (fun _ ih Γ0 => .mk (fun f args σ => match tab.get f with
    | none => bif S.is f then S.fn (ih Γ0) f args σ else Γ0.fn f args σ
    | some x => runF A (ih Γ0) fuel x args σ) Γ0.yl (fun l h => ih (Γ0.ext l h)) fun f args σ => S.dm (ih Γ0) f args σ) n Γ0
structure Sp.Ok (P : Program) (G : Nat) (pu : FuncId → Bool) (S : Sp) : Prop where
  fn : ∀ Γ Y, GamOk P G Γ Y → PuOk Γ pu → FnOk P G (S.fn Γ) Y
  dm : ∀ Γ Y, GamOk P G Γ Y → PuOk Γ pu → DmOk P G (S.dm Γ) Y
  pu : ∀ f, pu f = true → S.is f = false
def Sp.none : Sp := ⟨fun _ => false, fun _ _ _ σ => bad σ, fun _ _ _ _ => .none⟩
theorem Sp.none_ok {P : Program} {G : Nat} {pu : FuncId → Bool} : Sp.none.Ok P G pu := ⟨fun _ _ _ _ => (fun f args σ h => by cases h), fun _ _ _ _ => DmOk.none_, fun _ _ => rfl⟩
def TabOk (P : Program) (G : Nat) (pu : FuncId → Bool) (tab : T Ent) : Prop := ∀ f x, tab.get f = some x → ∃ fn c, P.funcs[f]? = some fn ∧ fn.body = some c ∧ (fn.name == "runtime.NumGoroutine") = false ∧ fn.ntmps = x.nt ∧ compC P G fn.ntmps pu c = some x.code ∧ compR P fn.results.toList = some x.res ∧ Nat.ble fn.ntmps 1048576 = true
theorem FnOk.weak {P : Program} {G : Nat} {f : FuncId → List AV → AH → Out} {Y : List Yl} {z : Yl} (h : FnOk P G f Y) : FnOk P G f (z :: Y) := fun g args σ hok =>
  ⟨(h g args σ hok).1, fun ρ W vs hY => (h g args σ hok).2 ρ W vs fun y hy => hY y (List.mem_cons_of_mem _ hy)⟩
theorem YlOk.weak {P : Program} {G l : Nat} {h : List AV → AH → Out} {Y : List Yl} {z : Yl} (hk : YlOk P G l h Y) : YlOk P G l h (z :: Y) := fun args σ hok ρ W vs c d hY => hk args σ hok ρ W vs c d fun y hy => hY y (List.mem_cons_of_mem _ hy)
theorem GamOk.ext {P : Program} {G : Nat} {Γ0 : Gam} {Y : List Yl} {z : Yl} {h : List AV → AH → Out} (h0 : GamOk P G Γ0 Y) (hk : YlOk P G z.l h (z :: Y)) : GamOk P G (Γ0.ext z.l h) (z :: Y) := by
  refine .mk h0.fn.weak (fun l => ?_) (fun _ _ _ => .no) .none_
  cases hb : Nat.beq l z.l with
  | true =>
    have hl := Nat.eq_of_beq_eq_true hb
    have e : (fun args σ => bif Nat.beq l z.l then h args σ else Γ0.yl l args σ) = h := by rw [hb]; rfl
    rw [← hb, e, hl]; exact hk
  | false =>
    have e : (fun args σ => bif Nat.beq l z.l then h args σ else Γ0.yl l args σ) = Γ0.yl l := by rw [hb]; rfl
    rw [← hb, e]; exact (h0.yl l).weak
theorem grow_ok {P : Program} {G fuel : Nat} {pu : FuncId → Bool} {tab : T Ent} {S : Sp} (hm : P.follows .mixedOrders = true) (ht : TabOk P G pu tab) (hS : S.Ok P G pu) (hpt : ∀ f, pu f = true → tab.get f = none) (n : Nat) :
    ∀ {Γ0 : Gam} {Y : List Yl}, GamOk P G Γ0 Y → PuOk Γ0 pu → GamOk P G (Gam.grow std fuel tab S Γ0 n) Y ∧ PuOk (Gam.grow std fuel tab S Γ0 n) pu := by
  induction n with
  | zero => intro Γ0 Y h0 hpu; exact ⟨h0, hpu⟩
  | succ n ih =>
    intro Γ0 Y h0 hpu
    refine ⟨.mk ?_ h0.yl (fun z h hk => (ih (h0.ext hk) hpu).1) (hS.dm _ _ (ih h0 hpu).1 (ih h0 hpu).2), fun f hf args σ σ' => ?_⟩
    · intro f args σ hok
      have ih := ih h0 hpu
      have ih1 : GamOk P G (Gam.grow std fuel tab S Γ0 n) Y := ih.1
      have ih2 : PuOk (Gam.grow std fuel tab S Γ0 n) pu := ih.2
      change ((match tab.get f with | none => bif S.is f then S.fn (Gam.grow std fuel tab S Γ0 n) f args σ else Γ0.fn f args σ | some x => runF std (Gam.grow std fuel tab S Γ0 n) fuel x args σ) : Out).1 = true at hok
      show _ ∧ ∀ ρ W vs, YInv Y ρ σ W → _ → HR ρ σ W → VRs ρ args vs → Calls P f vs.toArray W fun e W' => ∃ v ρ', e = .returned v ∧ HR ρ' ((match tab.get f with | none => bif S.is f then S.fn (Gam.grow std fuel tab S Γ0 n) f args σ else Γ0.fn f args σ | some x => runF std (Gam.grow std fuel tab S Γ0 n) fuel x args σ) : Out).2.2 W' ∧ Stp σ.next ρ σ W ρ' ((match tab.get f with | none => bif S.is f then S.fn (Gam.grow std fuel tab S Γ0 n) f args σ else Γ0.fn f args σ | some x => runF std (Gam.grow std fuel tab S Γ0 n) fuel x args σ) : Out).2.2 W' ∧ VR ρ' ((match tab.get f with | none => bif S.is f then S.fn (Gam.grow std fuel tab S Γ0 n) f args σ else Γ0.fn f args σ | some x => runF std (Gam.grow std fuel tab S Γ0 n) fuel x args σ) : Out).2.1 v
      cases hx : tab.get f with
      | none =>
        rw [hx] at hok
        dsimp only at hok ⊢
        cases hs : S.is f with
        | false => rw [hs] at hok; exact h0.fn f args σ hok
        | true => rw [hs] at hok; exact hS.fn _ _ ih1 ih2 f args σ hok
      | some x =>
        rw [hx] at hok
        dsimp only at hok ⊢
        obtain ⟨fn, c, e1, e2, e3, e4, e5, e6, e7⟩ := ht f x hx
        refine ⟨⟨fn, e1, by rw [e2]; rfl, e3⟩, fun ρ W vs hY hG hr hvs => ?_⟩
        unfold runF at hok ⊢
        cases hrun : run std (Gam.grow std fuel tab S Γ0 n) σ.next fuel x.code (envOf args 0 .leaf) σ with
        | bad => rw [hrun] at hok; cases hok
        | ok ex env σ' =>
          rw [hrun] at hok
          dsimp only at hok ⊢
          cases hres : resL std env σ' x.res with
          | mk ok vs' =>
            rw [hres] at hok
            dsimp only at hok ⊢
            simp only [Bool.and_eq_true] at hok
            obtain ⟨⟨k1, k2⟩, k3⟩ := hok
            refine (call_sound (K := fun av σ1 => av = retV vs' ∧ σ1 = σ') hm ih1 ih2 e1 e2 e5 e6 e7 (by rw [e4]; exact k3) (run_avc x.code _ _ _ _ _ _ hrun ⟨?_, by rw [hres]; exact k1, by rw [hres], rfl⟩) hY hG hr hvs).mono ?_
            · cases ex with
              | normal => trivial
              | ret => trivial
              | exit i => cases k2
            · rintro e' W' ⟨v, av, σ1, ρ', h1, ⟨rfl, rfl⟩, h3, h4, h5⟩
              exact ⟨v, ρ', h1, h3, h4, h5⟩
    · have e : ∀ σ, (Gam.grow std fuel tab S Γ0 (n + 1)) f args σ = (match tab.get f with | none => bif S.is f then S.fn (Gam.grow std fuel tab S Γ0 n) f args σ else Γ0.fn f args σ | some x => runF std (Gam.grow std fuel tab S Γ0 n) fuel x args σ) := fun _ => rfl
      rw [e, e, hpt f hf, hS.pu f hf]
      exact hpu f hf args σ σ'
end
end Go.Proofs.YtlgbdgpgdimpdaaGreatDoor.V2
namespace Go.Proofs.YtlgbdgpgdimpdaaGreatDoor
open Go
def N32 (x : UInt32) : Int := (x.toNat : Int)
def N8 (x : UInt8) : Int := (x.toNat : Int)
theorem N8_bd (x : UInt8) : 0 ≤ N8 x ∧ N8 x ≤ 255 := by have := x.toNat_lt; unfold N8; omega
theorem wrap_u32 (n : Nat) : IntKind.u32.wrap (n : Int) = ((n % 4294967296 : Nat) : Int) := by
  simp [IntKind.wrap, IntKind.bits, IntKind.signed]
theorem wrap_u8 (n : Nat) : IntKind.u8.wrap (n : Int) = ((n % 256 : Nat) : Int) := by
  simp [IntKind.wrap, IntKind.bits, IntKind.signed]
theorem wrap_u64 (n : Nat) : IntKind.u64.wrap (n : Int) = ((n % 18446744073709551616 : Nat) : Int) := by
  simp [IntKind.wrap, IntKind.bits, IntKind.signed]
theorem u32_add (x y : UInt32) : IntKind.u32.wrap (N32 x + N32 y) = N32 (x + y) := by
  unfold N32; rw [← Int.natCast_add, wrap_u32, UInt32.toNat_add]
theorem u32_id (x : UInt32) : IntKind.u32.wrap (N32 x) = N32 x := by
  unfold N32; rw [wrap_u32, Nat.mod_eq_of_lt x.toNat_lt]
theorem u8_id (x : UInt8) : IntKind.u8.wrap (N8 x) = N8 x := by
  unfold N8; rw [wrap_u8, Nat.mod_eq_of_lt x.toNat_lt]
theorem bv32 (x : UInt32) : BitVec.ofNat 32 x.toNat = x.toBitVec := by rw [← UInt32.toNat_toBitVec, BitVec.ofNat_toNat, BitVec.setWidth_eq]
theorem bv8 (x : UInt8) : BitVec.ofNat 8 x.toNat = x.toBitVec := by rw [← UInt8.toNat_toBitVec, BitVec.ofNat_toNat, BitVec.setWidth_eq]
theorem u32_bits_xor (x y : UInt32) : bits .xor .u32 (N32 x) (N32 y) = N32 (x ^^^ y) := by
  have e : bits .xor .u32 (N32 x) (N32 y) = IntKind.u32.wrap (N32 (x ^^^ y)) := by
    unfold bits N32
    simp only [IntKind.bits, BitVec.ofInt_natCast, bv32]
    rfl
  rw [e, u32_id]
theorem u32_bits_and (x y : UInt32) : bits .and .u32 (N32 x) (N32 y) = N32 (x &&& y) := by
  have e : bits .and .u32 (N32 x) (N32 y) = IntKind.u32.wrap (N32 (x &&& y)) := by
    unfold bits N32
    simp only [IntKind.bits, BitVec.ofInt_natCast, bv32]
    rfl
  rw [e, u32_id]
theorem u32_bits_or (x y : UInt32) : bits .or .u32 (N32 x) (N32 y) = N32 (x ||| y) := by
  have e : bits .or .u32 (N32 x) (N32 y) = IntKind.u32.wrap (N32 (x ||| y)) := by
    unfold bits N32
    simp only [IntKind.bits, BitVec.ofInt_natCast, bv32]
    rfl
  rw [e, u32_id]
theorem u32_bits_not (x : UInt32) : bits .xor .u32 4294967295 (N32 x) = N32 (~~~ x) := by
  have h : (4294967295 : Int) = N32 (4294967295 : UInt32) := rfl
  rw [h, u32_bits_xor]
  have : (4294967295 : UInt32) ^^^ x = ~~~ x := by
    apply UInt32.toBitVec_inj.1
    simp [← BitVec.allOnes_xor]
  rw [this]
theorem u32_bits_not2 (x : UInt32) : bits .xor .u32 IntKind.u32.max (N32 x) = N32 (~~~ x) := u32_bits_not x
theorem u8_bits_xor (x y : UInt8) : bits .xor .u8 (N8 x) (N8 y) = N8 (x ^^^ y) := by
  have e : bits .xor .u8 (N8 x) (N8 y) = IntKind.u8.wrap (N8 (x ^^^ y)) := by
    unfold bits N8
    simp only [IntKind.bits, BitVec.ofInt_natCast, bv8]
    rfl
  rw [e, u8_id]
def ror (n : UInt32) (x : Nat) : UInt32 := UInt32.ofNat (n.toNat * 2 ^ (32 - x)) ||| UInt32.ofNat (n.toNat / 2 ^ x)
def sror (n : UInt32) (x : Nat) : UInt32 := UInt32.ofNat (n.toNat / 2 ^ x)
theorem sror_eq (n : UInt32) (x : Nat) : N32 n / 2 ^ x = N32 (sror n x) := by
  unfold sror N32
  rw [UInt32.toNat_ofNat']
  have : n.toNat / 2 ^ x < 4294967296 := Nat.lt_of_le_of_lt (Nat.div_le_self _ _) n.toNat_lt
  rw [show (2:Nat) ^ 32 = 4294967296 from rfl, Nat.mod_eq_of_lt this]; simp
theorem ror_eq (n : UInt32) (x : Nat) : bits .or .u32 (N32 n * 2 ^ (32 - x) % 4294967296) (N32 n / 2 ^ x) = N32 (ror n x) := by
  have h1 : N32 n * 2 ^ (32 - x) % 4294967296 = N32 (UInt32.ofNat (n.toNat * 2 ^ (32 - x))) := by
    unfold N32
    rw [UInt32.toNat_ofNat']
    have : ((n.toNat : Int) * 2 ^ (32 - x)) = ((n.toNat * 2 ^ (32 - x) : Nat) : Int) := by simp
    rw [this]; omega
  rw [h1, sror_eq, u32_bits_or]; rfl
theorem ret_int {k : IntKind} {a b : Int} (h : a = b) : Ending.returned (.int k a) = .returned (.int k b) := by rw [h]
def turnW (n : UInt32) (x y z : Nat) : UInt32 := ror n x ^^^ ror n y ^^^ ror n z
def slideW (n : UInt32) (x y z : Nat) : UInt32 := ror n x ^^^ ror n y ^^^ sror n z
end Go.Proofs.YtlgbdgpgdimpdaaGreatDoor
namespace Go.Proofs.YtlgbdgpgdimpdaaGreatDoor
open Go.RowKit
theorem and31 (x : Nat) (h0 : 0 < x) (h1 : x < 32) : bits .and .u64 (IntKind.u64.wrap (-(x : Int))) 31 = (32 : Int) - (x : Int) := by
  have : ∀ y : Fin 32, 0 < y.val → bits .and .u64 (IntKind.u64.wrap (-(y.val : Int))) 31 = (32 : Int) - (y.val : Int) := by decide +kernel
  exact this ⟨x, h1⟩ h0
theorem sub32 (x : Nat) (h1 : x < 32) : IntKind.u64.wrap ((32 : Int) - ((32 : Int) - (x : Int))) = (x : Int) := by
  have : (32 : Int) - ((32 : Int) - (x : Int)) = (x : Int) := by omega
  rw [this, wrap_u64]; omega
set_option maxHeartbeats 400000 in
theorem rot_any (n : UInt32) (x : Nat) (w : World) (h0 : 0 < x) (h1 : x < 32) :
    Calls Tryz.prog 224 #[.int .u32 (N32 n), .int .i64 (-(x : Int))] w fun e w' => e = .returned (.int .u32 (N32 (ror n x))) ∧ w = w' := by
  have h31 := and31 x h0 h1
  have h32 := sub32 x h1
  have HR := Lib.hid (ror_eq n x)
  go_enter Tryz.func224, Tryz.ntmps224
  go_wp2
  go_ret
  exact ⟨ret_int HR.out, rfl⟩
theorem q_two {P : Program} {f : FuncId} {args : Array Value} {w : World} {k n : Nat} {v : Value}
    (h : Calls P f args (w.drewN (k + n)) fun e w' => e = .returned v ∧ w.drewN (k + n) = w') : Calls P f args (w.drewN (k + n)) fun e w'' => e = .returned v ∧ ∃ m, w'' = w.drewN (k + m) :=
  h.mono fun _ _ x => ⟨x.1, n, x.2.symm⟩
attribute [local go_sem] u32_bits_xor u32_bits_and u32_bits_or
set_option maxHeartbeats 400000 in
theorem turn_any (n : UInt32) (x y z : Nat) (w : World) (h0 : 0 < x) (h1 : x < 32) (h2 : 0 < y) (h3 : y < 32) (h4 : 0 < z) (h5 : z < 32) :
    Calls Tryz.prog 215 #[.int .u32 (N32 n), .int .i64 x, .int .i64 y, .int .i64 z] w fun e w' => e = .returned (.int .u32 (N32 (turnW n x y z))) ∧ w = w' := by
  go_enter Tryz.func215, Tryz.ntmps215
  go_wp2_with (go_at_call 224; refine (rot_any _ _ _ (by omega) (by omega)).mono ?_; rintro e w' ⟨rfl, rfl⟩)
  go_ret
  exact ⟨rfl, rfl⟩
set_option maxHeartbeats 400000 in
theorem slide_any (n : UInt32) (x y z : Nat) (w : World) (h0 : 0 < x) (h1 : x < 32) (h2 : 0 < y) (h3 : y < 32) (h4 : 0 < z) (h5 : z < 32) :
    Calls Tryz.prog 223 #[.int .u32 (N32 n), .int .i64 x, .int .i64 y, .int .i64 z] w fun e w' => e = .returned (.int .u32 (N32 (slideW n x y z))) ∧ ∃ k, w' = w.drewN k := by
  have hs := sror_eq n z
  have hm : min z 32 = z := by omega
  go_enter Tryz.func223, Tryz.ntmps223
  go_wp2
  go_quiet ((go_at_call 224; exact Calls.quiet_of_same ((rot_any _ _ _ (by omega) (by omega)).mono fun _ _ h => ⟨h.1, h.2.symm⟩)))
  go_wp2
  go_ret
  exact ⟨rfl, _, rfl⟩
end Go.Proofs.YtlgbdgpgdimpdaaGreatDoor
namespace Go.Proofs.YtlgbdgpgdimpdaaGreatDoor
open Go
def at8 (l : List UInt8) (i : Nat) : UInt8 := l.getD i 0
def at32 (l : List UInt32) (i : Nat) : UInt32 := l.getD i 0
theorem at32_set_self {l : List UInt32} {i : Nat} {x : UInt32} (h : i < l.length) : at32 (l.set i x) i = x := by
  unfold at32; rw [List.getD_eq_getElem?_getD, List.getElem?_set_self h]; rfl
theorem at32_set_ne {l : List UInt32} {i j : Nat} {x : UInt32} (h : i ≠ j) : at32 (l.set i x) j = at32 l j := by
  unfold at32; rw [List.getD_eq_getElem?_getD, List.getElem?_set_ne h, List.getD_eq_getElem?_getD]
def cwl (l : List UInt32) : List Value := l.map fun x => Value.int .u32 (N32 x)
def cw (l : List UInt32) : Array Value := (cwl l).toArray
theorem cw_size (l : List UInt32) : (cw l).size = l.length := by simp [cw, cwl]
theorem cw_at (l : List UInt32) (i : Nat) (h : i < l.length) : (cw l)[i]? = some (.int .u32 (N32 (at32 l i))) := by
  simp [cw, cwl, h, at32]
theorem cw_set (l : List UInt32) (i : Nat) (x : UInt32) : (cw l).setIfInBounds i (.int .u32 (N32 x)) = cw (l.set i x) := by
  apply Array.ext'
  simp [cw, cwl, List.map_set]
theorem cw_one (l : List UInt32) : (cw l).all (·.oneCell') = true := by
  rw [Array.all_eq_true_iff_forall_mem]
  intro v hv
  simp only [cw, cwl, List.mem_toArray, List.mem_map] at hv
  obtain ⟨x, _, rfl⟩ := hv
  rfl
def putB (x : UInt32) (c : UInt8) : UInt32 := UInt32.ofNat (x.toNat * 256) ||| UInt32.ofNat c.toNat
theorem putB_eq (x : UInt32) (c : UInt8) : bits .or .u32 (N32 x * 256 % 4294967296) (N8 c) = N32 (putB x c) := by
  have h1 : N32 x * 256 % 4294967296 = N32 (UInt32.ofNat (x.toNat * 256)) := by
    unfold N32; rw [UInt32.toNat_ofNat']; omega
  have h2 : N8 c = N32 (UInt32.ofNat c.toNat) := by
    unfold N32 N8; rw [UInt32.toNat_ofNat']
    have := c.toNat_lt
    rw [Nat.mod_eq_of_lt (by omega)]
  rw [h1, h2, u32_bits_or]; rfl
def wordTo (bs : List UInt8) (t : Nat) : Nat → UInt32
  | 0 => 0
  | j + 1 => putB (wordTo bs t j) (at8 bs (4 * t + j))
def nextW (l : List UInt32) (t : Nat) : UInt32 :=
  at32 l (t - 16) + at32 l (t - 7) + slideW (at32 l (t - 15)) 7 18 3 + slideW (at32 l (t - 2)) 17 19 10
def schedTo (bs : List UInt8) : Nat → List UInt32
  | 0 => List.replicate 64 0
  | t + 1 => (schedTo bs t).set t (if t < 16 then wordTo bs t 4 else nextW (schedTo bs t) t)
theorem schedTo_length (bs : List UInt8) (t : Nat) : (schedTo bs t).length = 64 := by
  induction t with
  | zero => simp [schedTo]
  | succ t ih => simp [schedTo, ih]
theorem schedTo_zero_at (bs : List UInt8) (t i : Nat) (h : t ≤ i) : at32 (schedTo bs t) i = 0 := by
  induction t with
  | zero =>
    simp only [schedTo, at32]
    rw [List.getD_eq_getElem?_getD, List.getElem?_replicate]; split <;> rfl
  | succ t ih =>
    have := ih (by omega)
    simp only [schedTo]
    rw [at32_set_ne (by omega)]; exact this
def KK : List UInt32 := [1116352408, 1899447441, 3049323471, 3921009573, 961987163, 1508970993, 2453635748, 2870763221, 3624381080, 310598401, 607225278, 1426881987, 1925078388, 2162078206, 2614888103, 3248222580, 3835390401, 4022224774, 264347078, 604807628, 770255983, 1249150122, 1555081692, 1996064986, 2554220882, 2821834349, 2952996808, 3210313671, 3336571891, 3584528711, 113926993, 338241895, 666307205, 773529912, 1294757372, 1396182291, 1695183700, 1986661051, 2177026350, 2456956037, 2730485921, 2820302411, 3259730800, 3345764771, 3516065817, 3600352804, 4094571909, 275423344, 430227734, 506948616, 659060556, 883997877, 958139571, 1322822218, 1537002063, 1747873779, 1955562222, 2024104815, 2227730452, 2361852424, 2428436474, 2756734187, 3204031479, 3329325298]
def S0 : List UInt32 := [1779033703, 3144134277, 1013904242, 2773480762, 1359893119, 2600822924, 528734635, 1541459225]
def oneW (x : List UInt32) (k v : UInt32) : UInt32 := at32 x 7 + turnW (at32 x 4) 6 11 25 + (at32 x 4 &&& at32 x 5 ^^^ ~~~ at32 x 4 &&& at32 x 6) + k + v
def twoW (x : List UInt32) : UInt32 := turnW (at32 x 0) 2 13 22 + (at32 x 0 &&& at32 x 1 ^^^ at32 x 0 &&& at32 x 2 ^^^ at32 x 1 &&& at32 x 2)
def rndW (x : List UInt32) (k v : UInt32) : List UInt32 :=
  [oneW x k v + twoW x, at32 x 0, at32 x 1, at32 x 2, at32 x 3 + oneW x k v, at32 x 4, at32 x 5, at32 x 6]
def rndTo (s W : List UInt32) : Nat → List UInt32
  | 0 => s
  | t + 1 => rndW (rndTo s W t) (at32 KK t) (at32 W t)
def sumTo (s x : List UInt32) : Nat → List UInt32
  | 0 => s
  | k + 1 => (sumTo s x k).set k (at32 (sumTo s x k) k + at32 x k)
def compW (s : List UInt32) (bs : List UInt8) : List UInt32 := sumTo s (rndTo s (schedTo bs 64) 64) 8
theorem rndTo_length (s W : List UInt32) (t : Nat) (h : s.length = 8) : (rndTo s W t).length = 8 := by
  cases t with
  | zero => exact h
  | succ t => rfl
theorem sumTo_length (s x : List UInt32) (k : Nat) : (sumTo s x k).length = s.length := by
  induction k with
  | zero => rfl
  | succ k ih => simp [sumTo, ih]
theorem compW_length (s : List UInt32) (bs : List UInt8) : (compW s bs).length = s.length := sumTo_length _ _ _
structure But (b : Nat) (w w' : World) : Prop where
  os : w'.os = w.os
  tape : w'.tape = w.tape
  output : w'.output = w.output
  size : w.heap.size ≤ w'.heap.size
  block : ∀ k, k < w.heap.size → k ≠ b → w'.heap[k]? = w.heap[k]?
theorem But.of_below {b : Nat} {w w' : World} (h : RowKit.Below w.heap.size w w') : But b w w' := ⟨h.os, h.tape, h.output, h.size, fun k hk _ => h.block k hk⟩
theorem But.setCell {b i : Nat} {w w' : World} (h : But b w w') (v : Value) : But b w (w'.setCell ⟨b, i, none⟩ v) :=
  ⟨h.os, h.tape, h.output, by simpa [World.setCell] using h.size, fun k hk hb => (heap_setCell_other _ _ _ _ (by simpa using hb)).trans (h.block k hk hb)⟩
theorem But.drewN {b n : Nat} {w w' : World} (h : But b w w') : But b w (w'.drewN n) := ⟨h.os, h.tape, h.output, h.size, h.block⟩
/-! A block of words in the world. -/
theorem row_new (w : World) (C : Array Value) (T : Nat) : (w.alloc (.cells C T)).heap[w.heap.size]? = some (.cells C T (0, 0)) := by
  unfold World.alloc; simp
theorem set_self {l : List UInt32} {t : Nat} (h : t < l.length) : l.set t (at32 l t) = l := by
  unfold at32; rw [List.getD_eq_getElem?_getD, List.getElem?_eq_getElem h]; simp
theorem sch_start (bs : List UInt8) (t : Nat) (h : t < 64) : (schedTo bs t).set t (wordTo bs t 0) = schedTo bs t := by
  have := schedTo_zero_at bs t t (Nat.le_refl _)
  show (schedTo bs t).set t 0 = _
  rw [← this]; exact set_self (by rw [schedTo_length]; exact h)
theorem row_cell {w : World} {B T : Nat} {l : List UInt32} (h : w.heap[B]? = some (.cells (cw l) T (0, 0))) (i : Nat) (hi : i < l.length) :
    w.cell? ⟨B, i, none⟩ = some (.int .u32 (N32 (at32 l i))) := by
  unfold World.cell?; rw [h]; simp only [Option.isSome_none, Bool.false_eq_true, if_false]; exact cw_at l i hi
theorem off_ne {B i j : Nat} (h : i ≠ j) (W : World) (v : Value) : (W.setCell ⟨B, i, none⟩ v).cell? ⟨B, j, none⟩ = W.cell? ⟨B, j, none⟩ := by
  unfold World.cell? World.setCell
  simp only [Array.getElem?_modify, if_true]
  cases h2 : W.heap[B]? with
  | none => rfl
  | some o => cases o <;> simp [h]
theorem below_setRow {B : Nat} {a w : World} (h : RowKit.Below B a w) {g : Nat} (hg : B ≤ g) (cs : Array Value) : RowKit.Below B a (w.setRow g cs) :=
  h.trans ⟨rfl, rfl, rfl, by simp, fun k hk => setRow_other _ _ _ _ (by omega)⟩
theorem row_free {w : World} {B T : Nat} {C : Array Value} (h : w.heap[B]? = some (.cells C T (0, 0))) (i : Nat) : w.frozen? ⟨B, i, none⟩ = false := by
  unfold World.frozen?; rw [h]; simp
theorem row_set {w : World} {B T : Nat} {l : List UInt32} (h : w.heap[B]? = some (.cells (cw l) T (0, 0))) (i : Nat) (x : UInt32) :
    (w.setCell ⟨B, i, none⟩ (.int .u32 (N32 x))).heap[B]? = some (.cells (cw (l.set i x)) T (0, 0)) := by
  unfold World.setCell; simp only [Array.getElem?_modify, h, if_true, Option.map_some, Option.isSome_none, Bool.false_eq_true, if_false, cw_set]
end Go.Proofs.YtlgbdgpgdimpdaaGreatDoor
namespace Go.Proofs.YtlgbdgpgdimpdaaGreatDoor
open Go.RowKit
attribute [local go_sem] u32_bits_xor u32_bits_and u32_bits_or u32_add putB_eq
theorem info119 : (Tryz.prog.info? 327).map (·.size) = some 64 := by kernel_rfl
def SchR (bs : List UInt8) (w : World) (i : Value) (wr : World) : Prop :=
  ∃ t : Nat, t ≤ 64 ∧ i = .int .i64 t ∧ wr.heap[w.heap.size]? = some (.cells (cw (schedTo bs t)) 327 (0, 0)) ∧ Below w.heap.size w wr
def SchI (bs : List UInt8) (w : World) (t : Nat) (i : Value) (wr : World) : Prop :=
  ∃ j : Nat, j ≤ 4 ∧ i = .int .i64 j ∧ wr.heap[w.heap.size]? = some (.cells (cw ((schedTo bs t).set t (wordTo bs t j))) 327 (0, 0)) ∧ Below w.heap.size w wr
set_option maxHeartbeats 1000000 in
theorem schedule_any (bb off cap : Nat) (bs : List UInt8) (w : World) (hb : bb < w.heap.size)
    (hc : ∀ i, i < 64 → w.cell? ⟨bb, off + i, none⟩ = some (.int .u8 (N8 (at8 bs i)))) (hcap : 64 ≤ cap) :
    Calls Tryz.prog 214 #[.slice (some ⟨bb, off, none⟩) 64 cap] w fun e w' => e = .returned (.agg (cw (schedTo bs 64))) ∧ Below w.heap.size w w' := by
  have HC := Lib.hid hc
  clear hc
  go_enter Tryz.func214, Tryz.ntmps214
  go_wp2
  go_loopw [6] (SchR bs w) (fun i _ => 64 - (intOf i).toNat)
  case atStart => exact ⟨0, by omega, rfl, row_new _ _ _, (Below.refl _ _).alloc (Nat.le_refl _) _⟩
  case round =>
    obtain ⟨t, ht, rfl, hB, hbel⟩ := hrel
    have HB := Lib.hid hB
    clear hB
    by_cases h64 : t < 64
    · have d64 : decide ((t : Int) < 64) = true := by simp; omega
      by_cases h16 : t < 16
      · have d16 : decide ((t : Int) < 16) = true := by simp; omega
        go_wp2
        obtain ⟨wo, rfl⟩ : ∃ wo : World, wo = wr := ⟨_, rfl⟩
        go_loopw [19] (SchI bs w t) (fun i _ => 4 - (intOf i).toNat)
        case atStart => exact ⟨0, by omega, rfl, by rw [sch_start bs t h64]; exact HB.out, hbel⟩
        case round =>
          obtain ⟨j, hj, rfl, hB2, hbel2⟩ := hrel
          have HB2 := Lib.hid hB2
          clear hB2
          by_cases h4 : j < 4
          · have d4 : decide ((j : Int) < 4) = true := by simp; omega
            have c1 : wr.cell? ⟨bb, off + 4 * t + j, none⟩ = some (.int .u8 (N8 (at8 bs (4 * t + j)))) := by
              rw [hbel2.cell (p := ⟨bb, off + 4 * t + j, none⟩) hb, Nat.add_assoc]; exact HC.out _ (by omega)
            have c2 : wr.cell? ⟨w.heap.size, t, none⟩ = some (.int .u32 (N32 (wordTo bs t j))) := by
              rw [row_cell HB2.out t (by simp [schedTo_length]; omega), at32_set_self (by rw [schedTo_length]; omega)]
            have c3 : wr.frozen? ⟨w.heap.size, t, none⟩ = false := row_free HB2.out t
            have n1 := N8_bd (at8 bs (4 * t + j))
            have HS := Lib.hid (row_set HB2.out t (wordTo bs t (j + 1)))
            go_wp2
            go_roundw
            case rel => exact ⟨j + 1, by omega, by go_num, by rw [wordTo]; rw [wordTo, List.set_set] at HS; exact HS.out, hbel2.setCell (Nat.le_refl _) _⟩
            case measure => simp [intOf]; omega
          · have d4 : decide ((j : Int) < 4) = false := by simp; omega
            obtain rfl : j = 4 := by omega
            go_wp2
            go_roundw
            case rel => exact ⟨t + 1, by omega, by go_num, by rw [schedTo, if_pos h16]; exact HB2.out, hbel2⟩
            case measure => simp [intOf]; omega
      · have d16 : decide ((t : Int) < 16) = false := by simp; omega
        have c16 : wr.cell? ⟨w.heap.size, t - 16, none⟩ = some (.int .u32 (N32 (at32 (schedTo bs t) (t - 16)))) := row_cell HB.out _ (by rw [schedTo_length]; omega)
        have c15 : wr.cell? ⟨w.heap.size, t - 15, none⟩ = some (.int .u32 (N32 (at32 (schedTo bs t) (t - 15)))) := row_cell HB.out _ (by rw [schedTo_length]; omega)
        have c7 : wr.cell? ⟨w.heap.size, t - 7, none⟩ = some (.int .u32 (N32 (at32 (schedTo bs t) (t - 7)))) := row_cell HB.out _ (by rw [schedTo_length]; omega)
        have c2 : wr.cell? ⟨w.heap.size, t - 2, none⟩ = some (.int .u32 (N32 (at32 (schedTo bs t) (t - 2)))) := row_cell HB.out _ (by rw [schedTo_length]; omega)
        have c0 : wr.cell? ⟨w.heap.size, t, none⟩ = some (.int .u32 (N32 (at32 (schedTo bs t) t))) := row_cell HB.out _ (by rw [schedTo_length]; omega)
        have cf : wr.frozen? ⟨w.heap.size, t, none⟩ = false := row_free HB.out t
        have e16 : IntKind.i64.wrap ((t : Int) - 16) = (t : Int) - 16 := IntWalk.i64_in _ (by omega)
        have e15 : IntKind.i64.wrap ((t : Int) - 15) = (t : Int) - 15 := IntWalk.i64_in _ (by omega)
        have e7 : IntKind.i64.wrap ((t : Int) - 7) = (t : Int) - 7 := IntWalk.i64_in _ (by omega)
        have e2 : IntKind.i64.wrap ((t : Int) - 2) = (t : Int) - 2 := IntWalk.i64_in _ (by omega)
        have a16 : (0 : Int) ≤ (t : Int) - 16 := by omega
        have a15 : (0 : Int) ≤ (t : Int) - 15 := by omega
        have a7 : (0 : Int) ≤ (t : Int) - 7 := by omega
        have a2 : (0 : Int) ≤ (t : Int) - 2 := by omega
        have z16 : (16 : Int) ≤ (t : Int) := by omega
        have z15 : (15 : Int) ≤ (t : Int) := by omega
        have z7 : (7 : Int) ≤ (t : Int) := by omega
        have z2 : (2 : Int) ≤ (t : Int) := by omega
        have z0 : (0 : Int) ≤ (t : Int) := by omega
        have b0 : (t : Int) < 64 := by omega
        have k16 := off_ne (B := w.heap.size) (i := t) (j := t - 16) (by omega)
        have k15 := off_ne (B := w.heap.size) (i := t) (j := t - 15) (by omega)
        have k7 := off_ne (B := w.heap.size) (i := t) (j := t - 7) (by omega)
        have k2 := off_ne (B := w.heap.size) (i := t) (j := t - 2) (by omega)
        have HS := Lib.hid (row_set HB.out t (nextW (schedTo bs t) t))
        have b16 : (t : Int) - 16 < 64 := by omega
        have b15 : (t : Int) - 15 < 64 := by omega
        have b7 : (t : Int) - 7 < 64 := by omega
        have b2 : (t : Int) - 2 < 64 := by omega
        have t16 : ((t : Int) - 16).toNat = t - 16 := by omega
        have t15 : ((t : Int) - 15).toNat = t - 15 := by omega
        have t7 : ((t : Int) - 7).toNat = t - 7 := by omega
        have t2 : ((t : Int) - 2).toNat = t - 2 := by omega
        go_wp2
        go_region_held3 (fun w' => w'.cell? ⟨w.heap.size, t - 16, none⟩ = some (.int .u32 (N32 (at32 (schedTo bs t) (t - 16)))) ∧ w'.cell? ⟨w.heap.size, t - 15, none⟩ = some (.int .u32 (N32 (at32 (schedTo bs t) (t - 15)))) ∧ w'.cell? ⟨w.heap.size, t - 7, none⟩ = some (.int .u32 (N32 (at32 (schedTo bs t) (t - 7)))) ∧ w'.cell? ⟨w.heap.size, t - 2, none⟩ = some (.int .u32 (N32 (at32 (schedTo bs t) (t - 2))))) (go_keep)
          (first | (go_at_call 223; refine (slide_any _ _ _ _ _ (by decide) (by decide) (by decide) (by decide) (by decide) (by decide)).mono ?_; rintro e w' ⟨rfl, k, rfl⟩))
        go_wp2
        go_roundw
        case rel => exact ⟨t + 1, by omega, by go_num, by rw [schedTo, if_neg h16]; exact HS.out, (below_drewN hbel _).setCell (Nat.le_refl _) _⟩
        case measure => simp [intOf]; omega
    · have d64 : decide ((t : Int) < 64) = false := by simp; omega
      obtain rfl : t = 64 := by omega
      have i119 : (Tryz.prog.info? 327).map (·.size) = some (cw (schedTo bs 64)).size := by rw [cw_size, schedTo_length]; exact info119
      have HI := Lib.hid i119
      clear i119
      go_wp2_with (first | (refine wpList_load_row rfl 327 (.tmp 2) rfl w.heap.size rfl 327 _ (0, 0) _ HB.out Tryz.underlying327 rfl HI.out ?_) | (refine wpList_store_row rfl 327 (.tmp 2) (.tmp 57) rfl w.heap.size (cw (schedTo bs 64)) rfl rfl 327 _ HB.out HI.out rfl (cw_one _) ?_))
      exact bodyPost_ret (v := .agg (cw (schedTo bs 64))) (results_cell_row (p := 2) (ty := 327) rfl _ _ w.heap.size 327 _ (0, 0) _ rfl (setRow_heap _ _ _ _ _ _ HB.out) Tryz.underlying327 rfl HI.out) rfl ⟨rfl, below_setRow hbel (Nat.le_refl _) _⟩
end Go.Proofs.YtlgbdgpgdimpdaaGreatDoor
namespace Go.Proofs.YtlgbdgpgdimpdaaGreatDoor
open Go.RowKit
attribute [local go_sem] u32_bits_xor u32_bits_and u32_bits_or u32_add u32_bits_not2
theorem info88 : (Tryz.prog.info? 309).map (·.size) = some 8 := by kernel_rfl
theorem info62 : (Tryz.prog.info? 24).map (·.size) = some 1 := by kernel_rfl
def GlobK (w : World) : Prop := ∀ i, i < 64 → w.cell? ⟨5, i, none⟩ = some (.int .u32 (N32 (at32 KK i)))
theorem index_cw (l : List UInt32) (t : Nat) (hl : l.length = 64) (ht : t < 64) (w : World) :
    (Instr.index 327 (.agg (cw l)) (.int .i64 (t : Int))).run Tryz.prog w = .ok (.int .u32 (N32 (at32 l t))) w := by
  have h1 : (0 : Int) ≤ (t : Int) ∧ (t : Int) < 64 := by omega
  have hi := info62
  cases hq : Tryz.prog.info? 24 with
  | none => simp [hq] at hi
  | some i =>
    simp [hq] at hi
    have hc := cw_at l t (by omega)
    simp [ht, hc, Instr.index, asIntOf, underlying, Tryz.underlying327, part, sizeOf, typeInfo, hq, hi, h1, go_sem]
theorem sum5 (a b c d e : UInt32) : (N32 a + N32 b + N32 c + N32 d + N32 e) % 4294967296 = N32 (a + b + c + d + e) := by
  unfold N32; simp only [UInt32.toNat_add]; omega
theorem sum14 (x a b c d : UInt32) : (N32 x + (N32 a + N32 b + N32 c + N32 d)) % 4294967296 = N32 (x + (a + b + c + d)) := by
  unfold N32; simp only [UInt32.toNat_add]; omega
theorem cp_len {xs : List UInt32} (hl : xs.length = 8) : (cwl (xs.take 7)).length = 7 := by simp [cwl, hl]
theorem cp_pos {w' : World} {X : Nat} {xs : List UInt32} (hX : w'.heap[X]? = some (.cells (cw xs) 309 (0, 0))) (hl : xs.length = 8) :
    0 < (cwl (xs.take 7)).length → (some ⟨X, 1, none⟩ : Option Addr) = some ⟨X, 1, none⟩ ∧ ∃ ad, (some ⟨X, 0, none⟩ : Option Addr) = some ad ∧ ∀ j v, (cwl (xs.take 7))[j]? = some v → w'.cell? (ad.add j) = some v := by
  refine fun _ => ⟨rfl, _, rfl, fun j v hv => ?_⟩
  have hj : j < 7 := by
    have := (List.getElem?_eq_some_iff.1 hv).1
    rw [cp_len hl] at this; exact this
  rw [Addr.add_mid, Nat.zero_add, row_cell hX j (by omega), ← hv]
  simp [cwl, at32, hj, show j < xs.length by omega]
theorem cp_splice {xs : List UInt32} (hl : xs.length = 8) :
    splice (cwl xs) 1 (cwl (xs.take 7)) = cwl [at32 xs 0, at32 xs 0, at32 xs 1, at32 xs 2, at32 xs 3, at32 xs 4, at32 xs 5, at32 xs 6] := by
  match xs, hl with
  | [a, b, c, d, e, f, g, h], _ => rfl
def TakR (s : List UInt32) (bs : List UInt8) (w : World) (i : Value) (wr : World) : Prop :=
  ∃ t : Nat, t ≤ 64 ∧ i = .int .i64 t ∧ wr.heap[w.heap.size]? = some (.cells (cw (rndTo s (schedTo bs 64) t)) 309 (0, 0)) ∧ Below w.heap.size w wr
def TakS (s x : List UInt32) (sb : Nat) (w : World) (i : Value) (wr : World) : Prop :=
  ∃ k : Nat, k ≤ 8 ∧ i = .int .i64 k ∧ wr.heap[w.heap.size]? = some (.cells (cw x) 309 (0, 0)) ∧ wr.heap[sb]? = some (.cells (cw (sumTo s x k)) 309 (0, 0)) ∧ But sb w wr
set_option maxHeartbeats 1000000 in
set_option maxRecDepth 100000 in
theorem take_any (sb bb off cap : Nat) (s : List UInt32) (bs : List UInt8) (w : World) (hb : bb < w.heap.size) (hsb : sb < w.heap.size) (h8 : s.length = 8)
    (hs : w.heap[sb]? = some (.cells (cw s) 309 (0, 0)))
    (hc : ∀ i, i < 64 → w.cell? ⟨bb, off + i, none⟩ = some (.int .u8 (N8 (at8 bs i)))) (hcap : 64 ≤ cap) (hK : GlobK w) (h3 : 5 < w.heap.size) :
    Calls Tryz.prog 195 #[.pointer (some ⟨sb, 0, none⟩), .slice (some ⟨bb, off, none⟩) 64 cap] w fun e w' => e = .returned (.tuple #[]) ∧ w'.heap[sb]? = some (.cells (cw (compW s bs)) 309 (0, 0)) ∧ But sb w w' := by
  have HC := Lib.hid hc
  clear hc
  have HSB := Lib.hid hs
  clear hs
  have HI : Hid ((Tryz.prog.info? 309).map (·.size) = some (cw s).size) := by rw [cw_size, h8]; exact info88
  have HN := Lib.hid (row_new w #[.int .u32 0, .int .u32 0, .int .u32 0, .int .u32 0, .int .u32 0, .int .u32 0, .int .u32 0, .int .u32 0] 309)
  have HZ : Hid ((#[.int .u32 0, .int .u32 0, .int .u32 0, .int .u32 0, .int .u32 0, .int .u32 0, .int .u32 0, .int .u32 0] : Array Value).size = (cw s).size) := by rw [cw_size, h8]; rfl
  have H8 := Lib.hid h8
  clear h8
  obtain ⟨w1, hw1⟩ : ∃ w1, w1 = (w.alloc (.cells #[.int .u32 0, .int .u32 0, .int .u32 0, .int .u32 0, .int .u32 0, .int .u32 0, .int .u32 0, .int .u32 0] 309)).setRow w.heap.size (cw s) := ⟨_, rfl⟩
  have hb1 : Below w.heap.size w w1 := by rw [hw1]; exact below_setRow ((Below.refl _ _).alloc (Nat.le_refl _) _) (Nat.le_refl _) _
  have hx1 : w1.heap[w.heap.size]? = some (.cells (cw s) 309 (0, 0)) := by rw [hw1]; exact setRow_heap _ _ _ _ _ _ HN.out
  have hz1 : w1.heap.size = w.heap.size + 1 := by rw [hw1]; simp
  have HW1 := Lib.hid hw1
  clear hw1
  have HX1 := Lib.hid hx1
  clear hx1
  have HZ1 := Lib.hid hz1
  clear hz1
  go_enter Tryz.func195, Tryz.ntmps195
  go_wp2_with (first | (refine wpList_load_row rfl 309 (.tmp 13) rfl sb rfl 309 _ (0, 0) _ HSB.out Tryz.underlying309 rfl HI.out ?_) | (refine wpList_store_row rfl 309 (.tmp 4) (.tmp 14) rfl w.heap.size (cw s) rfl rfl 309 _ HN.out HI.out HZ.out (cw_one _) ?_))
  rw [← HW1.out]
  refine (schedule_any bb off cap bs w1 (by have := HZ1.out; omega) (fun i hi => by rw [hb1.cell (p := ⟨bb, off + i, none⟩) hb]; exact HC.out i hi) hcap).mono ?_
  rintro e w2 ⟨rfl, hb2⟩
  have hb3 : Below w.heap.size w w2 := hb1.trans (hb2.mono (by have := HZ1.out; omega))
  have HX2 : Hid (w2.heap[w.heap.size]? = some (.cells (cw s) 309 (0, 0))) := by rw [hb2.block _ (by have := HZ1.out; omega)]; exact HX1.out
  have HK : Hid (GlobK w) := hK
  clear hK hb1 hb2
  go_wp2
  go_loopw [17] (TakR s bs w) (fun i _ => 64 - (intOf i).toNat)
  case atStart => exact ⟨0, by omega, rfl, HX2.out, hb3⟩
  case round =>
    obtain ⟨t, ht, rfl, hX, hbel⟩ := hrel
    have HX := Lib.hid hX
    clear hX
    by_cases h64 : t < 64
    · have d64 : decide ((t : Int) < 64) = true := by simp; omega
      have hix : ∀ w : World, (Instr.index 327 (.agg (cw (schedTo bs 64))) (.int .i64 (t : Int))).run Tryz.prog w = .ok (.int .u32 (N32 (at32 (schedTo bs 64) t))) w := by
        exact index_cw _ _ (schedTo_length _ _) h64
      obtain ⟨xs, hxs⟩ : ∃ xs, xs = rndTo s (schedTo bs 64) t := ⟨_, rfl⟩
      have hl : xs.length = 8 := by rw [hxs]; exact rndTo_length _ _ _ H8.out
      rw [← hxs] at HX
      have HXS := Lib.hid hxs
      clear hxs
      have c0 := row_cell HX.out 0 (by omega)
      have c1 := row_cell HX.out 1 (by omega)
      have c2 := row_cell HX.out 2 (by omega)
      have c3 := row_cell HX.out 3 (by omega)
      have c4 := row_cell HX.out 4 (by omega)
      have c5 := row_cell HX.out 5 (by omega)
      have c6 := row_cell HX.out 6 (by omega)
      have c7 := row_cell HX.out 7 (by omega)
      have cK : wr.cell? ⟨5, t, none⟩ = some (.int .u32 (N32 (at32 KK t))) := by rw [hbel.cell (p := ⟨5, t, none⟩) h3]; exact HK.out t h64
      have HL := Lib.hid hl
      clear hl
      have z0 : (0 : Int) ≤ (t : Int) := by omega
      have b0 : (t : Int) < 64 := by omega
      go_wp2
      go_quiet (fail)
      go_wp2
      go_quiet ((go_at_call 215; exact q_two (turn_any _ _ _ _ _ (by decide) (by decide) (by decide) (by decide) (by decide) (by decide))))
      go_wp2
      go_quiet ((go_at_call 215; exact q_two (turn_any _ _ _ _ _ (by decide) (by decide) (by decide) (by decide) (by decide) (by decide))))
      go_wp2
      go_region_law (refine step_copy_splice rfl (.tmp 65) (.tmp 66) 138 138 rfl 24 Tryz.underlying138 info62 (some ⟨w.heap.size, 1, none⟩) (some ⟨w.heap.size, 0, none⟩) 7 7 7 8 rfl rfl w.heap.size 1 (cwl xs) 309 HX.out (cwl (xs.take 7)) (cp_len HL.out) (cp_pos HX.out HL.out) (by rw [cp_len HL.out]; simp [cwl, HL.out]) (fun v hv => (Array.all_eq_true_iff_forall_mem.1 (cw_one (xs.take 7))) v (by simpa [cw] using hv)) w.heap.size w ⟨hbel.os, hbel.tape, hbel.output, hbel.size, hbel.block⟩ (Nat.le_refl _) ?_; intro w4 HG4 hb4)
      rw [cp_splice HL.out] at HG4
      have HG5 : Hid (w4.heap[w.heap.size]? = some (.cells (cw [at32 xs 0, at32 xs 0, at32 xs 1, at32 xs 2, at32 xs 3, at32 xs 4, at32 xs 5, at32 xs 6]) 309 (0, 0))) := HG4.out
      clear HG4 c0 c1 c2 c3 c4 c5 c6 c7 cK
      have c0 : w4.cell? ⟨w.heap.size, 0, none⟩ = some (.int .u32 (N32 (at32 xs 0))) := row_cell HG5.out 0 (by simp)
      have c4 : w4.cell? ⟨w.heap.size, 4, none⟩ = some (.int .u32 (N32 (at32 xs 3))) := row_cell HG5.out 4 (by simp)
      have f0 : w4.frozen? ⟨w.heap.size, 0, none⟩ = false := row_free HG5.out 0
      have f4 : w4.frozen? ⟨w.heap.size, 4, none⟩ = false := row_free HG5.out 4
      have HF := Lib.hid (row_set (row_set HG5.out 0 (oneW xs (at32 KK t) (at32 (schedTo bs 64) t) + twoW xs)) 4 (at32 xs 3 + oneW xs (at32 KK t) (at32 (schedTo bs 64) t)))
      go_wp2
      go_roundw
      case rel =>
        rw [sum5, sum14]
        exact ⟨t + 1, by omega, by go_num, by rw [rndTo, ← HXS.out]; exact HF.out, (hb4.setCell (Nat.le_refl _) _).setCell (Nat.le_refl _) _⟩
      case measure => simp [intOf]; omega
    · have d64 : decide ((t : Int) < 64) = false := by simp; omega
      obtain rfl : t = 64 := by omega
      obtain ⟨xs, hxs⟩ : ∃ xs, xs = rndTo s (schedTo bs 64) 64 := ⟨_, rfl⟩
      have hl : xs.length = 8 := by rw [hxs]; exact rndTo_length _ _ _ H8.out
      rw [← hxs] at HX
      have HXS := Lib.hid hxs
      clear hxs
      have HL := Lib.hid hl
      clear hl
      have HS0 : Hid (wr.heap[sb]? = some (.cells (cw s) 309 (0, 0))) := by rw [hbel.block sb hsb]; exact HSB.out
      have hbut : But sb w wr := But.of_below hbel
      obtain ⟨wo, rfl⟩ : ∃ wo : World, wo = wr := ⟨_, rfl⟩
      go_wp2
      go_loopw [78] (TakS s xs sb w) (fun i _ => 8 - (intOf i).toNat)
      case atStart => exact ⟨0, by omega, rfl, HX.out, HS0.out, hbut⟩
      case round =>
        obtain ⟨k, hk, rfl, hx, hs, hbut2⟩ := hrel
        have HX2 := Lib.hid hx
        have HS2 := Lib.hid hs
        clear hx hs
        by_cases h8 : k < 8
        · have d8 : decide ((k : Int) < 8) = true := by simp; omega
          have z0 : (0 : Int) ≤ (k : Int) := by omega
          have b0 : (k : Int) < 8 := by omega
          have cx := row_cell HX2.out k (by rw [HL.out]; exact h8)
          have cs := row_cell HS2.out k (by rw [sumTo_length, H8.out]; exact h8)
          have fs := row_free HS2.out k
          have HF := Lib.hid (row_set HS2.out k (at32 (sumTo s xs k) k + at32 xs k))
          go_wp2
          go_region
          go_wp2
          go_roundw
          case rel =>
            refine ⟨k + 1, by omega, by go_num, ?_, HF.out, ?_⟩
            · exact (heap_setCell_other _ _ _ _ (by simp; omega)).trans HX2.out
            · exact (hbut2.setCell _).drewN (n := 1)
          case measure => simp [intOf]; omega
        · have d8 : decide ((k : Int) < 8) = false := by simp; omega
          obtain rfl : k = 8 := by omega
          go_wp2
          go_end0
          exact ⟨rfl, by rw [compW, ← HXS.out]; exact HS2.out, hbut2⟩
end Go.Proofs.YtlgbdgpgdimpdaaGreatDoor
namespace Go.Proofs.YtlgbdgpgdimpdaaGreatDoor
open Go Go.RowKit
def c8l (l : List UInt8) : List Value := l.map fun x => Value.int .u8 (N8 x)
def c8 (l : List UInt8) : Array Value := (c8l l).toArray
theorem c8l_length (l : List UInt8) : (c8l l).length = l.length := by simp [c8l]
theorem c8l_append (a b : List UInt8) : c8l (a ++ b) = c8l a ++ c8l b := by simp [c8l]
theorem c8_size (l : List UInt8) : (c8 l).size = l.length := by simp [c8, c8l]
theorem c8l_at (l : List UInt8) (i : Nat) (h : i < l.length) : (c8l l)[i]? = some (.int .u8 (N8 (at8 l i))) := by
  simp [c8l, h, at8]
theorem c8_at (l : List UInt8) (i : Nat) (h : i < l.length) : (c8 l)[i]? = some (.int .u8 (N8 (at8 l i))) := by
  simp [c8, c8l, h, at8]
theorem c8_set (l : List UInt8) (i : Nat) (x : UInt8) : (c8 l).setIfInBounds i (.int .u8 (N8 x)) = c8 (l.set i x) := by
  apply Array.ext'
  simp [c8, c8l, List.map_set]
theorem c8l_one (l : List UInt8) : ∀ v ∈ c8l l, v.oneCell' = true := by
  intro v hv
  simp only [c8l, List.mem_map] at hv
  obtain ⟨x, _, rfl⟩ := hv
  rfl
theorem c8_one (l : List UInt8) : (c8 l).all (·.oneCell') = true := by
  rw [Array.all_eq_true_iff_forall_mem]
  intro v hv
  exact c8l_one l v (by simpa [c8] using hv)
def BSl (w : World) (v : Value) (bs : List UInt8) : Prop :=
  (v = .slice none 0 0 ∧ bs = []) ∨
  (∃ b off c, v = .slice (some ⟨b, off, none⟩) bs.length c ∧ bs.length ≤ c ∧ b < w.heap.size ∧ ∀ j, j < bs.length → w.cell? ⟨b, off + j, none⟩ = some (.int .u8 (N8 (at8 bs j)))) ∨
  ∃ a, v = .slice (some a) 0 0 ∧ bs = []
theorem BSl.below {B : Nat} {w w' : World} {v : Value} {bs : List UInt8} (h : BSl w v bs) (hb : Below B w w') (hB : w.heap.size ≤ B) : BSl w' v bs := by
  rcases h with h | ⟨b, off, c, e, hc, hlt, hcell⟩ | h
  · exact .inl h
  · exact .inr (.inl ⟨b, off, c, e, hc, Nat.lt_of_lt_of_le hlt hb.size, fun j hj => (hb.cell (p := ⟨b, off + j, none⟩) (Nat.lt_of_lt_of_le hlt hB)).trans (hcell j hj)⟩)
  · exact .inr (.inr h)
theorem BSl.len {w : World} {v : Value} {bs : List UInt8} (h : BSl w v bs) : ∃ a c, v = .slice a bs.length c := by
  rcases h with ⟨rfl, rfl⟩ | ⟨b, off, c, e, _⟩ | ⟨a, rfl, rfl⟩
  · exact ⟨_, _, rfl⟩
  · exact ⟨_, _, e⟩
  · exact ⟨_, _, rfl⟩
theorem BSl.of_owns {w : World} {base : Nat} {v : Value} {bs : List UInt8} (h : w.ownsRow base 5 1 v bs.length (c8l bs)) : BSl w v bs := by
  obtain ⟨h1, h2⟩ := h
  rcases h2 with ⟨rfl, h3⟩ | ⟨g, cap, cur, rfl, hg, hh, hn, hm, hs, ht⟩
  · exact .inl ⟨rfl, List.eq_nil_of_length_eq_zero h3⟩
  · refine .inr (.inl ⟨g, 0, cap, rfl, hn, (Array.getElem?_eq_some_iff.1 hh).1, fun j hj => ?_⟩)
    rw [Nat.zero_add, cell_of_row w g j cur 5 (0, 0) hh, ← c8l_at bs j hj, ← ht, List.getElem?_take, if_pos (by omega)]
    simp
theorem news_of {w : World} {b o : Nat} {bs : List UInt8} (h : ∀ j, j < bs.length → w.cell? ⟨b, o + j, none⟩ = some (.int .u8 (N8 (at8 bs j)))) :
    ∀ j u, (c8l bs)[j]? = some u → w.cell? ((⟨b, o, none⟩ : Addr).add j) = some u := by
  intro j u hu
  have hj : j < bs.length := by have := (List.getElem?_eq_some_iff.1 hu).1; rwa [c8l_length] at this
  rw [show (⟨b, o, none⟩ : Addr).add j = ⟨b, o + j, none⟩ by unfold Addr.add; split <;> simp_all, h j hj, ← hu, c8l_at bs j hj]
theorem owns_block {w : World} {base e size : Nat} {v : Value} {n : Nat} {xs : List Value} (h : w.ownsRow base e size v n xs) {g : Nat} (hg : v.ownBlock = some g) : base ≤ g := by
  rcases h.2 with ⟨rfl, _⟩ | ⟨g', cap, cur, rfl, hb, _⟩
  · cases hg
  · cases hg; exact hb
/-! Slices of slices of bytes. -/
def atV (vs : List Value) (j : Nat) : Value := vs.getD j undef
def atP (ps : List (List UInt8)) (j : Nat) : List UInt8 := ps.getD j []
def catTo (ps : List (List UInt8)) (k : Nat) : List UInt8 := (ps.take k).flatten
theorem catTo_succ (ps : List (List UInt8)) (k : Nat) (h : k < ps.length) : catTo ps (k + 1) = catTo ps k ++ atP ps k := by
  unfold catTo atP
  rw [List.take_succ_eq_append_getElem h, List.flatten_append, List.getD_eq_getElem?_getD, List.getElem?_eq_getElem h]; simp
theorem catTo_all (ps : List (List UInt8)) : catTo ps ps.length = ps.flatten := by simp [catTo]
theorem catTo_le (ps : List (List UInt8)) (k : Nat) : (catTo ps k).length ≤ ps.flatten.length := by
  unfold catTo
  have : ps.flatten = (ps.take k).flatten ++ (ps.drop k).flatten := by rw [← List.flatten_append, List.take_append_drop]
  rw [this, List.length_append]; omega
theorem catTo_part (ps : List (List UInt8)) (k : Nat) (h : k < ps.length) : (catTo ps k).length + (atP ps k).length ≤ ps.flatten.length := by
  have := catTo_le ps (k + 1)
  rw [catTo_succ ps k h, List.length_append] at this; exact this
structure PSl (w : World) (pv : Value) (vs : List Value) (ps : List (List UInt8)) : Prop where
  len : vs.length = ps.length
  lies : (pv = .slice none 0 0 ∧ ps = []) ∨
    ∃ b off c, pv = .slice (some ⟨b, off, none⟩) ps.length c ∧ ps.length ≤ c ∧ b < w.heap.size ∧ ∀ j, j < ps.length → w.cell? ⟨b, off + j, none⟩ = some (atV vs j)
  each : ∀ j, j < ps.length → BSl w (atV vs j) (atP ps j)
theorem PSl.below {B : Nat} {w w' : World} {pv : Value} {vs : List Value} {ps : List (List UInt8)} (h : PSl w pv vs ps) (hb : Below B w w') (hB : w.heap.size ≤ B) : PSl w' pv vs ps := by
  refine ⟨h.len, ?_, fun j hj => (h.each j hj).below hb hB⟩
  rcases h.lies with h | ⟨b, off, c, e, hc, hlt, hcell⟩
  · exact .inl h
  · exact .inr ⟨b, off, c, e, hc, Nat.lt_of_lt_of_le hlt hb.size, fun j hj => (hb.cell (p := ⟨b, off + j, none⟩) (Nat.lt_of_lt_of_le hlt hB)).trans (hcell j hj)⟩
end Go.Proofs.YtlgbdgpgdimpdaaGreatDoor
namespace Go.Proofs.YtlgbdgpgdimpdaaGreatDoor
open Go.RowKit
theorem info5 : (Tryz.prog.info? 5).map (fun i => (i.zero, i.size, i.bytes)) = some (some (.int .u8 0), 1, 1) := by kernel_rfl
def Owned (w : World) (n : Nat) (xs : List UInt8) (e : Ending) (w' : World) : Prop :=
  ∃ v, e = .returned v ∧ w'.ownsRow w.heap.size 5 1 v n (c8l xs) ∧ Below w.heap.size w w'
set_option maxHeartbeats 400000 in
theorem grow_any (n : Nat) (w : World) (h : n ≤ 1000000000000) : Calls Tryz.prog 150 #[.slice none 0 0, .int .i64 n] w (Owned w 0 []) := by
  obtain ⟨i0, hi, hz0, hz1, hz2⟩ := info_parts info5
  have HI := Lib.hid hi
  have HZ := Lib.hid hz0
  have H1 := Lib.hid hz1
  have H2 := Lib.hid hz2
  clear hi hz0 hz1 hz2
  have d0 : decide ((n : Int) < 0) = false := decide_eq_false (by omega)
  by_cases hn : 0 < n
  · have hr := Lib.run_append_nil_zeros (P := Tryz.prog) w 23 3 23 5 i0 (.int .u8 0) .i64 .i64 Tryz.underlying23 Tryz.underlying3 HI.out HZ.out n hn (by rw [H1.out]; decide) (by omega) (by rw [H2.out]; omega)
    have HR := Lib.hid hr
    clear hr
    have d1 : decide ((0 : Int) < (n : Int)) = true := decide_eq_true (by omega)
    go_enter Tryz.func150, Tryz.ntmps150
    go_wp2_with (at_builtin; refine Lib.wpList_append_run w rfl (.tmp 20) (.tmp 21) 23 3 rfl (.slice none 0 0) (.int .i64 n) rfl rfl _ _ HR.out ?_)
    go_ret
    refine ⟨_, rfl, ⟨by simp [c8l], .inr ⟨w.heap.size, _, _, rfl, Nat.le_refl _, row_new _ _ _, by omega, grownCap_le_maxLen _ _ _ _ (by unfold maxLen; omega), ?_, by simp [c8l]⟩⟩, ?_⟩
    · have := grownCap_ge w n 0 5
      simp [size_zeroCells]; omega
    · exact (Below.refl _ _).drew.alloc (by simp) _
  · obtain rfl : n = 0 := by omega
    go_enter Tryz.func150, Tryz.ntmps150
    go_wp2
    go_ret
    exact ⟨_, rfl, ⟨by simp [c8l], .inl ⟨rfl, rfl⟩⟩, Below.refl _ _⟩
def CatR (ps : List (List UInt8)) (s i : Value) : Prop := ∃ k : Nat, k ≤ ps.length ∧ i = .int .i64 k ∧ s = .int .i64 (catTo ps k).length
def CatS (ps : List (List UInt8)) (w : World) (v i : Value) (wr : World) : Prop :=
  ∃ k : Nat, k ≤ ps.length ∧ i = .int .i64 k ∧ wr.ownsRow w.heap.size 5 1 v (catTo ps k).length (c8l (catTo ps k)) ∧ Below w.heap.size w wr
set_option maxHeartbeats 1000000 in
theorem concat_some (b off c : Nat) (vs : List Value) (ps : List (List UInt8)) (w : World) (hlt : b < w.heap.size) (_hcap : ps.length ≤ c) (hc0 : ps.length ≤ 1000000000)
    (hcell : ∀ j, j < ps.length → w.cell? ⟨b, off + j, none⟩ = some (atV vs j)) (hbs : ∀ j, j < ps.length → BSl w (atV vs j) (atP ps j)) (ht : ps.flatten.length ≤ 1000000000000) :
    Calls Tryz.prog 113 #[.slice (some ⟨b, off, none⟩) ps.length c] w (Owned w ps.flatten.length ps.flatten) := by
  obtain ⟨i0, hi, hz0, hz1, hz2⟩ := info_parts info5
  have HI := Lib.hid hi
  have HZ := Lib.hid hz0
  have H1 := Lib.hid hz1
  have H2 := Lib.hid hz2
  clear hi hz0 hz1 hz2
  have HC := Lib.hid hcell
  have HB := Lib.hid hbs
  clear hcell hbs
  go_enter Tryz.func113, Tryz.ntmps113
  go_wp2
  go_loop [3, 11] (CatR ps) (fun _ i => ps.length - (intOf i).toNat)
  case atStart => exact ⟨0, by omega, rfl, by simp [catTo]⟩
  case round =>
    obtain ⟨k, hk, rfl, rfl⟩ := hrel
    have hle := catTo_le ps k
    by_cases hlt2 : k < ps.length
    · have d1 : decide ((k : Int) < (ps.length : Int)) = true := decide_eq_true (by omega)
      have hp := catTo_part ps k hlt2
      obtain ⟨a1, c1, hv⟩ := (HB.out k hlt2).len
      have g1 : w.cell? ⟨b, off + k, none⟩ = some (.slice a1 (atP ps k).length c1) := by rw [← hv]; exact HC.out k hlt2
      clear hv
      have d2 : decide (((catTo ps k).length : Int) + ((atP ps k).length : Int) < 0) = false := decide_eq_false (by omega)
      have HS := Lib.hid (catTo_succ ps k hlt2)
      go_wp2
      go_round
      case rel => exact ⟨k + 1, by omega, by go_num, by rw [HS.out, List.length_append]; go_num⟩
      case measure => simp [intOf]; omega
    · have d1 : decide ((k : Int) < (ps.length : Int)) = false := decide_eq_false (by omega)
      obtain rfl : k = ps.length := by omega
      go_wp2_with fail
      refine (grow_any (catTo ps ps.length).length w (by omega)).mono ?_
      rintro e w1 ⟨v, rfl, hown, hb1⟩
      go_wp2
      go_loopw [6, 27] (CatS ps w) (fun _ i _ => ps.length - (intOf i).toNat)
      case atStart => exact ⟨0, by omega, rfl, by simpa [catTo] using hown, hb1⟩
      case round =>
        obtain ⟨k, hk, rfl, hown2, hb2⟩ := hrel
        have hle2 := catTo_le ps k
        by_cases hlt2 : k < ps.length
        · have d3 : decide ((k : Int) < (ps.length : Int)) = true := decide_eq_true (by omega)
          have hp := catTo_part ps k hlt2
          have HS := Lib.hid (catTo_succ ps k hlt2)
          have g0 : wr.cell? ⟨b, off + k, none⟩ = some (atV vs k) := (hb2.cell (p := ⟨b, off + k, none⟩) hlt).trans (HC.out k hlt2)
          have hz := hb2.size
          rcases (HB.out k hlt2).below hb2 (Nat.le_refl _) with ⟨hv, hn⟩ | ⟨b1, o1, c1, hv, hc1, hl1, hx1⟩ | ⟨a1, hv, hn⟩
          · rw [hv] at g0
            have HN := Lib.hid hn
            clear hv hn
            go_wp2_with (at_builtin; refine wpList_append_own_none rfl (.tmp 31) (.tmp 32) 23 rfl w.heap.size 5 i0 1 Tryz.underlying23 HI.out _ _ _ rfl hown2 rfl ?_)
            go_roundw
            case rel => exact ⟨k + 1, by omega, by go_num, by rw [HS.out, HN.out, List.append_nil]; exact hown2, hb2⟩
            case measure => simp [intOf]; omega
          · rw [hv] at g0
            have HX1 := Lib.hid hx1
            clear hv hx1
            go_wp2_with (at_builtin; refine wpList_append_own _ rfl (.tmp 31) (.tmp 32) 23 rfl w.heap.size 5 i0 (.int .u8 0) 1 1 Tryz.underlying23 HI.out HZ.out H1.out H2.out rfl (by decide) _ _ _ rfl hown2 ⟨b1, o1, none⟩ (atP ps k).length c1 (c8l (atP ps k)) rfl (by rw [c8l_length]; omega) (news_of HX1.out) (c8l_one _) (by unfold maxLen; omega) (by omega) hz ?_)
            intro v' w2 hown3 hg3 _
            have hb3 := hb2.grown hg3 hz (fun g hg => owns_block hown2 hg)
            go_wp2
            go_roundw
            case rel => exact ⟨k + 1, by omega, by go_num, by rw [HS.out, List.length_append, c8l_append]; exact hown3, hb3⟩
            case measure => simp [intOf]; omega
          · rw [hv] at g0
            have HN := Lib.hid hn
            clear hv hn
            go_wp2_with (at_builtin; refine wpList_append_own _ rfl (.tmp 31) (.tmp 32) 23 rfl w.heap.size 5 i0 (.int .u8 0) 1 1 Tryz.underlying23 HI.out HZ.out H1.out H2.out rfl (by decide) _ _ _ rfl hown2 a1 0 0 [] rfl rfl (fun j u hu => by simp at hu) (fun u hu => by simp at hu) (by unfold maxLen; omega) (by omega) hz ?_)
            intro v' w2 hown3 hg3 _
            have hb3 := hb2.grown hg3 hz (fun g hg => owns_block hown2 hg)
            go_wp2
            go_roundw
            case rel => exact ⟨k + 1, by omega, by go_num, by rw [HS.out, HN.out, List.append_nil]; exact hown3, hb3⟩
            case measure => simp [intOf]; omega
        · have d3 : decide ((k : Int) < (ps.length : Int)) = false := decide_eq_false (by omega)
          obtain rfl : k = ps.length := by omega
          go_wp2
          go_ret
          exact ⟨_, rfl, by rw [← catTo_all]; exact hown2, hb2⟩
set_option maxHeartbeats 400000 in
theorem concat_nil (w : World) : Calls Tryz.prog 113 #[.slice none 0 0] w (Owned w 0 []) := by
  go_enter Tryz.func113, Tryz.ntmps113
  go_wp2
  go_loop [3, 11] (fun s i => s = .int .i64 0 ∧ i = .int .i64 0) (fun _ _ => 0)
  case atStart => exact ⟨rfl, rfl⟩
  case round =>
    obtain ⟨rfl, rfl⟩ := hrel
    go_wp2_with fail
    refine (grow_any 0 w (by omega)).mono ?_
    rintro e w1 ⟨v, rfl, hown, hb1⟩
    go_wp2
    go_loopw [6, 27] (fun v i wr => i = .int .i64 0 ∧ wr.ownsRow w.heap.size 5 1 v 0 (c8l []) ∧ Below w.heap.size w wr) (fun _ _ _ => 0)
    case atStart => exact ⟨rfl, hown, hb1⟩
    case round =>
      obtain ⟨rfl, hown2, hb2⟩ := hrel
      go_wp2
      go_ret
      exact ⟨_, rfl, hown2, hb2⟩
theorem concat_any (pv : Value) (vs : List Value) (ps : List (List UInt8)) (w : World) (h : PSl w pv vs ps) (hc0 : ps.length ≤ 1000000000) (ht : ps.flatten.length ≤ 1000000000000) :
    Calls Tryz.prog 113 #[pv] w (Owned w ps.flatten.length ps.flatten) := by
  rcases h.lies with ⟨rfl, rfl⟩ | ⟨b, off, c, rfl, hc, hlt, hcell⟩
  · exact concat_nil w
  · exact concat_some b off c vs ps w hlt hc hc0 hcell h.each ht
end Go.Proofs.YtlgbdgpgdimpdaaGreatDoor
namespace Go.Proofs.YtlgbdgpgdimpdaaGreatDoor
open Go.RowKit
set_option maxHeartbeats 400000 in
theorem chunk_any (a : Option Addr) (n c : Nat) (w : World) :
    Calls Tryz.prog 194 #[.slice a n c, .int .i64 64] w fun e w' => e = .returned (.func (.func 213) #[] #[.pointer (some ⟨w.heap.size, 0, none⟩), .pointer (some ⟨w.heap.size + 1, 0, none⟩)]) ∧ (w.alloc (.cells #[.slice a n c] 23)).alloc (.cells #[.int .i64 64] 3) = w' := by
  go_enter Tryz.func194, Tryz.ntmps194
  go_wp2
  go_ret
  exact ⟨rfl, rfl⟩
attribute [local go_sem] Oper.semAt_some
def chunkV (g : Nat) (k : Nat) : Value := .slice (some ⟨g, 64 * k, none⟩) 64 64
def KB (Bs : Nat) (W W' : World) : Prop := W'.heap[Bs]? = W.heap[Bs]? ∧ W'.heap[Bs + 1]? = W.heap[Bs + 1]?
theorem KB.refl (Bs : Nat) (W : World) : KB Bs W W := ⟨rfl, rfl⟩
theorem KB.trans {Bs : Nat} {A B C : World} (h : KB Bs A B) (k : KB Bs B C) : KB Bs A C := ⟨k.1.trans h.1, k.2.trans h.2⟩
theorem KB.drewN {Bs n : Nat} {A B : World} (h : KB Bs A B) : KB Bs A (B.drewN n) := h
theorem KB.c0 {Bs : Nat} {A B : World} (h : KB Bs A B) : B.cell? ⟨Bs, 0, none⟩ = A.cell? ⟨Bs, 0, none⟩ := World.cell?_of_block h.1
theorem KB.c1 {Bs : Nat} {A B : World} (h : KB Bs A B) : B.cell? ⟨Bs + 1, 0, none⟩ = A.cell? ⟨Bs + 1, 0, none⟩ := World.cell?_of_block h.2
set_option maxRecDepth 100000 in
set_option maxHeartbeats 2000000 in
theorem chunk1_in (l Bs g m cap : Nat) (hm : m ≤ 100000000000) (hcap : 64 * m ≤ cap) (J Jx : List Nat → World → Prop) (hJ : ∀ s W n, J s W → J s (W.drewN n))
    (hY : ∀ pre x W, J pre W → pre.length < m → YieldAt Fence.wide 5 Tryz.prog l #[chunkV g (x % m)] W fun e W' =>
      (e = .returned (.bool true) ∧ J (pre ++ [x]) W' ∧ KB Bs W W') ∨ (e = .returned (.bool false) ∧ Jx (pre ++ [x]) W'))
    (W : World) (h1 : W.cell? ⟨Bs, 0, none⟩ = some (.slice (some ⟨g, 0, none⟩) (64 * m) cap)) (h2 : W.cell? ⟨Bs + 1, 0, none⟩ = some (.int .i64 64)) (h0 : J [] W) :
    CallsIn Fence.wide 6 Tryz.prog 213 #[.func (.yield l) #[] #[], .pointer (some ⟨Bs, 0, none⟩), .pointer (some ⟨Bs + 1, 0, none⟩)] W fun e W' => (∃ v, e = .returned v) ∧
      ((∃ ys, ys = List.range m ∧ J ys W') ∨ (∃ pre, (∃ k, k ≤ m ∧ pre = List.range k) ∧ Jx pre W')) := by
  refine callsIn_of_wp Tryz.func213 rfl trivial ?_ rfl
  simp only [Tryz.ntmps213, List.size_toArray, List.length_cons, List.length_nil, Nat.reduceAdd, Nat.reduceSub, Array.replicate_succ, Array.replicate_zero, List.push_toArray, List.append_toArray, List.nil_append, List.cons_append]
  have HY := Lib.hid hY
  have HJ := Lib.hid hJ
  clear hY hJ
  gi_wp2
  gi_loopw [4] (fun i wr => ∃ k : Nat, k ≤ m ∧ i = .int .i64 (64 * k : Nat) ∧ J (List.range k) wr ∧ KB Bs W wr)
    (fun i _ => 64 * m + 1 - (intOf i).toNat)
  case atStart => exact ⟨0, Nat.zero_le _, rfl, by simpa using h0, KB.refl _ _⟩
  case round =>
    obtain ⟨k, hk, rfl, hJs, hnx⟩ := hrel
    have g1 : wr.cell? ⟨Bs, 0, none⟩ = some (.slice (some ⟨g, 0, none⟩) (64 * m) cap) := hnx.c0.trans h1
    have g2 : wr.cell? ⟨Bs + 1, 0, none⟩ = some (.int .i64 64) := hnx.c1.trans h2
    by_cases hlt : k < m
    · have d1 : decide (((64 * k : Nat) : Int) < ((64 * m : Nat) : Int)) = true := decide_eq_true (by omega)
      have z0 : (0 : Int) ≤ ((64 * k : Nat) : Int) := by omega
      have z1 : ((64 * k : Nat) : Int) ≤ ((64 * m : Nat) : Int) := by omega
      have z2 : ((64 * k : Nat) : Int) ≤ (cap : Int) := by omega
      have z3 : ((64 * k : Nat) : Int) < (cap : Int) := by omega
      gi_wp2
      refine wpIn_wide.2 ?_
      go_quiet (fail)
      have hJ2 := HJ.out _ _ nq hJs
      have hnx2 := hnx.drewN (n := nq)
      obtain ⟨fn, tmps, assign, body, hy, hR⟩ := HY.out _ k _ hJ2 (by simpa using hlt)
      have HR := Lib.hid hR
      clear hR
      rw [Nat.mod_eq_of_lt hlt] at hy
      unfold chunkV at hy
      have e1 : IntKind.i64.wrap (((64 * k : Nat) : Int) + 64) = ((64 * k : Nat) : Int) + 64 := IntWalk.i64_in _ (by omega)
      gi_wp2
      refine HR.out.mono ?_
      rintro e W3 (⟨rfl, hJ3, hk3⟩ | ⟨rfl, hJx3⟩)
      · have g3 : W3.cell? ⟨Bs + 1, 0, none⟩ = some (.int .i64 64) := hk3.c1.trans g2
        gi_wp2
        go_roundw
        case rel => exact ⟨k + 1, by omega, by simp; omega, by rw [List.range_succ]; exact hJ3, hnx2.trans hk3⟩
        case measure => simp [intOf]; omega
      · gi_wp2
        refine bodyPost_ret (results_none rfl _ _ _) rfl ?_
        exact ⟨⟨_, rfl⟩, .inr ⟨_, ⟨k + 1, by omega, List.range_succ.symm⟩, hJx3⟩⟩
    · obtain rfl : k = m := by omega
      have d1 : decide (((64 * k : Nat) : Int) < ((64 * k : Nat) : Int)) = false := decide_eq_false (by omega)
      gi_wp2
      go_end0
      exact ⟨⟨_, rfl⟩, .inl ⟨_, rfl, hJs⟩⟩
theorem chunk_stops (Bs g m cap : Nat) (hm : m ≤ 100000000000) (hcap : 64 * m ≤ cap) (w : World) (hB : Bs + 1 < w.heap.size)
    (h1 : w.cell? ⟨Bs, 0, none⟩ = some (.slice (some ⟨g, 0, none⟩) (64 * m) cap)) (h2 : w.cell? ⟨Bs + 1, 0, none⟩ = some (.int .i64 64)) :
    SeqStopsK Fence.wide 6 Tryz.prog 213 #[.pointer (some ⟨Bs, 0, none⟩), .pointer (some ⟨Bs + 1, 0, none⟩)] (fun x : Nat => #[chunkV g (x % m)]) (KB Bs)
      (fun ys => ys = List.range m) (fun pre => ∃ k, k ≤ m ∧ pre = List.range k) m w := fun l J Jx W hW hA _ hY h0 =>
  chunk1_in l Bs g m cap hm hcap J Jx (fun s W n hs => hA s W _ none hs ⟨rfl, rfl, rfl, Nat.le_refl _, fun _ _ _ => rfl⟩ (fun r e => by cases e)) hY W
    ((hW.cell (p := ⟨Bs, 0, none⟩) (by simp; omega)).trans h1) ((hW.cell (p := ⟨Bs + 1, 0, none⟩) (by simp; omega)).trans h2) h0
end Go.Proofs.YtlgbdgpgdimpdaaGreatDoor
namespace Go.Proofs.YtlgbdgpgdimpdaaGreatDoor
open Go
def padZ (n : Nat) : Nat := (120 - (n + 1) % 64) % 64
def pad0 (bs : List UInt8) : List UInt8 := bs ++ [128] ++ List.replicate (padZ bs.length) 0
def lenB (n k : Nat) : UInt8 := UInt8.ofNat (8 * n / 2 ^ (56 - 8 * k))
def padTo (bs : List UInt8) (k : Nat) : List UInt8 := pad0 bs ++ (List.range k).map (lenB bs.length)
theorem padTo_succ (bs : List UInt8) (k : Nat) : padTo bs (k + 1) = padTo bs k ++ [lenB bs.length k] := by
  unfold padTo; rw [List.range_succ, List.map_append, List.append_assoc]; rfl
theorem padTo_length (bs : List UInt8) (k : Nat) : (padTo bs k).length = bs.length + 1 + padZ bs.length + k := by
  unfold padTo pad0; simp; omega
def blocks (bs : List UInt8) : Nat := (bs.length + 9 + padZ bs.length) / 64
theorem pad_length (bs : List UInt8) : (padTo bs 8).length = 64 * blocks bs := by
  rw [padTo_length]; unfold blocks padZ; omega
theorem blocks_le (bs : List UInt8) : 64 * blocks bs ≤ bs.length + 73 := by
  unfold blocks padZ; omega
def blk (l : List UInt8) (k : Nat) : List UInt8 := (l.drop (64 * k)).take 64
theorem at8_blk (l : List UInt8) (k i : Nat) (h : i < 64) : at8 (blk l k) i = at8 l (64 * k + i) := by
  unfold at8 blk
  rw [List.getD_eq_getElem?_getD, List.getD_eq_getElem?_getD, List.getElem?_take, if_pos h, List.getElem?_drop]
def stTo (bs : List UInt8) : Nat → List UInt32
  | 0 => S0
  | k + 1 => compW (stTo bs k) (blk (padTo bs 8) k)
theorem stTo_length (bs : List UInt8) (k : Nat) : (stTo bs k).length = 8 := by
  induction k with
  | zero => rfl
  | succ k ih => simp only [stTo]; rw [compW_length, ih]
def stL (bs : List UInt8) (l : List Nat) : List UInt32 := l.foldl (fun s x => compW s (blk (padTo bs 8) (x % blocks bs))) S0
theorem stL_snoc (bs : List UInt8) (l : List Nat) (x : Nat) : stL bs (l ++ [x]) = compW (stL bs l) (blk (padTo bs 8) (x % blocks bs)) := by
  unfold stL; rw [List.foldl_append]; rfl
theorem stL_length (bs : List UInt8) (l : List Nat) : (stL bs l).length = 8 := by
  unfold stL
  suffices ∀ (l : List Nat) (s : List UInt32), s.length = 8 → (l.foldl (fun s x => compW s (blk (padTo bs 8) (x % blocks bs))) s).length = 8 from this l S0 rfl
  intro l
  induction l with
  | nil => exact fun s h => h
  | cons x l ih => exact fun s h => ih _ (by rw [compW_length, h])
theorem stL_range (bs : List UInt8) (k : Nat) (hk : k ≤ blocks bs) : stL bs (List.range k) = stTo bs k := by
  induction k with
  | zero => rfl
  | succ k ih => rw [List.range_succ, stL_snoc, ih (by omega), stTo, Nat.mod_eq_of_lt (by omega)]
def outB (s : List UInt32) (k : Nat) : UInt8 := UInt8.ofNat ((at32 s (k / 4)).toNat / 2 ^ (24 - k % 4 * 8))
def outTo (s : List UInt32) : Nat → List UInt8
  | 0 => List.replicate 32 0
  | k + 1 => (outTo s k).set k (outB s k)
theorem outTo_length (s : List UInt32) (k : Nat) : (outTo s k).length = 32 := by
  induction k with
  | zero => simp [outTo]
  | succ k ih => simp [outTo, ih]
def shaB (bs : List UInt8) : List UInt8 := outTo (stTo bs (blocks bs)) 32
theorem shaB_length (bs : List UInt8) : (shaB bs).length = 32 := outTo_length _ _
theorem lenB_eq (n k : Nat) : (((n : Int) * 8) / 2 ^ (56 - 8 * k)) % 256 = N8 (lenB n k) := by
  unfold N8 lenB
  rw [UInt8.toNat_ofNat']
  have : ((n : Int) * 8) / 2 ^ (56 - 8 * k) = ((8 * n / 2 ^ (56 - 8 * k) : Nat) : Int) := by simp [Int.mul_comm]
  rw [this]; omega
theorem outB_eq (s : List UInt32) (k : Nat) : (N32 (at32 s (k / 4)) / 2 ^ (24 - k % 4 * 8)) % 256 = N8 (outB s k) := by
  unfold N8 outB N32
  rw [UInt8.toNat_ofNat']
  have : ((at32 s (k / 4)).toNat : Int) / 2 ^ (24 - k % 4 * 8) = (((at32 s (k / 4)).toNat / 2 ^ (24 - k % 4 * 8) : Nat) : Int) := by simp
  rw [this]; omega
theorem row_new8 (w : World) : (w.alloc (.cells #[.int .u8 0, .int .u8 0, .int .u8 0, .int .u8 0, .int .u8 0, .int .u8 0, .int .u8 0, .int .u8 0, .int .u8 0, .int .u8 0, .int .u8 0, .int .u8 0, .int .u8 0, .int .u8 0, .int .u8 0, .int .u8 0, .int .u8 0, .int .u8 0, .int .u8 0, .int .u8 0, .int .u8 0, .int .u8 0, .int .u8 0, .int .u8 0, .int .u8 0, .int .u8 0, .int .u8 0, .int .u8 0, .int .u8 0, .int .u8 0, .int .u8 0, .int .u8 0] 268)).heap[w.heap.size]? = some (.cells (c8 (List.replicate 32 0)) 268 (0, 0)) := row_new _ _ _
theorem row8_cell {w : World} {B T : Nat} {l : List UInt8} (h : w.heap[B]? = some (.cells (c8 l) T (0, 0))) (i : Nat) (hi : i < l.length) :
    w.cell? ⟨B, i, none⟩ = some (.int .u8 (N8 (at8 l i))) := by
  unfold World.cell?; rw [h]; simp only [Option.isSome_none, Bool.false_eq_true, if_false]; exact c8_at l i hi
theorem row8_set {w : World} {B T : Nat} {l : List UInt8} (h : w.heap[B]? = some (.cells (c8 l) T (0, 0))) (i : Nat) (x : UInt8) :
    (w.setCell ⟨B, i, none⟩ (.int .u8 (N8 x))).heap[B]? = some (.cells (c8 (l.set i x)) T (0, 0)) := by
  unfold World.setCell; simp only [Array.getElem?_modify, h, if_true, Option.map_some, Option.isSome_none, Bool.false_eq_true, if_false, c8_set]
end Go.Proofs.YtlgbdgpgdimpdaaGreatDoor
namespace Go.Proofs.YtlgbdgpgdimpdaaGreatDoor
open Go.RowKit
attribute [local go_sem] u8_bits_xor
def keyW (key : List UInt8) : List UInt8 := key ++ List.replicate (64 - key.length) 0
def chgTo (key : List UInt8) (c : UInt8) : Nat → List UInt8
  | 0 => keyW key
  | k + 1 => (chgTo key c k).set k (at8 (chgTo key c k) k ^^^ c)
theorem keyW_length (key : List UInt8) (h : key.length ≤ 64) : (keyW key).length = 64 := by simp [keyW]; omega
theorem chgTo_length (key : List UInt8) (c : UInt8) (k : Nat) (h : key.length ≤ 64) : (chgTo key c k).length = 64 := by
  induction k with
  | zero => exact keyW_length key h
  | succ k ih => simp [chgTo, ih]
def chg (key : List UInt8) (c : UInt8) : List UInt8 := chgTo key c 64
theorem chg_length (key : List UInt8) (c : UInt8) (h : key.length ≤ 64) : (chg key c).length = 64 := chgTo_length key c 64 h
theorem info5s : (Tryz.prog.info? 5).map (·.size) = some 1 := by kernel_rfl
theorem make64 (w : World) : (Instr.makeSlice 23 (.int .i64 64) (.int .i64 64)).run Tryz.prog w = .ok (.slice (some ⟨w.heap.size, 0, none⟩) 64 64) (w.alloc (.cells (c8l (List.replicate 64 0)).toArray 5)) := by kernel_rfl
theorem splice_key (key : List UInt8) (_h : key.length ≤ 64) : splice (c8l (List.replicate 64 0)) 0 (c8l key) = c8l (keyW key) := by
  unfold splice keyW
  rw [List.take_zero, List.nil_append, c8l_append, Nat.zero_add, c8l_length]
  congr 1
  unfold c8l
  rw [← List.map_drop, List.drop_replicate]
def ChgR (key : List UInt8) (c : UInt8) (w : World) (i : Value) (wr : World) : Prop :=
  ∃ k : Nat, k ≤ 64 ∧ i = .int .i64 k ∧ wr.heap[w.heap.size]? = some (.cells (c8 (chgTo key c k)) 5 (0, 0)) ∧ Below w.heap.size w wr
def ChgP (key : List UInt8) (c : UInt8) (w : World) (e : Ending) (w' : World) : Prop :=
  e = .returned (.slice (some ⟨w.heap.size, 0, none⟩) 64 64) ∧ w'.heap[w.heap.size]? = some (.cells (c8 (chg key c)) 5 (0, 0)) ∧ Below w.heap.size w w'
set_option maxHeartbeats 1000000 in
theorem changed_at (a : Option Addr) (n cp : Nat) (key : List UInt8) (c : UInt8) (w : World) (hn : n = key.length) (h : BSl w (.slice a n cp) key) (hl : key.length ≤ 64) :
    Calls Tryz.prog 179 #[.slice a n cp, .int .u8 (N8 c)] w (ChgP key c w) := by
  have hb0 : Below w.heap.size w (w.alloc (.cells (c8l (List.replicate 64 0)).toArray 5)) := (Below.refl _ _).alloc (Nat.le_refl _) _
  have h0 := h.below hb0 (Nat.le_refl _)
  have HN := Lib.hid hn
  have HMK := Lib.hid make64
  have hpos : 0 < (c8l key).length → (some ⟨w.heap.size, 0, none⟩ : Option Addr) = some ⟨w.heap.size, 0, none⟩ ∧ ∃ ad, a = some ad ∧ ∀ j v, (c8l key)[j]? = some v → (w.alloc (.cells (c8l (List.replicate 64 0)).toArray 5)).cell? (ad.add j) = some v := by
    intro hp
    rw [c8l_length] at hp
    rcases h0 with ⟨e, hk⟩ | ⟨b, off, c1, e, hc1, hlt, hcell⟩ | ⟨_, e, hk⟩
    rotate_right
    · subst hk; simp at hp
    · subst hk; simp at hp
    · cases e
      exact ⟨rfl, _, rfl, news_of hcell⟩
  have HP := Lib.hid hpos
  clear hpos h0 h
  have hmk : ∀ w : World, (Instr.makeSlice 23 (.int .i64 64) (.int .i64 64)).run Tryz.prog w = .ok (.slice (some ⟨w.heap.size, 0, none⟩) 64 64) (w.alloc (.cells (c8l (List.replicate 64 0)).toArray 5)) := make64
  clear hn
  have hn64 : n ≤ 64 := by have := HN.out; omega
  go_enter Tryz.func179, Tryz.ntmps179
  go_wp2_with (refine wpList_copy_splice rfl (.tmp 8) (.tmp 9) 23 23 rfl 5 Tryz.underlying23 info5s (some ⟨w.heap.size, 0, none⟩) a 64 64 n cp rfl rfl w.heap.size 0 (c8l (List.replicate 64 0)) 5 (row_new _ _ _) (c8l key) (by rw [c8l_length, HN.out]; exact (Nat.min_eq_left (by omega)).symm) HP.out (by rw [c8l_length, c8l_length]; simp; omega) (c8l_one _) w.heap.size w hb0 (Nat.le_refl _) ?_; intro w2 HG2 hb2)
  rw [splice_key key hl] at HG2
  clear hmk
  go_wp2
  go_loopw [13] (ChgR key c w) (fun i _ => 64 - (intOf i).toNat)
  case atStart => exact ⟨0, by omega, rfl, HG2.out, hb2⟩
  case round =>
    obtain ⟨k, hk, rfl, hG, hb3⟩ := hrel
    have HG := Lib.hid hG
    clear hG
    by_cases h64 : k < 64
    · have d64 : decide ((k : Int) < 64) = true := decide_eq_true (by omega)
      have ck := row8_cell HG.out k (by rw [chgTo_length _ _ _ hl]; exact h64)
      have fk := row_free HG.out k
      have HF := Lib.hid (row8_set HG.out k (at8 (chgTo key c k) k ^^^ c))
      go_wp2
      go_roundw
      case rel => exact ⟨k + 1, by omega, by go_num, HF.out, hb3.setCell (Nat.le_refl _) _⟩
      case measure => simp [intOf]; omega
    · have d64 : decide ((k : Int) < 64) = false := decide_eq_false (by omega)
      obtain rfl : k = 64 := by omega
      go_wp2
      go_ret
      exact ⟨rfl, HG.out, hb3⟩
end Go.Proofs.YtlgbdgpgdimpdaaGreatDoor
namespace Go.Proofs.YtlgbdgpgdimpdaaGreatDoor
open Go.RowKit
theorem info22 : (Tryz.prog.info? 23).map (fun i => (i.zero, i.size, i.bytes)) = some (some (.slice none 0 0), 1, 24) := by kernel_rfl
def OwnedV (w : World) (n : Nat) (xs : List Value) (e : Ending) (w' : World) : Prop :=
  ∃ v, e = .returned v ∧ w'.ownsRow w.heap.size 23 1 v n xs ∧ Below w.heap.size w w'
set_option maxHeartbeats 400000 in
theorem clone_nil (w : World) : Calls Tryz.prog 178 #[.slice none 0 0] w (OwnedV w 0 []) := by
  have he := fun w : World => Lib.run_eql_slice_nil (P := Tryz.prog) w 41 23 none 0 0 0 0 Tryz.underlying41
  go_enter Tryz.func178, Tryz.ntmps178
  go_wp2
  go_ret
  exact ⟨_, rfl, ⟨rfl, .inl ⟨rfl, rfl⟩⟩, Below.refl _ _⟩
set_option maxHeartbeats 400000 in
theorem clone_some (b off c : Nat) (vs : List Value) (w : World) (hlt : b < w.heap.size) (hn : vs.length ≤ 1000000000)
    (hcell : ∀ j u, vs[j]? = some u → w.cell? ((⟨b, off, none⟩ : Addr).add j) = some u) (h1 : ∀ u ∈ vs, u.oneCell' = true) :
    Calls Tryz.prog 178 #[.slice (some ⟨b, off, none⟩) vs.length c] w (OwnedV w vs.length vs) := by
  obtain ⟨i0, hi, hz0, hz1, hz2⟩ := info_parts info22
  have HI := Lib.hid hi
  have HZ := Lib.hid hz0
  have H1 := Lib.hid hz1
  have H2 := Lib.hid hz2
  clear hi hz0 hz1 hz2
  have he := fun w : World => Lib.run_eql_slice_nil (P := Tryz.prog) w 41 23 (some ⟨b, off, none⟩) vs.length c 0 0 Tryz.underlying41
  have hb0 : Below w.heap.size w (w.alloc (.cells #[] 23)) := (Below.refl _ _).alloc (Nat.le_refl _) _
  have hown : (w.alloc (.cells #[] 23)).ownsRow w.heap.size 23 1 (.slice (some ⟨w.heap.size, 0, none⟩) 0 0) 0 [] := ⟨rfl, .inr ⟨w.heap.size, 0, #[], rfl, Nat.le_refl _, row_new _ _ _, Nat.le_refl _, by unfold maxLen; omega, rfl, rfl⟩⟩
  have HC : Hid (∀ j u, vs[j]? = some u → (w.alloc (.cells #[] 23)).cell? ((⟨b, off, none⟩ : Addr).add j) = some u) := fun j u hu => by
    have := hcell j u hu
    rw [Addr.add_mid] at this ⊢
    rw [hb0.cell (p := ⟨b, off + j, none⟩) hlt]; exact this
  clear hcell
  go_enter Tryz.func178, Tryz.ntmps178
  go_wp2_with (at_builtin; refine wpList_append_own _ rfl (.tmp 5) (.tmp 6) 41 rfl w.heap.size 23 i0 (.slice none 0 0) 1 24 Tryz.underlying41 HI.out HZ.out H1.out H2.out rfl (by decide) _ _ _ rfl hown ⟨b, off, none⟩ vs.length c vs rfl (by omega) HC.out h1 (by unfold maxLen; omega) (by omega) (by simp) ?_)
  intro v' w2 hown2 hg2 _
  have hb2 : Below w.heap.size w w2 := hb0.grown hg2 (by simp) (fun g hg => owns_block hown hg)
  go_wp2
  go_ret
  exact ⟨_, rfl, hown2, hb2⟩
def InsP (base : Nat) (row : Option Nat) (w : World) (cv : Value) (n : Nat) (vs : List Value) (e : Ending) (w' : World) : Prop :=
  ∃ v, e = .returned v ∧ w'.ownsRow base 23 1 v (n + 1) (cv :: vs) ∧ w.grownBy w' row
theorem grown_of_below {w w' : World} (h : Below w.heap.size w w') (row : Option Nat) : w.grownBy w' row := ⟨h.os, h.tape, h.output, h.size, fun k hk _ => h.block k hk⟩
set_option maxHeartbeats 400000 in
theorem insert_empty (base vb : Nat) (sv cv : Value) (w : World) (hown : w.ownsRow base 23 1 sv 0 []) (hbase : base ≤ w.heap.size) (hcell : w.cell? ⟨vb, 0, none⟩ = some cv) (h1 : cv.oneCell' = true) :
    Calls Tryz.prog 177 #[sv, .int .i64 0, .slice (some ⟨vb, 0, none⟩) 1 1] w (InsP base sv.ownBlock w cv 0 []) := by
  obtain ⟨i0, hi, hz0, hz1, hz2⟩ := info_parts info22
  have HI := Lib.hid hi
  have HZ := Lib.hid hz0
  have H1 := Lib.hid hz1
  have H2 := Lib.hid hz2
  clear hi hz0 hz1 hz2
  have HC : Hid (∀ j u, [cv][j]? = some u → w.cell? ((⟨vb, 0, none⟩ : Addr).add j) = some u) := fun j u hu => by
    have hj : j = 0 := by have := (List.getElem?_eq_some_iff.1 hu).1; simpa using this
    subst hj
    rw [Addr.add_mid, hcell, ← hu]; rfl
  clear hcell
  rcases hown.2 with ⟨rfl, _⟩ | ⟨g, cap, cur, rfl, hg, hh, _⟩
  all_goals
    go_enter Tryz.func177, Tryz.ntmps177
    go_wp2_with (at_builtin; refine wpList_append_own _ rfl (.tmp 23) (.tmp 24) 41 rfl base 23 i0 (.slice none 0 0) 1 24 Tryz.underlying41 HI.out HZ.out H1.out H2.out rfl (by decide) _ _ _ rfl hown ⟨vb, 0, none⟩ 1 1 [cv] rfl rfl HC.out (by simpa using h1) (by unfold maxLen; omega) (by omega) hbase ?_)
    intro v' w2 hown2 hg2 _
    go_wp2
    go_ret
    exact ⟨_, rfl, hown2, hg2⟩
theorem zeroCells_nil (k : Nat) : Builtin.zeroCells (Value.slice none 0 0).cells k = (List.replicate k (Value.slice none 0 0)).toArray := by
  apply Array.ext'
  simp only [Builtin.zeroCells, Value.cells]
  apply List.ext_getElem
  · simp
  · intro i h1 h2
    simp [Nat.mod_one]
theorem info22s : (Tryz.prog.info? 23).map (·.size) = some 1 := by kernel_rfl
theorem one_pos {w : World} {g b off : Nat} {cv : Value} (hcell : w.cell? ⟨b, 0, none⟩ = some cv) :
    0 < [cv].length → (some ⟨g, off, none⟩ : Option Addr) = some ⟨g, off, none⟩ ∧ ∃ ad, (some ⟨b, 0, none⟩ : Option Addr) = some ad ∧ ∀ j v, [cv][j]? = some v → w.cell? (ad.add j) = some v := by
  refine fun _ => ⟨rfl, _, rfl, fun j v hv => ?_⟩
  have hj : j = 0 := by have := (List.getElem?_eq_some_iff.1 hv).1; simpa using this
  subst hj
  rw [Addr.add_mid, hcell, ← hv]; rfl
theorem one_src {w : World} {b : Nat} {cv : Value} (hcell : w.cell? ⟨b, 0, none⟩ = some cv) : ∀ j v, [cv][j]? = some v → w.cell? ((⟨b, 0, none⟩ : Addr).add j) = some v := by
  intro j v hv
  have hj : j = 0 := by have := (List.getElem?_eq_some_iff.1 hv).1; simpa using this
  subst hj
  rw [Addr.add_mid, hcell, ← hv]; rfl
theorem row_pos {w : World} {g b off : Nat} {vs : List Value} (h : ∀ j v, vs[j]? = some v → w.cell? ((⟨b, 0, none⟩ : Addr).add j) = some v) :
    0 < vs.length → (some ⟨g, off, none⟩ : Option Addr) = some ⟨g, off, none⟩ ∧ ∃ ad, (some ⟨b, 0, none⟩ : Option Addr) = some ad ∧ ∀ j v, vs[j]? = some v → w.cell? (ad.add j) = some v :=
  fun _ => ⟨rfl, _, rfl, h⟩
theorem spl_a (nc : Nat) (cv : Value) (vs : List Value) (h : vs.length + 1 ≤ nc) :
    (splice (splice (List.replicate nc (Value.slice none 0 0)) 0 [cv]) 1 vs).length = nc ∧ (splice (splice (List.replicate nc (Value.slice none 0 0)) 0 [cv]) 1 vs).take (vs.length + 1) = cv :: vs := by
  have hl : (splice (List.replicate nc (Value.slice none 0 0)) 0 [cv]).length = nc := by rw [length_splice _ _ _ (by simp; omega)]; simp
  refine ⟨by rw [length_splice _ _ _ (by rw [hl]; omega), hl], ?_⟩
  have e : splice (List.replicate nc (Value.slice none 0 0)) 0 [cv] = cv :: List.replicate (nc - 1) (Value.slice none 0 0) := by simp [splice]
  rw [e]
  simp [splice]
theorem spl_b (cur : List Value) (cv : Value) (vs : List Value) (h : vs.length + 1 ≤ cur.length) :
    (splice (splice cur 1 vs) 0 [cv]).length = cur.length ∧ (splice (splice cur 1 vs) 0 [cv]).take (vs.length + 1) = cv :: vs := by
  have hl : (splice cur 1 vs).length = cur.length := length_splice _ _ _ (by omega)
  refine ⟨by rw [length_splice _ _ _ (by rw [hl]; simp; omega), hl], ?_⟩
  cases cur with
  | nil => simp at h
  | cons x xs => simp [splice]
set_option maxRecDepth 100000 in
set_option maxHeartbeats 400000 in
theorem insert_grow (base vb g n cap : Nat) (cv : Value) (vs : List Value) (w : World) (hown : w.ownsRow base 23 1 (.slice (some ⟨g, 0, none⟩) n cap) n vs) (hbase : base ≤ w.heap.size) (hn : 0 < n) (hn2 : n ≤ 1000000000)
    (hcap : cap < n + 1) (hcell : w.cell? ⟨vb, 0, none⟩ = some cv) (h1 : cv.oneCell' = true) (h2 : ∀ u ∈ vs, u.oneCell' = true) (hvb : vb < w.heap.size) (hgw : g < w.heap.size) :
    Calls Tryz.prog 177 #[.slice (some ⟨g, 0, none⟩) n cap, .int .i64 0, .slice (some ⟨vb, 0, none⟩) 1 1] w (InsP base (some g) w cv n vs) := by
  obtain ⟨i0, hi, hz0, hz1, hz2⟩ := info_parts info22
  have hvl : vs.length = n := by have := hown.1; omega
  have hnc : n ≤ cap := by
    rcases hown.2 with ⟨e, _⟩ | ⟨g', cap', cur', e, _, _, h, _⟩
    · cases e
    · cases e; exact h
  have hvs : ∀ j u, vs[j]? = some u → w.cell? ((⟨g, 0, none⟩ : Addr).add j) = some u := hown.cells (g := g) rfl
  have hold := run_firstCells_some (P := Tryz.prog) w.drew i0.size 0 ⟨g, 0, none⟩ 0 cap [] (by simp) (fun j u hu => by simp at hu)
  have hr := Lib.run_append_grow_zeros (P := Tryz.prog) w 41 3 41 23 i0 (.slice none 0 0) .i64 .i64 Tryz.underlying41 Tryz.underlying3 hi hz0 (some ⟨g, 0, none⟩) 0 cap [] hold (n + 1) (by omega) (by rw [hz1]; decide) (by omega) (by omega) (by rw [hz2]; omega) (growslice_fits (by omega) (by rw [hz2]; omega))
  rw [Nat.zero_add, zeroCells_nil, zeroCells_nil] at hr
  obtain ⟨nc, hnc2⟩ : ∃ nc, nc = grownCap w (n + 1) cap 23 := ⟨_, rfl⟩
  have hge := grownCap_ge w (n + 1) cap 23
  have hle := grownCap_le_maxLen w (n + 1) cap 23 (by unfold maxLen; omega)
  rw [← hnc2] at hr hge hle
  clear hnc2
  have hcat : ([] : List Value).toArray ++ (List.replicate (n + 1) (Value.slice none 0 0)).toArray ++ (List.replicate (nc - (n + 1)) (Value.slice none 0 0)).toArray = (List.replicate nc (Value.slice none 0 0)).toArray := by
    apply Array.ext'; simp; omega
  rw [hcat] at hr
  have HR := Lib.hid hr
  clear hr hcat hold hi hz0 hz1 hz2
  obtain ⟨w1, hw1⟩ : ∃ w1, w1 = w.drew.alloc (.cells (List.replicate nc (Value.slice none 0 0)).toArray 23) := ⟨_, rfl⟩
  rw [← hw1] at HR
  have hb1 : Below w.heap.size w w1 := by rw [hw1]; exact (Below.refl _ _).drew.alloc (by simp) _
  have HG1 : Hid (w1.heap[w.heap.size]? = some (.cells (List.replicate nc (Value.slice none 0 0)).toArray 23 (0, 0))) := by rw [hw1]; exact row_new w.drew _ _
  clear hw1
  have c1 : w1.cell? ⟨vb, 0, none⟩ = some cv := (hb1.cell (p := ⟨vb, 0, none⟩) hvb).trans hcell
  have dn : (((n : Int)) == 0) = false := by simp; omega
  have dn' : ((0 : Int) == (n : Int)) = false := by simp; omega
  have dc : decide ((cap : Int) < (n : Int) + 1) = true := decide_eq_true (by omega)
  have z1 : (0 : Int) ≤ (n : Int) := by omega
  go_enter Tryz.func177, Tryz.ntmps177
  go_wp2_with (first | (at_builtin; refine Lib.wpList_append_run w rfl (.tmp 34) (.tmp 39) 41 3 rfl (.slice (some ⟨g, 0, none⟩) 0 cap) (.int .i64 ((n + 1 : Nat) : Int)) rfl rfl _ _ HR.out ?_) | (refine wpList_copy_splice rfl (.tmp 43) (.tmp 44) 41 41 rfl 23 Tryz.underlying41 info22s (some ⟨w.heap.size, 0, none⟩) (some ⟨vb, 0, none⟩) (n + 1) nc 1 1 rfl rfl w.heap.size 0 _ 23 HG1.out [cv] (by simp) (one_pos c1) (by simp; omega) (by simpa using h1) w.heap.size w hb1 (Nat.le_refl _) ?_; intro w2 HG2 hb2))
  go_frame
  have hz2 := hb2.size
  have HV2 : Hid (∀ j u, vs[j]? = some u → w2.drew.cell? ((⟨g, 0, none⟩ : Addr).add j) = some u) := fun j u hu => by
    have := hvs j u hu
    rw [Addr.add_mid] at this ⊢
    rw [hb2.drew.cell (p := ⟨g, 0 + j, none⟩) hgw]; exact this
  clear hvs
  have HG2d : Hid (w2.drew.heap[w.heap.size]? = some (.cells (splice (List.replicate nc (Value.slice none 0 0)) 0 [cv]).toArray 23 (0, 0))) := HG2.out
  have e1 : IntKind.i64.wrap 1 = 1 := by decide
  have ne1 : ¬ nc = 1 := by omega
  have q1 : (1 : Int) ≤ (n : Int) + 1 := by omega
  have q2 : (1 : Int) ≤ (nc : Int) := by omega
  have q3 : (1 : Int) < (nc : Int) := by omega
  go_still_tail 8, (by kernel_rfl)
  change wpList _ _ _ _ _ w2.drew
  refine wpList_copy_splice rfl (.tmp 50) (.tmp 53) 41 41 rfl 23 Tryz.underlying41 info22s (some ⟨w.heap.size, 1, none⟩) (some ⟨g, 0, none⟩) n (nc - 1) n cap rfl rfl w.heap.size 1 _ 23 HG2d.out vs (by simp; omega) (row_pos HV2.out) (by rw [length_splice _ _ _ (by simp; omega)]; simp; omega) h2 w.heap.size w hb2.drew (Nat.le_refl _) ?_
  intro w3 HG3 hb3
  go_wp2
  go_ret
  obtain ⟨t1, t2⟩ := spl_a nc cv vs (by omega)
  exact ⟨_, rfl, ⟨by simp [hvl], .inr ⟨w.heap.size, nc, _, rfl, hbase, HG3.out, hge, hle, by simp [t1], by simp only [Nat.mul_one]; rw [← hvl]; exact t2⟩⟩, grown_of_below hb3 _⟩
theorem size22 (w : World) : (Go.sizeOf 23).run Tryz.prog w = .ok 1 w := by
  obtain ⟨i0, hi, hz0, hz1, hz2⟩ := info_parts info22
  simp [sizeOf, typeInfo, hi, hz1]
set_option maxRecDepth 100000 in
set_option maxHeartbeats 400000 in
theorem insert_room (base vb g n cap : Nat) (cv : Value) (vs : List Value) (w : World) (hown : w.ownsRow base 23 1 (.slice (some ⟨g, 0, none⟩) n cap) n vs) (_hbase : base ≤ w.heap.size) (hn : 0 < n) (hn2 : n ≤ 1000000000)
    (hcap : n + 1 ≤ cap) (hcell : w.cell? ⟨vb, 0, none⟩ = some cv) (h1 : cv.oneCell' = true) (h2 : ∀ u ∈ vs, u.oneCell' = true) (hvg : vb ≠ g) (hvr : ∃ C, w.heap[vb]? = some (.cells C 23 (0, 0))) :
    Calls Tryz.prog 177 #[.slice (some ⟨g, 0, none⟩) n cap, .int .i64 0, .slice (some ⟨vb, 0, none⟩) 1 1] w (InsP base (some g) w cv n vs) := by
  have hvl : vs.length = n := by have := hown.1; omega
  have hvs : ∀ j u, vs[j]? = some u → w.drew.cell? ((⟨g, 0, none⟩ : Addr).add j) = some u := hown.cells (g := g) rfl
  obtain ⟨cur, hbg, hg, hcm, hcs, htake⟩ : ∃ cur : Array Value, base ≤ g ∧ w.heap[g]? = some (.cells cur 23 (0, 0)) ∧ cap ≤ maxLen ∧ cur.size = cap ∧ cur.toList.take n = vs := by
    rcases hown.2 with ⟨e, _⟩ | ⟨g', cap', cur', e, h1, h2, _, h3, h4, h5⟩
    · cases e
    · cases e; exact ⟨cur', h1, h2, h3, by simpa using h4, by simpa using h5⟩
  have HG := Lib.hid hg
  have HV := Lib.hid hvs
  clear hg hvs
  have hcmx : cap ≤ 9223372036854775807 := hcm
  have dn : (((n : Int)) == 0) = false := by simp; omega
  have dn' : ((0 : Int) == (n : Int)) = false := by simp; omega
  have dc : decide ((cap : Int) < (n : Int) + 1) = false := decide_eq_false (by omega)
  have z1 : (0 : Int) ≤ (n : Int) := by omega
  have e1 : IntKind.i64.wrap 1 = 1 := by decide
  have ne1 : ¬ cap = 1 := by omega
  have hov : (callFunc 196 #[.slice (some ⟨vb, 0, none⟩) 1 1, .slice (some ⟨g, 1, none⟩) n (cap - 1)]).run Tryz.prog w = .ok (.value (.bool false)) w := by
    obtain ⟨C, hC⟩ := hvr
    rw [run_callFunc_extern Tryz.func196 (by kernel_rfl) (by kernel_rfl) (by kernel_rfl) (e := Extern.SlicesOverlaps.overlaps #[41, 41] #[4]) (by kernel_rfl),
      Lib.run_overlaps_apart w 41 4 23 Tryz.underlying41 1 size22 ⟨vb, 0, none⟩ ⟨g, 1, none⟩ 1 1 n (cap - 1) hvg 23 23 C.size cur.size (by simp [World.shape?, hC]) (by have := HG.out; simp [World.shape?, this]) (by omega) (row_free hC 0) (row_free hC C.size)]
    rfl
  have HGd : Hid (w.drew.heap[g]? = some (.cells cur.toList.toArray 23 (0, 0))) := by rw [Array.toArray_toList]; exact HG.out
  have q1 : (1 : Int) ≤ (n : Int) + 1 := by omega
  have q2 : (1 : Int) ≤ (cap : Int) := by omega
  have q3 : (1 : Int) < (cap : Int) := by omega
  have z2 : (0 : Int) ≤ (n : Int) + 1 := by omega
  have ne0 : ¬ cap = 0 := by omega
  go_enter Tryz.func177, Tryz.ntmps177
  go_wp2
  go_still_tail 8, (by kernel_rfl)
  change wpList _ _ _ _ _ w.drew
  refine wpList_copy_own rfl (.tmp 73) (.tmp 76) 41 41 rfl 23 Tryz.underlying41 info22s g 1 n (cap - 1) ⟨g, 0, none⟩ (n + 1) cap rfl rfl cur.toList.toArray 23 HGd.out vs (by simp; omega) (fun j v hv => HV.out j v hv) (by simp; omega) h2 ?_
  have HG3 : Hid ((w.drew.setRow g (splice cur.toList 1 vs).toArray).heap[g]? = some (.cells (splice cur.toList 1 vs).toArray 23 (0, 0))) := setRow_heap _ _ _ _ _ _ HGd.out
  have hg3 : w.grownBy (w.drew.setRow g (splice cur.toList 1 vs).toArray) (some g) := ⟨rfl, rfl, rfl, by simp, fun k hk hne => setRow_other _ _ _ _ (fun e => hne (by rw [e]))⟩
  have c3 : (w.drew.setRow g (splice cur.toList 1 vs).toArray).cell? ⟨vb, 0, none⟩ = some cv := (World.cell?_of_block (setRow_other _ _ _ _ hvg)).trans hcell
  change wpList _ _ _ _ _ (w.drew.setRow g (splice cur.toList 1 vs).toArray)
  generalize w.drew.setRow g (splice cur.toList 1 vs).toArray = w3 at *
  go_wp2_with (refine wpList_copy_own rfl (.tmp 80) (.tmp 81) 41 41 rfl 23 Tryz.underlying41 info22s g 0 (n + 1) cap ⟨vb, 0, none⟩ 1 1 rfl rfl (splice cur.toList 1 vs).toArray 23 HG3.out [cv] (by simp) (one_src c3) (by simp; rw [length_splice _ _ _ (by simp; omega)]; simp; omega) (by simpa using h1) ?_)
  have e4 : splice (splice cur.toList 1 vs) 0 [cv] = cv :: (splice cur.toList 1 vs).tail := by
    have : ∀ L : List Value, splice L 0 [cv] = cv :: L.tail := fun L => by simp [splice]
    exact this _
  obtain ⟨t1, t2⟩ := spl_b cur.toList cv vs (by simp; omega)
  rw [e4] at t1 t2
  go_ret
  exact ⟨_, rfl, ⟨by simp [hvl], .inr ⟨g, cap, _, rfl, hbg, setRow_heap _ _ _ _ _ _ HG3.out, hcap, hcm, by rw [List.size_toArray, t1]; simp [hcs], by simp only [Nat.mul_one]; rw [← hvl]; exact t2⟩⟩,
    ⟨hg3.os, hg3.tape, hg3.output, by simpa using hg3.size, fun k hk hne => (setRow_other _ _ _ _ (fun e => hne (by rw [e]))).trans (hg3.block k hk hne)⟩⟩
end Go.Proofs.YtlgbdgpgdimpdaaGreatDoor
namespace Go.Proofs.YtlgbdgpgdimpdaaGreatDoor
open Go
def bI (l : List UInt8) : List Int := l.map N8
def wI (l : List UInt32) : List Int := l.map N32
theorem wI_length (l : List UInt32) : (wI l).length = l.length := by simp [wI]
theorem bI_getD (l : List UInt8) (k : Nat) : (bI l).getD k 0 = N8 (at8 l k) := by
  rw [bI, at8, List.getD_eq_getElem?_getD, List.getElem?_map, List.getD_eq_getElem?_getD]
  cases l[k]? <;> rfl
theorem wI_getD (l : List UInt32) (k : Nat) : (wI l).getD k 0 = N32 (at32 l k) := by
  rw [wI, at32, List.getD_eq_getElem?_getD, List.getElem?_map, List.getD_eq_getElem?_getD]
  cases l[k]? <;> rfl
def toBs (l : List Int) : List UInt8 := l.map fun n => UInt8.ofNat n.toNat
theorem bI_toBs (l : List Int) (h : ∀ n ∈ l, 0 ≤ n ∧ n ≤ 255) : bI (toBs l) = l := by
  unfold bI toBs
  rw [List.map_map]
  conv => rhs; rw [← List.map_id l]
  refine List.map_congr_left fun n hn => ?_
  have := h n hn
  simp only [Function.comp_apply, id_eq, N8, UInt8.toNat_ofNat']
  omega
theorem toBs_length (l : List Int) : (toBs l).length = l.length := by simp [toBs]
theorem toBs_bI (l : List UInt8) : toBs (bI l) = l := by
  unfold toBs bI
  rw [List.map_map]
  conv => rhs; rw [← List.map_id l]
  refine List.map_congr_left fun n _ => ?_
  simp [N8]
end Go.Proofs.YtlgbdgpgdimpdaaGreatDoor
