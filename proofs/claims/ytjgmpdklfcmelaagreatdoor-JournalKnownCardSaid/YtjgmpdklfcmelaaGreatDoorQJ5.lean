/- Part 5 of the proof: texts of the proof. -/
import Derived.Test.YtjgmpdklfcmelaaGreatDoorQJ4
import Derived.RangeFuncLeaves
import Derived.Sort.LoopGhostIn
import Derived.Test.YtjgmpdklfcmelaaGreatDoorRows
import Derived.WalkKit
import Derived.Deep.Draws
import Derived.OwnWalk
import Derived.Laws.AppendOwnNone
import Derived.WalkSpells
import Derived.WalkLawsBesides
import Derived.Deep.QuietTactic
import Derived.BigQuiet
import Derived.Lib.Hide
import Derived.Deep.RegionHeld3
import Derived.Deep.RegionLaw
import Derived.Laws.CopyOwn
import Derived.Lib.AppendZeros
import Derived.RangeFuncBox
import Derived.OwnWalkIn
import Derived.TacticsInMore
import Derived.LoopNIn
import Derived.LoopIn
import Derived.RangeFuncWrites
import Derived.Lib.AppendZerosOnto
import Derived.Shelf.Abstract
import Derived.RangeFuncCalls
import Derived.Lib.Overlaps
import Derived.Deep.MidRow
import Derived.StillTailTactics
namespace Go.Proofs.YtjgmpdklfcmelaaGreatDoor.V2
open Go
noncomputable section
section
variable {P : Program} {Γ : Gam} {pu : FuncId → Bool} {G nt N : Nat} {ρ0 : Ren} {σ0 : AH} {W0 : World}
def SoundAt (P : Program) (pu : FuncId → Bool) (G nt : Nat) (Y : List Yl) (c : Code) : Prop := ∀ (c' : ACode), compC P G nt pu c = some c' → ∀ {N B : Nat} {ρ0 : Ren} {σ0 : AH} {W0 : World} {ro : Option Nat} {Γ : Gam}, GamOk P G Γ Y ∧ PuOk Γ pu ∧ (ro ≠ none → Γ.up = fun _ _ => .no) → Start Y N B ρ0 σ0 W0 → ∀ (K : AK) (env : T AV) (σ : AH) (ρ : Ren) (W : World) (a : Act),
    avc std Γ G nt N c' K env σ → HR ρ σ W → ER G nt ρ env a → Stp N ρ0 σ0 W0 ρ σ W → Mks ρ W a.defers ∧ (∀ r, dmark r ∈ a.defers → B ≤ r) → c.wpIn (fen ro) 0 P (AQ G nt N B ρ0 σ0 W0 K) a W
theorem inv_block {id : Nat} {c : Code} {a : ACode} (h : compC P G nt pu (.block id c) = some a) : ∃ c', compC P G nt pu c = some c' ∧ a = .block id c' := by
  unfold compC at h
  split at h
  · cases h
  · rename_i c' hc; cases h; exact ⟨c', hc, rfl⟩
theorem inv_loop {c : Code} {a : ACode} (h : compC P G nt pu (.loop c) = some a) : ∃ c', compC P G nt pu c = some c' ∧ a = .loop c' := by
  unfold compC at h
  split at h
  · cases h
  · rename_i c' hc; cases h; exact ⟨c', hc, rfl⟩
theorem inv_seq {x y : Code} {a : ACode} (h : compC P G nt pu (.seq x y) = some a) : ∃ x' y', compC P G nt pu x = some x' ∧ compC P G nt pu y = some y' ∧ a = mkSeq P G nt x y x' y' := by
  unfold compC at h
  split at h
  · cases h
  · rename_i x' hx
    split at h
    · cases h
    · rename_i y' hy; cases h; exact ⟨x', y', hx, hy, rfl⟩
theorem mkFor_none {x y : Code} {y' : ACode} (h : rangeOf P G nt x = none ∨ ∀ it, loopOf P G nt it y = none) : mkFor P G nt x y y' = none := by
  unfold mkFor
  rcases h with h | h
  · rw [h]
  · split
    · rfl
    · rw [h]
theorem mkSeq_nb {x y : Code} {x' y' : ACode} (h : rangeOf P G nt x = none) : mkSeq P G nt x y x' y' = .seq x' y' := by
  unfold mkSeq
  rw [mkFor_none (.inl h)]
  dsimp only
  split
  · rw [mkFor_none (.inl h)]
  · rfl
theorem mkSeq_cases {x y : Code} {x' y' : ACode} : mkSeq P G nt x y x' y' = .seq x' y' ∨ (∃ z, mkFor P G nt x y y' = some z ∧ mkSeq P G nt x y x' y' = z) ∨ ∃ y1 y2 y1' y2' z, y = .seq y1 y2 ∧ y' = .seq y1' y2' ∧ mkFor P G nt x y1 y1' = some z ∧ mkSeq P G nt x y x' y' = .seq z y2' := by
  unfold mkSeq
  split
  · rename_i z hz; exact .inr (.inl ⟨z, hz, rfl⟩)
  · split
    · split
      · rename_i hz; exact .inr (.inr ⟨_, _, _, _, _, rfl, rfl, hz, rfl⟩)
      · exact .inl rfl
    · exact .inl rfl
theorem loopOf_form {it : Nat} {y : Code} {m : ML} {BODY : Code} (h : loopOf P G nt it y = some (m, BODY)) : ∃ id i1 ON n1 id1 i2 OE, y = .block id (.loop (.seq (.region i1 ON false) (.seq (.cond (.tmp n1) .skip (.exit id)) (.block id1 (.seq (.region i2 OE false) BODY))))) := by
  unfold loopOf at h
  split at h
  · rename_i id i1 ON n1 id' id1 i2 OE BODY'
    generalize hid : Nat.beq id' id = bi at h
    cases bi with
    | false => cases h
    | true =>
    obtain rfl := Nat.eq_of_beq_eq_true hid
    dsimp only [cond_true] at h
    repeat' (first | (cases h; done) | (cases h; exact ⟨_, _, _, _, _, _, _, rfl⟩) | (split at h) | (generalize (_ && _) = cb at h; cases cb <;> dsimp only [cond_true, cond_false] at h))
  · cases h
theorem mkFor_spec {x y : Code} {y' z : ACode} (h : mkFor P G nt x y y' = some z) : ∃ pre xr it m BODY b, rangeOf P G nt x = some (pre, xr, it) ∧ loopOf P G nt it y = some (m, BODY) ∧ bodyOf y' = some b ∧ ((∃ q, delOf P G nt BODY = some q ∧ z = .mfor pre xr m .skip (some q)) ∨ z = .mfor pre xr m b none) := by
  unfold mkFor at h
  split at h
  · cases h
  · rename_i pre xr it hx
    split at h
    · cases h
    · rename_i m BODY hy
      split at h
      · cases h
      · rename_i b hb
        split at h
        · rename_i q hq; cases h; exact ⟨pre, xr, it, m, BODY, b, hx, hy, hb, .inl ⟨q, hq, rfl⟩⟩
        · cases h; exact ⟨pre, xr, it, m, BODY, b, hx, hy, hb, .inr rfl⟩
theorem mkFor_block {x y : Code} {y' z : ACode} (h : mkFor P G nt x y y' = some z) : rangeOf P G nt y = none := by
  obtain ⟨_, _, _, _, _, _, _, h2, _⟩ := mkFor_spec h
  obtain ⟨id, i1, ON, n1, id1, i2, OE, rfl⟩ := loopOf_form h2
  rfl
theorem inv_seqb {y1 y2 : Code} {y1' y2' : ACode} (hn : rangeOf P G nt y1 = none) (h : compC P G nt pu (.seq y1 y2) = some (.seq y1' y2')) : compC P G nt pu y1 = some y1' ∧ compC P G nt pu y2 = some y2' := by
  obtain ⟨a, b, h1, h2, h3⟩ := inv_seq h
  rw [mkSeq_nb hn] at h3
  cases h3
  exact ⟨h1, h2⟩
theorem body_comp {it : Nat} {y : Code} {y' b : ACode} {m : ML} {BODY : Code} (h : loopOf P G nt it y = some (m, BODY)) (hy : compC P G nt pu y = some y') (hb : bodyOf y' = some b) : compC P G nt pu BODY = some b ∧ SizeOf.sizeOf BODY < SizeOf.sizeOf y := by
  obtain ⟨id, i1, ON, n1, id1, i2, OE, rfl⟩ := loopOf_form h
  refine ⟨?_, by simp only [Code.block.sizeOf_spec, Code.loop.sizeOf_spec, Code.seq.sizeOf_spec]; omega⟩
  obtain ⟨c1, k1, rfl⟩ := inv_block hy
  obtain ⟨c2, k2, rfl⟩ := inv_loop k1
  obtain ⟨rN, c3, k3, k4, rfl⟩ := inv_seq k2
  obtain ⟨cc, c4, k5, k6, rfl⟩ := inv_seq k4
  obtain ⟨c5, k7, rfl⟩ := inv_block k6
  obtain ⟨rE, c6, k8, k9, rfl⟩ := inv_seq k7
  have e1 : mkSeq P G nt (.cond (.tmp n1) .skip (.exit id)) (.block id1 (.seq (.region i2 OE false) BODY)) cc (.block id1 (mkSeq P G nt (.region i2 OE false) BODY rE c6)) = .seq cc (.block id1 (mkSeq P G nt (.region i2 OE false) BODY rE c6)) := mkSeq_nb rfl
  rw [e1] at hb
  have e2 : mkSeq P G nt (.region i1 ON false) (.seq (.cond (.tmp n1) .skip (.exit id)) (.block id1 (.seq (.region i2 OE false) BODY))) rN (.seq cc (.block id1 (mkSeq P G nt (.region i2 OE false) BODY rE c6))) = .seq rN (.seq cc (.block id1 (mkSeq P G nt (.region i2 OE false) BODY rE c6))) := by
    unfold mkSeq
    rw [mkFor_none (.inr fun _ => rfl)]
    dsimp only
    rw [mkFor_none (.inr fun _ => rfl)]
  rw [e2] at hb
  rcases mkSeq_cases (P := P) (G := G) (nt := nt) (x := .region i2 OE false) (y := BODY) (x' := rE) (y' := c6) with e | ⟨z, hz, e⟩ | ⟨y1, y2, y1', y2', z, _, _, hz, e⟩
  · rw [e] at hb
    have hre : ∃ rows, rE = .reg rows := by
      unfold compC at k8
      split at k8
      · cases k8
      · cases k8; exact ⟨_, rfl⟩
    obtain ⟨rows, rfl⟩ := hre
    cases hb
    exact k9
  · rw [e] at hb
    obtain ⟨_, _, _, _, _, _, _, _, _, h5⟩ := mkFor_spec hz
    rcases h5 with ⟨q, _, rfl⟩ | rfl <;> cases hb
  · rw [e] at hb
    obtain ⟨_, _, _, _, _, _, _, _, _, h5⟩ := mkFor_spec hz
    rcases h5 with ⟨q, _, rfl⟩ | rfl <;> cases hb
theorem bdR_ok {Y : List Yl} {ro : Option Nat} {BODY : Code} {b : ACode} {fuel : Nat} (hΓ : GamOk P G Γ Y ∧ PuOk Γ pu ∧ (ro ≠ none → Γ.up = fun _ _ => .no)) (hS : SoundAt P pu G nt Y BODY) (hb : compC P G nt pu BODY = some b) : BodyOk P G nt Y ro BODY (bdF std Γ fuel b none) := by
  intro bm cs i env σ o ho bi c r ck dm N B ρ0 ρ σ0 W0 W a st hl hr hY he hs hd
  have ho : (match run std Γ σ.next fuel b env σ with
    | .bad => none
    | .ok e env' σ' => some (e, env', σ', cs)) = some o := ho
  cases hrun : run std Γ σ.next fuel b env σ with
  | bad => rw [hrun] at ho; cases ho
  | ok e env' σ' =>
    rw [hrun] at ho
    cases ho
    have hA := hS b hb hΓ (N := σ.next) (B := B) (ρ0 := ρ) (σ0 := σ) (W0 := W) ⟨Nat.le_trans st.b hs.size, hY, fun y hy => (hY y hy).lt, hr⟩ (fun e' env'' σ'' => e' = e.out ∧ env'' = env' ∧ σ'' = σ') env σ ρ W a (run_avc (nt := nt) (G := G) b _ _ _ e env' σ' hrun ⟨rfl, rfl, rfl⟩) hr he (Stp.refl (Nat.le_refl _)) hd
    refine wpIn_mono hA fun e' a' W' ⟨ρ', env2, σ2, ⟨h1, h2, h3⟩, h4, h5, h6, h7, h8⟩ => ?_
    subst h1 h2 h3
    exact ⟨rfl, ρ', hl.step (M := 0) hr h6, h4, hY.step (fun y hy => (hY y hy).lt) h6, h5, hs.trans h6 hs.next, h7, h8⟩
theorem mfor_sound {Y : List Yl} {ro : Option Nat} {x y : Code} {y' z : ACode} {B : Nat} (hΓ : GamOk P G Γ Y ∧ PuOk Γ pu ∧ (ro ≠ none → Γ.up = fun _ _ => .no)) (st : Start Y N B ρ0 σ0 W0) (hz : mkFor P G nt x y y' = some z) (hy : compC P G nt pu y = some y')
    (IH : ∀ (BODY : Code) (b : ACode), SizeOf.sizeOf BODY < SizeOf.sizeOf y → compC P G nt pu BODY = some b → SoundAt P pu G nt Y BODY) {K : AK} {env : T AV} {σ : AH} {ρ : Ren} {W : World} {a : Act} (h : avc std Γ G nt N z K env σ)
    (hr : HR ρ σ W) (hY : YInv Y ρ σ W) (he : ER G nt ρ env a) (hs : Stp N ρ0 σ0 W0 ρ σ W) (hd : MkB B ρ W a) {Q : Exit → Act → World → Prop}
    (hQ : ∀ e env' σ' ρ' a' W', K e env' σ' → HR ρ' σ' W' → ER G nt ρ' env' a' → Stp N ρ0 σ0 W0 ρ' σ' W' → MkB B ρ' W' a' → Q e a' W') :
    x.wpIn (fen ro) 0 P (Exit.then (fun a' W' => y.wpIn (fen ro) 0 P Q a' W') Q) a W := by
  obtain ⟨pre, xr, it, m, BODY, b, h1, h2, h3, h4⟩ := mkFor_spec hz
  obtain ⟨hb, hsz⟩ := body_comp h2 hy h3
  have hfin : ∀ {L : List (AX × T AV × AH)} {bd : Bd}, BodyOk P G nt Y ro BODY bd → mfr std Γ pre xr m bd env σ = some L → (∀ o ∈ L, ∃ env2 σ2, Lw G nt N o.2.1 o.2.2 env2 σ2 ∧ K o.1.out env2 σ2) → x.wpIn (fen ro) 0 P (Exit.then (fun a' W' => y.wpIn (fen ro) 0 P Q a' W') Q) a W := by
    intro L bd hB hL hK
    refine mfr_sound hΓ.1 st h1 h2 hB hL hr hY he hs hd fun o ho ρ' a' W' k1 k2 k3 k4 => ?_
    obtain ⟨env2, σ2, w1, w2⟩ := hK o ho
    obtain ⟨ρ'', u1, u2, u3, u4, u5, u6⟩ := w1.use k3.next k1
    exact hQ _ env2 σ2 ρ'' a' W' w2 u1 (u2 a' k2) (k3.weak u3 u4 u5 u6) ⟨k4.1.weak u4, k4.2⟩
  rcases h4 with ⟨q, hq, rfl⟩ | rfl
  · obtain ⟨fuel, L, hL, hK⟩ := h
    exact hfin (bdD_ok hΓ.1 hq) hL hK
  · obtain ⟨fuel, L, hL, hK⟩ := h
    exact hfin (bdR_ok hΓ (IH BODY b hsz hb) hb) hL hK
theorem avc_sound {Y : List Yl} (hm : P.follows .mixedOrders = true) : ∀ (c : Code) (c' : ACode), compC P G nt pu c = some c' → ∀ {N B : Nat} {ρ0 : Ren} {σ0 : AH} {W0 : World} {ro : Option Nat} {Γ : Gam}, GamOk P G Γ Y ∧ PuOk Γ pu ∧ (ro ≠ none → Γ.up = fun _ _ => .no) → Start Y N B ρ0 σ0 W0 → ∀ (K : AK) (env : T AV) (σ : AH) (ρ : Ren) (W : World) (a : Act),
    avc std Γ G nt N c' K env σ → HR ρ σ W → ER G nt ρ env a → Stp N ρ0 σ0 W0 ρ σ W → Mks ρ W a.defers ∧ (∀ r, dmark r ∈ a.defers → B ≤ r) → c.wpIn (fen ro) 0 P (AQ G nt N B ρ0 σ0 W0 K) a W := by
  suffices hh : ∀ n (c : Code), SizeOf.sizeOf c ≤ n → SoundAt P pu G nt Y c from fun c c' hc => hh (SizeOf.sizeOf c) c (Nat.le_refl _) c' hc
  intro n
  induction n with
  | zero => intro c hsz; cases c <;> simp at hsz
  | succ n IH =>
  intro c hsz
  cases c with
  | skip => intro c' hc N B ρ0 σ0 W0 ro Γ hΓ st K env σ ρ W a h hr he hs hd; cases hc; exact wpIn_skip ⟨ρ, env, σ, h, hr, he, hs, hd⟩
  | ret => intro c' hc N B ρ0 σ0 W0 ro Γ hΓ st K env σ ρ W a h hr he hs hd; cases hc; exact wpIn_ret ⟨ρ, env, σ, h, hr, he, hs, hd⟩
  | exit id => intro c' hc N B ρ0 σ0 W0 ro Γ hΓ st K env σ ρ W a h hr he hs hd; cases hc; exact wpIn_exit ⟨ρ, env, σ, h, hr, he, hs, hd⟩
  | seq x y =>
    have ihx := IH x (by simp only [Code.seq.sizeOf_spec] at hsz; omega)
    have ihy := IH y (by simp only [Code.seq.sizeOf_spec] at hsz; omega)
    intro c' hc N B ρ0 σ0 W0 ro Γ hΓ st K env σ ρ W a h hr he hs hd
    unfold compC at hc
    split at hc
    · cases hc
    · rename_i x' hx
      split at hc
      · cases hc
      · rename_i y' hy
        cases hc
        rcases mkSeq_cases (P := P) (G := G) (nt := nt) (x := x) (y := y) (x' := x') (y' := y') with e | ⟨z, hz, e⟩ | ⟨y1, y2, y1', y2', z, e1, e2, hz, e⟩
        rotate_left
        · -- a loop over a map, at the end
          rw [e] at h
          exact wpIn_seq (mfor_sound (ro := ro) hΓ st hz hy (fun B b hs' hb => IH B (by simp only [Code.seq.sizeOf_spec] at hsz; omega)) h hr (st.inv.step st.lt hs) he hs hd fun e' env' σ' ρ' a' W' k1 k2 k3 k4 k5 => ⟨ρ', env', σ', k1, k2, k3, k4, k5.1, k5.2⟩)
        · -- a loop over a map, and what is behind it
          subst e1 e2
          rw [e] at h
          obtain ⟨hy1, hy2⟩ := inv_seqb (mkFor_block hz) hy
          have ih2 := IH y2 (by simp only [Code.seq.sizeOf_spec] at hsz; omega)
          refine wpIn_seq (wpIn_mono (mfor_sound (ro := ro) hΓ st hz hy1 (fun B b hs' hb => IH B (by simp only [Code.seq.sizeOf_spec] at hsz; omega)) h hr (st.inv.step st.lt hs) he hs hd (Q := Exit.then (fun a' W' => y2.wpIn (fen ro) 0 P (AQ G nt N B ρ0 σ0 W0 K) a' W') (AQ G nt N B ρ0 σ0 W0 K)) fun e' env' σ' ρ' a' W' k1 k2 k3 k4 k5 => ?_) fun e' a' W' hh => ?_)
          · cases e' with
            | normal =>
              obtain ⟨env2, σ2, w1, w2⟩ := k1
              obtain ⟨ρ'', u1, u2, u3, u4, u5, u6⟩ := w1.use k4.next k2
              exact ih2 y2' hy2 hΓ st K env2 σ2 ρ'' W' a' w2 u1 (u2 a' k3) (k4.weak u3 u4 u5 u6) ⟨k5.1.weak u4, k5.2⟩
            | _ => exact ⟨ρ', env', σ', k1, k2, k3, k4, k5.1, k5.2⟩
          · cases e' with
            | normal => exact wpIn_seq hh
            | _ => exact hh
        rw [e] at h
        refine wpIn_seq (wpIn_mono (ihx x' hx hΓ st _ env σ ρ W a h hr he hs hd) fun e a' W' ⟨ρ', env', σ', h1, h2, h3, h4, h5⟩ => ?_)
        cases e
        case normal =>
          obtain ⟨env2, σ2, w1, w2⟩ := h1
          obtain ⟨ρ'', k1, k2, k3, k4, k5, k6⟩ := w1.use h4.next h2
          exact ihy y' hy hΓ st K env2 σ2 ρ'' W' a' w2 k1 (k2 a' h3) (h4.weak k3 k4 k5 k6) ⟨h5.1.weak k4, h5.2⟩
        all_goals exact ⟨ρ', env', σ', h1, h2, h3, h4, h5⟩
  | cond t x y =>
    have ihx := IH x (by simp only [Code.cond.sizeOf_spec] at hsz; omega)
    have ihy := IH y (by simp only [Code.cond.sizeOf_spec] at hsz; omega)
    intro c' hc N B ρ0 σ0 W0 ro Γ hΓ st K env σ ρ W a h hr he hs hd
    unfold compC at hc
    split at hc
    · cases hc
    · rename_i x' hx
      split at hc
      · cases hc
      · rename_i y' hy
        cases hc
        unfold avc at h
        have hv := he.ev t
        cases hcv : evS env (rfS G t) <;> rw [hcv] at h hv <;> try exact h.elim
        rename_i b
        unfold VR at hv
        cases b
        · exact wpIn_cond_false hv (ihy y' hy hΓ st K env σ ρ W a (h.2 rfl) hr he hs hd)
        · exact wpIn_cond_true hv (ihx x' hx hΓ st K env σ ρ W a (h.1 rfl) hr he hs hd)
  | block id x =>
    have ih := IH x (by simp only [Code.block.sizeOf_spec] at hsz; omega)
    intro c' hc N B ρ0 σ0 W0 ro Γ hΓ st K env σ ρ W a h hr he hs hd
    unfold compC at hc
    split at hc
    · cases hc
    · rename_i x' hx
      cases hc
      refine wpIn_block (wpIn_mono (ih x' hx hΓ st _ env σ ρ W a h hr he hs hd) fun e a' W' ⟨ρ', env', σ', h1, h2, h3, h4, h5⟩ => ?_)
      cases e
      case exit i =>
        simp only [AK.block] at h1
        simp only [Exit.inBlock]
        split
        · rename_i hi; rw [if_pos hi] at h1; exact ⟨ρ', env', σ', h1, h2, h3, h4, h5⟩
        · rename_i hi; rw [if_neg hi] at h1; exact ⟨ρ', env', σ', h1, h2, h3, h4, h5⟩
      all_goals exact ⟨ρ', env', σ', h1, h2, h3, h4, h5⟩
  | loop x =>
    have ih := IH x (by simp only [Code.loop.sizeOf_spec] at hsz; omega)
    intro c' hc N B ρ0 σ0 W0 ro Γ hΓ st K env σ ρ W a h hr he hs hd
    unfold compC at hc
    split at hc
    · cases hc
    · rename_i x' hx
      cases hc
      unfold avc at h
      obtain ⟨I, μ, ⟨env1, σ1, hw, h0⟩, hround⟩ := h
      let J : Nat → Act → World → Prop := fun n a W => ∃ ρ env σ, I env σ ∧ μ env σ = n ∧ HR ρ σ W ∧ ER G nt ρ env a ∧ Stp N ρ0 σ0 W0 ρ σ W ∧ Mks ρ W a.defers ∧ (∀ r, dmark r ∈ a.defers → B ≤ r)
      have hloop : ∀ n, ∀ a W, J n a W → (Code.loop x).wpIn (fen ro) 0 P (AQ G nt N B ρ0 σ0 W0 K) a W := by
        intro n a W hJ
        refine wpIn_loop_ghost J n hJ (fun n a W hI => ?_)
        obtain ⟨ρ, env, σ, i1, i2, i3, i4, i5, i6⟩ := hI
        refine wpIn_mono (ih x' hx hΓ st _ env σ ρ W a (hround env σ i1) i3 i4 i5 i6) fun e a' W' ⟨ρ', env', σ', h1, h2, h3, h4, h5⟩ => ?_
        cases e
        case normal =>
          obtain ⟨env2, σ2, w1, w2, w3⟩ := h1
          obtain ⟨ρ'', k1, k2, k3, k4, k5, k6⟩ := w1.use h4.next h2
          exact ⟨μ env2 σ2, by rw [← i2]; exact w3, ρ'', env2, σ2, w2, rfl, k1, k2 a' h3, h4.weak k3 k4 k5 k6, h5.1.weak k4, h5.2⟩
        all_goals exact ⟨ρ', env', σ', h1, h2, h3, h4, h5⟩
      obtain ⟨ρ1, k1, k2, k3, k4, k5, k6⟩ := hw.use hs.next hr
      exact hloop _ a W ⟨ρ1, env1, σ1, h0, rfl, k1, k2 a he, hs.weak k3 k4 k5 k6, hd.1.weak k4, hd.2⟩
  | region id ops draw =>
    intro c' hc N B ρ0 σ0 W0 ro Γ hΓ st K env σ ρ W a h hr he hs hd
    cases draw with
    | false =>
      unfold compC at hc
      split at hc
      · cases hc
      · rename_i rows hrows
        cases hc
        unfold avc at h
        refine wpIn_region ?_
        have hl : ops.size = ops.toList.length := by simp
        rw [List.range_eq_range', hl]
        rcases h with h | ⟨L, hL, h⟩
        · exact plain_sound hΓ.1 ops.toList rows 0 hrows (fun j => by simp) (st.inv.step st.lt hs) hr he h.1 fun ρ' a' W' h1 h2 h3 h4 => ⟨ρ', _, _, h.2, h1, h2, hs.trans h3 hs.next, by rw [h4]; exact hd.1.step h3, by rw [h4]; exact hd.2⟩
        · exact plainS_sound hΓ.1 ops.toList rows 0 hrows (fun j => by simp) (st.inv.step st.lt hs) hr he hL fun p hp ρ' a' W' h1 h2 h3 h4 => ⟨ρ', _, _, h p hp, h1, h2, hs.trans h3 hs.next, by rw [h4]; exact hd.1.step h3, by rw [h4]; exact hd.2⟩
    | true =>
      unfold compC at hc
      split at hc
      · cases hc; exact h.elim
      · rename_i sts hst
        cases hc
        unfold compD at hst
        split at hst
        · cases hst
        · split at hst
          · cases hst
          · rename_i st' hst'
            generalize hBB : cloGo ops.toList [] = BB at hst hst'
            cases hck : (chkRegion ops BB [] && (chkOrd pu BB (rcGet (rcsOf pu BB [] st')) [] st' && ((List.range ops.size).all (hasId st') && Nat.ble ops.size 1000000))) <;> rw [hck] at hst
            · cases hst
            · cases hst
              simp only [Bool.and_eq_true, Nat.ble_eq] at hck
              unfold avc at h
              unfold evDr at h
              generalize hrc : rcsOf pu BB [] st' = rcs at h hck
              generalize hev : evD std Γ env st' (rcGet rcs) st' .leaf σ = ev at h
              obtain ⟨ok, vals, σ'⟩ := ev
              simp only at h
              refine wpIn_region_any hm (drawn_any (W0 := { W with drawn := W.drawn + 1 }) hΓ.1 ((st.inv.step st.lt hs).drew _) hΓ.2.1 hst' hck.2.1 hck.2.2.1 hck.2.2.2 hck.1 (hr.drew _) he (by rw [hev]; exact h.1) fun ρ' a' W' h1 h2 h3 h4 => ?_)
              rw [hev] at h1 h2 h3
              exact ⟨ρ', _, _, h.2, h1, h2, hs.trans h3.drew hs.next, by rw [h4]; exact hd.1.step h3.drew, by rw [h4]; exact hd.2⟩
  | rangeFunc f ps x y =>
    have ihx := IH x (by simp only [Code.rangeFunc.sizeOf_spec] at hsz; omega)
    have ihy := IH y (by simp only [Code.rangeFunc.sizeOf_spec] at hsz; omega)
    intro c' hc N B ρ0 σ0 W0 ro Γ hΓ st K env σ ρ W a h hr he hs hd
    unfold compC at hc
    split at hc
    · cases hc
    · rename_i x' hx
      split at hc
      · cases hc
      · rename_i y' hy
        cases hps : (ps.toList.all fun p => Nat.blt p nt) with
        | false => rw [hps] at hc; cases hc; exact h.elim
        | true =>
        rw [hps] at hc
        cases hc
        have hv := he.ev f
        unfold avc at h
        cases hcv : evS env (rfS G f) <;> rw [hcv] at h hv <;> try exact h.elim
        rename_i fn first cap
        cases fn <;> try exact h.elim
        rename_i g
        obtain ⟨hlt, fuel, hoK⟩ := h
        unfold VR at hv
        obtain ⟨us, vs, hv, hus, hvs⟩ := hv
        cases ro with
        | some c0 =>
          rw [hΓ.2.2 (by simp)] at hoK
          rcases hoK with ⟨hok, _⟩ | ⟨L, hok, _⟩ <;> cases hok
        | none =>
        have hltn : σ.next < 1000000 := by rwa [Nat.blt_eq] at hlt
        refine wpIn_rangeFunc fun fn _ => ?_
        let lp : Loop := { state := .ready, pending := none, fn, tmps := a.tmps, params := ps, assign := x, body := y, defers := W.heap.size }
        let W1 : World := W.alloc (.deferred (some []))
        let W2 : World := W1.alloc (.loop lp)
        have hsz1 : W1.heap.size = W.heap.size + 1 := by show (W.heap.push _).size = _; simp
        have hsz : W2.heap.size = W.heap.size + 2 := by show ((W.heap.push _).push _).size = _; simp
        have hl1 : W2.heap[W.heap.size + 1]? = some (.loop lp) := by show ((W.heap.push _).push _)[_]? = _; rw [Array.getElem?_push, if_pos (by simp)]
        have hl0 : W2.heap[W.heap.size]? = some (.deferred (some [])) := by show ((W.heap.push _).push _)[_]? = _; rw [Array.getElem?_push_lt (by simp)]; simp
        have hold1 : ∀ c, c < W.heap.size → W1.heap[c]? = W.heap[c]? := fun c hc => by
          show (W.heap.push _)[c]? = _
          rw [Array.getElem?_push_lt hc, Array.getElem?_eq_getElem hc]
        have hrW1 : HR ρ σ W1 := hr.keepW (by omega) hold1
        have hsW1 : Stp σ.next ρ σ W ρ σ W1 := ⟨fun _ _ => rfl, fun b c d hb => .inl ⟨b, d, hb⟩, Nat.le_refl _, fun _ _ _ _ ho _ => ho, fun c hc _ => hold1 c hc, rfl, rfl, rfl, by omega, fun b c d o _ _ hc ho _ => ⟨ho, hold1 c hc⟩⟩
        obtain ⟨ρ1, n1, n2, n3, n4⟩ := hrW1.new (o := AObj.shut) (x := .loop lp) (s := 0) hlt (OR.shut (Nat.le_refl _))
        rw [hsz1] at n1
        have n3 : HR ρ1 (σ.new AObj.shut) W2 := n3
        have hs1 : Stp σ.next ρ σ W ρ1 (σ.new AObj.shut) W2 := hsW1.trans n4 (Nat.le_refl _)
        let z : Yl := ⟨σ.next, W.heap.size + 1, lp, ρ⟩
        have hY : YInv Y ρ σ W := st.inv.step st.lt hs
        have hYc : ∀ y ∈ Y, y.c < W.heap.size := fun y hy => (Array.getElem?_eq_some_iff.1 (hY y hy).rec_).1
        have hYz : YInv (z :: Y) ρ1 (σ.new AObj.shut) W2 := fun y hy => by
          rcases List.mem_cons.1 hy with rfl | hy
          · exact ⟨Nat.lt_succ_self _, by rw [AH.get_new (by omega)]; exact if_pos rfl, n1, hl1, fun b x hb => ⟨(hr.dom b x.1 x.2 hb).1, n2 _ _ hb⟩⟩
          · exact hY.step (fun y hy => (hY y hy).lt) hs1 y hy
        generalize hh : rnd (both std Γ.bare fuel x' y') env ps.toList = k at hoK
        have hΓb : GamOk P G Γ.bare Y ∧ PuOk Γ.bare pu ∧ (some (W.heap.size + 1) ≠ none → Γ.bare.up = fun _ _ => .no) := ⟨hΓ.1.bare, by have := hΓ.2.1; unfold PuOk at this ⊢; rw [Gam.bare_fn]; exact this, fun _ => Γ.bare_up⟩
        have hYl : YlOk P G σ.next k (z :: Y) := by
          intro args σ' hok' ρ' W' vs' c' d' hY' hG' hr' hvs' hb'
          have hz' := hY' z List.mem_cons_self
          obtain ⟨rfl, rfl⟩ : c' = W.heap.size + 1 ∧ d' = (0, 0) := Prod.mk.inj (Option.some.inj (hb'.symm.trans hz'.at_))
          subst hh
          obtain ⟨hle, e2, s2, hrun, hrnd⟩ := rnd_ok hok'
          rw [hrnd]
          have hrec : W'.heap[W.heap.size + 1]? = some (.loop lp) := hz'.rec_
          have hcW : W.heap.size + 1 < W'.heap.size := (Array.getElem?_eq_some_iff.1 hrec).1
          refine ⟨_, _, _, _, yield_run hrec (by show ps.toList.length = _; rw [hle, hvs'.length]), ?_⟩
          refine roundIn_of_wpIn (F := Fence.wide) trivial ?_
          rcases RR.next_ok (show (run std Γ.bare σ'.next fuel x' (bindP env ps.toList args) σ').next (run std Γ.bare σ'.next fuel y') = _ from hrun) with ⟨e1, s1, h1, h2⟩ | ⟨h1, _⟩
          · have hst1 : Start Y σ'.next W'.heap.size ρ' σ' W' := ⟨Nat.le_refl _, fun y hy => hY' y (List.mem_cons_of_mem _ hy), fun y hy => (hY' y (List.mem_cons_of_mem _ hy)).lt, hr'⟩
            have her := bindP_er (nt := nt) ps.toList args vs' env a.tmps hle hps hvs' ⟨he.small, he.size, hG', fun t v ht => (he.at_ t v ht).mono fun b x hb => (hz'.sub b x hb).2⟩
            have hA := ihx x' hx (N := σ'.next) (B := W'.heap.size) (ro := some (W.heap.size + 1)) hΓb hst1 (fun e env' σ'' => e = .normal ∧ env' = e1 ∧ σ'' = s1) _ σ' ρ' W' _ (run_avc (nt := nt) (G := G) x' _ _ _ .normal e1 s1 h1 ⟨rfl, rfl, rfl⟩) hr' her (Stp.refl (Nat.le_refl _)) ⟨trivial, fun r hr => by cases hr⟩
            refine wpIn_mono hA fun e a1 W3 ⟨ρ2, env2, σ2, ⟨q1, q2, q3⟩, p1, p2, p3, p4, p5⟩ => ?_
            subst q1 q2 q3
            have hY2 := hY'.step (fun y hy => (hY' y hy).lt) p3
            have hz2 := hY2 z List.mem_cons_self
            have hl2 : W3.heap[W.heap.size + 1]? = some (.loop lp) := hz2.rec_
            have hcW3 : W.heap.size + 1 < W3.heap.size := (Array.getElem?_eq_some_iff.1 hl2).1
            have hsz3 := p3.size
            refine ⟨_, beginRound_run hl2 rfl, ?_⟩
            have hst2 : Start Y σ'.next W'.heap.size ρ2 σ2 (setB W3 (W.heap.size + 1) (.loop { lp with state := .busy })) :=
              ⟨by rw [setB_size]; exact hsz3, YInv.turn (fun y hy => hY2 y (List.mem_cons_of_mem _ hy)) (fun y hy => by have := hYc y hy; omega), hst1.lt, p1.turnL hl2⟩
            have hB := ihy y' hy (N := σ'.next) (B := W'.heap.size) (ro := some (W.heap.size + 1)) hΓb hst2 (fun e _ σ'' => e = .normal ∧ σ'' = s2) env2 σ2 ρ2 _ a1 (run_avc (nt := nt) (G := G) y' _ _ _ .normal e2 s2 h2 ⟨rfl, rfl⟩) (p1.turnL hl2) p2 (Stp.refl p3.next)
              ⟨p4.setB fun r hr => by have := p5 r hr; omega, p5⟩
            refine wpIn_mono hB fun e a2 W4 ⟨ρ3, env3, σ3, ⟨q1, q2⟩, r1, r2, r3, r4, r5⟩ => ?_
            subst q1 q2
            have hl3 : W4.heap[W.heap.size + 1]? = some (.loop { lp with state := .busy }) := (r3.ro z.l (W.heap.size + 1) (0, 0) _ hz'.lt hz2.at_ (by rw [setB_size]; exact hcW3) hz2.get rfl).2.trans (setB_self hcW3)
            exact ⟨.bool true, _, endRound_run hl3 rfl rfl, _, rfl, ρ3, r1.turnL hl3, Stp.round p3 r3 hcW hrec, by unfold VR; rfl⟩
          · exact absurd rfl h1
        have hΓ' := hΓ.1.up z hYl
        have hG1 : ∀ g, g < G → ∃ s, ρ1 g = some (g, (0, s)) := fun g hg => by obtain ⟨s, h'⟩ := he.glob g hg; exact ⟨s, n2 _ _ h'⟩
        have hargs : VRs ρ1 (first ++ (AV.yld σ.next :: cap)) (us ++ (Value.func (.yield (W.heap.size + 1)) #[] #[] :: vs)) := (hus.mono n2).append ⟨_, _, rfl, by unfold VR; exact ⟨_, _, n1, rfl⟩, hvs.mono n2⟩
        have hcalls : (∃ fd, P.funcs[g]? = some fd ∧ fd.body.isSome = true ∧ (fd.name == "runtime.NumGoroutine") = false) ∧ Calls P g (us ++ (Value.func (.yield (W.heap.size + 1)) #[] #[] :: vs)).toArray W2 fun e W' => ∃ v σ' ρ', e = .returned v ∧ K .normal env σ' ∧ HR ρ' σ' W' ∧ Stp (σ.next + 1) ρ1 (σ.new AObj.shut) W2 ρ' σ' W' := by
          rcases hoK with ⟨hok, hK⟩ | ⟨L, hok, hK⟩
          · obtain ⟨h1, h2⟩ := hΓ'.fn _ _ _ hok
            exact ⟨h1, (h2 ρ1 W2 _ hYz hG1 n3 hargs).mono fun e W' ⟨v, ρ', he', k1, k2, k3⟩ => ⟨v, _, ρ', he', hK, k1, k2⟩⟩
          · obtain ⟨h1, h2⟩ := hΓ'.dm _ _ _ _ hok
            exact ⟨h1, (h2 ρ1 W2 _ hYz hG1 n3 hargs).mono fun e W' ⟨v, av, σ', ρ', he', hm', k1, k2, k3⟩ => ⟨v, _, ρ', he', hK _ hm', k1, k2⟩⟩
        obtain ⟨⟨fd, hfd, hbody, hname⟩, hcall⟩ := hcalls
        obtain ⟨body, hbn⟩ := Option.isSome_iff_exists.1 hbody
        have hname' : ¬ fd.name = "runtime.NumGoroutine" := by simpa using hname
        refine ⟨W.heap.size + 1, [dmark W.heap.size], W2, { target := .fn (.func g) vs.toArray, args := us.toArray ++ #[.func (.yield (W.heap.size + 1)) #[] #[]] }, W2, g, (us ++ (Value.func (.yield (W.heap.size + 1)) #[] #[] :: vs)).toArray, W2, ?_, ?_, ?_, ?_, ?_, ?_⟩
        · show (Instr.enterLoop fn a.tmps ps x y none).run P W = _
          simp [Instr.enterLoop, dmark, W2, W1, lp]
        · have hc : a.eval (.const (.func (.yield (W.heap.size + 1)) #[] #[])) = .func (.yield (W.heap.size + 1)) #[] #[] := rfl
          simp [resolve, hv, Deferred.ofValue, hc]
        · exact fun _ _ => trivial
        · simp [invoke, callFunc, hfd, hbn, hname']
        · exact fun h => by cases h
        · refine callsIn_wide.2 (hcall.mono fun e W' ⟨v, σ', ρ', he', hK, k1, k2⟩ => ?_)
          subst he'
          have hYe := hYz.step (fun y hy => (hYz y hy).lt) k2
          have hl : W'.heap[W.heap.size + 1]? = some (.loop lp) := (hYe z List.mem_cons_self).rec_
          have hun1 : ∀ b x, ρ1 b ≠ some (W.heap.size, x) := fun b x hb => by
            rcases n4.img b _ x hb with ⟨b0, d0, h0⟩ | h0
            · have := (hr.dom b0 _ d0 h0).2.1; omega
            · omega
          have hd0 : W'.heap[W.heap.size]? = some (.deferred (some [])) := (k2.frame _ (by omega) fun b d => hun1 b d).trans hl0
          have hun' : ∀ b x, ρ' b ≠ some (W.heap.size, x) := fun b x hb => by
            rcases k2.img b _ x hb with ⟨b0, d0, h0⟩ | h0
            · exact hun1 b0 d0 h0
            · omega
          have hsize := hs.size
          refine ⟨none, setB W' (W.heap.size + 1) (.loop { lp with state := .exhausted }), ?_, ?_⟩
          · simp [Instr.endLoop, Instr.getLoop, getObj, Sem.run_bind, Sem.run, hl, setB_loop hl, lp]
          · have hsub : Sub ρ ρ' := fun b x hb => k2.sub n3 b x (n2 b x hb)
            have he2 := he.sub hsub
            have hstp : Stp N ρ0 σ0 W0 ρ' _ (setB W' (W.heap.size + 1) (.loop { lp with state := .exhausted })) := ((hs.trans hs1 hs.next).trans k2 (Nat.le_trans hs.next (Nat.le_succ _))).setB (by omega)
            have hm2 : Mks ρ' W' a.defers := (hd.1.step hs1).step k2
            refine ⟨ρ', env, _, hK, k1.turnL hl, ⟨he2.small, he2.size, he2.glob, he2.at_⟩, hstp, ⟨W.heap.size, rfl, by rw [setB_other (by omega)]; exact hd0, hun', fun r' hr' => by have := hd.1.lt r' hr'; omega, hm2.setB fun r hr => by have := hd.1.lt r hr; omega⟩, fun r hr' => ?_⟩
            rcases List.mem_cons.1 hr' with h | h
            · have : r = W.heap.size := by simpa [dmark] using h
              have := st.b
              omega
            · exact hd.2 r h
  | _ => intro c' hc; cases hc; intro N B ρ0 σ0 W0 ro Γ hΓ st K env σ ρ W a h; exact h.elim
end
end
end Go.Proofs.YtjgmpdklfcmelaaGreatDoor.V2
namespace Go.Proofs.YtjgmpdklfcmelaaGreatDoor.V2
open Go
noncomputable section
inductive ARes where
  | tmp (t : Nat)
  | cell1 (a : Nat)
  | cellN (a n : Nat)
def compR1 (P : Program) : ResultVar → Option ARes
  | .tmp t => some (.tmp t)
  | .cell a t => match P.underlying t with
    | some d => match isAggD d with
      | true => match P.info? t with
        | some i => some (.cellN a i.size)
        | none => none
      | false => some (.cell1 a)
    | none => none
def compR (P : Program) : List ResultVar → Option (List ARes)
  | [] => some []
  | r :: l => match compR1 P r with
    | none => none
    | some x => match compR P l with
      | none => none
      | some xs => some (x :: xs)
def resV (A : Ar) (env : T AV) (σ : AH) : ARes → Bool × AV
  | .tmp t => (true, evS env (.slot t))
  | .cell1 a => match oLoad1 A (evS env (.slot a)) σ with
    | (ok, v, _) => (ok, v)
  | .cellN a n => match oLoadN A n (evS env (.slot a)) σ with
    | (ok, v, _) => (ok, v)
def resL (A : Ar) (env : T AV) (σ : AH) : List ARes → Bool × List AV
  | [] => (true, [])
  | r :: l => match resV A env σ r with
    | (ok, v) => match resL A env σ l with
      | (ok', vs) => (ok && ok', v :: vs)
def retV : List AV → AV
  | [x] => x
  | l => .tup l
def envOf : List AV → Nat → T AV → T AV
  | [], _, t => t
  | a :: l, i, t => envOf l (i + 1) (t.put i a)
def resF (tmps : Array Value) (r : ResultVar) : Sem Value := match r with
  | .tmp t => pure (tmps.getD t undef)
  | .cell a t => do loadVar t (← asAddr (tmps.getD a undef))
theorem results_eq (fn : Func) (tmps : Array Value) : results fn tmps = (do let vs ← fn.results.mapM (resF tmps); pure (if h : vs.size = 1 then vs[0] else .tuple vs)) := rfl
section
variable {P : Program} {W : World} {ρ : Ren} {σ : AH} {G nt : Nat}
theorem resV_run (hr : HR ρ σ W) {env : T AV} {a : Act} (he : ER G nt ρ env a) {r : ResultVar} {x : ARes} (hc : compR1 P r = some x) (hok : (resV std env σ x).1 = true) :
    ∃ v, (resF a.tmps r).run P W = .ok v W ∧ VR ρ (resV std env σ x).2 v := by
  cases r with
  | tmp t =>
    cases hc
    exact ⟨_, rfl, he.ev (.tmp t)⟩
  | cell b t =>
    have hv := he.ev (.tmp b)
    simp only [rfS, Act.eval] at hv
    simp only [compR1] at hc
    split at hc
    · rename_i d hu
      split at hc
      · rename_i hd
        split at hc
        · rename_i i hi
          cases hc
          simp only [resV] at hok ⊢
          have h := loadN_run (P := P) (W := W) (ax := evS env (.slot b)) hr hu hd hi hv
          generalize oLoadN std i.size (evS env (.slot b)) σ = out at h hok ⊢
          obtain ⟨ok, v, σ'⟩ := out
          obtain ⟨_, c, o, u, e1, e2, e3⟩ := h hok
          refine ⟨u, ?_, e3⟩
          simp only [resF, e1, asAddr, Sem.run_bind, Sem.run_pure, Result.andThen_ok, e2]
        · cases hc
      · rename_i hd
        cases hc
        simp only [resV] at hok ⊢
        have h := load1_run (P := P) (W := W) (ax := evS env (.slot b)) hr hu hd hv
        generalize oLoad1 std (evS env (.slot b)) σ = out at h hok ⊢
        obtain ⟨ok, v, σ'⟩ := out
        obtain ⟨_, c, o, u, e1, e2, e3⟩ := h hok
        refine ⟨u, ?_, e3⟩
        simp only [resF, e1, asAddr, Sem.run_bind, Sem.run_pure, Result.andThen_ok, e2]
    · cases hc
theorem resL_run (hr : HR ρ σ W) {env : T AV} {a : Act} (he : ER G nt ρ env a) : ∀ (rs : List ResultVar) (xs : List ARes), compR P rs = some xs → (resL std env σ xs).1 = true →
    ∃ vs, (rs.mapM (resF a.tmps)).run P W = .ok vs W ∧ VRs ρ (resL std env σ xs).2 vs
  | [], xs, hc, _ => by cases hc; exact ⟨[], rfl, rfl⟩
  | r :: rs, xs, hc, hok => by
    unfold compR at hc
    split at hc
    · cases hc
    · rename_i x hx
      split at hc
      · cases hc
      · rename_i xs' hxs
        cases hc
        unfold resL at hok ⊢
        have h1 := resV_run (P := P) hr he hx
        have h2 := resL_run hr he rs xs' hxs
        generalize resV std env σ x = o1 at hok h1 ⊢
        obtain ⟨k1, v1⟩ := o1
        generalize resL std env σ xs' = o2 at hok h2 ⊢
        obtain ⟨k2, v2⟩ := o2
        simp only [Bool.and_eq_true] at hok
        obtain ⟨v, e1, e2⟩ := h1 hok.1
        obtain ⟨vs, e3, e4⟩ := h2 hok.2
        refine ⟨v :: vs, ?_, v, vs, rfl, e2, e4⟩
        rw [List.mapM_cons, Sem.run_bind, e1, Result.andThen_ok, Sem.run_bind, e3]; rfl
theorem results_run (hr : HR ρ σ W) {env : T AV} {a : Act} (he : ER G nt ρ env a) {fn : Func} {xs : List ARes} (hc : compR P fn.results.toList = some xs) (hok : (resL std env σ xs).1 = true) :
    ∃ v, (results fn a.tmps).run P W = .ok v W ∧ VR ρ (retV (resL std env σ xs).2) v := by
  obtain ⟨vs, h1, h2⟩ := resL_run (P := P) hr he _ _ hc hok
  rw [results_eq, Array.mapM_eq_mapM_toList, Sem.run_bind, Sem.run_map, h1]
  simp only [Result.andThen_ok]
  generalize (resL std env σ xs).2 = l at h2
  match l, vs, h2 with
  | [], _, e => cases e; exact ⟨_, rfl, by show VR ρ (.tup []) _; unfold VR; exact ⟨[], rfl, rfl⟩⟩
  | [x], _, ⟨v, m, e1, e2, e3⟩ =>
    cases e3; cases e1
    exact ⟨v, rfl, e2⟩
  | x :: y :: l, vs, h2 =>
    have hl := h2.length
    refine ⟨.tuple vs.toArray, ?_, ?_⟩
    · rw [dif_neg (by simp at hl ⊢; omega)]; rfl
    · show VR ρ (.tup (x :: y :: l)) _
      unfold VR; exact ⟨vs, rfl, h2⟩
theorem envOf_get : ∀ (l : List AV) (i : Nat) (t : T AV) (m : Nat), i + l.length ≤ 1048576 → (envOf l i t).get m = if i ≤ m ∧ m < i + l.length then l[m - i]? else t.get m
  | [], i, t, m, _ => by rw [if_neg (by intro h; simp at h; omega)]; rfl
  | a :: l, i, t, m, h => by
    simp only [List.length_cons] at h
    show (envOf l (i + 1) (t.put i a)).get m = _
    rw [envOf_get l (i + 1) _ m (by omega), T.get_put _ _ _ _ (by omega)]
    by_cases h1 : i + 1 ≤ m ∧ m < i + 1 + l.length
    · rw [if_pos h1, if_pos (by simp; omega), show m - i = (m - (i + 1)) + 1 by omega, List.getElem?_cons_succ]
    · rw [if_neg h1]
      by_cases hm : m = i
      · subst hm; rw [if_pos rfl, if_pos (by simp)]; simp
      · rw [if_neg hm, if_neg (by simp; omega)]
theorem leaves_marks {N : Nat} {ρ0 : Ren} {σ0 : AH} {W0 : World} {fn : Func} {tmps : Array Value} {R : Ending → World → Prop} (hR : ∀ W', HR ρ σ W' → Stp N ρ0 σ0 W0 ρ σ W' → ∃ v, (results fn tmps).run P W' = .ok v W' ∧ R (.returned v) W') : ∀ (ds : List Deferred) (W : World), Mks ρ W ds → (∀ r, dmark r ∈ ds → W0.heap.size ≤ r) → HR ρ σ W → Stp N ρ0 σ0 W0 ρ σ W → LeavesInM Fence.wide 0 P fn tmps R ds .returning W
  | [], W, _, _, h1, h2 => hR W h1 h2
  | _ :: ds, W, ⟨r, e, k1, k2, k3, k4⟩, hb, h1, h2 => by
    subst e
    refine ⟨(fun h => by cases h), .inl ⟨r, setB W r (.deferred none), rfl, ?_, leaves_marks hR ds _ (k4.setB k3) (fun r' hr => hb r' (List.mem_cons_of_mem _ hr)) (h1.setB k2) (h2.setB (hb r List.mem_cons_self))⟩⟩
    simp [Instr.takeDeferred, getObj, Sem.run_bind, Sem.run, k1, setB_deferred k1]
theorem call_sound {Γ : Gam} {pu : FuncId → Bool} {Y : List Yl} (hm : P.follows .mixedOrders = true) (hΓ : GamOk P G Γ Y) (hpu : PuOk Γ pu) {f : FuncId} {fn : Func} {c : Code} {c' : ACode} {xs : List ARes} (hf : P.funcs[f]? = some fn) (hb : fn.body = some c)
    (hc : compC P G fn.ntmps pu c = some c') (hres : compR P fn.results.toList = some xs) (hnt : Nat.ble fn.ntmps 1048576 = true) {args : List AV} (hargs : Nat.ble args.length fn.ntmps = true) {K : AV → AH → Prop}
    (h : avc std Γ G fn.ntmps σ.next c' (fun e env σ' => (match e with | .normal => True | .ret => True | _ => False) ∧ (resL std env σ' xs).1 = true ∧ K (retV (resL std env σ' xs).2) σ') (envOf args 0 .leaf) σ)
    {vs : List Value} (hY : YInv Y ρ σ W) (hG : ∀ g, g < G → ∃ s, ρ g = some (g, (0, s))) (hr : HR ρ σ W) (hvs : VRs ρ args vs) :
    Calls P f vs.toArray W fun e W' => ∃ v av σ' ρ', e = .returned v ∧ K av σ' ∧ HR ρ' σ' W' ∧ Stp σ.next ρ σ W ρ' σ' W' ∧ VR ρ' av v := by
  rw [Nat.ble_eq] at hnt hargs
  have hl := hvs.length
  refine callsIn_wide.1 (callsIn_of_wp_marks (n := 0) hf hb trivial (wpIn_mono (F := fen none) (avc_sound hm c c' hc ⟨hΓ, hpu, fun h => absurd rfl h⟩ ⟨Nat.le_refl _, hY, fun y hy => (hY y hy).lt, hr⟩ _ _ _ ρ W _ h hr ⟨hnt, ?_, hG, fun t v ht => ?_⟩ (Stp.refl (Nat.le_refl _)) ⟨trivial, fun r hr => by cases hr⟩) fun e a W' ⟨ρ', env', σ', ⟨h1, h2, h3⟩, h4, h5, h6, h7, h8⟩ => ?_))
  · simp; omega
  · rw [envOf_get _ _ _ _ (by omega)] at ht
    simp only [Nat.zero_le, true_and, Nat.zero_add, Nat.sub_zero, T.get_leaf] at ht
    split at ht
    · rename_i hlt
      obtain ⟨u, hu, hr'⟩ := hvs.at t v ht
      have : (vs.toArray ++ Array.replicate (fn.ntmps - vs.toArray.size) undef).getD t undef = u := by
        rw [Array.getD_eq_getD_getElem?, Array.getElem?_append_left (by simp; omega)]
        simp [hu]
      rw [this]; exact hr'
    · cases ht
  · have key := leaves_marks (P := P) (R := fun e W' => ∃ v av σ' ρ', e = .returned v ∧ K av σ' ∧ HR ρ' σ' W' ∧ Stp σ.next ρ σ W ρ' σ' W' ∧ VR ρ' av v) (fn := fn) (tmps := a.tmps) (fun W2 k1 k2 => by
      obtain ⟨v, e1, e2⟩ := results_run (P := P) k1 h5 hres h2
      exact ⟨v, e1, v, _, σ', ρ', rfl, h3, k1, k2, e2⟩) a.defers W' h7 h8 h4 h6
    cases e
    case normal => exact key
    case ret => exact key
    all_goals exact h1.elim
end
end
end Go.Proofs.YtjgmpdklfcmelaaGreatDoor.V2
namespace Go.Proofs.YtjgmpdklfcmelaaGreatDoor.V2
open Go
noncomputable section
def ofL : List (Nat × AV) → T AV
  | [] => .leaf
  | p :: l => (ofL l).put p.1 p.2
theorem ofL_get : ∀ (l : List (Nat × AV)) (t : Nat) (v : AV), (∀ p ∈ l, Nat.blt p.1 1048576 = true) → (ofL l).get t = some v → (t, v) ∈ l
  | [], t, v, _, h => by cases h
  | p :: l, t, v, hs, h => by
    have hp := hs p List.mem_cons_self
    rw [Nat.blt_eq] at hp
    simp only [ofL, T.get_put _ _ _ _ hp] at h
    by_cases ht : t = p.1
    · rw [if_pos ht] at h; cases h; rw [ht]; exact List.mem_cons_self
    · rw [if_neg ht] at h; exact List.mem_cons_of_mem _ (ofL_get l t v (fun q hq => hs q (List.mem_cons_of_mem _ hq)) h)
def Has (env : T AV) : List (Nat × AV) → Prop
  | [] => True
  | p :: l => (env.get p.1 = some p.2 ∧ Nat.blt p.1 1048576 = true) ∧ Has env l
theorem Has.mem {env : T AV} : ∀ {l : List (Nat × AV)}, Has env l → ∀ p ∈ l, env.get p.1 = some p.2 ∧ Nat.blt p.1 1048576 = true
  | [], _, p, hp => by cases hp
  | q :: l, h, p, hp => by
    rcases List.mem_cons.1 hp with rfl | hp
    · exact h.1
    · exact Has.mem h.2 p hp
section
variable {A : Ar} {Γ : Gam} {G nt N : Nat} {K : AK} {env : T AV} {σ : AH}
end
end
end Go.Proofs.YtjgmpdklfcmelaaGreatDoor.V2
namespace Go.Proofs.YtjgmpdklfcmelaaGreatDoor.V2
open Go
noncomputable section
structure Ent where
  nt : Nat
  code : ACode
  res : List ARes
def isRet : AX → Bool
  | .exit _ => false
  | _ => true
def runF (A : Ar) (Γ : Gam) (fuel : Nat) (x : Ent) (args : List AV) (σ : AH) : Out :=
  match run A Γ σ.next fuel x.code (envOf args 0 .leaf) σ with
  | .bad => bad σ
  | .ok e env σ' => match resL A env σ' x.res with
    | (ok, vs) => (ok && isRet e && Nat.ble args.length x.nt, retV vs, σ')
def Gam.ext (Γ0 : Gam) (l : Nat) (h : List AV → AH → Out) : Gam := .mk Γ0.fn (fun b args σ => bif Nat.beq b l then h args σ else Γ0.yl b args σ) (fun _ _ => .no) fun _ _ _ => none
structure Sp where
  is : FuncId → Bool
  fn : Gam → FuncId → List AV → AH → Out
  dm : Gam → FuncId → List AV → AH → Option (List (AV × AH))
def Gam.grow (A : Ar) (fuel : Nat) (tab : T Ent) (S : Sp) (Γ0 : Gam) (n : Nat) : Gam :=
  Nat.rec (motive := fun _ => Gam → Gam) (fun Γ0 => Γ0) (fun _ ih Γ0 => .mk (fun f args σ => match tab.get f with
    | none => bif S.is f then S.fn (ih Γ0) f args σ else Γ0.fn f args σ
    | some x => runF A (ih Γ0) fuel x args σ) Γ0.yl (fun l h => ih (Γ0.ext l h)) fun f args σ => S.dm (ih Γ0) f args σ) n Γ0
structure Sp.Ok (P : Program) (G : Nat) (pu : FuncId → Bool) (S : Sp) : Prop where
  fn : ∀ Γ Y, GamOk P G Γ Y → PuOk Γ pu → FnOk P G (S.fn Γ) Y
  dm : ∀ Γ Y, GamOk P G Γ Y → PuOk Γ pu → DmOk P G (S.dm Γ) Y
  pu : ∀ f, pu f = true → S.is f = false
def Sp.none : Sp := ⟨fun _ => false, fun _ _ _ σ => bad σ, fun _ _ _ _ => .none⟩
theorem Sp.none_ok {P : Program} {G : Nat} {pu : FuncId → Bool} : Sp.none.Ok P G pu := ⟨fun _ _ _ _ => (fun f args σ h => by cases h), fun _ _ _ _ => DmOk.none_, fun _ _ => rfl⟩
def TabOk (P : Program) (G : Nat) (pu : FuncId → Bool) (tab : T Ent) : Prop := ∀ f x, tab.get f = some x → ∃ fn c, P.funcs[f]? = some fn ∧ fn.body = some c ∧ (fn.name == "runtime.NumGoroutine") = false ∧ fn.ntmps = x.nt ∧ compC P G fn.ntmps pu c = some x.code ∧ compR P fn.results.toList = some x.res ∧ Nat.ble fn.ntmps 1048576 = true
theorem FnOk.weak {P : Program} {G : Nat} {f : FuncId → List AV → AH → Out} {Y : List Yl} {z : Yl} (h : FnOk P G f Y) : FnOk P G f (z :: Y) := fun g args σ hok =>
  ⟨(h g args σ hok).1, fun ρ W vs hY => (h g args σ hok).2 ρ W vs fun y hy => hY y (List.mem_cons_of_mem _ hy)⟩
theorem YlOk.weak {P : Program} {G l : Nat} {h : List AV → AH → Out} {Y : List Yl} {z : Yl} (hk : YlOk P G l h Y) : YlOk P G l h (z :: Y) := fun args σ hok ρ W vs c d hY => hk args σ hok ρ W vs c d fun y hy => hY y (List.mem_cons_of_mem _ hy)
theorem GamOk.ext {P : Program} {G : Nat} {Γ0 : Gam} {Y : List Yl} {z : Yl} {h : List AV → AH → Out} (h0 : GamOk P G Γ0 Y) (hk : YlOk P G z.l h (z :: Y)) : GamOk P G (Γ0.ext z.l h) (z :: Y) := by
  refine .mk h0.fn.weak (fun l => ?_) (fun _ _ _ => .no) .none_
  cases hb : Nat.beq l z.l with
  | true =>
    have hl := Nat.eq_of_beq_eq_true hb
    have e : (fun args σ => bif Nat.beq l z.l then h args σ else Γ0.yl l args σ) = h := by rw [hb]; rfl
    rw [← hb, e, hl]; exact hk
  | false =>
    have e : (fun args σ => bif Nat.beq l z.l then h args σ else Γ0.yl l args σ) = Γ0.yl l := by rw [hb]; rfl
    rw [← hb, e]; exact (h0.yl l).weak
theorem grow_ok {P : Program} {G fuel : Nat} {pu : FuncId → Bool} {tab : T Ent} {S : Sp} (hm : P.follows .mixedOrders = true) (ht : TabOk P G pu tab) (hS : S.Ok P G pu) (hpt : ∀ f, pu f = true → tab.get f = none) (n : Nat) :
    ∀ {Γ0 : Gam} {Y : List Yl}, GamOk P G Γ0 Y → PuOk Γ0 pu → GamOk P G (Gam.grow std fuel tab S Γ0 n) Y ∧ PuOk (Gam.grow std fuel tab S Γ0 n) pu := by
  induction n with
  | zero => intro Γ0 Y h0 hpu; exact ⟨h0, hpu⟩
  | succ n ih =>
    intro Γ0 Y h0 hpu
    refine ⟨.mk ?_ h0.yl (fun z h hk => (ih (h0.ext hk) hpu).1) (hS.dm _ _ (ih h0 hpu).1 (ih h0 hpu).2), fun f hf args σ σ' => ?_⟩
    · intro f args σ hok
      have ih := ih h0 hpu
      have ih1 : GamOk P G (Gam.grow std fuel tab S Γ0 n) Y := ih.1
      have ih2 : PuOk (Gam.grow std fuel tab S Γ0 n) pu := ih.2
      change ((match tab.get f with | none => bif S.is f then S.fn (Gam.grow std fuel tab S Γ0 n) f args σ else Γ0.fn f args σ | some x => runF std (Gam.grow std fuel tab S Γ0 n) fuel x args σ) : Out).1 = true at hok
      show _ ∧ ∀ ρ W vs, YInv Y ρ σ W → _ → HR ρ σ W → VRs ρ args vs → Calls P f vs.toArray W fun e W' => ∃ v ρ', e = .returned v ∧ HR ρ' ((match tab.get f with | none => bif S.is f then S.fn (Gam.grow std fuel tab S Γ0 n) f args σ else Γ0.fn f args σ | some x => runF std (Gam.grow std fuel tab S Γ0 n) fuel x args σ) : Out).2.2 W' ∧ Stp σ.next ρ σ W ρ' ((match tab.get f with | none => bif S.is f then S.fn (Gam.grow std fuel tab S Γ0 n) f args σ else Γ0.fn f args σ | some x => runF std (Gam.grow std fuel tab S Γ0 n) fuel x args σ) : Out).2.2 W' ∧ VR ρ' ((match tab.get f with | none => bif S.is f then S.fn (Gam.grow std fuel tab S Γ0 n) f args σ else Γ0.fn f args σ | some x => runF std (Gam.grow std fuel tab S Γ0 n) fuel x args σ) : Out).2.1 v
      cases hx : tab.get f with
      | none =>
        rw [hx] at hok
        dsimp only at hok ⊢
        cases hs : S.is f with
        | false => rw [hs] at hok; exact h0.fn f args σ hok
        | true => rw [hs] at hok; exact hS.fn _ _ ih1 ih2 f args σ hok
      | some x =>
        rw [hx] at hok
        dsimp only at hok ⊢
        obtain ⟨fn, c, e1, e2, e3, e4, e5, e6, e7⟩ := ht f x hx
        refine ⟨⟨fn, e1, by rw [e2]; rfl, e3⟩, fun ρ W vs hY hG hr hvs => ?_⟩
        unfold runF at hok ⊢
        cases hrun : run std (Gam.grow std fuel tab S Γ0 n) σ.next fuel x.code (envOf args 0 .leaf) σ with
        | bad => rw [hrun] at hok; cases hok
        | ok ex env σ' =>
          rw [hrun] at hok
          dsimp only at hok ⊢
          cases hres : resL std env σ' x.res with
          | mk ok vs' =>
            rw [hres] at hok
            dsimp only at hok ⊢
            simp only [Bool.and_eq_true] at hok
            obtain ⟨⟨k1, k2⟩, k3⟩ := hok
            refine (call_sound (K := fun av σ1 => av = retV vs' ∧ σ1 = σ') hm ih1 ih2 e1 e2 e5 e6 e7 (by rw [e4]; exact k3) (run_avc x.code _ _ _ _ _ _ hrun ⟨?_, by rw [hres]; exact k1, by rw [hres], rfl⟩) hY hG hr hvs).mono ?_
            · cases ex with
              | normal => trivial
              | ret => trivial
              | exit i => cases k2
            · rintro e' W' ⟨v, av, σ1, ρ', h1, ⟨rfl, rfl⟩, h3, h4, h5⟩
              exact ⟨v, ρ', h1, h3, h4, h5⟩
    · have e : ∀ σ, (Gam.grow std fuel tab S Γ0 (n + 1)) f args σ = (match tab.get f with | none => bif S.is f then S.fn (Gam.grow std fuel tab S Γ0 n) f args σ else Γ0.fn f args σ | some x => runF std (Gam.grow std fuel tab S Γ0 n) fuel x args σ) := fun _ => rfl
      rw [e, e, hpt f hf, hS.pu f hf]
      exact hpu f hf args σ σ'
end
end Go.Proofs.YtjgmpdklfcmelaaGreatDoor.V2
namespace Go.Proofs.YtjgmpdklfcmelaaGreatDoor
open Go
def N32 (x : UInt32) : Int := (x.toNat : Int)
def N8 (x : UInt8) : Int := (x.toNat : Int)
theorem wrap_u32 (n : Nat) : IntKind.u32.wrap (n : Int) = ((n % 4294967296 : Nat) : Int) := by
  simp [IntKind.wrap, IntKind.bits, IntKind.signed]
theorem u32_id (x : UInt32) : IntKind.u32.wrap (N32 x) = N32 x := by
  unfold N32; rw [wrap_u32, Nat.mod_eq_of_lt x.toNat_lt]
theorem bv32 (x : UInt32) : BitVec.ofNat 32 x.toNat = x.toBitVec := by rw [← UInt32.toNat_toBitVec, BitVec.ofNat_toNat, BitVec.setWidth_eq]
theorem u32_bits_xor (x y : UInt32) : bits .xor .u32 (N32 x) (N32 y) = N32 (x ^^^ y) := by
  have e : bits .xor .u32 (N32 x) (N32 y) = IntKind.u32.wrap (N32 (x ^^^ y)) := by
    unfold bits N32
    simp only [IntKind.bits, BitVec.ofInt_natCast, bv32]
    rfl
  rw [e, u32_id]
theorem u32_bits_and (x y : UInt32) : bits .and .u32 (N32 x) (N32 y) = N32 (x &&& y) := by
  have e : bits .and .u32 (N32 x) (N32 y) = IntKind.u32.wrap (N32 (x &&& y)) := by
    unfold bits N32
    simp only [IntKind.bits, BitVec.ofInt_natCast, bv32]
    rfl
  rw [e, u32_id]
theorem u32_bits_not (x : UInt32) : bits .xor .u32 4294967295 (N32 x) = N32 (~~~ x) := by
  have h : (4294967295 : Int) = N32 (4294967295 : UInt32) := rfl
  rw [h, u32_bits_xor]
  have : (4294967295 : UInt32) ^^^ x = ~~~ x := by
    apply UInt32.toBitVec_inj.1
    simp [← BitVec.allOnes_xor]
  rw [this]
theorem u32_bits_not2 (x : UInt32) : bits .xor .u32 IntKind.u32.max (N32 x) = N32 (~~~ x) := u32_bits_not x
def sror (n : UInt32) (x : Nat) : UInt32 := UInt32.ofNat (n.toNat / 2 ^ x)
theorem sror_eq (n : UInt32) (x : Nat) : N32 n / 2 ^ x = N32 (sror n x) := by
  unfold sror N32
  rw [UInt32.toNat_ofNat']
  have : n.toNat / 2 ^ x < 4294967296 := Nat.lt_of_le_of_lt (Nat.div_le_self _ _) n.toNat_lt
  rw [show (2:Nat) ^ 32 = 4294967296 from rfl, Nat.mod_eq_of_lt this]; simp
theorem ret_int {k : IntKind} {a b : Int} (h : a = b) : Ending.returned (.int k a) = .returned (.int k b) := by rw [h]
end Go.Proofs.YtjgmpdklfcmelaaGreatDoor
namespace Go.Proofs.YtjgmpdklfcmelaaGreatDoor
open Go
def at8 (l : List UInt8) (i : Nat) : UInt8 := l.getD i 0
def at32 (l : List UInt32) (i : Nat) : UInt32 := l.getD i 0
def cwl (l : List UInt32) : List Value := l.map fun x => Value.int .u32 (N32 x)
def cw (l : List UInt32) : Array Value := (cwl l).toArray
/-! A block of words in the world. -/
end Go.Proofs.YtjgmpdklfcmelaaGreatDoor
namespace Go.Proofs.YtjgmpdklfcmelaaGreatDoor
open Go Go.RowKit
def BSl (w : World) (v : Value) (bs : List UInt8) : Prop :=
  (v = .slice none 0 0 ∧ bs = []) ∨
  (∃ b off c, v = .slice (some ⟨b, off, none⟩) bs.length c ∧ bs.length ≤ c ∧ b < w.heap.size ∧ ∀ j, j < bs.length → w.cell? ⟨b, off + j, none⟩ = some (.int .u8 (N8 (at8 bs j)))) ∨
  ∃ a, v = .slice (some a) 0 0 ∧ bs = []
/-! Slices of slices of bytes. -/
end Go.Proofs.YtjgmpdklfcmelaaGreatDoor
namespace Go.Proofs.YtjgmpdklfcmelaaGreatDoor
open Go
def bI (l : List UInt8) : List Int := l.map N8
def wI (l : List UInt32) : List Int := l.map N32
theorem wI_length (l : List UInt32) : (wI l).length = l.length := by simp [wI]
theorem bI_getD (l : List UInt8) (k : Nat) : (bI l).getD k 0 = N8 (at8 l k) := by
  rw [bI, at8, List.getD_eq_getElem?_getD, List.getElem?_map, List.getD_eq_getElem?_getD]
  cases l[k]? <;> rfl
theorem wI_getD (l : List UInt32) (k : Nat) : (wI l).getD k 0 = N32 (at32 l k) := by
  rw [wI, at32, List.getD_eq_getElem?_getD, List.getElem?_map, List.getD_eq_getElem?_getD]
  cases l[k]? <;> rfl
def toBs (l : List Int) : List UInt8 := l.map fun n => UInt8.ofNat n.toNat
theorem bI_toBs (l : List Int) (h : ∀ n ∈ l, 0 ≤ n ∧ n ≤ 255) : bI (toBs l) = l := by
  unfold bI toBs
  rw [List.map_map]
  conv => rhs; rw [← List.map_id l]
  refine List.map_congr_left fun n hn => ?_
  have := h n hn
  simp only [Function.comp_apply, id_eq, N8, UInt8.toNat_ofNat']
  omega
theorem toBs_length (l : List Int) : (toBs l).length = l.length := by simp [toBs]
end Go.Proofs.YtjgmpdklfcmelaaGreatDoor
namespace Go.Proofs.YtjgmpdklfcmelaaGreatDoor.V2
open Go
open Go.RowKit
theorem HR.below {ρ : Ren} {σ : AH} {W W' : World} (h : HR ρ σ W) (hb : Below W.heap.size W W') : HR ρ σ W' :=
  ⟨h.small, h.none_, fun b c d hρ => by
    obtain ⟨h1, h2, o, h3, h4⟩ := h.dom b c d hρ
    refine ⟨h1, Nat.lt_of_lt_of_le h2 hb.size, o, h3, ?_⟩
    rw [hb.block c h2]; exact h4, h.inj⟩
theorem Stp.below {N : Nat} {ρ : Ren} {σ : AH} {W W' : World} (hN : N ≤ σ.next) (hb : Below W.heap.size W W') : Stp N ρ σ W ρ σ W' :=
  ⟨fun _ _ => rfl, fun b _c d h => .inl ⟨b, d, h⟩, hN, fun _ _ _ _ h _ => h, fun c hc _ => hb.block c hc, hb.tape, hb.os, hb.output, hb.size, fun _ c _ _ _ _ hc h _ => ⟨h, hb.block c hc⟩⟩
def rowB : Row → Option (List Int)
  | .ints k l => match k with
    | .u8 => some l
    | _ => none
  | .cells l => match l with
    | [] => some []
    | _ => none
def byI (l : List Int) : Bool := l.all fun n => decide (0 ≤ n) && decide (n ≤ 255)
theorem byI_iff {l : List Int} (h : byI l = true) : ∀ n ∈ l, 0 ≤ n ∧ n ≤ 255 := fun n hn => by
  have := List.all_eq_true.1 h n hn
  simpa using this
noncomputable def bytesA (A : Ar) (By : List Int → Bool) (σ : AH) (v : AV) : Bool × List Int := match rowA A false 1 σ v with
  | (ok, _, r) => match rowB r with
    | some l => (ok && By l, l)
    | none => (false, [])
theorem bytes_of {ρ : Ren} {σ : AH} {W : World} (hr : HR ρ σ W) {s : AV} {v : Value} (hv : VR ρ s v) (hok : (bytesA std byI σ s).1 = true) : BSl W v (toBs (bytesA std byI σ s).2) ∧ bI (toBs (bytesA std byI σ s).2) = (bytesA std byI σ s).2 := by
  unfold bytesA at hok ⊢
  generalize hrow : rowA std false 1 σ s = row at hok ⊢
  obtain ⟨ok, n, r⟩ := row
  simp only at hok ⊢
  cases hB : rowB r with
  | none => rw [hB] at hok; cases hok
  | some l =>
    rw [hB] at hok
    simp only [Bool.and_eq_true] at hok ⊢
    obtain ⟨hok, hby⟩ := hok
    have hby := byI_iff hby
    refine ⟨?_, bI_toBs l hby⟩
    cases s
    case nilsl =>
      simp only [VR] at hv
      simp only [rowA, Prod.mk.injEq] at hrow
      obtain ⟨_, _, rfl⟩ := hrow
      simp only [rowB, Option.some.injEq] at hB
      subst hB; subst hv
      exact .inl ⟨rfl, rfl⟩
    case sl b o n' k e z =>
      rcases vr_sl hv with ⟨c, d, o', k', hb, rfl, ho, hnk, hk, _, _⟩ | ⟨rfl, rfl, rfl, _, pp, rfl⟩
      rotate_left
      · refine .inr (.inr ⟨pp, rfl, ?_⟩)
        have hl : l = [] := by
          simp only [rowA] at hrow
          cases hob : σ.get b with
          | none => rw [hob] at hrow; cases hrow; cases hok
          | some ob =>
            rw [hob] at hrow
            cases ob with
            | map m => cases hrow; cases hok
            | hid => cases hrow; cases hok
            | dead => cases hrow; cases hB; rfl
            | cells m e2 t =>
              simp only [Prod.mk.injEq] at hrow
              obtain ⟨_, _, rfl⟩ := hrow
              rw [Nat.zero_mul, List.take_zero] at hB
              cases hB; rfl
            | ints ik m e2 t =>
              simp only [Prod.mk.injEq] at hrow
              obtain ⟨_, _, rfl⟩ := hrow
              have hik : ik = .u8 := by cases ik <;> first | rfl | (simp [rowB] at hB)
              subst hik
              simp only [std, rowB, Option.some.injEq] at hB
              rw [← hB]; simp
        rw [hl]; rfl
      have hc := (hr.dom _ _ _ hb).2.1
      simp only [rowA] at hrow
      have hempty : n' = 0 → l = [] → BSl W (.slice (some ⟨c, o', none⟩) n' k') (toBs l) := fun h1 h2 => by
        subst h1; subst h2
        exact .inr (.inl ⟨c, o', k', rfl, Nat.zero_le _, hc, fun j hj => by cases hj⟩)
      cases hob : σ.get b with
      | none => rw [hob] at hrow; cases hrow; cases hok
      | some ob =>
        rw [hob] at hrow
        cases ob with
        | map m => cases hrow; cases hok
        | hid => cases hrow; cases hok
        | dead =>
          simp only [Prod.mk.injEq] at hrow
          obtain ⟨h1, _, rfl⟩ := hrow
          simp only [rowB, Option.some.injEq] at hB
          rw [← h1, Bool.and_eq_true, Nat.beq_eq] at hok
          exact hempty hok.2 hB.symm
        | cells m e2 t =>
          simp only [Prod.mk.injEq] at hrow
          obtain ⟨h1, _, rfl⟩ := hrow
          rw [← h1] at hok
          simp only [Bool.and_eq_true, Nat.ble_eq] at hok
          cases hm : (m.drop o).take (n' * 1) with
          | nil =>
            have h0 : ((m.drop o).take (n' * 1)).length = 0 := by rw [hm]; rfl
            rw [List.length_take, List.length_drop] at h0
            rw [hm] at hB
            simp only [rowB, Option.some.injEq] at hB
            exact hempty (by omega) hB.symm
          | cons x y => rw [hm] at hB; cases hB
        | ints ik m e2 t =>
          simp only [Prod.mk.injEq] at hrow
          obtain ⟨h1, _, rfl⟩ := hrow
          rw [← h1] at hok
          simp only [std, Bool.and_eq_true, Nat.ble_eq] at hok
          have hik : ik = .u8 := by cases ik <;> first | rfl | (simp [rowB] at hB)
          subst hik
          simp only [std, rowB, Option.some.injEq] at hB
          have hln : l.length = n' := by rw [← hB, List.length_take, List.length_drop]; omega
          by_cases hn : n' = 0
          · exact hempty hn (List.length_eq_zero_iff.1 (by rw [hln, hn]))
          · have ho := ho (by omega)
            subst ho
            refine .inr (.inl ⟨c, o + d.1, k', by rw [toBs_length, hln], by rw [toBs_length, hln]; omega, hc, fun j hj => ?_⟩)
            rw [toBs_length, hln] at hj
            have hjm : o + j < m.length := by omega
            obtain ⟨u, hu, hvr⟩ := hr.load (i := o + j) (a := .int .u8 m[o + j]) hb hob (by simp only [AObj.at]; rw [List.getElem?_eq_getElem hjm]; rfl)
            simp only [VR] at hvr
            subst hvr
            rw [show o + d.1 + j = o + j + d.1 by omega, hu]
            have hlj : l[j]? = some m[o + j] := by rw [← hB, List.getElem?_take, if_pos (by omega), List.getElem?_drop, List.getElem?_eq_getElem hjm]
            have : (bI (toBs l)).getD j 0 = m[o + j] := by rw [bI_toBs l hby, List.getD_eq_getElem?_getD, hlj]; rfl
            rw [bI_getD] at this
            rw [this]
    all_goals (simp only [rowA, Prod.mk.injEq] at hrow; obtain ⟨h1, _⟩ := hrow; rw [← h1] at hok; cases hok)
end Go.Proofs.YtjgmpdklfcmelaaGreatDoor.V2
namespace Go.Proofs.YtjgmpdklfcmelaaGreatDoor.V2
open Go
noncomputable section
mutual
def mapV (r : Nat → Nat) : AV → AV
  | .top => .top
  | .bool b => .bool b
  | .int k n => .int k n
  | .str l => .str l
  | .ptr b o => .ptr (r b) o
  | .nilptr => .nilptr
  | .sl b o n k e z => .sl (r b) o n k e z
  | .nilsl => .nilsl
  | .map b => .map (r b)
  | .nilmap => .nilmap
  | .yld b => .yld (r b)
  | .fn f xs ys => .fn f (mapVs r xs) (mapVs r ys)
  | .nilfn => .nilfn
  | .ifc t a => .ifc t (mapV r a)
  | .nilifc => .nilifc
  | .agg l => .agg (mapVs r l)
  | .ints k l => .ints k l
  | .tup l => .tup (mapVs r l)
def mapVs (r : Nat → Nat) : List AV → List AV
  | [] => []
  | a :: l => mapV r a :: mapVs r l
end
def mapO (r : Nat → Nat) : AObj → AObj
  | .dead => .dead
  | .cells l e t => .cells (mapVs r l) e t
  | .ints k l e t => .ints k l e t
  | .map l => .map (l.map fun p => (mapV r p.1, mapV r p.2))
  | .hid => .hid
theorem mapVs_at (r : Nat → Nat) : ∀ (l : List AV) (i : Nat), (mapVs r l)[i]? = (l[i]?).map (mapV r)
  | [], i => by simp [mapVs]
  | a :: l, 0 => by simp [mapVs]
  | a :: l, i + 1 => by simp [mapVs, mapVs_at r l i]
theorem mapVs_length (r : Nat → Nat) : ∀ (l : List AV), (mapVs r l).length = l.length
  | [] => rfl
  | a :: l => by simp [mapVs, mapVs_length r l]
mutual
def below (n : Nat) : AV → Bool
  | .ptr b _ => Nat.blt b n
  | .sl b _ _ _ _ _ => Nat.blt b n
  | .map b => Nat.blt b n
  | .fn _ xs ys => belows n xs && belows n ys
  | .ifc _ a => below n a
  | .agg l => belows n l
  | .tup l => belows n l
  | .top => true
  | .bool _ => true
  | .int _ _ => true
  | .str _ => true
  | .nilptr => true
  | .nilsl => true
  | .nilmap => true
  | .yld b => Nat.blt b n
  | .nilfn => true
  | .nilifc => true
  | .ints _ _ => true
def belows (n : Nat) : List AV → Bool
  | [] => true
  | a :: l => below n a && belows n l
end
def belowO (n : Nat) : AObj → Bool
  | .dead => true
  | .cells l _ _ => belows n l
  | .ints _ _ _ _ => true
  | .map l => l.all fun p => below n p.1 && below n p.2
  | .hid => true
theorem belows_at {n : Nat} : ∀ {l : List AV}, belows n l = true → ∀ (i : Nat) a, l[i]? = some a → below n a = true
  | [], _, i, a, h => by simp at h
  | x :: l, hb, 0, a, h => by
    unfold belows at hb; rw [Bool.and_eq_true] at hb
    simp only [List.getElem?_cons_zero, Option.some.injEq] at h; subst h; exact hb.1
  | x :: l, hb, i + 1, a, h => by
    unfold belows at hb; rw [Bool.and_eq_true] at hb
    exact belows_at hb.2 i a (by simpa using h)
theorem lt_of_blt {a b : Nat} (h : Nat.blt a b = true) : a < b := by rwa [Nat.blt_eq] at h
mutual
theorem VR.unmap {ρ ρ' : Ren} {r : Nat → Nat} {n : Nat} (h : ∀ b x, b < n → ρ (r b) = some x → ρ' b = some x) : ∀ (a : AV) (v : Value), below n a = true → VR ρ (mapV r a) v → VR ρ' a v
  | .top, _, _, _ => trivial
  | .bool _, _, _, e => e
  | .int _ _, _, _, e => e
  | .str _, _, _, e => e
  | .ptr _ _, _, hb, ⟨c, d, hc, e⟩ => ⟨c, d, h _ _ (lt_of_blt hb) hc, e⟩
  | .nilptr, _, _, e => e
  | .sl _ _ _ _ _ _, _, hb, .inl ⟨c, d, o, k, hc, e⟩ => .inl ⟨c, d, o, k, h _ _ (lt_of_blt hb) hc, e⟩
  | .sl _ _ _ _ _ _, _, hb, .inr ⟨h1, h2, h3, ⟨x, hx⟩, e⟩ => .inr ⟨h1, h2, h3, ⟨x, h _ _ (lt_of_blt hb) hx⟩, e⟩
  | .nilsl, _, _, e => e
  | .map _, _, hb, ⟨c, d, hc, e⟩ => ⟨c, d, h _ _ (lt_of_blt hb) hc, e⟩
  | .nilmap, _, _, e => e
  | .yld _, _, hb, ⟨c, d, hc, e⟩ => ⟨c, d, h _ _ (lt_of_blt hb) hc, e⟩
  | .fn _ xs ys, _, hb, ⟨us, vs, e, h1, h2⟩ => ⟨us, vs, e, VRs.unmap h xs us ((Bool.and_eq_true _ _).mp hb).1 h1, VRs.unmap h ys vs ((Bool.and_eq_true _ _).mp hb).2 h2⟩
  | .nilfn, _, _, e => e
  | .ifc _ a, _, hb, ⟨u, e, hu⟩ => ⟨u, e, VR.unmap h a u hb hu⟩
  | .nilifc, _, _, e => e
  | .agg l, _, hb, ⟨us, e, hu⟩ => ⟨us, e, VRs.unmap h l us hb hu⟩
  | .ints _ _, _, _, e => e
  | .tup l, _, hb, ⟨us, e, hu⟩ => ⟨us, e, VRs.unmap h l us hb hu⟩
theorem VRs.unmap {ρ ρ' : Ren} {r : Nat → Nat} {n : Nat} (h : ∀ b x, b < n → ρ (r b) = some x → ρ' b = some x) : ∀ (l : List AV) (vs : List Value), belows n l = true → VRs ρ (mapVs r l) vs → VRs ρ' l vs
  | [], _, _, e => e
  | a :: l, _, hb, ⟨v, m, e, hv, hm⟩ => ⟨v, m, e, VR.unmap h a v ((Bool.and_eq_true _ _).mp hb).1 hv, VRs.unmap h l m ((Bool.and_eq_true _ _).mp hb).2 hm⟩
end
theorem MapL.unmap {ρ ρ' : Ren} {r : Nat → Nat} {n : Nat} (h : ∀ b x, b < n → ρ (r b) = some x → ρ' b = some x) : ∀ {l : List (AV × AV)} {es : List MapEntry}, (l.all fun p => below n p.1 && below n p.2) = true → MapL ρ (l.map fun p => (mapV r p.1, mapV r p.2)) es → MapL ρ' l es
  | [], _, _, e => e
  | p :: l, _, hb, ⟨e, m, h0, h1, h2, h3⟩ => by
    rw [List.all_cons, Bool.and_eq_true, Bool.and_eq_true] at hb
    exact ⟨e, m, h0, VR.unmap h _ _ hb.1.1 h1, VR.unmap h _ _ hb.1.2 h2, MapL.unmap h hb.2 h3⟩
def ofM : List (Nat × AObj) → T AObj
  | [] => .leaf
  | p :: l => (ofM l).put p.1 p.2
def Had (r : Nat → Nat) (σ : AH) (n : Nat) : List (Nat × AObj) → Prop
  | [] => True
  | p :: l => (Nat.blt p.1 n = true ∧ σ.get (r p.1) = some (mapO r p.2)) ∧ Had r σ n l
theorem Had.mem {r : Nat → Nat} {σ : AH} {n : Nat} : ∀ {l : List (Nat × AObj)}, Had r σ n l → ∀ p ∈ l, p.1 < n ∧ σ.get (r p.1) = some (mapO r p.2)
  | [], _, p, hp => by cases hp
  | q :: l, h, p, hp => by
    rcases List.mem_cons.1 hp with rfl | hp
    · exact ⟨by have := h.1.1; rwa [Nat.blt_eq] at this, h.1.2⟩
    · exact Had.mem h.2 p hp
theorem ofM_get : ∀ (l : List (Nat × AObj)) (t : Nat) (v : AObj), (∀ p ∈ l, p.1 < 1048576) → (ofM l).get t = some v → (t, v) ∈ l
  | [], t, v, _, h => by cases h
  | p :: l, t, v, hs, h => by
    simp only [ofM, T.get_put _ _ _ _ (hs p List.mem_cons_self)] at h
    by_cases ht : t = p.1
    · rw [if_pos ht] at h; cases h; rw [ht]; exact List.mem_cons_self
    · rw [if_neg ht] at h; exact List.mem_cons_of_mem _ (ofM_get l t v (fun q hq => hs q (List.mem_cons_of_mem _ hq)) h)
theorem mapO_spec (r : Nat → Nat) (o : AObj) : (mapO r o).cellsy = o.cellsy ∧ (mapO r o).isRo = o.isRo ∧ (mapO r o).len = o.len ∧ (mapO r o).elem = o.elem ∧ ∀ i a, o.at i = some a → (mapO r o).at i = some (mapV r a) := by
  cases o with
  | dead => exact ⟨rfl, rfl, rfl, rfl, fun i a h => by cases h⟩
  | map l => exact ⟨rfl, rfl, rfl, rfl, fun i a h => by cases h⟩
  | hid => exact ⟨rfl, rfl, rfl, rfl, fun i a h => by cases h⟩
  | cells l e t => exact ⟨rfl, rfl, mapVs_length r l, rfl, fun i a h => by simp only [AObj.at, mapO] at h ⊢; rw [mapVs_at, h]; rfl⟩
  | ints k l e t => exact ⟨rfl, rfl, rfl, rfl, fun i a h => by
      simp only [AObj.at, mapO] at h ⊢
      rw [h]
      cases hl : l[i]? with
      | none => rw [hl] at h; cases h
      | some m => rw [hl] at h; cases h; rfl⟩
def keepN (r : Nat → Nat) (keys : List Nat) (N : Nat) : Bool := (List.range N).all fun b => Nat.beq (r b) b && keys.contains b
def injR (r : Nat → Nat) : List Nat → Bool
  | [] => true
  | b :: l => l.all (fun c => Nat.beq b c || !Nat.beq (r b) (r c)) && injR r l
theorem injR_spec {r : Nat → Nat} : ∀ {l : List Nat}, injR r l = true → ∀ b ∈ l, ∀ c ∈ l, r b = r c → b = c
  | [], _, b, hb, _, _, _ => by cases hb
  | x :: l, h, b, hb, c, hc, e => by
    unfold injR at h
    rw [Bool.and_eq_true, List.all_eq_true] at h
    have key : ∀ c ∈ l, r x = r c → x = c := fun c hc e => by
      have := h.1 c hc
      rw [Bool.or_eq_true, Nat.beq_eq] at this
      rcases this with h | h
      · exact h
      · rw [e, Nat.beq_refl] at h; cases h
    rcases List.mem_cons.1 hb with h1 | h1 <;> rcases List.mem_cons.1 hc with h2 | h2
    · rw [h1, h2]
    · rw [h1] at e ⊢; exact key c h2 e
    · rw [h2] at e ⊢; exact (key b h1 e.symm).symm
    · exact injR_spec h.2 b h1 c h2 e
theorem Wk.lay {G nt N : Nat} {env : T AV} {σ : AH} (r : Nat → Nat) {l : List (Nat × AV)} {L : List (Nat × AObj)} {n : Nat} (hn : Nat.ble n 1000000 = true) (hNn : Nat.ble N n = true) (hG : Nat.ble G N = true)
    (hk : keepN r (L.map (·.1)) N = true) (hi : injR r (L.map (·.1)) = true) (hM : Had r σ n L) (hlow : ∀ b, b < N → (ofM L).get b = σ.get b)
    (hd : (List.range n).all (L.map (·.1)).contains = true) (hbe : (l.all fun p => below n p.2) = true) (hbM : (L.all fun p => belowO n p.2) = true) (he : Has env (l.map fun p => (p.1, mapV r p.2))) : Wk G nt N env σ (ofL l) ⟨n, ofM L⟩ := fun ρ W hr => by
  rw [Nat.ble_eq] at hn hNn hG
  have hMs := hM.mem
  have hLs : ∀ p ∈ L, p.1 < 1048576 := fun p hp => by have := (hMs p hp).1; omega
  have hkey : ∀ b, b < N → r b = b ∧ b ∈ L.map (·.1) := fun b hb => by
    have := List.all_eq_true.1 hk b (List.mem_range.2 hb)
    rw [Bool.and_eq_true, Nat.beq_eq, List.contains_iff_mem] at this
    exact this
  have hget : ∀ b o, (ofM L).get b = some o → b ∈ L.map (·.1) ∧ b < n ∧ σ.get (r b) = some (mapO r o) := fun b o h => by
    have := ofM_get L b o hLs h
    exact ⟨List.mem_map.2 ⟨_, this, rfl⟩, (hMs _ this).1, (hMs _ this).2⟩
  let ρ' : Ren := fun b => if b < n then ρ (r b) else none
  have hin : ∀ b, b ∈ L.map (·.1) → (ofM L).get b ≠ none := by
    have : ∀ (M : List (Nat × AObj)), (∀ p ∈ M, p.1 < 1048576) → ∀ b, b ∈ M.map (·.1) → (ofM M).get b ≠ none := by
      intro M
      induction M with
      | nil => intro _ b hb; cases hb
      | cons p M ih =>
        intro hs b hb
        simp only [ofM, T.get_put _ _ _ _ (hs p List.mem_cons_self)]
        by_cases hbp : b = p.1
        · rw [if_pos hbp]; simp
        · rw [if_neg hbp]
          refine ih (fun q hq => hs q (List.mem_cons_of_mem _ hq)) b ?_
          simp only [List.map_cons, List.mem_cons] at hb
          exact hb.resolve_left hbp
    exact this L hLs
  have hsome : ∀ b x, ρ' b = some x → ∃ o, (ofM L).get b = some o ∧ ρ (r b) = some x := fun b x h => by
    simp only [ρ'] at h
    split at h
    · rename_i hlt
      have := List.all_eq_true.1 hd b (List.mem_range.2 hlt)
      rw [List.contains_iff_mem] at this
      cases ho : (ofM L).get b with
      | none => exact absurd ho (hin b this)
      | some o => exact ⟨o, rfl, h⟩
    · cases h
  have hup : ∀ b x, b < n → ρ (r b) = some x → ρ' b = some x := fun b x hb h => by simp only [ρ']; rw [if_pos hb]; exact h
  have hlowρ : ∀ b, b < N → ρ' b = ρ b := fun b hb => by
    simp only [ρ']
    rw [if_pos (by omega), (hkey b hb).1]
  refine ⟨ρ', ⟨hn, fun b hb => ?_, fun b c d hb => ?_, fun b b' c d d' h1 h2 hne => ?_⟩, fun a ha => ?_, hlowρ, fun b c d hb => ?_, hNn, fun b hb => hlow b hb⟩
  · cases ho : (ofM L).get b with
    | none => exact ho
    | some o => have := (hget b o ho).2.1; have hb : n ≤ b := hb; omega
  · obtain ⟨o, ho, hρ⟩ := hsome b _ hb
    obtain ⟨h1, h2, h3⟩ := hget b o ho
    obtain ⟨_, hc, o2, ho2, hO⟩ := hr.dom _ _ _ hρ
    rw [h3] at ho2; cases ho2
    have hbo := List.all_eq_true.1 hbM _ (ofM_get L b o hLs ho)
    refine ⟨h2, hc, o, ho, fun hal => ?_, fun l e => ?_⟩
    rotate_left
    · subst e
      obtain ⟨es, ck, k1, k2, k3⟩ := hO.2 _ rfl
      exact ⟨es, ck, k1, MapL.unmap hup hbo k2, k3⟩
    obtain ⟨m1, m2, m3, m4, m5⟩ := mapO_spec r o
    refine ⟨by have := (hO.1 (by rw [m1]; exact hal)).1; rwa [m3] at this, fun hro => ?_⟩
    obtain ⟨cs, e, fr, k1, k2, k3, k4, k5⟩ := (hO.1 (by rw [m1]; exact hal)).2 (by rw [m2, m3]; exact hro)
    rw [m2, m4] at k2
    rw [m3] at k3 k4
    refine ⟨cs, e, fr, k1, k2, k3, k4, fun i a hi => ?_⟩
    obtain ⟨v, hv, hvr⟩ := k5 i _ (m5 i a hi)
    refine ⟨v, hv, VR.unmap hup a v ?_ hvr⟩
    cases o with
    | dead => cases hi
    | map l => cases hi
    | hid => cases hi
    | cells l e t => exact belows_at hbo i a hi
    | ints k l e t => simp only [AObj.at, Option.map_eq_some_iff] at hi; obtain ⟨_, _, rfl⟩ := hi; rfl
  · obtain ⟨o1, ho1, hρ1⟩ := hsome b _ h1
    obtain ⟨o2, ho2, hρ2⟩ := hsome b' _ h2
    obtain ⟨q1, _, q3⟩ := hget b o1 ho1
    obtain ⟨q1', _, q3'⟩ := hget b' o2 ho2
    have hrne : r b ≠ r b' := fun e => hne (injR_spec hi b q1 b' q1' e)
    have hdeadof : ∀ o, mapO r o = .dead → o = .dead := fun o h => by cases o <;> first | rfl | cases h
    rcases hr.inj _ _ _ _ _ hρ1 hρ2 hrne with e | e | ⟨x, y, e1, e2, e3, e4⟩
    · rw [q3] at e
      exact .inl (by show (ofM L).get b = _; rw [ho1, hdeadof o1 (Option.some.inj e)])
    · rw [q3'] at e
      exact .inr (.inl (by show (ofM L).get b' = _; rw [ho2, hdeadof o2 (Option.some.inj e)]))
    · rw [q3] at e1; rw [q3'] at e2
      cases e1; cases e2
      have hsh : ∀ o, (mapO r o).isSh = o.isSh := fun o => by unfold AObj.isSh; rw [(mapO_spec r o).1, (mapO_spec r o).2.1]
      rw [hsh] at e3 e4
      exact .inr (.inr ⟨o1, o2, ho1, ho2, e3, e4⟩)
  · refine ⟨ha.small, ha.size, fun g hg => ?_, fun t v ht => ?_⟩
    · obtain ⟨s, hs⟩ := ha.glob g hg
      exact ⟨s, by rw [hlowρ g (by omega)]; exact hs⟩
    · have hsm : ∀ p ∈ l, Nat.blt p.1 1048576 = true := fun p hp => (he.mem (p.1, mapV r p.2) (List.mem_map.2 ⟨p, hp, rfl⟩)).2
      have hm := ofL_get l t v hsm ht
      have := (he.mem (t, mapV r v) (List.mem_map.2 ⟨_, hm, rfl⟩)).1
      exact VR.unmap hup v _ (List.all_eq_true.1 hbe _ hm) (ha.at_ t _ this)
  · obtain ⟨_, _, hρ⟩ := hsome b _ hb
    exact ⟨_, _, hρ⟩
end
end Go.Proofs.YtjgmpdklfcmelaaGreatDoor.V2
namespace Go.Proofs.YtjgmpdklfcmelaaGreatDoor.V2
open Go
open Go.RowKit
noncomputable def globA (σ : AH) (g : Nat) (t : List Int → Bool) : Bool := match σ.get g with
  | some ob => match ob with
    | .ints k l _ _ => match k with
      | .u32 => t l
      | _ => false
    | _ => false
  | none => false
theorem glob_of {ρ : Ren} {σ : AH} {W : World} (hr : HR ρ σ W) {g n : Nat} {T : List UInt32} {t : List Int → Bool} (ht : ∀ l, t l = true → l = wI T) (hn : T.length = n) (hg : ∃ s, ρ g = some (g, (0, s))) (h : globA σ g t = true) : ∀ i, i < n → W.cell? ⟨g, i, none⟩ = some (.int .u32 (N32 (at32 T i))) := by
  unfold globA at h
  split at h
  case h_2 => cases h
  rename_i ob hob
  split at h
  case h_2 => cases h
  rename_i k l e tl
  split at h
  case h_2 => cases h
  have hl := ht _ h
  subst hl
  obtain ⟨s, hs⟩ := hg
  intro i hi
  have hi2 : i < (wI T).length := by rw [wI_length, hn]; exact hi
  obtain ⟨u, hu, hur⟩ := hr.load (i := i) (a := .int .u32 (wI T)[i]) hs hob (by simp only [AObj.at]; rw [List.getElem?_eq_getElem hi2]; rfl)
  simp only [VR] at hur
  subst hur
  have hu : W.cell? ⟨g, i, none⟩ = _ := hu
  rw [hu]
  have := wI_getD T i
  rw [List.getD_eq_getElem?_getD, List.getElem?_eq_getElem hi2] at this
  rw [← this]; rfl
end Go.Proofs.YtjgmpdklfcmelaaGreatDoor.V2
namespace Go.Proofs.YtjgmpdklfcmelaaGreatDoor.V2
open Go
open Go.RowKit
theorem cell_row {w : World} {b i : Nat} {v : Value} (h : w.cell? ⟨b, i, none⟩ = some v) : ∃ c e fr, w.heap[b]? = some (.cells c e fr) ∧ c[i]? = some v := by
  unfold World.cell? at h
  split at h
  · rename_i c e fr hh
    exact ⟨c, e, fr, hh, by simpa using h⟩
  · cases h
noncomputable def memL : List AObj → Nat → T AObj → T AObj
  | [], _, t => t
  | a :: l, i, t => memL l (i + 1) (t.put i a)
theorem memL_get : ∀ (l : List AObj) (i : Nat) (t : T AObj) (m : Nat), i + l.length ≤ 1048576 → (memL l i t).get m = if i ≤ m ∧ m < i + l.length then l[m - i]? else t.get m
  | [], i, t, m, _ => by rw [if_neg (by intro h; simp at h; omega)]; rfl
  | a :: l, i, t, m, h => by
    simp only [List.length_cons] at h
    show (memL l (i + 1) (t.put i a)).get m = _
    rw [memL_get l (i + 1) _ m (by omega), T.get_put _ _ _ _ (by omega)]
    by_cases h1 : i + 1 ≤ m ∧ m < i + 1 + l.length
    · rw [if_pos h1, if_pos (by simp; omega), show m - i = (m - (i + 1)) + 1 by omega, List.getElem?_cons_succ]
    · rw [if_neg h1]
      by_cases hm : m = i
      · subst hm; rw [if_pos rfl, if_pos (by simp)]; simp
      · rw [if_neg hm, if_neg (by simp; omega)]
noncomputable def hL (l : List AObj) : AH := ⟨l.length, memL l 0 .leaf⟩
theorem hL_get {l : List AObj} (h : l.length ≤ 1000000) (b : Nat) : (hL l).get b = l[b]? := by
  show (memL l 0 .leaf).get b = _
  rw [memL_get _ _ _ _ (by omega), T.get_leaf]
  by_cases hb : b < l.length
  · rw [if_pos (by omega)]; simp
  · rw [if_neg (by omega), List.getElem?_eq_none (by omega)]
def rL (l : List (Option (Nat × (Nat × Nat)))) : Ren := fun b => (l[b]?).getD none
theorem hr_ro {w : World} {l : List AObj} {r : List (Option (Nat × (Nat × Nat)))} (hl : l.length ≤ 1000000) (hlr : r.length = l.length) (hro : ∀ o ∈ l, o.isSh = true)
    (h : ∀ (b c : Nat) (d : Nat × Nat) (o : AObj), r[b]? = some (some (c, d)) → l[b]? = some o → c < w.heap.size ∧ OR (rL r) d o w.heap[c]?) : HR (rL r) (hL l) w := by
  have hlt : ∀ {b x}, rL r b = some x → b < l.length := fun {b x} hb => by
    unfold rL at hb
    rw [← hlr]
    cases hq : r[b]? with
    | none => rw [hq] at hb; cases hb
    | some y => exact (List.getElem?_eq_some_iff.1 hq).1
  refine ⟨hl, fun b hb => ?_, fun b c d hb => ?_, fun b b' c d d' h1 h2 hne => ?_⟩
  · rw [hL_get hl, List.getElem?_eq_none hb]
  · have hbl := hlt hb
    have hb2 : r[b]? = some (some (c, d)) := by
      unfold rL at hb
      cases hq : r[b]? with
      | none => rw [hq] at hb; cases hb
      | some y => rw [hq] at hb; exact congrArg some hb
    obtain ⟨e1, e2⟩ := h b c d l[b] hb2 (List.getElem?_eq_getElem hbl)
    exact ⟨hbl, e1, _, (hL_get hl b).trans (List.getElem?_eq_getElem hbl), e2⟩
  · have k1 := hlt h1
    have k2 := hlt h2
    exact .inr (.inr ⟨l[b], l[b'], (hL_get hl b).trans (List.getElem?_eq_getElem k1), (hL_get hl b').trans (List.getElem?_eq_getElem k2), hro _ (List.getElem_mem k1), hro _ (List.getElem_mem k2)⟩)
theorem or_ro {ρ : Ren} {w : World} {b off D : Nat} {k : IntKind} {l : List Int} {e : TypeId} (hD : l.length + off ≤ D) (h : ∀ i, i < l.length → w.cell? ⟨b, off + i, none⟩ = some (.int k (l.getD i 0))) : OR ρ (off, D) (.ints k l e .ro) w.heap[b]? := ⟨fun _ => by
  refine ⟨hD, fun hl => ?_⟩
  have hl : 0 < l.length := hl rfl
  obtain ⟨c, t, fr, hb, _⟩ := cell_row (h 0 hl)
  have hat : ∀ i, i < l.length → c[i + off]? = some (.int k (l.getD i 0)) := fun i hi => by
    obtain ⟨c', t', fr', hb', hc⟩ := cell_row (h i hi)
    rw [hb] at hb'; cases hb'
    rw [Nat.add_comm]; exact hc
  refine ⟨c, t, fr, hb, (fun hh => by cases hh), ?_, hD, fun i a hi => ?_⟩
  · have := (Array.getElem?_eq_some_iff.1 (hat (l.length - 1) (by omega))).1
    show l.length + off ≤ c.size
    omega
  · simp only [AObj.at, Option.map_eq_some_iff] at hi
    obtain ⟨m, hm, rfl⟩ := hi
    have hil := (List.getElem?_eq_some_iff.1 hm).1
    refine ⟨_, hat i hil, ?_⟩
    show Value.int k (l.getD i 0) = Value.int k m
    rw [List.getD_eq_getElem?_getD, hm]; rfl, fun l e => by cases e⟩
theorem Below.ofStp {ρ' : Ren} {l : List AObj} {r : List (Option (Nat × (Nat × Nat)))} {w W' : World} {σ' : AH} (hl : l.length ≤ 1000000) (hr : HR (rL r) (hL l) w) (hro : ∀ o ∈ l, o.isRo = true) (h : Stp (hL l).next (rL r) (hL l) w ρ' σ' W') : Below w.heap.size w W' := by
  refine ⟨h.os, h.tape, h.output, h.size, fun c hc => ?_⟩
  by_cases hm : ∃ b d, rL r b = some (c, d)
  · obtain ⟨b, d, hm⟩ := hm
    obtain ⟨k1, k2, o, k3, k4⟩ := hr.dom b c d hm
    have k5 : l[b]? = some o := by rw [← hL_get hl]; exact k3
    exact (h.ro b c d o k1 hm hc k3 (hro o (List.mem_of_getElem? k5))).2
  · exact h.frame c hc fun b d h => hm ⟨b, d, h⟩
section
variable {P : Program} {Γ : Gam} {G nt N : Nat} {ρ : Ren} {σ : AH} {W : World} {env : T AV} {a : Act} {K : AK}
theorem calls_of_aq {f : FuncId} {fn : Func} {c : Code} {xs : List ARes} {vs : List Value} {K : AV → AH → Prop} (hf : P.funcs[f]? = some fn) (hb : fn.body = some c) (hres : compR P fn.results.toList = some xs)
    (h : c.wpIn (fen none) 0 P (AQ G fn.ntmps σ.next W.heap.size ρ σ W (fun e env σ' => (match e with | .normal => True | .ret => True | _ => False) ∧ (resL std env σ' xs).1 = true ∧ K (retV (resL std env σ' xs).2) σ')) { tmps := vs.toArray ++ Array.replicate (fn.ntmps - vs.toArray.size) undef, defers := [] } W) :
    Calls P f vs.toArray W fun e W' => ∃ v av σ' ρ', e = .returned v ∧ K av σ' ∧ HR ρ' σ' W' ∧ Stp σ.next ρ σ W ρ' σ' W' ∧ VR ρ' av v := by
  refine callsIn_wide.1 (callsIn_of_wp_marks (n := 0) hf hb trivial (wpIn_mono (F := fen none) h (fun e a W' ⟨ρ', env', σ', ⟨h1, h2, h3⟩, h4, h5, h6, h7, h8⟩ => ?_)))
  have key := leaves_marks (P := P) (R := fun e W' => ∃ v av σ' ρ', e = .returned v ∧ K av σ' ∧ HR ρ' σ' W' ∧ Stp σ.next ρ σ W ρ' σ' W' ∧ VR ρ' av v) (fn := fn) (tmps := a.tmps) (fun W2 k1 k2 => by
    obtain ⟨v, e1, e2⟩ := results_run (P := P) k1 h5 hres h2
    exact ⟨v, e1, v, _, σ', ρ', rfl, h3, k1, k2, e2⟩) a.defers W' h7 h8 h4 h6
  cases e
  case normal => exact key
  case ret => exact key
  all_goals exact h1.elim
end
def cdD : Nat → Code → Code
  | 0, .seq _ b => b
  | n + 1, .seq _ b => cdD n b
  | _, c => c
def aT : Nat → ACode → ACode
  | 0, .seq a _ => a
  | n + 1, .seq a b => .seq a (aT n b)
  | _, _ => .bad
def aD : Nat → ACode → ACode
  | 0, .seq _ b => b
  | n + 1, .seq _ b => aD n b
  | _, _ => .bad
def Good (P : Program) (G nt N B : Nat) (ρ0 : Ren) (σ0 : AH) (W0 : World) (Q : Exit → Act → World → Prop) (env : T AV) (σ : AH) (c : Code) : Prop :=
  ∀ ρ W a, HR ρ σ W → ER G nt ρ env a → Stp N ρ0 σ0 W0 ρ σ W → (Mks ρ W a.defers ∧ ∀ r, dmark r ∈ a.defers → B ≤ r) → c.wpIn (fen none) 0 P Q a W
theorem Good.wk {P : Program} {G nt N B : Nat} {ρ0 : Ren} {σ0 : AH} {W0 : World} {Q : Exit → Act → World → Prop} {env env' : T AV} {σ σ' : AH} {c : Code} (h : Wk G nt N env σ env' σ') (g : Good P G nt N B ρ0 σ0 W0 Q env' σ' c) : Good P G nt N B ρ0 σ0 W0 Q env σ c := fun ρ W a hr he hs hd => by
  obtain ⟨ρ', h1, h2, h3, h4, h5, h6⟩ := h ρ W hr
  exact g ρ' W a h1 (h2 a he) (hs.weak h3 h4 h5 h6) ⟨hd.1.weak h4, hd.2⟩
theorem RR.next_nm {r : RR} {f : T AV → AH → RR} {env : T AV} {σ : AH} (h : r.next f = .ok .normal env σ) : ∃ e1 s1, r = .ok .normal e1 s1 ∧ f e1 s1 = .ok .normal env σ := by
  cases r with
  | bad => cases h
  | ok e e1 s1 => cases e <;> first | exact ⟨e1, s1, rfl, h⟩ | cases h
section
variable {P : Program} {Γ : Gam} {pu : FuncId → Bool} {G nt N B fuel : Nat} {ρ0 : Ren} {σ0 : AH} {W0 : World} {Q : Exit → Act → World → Prop}
def isFor : ACode → Bool
  | .mfor _ _ _ _ _ => true
  | _ => false
def noFor : Nat → ACode → Bool
  | 0, .seq a _ => !isFor a
  | n + 1, .seq a b => !isFor a && noFor n b
  | _, _ => false
theorem compC_seq {c : Code} {x' y' : ACode} (h : compC P G nt pu c = some (.seq x' y')) (hx : isFor x' = false) : ∃ x y, c = .seq x y ∧ compC P G nt pu x = some x' ∧ compC P G nt pu y = some y' := by
  cases c with
  | seq x y =>
    obtain ⟨a, b, h1, h2, h3⟩ := inv_seq h
    rcases mkSeq_cases (P := P) (G := G) (nt := nt) (x := x) (y := y) (x' := a) (y' := b) with e | ⟨z, hz, e⟩ | ⟨y1, y2, y1', y2', z, _, _, hz, e⟩
    · rw [e] at h3; cases h3; exact ⟨x, y, rfl, h1, h2⟩
    · rw [e] at h3
      subst h3
      obtain ⟨_, _, _, _, _, _, _, _, _, h5⟩ := mkFor_spec hz
      rcases h5 with ⟨q, _, h5⟩ | h5 <;> cases h5
    · rw [e] at h3
      cases h3
      obtain ⟨_, _, _, _, _, _, _, _, _, h5⟩ := mkFor_spec hz
      rcases h5 with ⟨q, _, rfl⟩ | rfl <;> cases hx
  | block id c => obtain ⟨_, _, e⟩ := inv_block h; cases e
  | loop c => obtain ⟨_, _, e⟩ := inv_loop h; cases e
  | cond c a b =>
    unfold compC at h
    split at h
    · cases h
    · split at h <;> cases h
  | region id ops d =>
    cases d
    · unfold compC at h; split at h <;> cases h
    · unfold compC at h; split at h <;> cases h
  | rangeFunc f ps a b =>
    unfold compC at h
    split at h
    · cases h
    · split at h
      · cases h
      · cases hq : (ps.toList.all fun p => Nat.blt p nt) <;> rw [hq] at h <;> cases h
  | _ => cases h
theorem Good.one (st : Start [] N B ρ0 σ0 W0) (hm : P.follows .mixedOrders = true) (hΓ : GamOk P G Γ []) (hpu : PuOk Γ pu) {x y : Code} {x' : ACode} {env env1 : T AV} {σ σ1 : AH} (hx : compC P G nt pu x = some x') (hrun : run std Γ N fuel x' env σ = .ok .normal env1 σ1)
    (g : Good P G nt N B ρ0 σ0 W0 Q env1 σ1 y) : Good P G nt N B ρ0 σ0 W0 Q env σ (.seq x y) := fun ρ W a hr he hs hd =>
  wpIn_seq (wpIn_mono (avc_sound hm x x' hx ⟨hΓ, hpu, fun h => absurd rfl h⟩ st (fun e e' s' => e = .normal ∧ e' = env1 ∧ s' = σ1) env σ ρ W a (run_avc x' _ _ _ .normal env1 σ1 hrun ⟨rfl, rfl, rfl⟩) hr he hs hd) fun e a1 W1 ⟨ρ1, env2, σ2, ⟨q1, q2, q3⟩, p1, p2, p3, p4⟩ => by
    subst q1 q2 q3
    exact g ρ1 W1 a1 p1 p2 p3 p4)
theorem Good.cut (st : Start [] N B ρ0 σ0 W0) (hm : P.follows .mixedOrders = true) (hΓ : GamOk P G Γ []) (hpu : PuOk Γ pu) : ∀ (m : Nat) (c : Code) (c' : ACode) (env env1 : T AV) (σ σ1 : AH), noFor m c' = true → compC P G nt pu c = some c' → run std Γ N fuel (aT m c') env σ = .ok .normal env1 σ1 →
    (compC P G nt pu (cdD m c) = some (aD m c') → Good P G nt N B ρ0 σ0 W0 Q env1 σ1 (cdD m c)) → Good P G nt N B ρ0 σ0 W0 Q env σ c
  | 0, c, c', env, env1, σ, σ1, hn, hc, hrun, g => by
    cases c' with
    | seq x' y' =>
      obtain ⟨x, y, rfl, hx, hy⟩ := compC_seq hc (by simpa [noFor] using hn)
      exact Good.one st hm hΓ hpu hx hrun (g hy)
    | _ => cases hrun
  | m + 1, c, c', env, env1, σ, σ1, hn, hc, hrun, g => by
    cases c' with
    | seq x' y' =>
      have hn : (!isFor x' && noFor m y') = true := hn
      rw [Bool.and_eq_true] at hn
      obtain ⟨x, y, rfl, hx, hy⟩ := compC_seq hc (by simpa using hn.1)
      obtain ⟨e2, s2, h1, h2⟩ := RR.next_nm (show (run std Γ N fuel x' env σ).next (run std Γ N fuel (aT m y')) = _ from hrun)
      exact Good.one st hm hΓ hpu hx h1 (Good.cut st hm hΓ hpu m y y' e2 env1 s2 σ1 hn.2 hy h2 g)
    | _ => cases hrun
theorem Good.end (st : Start [] N B ρ0 σ0 W0) (hm : P.follows .mixedOrders = true) (hΓ : GamOk P G Γ []) (hpu : PuOk Γ pu) {c : Code} {c' : ACode} {K : AK} {env env1 : T AV} {σ σ1 : AH} (hc : compC P G nt pu c = some c') (hrun : run std Γ N fuel c' env σ = .ok .ret env1 σ1) (hK : K .ret env1 σ1) :
    Good P G nt N B ρ0 σ0 W0 (AQ G nt N B ρ0 σ0 W0 K) env σ c := fun ρ W a hr he hs hd => avc_sound hm c c' hc ⟨hΓ, hpu, fun h => absurd rfl h⟩ st K env σ ρ W a (run_avc c' _ _ _ .ret env1 σ1 hrun hK) hr he hs hd
end
def rn (old : List Nat) (b : Nat) : Nat := (old[b]?).getD 0
def okN (old : List Nat) (n : Nat) (l : List (Nat × AV)) (L : List (Nat × AObj)) : Bool :=
  Nat.ble n 1000000 && Nat.ble 6 n && keepN (rn old) (L.map (·.1)) 6 && injR (rn old) (L.map (·.1)) && (List.range n).all (L.map (·.1)).contains && (l.all fun p => below n p.2) && (L.all fun p => belowO n p.2) && (l.all fun p => Nat.blt p.1 1048576) && (L.all fun p => Nat.blt p.1 n)
end Go.Proofs.YtjgmpdklfcmelaaGreatDoor.V2
namespace Go.Proofs.YtjgmpdklfcmelaaGreatDoor.V2
open Go
def unpN : Nat → Nat → List UInt8
  | 0, _ => []
  | n + 1, c => UInt8.ofNat (c % 256) :: unpN n (c / 256)
noncomputable def fF (m : Nat) (k : Nat → Nat) : Nat := Nat.rec (k 0) (fun p _ => k (Nat.succ p)) m
theorem fF_eq (m : Nat) (k : Nat → Nat) : fF m k = k m := by cases m <;> rfl
noncomputable def blp (ss : List Nat) (c : Nat) : Nat → Nat := List.rec (motive := fun _ => Nat → Nat) (fun n => n) (fun s _ ih n => Bool.rec (fF (Nat.add n s) ih) (ih n) (Nat.beq (Nat.shiftRight c (Nat.shiftLeft (Nat.add n s) 3)) 0)) ss
theorem blp_cons (s : Nat) (ss : List Nat) (c n : Nat) : blp (s :: ss) c n = bif Nat.beq (c >>> (8 * (n + s))) 0 then blp ss c n else blp ss c (n + s) := by
  have e : Nat.shiftLeft (Nat.add n s) 3 = 8 * (n + s) := by
    show (n + s) <<< 3 = _
    rw [Nat.shiftLeft_eq]; omega
  show (Bool.rec (fF (Nat.add n s) (blp ss c)) (blp ss c n) (Nat.beq (Nat.shiftRight c (Nat.shiftLeft (Nat.add n s) 3)) 0) : Nat) = _
  rw [fF_eq, e]
  show (Bool.rec (blp ss c (n + s)) (blp ss c n) (Nat.beq (c >>> (8 * (n + s))) 0) : Nat) = _
  cases Nat.beq (c >>> (8 * (n + s))) 0 <;> rfl
def pows : Nat → List Nat
  | 0 => []
  | k + 1 => 2 ^ k :: pows k
theorem sh_zero (c m : Nat) : Nat.beq (c >>> (8 * m)) 0 = true ↔ c = 0 ∨ Nat.log2 c / 8 < m := by
  rw [Nat.beq_eq, Nat.shiftRight_eq_div_pow, Nat.div_eq_zero_iff]
  by_cases hc : c = 0
  · simp [hc, Nat.pow_pos]
  · have h := Nat.le_log2 hc (k := 8 * m)
    have hp : 2 ^ (8 * m) ≠ 0 := Nat.ne_of_gt (Nat.pow_pos (by omega))
    constructor
    · rintro (h0 | h0)
      · exact absurd h0 hp
      · refine .inr ?_
        rcases Nat.lt_or_ge (Nat.log2 c / 8) m with h1 | h1
        · exact h1
        · have := h.1 (by omega); omega
    · rintro (h0 | h0)
      · exact absurd h0 hc
      · refine .inr ?_
        rcases Nat.lt_or_ge c (2 ^ (8 * m)) with h1 | h1
        · exact h1
        · have := h.2 h1; omega
theorem blp_eq (c : Nat) : ∀ (k n : Nat), n ≤ Nat.log2 c / 8 → Nat.log2 c / 8 < n + 2 ^ k → blp (pows k) c n = Nat.log2 c / 8
  | 0, n, h1, h2 => by
    show n = _
    omega
  | k + 1, n, h1, h2 => by
    rw [pows, blp_cons]
    have hz := sh_zero c (n + 2 ^ k)
    rw [Nat.pow_succ] at h2
    cases hb : Nat.beq (c >>> (8 * (n + 2 ^ k))) 0 with
    | true =>
      rw [cond_true]
      rcases hz.1 hb with h | h
      · subst h
        have e0 : Nat.log2 0 / 8 = 0 := rfl
        rw [e0] at h1 h2
        exact blp_eq 0 k n (by rw [e0]; omega) (by rw [e0]; have : 0 < 2 ^ k := Nat.pow_pos (by omega); omega)
      · exact blp_eq c k n h1 h
    | false =>
      rw [cond_false]
      refine blp_eq c k _ ?_ (by omega)
      rcases Nat.lt_or_ge (Nat.log2 c / 8) (n + 2 ^ k) with h | h
      · have := hz.2 (.inr h); rw [hb] at this; cases this
      · exact h
noncomputable def bl (c : Nat) : Nat := Bool.rec (Bool.rec (Nat.shiftRight (Nat.log2 c) 3) (blp [524288, 262144, 131072, 65536, 32768, 16384, 8192, 4096, 2048, 1024, 512, 256, 128, 64, 32, 16, 8, 4, 2, 1] c 0) (Nat.beq (Nat.shiftRight c 8388608) 0)) (blp [8, 4, 2, 1] c 0) (Nat.beq (Nat.shiftRight c 128) 0)
noncomputable def unp (c : Nat) : List UInt8 := unpN (bl c) c
def pack : List UInt8 → Nat
  | [] => 1
  | b :: l => b.toNat + 256 * pack l
theorem unpN_length : ∀ (n c : Nat), (unpN n c).length = n
  | 0, _ => rfl
  | n + 1, c => by simp [unpN, unpN_length n]
theorem unpN_at : ∀ (n c i : Nat), i < n → (unpN n c)[i]? = some (UInt8.ofNat (c / 256 ^ i % 256))
  | 0, _, _, h => by omega
  | n + 1, c, 0, _ => by simp [unpN]
  | n + 1, c, i + 1, h => by
    simp only [unpN, List.getElem?_cons_succ]
    rw [unpN_at n (c / 256) i (by omega), Nat.div_div_eq_div_mul, Nat.pow_succ, Nat.mul_comm 256]
theorem bl_eq (c : Nat) : bl c = Nat.log2 c / 8 := by
  have e4 : blp [8, 4, 2, 1] c 0 = blp (pows 4) c 0 := rfl
  have e20 : blp [524288, 262144, 131072, 65536, 32768, 16384, 8192, 4096, 2048, 1024, 512, 256, 128, 64, 32, 16, 8, 4, 2, 1] c 0 = blp (pows 20) c 0 := rfl
  unfold bl
  rw [e4, e20]
  cases h1 : Nat.beq (Nat.shiftRight c 128) 0
  · cases h2 : Nat.beq (Nat.shiftRight c 8388608) 0
    · exact Nat.shiftRight_eq_div_pow _ 3
    · refine blp_eq c 20 0 (Nat.zero_le _) ?_
      rcases (sh_zero c 1048576).1 h2 with h | h
      · subst h; decide
      · exact Nat.lt_of_lt_of_le h (by decide)
  · refine blp_eq c 4 0 (Nat.zero_le _) ?_
    rcases (sh_zero c 16).1 h1 with h | h
    · subst h; decide
    · exact Nat.lt_of_lt_of_le h (by decide)
theorem bl_of {n v : Nat} (h : v < 256 ^ n) : bl (256 ^ n + v) = n := by
  have h8 : (256 : Nat) ^ n = 2 ^ (8 * n) := by rw [show (256 : Nat) = 2 ^ 8 by rfl, ← Nat.pow_mul]
  have hp : 0 < 2 ^ (8 * n) := Nat.pow_pos (by omega)
  have : Nat.log2 (256 ^ n + v) = 8 * n := by
    rw [h8] at h ⊢
    rw [Nat.log2_eq_iff (by omega)]
    rw [Nat.pow_succ]; omega
  rw [bl_eq, this]; omega
theorem pack_eq : ∀ l : List UInt8, ∃ v, v < 256 ^ l.length ∧ pack l = 256 ^ l.length + v
  | [] => ⟨0, by simp, rfl⟩
  | b :: l => by
    obtain ⟨v, h1, h2⟩ := pack_eq l
    have hb : b.toNat < 256 := b.toNat_lt
    refine ⟨b.toNat + 256 * v, ?_, ?_⟩
    · rw [List.length_cons, Nat.pow_succ]; omega
    · rw [pack, h2, List.length_cons, Nat.pow_succ]; omega
theorem bl_pack (l : List UInt8) : bl (pack l) = l.length := by
  obtain ⟨v, h1, h2⟩ := pack_eq l
  rw [h2, bl_of h1]
theorem unpN_pack : ∀ l : List UInt8, unpN l.length (pack l) = l
  | [] => rfl
  | b :: l => by
    have hb : b.toNat < 256 := b.toNat_lt
    simp only [List.length_cons, unpN, pack]
    rw [show (b.toNat + 256 * pack l) % 256 = b.toNat by omega, show (b.toNat + 256 * pack l) / 256 = pack l by omega, unpN_pack l]
    simp
theorem unp_pack (l : List UInt8) : unp (pack l) = l := by unfold unp; rw [bl_pack, unpN_pack]
theorem unp_length (c : Nat) : (unp c).length = bl c := unpN_length _ _
def bat (c i : Nat) : Nat := Nat.land (Nat.shiftRight c (Nat.shiftLeft i 3)) 255
theorem sh3 (i : Nat) : Nat.shiftLeft i 3 = 8 * i := by
  show i <<< 3 = _; rw [Nat.shiftLeft_eq]; omega
theorem p256 (n : Nat) : (2 : Nat) ^ (8 * n) = 256 ^ n := by rw [show (256 : Nat) = 2 ^ 8 by rfl, ← Nat.pow_mul]
theorem shr8 (c i : Nat) : Nat.shiftRight c (Nat.shiftLeft i 3) = c / 256 ^ i := by
  rw [sh3]; show c >>> (8 * i) = _; rw [Nat.shiftRight_eq_div_pow, p256]
theorem bat_eq (c i : Nat) : bat c i = c / 256 ^ i % 256 := by
  unfold bat; rw [shr8]
  show (c / 256 ^ i) &&& 255 = _
  exact Nat.and_two_pow_sub_one_eq_mod _ 8
theorem bat_lt (c i : Nat) : bat c i < 256 := by rw [bat_eq]; exact Nat.mod_lt _ (by omega)
theorem unp_at {c i : Nat} (h : i < bl c) : (unp c)[i]? = some (UInt8.ofNat (bat c i)) := by
  unfold unp; rw [unpN_at _ _ _ h, bat_eq]
def low (c n : Nat) : Nat := Nat.mod c (Nat.shiftLeft 1 (Nat.shiftLeft n 3))
def top1 (n : Nat) : Nat := Nat.shiftLeft 1 (Nat.shiftLeft n 3)
theorem top1_eq (n : Nat) : top1 n = 256 ^ n := by
  unfold top1; rw [sh3]; show 1 <<< (8 * n) = _; rw [Nat.shiftLeft_eq, p256]; omega
theorem low_eq (c n : Nat) : low c n = c % 256 ^ n := by
  have h := top1_eq n; unfold top1 at h; unfold low; rw [h]; rfl
noncomputable def bpart (c o n : Nat) : Nat := Nat.add (top1 n) (low (Nat.shiftRight c (Nat.shiftLeft o 3)) n)
theorem ext_unp {n : Nat} {l : List UInt8} {c : Nat} (hl : l.length = n) (h : ∀ i, i < n → l[i]? = some (UInt8.ofNat (c / 256 ^ i % 256))) : unpN n c = l := by
  apply List.ext_getElem?
  intro i
  by_cases hi : i < n
  · rw [unpN_at _ _ _ hi, h i hi]
  · rw [List.getElem?_eq_none (by rw [unpN_length]; omega), List.getElem?_eq_none (by omega)]
theorem mod_div_mod (x n i : Nat) (h : i < n) : x % 256 ^ n / 256 ^ i % 256 = x / 256 ^ i % 256 := by
  obtain ⟨k, rfl⟩ := Nat.exists_eq_add_of_lt h
  rw [show i + k + 1 = i + (k + 1) by omega, Nat.pow_add, Nat.mod_mul_right_div_self, Nat.pow_succ, Nat.mul_comm, Nat.mod_mul_right_mod]
theorem add_top (x n i : Nat) (h : i < n) : (256 ^ n + x) / 256 ^ i % 256 = x / 256 ^ i % 256 := by
  obtain ⟨k, rfl⟩ := Nat.exists_eq_add_of_lt h
  rw [show i + k + 1 = i + (k + 1) by omega, Nat.pow_add, Nat.mul_add_div (Nat.pow_pos (by omega)), Nat.pow_succ, Nat.mul_comm, Nat.mul_add_mod]
theorem bpart_unp {c o n : Nat} (h : o + n ≤ bl c) : unp (bpart c o n) = ((unp c).drop o).take n ∧ bl (bpart c o n) = n := by
  have e : bpart c o n = 256 ^ n + (c / 256 ^ o) % 256 ^ n := by
    unfold bpart; rw [top1_eq, low_eq, shr8]; rfl
  have hb : bl (bpart c o n) = n := by rw [e]; exact bl_of (Nat.mod_lt _ (Nat.pow_pos (by omega)))
  refine ⟨?_, hb⟩
  unfold unp; rw [hb]
  refine ext_unp ?_ fun i hi => ?_
  · rw [List.length_take, List.length_drop, unpN_length]; omega
  · rw [List.getElem?_take_of_lt hi, List.getElem?_drop, unpN_at _ _ _ (by omega), e, add_top _ _ _ hi, mod_div_mod _ _ _ hi, Nat.div_div_eq_div_mul, ← Nat.pow_add]
noncomputable def bapp (a b : Nat) : Nat := Nat.add (low a (bl a)) (Nat.shiftLeft (Nat.add (top1 (bl b)) (low b (bl b))) (Nat.shiftLeft (bl a) 3))
theorem bapp_eq (a b : Nat) : bapp a b = 256 ^ (bl a + bl b) + (a % 256 ^ bl a + 256 ^ bl a * (b % 256 ^ bl b)) := by
  unfold bapp
  rw [low_eq, low_eq, top1_eq, sh3]
  show a % 256 ^ bl a + (256 ^ bl b + b % 256 ^ bl b) <<< (8 * bl a) = _
  rw [Nat.shiftLeft_eq, p256, Nat.pow_add, Nat.add_mul, Nat.mul_comm (256 ^ bl b), Nat.mul_comm (b % _)]
  omega
theorem bapp_lt (a b : Nat) : a % 256 ^ bl a + 256 ^ bl a * (b % 256 ^ bl b) < 256 ^ (bl a + bl b) := by
  have h1 : a % 256 ^ bl a < 256 ^ bl a := Nat.mod_lt _ (Nat.pow_pos (by omega))
  have h2 : b % 256 ^ bl b + 1 ≤ 256 ^ bl b := Nat.mod_lt _ (Nat.pow_pos (by omega))
  have h3 := Nat.mul_le_mul_left (256 ^ bl a) h2
  rw [Nat.mul_add, Nat.mul_one] at h3
  rw [Nat.pow_add]; omega
theorem bl_bapp (a b : Nat) : bl (bapp a b) = bl a + bl b := by rw [bapp_eq, bl_of (bapp_lt a b)]
theorem bapp_unp (a b : Nat) : unp (bapp a b) = unp a ++ unp b := by
  unfold unp
  rw [bl_bapp]
  refine ext_unp (by simp [unpN_length]) fun i hi => ?_
  rw [bapp_eq, add_top _ _ _ hi]
  by_cases h : i < bl a
  · rw [List.getElem?_append_left (by rw [unpN_length]; exact h), unpN_at _ _ _ h]
    obtain ⟨k, hk⟩ := Nat.exists_eq_add_of_lt h
    have e : a % 256 ^ bl a + 256 ^ bl a * (b % 256 ^ bl b) = a % 256 ^ bl a + 256 ^ i * (256 * (256 ^ k * (b % 256 ^ bl b))) := by
      conv => lhs; rhs; lhs; rw [hk, show i + k + 1 = i + (1 + k) by omega, Nat.pow_add, Nat.pow_add]
      simp [Nat.mul_assoc]
    rw [e, Nat.add_mul_div_left _ _ (Nat.pow_pos (by omega)), Nat.add_mul_mod_self_left, mod_div_mod _ _ _ h]
  · rw [List.getElem?_append_right (by rw [unpN_length]; omega), unpN_length, unpN_at _ _ _ (by omega)]
    obtain ⟨k, hk⟩ : ∃ k, i = bl a + k := ⟨i - bl a, by omega⟩
    subst hk
    rw [Nat.add_sub_cancel_left, Nat.pow_add, ← Nat.div_div_eq_div_mul, Nat.add_mul_div_left _ _ (Nat.pow_pos (by omega)), Nat.div_eq_of_lt (Nat.mod_lt _ (Nat.pow_pos (by omega))), Nat.zero_add, mod_div_mod _ _ _ (by omega)]
def bset (c i x : Nat) : Nat := Nat.sub (Nat.add c (Nat.shiftLeft x (Nat.shiftLeft i 3))) (Nat.shiftLeft (bat c i) (Nat.shiftLeft i 3))
noncomputable def bok (c : Nat) : Bool := Nat.beq (Nat.shiftRight c (Nat.shiftLeft (bl c) 3)) 1
theorem bok_eq {c : Nat} (h : bok c = true) : c = 256 ^ bl c + c % 256 ^ bl c := by
  unfold bok at h; rw [shr8] at h
  have h := Nat.eq_of_beq_eq_true h
  have := Nat.div_add_mod c (256 ^ bl c)
  rw [h, Nat.mul_one] at this; exact this.symm
theorem unpN_inj : ∀ (n a b : Nat), unpN n a = unpN n b → a % 256 ^ n = b % 256 ^ n
  | 0, a, b, _ => by simp [Nat.mod_one]
  | n + 1, a, b, h => by
    simp only [unpN, List.cons.injEq] at h
    have h1 : a % 256 = b % 256 := by
      have := congrArg UInt8.toNat h.1
      simpa [UInt8.toNat_ofNat'] using this
    have h2 := unpN_inj n _ _ h.2
    rw [Nat.pow_succ, Nat.mul_comm, Nat.mod_mul, Nat.mod_mul, h1, h2]
theorem unp_inj {a b : Nat} (ha : bok a = true) (hb : bok b = true) (h : unp a = unp b) : a = b := by
  have hl : bl a = bl b := by rw [← unp_length, ← unp_length, h]
  have h' : unpN (bl a) a = unpN (bl a) b := by
    have := h; unfold unp at this; rw [← hl] at this; exact this
  have := unpN_inj _ _ _ h'
  rw [bok_eq ha, bok_eq hb, ← hl, this]
end Go.Proofs.YtjgmpdklfcmelaaGreatDoor.V2
namespace Go.Proofs.YtjgmpdklfcmelaaGreatDoor.V2
open Go
noncomputable section
namespace T
variable {α β : Type}
def map (f : α → β) : T α → T β
  | leaf => leaf
  | node v l r => node (v.map f) (map f l) (map f r)
theorem map_vl (f : α → β) (t : T α) : (t.map f).vl = t.vl.map f := by cases t <;> rfl
theorem map_le (f : α → β) (t : T α) : (t.map f).le = t.le.map f := by cases t <;> rfl
theorem map_ri (f : α → β) (t : T α) : (t.map f).ri = t.ri.map f := by cases t <;> rfl
theorem map_get (f : α → β) : ∀ (t : T α) (n : Nat), (t.map f).get n = (t.get n).map f := by
  intro t
  induction t with
  | leaf => intro n; rw [map, get_leaf, get_leaf]; rfl
  | node v l r il ir =>
    intro n
    rw [get_eq, get_eq (node v l r), map_vl, map_le, map_ri]
    show (bif Nat.beq n 0 then v.map f else bif Nat.beq (n % 2) 1 then (l.map f).get (n / 2) else (r.map f).get (n / 2 - 1)) = (bif Nat.beq n 0 then v else bif Nat.beq (n % 2) 1 then l.get (n / 2) else r.get (n / 2 - 1)).map f
    rw [il, ir]
    cases Nat.beq n 0 <;> cases Nat.beq (n % 2) 1 <;> rfl
theorem map_set (f : α → β) : ∀ (m : Nat) (t : T α) (n : Nat) (x : α), (set m t n x).map f = set m (t.map f) n (f x) := by
  intro m
  induction m with
  | zero => intro t n x; show map f (node (some x) t.le t.ri) = node (some (f x)) (t.map f).le (t.map f).ri; rw [map_le, map_ri]; rfl
  | succ m ih =>
    intro t n x
    rw [set_succ, set_succ, map_vl, map_le, map_ri, ← ih, ← ih]
    cases Nat.beq n 0 <;> cases Nat.beq (n % 2) 1 <;> rfl
theorem map_put (f : α → β) (t : T α) (n : Nat) (x : α) : (t.put n x).map f = (t.map f).put n (f x) := map_set f 20 t n x
end T
inductive Nl where
  | top
  | ptr
  | sl
  | map
  | fn
  | ifc
inductive FV where
  | n (k : IntKind) (m : Nat)
  | z (k : IntKind) (m : Nat)
  | b (t : Bool)
  | s (c : Nat)
  | p (b o : Nat)
  | sl (b o n k : Nat) (e : Bool) (z : Nat)
  | m (b : Nat)
  | y (b : Nat)
  | fn (f : Fn) (first cap : List FV)
  | ifc (t : TypeId) (v : FV)
  | agg (l : List FV)
  | bs (c : Nat)
  | ints (k : IntKind) (l : List Int)
  | tup (l : List FV)
  | o (j : Nl)
instance : Inhabited FV := ⟨.o .top⟩
def Nl.av : Nl → AV
  | .top => .top
  | .ptr => .nilptr
  | .sl => .nilsl
  | .map => .nilmap
  | .fn => .nilfn
  | .ifc => .nilifc
def unpI (c : Nat) : List Int := (unp c).map fun b => (b.toNat : Int)
mutual
def αV : FV → AV
  | .n k m => .int k (Int.ofNat m)
  | .z k m => .int k (Int.negSucc m)
  | .b t => .bool t
  | .s c => .str (unp c)
  | .p b o => .ptr b o
  | .sl b o n k e z => .sl b o n k e z
  | .m b => .map b
  | .y b => .yld b
  | .fn f x y => .fn f (αL x) (αL y)
  | .ifc t v => .ifc t (αV v)
  | .agg l => .agg (αL l)
  | .bs c => .ints .u8 (unpI c)
  | .ints k l => .ints k l
  | .tup l => .tup (αL l)
  | .o j => j.av
def αL : List FV → List AV
  | [] => []
  | v :: l => αV v :: αL l
end
theorem αL_map : ∀ l, αL l = l.map αV
  | [] => rfl
  | v :: l => by rw [αL, αL_map l]; rfl
def packI : List Int → Option Nat
  | [] => some 1
  | x :: l => match x with
    | .ofNat m => bif Nat.blt m 256 then (packI l).map fun c => m + 256 * c else none
    | .negSucc _ => none
theorem packI_spec : ∀ (l : List Int) (c : Nat), packI l = some c → ∃ bs : List UInt8, c = pack bs ∧ l = bs.map fun b => (b.toNat : Int)
  | [], c, h => by cases h; exact ⟨[], rfl, rfl⟩
  | x :: l, c, h => by
    cases x with
    | negSucc m => cases h
    | ofNat m =>
      simp only [packI] at h
      cases hm : Nat.blt m 256 <;> rw [hm] at h
      · cases h
      · rw [Nat.blt_eq] at hm
        simp only [cond_true, Option.map_eq_some_iff] at h
        obtain ⟨c', h1, rfl⟩ := h
        obtain ⟨bs, rfl, rfl⟩ := packI_spec l c' h1
        have : (UInt8.ofNat m).toNat = m := by simp [UInt8.toNat_ofNat']; omega
        exact ⟨UInt8.ofNat m :: bs, by simp [pack, this], by simp [this]⟩
theorem packI_unpI {l : List Int} {c : Nat} (h : packI l = some c) : unpI c = l := by
  obtain ⟨bs, rfl, rfl⟩ := packI_spec l c h
  unfold unpI; rw [unp_pack]
mutual
def βV : AV → FV
  | .top => .o .top
  | .bool t => .b t
  | .int k n => match n with
    | .ofNat m => .n k m
    | .negSucc m => .z k m
  | .str l => .s (pack l)
  | .ptr b o => .p b o
  | .nilptr => .o .ptr
  | .sl b o n k e z => .sl b o n k e z
  | .nilsl => .o .sl
  | .map b => .m b
  | .nilmap => .o .map
  | .yld b => .y b
  | .fn f x y => .fn f (βL x) (βL y)
  | .nilfn => .o .fn
  | .ifc t v => .ifc t (βV v)
  | .nilifc => .o .ifc
  | .agg l => .agg (βL l)
  | .ints k l => match k with
    | .u8 => match packI l with
      | some c => .bs c
      | none => .ints .u8 l
    | k => .ints k l
  | .tup l => .tup (βL l)
def βL : List AV → List FV
  | [] => []
  | v :: l => βV v :: βL l
end
mutual
theorem αβ : ∀ v : AV, αV (βV v) = v
  | .top => rfl
  | .bool t => rfl
  | .int k n => by cases n <;> rfl
  | .str l => by rw [βV, αV, unp_pack]
  | .ptr b o => rfl
  | .nilptr => rfl
  | .sl _ _ _ _ _ _ => rfl
  | .nilsl => rfl
  | .map b => rfl
  | .nilmap => rfl
  | .yld b => rfl
  | .fn f x y => by rw [βV, αV, αβL x, αβL y]
  | .nilfn => rfl
  | .ifc t v => by rw [βV, αV, αβ v]
  | .nilifc => rfl
  | .agg l => by rw [βV, αV, αβL l]
  | .ints k l => by
    cases k
    case u8 =>
      simp only [βV]
      cases h : packI l with
      | none => rfl
      | some c => simp only [αV]; rw [packI_unpI h]
    all_goals rfl
  | .tup l => by rw [βV, αV, αβL l]
theorem αβL : ∀ l : List AV, αL (βL l) = l
  | [] => rfl
  | v :: l => by rw [βL, αL, αβ v, αβL l]
end
inductive FObj where
  | dead
  | cells (l : List FV) (e : TypeId) (t : Tl)
  | bs (c : Nat) (e : TypeId) (t : Tl)
  | ints (k : IntKind) (l : List Int) (e : TypeId) (t : Tl)
  | map (l : List (FV × FV))
  | hid
def αP : List (FV × FV) → List (AV × AV)
  | [] => []
  | p :: l => (αV p.1, αV p.2) :: αP l
theorem αP_map : ∀ l, αP l = l.map fun p => (αV p.1, αV p.2)
  | [] => rfl
  | v :: l => by rw [αP, αP_map l]; rfl
def αO : FObj → AObj
  | .dead => .dead
  | .cells l e t => .cells (αL l) e t
  | .bs c e t => .ints .u8 (unpI c) e t
  | .ints k l e t => .ints k l e t
  | .map l => .map (αP l)
  | .hid => .hid
def βP : List (AV × AV) → List (FV × FV)
  | [] => []
  | p :: l => (βV p.1, βV p.2) :: βP l
theorem αβP : ∀ l, αP (βP l) = l
  | [] => rfl
  | p :: l => by rw [βP, αP, αβ, αβ, αβP l]
def βO : AObj → FObj
  | .dead => .dead
  | .cells l e t => .cells (βL l) e t
  | .ints k l e t => match k with
    | .u8 => match packI l with
      | some c => .bs c e t
      | none => .ints .u8 l e t
    | k => .ints k l e t
  | .map l => .map (βP l)
  | .hid => .hid
theorem αβO (o : AObj) : αO (βO o) = o := by
  cases o with
  | dead => rfl
  | cells l e t => simp only [βO, αO, αβL]
  | ints k l e t =>
    cases k
    case u8 =>
      simp only [βO]
      cases h : packI l with
      | none => rfl
      | some c => simp only [αO]; rw [packI_unpI h]
    all_goals rfl
  | map l => simp only [βO, αO, αβP]
  | hid => rfl
structure FH where
  next : Nat
  mem : T FObj
def αH (σ : FH) : AH := ⟨σ.next, σ.mem.map αO⟩
theorem αH_get (σ : FH) (b : Nat) : (αH σ).get b = (σ.mem.get b).map αO := T.map_get αO σ.mem b
theorem αH_put (σ : FH) (b : Nat) (o : FObj) : (αH σ).put b (αO o) = αH ⟨σ.next, σ.mem.put b o⟩ := by
  unfold AH.put αH; simp only [T.map_put]
theorem αH_new (σ : FH) (o : FObj) : (αH σ).new (αO o) = αH ⟨σ.next + 1, σ.mem.put σ.next o⟩ := by
  unfold AH.new αH; simp only [T.map_put]
inductive FR where
  | bad
  | ok (v : FV) (σ : FH)
abbrev KV := FV → FH → FR
def Sm (r : FR) (k : KV) (o : Out) : Prop := r ≠ .bad → ∃ v σ', o = (true, αV v, αH σ') ∧ r = k v σ'
def Sv (r : FR) (c : FV → FR) (o : Bool × AV) : Prop := r ≠ .bad → ∃ v, o = (true, αV v) ∧ r = c v
theorem Sv.bad {c : FV → FR} {o : Bool × AV} : Sv .bad c o := fun h => absurd rfl h
theorem Sm.bad {k : KV} {o : Out} : Sm .bad k o := fun h => absurd rfl h
theorem Sv.of {c : FV → FR} {o : Bool × AV} (v : FV) (h : o = (true, αV v)) : Sv (c v) c o := fun _ => ⟨v, h, rfl⟩
theorem Sm.ofv {r : FR} {k : KV} {o : Bool × AV} {σ : FH} (h : Sv r (fun v => k v σ) o) : Sm r k (o.1, o.2, αH σ) := fun hr => by
  obtain ⟨v, h1, h2⟩ := h hr; exact ⟨v, σ, by rw [h1], h2⟩
def fN (m : Nat) (k : Nat → FR) : FR := Nat.rec (k 0) (fun p _ => k (Nat.succ p)) m
theorem fN_eq (m : Nat) (k : Nat → FR) : fN m k = k m := by cases m <;> rfl
def gB (b : Bool) (r : FR) : FR := Bool.rec .bad r b
theorem gB_eq (b : Bool) (r : FR) : gB b r = bif b then r else .bad := by cases b <;> rfl
def kI (f g : IntKind → Nat → FR) (v : FV) : FR := FV.rec (motive_1 := fun _ => FR) (motive_2 := fun _ => FR) f g (fun _ => .bad) (fun _ => .bad) (fun _ _ => .bad) (fun _ _ _ _ _ _ => .bad) (fun _ => .bad) (fun _ => .bad) (fun _ _ _ _ _ => .bad) (fun _ _ _ => .bad) (fun _ _ => .bad) (fun _ => .bad) (fun _ _ => .bad) (fun _ _ => .bad) (fun _ => .bad) .bad (fun _ _ _ _ => .bad) v
def kNn (f : IntKind → Nat → FR) (v : FV) : FR := FV.rec (motive_1 := fun _ => FR) (motive_2 := fun _ => FR) f (fun _ _ => .bad) (fun _ => .bad) (fun _ => .bad) (fun _ _ => .bad) (fun _ _ _ _ _ _ => .bad) (fun _ => .bad) (fun _ => .bad) (fun _ _ _ _ _ => .bad) (fun _ _ _ => .bad) (fun _ _ => .bad) (fun _ => .bad) (fun _ _ => .bad) (fun _ _ => .bad) (fun _ => .bad) .bad (fun _ _ _ _ => .bad) v
def kS (f : Nat → FR) (v : FV) : FR := FV.rec (motive_1 := fun _ => FR) (motive_2 := fun _ => FR) (fun _ _ => .bad) (fun _ _ => .bad) (fun _ => .bad) f (fun _ _ => .bad) (fun _ _ _ _ _ _ => .bad) (fun _ => .bad) (fun _ => .bad) (fun _ _ _ _ _ => .bad) (fun _ _ _ => .bad) (fun _ _ => .bad) (fun _ => .bad) (fun _ _ => .bad) (fun _ _ => .bad) (fun _ => .bad) .bad (fun _ _ _ _ => .bad) v
def kB (f : Bool → FR) (v : FV) : FR := FV.rec (motive_1 := fun _ => FR) (motive_2 := fun _ => FR) (fun _ _ => .bad) (fun _ _ => .bad) f (fun _ => .bad) (fun _ _ => .bad) (fun _ _ _ _ _ _ => .bad) (fun _ => .bad) (fun _ => .bad) (fun _ _ _ _ _ => .bad) (fun _ _ _ => .bad) (fun _ _ => .bad) (fun _ => .bad) (fun _ _ => .bad) (fun _ _ => .bad) (fun _ => .bad) .bad (fun _ _ _ _ => .bad) v
def kP (f : Nat → Nat → FR) (v : FV) : FR := FV.rec (motive_1 := fun _ => FR) (motive_2 := fun _ => FR) (fun _ _ => .bad) (fun _ _ => .bad) (fun _ => .bad) (fun _ => .bad) f (fun _ _ _ _ _ _ => .bad) (fun _ => .bad) (fun _ => .bad) (fun _ _ _ _ _ => .bad) (fun _ _ _ => .bad) (fun _ _ => .bad) (fun _ => .bad) (fun _ _ => .bad) (fun _ _ => .bad) (fun _ => .bad) .bad (fun _ _ _ _ => .bad) v
def kM (f : Nat → FR) (v : FV) : FR := FV.rec (motive_1 := fun _ => FR) (motive_2 := fun _ => FR) (fun _ _ => .bad) (fun _ _ => .bad) (fun _ => .bad) (fun _ => .bad) (fun _ _ => .bad) (fun _ _ _ _ _ _ => .bad) f (fun _ => .bad) (fun _ _ _ _ _ => .bad) (fun _ _ _ => .bad) (fun _ _ => .bad) (fun _ => .bad) (fun _ _ => .bad) (fun _ _ => .bad) (fun _ => .bad) .bad (fun _ _ _ _ => .bad) v
def kTup (f : List FV → FR) (v : FV) : FR := FV.rec (motive_1 := fun _ => FR) (motive_2 := fun _ => FR) (fun _ _ => .bad) (fun _ _ => .bad) (fun _ => .bad) (fun _ => .bad) (fun _ _ => .bad) (fun _ _ _ _ _ _ => .bad) (fun _ => .bad) (fun _ => .bad) (fun _ _ _ _ _ => .bad) (fun _ _ _ => .bad) (fun _ _ => .bad) (fun _ => .bad) (fun _ _ => .bad) (fun l _ => f l) (fun _ => .bad) .bad (fun _ _ _ _ => .bad) v
def kSl (f : Nat → Nat → Nat → Nat → Bool → Nat → FR) (v : FV) : FR := FV.rec (motive_1 := fun _ => FR) (motive_2 := fun _ => FR) (fun _ _ => .bad) (fun _ _ => .bad) (fun _ => .bad) (fun _ => .bad) (fun _ _ => .bad) f (fun _ => .bad) (fun _ => .bad) (fun _ _ _ _ _ => .bad) (fun _ _ _ => .bad) (fun _ _ => .bad) (fun _ => .bad) (fun _ _ => .bad) (fun _ _ => .bad) (fun _ => .bad) .bad (fun _ _ _ _ => .bad) v
def nthK (l : List FV) (i : Nat) (k : FV → FR) : FR := List.rec (motive := fun _ => Nat → FR) (fun _ => .bad) (fun a _ ih i => Nat.rec (k a) (fun j _ => ih j) i) l i
theorem nthK_eq : ∀ (l : List FV) (i : Nat) (k : FV → FR), nthK l i k = match l[i]? with | some a => k a | none => .bad
  | [], i, k => by simp [nthK]
  | a :: l, 0, k => rfl
  | a :: l, i + 1, k => by rw [List.getElem?_cons_succ, ← nthK_eq l i k]; rfl
def vI (k : IntKind) (i : Int) (c : FV → FR) : FR := Int.rec (fun m => fN m fun m => c (.n k m)) (fun m => fN m fun m => c (.z k m)) i
theorem vI_of (k : IntKind) (i : Int) (c : FV → FR) : ∃ v, αV v = .int k i ∧ vI k i c = c v := by
  cases i with
  | ofNat m => exact ⟨.n k m, rfl, by show fN m (fun m => c (.n k m)) = _; rw [fN_eq]⟩
  | negSucc m => exact ⟨.z k m, rfl, by show fN m (fun m => c (.z k m)) = _; rw [fN_eq]⟩
end
end Go.Proofs.YtjgmpdklfcmelaaGreatDoor.V2
