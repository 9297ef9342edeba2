/- Part 6 of the proof: texts of the proof. -/
import Derived.Test.YtjkicmlelilcaaaDoorQR5
import Derived.Test.YtjkicmlelilcaaaDoorRows
import Derived.WalkKit
import Derived.Orders
import Derived.Laws.IdiomCopy
namespace Go.Proofs.YtjkicmlelilcaaaDoor
open Go
open Go.RowKit
def ren13 (bS oS cS bK oK cK : Nat) (r6 : Option (Nat × (Nat × Nat))) : Ren
  | 0 => some (0, (0, 0))
  | 1 => some (1, (0, 1))
  | 2 => some (2, (0, 1))
  | 3 => some (3, (0, 0))
  | 4 => some (bS, (oS, oS + cS))
  | 5 => some (bK, (oK, oK + cK))
  | 6 => r6
  | _ => none
theorem mem0_get (S K B : List Int) : (ofM (mem0 S K B)).get 0 = some (.cells [] 62 .ro) ∧ (ofM (mem0 S K B)).get 1 = some (.cells [.sl 4 0 8 8 false 1] 62 .ro) ∧ (ofM (mem0 S K B)).get 2 = some (.cells [.sl 5 0 64 64 false 1] 62 .ro) ∧
    (ofM (mem0 S K B)).get 3 = some (.cells [] 62 .ro) ∧ (ofM (mem0 S K B)).get 4 = some (.ints .u32 S 62 .ro) ∧ (ofM (mem0 S K B)).get 5 = some (.ints .u32 K 62 .ro) ∧ (ofM (mem0 S K B)).get 6 = some (.ints .u8 B 5 .ro) :=
  ⟨by cbv, by cbv, by cbv, by cbv, by cbv, by cbv, by cbv⟩
theorem mem0_ro (S K B : List Int) (b : Nat) (h : b < 7) : ∃ o, (ofM (mem0 S K B)).get b = some o ∧ o.isRo = true := by
  obtain ⟨h0, h1, h2, h3, h4, h5, h6⟩ := mem0_get S K B
  match b, h with
  | 0, _ => exact ⟨_, h0, rfl⟩
  | 1, _ => exact ⟨_, h1, rfl⟩
  | 2, _ => exact ⟨_, h2, rfl⟩
  | 3, _ => exact ⟨_, h3, rfl⟩
  | 4, _ => exact ⟨_, h4, rfl⟩
  | 5, _ => exact ⟨_, h5, rfl⟩
  | 6, _ => exact ⟨_, h6, rfl⟩
theorem ren13_lt {bS oS cS bK oK cK : Nat} {r6 : Option (Nat × (Nat × Nat))} {b : Nat} {x : Nat × (Nat × Nat)} (h : ren13 bS oS cS bK oK cK r6 b = some x) : b < 7 := by
  unfold ren13 at h
  split at h <;> first | omega | cases h
theorem or_none {ρ : Ren} {x : Option Obj} {e : TypeId} : OR ρ (0, 0) (.cells [] e .ro) x := fun _ => ⟨Nat.le_refl _, fun h => absurd (h rfl) (Nat.lt_irrefl 0)⟩
theorem or_glob {ρ : Ren} {w : World} {g b off c n s e : Nat} (hc : w.cell? ⟨g, 0, none⟩ = some (.slice (some ⟨b, off, none⟩) n c)) (hn : n ≤ c) (hρ : ρ s = some (b, (off, off + c))) : OR ρ (0, 1) (.cells [.sl s 0 n n false 1] e .ro) w.heap[g]? := fun _ => by
  refine ⟨Nat.le_refl _, fun _ => ?_⟩
  obtain ⟨cs, t, fr, hb, h0⟩ := cell_row hc
  refine ⟨cs, t, fr, hb, (fun h => by cases h), ?_, Nat.le_refl _, fun i a hi => ?_⟩
  · have := (Array.getElem?_eq_some_iff.1 h0).1
    show 1 + 0 ≤ _; omega
  · match i, hi with
    | 0, hi =>
      simp only [AObj.at, List.getElem?_cons_zero, Option.some.injEq] at hi
      subst hi
      refine ⟨_, h0, ?_⟩
      unfold VR
      exact .inl ⟨b, (off, off + c), off, c, hρ, rfl, fun _ => (Nat.zero_add _).symm, Nat.le_refl _, hn, fun h => (by cases h), by show off + c * 1 ≤ off + c; omega⟩
    | i + 1, hi => simp [AObj.at] at hi
theorem hr13 {w : World} {bS oS cS bK oK cK : Nat} {r6 : Option (Nat × (Nat × Nat))} {bs : List UInt8} (h3 : 3 < w.heap.size)
    (k1 : w.cell? ⟨1, 0, none⟩ = some (.slice (some ⟨bS, oS, none⟩) 8 cS)) (k2 : 8 ≤ cS) (k3 : bS < w.heap.size) (k4 : ∀ i, i < 8 → w.cell? ⟨bS, oS + i, none⟩ = some (.int .u32 (N32 (at32 S0 i))))
    (s1 : w.cell? ⟨2, 0, none⟩ = some (.slice (some ⟨bK, oK, none⟩) 64 cK)) (s2 : 64 ≤ cK) (s3 : bK < w.heap.size) (s4 : ∀ i, i < 64 → w.cell? ⟨bK, oK + i, none⟩ = some (.int .u32 (N32 (at32 KK i))))
    (h6 : ∀ c d, r6 = some (c, d) → c < w.heap.size ∧ ∀ ρ, OR ρ d (.ints .u8 (bI bs) 5 .ro) w.heap[c]?) : HR (ren13 bS oS cS bK oK cK r6) ⟨7, ofM (mem0 (wI S0) (wI KK) (bI bs))⟩ w := by
  obtain ⟨g0, g1, g2, g3, g4, g5, g6⟩ := mem0_get (wI S0) (wI KK) (bI bs)
  refine ⟨by show 7 ≤ _; omega, fun b hb => ?_, fun b c d hb => ?_, fun b b' c d d' h1 h2 hne => ?_⟩
  · have hb : 7 ≤ b := hb
    show (ofM (mem0 (wI S0) (wI KK) (bI bs))).get b = none
    cases ho : (ofM (mem0 (wI S0) (wI KK) (bI bs))).get b with
    | none => rfl
    | some o =>
      have := ofM_get _ b o (fun p hp => by
        simp only [mem0, List.mem_cons, List.not_mem_nil, or_false] at hp
        rcases hp with rfl | rfl | rfl | rfl | rfl | rfl | rfl <;> (dsimp only; omega)) ho
      simp only [mem0, List.mem_cons, List.not_mem_nil, or_false, Prod.mk.injEq] at this
      omega
  · have hlt := ren13_lt hb
    refine ⟨hlt, ?_⟩
    match b, hlt with
    | 0, _ => cases hb; exact ⟨by omega, _, g0, or_none⟩
    | 1, _ => cases hb; exact ⟨by omega, _, g1, or_glob k1 k2 rfl⟩
    | 2, _ => cases hb; exact ⟨by omega, _, g2, or_glob s1 s2 rfl⟩
    | 3, _ => cases hb; exact ⟨by omega, _, g3, or_none⟩
    | 4, _ => cases hb; exact ⟨k3, _, g4, or_ro (by rw [wI_length]; show 8 + _ ≤ _; omega) fun i hi => by rw [wI_getD]; exact k4 i (by rw [wI_length] at hi; exact hi)⟩
    | 5, _ => cases hb; exact ⟨s3, _, g5, or_ro (by rw [wI_length]; show 64 + _ ≤ _; omega) fun i hi => by rw [wI_getD]; exact s4 i (by rw [wI_length] at hi; exact hi)⟩
    | 6, _ => obtain ⟨e1, e2⟩ := h6 c d hb; exact ⟨e1, _, g6, e2 _⟩
  · obtain ⟨o, e1, e2⟩ := mem0_ro (wI S0) (wI KK) (bI bs) b (ren13_lt h1)
    obtain ⟨o', e3, e4⟩ := mem0_ro (wI S0) (wI KK) (bI bs) b' (ren13_lt h2)
    exact .inr (.inr ⟨o, o', e1, e3, e2, e4⟩)
theorem rsha_any (v : Value) (bs : List UInt8) (w : World) (hB : BSl w v bs) (hl : bs.length ≤ 100000000000) (hS : TabC w 1 S0) (hK : TabC w 2 KK) (h3 : 3 < w.heap.size) :
    Calls Tryd.prog 13 #[v] w fun e w' => e = .returned (.agg (c8 (shaB bs))) ∧ Below w.heap.size w w' := by
  obtain ⟨bS, oS, cS, k1, k2, k3, k4⟩ := hS
  obtain ⟨bK, oK, cK, s1, s2, s3, s4⟩ := hK
  obtain ⟨r6, h6, hv⟩ : ∃ r6 : Option (Nat × (Nat × Nat)), (∀ c d, r6 = some (c, d) → c < w.heap.size ∧ ∀ ρ, OR ρ d (.ints .u8 (bI bs) 5 .ro) w.heap[c]?) ∧ VR (ren13 bS oS cS bK oK cK r6) (.sl 6 0 bs.length bs.length false 1) v := by
    rcases hB with ⟨rfl, rfl⟩ | ⟨b, off, c, rfl, hc, hb, hcell⟩ | ⟨a, rfl, rfl⟩
    · exact ⟨none, (fun c d h => by cases h), by unfold VR; exact .inr ⟨rfl, rfl, rfl, _, rfl⟩⟩
    · refine ⟨some (b, (off, off + c)), fun c' d h => ?_, ?_⟩
      · cases h
        exact ⟨hb, fun ρ => or_ro (by rw [bI_length]; omega) fun i hi => by rw [bI_getD]; exact hcell i (by rw [bI_length] at hi; exact hi)⟩
      · unfold VR
        exact .inl ⟨b, (off, off + c), off, c, rfl, rfl, fun _ => (Nat.zero_add _).symm, Nat.le_refl _, hc, fun h => (by cases h), by show off + c * 1 ≤ off + c; omega⟩
    · exact ⟨none, (fun c d h => by cases h), by unfold VR; exact .inr ⟨rfl, rfl, rfl, _, rfl⟩⟩
  have hr := hr13 (r6 := r6) h3 k1 k2 k3 k4 s1 s2 s3 s4 h6
  have hG : ∀ g, g < 4 → ∃ s, ren13 bS oS cS bK oK cK r6 g = some (g, (0, s)) := fun g hg => by
    match g, hg with
    | 0, _ => exact ⟨0, rfl⟩
    | 1, _ => exact ⟨1, rfl⟩
    | 2, _ => exact ⟨1, rfl⟩
    | 3, _ => exact ⟨0, rfl⟩
  refine (call_sound (xs := [.cellN 2 32]) (K := fun av _ => av = .ints .u8 (bI (shaB bs))) (vs := [v]) mixed gam1_ok pu1_ok Tryd.func13 body13 comp13 (by kernel_rfl) (by kernel_rfl) (by kernel_rfl) (rsha_avc bs hl _) hG hr ⟨v, [], rfl, hv, rfl⟩).mono fun e W' ⟨u, av, σ', ρ', e1, e2, e3, e4, e5⟩ => ?_
  subst e1 e2
  refine ⟨?_, e4.os, e4.tape, e4.output, e4.size, fun c hc => ?_⟩
  · unfold VR at e5
    rw [e5]
    simp [bI, c8, c8l]
  · by_cases hm : ∃ b d, ren13 bS oS cS bK oK cK r6 b = some (c, d)
    · obtain ⟨b, d, hm⟩ := hm
      obtain ⟨o, q1, q2⟩ := mem0_ro (wI S0) (wI KK) (bI bs) b (ren13_lt hm)
      exact (e4.ro b c d o (ren13_lt hm) hm hc q1 q2).2
    · exact e4.frame c hc fun b d h => hm ⟨b, d, h⟩
end Go.Proofs.YtjkicmlelilcaaaDoor
namespace Go.Proofs.YtjkicmlelilcaaaDoor
open Go
open Go.RowKit
theorem HR.below {ρ : Ren} {σ : AH} {W W' : World} (h : HR ρ σ W) (hb : Below W.heap.size W W') : HR ρ σ W' :=
  ⟨h.small, h.none_, fun b c d hρ => by
    obtain ⟨h1, h2, o, h3, h4⟩ := h.dom b c d hρ
    refine ⟨h1, Nat.lt_of_lt_of_le h2 hb.size, o, h3, ?_⟩
    rw [hb.block c h2]; exact h4, h.inj⟩
theorem Stp.below {N : Nat} {ρ : Ren} {σ : AH} {W W' : World} (hN : N ≤ σ.next) (hb : Below W.heap.size W W') : Stp N ρ σ W ρ σ W' :=
  ⟨fun _ _ => rfl, fun b _c d h => .inl ⟨b, d, h⟩, hN, fun _ _ _ _ h _ => h, fun c hc _ => hb.block c hc, hb.tape, hb.os, hb.output, hb.size, fun _ c _ _ _ _ hc h _ => ⟨h, hb.block c hc⟩⟩
def rowB : Row → Option (List Int)
  | .ints k l => match k with
    | .u8 => some l
    | _ => none
  | .cells l => match l with
    | [] => some []
    | _ => none
def toBs (l : List Int) : List UInt8 := l.map fun n => UInt8.ofNat n.toNat
theorem bI_toBs (l : List Int) (h : ∀ n ∈ l, 0 ≤ n ∧ n ≤ 255) : bI (toBs l) = l := by
  unfold bI toBs
  rw [List.map_map]
  conv => rhs; rw [← List.map_id l]
  refine List.map_congr_left fun n hn => ?_
  have := h n hn
  simp only [Function.comp_apply, id_eq, N8, UInt8.toNat_ofNat']
  omega
theorem toBs_length (l : List Int) : (toBs l).length = l.length := by simp [toBs]
theorem bsl_empty {ρ : Ren} {σ : AH} {W : World} (hr : HR ρ σ W) {b o k z : Nat} {e : Bool} {v : Value} (hv : VR ρ (.sl b o 0 k e z) v) : BSl W v [] := by
  rcases vr_sl hv with ⟨c, d, o', k', hb, rfl, _, _, _, _, _⟩ | ⟨_, _, _, p, rfl⟩
  · exact .inr (.inl ⟨c, o', k', rfl, Nat.zero_le _, (hr.dom _ _ _ hb).2.1, fun j hj => by cases hj⟩)
  · cases p with
    | none => exact .inl ⟨rfl, rfl⟩
    | some a => exact .inr (.inr ⟨a, rfl, rfl⟩)
theorem bsl_of_row {ρ : Ren} {σ : AH} {W : World} (hr : HR ρ σ W) {s : AV} {v : Value} (hv : VR ρ s v) (hok : (rowA std false 1 σ s).1 = true) {l : List Int} (hl : rowB (rowA std false 1 σ s).2.2 = some l) (hby : ∀ n ∈ l, 0 ≤ n ∧ n ≤ 255) : BSl W v (toBs l) := by
  cases s
  case nilsl =>
    unfold VR at hv
    simp only [rowA, rowB, Option.some.injEq] at hl
    subst hl hv
    exact .inl ⟨rfl, rfl⟩
  case sl b o n k e z =>
    simp only [rowA] at hok hl
    cases hob : σ.get b with
    | none => rw [hob] at hok; cases hok
    | some ob =>
      rw [hob] at hok hl
      cases ob with
      | dead =>
        simp only [rowB, Option.some.injEq] at hl
        subst hl
        simp only [Bool.and_eq_true, Nat.beq_eq] at hok
        obtain ⟨_, rfl⟩ := hok
        exact bsl_empty hr hv
      | cells m e2 t =>
        simp only [Bool.and_eq_true, Nat.ble_eq] at hok
        by_cases hn : n = 0
        · subst hn
          have : l = [] := by
            simp only [Nat.zero_mul, List.take_zero, rowB, Option.some.injEq] at hl
            exact hl.symm
          subst this
          exact bsl_empty hr hv
        · exfalso
          cases hm : (m.drop o).take (n * 1) with
          | nil =>
            have : ((m.drop o).take (n * 1)).length = 0 := by rw [hm]; rfl
            rw [List.length_take, List.length_drop] at this
            omega
          | cons x y => simp only [hm, rowB] at hl; cases hl
      | ints ik m e2 t =>
        simp only [std, Bool.and_eq_true, Nat.ble_eq] at hok
        by_cases hik : ik = .u8
        · subst hik
          simp only [std, rowB, Option.some.injEq] at hl
          have hln : l.length = n := by rw [← hl, List.length_take, List.length_drop]; omega
          by_cases hn : n = 0
          · have : l = [] := List.length_eq_zero_iff.1 (by rw [hln, hn])
            subst hn this
            exact bsl_empty hr hv
          · rcases vr_sl hv with ⟨c, d, o', k', hb, rfl, ho, hnk, hk, _, _⟩ | ⟨h0, _⟩
            · have ho := ho (by omega)
              subst ho
              refine .inr (.inl ⟨c, o + d.1, k', by rw [toBs_length, hln], by rw [toBs_length, hln]; omega, (hr.dom _ _ _ hb).2.1, fun j hj => ?_⟩)
              rw [toBs_length, hln] at hj
              have hjm : o + j < m.length := by omega
              obtain ⟨u, hu, hvr⟩ := hr.load (i := o + j) (a := .int .u8 m[o + j]) hb hob (by simp only [AObj.at]; rw [List.getElem?_eq_getElem hjm]; rfl)
              unfold VR at hvr
              subst hvr
              rw [show o + d.1 + j = o + j + d.1 by omega, hu]
              have hlj : l[j]? = some m[o + j] := by rw [← hl, List.getElem?_take, if_pos (by omega), List.getElem?_drop, List.getElem?_eq_getElem hjm]
              have hmem := hby _ (List.mem_of_getElem? hlj)
              have : (bI (toBs l)).getD j 0 = m[o + j] := by rw [bI_toBs l hby, List.getD_eq_getElem?_getD, hlj]; rfl
              rw [bI_getD] at this
              rw [this]
            · exact absurd h0 hn
        · cases ik <;> first | exact absurd rfl hik | (simp only [rowB] at hl; cases hl)
  all_goals (simp only [rowA] at hok; cases hok)
end Go.Proofs.YtjkicmlelilcaaaDoor
namespace Go.Proofs.YtjkicmlelilcaaaDoor
open Go
open Go.RowKit
noncomputable def tabA (σ : AH) (g n : Nat) (t : List Int → Bool) : Bool := match σ.get g with
  | some ob => match ob with
    | .cells l _ _ => match l with
      | [.sl b o m _ _ _] => Nat.beq o 0 && Nat.beq m n && match σ.get b with
        | some ob => match ob with
          | .ints k l _ _ => match k with
            | .u32 => t l
            | _ => false
          | _ => false
        | none => false
      | _ => false
    | _ => false
  | none => false
def shaI (l : List Int) : List Int := bI (shaB (toBs l))
def byI (l : List Int) : Bool := l.all fun n => decide (0 ≤ n) && decide (n ≤ 255)
def isS (l : List Int) : Bool := decide (l = wI S0)
def isK (l : List Int) : Bool := decide (l = wI KK)
theorem tab_of {ρ : Ren} {σ : AH} {W : World} (hr : HR ρ σ W) {g n : Nat} {T : List UInt32} {t : List Int → Bool} (ht : ∀ l, t l = true → l = wI T) (hn : T.length = n) (hn0 : 0 < n) (hg : ∃ s, ρ g = some (g, (0, s))) (h : tabA σ g n t = true) : TabC W g T := by
  unfold tabA at h
  split at h
  case h_2 => cases h
  rename_i ob hob
  split at h
  case h_2 => cases h
  rename_i l e2 t2
  split at h
  case h_2 => cases h
  rename_i b o m k e z
  rw [Bool.and_eq_true, Bool.and_eq_true, Nat.beq_eq, Nat.beq_eq] at h
  obtain ⟨⟨rfl, rfl⟩, h⟩ := h
  split at h
  case h_2 => cases h
  rename_i ob2 hob2
  split at h
  case h_2 => cases h
  rename_i kk l2 e3 t3
  split at h
  case h_2 => cases h
  have hl := ht _ h
  subst hl
  obtain ⟨s, hs⟩ := hg
  obtain ⟨v, hv, hvr⟩ := hr.load (i := 0) (a := .sl b 0 m k e z) hs hob rfl
  rcases vr_sl hvr with ⟨c, d, o', k', hb, rfl, ho, hnk, hk, _, _⟩ | ⟨h0, _⟩
  · have ho := ho (by omega)
    subst ho
    refine ⟨c, 0 + d.1, k', by rw [hn]; exact hv, by omega, (hr.dom _ _ _ hb).2.1, fun i hi => ?_⟩
    have hi2 : i < (wI T).length := by rw [wI_length]; exact hi
    obtain ⟨u, hu, hur⟩ := hr.load (i := i) (a := .int .u32 (wI T)[i]) hb hob2 (by simp only [AObj.at]; rw [List.getElem?_eq_getElem hi2]; rfl)
    unfold VR at hur
    subst hur
    rw [show 0 + d.1 + i = i + d.1 by omega, hu]
    have := wI_getD T i
    rw [List.getD_eq_getElem?_getD, List.getElem?_eq_getElem hi2] at this
    rw [← this]; rfl
  · omega
noncomputable def Γ2 (A : Ar) (Sh : List Int → List Int) (By tS tK : List Int → Bool) : Gam := fun f args σ => match args with
  | [s] => bif Nat.beq f 13 then (match rowA A false 1 σ s with
    | (ok, _, r) => match rowB r with
      | some l => (ok && A.leN (A.len l) 100000000000 && By l && tabA σ 1 8 tS && tabA σ 2 64 tK, .ints .u8 (Sh l), σ)
      | none => bad σ) else bad σ
  | _ => bad σ
theorem gam2_ok : GamOk Tryd.prog 4 (Γ2 std shaI byI isS isK) := by
  intro f args σ h
  unfold Γ2 at h ⊢
  split at h
  case h_2 => cases h
  rename_i s
  cases hf : Nat.beq f 13 <;> rw [hf] at h
  · cases h
  have e := Nat.eq_of_beq_eq_true hf
  subst e
  simp only [cond_true] at h ⊢
  generalize hrw : rowA std false 1 σ s = rr at h ⊢
  obtain ⟨ok, n, r⟩ := rr
  simp only at h ⊢
  cases hB : rowB r with
  | none => rw [hB] at h; cases h
  | some l =>
    rw [hB] at h
    simp only [Bool.and_eq_true, std, Nat.ble_eq] at h ⊢
    obtain ⟨⟨⟨⟨h1, h2⟩, h3⟩, h4⟩, h5⟩ := h
    have hby : ∀ n ∈ l, 0 ≤ n ∧ n ≤ 255 := fun n hn => by
      have := List.all_eq_true.1 h3 n hn
      simpa using this
    refine ⟨⟨_, Tryd.func13, by kernel_rfl, by kernel_rfl⟩, fun ρ W vs hG hr hvs => ?_⟩
    obtain ⟨v, m, rfl, hv, hm⟩ := hvs
    have hm : m = [] := hm
    subst hm
    have hbs := bsl_of_row hr hv (by rw [hrw]; exact h1) (l := l) (by rw [hrw]; exact hB) hby
    have hS := tab_of hr (T := S0) (fun l h => by simpa [isS] using h) rfl (by decide) (hG 1 (by decide)) h4
    have hK := tab_of hr (T := KK) (fun l h => by simpa [isK] using h) rfl (by decide) (hG 2 (by decide)) h5
    obtain ⟨s3, hs3⟩ := hG 3 (by decide)
    refine (rsha_any v (toBs l) W hbs (by rw [toBs_length]; exact h2) hS hK (hr.dom _ _ _ hs3).2.1).mono fun e W' ⟨e1, e2⟩ => ?_
    subst e1
    refine ⟨_, ρ, rfl, hr.below e2, Stp.below (Nat.le_refl _) e2, ?_⟩
    unfold VR
    simp [shaI, bI, c8, c8l]
end Go.Proofs.YtjkicmlelilcaaaDoor
namespace Go.Proofs.YtjkicmlelilcaaaDoor
open Go
def HB0 : ACode := (.reg [⟨(.aop (.mov (.slot 7))), (some 23), none⟩, ⟨(.aop (.mov (.slot 7))), (some 24), none⟩, ⟨(.aop (.idxArr 32 1 (.slot 6) (.slot 24))), (some 25), none⟩, ⟨(.aop (.load1 (.slot 25))), (some 26), none⟩, ⟨(.aop (.idxArr 64 1 (.slot 5) (.slot 23))), (some 27), none⟩, ⟨(.aop (.store 1 (.slot 27) (.slot 26))), none, none⟩])
def HL0 : ACode := (.loop (.seq (.seq (.reg [⟨(.aop (.mov (.slot 7))), (some 19), none⟩, ⟨(.aop (.bin .lss (.slot 19) (.lit (.int .i64 (32))))), (some 20), none⟩]) (.cond (.slot 20) .skip (.exit 0))) (.seq (.block 1 HB0) (.reg [⟨(.aop (.mov (.slot 7))), (some 21), none⟩, ⟨(.aop (.bin .add (.slot 21) (.lit (.int .i64 (1))))), (some 22), none⟩, ⟨(.aop (.mov (.slot 22))), (some 7), none⟩]))))
def HB2 : ACode := (.reg [⟨(.aop (.mov (.slot 8))), (some 34), none⟩, ⟨(.aop (.mov (.slot 0))), (some 35), none⟩, ⟨(.aop (.mov (.slot 8))), (some 36), none⟩, ⟨(.aop (.idxSl 1 (.slot 35) (.slot 36))), (some 37), none⟩, ⟨(.aop (.load1 (.slot 37))), (some 38), none⟩, ⟨(.aop (.idxArr 64 1 (.slot 5) (.slot 34))), (some 39), none⟩, ⟨(.aop (.store 1 (.slot 39) (.slot 38))), none, none⟩])
def HL2 : ACode := (.loop (.seq (.seq (.reg [⟨(.aop (.mov (.slot 8))), (some 28), none⟩, ⟨(.aop (.mov (.slot 0))), (some 29), none⟩, ⟨(.aop (.lenSl (.slot 29))), (some 30), none⟩, ⟨(.aop (.bin .lss (.slot 28) (.slot 30))), (some 31), none⟩]) (.cond (.slot 31) .skip (.exit 2))) (.seq (.block 3 HB2) (.reg [⟨(.aop (.mov (.slot 8))), (some 32), none⟩, ⟨(.aop (.bin .add (.slot 32) (.lit (.int .i64 (1))))), (some 33), none⟩, ⟨(.aop (.mov (.slot 33))), (some 8), none⟩]))))
def HB4 : ACode := (.seq (.reg [⟨(.aop (.mov (.slot 9))), (some 44), none⟩, ⟨(.aop (.mov (.slot 11))), (some 45), none⟩, ⟨(.aop (.idxArr 64 1 (.slot 5) (.slot 45))), (some 46), none⟩, ⟨(.aop (.load1 (.slot 46))), (some 47), none⟩, ⟨(.aop (.bin .xor (.slot 47) (.lit (.int .u8 (54))))), (some 48), none⟩, ⟨(.aop (.ext (.bslice 5 1 1) [(.slot 48)])), (some 49), none⟩, ⟨(.aop (.ext (.append 5 false 1) [(.slot 44), (.slot 49)])), (some 50), none⟩, ⟨(.aop (.mov (.slot 50))), (some 9), none⟩]) (.reg [⟨(.aop (.mov (.slot 10))), (some 51), none⟩, ⟨(.aop (.mov (.slot 11))), (some 52), none⟩, ⟨(.aop (.idxArr 64 1 (.slot 5) (.slot 52))), (some 53), none⟩, ⟨(.aop (.load1 (.slot 53))), (some 54), none⟩, ⟨(.aop (.bin .xor (.slot 54) (.lit (.int .u8 (92))))), (some 55), none⟩, ⟨(.aop (.ext (.bslice 5 1 1) [(.slot 55)])), (some 56), none⟩, ⟨(.aop (.ext (.append 5 false 1) [(.slot 51), (.slot 56)])), (some 57), none⟩, ⟨(.aop (.mov (.slot 57))), (some 10), none⟩]))
def HL4 : ACode := (.loop (.seq (.seq (.reg [⟨(.aop (.mov (.slot 11))), (some 40), none⟩, ⟨(.aop (.bin .lss (.slot 40) (.lit (.int .i64 (64))))), (some 41), none⟩]) (.cond (.slot 41) .skip (.exit 4))) (.seq (.block 5 HB4) (.reg [⟨(.aop (.mov (.slot 11))), (some 42), none⟩, ⟨(.aop (.bin .add (.slot 42) (.lit (.int .i64 (1))))), (some 43), none⟩, ⟨(.aop (.mov (.slot 43))), (some 11), none⟩]))))
def HB6 : ACode := (.reg [⟨(.aop (.mov (.slot 10))), (some 66), none⟩, ⟨(.aop (.mov (.slot 13))), (some 67), none⟩, ⟨(.aop (.idxArr 32 1 (.slot 12) (.slot 67))), (some 68), none⟩, ⟨(.aop (.load1 (.slot 68))), (some 69), none⟩, ⟨(.aop (.ext (.bslice 5 1 1) [(.slot 69)])), (some 70), none⟩, ⟨(.aop (.ext (.append 5 false 1) [(.slot 66), (.slot 70)])), (some 71), none⟩, ⟨(.aop (.mov (.slot 71))), (some 10), none⟩])
def HL6 : ACode := (.loop (.seq (.seq (.reg [⟨(.aop (.mov (.slot 13))), (some 62), none⟩, ⟨(.aop (.bin .lss (.slot 62) (.lit (.int .i64 (32))))), (some 63), none⟩]) (.cond (.slot 63) .skip (.exit 6))) (.seq (.block 7 HB6) (.reg [⟨(.aop (.mov (.slot 13))), (some 64), none⟩, ⟨(.aop (.bin .add (.slot 64) (.lit (.int .i64 (1))))), (some 65), none⟩, ⟨(.aop (.mov (.slot 65))), (some 13), none⟩]))))
def c15 : ACode := (.seq (.reg [⟨(.aop (.alloc 23 [(.int .u8 (0)), (.int .u8 (0)), (.int .u8 (0)), (.int .u8 (0)), (.int .u8 (0)), (.int .u8 (0)), (.int .u8 (0)), (.int .u8 (0)), (.int .u8 (0)), (.int .u8 (0)), (.int .u8 (0)), (.int .u8 (0)), (.int .u8 (0)), (.int .u8 (0)), (.int .u8 (0)), (.int .u8 (0)), (.int .u8 (0)), (.int .u8 (0)), (.int .u8 (0)), (.int .u8 (0)), (.int .u8 (0)), (.int .u8 (0)), (.int .u8 (0)), (.int .u8 (0)), (.int .u8 (0)), (.int .u8 (0)), (.int .u8 (0)), (.int .u8 (0)), (.int .u8 (0)), (.int .u8 (0)), (.int .u8 (0)), (.int .u8 (0))])), (some 4), none⟩]) (.seq (.reg [⟨(.aop (.alloc 97 [(.int .u8 (0)), (.int .u8 (0)), (.int .u8 (0)), (.int .u8 (0)), (.int .u8 (0)), (.int .u8 (0)), (.int .u8 (0)), (.int .u8 (0)), (.int .u8 (0)), (.int .u8 (0)), (.int .u8 (0)), (.int .u8 (0)), (.int .u8 (0)), (.int .u8 (0)), (.int .u8 (0)), (.int .u8 (0)), (.int .u8 (0)), (.int .u8 (0)), (.int .u8 (0)), (.int .u8 (0)), (.int .u8 (0)), (.int .u8 (0)), (.int .u8 (0)), (.int .u8 (0)), (.int .u8 (0)), (.int .u8 (0)), (.int .u8 (0)), (.int .u8 (0)), (.int .u8 (0)), (.int .u8 (0)), (.int .u8 (0)), (.int .u8 (0)), (.int .u8 (0)), (.int .u8 (0)), (.int .u8 (0)), (.int .u8 (0)), (.int .u8 (0)), (.int .u8 (0)), (.int .u8 (0)), (.int .u8 (0)), (.int .u8 (0)), (.int .u8 (0)), (.int .u8 (0)), (.int .u8 (0)), (.int .u8 (0)), (.int .u8 (0)), (.int .u8 (0)), (.int .u8 (0)), (.int .u8 (0)), (.int .u8 (0)), (.int .u8 (0)), (.int .u8 (0)), (.int .u8 (0)), (.int .u8 (0)), (.int .u8 (0)), (.int .u8 (0)), (.int .u8 (0)), (.int .u8 (0)), (.int .u8 (0)), (.int .u8 (0)), (.int .u8 (0)), (.int .u8 (0)), (.int .u8 (0)), (.int .u8 (0))])), (some 5), none⟩]) (.seq (.seq (.reg [⟨(.aop (.mov (.slot 0))), (some 14), none⟩, ⟨(.aop (.lenSl (.slot 14))), (some 15), none⟩, ⟨(.aop (.bin .gtr (.slot 15) (.lit (.int .i64 (64))))), (some 16), none⟩]) (.cond (.slot 16) (.seq (.reg [⟨(.aop (.mov (.slot 0))), (some 17), none⟩, ⟨(.call (.lit (.fn (.func 13) [] [])) [(.slot 17)]), (some 18), none⟩, ⟨(.aop (.alloc 23 [(.int .u8 (0)), (.int .u8 (0)), (.int .u8 (0)), (.int .u8 (0)), (.int .u8 (0)), (.int .u8 (0)), (.int .u8 (0)), (.int .u8 (0)), (.int .u8 (0)), (.int .u8 (0)), (.int .u8 (0)), (.int .u8 (0)), (.int .u8 (0)), (.int .u8 (0)), (.int .u8 (0)), (.int .u8 (0)), (.int .u8 (0)), (.int .u8 (0)), (.int .u8 (0)), (.int .u8 (0)), (.int .u8 (0)), (.int .u8 (0)), (.int .u8 (0)), (.int .u8 (0)), (.int .u8 (0)), (.int .u8 (0)), (.int .u8 (0)), (.int .u8 (0)), (.int .u8 (0)), (.int .u8 (0)), (.int .u8 (0)), (.int .u8 (0))])), (some 6), none⟩, ⟨(.aop (.store 32 (.slot 6) (.slot 18))), none, none⟩]) (.seq (.reg [⟨(.aop (.mov (.lit (.int .i64 (0))))), (some 7), none⟩]) (.block 0 HL0))) (.seq (.reg [⟨(.aop (.mov (.lit (.int .i64 (0))))), (some 8), none⟩]) (.block 2 HL2)))) (.seq (.reg [⟨(.aop (.mov (.lit .nilsl))), (some 9), none⟩, ⟨(.aop (.mov (.lit .nilsl))), (some 10), none⟩]) (.seq (.seq (.reg [⟨(.aop (.mov (.lit (.int .i64 (0))))), (some 11), none⟩]) (.block 4 HL4)) (.seq (.reg [⟨(.aop (.mov (.slot 9))), (some 58), none⟩, ⟨(.aop (.mov (.slot 1))), (some 59), none⟩, ⟨(.aop (.ext (.append 5 false 1) [(.slot 58), (.slot 59)])), (some 60), none⟩, ⟨(.call (.lit (.fn (.func 13) [] [])) [(.slot 60)]), (some 61), none⟩, ⟨(.aop (.alloc 23 [(.int .u8 (0)), (.int .u8 (0)), (.int .u8 (0)), (.int .u8 (0)), (.int .u8 (0)), (.int .u8 (0)), (.int .u8 (0)), (.int .u8 (0)), (.int .u8 (0)), (.int .u8 (0)), (.int .u8 (0)), (.int .u8 (0)), (.int .u8 (0)), (.int .u8 (0)), (.int .u8 (0)), (.int .u8 (0)), (.int .u8 (0)), (.int .u8 (0)), (.int .u8 (0)), (.int .u8 (0)), (.int .u8 (0)), (.int .u8 (0)), (.int .u8 (0)), (.int .u8 (0)), (.int .u8 (0)), (.int .u8 (0)), (.int .u8 (0)), (.int .u8 (0)), (.int .u8 (0)), (.int .u8 (0)), (.int .u8 (0)), (.int .u8 (0))])), (some 12), none⟩, ⟨(.aop (.store 32 (.slot 12) (.slot 61))), none, none⟩]) (.seq (.seq (.reg [⟨(.aop (.mov (.lit (.int .i64 (0))))), (some 13), none⟩]) (.block 6 HL6)) (.seq (.reg [⟨(.aop (.mov (.slot 10))), (some 72), none⟩, ⟨(.call (.lit (.fn (.func 13) [] [])) [(.slot 72)]), (some 73), none⟩, ⟨(.aop (.store 32 (.slot 4) (.slot 73))), none, none⟩]) .ret))))))))
theorem comp15 : compC Tryd.prog 4 Tryd.f15.ntmps (fun _ => false) (Tryd.f15.body.getD .skip) = some c15 := by kernel_rfl
theorem pu2_ok {A : Ar} {Sh : List Int → List Int} {By tS tK : List Int → Bool} : PuOk (Γ2 A Sh By tS tK) fun _ => false := fun f h => by cases h
def Z64 : List Int := Z32 ++ Z32
def mem15 (S K Bk Bb : List Int) (l : List (Nat × AObj)) : List (Nat × AObj) := (0, .cells [] 62 .ro) :: (1, .cells [.sl 4 0 8 8 false 1] 62 .ro) :: (2, .cells [.sl 5 0 64 64 false 1] 62 .ro) :: (3, .cells [] 62 .ro) :: (4, .ints .u32 S 62 .ro) :: (5, .ints .u32 K 62 .ro) :: (6, .ints .u8 Bk 5 .ro) :: (7, .ints .u8 Bb 5 .ro) :: (8, .ints .u8 Z32 23 .exact) :: l
theorem low_lay8 {S K Bk Bb : List Int} {l : List (Nat × AObj)} {X : T AObj}
    (h0 : X.get 0 = some (.cells [] 62 .ro)) (h1 : X.get 1 = some (.cells [.sl 4 0 8 8 false 1] 62 .ro)) (h2 : X.get 2 = some (.cells [.sl 5 0 64 64 false 1] 62 .ro)) (h3 : X.get 3 = some (.cells [] 62 .ro))
    (h4 : X.get 4 = some (.ints .u32 S 62 .ro)) (h5 : X.get 5 = some (.ints .u32 K 62 .ro)) (h6 : X.get 6 = some (.ints .u8 Bk 5 .ro)) (h7 : X.get 7 = some (.ints .u8 Bb 5 .ro)) :
    ∀ b, b < 8 → (ofM (mem15 S K Bk Bb l)).get b = X.get b := by
  have key : ∀ (o : AObj) (b : Nat) (l : List (Nat × AObj)), b < 1000000 → (ofM ((b, o) :: l)).get b = some o := fun o b l h => by simp only [ofM]; rw [T.get_put _ _ _ _ (by omega), if_pos rfl]
  have skip : ∀ (o : AObj) (b c : Nat) (l : List (Nat × AObj)), c < 1000000 → b ≠ c → (ofM ((c, o) :: l)).get b = (ofM l).get b := fun o b c l h hn => by simp only [ofM]; rw [T.get_put _ _ _ _ (by omega), if_neg hn]
  intro b hb
  unfold mem15
  match b, hb with
  | 0, _ => rw [h0]; exact key _ _ _ (by omega)
  | 1, _ => rw [h1]; repeat rw [skip _ _ _ _ (by omega) (by omega)]
            exact key _ _ _ (by omega)
  | 2, _ => rw [h2]; repeat rw [skip _ _ _ _ (by omega) (by omega)]
            exact key _ _ _ (by omega)
  | 3, _ => rw [h3]; repeat rw [skip _ _ _ _ (by omega) (by omega)]
            exact key _ _ _ (by omega)
  | 4, _ => rw [h4]; repeat rw [skip _ _ _ _ (by omega) (by omega)]
            exact key _ _ _ (by omega)
  | 5, _ => rw [h5]; repeat rw [skip _ _ _ _ (by omega) (by omega)]
            exact key _ _ _ (by omega)
  | 6, _ => rw [h6]; repeat rw [skip _ _ _ _ (by omega) (by omega)]
            exact key _ _ _ (by omega)
  | 7, _ => rw [h7]; repeat rw [skip _ _ _ _ (by omega) (by omega)]
            exact key _ _ _ (by omega)
end Go.Proofs.YtjkicmlelilcaaaDoor
namespace Go.Proofs.YtjkicmlelilcaaaDoor
open Go
def kT (l : List UInt8) : Nat → List UInt8
  | 0 => List.replicate 64 0
  | k + 1 => (kT l k).set k (at8 l k)
theorem kT_length (l : List UInt8) (k : Nat) : (kT l k).length = 64 := by
  induction k with
  | zero => simp [kT]
  | succ k ih => simp [kT, ih]
def oT (o h : List UInt8) (k : Nat) : List UInt8 := o ++ h.take k
theorem oT_succ (o h : List UInt8) (k : Nat) (hk : k < h.length) : oT o h (k + 1) = oT o h k ++ [at8 h k] := by
  unfold oT
  rw [List.take_succ_eq_append_getElem hk, List.append_assoc, at8, List.getD_eq_getElem?_getD, List.getElem?_eq_getElem hk]
  rfl
section
variable {A : Ar} {Γ : Gam} {nt : Nat} {K : AK} {env0 : T AV} {σ0 : AH} {LS LK LB LM : List Int}
theorem hp0 (hA : A = std) (nk nb : Nat) (Hq : List Int) (s : List UInt8) (hs : s.length = 32) (hHq : Hq = bI s)
    (hw : ∀ (k0 : Int) (Kq : List Int) (_ : k0 = ((0 : Nat) : Int)) (_ : Kq = bI (kT s 0)), Wk 4 nt 8 env0 σ0 (ofL [(0, .sl 6 0 nk nk false 1), (1, .sl 7 0 nb nb false 1), (4, .ptr 8 0), (5, .ptr 9 0), (6, .ptr 10 0), (7, .int .i64 k0)]) ⟨11, ofM (mem15 LS LK LB LM [(9, .ints .u8 Kq 97 .exact), (10, .ints .u8 Hq 23 .exact)])⟩)
    (hK : ∀ ta tb (k0 : Int) (Kq : List Int) (_ : k0 = ((32 : Nat) : Int)) (_ : Kq = bI (kT s 32)), K .normal (ofL [(19, ta), (20, tb), (0, .sl 6 0 nk nk false 1), (1, .sl 7 0 nb nb false 1), (4, .ptr 8 0), (5, .ptr 9 0), (6, .ptr 10 0), (7, .int .i64 k0)]) ⟨11, ofM (mem15 LS LK LB LM [(9, .ints .u8 Kq 97 .exact), (10, .ints .u8 Hq 23 .exact)])⟩) :
    avc A Γ 4 nt 8 (.block 0 HL0) K env0 σ0 := by
  unfold HL0 HB0
  refine avc_block (avc_loop
    (fun env σ => ∃ k : Nat, k ≤ 32 ∧ ∃ (k0 : Int) (Kq : List Int), k0 = ((k : Nat) : Int) ∧ Kq = bI (kT s k) ∧ env = ofL [(0, .sl 6 0 nk nk false 1), (1, .sl 7 0 nb nb false 1), (4, .ptr 8 0), (5, .ptr 9 0), (6, .ptr 10 0), (7, .int .i64 k0)] ∧ σ = ⟨11, ofM (mem15 LS LK LB LM [(9, .ints .u8 Kq 97 .exact), (10, .ints .u8 Hq 23 .exact)])⟩)
    (fun env _ => match env.get 7 with | some (.int _ k) => 32 - k.toNat | _ => 0)
    (hw _ _ rfl rfl) ⟨0, by omega, _, _, rfl, rfl, rfl, rfl⟩ ?_)
  rintro env σ ⟨k, hk, k0, Kq, hk0, hKq, rfl, rfl⟩
  refine avc_seq_seq (avc_seq_reg (by cbv) rfl (avc_seq_cond (t := A.lt k0 32) (by cbv) (fun ht => ?_) (fun ht => ?_)))
  · have hlt : k < 32 := by subst hA; simp only [std, decide_eq_true_eq] at ht; omega
    have hKl : Kq.length = 64 := by rw [hKq, bI_length, kT_length]
    have hHl : Hq.length = 32 := by rw [hHq, bI_length, hs]
    refine avc_seq_skip (avc_seq_block (avc_reg (by cbv) ?_ ?_))
    · have q0 : k0.toNat = k := by omega
      have q1 : Nat.blt k 32 = true := by rw [Nat.blt_eq]; omega
      have q3 : Nat.blt k 64 = true := by rw [Nat.blt_eq]; omega
      have q2 : (0 : Int) ≤ k0 := by omega
      subst hA
      simp [std, hKl, hHl, q0, q1, q2, q3]
    show avc A Γ 4 nt 8 _ _ _ _
    refine avc_reg (by cbv) rfl ?_
    obtain ⟨k1, hk1⟩ : ∃ k1 : Int, k1 = ((k + 1 : Nat) : Int) := ⟨_, rfl⟩
    obtain ⟨L1, hL1⟩ : ∃ L1, L1 = bI (kT s (k + 1)) := ⟨_, rfl⟩
    refine ⟨_, _, Wk.lay (ren 0 0) (l := [(0, .sl 6 0 nk nk false 1), (1, .sl 7 0 nb nb false 1), (4, .ptr 8 0), (5, .ptr 9 0), (6, .ptr 10 0), (7, .int .i64 k1)]) (L := mem15 LS LK LB LM [(9, .ints .u8 L1 97 .exact), (10, .ints .u8 Hq 23 .exact)]) (n := 11) rfl rfl rfl (by cbv) (by cbv) ?_ ?_ (by cbv) (by cbv) (by cbv) ?_, ⟨k + 1, by omega, k1, L1, hk1, hL1, rfl, rfl⟩, ?_⟩
    · refine had_cons (by cbv) rfl (had_cons (by cbv) rfl (had_cons (by cbv) rfl (had_cons (by cbv) rfl (had_cons (by cbv) rfl (had_cons (by cbv) rfl (had_cons (by cbv) rfl (had_cons (by cbv) rfl (had_cons (by cbv) rfl (had_cons ?_ rfl (had_cons (by cbv) rfl (had_nil)))))))))))
      conv => lhs; cbv
      subst hA
      have q0 : k0.toNat = k := by omega
      have e3 : Kq.set k (Hq.getD k 0) = L1 := by rw [hL1, hKq, hHq, bI_getD, bI_set, kT]
      simp only [std, q0, Nat.zero_add, Nat.mul_one]
      rw [e3]; rfl
    · exact low_lay8 (by cbv) (by cbv) (by cbv) (by cbv) (by cbv) (by cbv) (by cbv) (by cbv)
    · refine has_cons (by cbv) rfl (has_cons (by cbv) rfl (has_cons (by cbv) rfl (has_cons (by cbv) rfl (has_cons (by cbv) rfl (has_cons ?_ rfl (has_nil))))))
      conv => lhs; cbv
      subst hA
      simp only [std, wr]
      congr 2; omega
    · have g1 : (ofL [(0, .sl 6 0 nk nk false 1), (1, .sl 7 0 nb nb false 1), (4, .ptr 8 0), (5, .ptr 9 0), (6, .ptr 10 0), (7, .int .i64 k1)]).get 7 = some (.int .i64 k1) := by cbv
      have g0 : (ofL [(0, .sl 6 0 nk nk false 1), (1, .sl 7 0 nb nb false 1), (4, .ptr 8 0), (5, .ptr 9 0), (6, .ptr 10 0), (7, .int .i64 k0)]).get 7 = some (.int .i64 k0) := by cbv
      rw [g1, g0]
      show 32 - k1.toNat < 32 - k0.toNat
      omega
  · refine avc_seq_exit ?_
    have e : k = 32 := by subst hA; simp only [std, decide_eq_false_iff_not] at ht; omega
    subst e
    have hh := hK (.int .i64 k0) (.bool (A.lt k0 32)) k0 Kq hk0 hKq
    show K .normal _ _
    refine Eq.mp (congr (congrArg (K .normal) ?_) ?_) hh
    · cbv
    · cbv
theorem hp6 (hA : A = std) (Kq Hq : List Int) (o s : List UInt8) (ho : o.length ≤ 1000) (hs : s.length = 32) (hHq : Hq = bI s)
    (hw : ∀ (k0 : Int) (t0 : Nat) (Oq : List Int) (_ : k0 = ((0 : Nat) : Int)) (_ : t0 = o.length + 0) (_ : Oq = bI (oT o s 0)), Wk 4 nt 8 env0 σ0 (ofL [(4, .ptr 8 0), (10, .sl 10 0 t0 t0 false 1), (12, .ptr 11 0), (13, .int .i64 k0)]) ⟨12, ofM (mem15 LS LK LB LM [(9, .ints .u8 Kq 97 .exact), (10, .ints .u8 Oq 5 .more), (11, .ints .u8 Hq 23 .exact)])⟩)
    (hK : ∀ ta tb (k0 : Int) (t0 : Nat) (Oq : List Int) (_ : k0 = ((32 : Nat) : Int)) (_ : t0 = o.length + 32) (_ : Oq = bI (oT o s 32)), K .normal (ofL [(62, ta), (63, tb), (4, .ptr 8 0), (10, .sl 10 0 t0 t0 false 1), (12, .ptr 11 0), (13, .int .i64 k0)]) ⟨12, ofM (mem15 LS LK LB LM [(9, .ints .u8 Kq 97 .exact), (10, .ints .u8 Oq 5 .more), (11, .ints .u8 Hq 23 .exact)])⟩) :
    avc A Γ 4 nt 8 (.block 6 HL6) K env0 σ0 := by
  unfold HL6 HB6
  refine avc_block (avc_loop
    (fun env σ => ∃ k : Nat, k ≤ 32 ∧ ∃ (k0 : Int) (t0 : Nat) (Oq : List Int), k0 = ((k : Nat) : Int) ∧ t0 = o.length + k ∧ Oq = bI (oT o s k) ∧ env = ofL [(4, .ptr 8 0), (10, .sl 10 0 t0 t0 false 1), (12, .ptr 11 0), (13, .int .i64 k0)] ∧ σ = ⟨12, ofM (mem15 LS LK LB LM [(9, .ints .u8 Kq 97 .exact), (10, .ints .u8 Oq 5 .more), (11, .ints .u8 Hq 23 .exact)])⟩)
    (fun env _ => match env.get 13 with | some (.int _ k) => 32 - k.toNat | _ => 0)
    (hw _ _ _ rfl rfl rfl) ⟨0, by omega, _, _, _, rfl, rfl, rfl, rfl, rfl⟩ ?_)
  rintro env σ ⟨k, hk, k0, t0, Oq, hk0, ht0, hOq, rfl, rfl⟩
  refine avc_seq_seq (avc_seq_reg (by cbv) rfl (avc_seq_cond (t := A.lt k0 32) (by cbv) (fun ht => ?_) (fun ht => ?_)))
  · have hlt : k < 32 := by subst hA; simp only [std, decide_eq_true_eq] at ht; omega
    have hHl : Hq.length = 32 := by rw [hHq, bI_length, hs]
    have hOl : Oq.length = t0 := by rw [hOq, bI_length, oT, List.length_append, List.length_take, ht0]; omega
    have q0 : k0.toNat = k := by omega
    refine avc_seq_skip (avc_seq_block (avc_reg (by cbv) ?_ ?_))
    · have q1 : Nat.blt k 32 = true := by rw [Nat.blt_eq]; omega
      have q2 : (0 : Int) ≤ k0 := by omega
      have q4 : Nat.ble t0 t0 = true := by rw [Nat.ble_eq]; omega
      have q5 : Nat.ble (t0 + 1) 1000000000000 = true := by rw [Nat.ble_eq]; omega
      subst hA
      simp [std, hOl, hHl, q0, q1, q2, q4, q5]
    show avc A Γ 4 nt 8 _ _ _ _
    refine avc_reg (by cbv) rfl ?_
    obtain ⟨k1, hk1⟩ : ∃ k1 : Int, k1 = ((k + 1 : Nat) : Int) := ⟨_, rfl⟩
    obtain ⟨t1, ht1⟩ : ∃ t1 : Nat, t1 = o.length + (k + 1) := ⟨_, rfl⟩
    obtain ⟨L1, hL1⟩ : ∃ L1, L1 = bI (oT o s (k + 1)) := ⟨_, rfl⟩
    refine ⟨_, _, Wk.lay (ren 10 13) (l := [(4, .ptr 8 0), (10, .sl 10 0 t1 t1 false 1), (12, .ptr 11 0), (13, .int .i64 k1)]) (L := mem15 LS LK LB LM [(9, .ints .u8 Kq 97 .exact), (10, .ints .u8 L1 5 .more), (11, .ints .u8 Hq 23 .exact)]) (n := 12) rfl rfl rfl (by cbv) (by cbv) ?_ ?_ (by cbv) (by cbv) (by cbv) ?_, ⟨k + 1, by omega, k1, t1, L1, hk1, ht1, hL1, rfl, rfl⟩, ?_⟩
    · refine had_cons (by cbv) rfl (had_cons (by cbv) rfl (had_cons (by cbv) rfl (had_cons (by cbv) rfl (had_cons (by cbv) rfl (had_cons (by cbv) rfl (had_cons (by cbv) rfl (had_cons (by cbv) rfl (had_cons (by cbv) rfl (had_cons (by cbv) rfl (had_cons ?_ rfl (had_cons (by cbv) rfl (had_nil))))))))))))
      conv => lhs; cbv
      subst hA
      have e3 : List.take t0 (List.drop 0 Oq) ++ List.take 1 (List.drop 0 [Hq.getD k 0]) = L1 := by
        rw [hL1, oT_succ _ _ _ (by omega), bI, List.map_append, ← bI, ← hOq, hHq, bI_getD]
        simp [← hOl]
      simp only [std, q0, Nat.zero_add, Nat.mul_one]
      rw [e3]; rfl
    · exact low_lay8 (by cbv) (by cbv) (by cbv) (by cbv) (by cbv) (by cbv) (by cbv) (by cbv)
    · refine has_cons (by cbv) rfl (has_cons ?_ rfl (has_cons (by cbv) rfl (has_cons ?_ rfl (has_nil))))
      · conv => lhs; cbv
        subst hA
        have : t0 + 1 = t1 := by omega
        simp only [std, this]; rfl
      · conv => lhs; cbv
        subst hA
        simp only [std, wr]
        congr 2; omega
    · have g1 : (ofL [(4, .ptr 8 0), (10, .sl 10 0 t1 t1 false 1), (12, .ptr 11 0), (13, .int .i64 k1)]).get 13 = some (.int .i64 k1) := by cbv
      have g0 : (ofL [(4, .ptr 8 0), (10, .sl 10 0 t0 t0 false 1), (12, .ptr 11 0), (13, .int .i64 k0)]).get 13 = some (.int .i64 k0) := by cbv
      rw [g1, g0]
      show 32 - k1.toNat < 32 - k0.toNat
      omega
  · refine avc_seq_exit ?_
    have e : k = 32 := by subst hA; simp only [std, decide_eq_false_iff_not] at ht; omega
    subst e
    have hh := hK (.int .i64 k0) (.bool (A.lt k0 32)) k0 t0 Oq hk0 ht0 hOq
    show K .normal _ _
    refine Eq.mp (congr (congrArg (K .normal) ?_) ?_) hh
    · cbv
    · cbv
end
end Go.Proofs.YtjkicmlelilcaaaDoor
namespace Go.Proofs.YtjkicmlelilcaaaDoor
open Go
def xT (w : List UInt8) (c : UInt8) (k : Nat) : List UInt8 := (List.range k).map fun i => at8 w i ^^^ c
theorem xT_succ (w : List UInt8) (c : UInt8) (k : Nat) : xT w c (k + 1) = xT w c k ++ [at8 w k ^^^ c] := by
  unfold xT; rw [List.range_succ, List.map_append]; rfl
theorem xT_length (w : List UInt8) (c : UInt8) (k : Nat) : (xT w c k).length = k := by simp [xT]
theorem std_xor8 (x y : UInt8) : wr .u8 (stdBits .xor .u8 (N8 x) (N8 y)) = N8 (x ^^^ y) := by
  rw [← wr_eq]; exact u8_bits_xor x y
def ren2 (a b c d : Nat) (x : Nat) : Nat := bif Nat.beq x a then b else bif Nat.beq x c then d else x
section
variable {A : Ar} {Γ : Gam} {nt : Nat} {K : AK} {env0 : T AV} {σ0 : AH} {LS LK LB LM : List Int}
set_option maxHeartbeats 2000000 in
theorem hp4 (hA : A = std) (nb : Nat) (Kq : List Int) (w : List UInt8) (hw64 : w.length = 64) (hKq : Kq = bI w)
    (hw : ∀ (k0 : Int) (t0 : Nat) (Iq : List Int) (Oq : List Int) (_ : k0 = ((0 : Nat) : Int)) (_ : t0 = 0) (_ : Iq = bI (xT w 54 0)) (_ : Oq = bI (xT w 92 0)), Wk 4 nt 8 env0 σ0 (ofL [(1, .sl 7 0 nb nb false 1), (4, .ptr 8 0), (5, .ptr 9 0), (9, .sl 10 0 t0 t0 false 1), (10, .sl 11 0 t0 t0 false 1), (11, .int .i64 k0)]) ⟨12, ofM (mem15 LS LK LB LM [(9, .ints .u8 Kq 97 .exact), (10, .ints .u8 Iq 5 .more), (11, .ints .u8 Oq 5 .more)])⟩)
    (hK : ∀ ta tb (k0 : Int) (t0 : Nat) (Iq : List Int) (Oq : List Int) (_ : k0 = ((64 : Nat) : Int)) (_ : t0 = 64) (_ : Iq = bI (xT w 54 64)) (_ : Oq = bI (xT w 92 64)), K .normal (ofL [(40, ta), (41, tb), (1, .sl 7 0 nb nb false 1), (4, .ptr 8 0), (5, .ptr 9 0), (9, .sl 10 0 t0 t0 false 1), (10, .sl 11 0 t0 t0 false 1), (11, .int .i64 k0)]) ⟨12, ofM (mem15 LS LK LB LM [(9, .ints .u8 Kq 97 .exact), (10, .ints .u8 Iq 5 .more), (11, .ints .u8 Oq 5 .more)])⟩) :
    avc A Γ 4 nt 8 (.block 4 HL4) K env0 σ0 := by
  unfold HL4 HB4
  refine avc_block (avc_loop
    (fun env σ => ∃ k : Nat, k ≤ 64 ∧ ∃ (k0 : Int) (t0 : Nat) (Iq : List Int) (Oq : List Int), k0 = ((k : Nat) : Int) ∧ t0 = k ∧ Iq = bI (xT w 54 k) ∧ Oq = bI (xT w 92 k) ∧ env = ofL [(1, .sl 7 0 nb nb false 1), (4, .ptr 8 0), (5, .ptr 9 0), (9, .sl 10 0 t0 t0 false 1), (10, .sl 11 0 t0 t0 false 1), (11, .int .i64 k0)] ∧ σ = ⟨12, ofM (mem15 LS LK LB LM [(9, .ints .u8 Kq 97 .exact), (10, .ints .u8 Iq 5 .more), (11, .ints .u8 Oq 5 .more)])⟩)
    (fun env _ => match env.get 11 with | some (.int _ k) => 64 - k.toNat | _ => 0)
    (hw _ _ _ _ rfl rfl rfl rfl) ⟨0, by omega, _, _, _, _, rfl, rfl, rfl, rfl, rfl, rfl⟩ ?_)
  rintro env σ ⟨k, hk, k0, t0, Iq, Oq, hk0, ht0, hIq, hOq, rfl, rfl⟩
  refine avc_seq_seq (avc_seq_reg (by cbv) rfl (avc_seq_cond (t := A.lt k0 64) (by cbv) (fun ht => ?_) (fun ht => ?_)))
  · have hlt : k < 64 := by subst hA; simp only [std, decide_eq_true_eq] at ht; omega
    have hKl : Kq.length = 64 := by rw [hKq, bI_length, hw64]
    have hIl : Iq.length = t0 := by rw [hIq, bI_length, xT_length, ht0]
    have hOl : Oq.length = t0 := by rw [hOq, bI_length, xT_length, ht0]
    have q0 : k0.toNat = k := by omega
    have q1 : Nat.blt k 64 = true := by rw [Nat.blt_eq]; omega
    have q2 : (0 : Int) ≤ k0 := by omega
    have q4 : Nat.ble t0 t0 = true := by rw [Nat.ble_eq]; omega
    have q5 : Nat.ble (t0 + 1) 1000000000000 = true := by rw [Nat.ble_eq]; omega
    refine avc_seq_skip (avc_seq_block (avc_seq_reg (by cbv) ?_ (avc_reg (by cbv) ?_ ?_)))
    · subst hA
      simp [std, hKl, hIl, q0, q1, q2, q4, q5]
    · subst hA
      simp [std, hKl, hOl, q0, q1, q2, q4, q5]
    show avc A Γ 4 nt 8 _ _ _ _
    refine avc_reg (by cbv) rfl ?_
    obtain ⟨k1, hk1⟩ : ∃ k1 : Int, k1 = ((k + 1 : Nat) : Int) := ⟨_, rfl⟩
    obtain ⟨t1, ht1⟩ : ∃ t1 : Nat, t1 = k + 1 := ⟨_, rfl⟩
    obtain ⟨L1, hL1⟩ : ∃ L1, L1 = bI (xT w 54 (k + 1)) := ⟨_, rfl⟩
    obtain ⟨L2, hL2⟩ : ∃ L2, L2 = bI (xT w 92 (k + 1)) := ⟨_, rfl⟩
    refine ⟨_, _, Wk.lay (ren2 10 13 11 15) (l := [(1, .sl 7 0 nb nb false 1), (4, .ptr 8 0), (5, .ptr 9 0), (9, .sl 10 0 t1 t1 false 1), (10, .sl 11 0 t1 t1 false 1), (11, .int .i64 k1)]) (L := mem15 LS LK LB LM [(9, .ints .u8 Kq 97 .exact), (10, .ints .u8 L1 5 .more), (11, .ints .u8 L2 5 .more)]) (n := 12) rfl rfl rfl (by cbv) (by cbv) ?_ ?_ (by cbv) (by cbv) (by cbv) ?_, ⟨k + 1, by omega, k1, t1, L1, L2, hk1, ht1, hL1, hL2, rfl, rfl⟩, ?_⟩
    · refine had_cons (by cbv) rfl (had_cons (by cbv) rfl (had_cons (by cbv) rfl (had_cons (by cbv) rfl (had_cons (by cbv) rfl (had_cons (by cbv) rfl (had_cons (by cbv) rfl (had_cons (by cbv) rfl (had_cons (by cbv) rfl (had_cons (by cbv) rfl (had_cons ?_ rfl (had_cons ?_ rfl (had_nil))))))))))))
      · skip
        conv => lhs; cbv
        subst hA
        have e3 : List.take t0 (List.drop 0 Iq) ++ List.take 1 (List.drop 0 [N8 (at8 w k ^^^ 54)]) = L1 := by
          rw [hL1, xT_succ, bI, List.map_append, ← bI, ← hIq]
          simp [← hIl]
        have e4 : wr .u8 (stdBits .xor .u8 (Kq.getD k 0) 54) = N8 (at8 w k ^^^ 54) := by
          rw [hKq, bI_getD]; exact std_xor8 (at8 w k) 54
        simp only [std, q0, Nat.zero_add, Nat.mul_one, e4]
        rw [e3]; rfl
      · skip
        conv => lhs; cbv
        subst hA
        have e3 : List.take t0 (List.drop 0 Oq) ++ List.take 1 (List.drop 0 [N8 (at8 w k ^^^ 92)]) = L2 := by
          rw [hL2, xT_succ, bI, List.map_append, ← bI, ← hOq]
          simp [← hOl]
        have e4 : wr .u8 (stdBits .xor .u8 (Kq.getD k 0) 92) = N8 (at8 w k ^^^ 92) := by
          rw [hKq, bI_getD]; exact std_xor8 (at8 w k) 92
        simp only [std, q0, Nat.zero_add, Nat.mul_one, e4]
        rw [e3]; rfl
    · exact low_lay8 (by cbv) (by cbv) (by cbv) (by cbv) (by cbv) (by cbv) (by cbv) (by cbv)
    · refine has_cons (by cbv) rfl (has_cons (by cbv) rfl (has_cons (by cbv) rfl (has_cons ?_ rfl (has_cons ?_ rfl (has_cons ?_ rfl (has_nil))))))
      · conv => lhs; cbv
        subst hA
        have : t0 + 1 = t1 := by omega
        simp only [std, this]; rfl
      · conv => lhs; cbv
        subst hA
        have : t0 + 1 = t1 := by omega
        simp only [std, this]; rfl
      · conv => lhs; cbv
        subst hA
        simp only [std, wr]
        congr 2; omega
    · have g1 : (ofL [(1, .sl 7 0 nb nb false 1), (4, .ptr 8 0), (5, .ptr 9 0), (9, .sl 10 0 t1 t1 false 1), (10, .sl 11 0 t1 t1 false 1), (11, .int .i64 k1)]).get 11 = some (.int .i64 k1) := by cbv
      have g0 : (ofL [(1, .sl 7 0 nb nb false 1), (4, .ptr 8 0), (5, .ptr 9 0), (9, .sl 10 0 t0 t0 false 1), (10, .sl 11 0 t0 t0 false 1), (11, .int .i64 k0)]).get 11 = some (.int .i64 k0) := by cbv
      rw [g1, g0]
      show 64 - k1.toNat < 64 - k0.toNat
      omega
  · refine avc_seq_exit ?_
    have e : k = 64 := by subst hA; simp only [std, decide_eq_false_iff_not] at ht; omega
    subst e
    have hh := hK (.int .i64 k0) (.bool (A.lt k0 64)) k0 t0 Iq Oq hk0 ht0 hIq hOq
    show K .normal _ _
    refine Eq.mp (congr (congrArg (K .normal) ?_) ?_) hh
    · cbv
    · cbv
end
end Go.Proofs.YtjkicmlelilcaaaDoor
namespace Go.Proofs.YtjkicmlelilcaaaDoor
open Go
section
variable {A : Ar} {Γ : Gam} {nt : Nat} {K : AK} {env0 : T AV} {σ0 : AH} {LS LK LB LM : List Int}
set_option maxHeartbeats 2000000 in
theorem hp2 (hA : A = std) (nb nk : Nat) (key : List UInt8) (hk64 : key.length ≤ 64) (hnk : nk = key.length) (hLB : LB = bI key)
    (hw : ∀ (k0 : Int) (Kq : List Int) (_ : k0 = ((0 : Nat) : Int)) (_ : Kq = bI (kT key 0)), Wk 4 nt 8 env0 σ0 (ofL [(0, .sl 6 0 nk nk false 1), (1, .sl 7 0 nb nb false 1), (4, .ptr 8 0), (5, .ptr 9 0), (8, .int .i64 k0)]) ⟨10, ofM (mem15 LS LK LB LM [(9, .ints .u8 Kq 97 .exact)])⟩)
    (hK : ∀ ta tb tc td (k0 : Int) (Kq : List Int) (_ : Kq = bI (kT key key.length)), K .normal (ofL [(28, ta), (29, tb), (30, tc), (31, td), (0, .sl 6 0 nk nk false 1), (1, .sl 7 0 nb nb false 1), (4, .ptr 8 0), (5, .ptr 9 0), (8, .int .i64 k0)]) ⟨10, ofM (mem15 LS LK LB LM [(9, .ints .u8 Kq 97 .exact)])⟩) :
    avc A Γ 4 nt 8 (.block 2 HL2) K env0 σ0 := by
  unfold HL2 HB2
  refine avc_block (avc_loop
    (fun env σ => ∃ k : Nat, k ≤ nk ∧ ∃ k0 Kq, k0 = ((k : Nat) : Int) ∧ Kq = bI (kT key k) ∧ env = ofL [(0, .sl 6 0 nk nk false 1), (1, .sl 7 0 nb nb false 1), (4, .ptr 8 0), (5, .ptr 9 0), (8, .int .i64 k0)] ∧ σ = ⟨10, ofM (mem15 LS LK LB LM [(9, .ints .u8 Kq 97 .exact)])⟩)
    (fun env _ => match env.get 8 with | some (.int _ k) => nk - k.toNat | _ => 0)
    (hw _ _ rfl rfl) ⟨0, by omega, _, _, rfl, rfl, rfl, rfl⟩ ?_)
  rintro env σ ⟨k, hk, k0, Kq, hk0, hKq, rfl, rfl⟩
  refine avc_seq_seq (avc_seq_reg (by cbv) rfl (avc_seq_cond (t := A.lt k0 (nk : Int)) (by cbv) (fun ht => ?_) (fun ht => ?_)))
  · have hlt : k < nk := by subst hA; simp only [std, decide_eq_true_eq] at ht; omega
    have hKl : Kq.length = 64 := by rw [hKq, bI_length, kT_length]
    have hBl : LB.length = nk := by rw [hLB, bI_length, hnk]
    have q0 : k0.toNat = k := by omega
    refine avc_seq_skip (avc_seq_block (avc_reg (by cbv) ?_ ?_))
    · have q1 : Nat.blt k nk = true := by rw [Nat.blt_eq]; omega
      have q3 : Nat.blt k 64 = true := by rw [Nat.blt_eq]; omega
      have q2 : (0 : Int) ≤ k0 := by omega
      subst hA
      simp [std, hKl, hBl, q0, q1, q2, q3]
    show avc A Γ 4 nt 8 _ _ _ _
    refine avc_reg (by cbv) rfl ?_
    obtain ⟨k1, hk1⟩ : ∃ k1 : Int, k1 = ((k + 1 : Nat) : Int) := ⟨_, rfl⟩
    obtain ⟨L1, hL1⟩ : ∃ L1, L1 = bI (kT key (k + 1)) := ⟨_, rfl⟩
    refine ⟨_, _, Wk.lay (ren 0 0) (l := [(0, .sl 6 0 nk nk false 1), (1, .sl 7 0 nb nb false 1), (4, .ptr 8 0), (5, .ptr 9 0), (8, .int .i64 k1)]) (L := mem15 LS LK LB LM [(9, .ints .u8 L1 97 .exact)]) (n := 10) rfl rfl rfl (by cbv) (by cbv) ?_ ?_ (by cbv) (by cbv) (by cbv) ?_, ⟨k + 1, by omega, k1, L1, hk1, hL1, rfl, rfl⟩, ?_⟩
    · refine had_cons (by cbv) rfl (had_cons (by cbv) rfl (had_cons (by cbv) rfl (had_cons (by cbv) rfl (had_cons (by cbv) rfl (had_cons (by cbv) rfl (had_cons (by cbv) rfl (had_cons (by cbv) rfl (had_cons (by cbv) rfl (had_cons ?_ rfl (had_nil))))))))))
      conv => lhs; cbv
      subst hA
      have e3 : Kq.set k (LB.getD k 0) = L1 := by rw [hL1, hKq, hLB, bI_getD, bI_set, kT]
      simp only [std, q0, Nat.zero_add, Nat.mul_one]
      rw [e3]; rfl
    · exact low_lay8 (by cbv) (by cbv) (by cbv) (by cbv) (by cbv) (by cbv) (by cbv) (by cbv)
    · refine has_cons (by cbv) rfl (has_cons (by cbv) rfl (has_cons (by cbv) rfl (has_cons (by cbv) rfl (has_cons ?_ rfl (has_nil)))))
      conv => lhs; cbv
      subst hA
      simp only [std, wr]
      congr 2; omega
    · have g1 : (ofL [(0, .sl 6 0 nk nk false 1), (1, .sl 7 0 nb nb false 1), (4, .ptr 8 0), (5, .ptr 9 0), (8, .int .i64 k1)]).get 8 = some (.int .i64 k1) := by cbv
      have g0 : (ofL [(0, .sl 6 0 nk nk false 1), (1, .sl 7 0 nb nb false 1), (4, .ptr 8 0), (5, .ptr 9 0), (8, .int .i64 k0)]).get 8 = some (.int .i64 k0) := by cbv
      rw [g1, g0]
      show nk - k1.toNat < nk - k0.toNat
      omega
  · refine avc_seq_exit ?_
    have e : k = key.length := by subst hA; simp only [std, decide_eq_false_iff_not] at ht; omega
    subst e
    have hh := hK (.int .i64 k0) (.sl 6 0 nk nk false 1) (.int .i64 nk) (.bool (A.lt k0 (nk : Int))) k0 Kq hKq
    show K .normal _ _
    refine Eq.mp (congr (congrArg (K .normal) ?_) ?_) hh
    · cbv
    · cbv
theorem kT_at (l : List UInt8) (k i : Nat) (hk : k ≤ 64) : at8 (kT l k) i = if i < k then at8 l i else 0 := by
  induction k with
  | zero =>
    rw [if_neg (by omega), kT, at8, List.getD_eq_getElem?_getD, List.getElem?_replicate]
    split <;> rfl
  | succ k ih =>
    have ih := ih (by omega)
    rw [kT]
    by_cases hik : i = k
    · subst hik
      rw [if_pos (by omega), at8, List.getD_eq_getElem?_getD, List.getElem?_set_self (by rw [kT_length]; omega)]; rfl
    · have : at8 ((kT l k).set k (at8 l k)) i = at8 (kT l k) i := by
        unfold at8
        rw [List.getD_eq_getElem?_getD, List.getElem?_set_ne (by omega), List.getD_eq_getElem?_getD]
      rw [this, ih]
      by_cases h : i < k
      · rw [if_pos h, if_pos (by omega)]
      · rw [if_neg h, if_neg (by omega)]
end
end Go.Proofs.YtjkicmlelilcaaaDoor
namespace Go.Proofs.YtjkicmlelilcaaaDoor
open Go
theorem extB8 (a b : List UInt8) (h : a.length = b.length) (h2 : ∀ i, i < a.length → at8 a i = at8 b i) : a = b := by
  apply List.ext_getElem h
  intro i h3 h4
  have := h2 i h3
  unfold at8 at this
  rwa [List.getD_eq_getElem?_getD, List.getD_eq_getElem?_getD, List.getElem?_eq_getElem h3, List.getElem?_eq_getElem h4] at this
theorem keyW_at (l : List UInt8) (i : Nat) : at8 (keyW l) i = if i < l.length then at8 l i else 0 := by
  unfold keyW at8
  rw [List.getD_eq_getElem?_getD, List.getElem?_append]
  by_cases h : i < l.length
  · rw [if_pos h, if_pos h, List.getD_eq_getElem?_getD]
  · rw [if_neg h, if_neg h, List.getElem?_replicate]
    split <;> rfl
theorem kT_keyW (l : List UInt8) (h : l.length ≤ 64) : kT l l.length = keyW l := by
  refine extB8 _ _ (by rw [kT_length, keyW_length l h]) fun i _ => ?_
  rw [kT_at l _ i h, keyW_at]
theorem xT_at (w : List UInt8) (c : UInt8) (k i : Nat) (h : i < k) : at8 (xT w c k) i = at8 w i ^^^ c := by
  conv => lhs; unfold at8
  unfold xT
  rw [List.getD_eq_getElem?_getD, List.getElem?_map, List.getElem?_range h]; rfl
theorem xT_chg (key : List UInt8) (c : UInt8) (h : key.length ≤ 64) : xT (keyW key) c 64 = chg key c := by
  refine extB8 _ _ (by rw [xT_length, chg_length key c h]) fun i hi => ?_
  rw [xT_length] at hi
  rw [xT_at _ _ _ _ hi, chg, chgTo_at key c h 64 i hi, if_pos hi]
theorem toBs_bI (l : List UInt8) : toBs (bI l) = l := by
  unfold toBs bI
  rw [List.map_map]
  conv => rhs; rw [← List.map_id l]
  refine List.map_congr_left fun n _ => ?_
  simp [N8]
theorem byI_bI (l : List UInt8) : byI (bI l) = true := by
  unfold byI bI
  rw [List.all_eq_true]
  intro n hn
  obtain ⟨x, _, rfl⟩ := List.mem_map.1 hn
  have := N8_bd x
  simp; omega
end Go.Proofs.YtjkicmlelilcaaaDoor
namespace Go.Proofs.YtjkicmlelilcaaaDoor
open Go
def T15 : ACode := (.seq (.reg [⟨(.aop (.mov (.slot 9))), (some 58), none⟩, ⟨(.aop (.mov (.slot 1))), (some 59), none⟩, ⟨(.aop (.ext (.append 5 false 1) [(.slot 58), (.slot 59)])), (some 60), none⟩, ⟨(.call (.lit (.fn (.func 13) [] [])) [(.slot 60)]), (some 61), none⟩, ⟨(.aop (.alloc 23 [(.int .u8 (0)), (.int .u8 (0)), (.int .u8 (0)), (.int .u8 (0)), (.int .u8 (0)), (.int .u8 (0)), (.int .u8 (0)), (.int .u8 (0)), (.int .u8 (0)), (.int .u8 (0)), (.int .u8 (0)), (.int .u8 (0)), (.int .u8 (0)), (.int .u8 (0)), (.int .u8 (0)), (.int .u8 (0)), (.int .u8 (0)), (.int .u8 (0)), (.int .u8 (0)), (.int .u8 (0)), (.int .u8 (0)), (.int .u8 (0)), (.int .u8 (0)), (.int .u8 (0)), (.int .u8 (0)), (.int .u8 (0)), (.int .u8 (0)), (.int .u8 (0)), (.int .u8 (0)), (.int .u8 (0)), (.int .u8 (0)), (.int .u8 (0))])), (some 12), none⟩, ⟨(.aop (.store 32 (.slot 12) (.slot 61))), none, none⟩]) (.seq (.seq (.reg [⟨(.aop (.mov (.lit (.int .i64 (0))))), (some 13), none⟩]) (.block 6 HL6)) (.seq (.reg [⟨(.aop (.mov (.slot 10))), (some 72), none⟩, ⟨(.call (.lit (.fn (.func 13) [] [])) [(.slot 72)]), (some 73), none⟩, ⟨(.aop (.store 32 (.slot 4) (.slot 73))), none, none⟩]) .ret)))
section
variable {A : Ar} {Sh : List Int → List Int} {By tS tK : List Int → Bool} {nt : Nat} {LS LK LB LM : List Int}
set_option maxHeartbeats 2000000 in
theorem tail15 (hA : A = std) (hSh : Sh = shaI) (hBy : By = byI) (htS : tS = isS) (htK : tK = isK) (hLS : LS = wI S0) (hLK : LK = wI KK) (bs : List UInt8) (hb : bs.length ≤ 10000000000) (nb : Nat) (hnb : nb = bs.length) (hLM : LM = bI bs)
    (w : List UInt8) (Kq Iq Oq : List Int) (hIq : Iq = bI (xT w 54 64)) (hOq : Oq = bI (xT w 92 64)) (ta tb : AV) (k0 : Int) :
    avc A (Γ2 A Sh By tS tK) 4 nt 8 T15 (fun e env σ' => (match e with | .normal => True | .ret => True | _ => False) ∧ (resL A env σ' [.cellN 4 32]).1 = true ∧ retV (resL A env σ' [.cellN 4 32]).2 = .ints .u8 (bI (shaB (xT w 92 64 ++ shaB (xT w 54 64 ++ bs)))))
      (ofL [(40, ta), (41, tb), (1, .sl 7 0 nb nb false 1), (4, .ptr 8 0), (5, .ptr 9 0), (9, .sl 10 0 64 64 false 1), (10, .sl 11 0 64 64 false 1), (11, .int .i64 k0)]) ⟨12, ofM (mem15 LS LK LB LM [(9, .ints .u8 Kq 97 .exact), (10, .ints .u8 Iq 5 .more), (11, .ints .u8 Oq 5 .more)])⟩ := by
  unfold T15
  have hIl : Iq.length = 64 := by rw [hIq, bI_length, xT_length]
  have hOl : Oq.length = 64 := by rw [hOq, bI_length, xT_length]
  have hMl : LM.length = nb := by rw [hLM, bI_length, hnb]
  obtain ⟨LX, hLX⟩ : ∃ LX, LX = bI (xT w 54 64 ++ bs) := ⟨_, rfl⟩
  have eX : A.app (A.part Iq 0 (A.mulN 64 1)) (A.part LM 0 (A.mulN nb 1)) = LX := by
    subst hA
    rw [hLX, bI, List.map_append, ← bI, ← bI, ← hIq, ← hLM]
    simp [std, ← hMl, ← hIl]
  have eY : A.part LX 0 (A.mulN (A.addN 64 nb) 1) = LX := by
    subst hA
    have : LX.length = 64 + nb := by rw [hLX, bI_length, List.length_append, xT_length, hnb]
    simp [std, ← this]
  have hXl : LX.length = 64 + nb := by rw [hLX, bI_length, List.length_append, xT_length, hnb]
  have hSl : (Sh LX).length = 32 := by rw [hSh, shaI, bI_length, shaB_length]
  have hBX : By LX = true := by rw [hBy, hLX]; exact byI_bI _
  have hS1 : tS LS = true := by rw [htS, hLS]; simp [isS]
  have hK1 : tK LK = true := by rw [htK, hLK]; simp [isK]
  conv at eX => lhs; cbv
  conv at eY => lhs; cbv
  have eSX : Sh LX = bI (shaB (xT w 54 64 ++ bs)) := by rw [hSh, hLX, shaI, toBs_bI]
  have q1 : Nat.ble nb nb = true := by rw [Nat.ble_eq]; omega
  have q2 : Nat.ble (64 + nb) 1000000000000 = true := by rw [Nat.ble_eq]; omega
  have q3 : Nat.ble (64 + nb) 100000000000 = true := by rw [Nat.ble_eq]; omega
  have q4 : Nat.ble (64 + nb) (64 + nb) = true := by rw [Nat.ble_eq]; omega
  refine avc_seq_reg (by cbv) ?_ ?_
  · simp only [eX, eY, hBX, hS1, hK1]
    subst hA
    simp [std, hIl, hMl, hXl, hSl, q1, q2, q3, q4] <;> rfl
  simp only [eX, eY]
  refine avc_seq_seq (avc_seq_reg (by cbv) rfl (avc_seq (hp6 hA Kq (Sh LX) (xT w 92 64) (shaB (xT w 54 64 ++ bs)) (by rw [xT_length]; omega) (shaB_length _) eSX (LS := LS) (LK := LK) (LB := LB) (LM := LM) ?_ ?_)))
  · intro k1 t0 Oq' hk1 ht0 hOq'
    have e1 : Oq' = Oq := by rw [hOq', hOq]; simp [oT]
    have e2 : t0 = 64 := by rw [ht0, xT_length]
    subst hk1 e1 e2
    refine Wk.lay (ren2 10 11 11 13) rfl rfl rfl (by cbv) (by cbv) (had_cons (by cbv) rfl (had_cons (by cbv) rfl (had_cons (by cbv) rfl (had_cons (by cbv) rfl (had_cons (by cbv) rfl (had_cons (by cbv) rfl (had_cons (by cbv) rfl (had_cons (by cbv) rfl (had_cons (by cbv) rfl (had_cons (by cbv) rfl (had_cons (by cbv) rfl (had_cons ?_ rfl (had_nil))))))))))))) (low_lay8 (by cbv) (by cbv) (by cbv) (by cbv) (by cbv) (by cbv) (by cbv) (by cbv)) (by cbv) (by cbv) (by cbv) (has_cons (by cbv) rfl (has_cons (by cbv) rfl (has_cons (by cbv) rfl (has_cons (by cbv) rfl (has_nil)))))
    conv => lhs; cbv
    subst hA
    have e4 : List.take 0 [(0:Int),0,0,0,0,0,0,0,0,0,0,0,0,0,0,0,0,0,0,0,0,0,0,0,0,0,0,0,0,0,0,0] ++ Sh LX ++ List.drop (0 + (Sh LX).length) [0,0,0,0,0,0,0,0,0,0,0,0,0,0,0,0,0,0,0,0,0,0,0,0,0,0,0,0,0,0,0,0] = Sh LX := by
      rw [hSl]; simp
    simp only [std]
    rw [e4]; rfl
  intro ta tb k1 t0 Oq' hk1 ht0 hOq'
  show avc A (Γ2 A Sh By tS tK) 4 nt 8 _ _ _ _
  have e2 : t0 = 96 := by rw [ht0, xT_length]
  subst e2
  have hOl' : Oq'.length = 96 := by rw [hOq', bI_length, oT, List.length_append, xT_length, List.length_take, shaB_length]; rfl
  have eZ : A.part Oq' 0 (A.mulN 96 1) = Oq' := by subst hA; simp [std, ← hOl']
  conv at eZ => lhs; cbv
  have hBO : By Oq' = true := by rw [hBy, hOq']; exact byI_bI _
  have hSO : (Sh Oq').length = 32 := by rw [hSh, shaI, bI_length, shaB_length]
  have eSO : Sh Oq' = bI (shaB (xT w 92 64 ++ shaB (xT w 54 64 ++ bs))) := by
    rw [hSh, hOq', shaI, toBs_bI, oT, List.take_of_length_le (by rw [shaB_length]; omega)]
  refine avc_seq_reg (by cbv) ?_ ⟨trivial, ?_, ?_⟩
  · simp only [eZ, hBO, hS1, hK1]
    subst hA
    simp [std, hOl', hSO] <;> rfl
  · conv => lhs; cbv
    simp only [eZ]
    subst hA
    simp [std, hSO] <;> rfl
  · conv => lhs; cbv
    simp only [eZ]
    subst hA
    rw [← eSO]
    simp [std, hSO]
    exact List.take_of_length_le (by rw [hSO]; omega)
end
end Go.Proofs.YtjkicmlelilcaaaDoor
namespace Go.Proofs.YtjkicmlelilcaaaDoor
open Go
def mem00 (S K Bk Bb : List Int) : List (Nat × AObj) := [(0, .cells [] 62 .ro), (1, .cells [.sl 4 0 8 8 false 1] 62 .ro), (2, .cells [.sl 5 0 64 64 false 1] 62 .ro), (3, .cells [] 62 .ro), (4, .ints .u32 S 62 .ro), (5, .ints .u32 K 62 .ro), (6, .ints .u8 Bk 5 .ro), (7, .ints .u8 Bb 5 .ro)]
set_option maxHeartbeats 4000000 in
theorem rhm_avc (key bs : List UInt8) (hkl : key.length ≤ 10000000000) (hb : bs.length ≤ 10000000000) (nt : Nat) :
    avc std (Γ2 std shaI byI isS isK) 4 nt 8 c15 (fun e env σ' => (match e with | .normal => True | .ret => True | _ => False) ∧ (resL std env σ' [.cellN 4 32]).1 = true ∧ retV (resL std env σ' [.cellN 4 32]).2 = .ints .u8 (bI (hmB key bs)))
      (envOf [.sl 6 0 key.length key.length false 1, .sl 7 0 bs.length bs.length false 1] 0 .leaf) ⟨8, ofM (mem00 (wI S0) (wI KK) (bI key) (bI bs))⟩ := by
  obtain ⟨A, hA⟩ : ∃ A, A = std := ⟨_, rfl⟩
  obtain ⟨Sh, hSh⟩ : ∃ Sh, Sh = shaI := ⟨_, rfl⟩
  obtain ⟨By, hBy⟩ : ∃ By, By = byI := ⟨_, rfl⟩
  obtain ⟨tS, htS⟩ : ∃ tS, tS = isS := ⟨_, rfl⟩
  obtain ⟨tK, htK⟩ : ∃ tK, tK = isK := ⟨_, rfl⟩
  rw [← hA, ← hSh, ← hBy, ← htS, ← htK]
  unfold c15
  obtain ⟨nk, hnk⟩ : ∃ n, n = key.length := ⟨_, rfl⟩
  obtain ⟨nb, hnb⟩ : ∃ n, n = bs.length := ⟨_, rfl⟩
  obtain ⟨LS, hLS⟩ : ∃ LS, LS = wI S0 := ⟨_, rfl⟩
  obtain ⟨LK, hLK⟩ : ∃ LK, LK = wI KK := ⟨_, rfl⟩
  obtain ⟨LB, hLB⟩ : ∃ LB, LB = bI key := ⟨_, rfl⟩
  obtain ⟨LM, hLM⟩ : ∃ LM, LM = bI bs := ⟨_, rfl⟩
  rw [← hnk, ← hnb, ← hLS, ← hLK, ← hLB, ← hLM]
  have hBl : LB.length = nk := by rw [hLB, bI_length, hnk]
  have hS1 : tS LS = true := by rw [htS, hLS]; simp [isS]
  have hK1 : tK LK = true := by rw [htK, hLK]; simp [isK]
  have hBX : By LB = true := by rw [hBy, hLB]; exact byI_bI _
  have hSl : (Sh LB).length = 32 := by rw [hSh, shaI, bI_length, shaB_length]
  have eSX : Sh LB = bI (shaB key) := by rw [hSh, hLB, shaI, toBs_bI]
  have q1 : Nat.ble nk nk = true := by rw [Nat.ble_eq]; omega
  have q3 : Nat.ble nk 100000000000 = true := by rw [Nat.ble_eq]; omega
  have eY : A.part LB 0 (A.mulN nk 1) = LB := by
    subst hA
    simp [std, ← hBl]
  conv at eY => lhs; cbv
  refine avc_seq_reg (by cbv) rfl (avc_seq_reg (by cbv) rfl (avc_seq_seq (avc_seq_reg (by cbv) rfl (avc_seq_cond (t := A.lt 64 (nk : Int)) (by cbv) (fun ht => ?_) (fun ht => ?_)))))
  · have hgt : key.length > 64 := by subst hA; simp only [std, decide_eq_true_eq] at ht; omega
    refine avc_seq_seq (avc_seq_reg (by cbv) ?_ ?_)
    · simp only [eY, hBX, hS1, hK1]
      subst hA
      simp [std, hBl, hSl, q1, q3] <;> rfl
    simp only [eY]
    refine avc_seq_seq (avc_seq_reg (by cbv) rfl (avc_seq (hp0 hA nk nb (Sh LB) (shaB key) (shaB_length _) eSX (LS := LS) (LK := LK) (LB := LB) (LM := LM) ?_ ?_)))
    · intro k0 Kq hk0 hKq
      have e1 : Kq = Z64 := by rw [hKq]; rfl
      subst hk0 e1
      refine Wk.lay (ren 0 0) rfl rfl rfl (by cbv) (by cbv) (had_cons (by cbv) rfl (had_cons (by cbv) rfl (had_cons (by cbv) rfl (had_cons (by cbv) rfl (had_cons (by cbv) rfl (had_cons (by cbv) rfl (had_cons (by cbv) rfl (had_cons (by cbv) rfl (had_cons (by cbv) rfl (had_cons (by cbv) rfl (had_cons ?_ rfl (had_nil)))))))))))) (low_lay8 (by cbv) (by cbv) (by cbv) (by cbv) (by cbv) (by cbv) (by cbv) (by cbv)) (by cbv) (by cbv) (by cbv) (has_cons (by cbv) rfl (has_cons (by cbv) rfl (has_cons (by cbv) rfl (has_cons (by cbv) rfl (has_cons (by cbv) rfl (has_cons (by cbv) rfl (has_nil)))))))
      conv => lhs; cbv
      subst hA
      have e4 : List.take 0 [(0:Int),0,0,0,0,0,0,0,0,0,0,0,0,0,0,0,0,0,0,0,0,0,0,0,0,0,0,0,0,0,0,0] ++ Sh LB ++ List.drop (0 + (Sh LB).length) [0,0,0,0,0,0,0,0,0,0,0,0,0,0,0,0,0,0,0,0,0,0,0,0,0,0,0,0,0,0,0,0] = Sh LB := by
        rw [hSl]; simp
      simp only [std]
      rw [e4]; rfl
    · intro ta tb k0 Kq hk0 hKq
      show avc A (Γ2 A Sh By tS tK) 4 nt 8 _ _ _ _
      have hkw : kT (shaB key) 32 = keyW (shaB key) := by
        have := kT_keyW (shaB key) (by rw [shaB_length]; omega)
        rwa [shaB_length] at this
      rw [hkw] at hKq
      have hres : hmB key bs = shaB (xT (keyW (shaB key)) 92 64 ++ shaB (xT (keyW (shaB key)) 54 64 ++ bs)) := by
        rw [xT_chg _ _ (by rw [shaB_length]; omega), xT_chg _ _ (by rw [shaB_length]; omega), hmB, if_pos hgt, hmS]
      refine avc_seq_reg (by cbv) rfl (avc_seq_seq (avc_seq_reg (by cbv) rfl (avc_seq (hp4 hA nb Kq (keyW (shaB key)) (keyW_length _ (by rw [shaB_length]; omega)) hKq (LS := LS) (LK := LK) (LB := LB) (LM := LM) ?_ ?_))))
      · intro k3 t0 Iq Oq hk3 ht0 hIq hOq
        have e1 : Iq = [] := by rw [hIq]; rfl
        have e2 : Oq = [] := by rw [hOq]; rfl
        subst hk3 ht0 e1 e2
        exact Wk.trans (Wk.lay (ren 0 0) (l := [(1, .sl 7 0 nb nb false 1), (4, .ptr 8 0), (5, .ptr 9 0), (9, .nilsl), (10, .nilsl), (11, .int .i64 ((0 : Nat) : Int))]) (L := mem15 LS LK LB LM [(9, .ints .u8 Kq 97 .exact)]) (n := 10) rfl rfl rfl (by cbv) (by cbv) (had_cons (by cbv) rfl (had_cons (by cbv) rfl (had_cons (by cbv) rfl (had_cons (by cbv) rfl (had_cons (by cbv) rfl (had_cons (by cbv) rfl (had_cons (by cbv) rfl (had_cons (by cbv) rfl (had_cons (by cbv) rfl (had_cons (by cbv) rfl (had_nil))))))))))) (low_lay8 (by cbv) (by cbv) (by cbv) (by cbv) (by cbv) (by cbv) (by cbv) (by cbv)) (by cbv) (by cbv) (by cbv) (has_cons (by cbv) rfl (has_cons (by cbv) rfl (has_cons (by cbv) rfl (has_cons (by cbv) rfl (has_cons (by cbv) rfl (has_cons (by cbv) rfl (has_nil)))))))) (Wk.trans (Wk.nil 9 1 (.ints .u8 [] 5 .more) (by cbv) rfl rfl rfl) (Wk.trans (Wk.nil 10 1 (.ints .u8 [] 5 .more) (by cbv) rfl rfl rfl) (Wk.lay (ren 0 0) rfl rfl rfl (by cbv) (by cbv) (had_cons (by cbv) rfl (had_cons (by cbv) rfl (had_cons (by cbv) rfl (had_cons (by cbv) rfl (had_cons (by cbv) rfl (had_cons (by cbv) rfl (had_cons (by cbv) rfl (had_cons (by cbv) rfl (had_cons (by cbv) rfl (had_cons (by cbv) rfl (had_cons (by cbv) rfl (had_cons (by cbv) rfl (had_nil))))))))))))) (low_lay8 (by cbv) (by cbv) (by cbv) (by cbv) (by cbv) (by cbv) (by cbv) (by cbv)) (by cbv) (by cbv) (by cbv) (has_cons (by cbv) rfl (has_cons (by cbv) rfl (has_cons (by cbv) rfl (has_cons (by cbv) rfl (has_cons (by cbv) rfl (has_cons (by cbv) rfl (has_nil))))))))))
      · intro ta tb k3 t0 Iq Oq hk3 ht0 hIq hOq
        subst ht0
        show avc A (Γ2 A Sh By tS tK) 4 nt 8 _ _ _ _
        rw [hres]
        exact tail15 hA hSh hBy htS htK hLS hLK bs hb nb hnb hLM (keyW (shaB key)) Kq Iq Oq hIq hOq ta tb k3
  · have hle : key.length ≤ 64 := by subst hA; simp only [std, decide_eq_false_iff_not] at ht; omega
    refine avc_seq_seq (avc_seq_reg (by cbv) rfl (avc_seq (hp2 hA nb nk key hle hnk hLB (LS := LS) (LK := LK) (LM := LM) ?_ ?_)))
    · intro k0 Kq hk0 hKq
      have e1 : Kq = Z64 := by rw [hKq]; rfl
      subst hk0 e1
      exact Wk.lay (ren 0 0) rfl rfl rfl (by cbv) (by cbv) (had_cons (by cbv) rfl (had_cons (by cbv) rfl (had_cons (by cbv) rfl (had_cons (by cbv) rfl (had_cons (by cbv) rfl (had_cons (by cbv) rfl (had_cons (by cbv) rfl (had_cons (by cbv) rfl (had_cons (by cbv) rfl (had_cons (by cbv) rfl (had_nil))))))))))) (low_lay8 (by cbv) (by cbv) (by cbv) (by cbv) (by cbv) (by cbv) (by cbv) (by cbv)) (by cbv) (by cbv) (by cbv) (has_cons (by cbv) rfl (has_cons (by cbv) rfl (has_cons (by cbv) rfl (has_cons (by cbv) rfl (has_cons (by cbv) rfl (has_nil))))))
    · intro ta tb tc td k0 Kq hKq
      show avc A (Γ2 A Sh By tS tK) 4 nt 8 _ _ _ _
      rw [kT_keyW key hle] at hKq
      have hres : hmB key bs = shaB (xT (keyW key) 92 64 ++ shaB (xT (keyW key) 54 64 ++ bs)) := by
        rw [xT_chg _ _ hle, xT_chg _ _ hle, hmB, if_neg (by omega), hmS]
      refine avc_seq_reg (by cbv) rfl (avc_seq_seq (avc_seq_reg (by cbv) rfl (avc_seq (hp4 hA nb Kq (keyW key) (keyW_length _ hle) hKq (LS := LS) (LK := LK) (LB := LB) (LM := LM) ?_ ?_))))
      · intro k3 t0 Iq Oq hk3 ht0 hIq hOq
        have e1 : Iq = [] := by rw [hIq]; rfl
        have e2 : Oq = [] := by rw [hOq]; rfl
        subst hk3 ht0 e1 e2
        exact Wk.trans (Wk.lay (ren 0 0) (l := [(1, .sl 7 0 nb nb false 1), (4, .ptr 8 0), (5, .ptr 9 0), (9, .nilsl), (10, .nilsl), (11, .int .i64 ((0 : Nat) : Int))]) (L := mem15 LS LK LB LM [(9, .ints .u8 Kq 97 .exact)]) (n := 10) rfl rfl rfl (by cbv) (by cbv) (had_cons (by cbv) rfl (had_cons (by cbv) rfl (had_cons (by cbv) rfl (had_cons (by cbv) rfl (had_cons (by cbv) rfl (had_cons (by cbv) rfl (had_cons (by cbv) rfl (had_cons (by cbv) rfl (had_cons (by cbv) rfl (had_cons (by cbv) rfl (had_nil))))))))))) (low_lay8 (by cbv) (by cbv) (by cbv) (by cbv) (by cbv) (by cbv) (by cbv) (by cbv)) (by cbv) (by cbv) (by cbv) (has_cons (by cbv) rfl (has_cons (by cbv) rfl (has_cons (by cbv) rfl (has_cons (by cbv) rfl (has_cons (by cbv) rfl (has_cons (by cbv) rfl (has_nil)))))))) (Wk.trans (Wk.nil 9 1 (.ints .u8 [] 5 .more) (by cbv) rfl rfl rfl) (Wk.trans (Wk.nil 10 1 (.ints .u8 [] 5 .more) (by cbv) rfl rfl rfl) (Wk.lay (ren 0 0) rfl rfl rfl (by cbv) (by cbv) (had_cons (by cbv) rfl (had_cons (by cbv) rfl (had_cons (by cbv) rfl (had_cons (by cbv) rfl (had_cons (by cbv) rfl (had_cons (by cbv) rfl (had_cons (by cbv) rfl (had_cons (by cbv) rfl (had_cons (by cbv) rfl (had_cons (by cbv) rfl (had_cons (by cbv) rfl (had_cons (by cbv) rfl (had_nil))))))))))))) (low_lay8 (by cbv) (by cbv) (by cbv) (by cbv) (by cbv) (by cbv) (by cbv) (by cbv)) (by cbv) (by cbv) (by cbv) (has_cons (by cbv) rfl (has_cons (by cbv) rfl (has_cons (by cbv) rfl (has_cons (by cbv) rfl (has_cons (by cbv) rfl (has_cons (by cbv) rfl (has_nil))))))))))
      · intro ta tb k3 t0 Iq Oq hk3 ht0 hIq hOq
        subst ht0
        show avc A (Γ2 A Sh By tS tK) 4 nt 8 _ _ _ _
        rw [hres]
        exact tail15 hA hSh hBy htS htK hLS hLK bs hb nb hnb hLM (keyW key) Kq Iq Oq hIq hOq ta tb k3
end Go.Proofs.YtjkicmlelilcaaaDoor
namespace Go.Proofs.YtjkicmlelilcaaaDoor
open Go
open Go.RowKit
theorem body15 : Tryd.f15.body = some (Tryd.f15.body.getD .skip) := by kernel_rfl
def ren15 (bS oS cS bK oK cK : Nat) (r6 r7 : Option (Nat × (Nat × Nat))) : Ren
  | 0 => some (0, (0, 0))
  | 1 => some (1, (0, 1))
  | 2 => some (2, (0, 1))
  | 3 => some (3, (0, 0))
  | 4 => some (bS, (oS, oS + cS))
  | 5 => some (bK, (oK, oK + cK))
  | 6 => r6
  | 7 => r7
  | _ => none
theorem mem00_get (S K B B7 : List Int) : (ofM (mem00 S K B B7)).get 0 = some (.cells [] 62 .ro) ∧ (ofM (mem00 S K B B7)).get 1 = some (.cells [.sl 4 0 8 8 false 1] 62 .ro) ∧ (ofM (mem00 S K B B7)).get 2 = some (.cells [.sl 5 0 64 64 false 1] 62 .ro) ∧
    (ofM (mem00 S K B B7)).get 3 = some (.cells [] 62 .ro) ∧ (ofM (mem00 S K B B7)).get 4 = some (.ints .u32 S 62 .ro) ∧ (ofM (mem00 S K B B7)).get 5 = some (.ints .u32 K 62 .ro) ∧ (ofM (mem00 S K B B7)).get 6 = some (.ints .u8 B 5 .ro) ∧ (ofM (mem00 S K B B7)).get 7 = some (.ints .u8 B7 5 .ro) :=
  ⟨by cbv, by cbv, by cbv, by cbv, by cbv, by cbv, by cbv, by cbv⟩
theorem mem00_ro (S K B B7 : List Int) (b : Nat) (h : b < 8) : ∃ o, (ofM (mem00 S K B B7)).get b = some o ∧ o.isRo = true := by
  obtain ⟨h0, h1, h2, h3, h4, h5, h6, h7⟩ := mem00_get S K B B7
  match b, h with
  | 0, _ => exact ⟨_, h0, rfl⟩
  | 1, _ => exact ⟨_, h1, rfl⟩
  | 2, _ => exact ⟨_, h2, rfl⟩
  | 3, _ => exact ⟨_, h3, rfl⟩
  | 4, _ => exact ⟨_, h4, rfl⟩
  | 5, _ => exact ⟨_, h5, rfl⟩
  | 6, _ => exact ⟨_, h6, rfl⟩
  | 7, _ => exact ⟨_, h7, rfl⟩
theorem ren15_lt {bS oS cS bK oK cK : Nat} {r6 r7 : Option (Nat × (Nat × Nat))} {b : Nat} {x : Nat × (Nat × Nat)} (h : ren15 bS oS cS bK oK cK r6 r7 b = some x) : b < 8 := by
  unfold ren15 at h
  split at h <;> first | omega | cases h
theorem hr15 {w : World} {bS oS cS bK oK cK : Nat} {r6 r7 : Option (Nat × (Nat × Nat))} {key bs : List UInt8} (h3 : 3 < w.heap.size)
    (k1 : w.cell? ⟨1, 0, none⟩ = some (.slice (some ⟨bS, oS, none⟩) 8 cS)) (k2 : 8 ≤ cS) (k3 : bS < w.heap.size) (k4 : ∀ i, i < 8 → w.cell? ⟨bS, oS + i, none⟩ = some (.int .u32 (N32 (at32 S0 i))))
    (s1 : w.cell? ⟨2, 0, none⟩ = some (.slice (some ⟨bK, oK, none⟩) 64 cK)) (s2 : 64 ≤ cK) (s3 : bK < w.heap.size) (s4 : ∀ i, i < 64 → w.cell? ⟨bK, oK + i, none⟩ = some (.int .u32 (N32 (at32 KK i))))
    (h6 : ∀ c d, r6 = some (c, d) → c < w.heap.size ∧ ∀ ρ, OR ρ d (.ints .u8 (bI key) 5 .ro) w.heap[c]?) (h7 : ∀ c d, r7 = some (c, d) → c < w.heap.size ∧ ∀ ρ, OR ρ d (.ints .u8 (bI bs) 5 .ro) w.heap[c]?) : HR (ren15 bS oS cS bK oK cK r6 r7) ⟨8, ofM (mem00 (wI S0) (wI KK) (bI key) (bI bs))⟩ w := by
  obtain ⟨g0, g1, g2, g3, g4, g5, g6, g7⟩ := mem00_get (wI S0) (wI KK) (bI key) (bI bs)
  refine ⟨by show 8 ≤ _; omega, fun b hb => ?_, fun b c d hb => ?_, fun b b' c d d' h1 h2 hne => ?_⟩
  · have hb : 8 ≤ b := hb
    show (ofM (mem00 (wI S0) (wI KK) (bI key) (bI bs))).get b = none
    cases ho : (ofM (mem00 (wI S0) (wI KK) (bI key) (bI bs))).get b with
    | none => rfl
    | some o =>
      have := ofM_get _ b o (fun p hp => by
        simp only [mem00, List.mem_cons, List.not_mem_nil, or_false] at hp
        rcases hp with rfl | rfl | rfl | rfl | rfl | rfl | rfl | rfl <;> (dsimp only; omega)) ho
      simp only [mem00, List.mem_cons, List.not_mem_nil, or_false, Prod.mk.injEq] at this
      omega
  · have hlt := ren15_lt hb
    refine ⟨hlt, ?_⟩
    match b, hlt with
    | 0, _ => cases hb; exact ⟨by omega, _, g0, or_none⟩
    | 1, _ => cases hb; exact ⟨by omega, _, g1, or_glob k1 k2 rfl⟩
    | 2, _ => cases hb; exact ⟨by omega, _, g2, or_glob s1 s2 rfl⟩
    | 3, _ => cases hb; exact ⟨by omega, _, g3, or_none⟩
    | 4, _ => cases hb; exact ⟨k3, _, g4, or_ro (by rw [wI_length]; show 8 + _ ≤ _; omega) fun i hi => by rw [wI_getD]; exact k4 i (by rw [wI_length] at hi; exact hi)⟩
    | 5, _ => cases hb; exact ⟨s3, _, g5, or_ro (by rw [wI_length]; show 64 + _ ≤ _; omega) fun i hi => by rw [wI_getD]; exact s4 i (by rw [wI_length] at hi; exact hi)⟩
    | 6, _ => obtain ⟨e1, e2⟩ := h6 c d hb; exact ⟨e1, _, g6, e2 _⟩
    | 7, _ => obtain ⟨e1, e2⟩ := h7 c d hb; exact ⟨e1, _, g7, e2 _⟩
  · obtain ⟨o, e1, e2⟩ := mem00_ro (wI S0) (wI KK) (bI key) (bI bs) b (ren15_lt h1)
    obtain ⟨o', e3, e4⟩ := mem00_ro (wI S0) (wI KK) (bI key) (bI bs) b' (ren15_lt h2)
    exact .inr (.inr ⟨o, o', e1, e3, e2, e4⟩)
theorem slot_of {w : World} {v : Value} {bs : List UInt8} (hB : BSl w v bs) (s : Nat) : ∃ r : Option (Nat × (Nat × Nat)), (∀ c d, r = some (c, d) → c < w.heap.size ∧ ∀ ρ, OR ρ d (.ints .u8 (bI bs) 5 .ro) w.heap[c]?) ∧ ∀ ρ : Ren, ρ s = r → VR ρ (.sl s 0 bs.length bs.length false 1) v := by
  rcases hB with ⟨rfl, rfl⟩ | ⟨b, off, c, rfl, hc, hb, hcell⟩ | ⟨a, rfl, rfl⟩
  · exact ⟨none, (fun c d h => by cases h), fun ρ _ => by unfold VR; exact .inr ⟨rfl, rfl, rfl, _, rfl⟩⟩
  · refine ⟨some (b, (off, off + c)), fun c' d h => ?_, fun ρ hρ => ?_⟩
    · cases h
      exact ⟨hb, fun ρ => or_ro (by rw [bI_length]; omega) fun i hi => by rw [bI_getD]; exact hcell i (by rw [bI_length] at hi; exact hi)⟩
    · unfold VR
      exact .inl ⟨b, (off, off + c), off, c, hρ, rfl, fun _ => (Nat.zero_add _).symm, Nat.le_refl _, hc, fun h => (by cases h), by show off + c * 1 ≤ off + c; omega⟩
  · exact ⟨none, (fun c d h => by cases h), fun ρ _ => by unfold VR; exact .inr ⟨rfl, rfl, rfl, _, rfl⟩⟩
theorem rhm_any (kv v : Value) (key bs : List UInt8) (w : World) (hB1 : BSl w kv key) (hB2 : BSl w v bs) (hl1 : key.length ≤ 10000000000) (hl2 : bs.length ≤ 10000000000) (hS : TabC w 1 S0) (hK : TabC w 2 KK) (h3 : 3 < w.heap.size) :
    Calls Tryd.prog 15 #[kv, v] w fun e w' => e = .returned (.agg (c8 (hmB key bs))) ∧ Below w.heap.size w w' := by
  obtain ⟨bS, oS, cS, k1, k2, k3, k4⟩ := hS
  obtain ⟨bK, oK, cK, s1, s2, s3, s4⟩ := hK
  obtain ⟨r6, h6, hv6⟩ := slot_of hB1 6
  obtain ⟨r7, h7, hv7⟩ := slot_of hB2 7
  have hr := hr15 (r6 := r6) (r7 := r7) h3 k1 k2 k3 k4 s1 s2 s3 s4 h6 h7
  have hG : ∀ g, g < 4 → ∃ s, ren15 bS oS cS bK oK cK r6 r7 g = some (g, (0, s)) := fun g hg => by
    match g, hg with
    | 0, _ => exact ⟨0, rfl⟩
    | 1, _ => exact ⟨1, rfl⟩
    | 2, _ => exact ⟨1, rfl⟩
    | 3, _ => exact ⟨0, rfl⟩
  refine (call_sound (xs := [.cellN 4 32]) (K := fun av _ => av = .ints .u8 (bI (hmB key bs))) (vs := [kv, v]) mixed gam2_ok pu2_ok Tryd.func15 body15 comp15 (by kernel_rfl) (by kernel_rfl) (by kernel_rfl) (rhm_avc key bs hl1 hl2 _) hG hr ⟨kv, [v], rfl, hv6 _ rfl, v, [], rfl, hv7 _ rfl, rfl⟩).mono fun e W' ⟨u, av, σ', ρ', e1, e2, e3, e4, e5⟩ => ?_
  subst e1 e2
  refine ⟨?_, e4.os, e4.tape, e4.output, e4.size, fun c hc => ?_⟩
  · unfold VR at e5
    rw [e5]
    simp [bI, c8, c8l]
  · by_cases hm : ∃ b d, ren15 bS oS cS bK oK cK r6 r7 b = some (c, d)
    · obtain ⟨b, d, hm⟩ := hm
      obtain ⟨o, q1, q2⟩ := mem00_ro (wI S0) (wI KK) (bI key) (bI bs) b (ren15_lt hm)
      exact (e4.ro b c d o (ren15_lt hm) hm hc q1 q2).2
    · exact e4.frame c hc fun b d h => hm ⟨b, d, h⟩
end Go.Proofs.YtjkicmlelilcaaaDoor
namespace Go.Proofs.YtjkicmlelilcaaaDoor
open Go
open Go.RowKit Go.ChangeShapes
theorem gSq : Tryd.prog.globalNamed "longwire/longwireref02.squares" = some 1 := by kernel_rfl
theorem gCu : Tryd.prog.globalNamed "longwire/longwireref02.cubes" = some 2 := by kernel_rfl
theorem gSqType : (Tryd.prog.globals[1]?).map (·.type) = some 93 := by kernel_rfl
theorem gCuType : (Tryd.prog.globals[2]?).map (·.type) = some 93 := by kernel_rfl
theorem tabSq_eq {H : Type} : (Rows.laid_longwire_longwireref02_squares : DataW H) = .slice (lits .u32 (S0.map N32)) [] := by kernel_rfl
theorem tabCu_eq {H : Type} : (Rows.laid_longwire_longwireref02_cubes : DataW H) = .slice (lits .u32 (KK.map N32)) [] := by kernel_rfl
theorem lits_inj {H : Type} {k : IntKind} : ∀ {l m : List Int}, (lits k l : List (DataW H)) = lits k m → l = m
  | [], [], _ => rfl
  | [], _ :: _, h => by simp [lits] at h
  | _ :: _, [], h => by simp [lits] at h
  | a :: l, b :: m, h => by
    simp only [lits, List.map_cons, List.cons.injEq, DataW.lit.injEq, Lit.int.injEq, true_and] at h
    rw [h.1, lits_inj h.2]
theorem tabC_of {W : World} {name : String} {g t e : Nat} {T : List UInt32} {data : DataW Unit} {rest : List (String × DataW Unit)} (hg : Tryd.prog.globalNamed name = some g) (hty : (Tryd.prog.globals[g]?).map (·.type) = some t)
    (ht : Tryd.prog.underlying t = some (.slice e)) (he : Tryd.prog.underlying e = some (.int .u32)) (hce : Tryd.prog.cellsOf e = 1) (hT : 0 < T.length) (hdata : data = .slice (lits .u32 (T.map N32)) [])
    (h : laidMet Tryd.prog ((name, data) :: rest) W) : TabC W g T := by
  obtain ⟨ps, ⟨g', t', cs, fuel, p, q, hg', ht', hvar, hd, h1, h2⟩, h3⟩ := h
  obtain rfl := Option.some.inj (hg.symm.trans hg')
  obtain rfl := Option.some.inj (hty.symm.trans ht')
  rcases open_ints ht he hce hd with ⟨_, hx⟩ | ⟨a, len, cap, zs, hcs, _, hl, _, hz, hx, hc, _⟩
  · rw [hdata] at hx; cases hx
  · simp only [if_true] at hz
    rw [hdata] at hx
    simp only [Prod.mk.injEq, DataW.slice.injEq] at hx
    have hzt := lits_inj hx.1.1
    have hlen : len = T.length := by
      have := congrArg List.length hzt
      rw [List.length_map, List.length_take] at this; omega
    obtain ⟨hs, hb⟩ := spot_of_cell (hc 0 (by omega))
    have hcell := World.var?_cell hg hvar 0
    have hc0 : cs[0]? = some (.slice (some a) len cap) := by
      rw [← Array.getElem?_toList, hcs]; rfl
    rw [hc0] at hcell
    obtain ⟨b, o, sp⟩ := a
    cases hs
    refine ⟨b, o, cap, by rw [← hlen]; exact hcell, by omega, hb, fun i hi => ?_⟩
    have h5 := hc i (by omega)
    rw [add_none rfl] at h5
    have h6 : (zs.take len)[i]? = zs[i]? := by rw [List.getElem?_take, if_pos (by omega)]
    have h7 : zs.getD i 0 = N32 (at32 T i) := by
      rw [List.getD_eq_getElem?_getD, ← h6, ← hzt, List.getElem?_map, List.getElem?_eq_getElem hi]
      simp [at32, List.getD_eq_getElem?_getD, hi]
    rw [h7] at h5
    exact h5
theorem tabs_of {W : World} {rest : List (String × DataW Unit)} (h : laidMet Tryd.prog (("longwire/longwireref02.squares", Rows.laid_longwire_longwireref02_squares) :: ("longwire/longwireref02.cubes", Rows.laid_longwire_longwireref02_cubes) :: rest) W) : TabC W 1 S0 ∧ TabC W 2 KK :=
  ⟨tabC_of gSq gSqType Tryd.underlying93 Tryd.underlying62 cells62 (by decide) tabSq_eq h, tabC_of gCu gCuType Tryd.underlying93 Tryd.underlying62 cells62 (by decide) tabCu_eq h.tail⟩
end Go.Proofs.YtjkicmlelilcaaaDoor
namespace Go.Proofs.YtjkicmlelilcaaaDoor.V2
open Go
noncomputable section
inductive T (α : Type) where
  | leaf
  | node (v : Option α) (l r : T α)
namespace T
variable {α : Type}
def sel {R : Type} (n : Nat) (a b c : R) : R := Bool.rec (Bool.rec c b (Nat.beq (Nat.mod n 2) 1)) a (Nat.beq n 0)
theorem sel_eq {R : Type} (n : Nat) (a b c : R) : sel n a b c = bif Nat.beq n 0 then a else bif Nat.beq (n % 2) 1 then b else c := by
  show sel n a b c = bif Nat.beq n 0 then a else bif Nat.beq (Nat.mod n 2) 1 then b else c
  unfold sel
  cases Nat.beq n 0 <;> cases Nat.beq (Nat.mod n 2) 1 <;> rfl
def vl (t : T α) : Option α := T.rec (motive := fun _ => Option α) none (fun v _ _ _ _ => v) t
def le (t : T α) : T α := T.rec (motive := fun _ => T α) leaf (fun _ l _ _ _ => l) t
def ri (t : T α) : T α := T.rec (motive := fun _ => T α) leaf (fun _ _ r _ _ => r) t
def get (t : T α) : Nat → Option α :=
  T.rec (motive := fun _ => Nat → Option α) (fun _ => none) (fun v _ _ gl gr n => sel n v (gl (Nat.div n 2)) (gr (Nat.pred (Nat.div n 2)))) t
def set (f : Nat) : T α → Nat → α → T α :=
  Nat.rec (motive := fun _ => T α → Nat → α → T α) (fun t _ x => node (some x) t.le t.ri)
    (fun _ ih t n x => sel n (node (some x) t.le t.ri) (node t.vl (ih t.le (Nat.div n 2) x) t.ri) (node t.vl t.le (ih t.ri (Nat.pred (Nat.div n 2)) x))) f
def put (t : T α) (n : Nat) (x : α) : T α := set 20 t n x
theorem beq_t {a b : Nat} (h : a = b) : Nat.beq a b = true := by subst h; exact Nat.beq_refl a
theorem beq_f {a b : Nat} (h : a ≠ b) : Nat.beq a b = false := by rw [Bool.eq_false_iff]; exact fun e => h (Nat.eq_of_beq_eq_true e)
theorem get_eq (t : T α) (n : Nat) : t.get n = bif Nat.beq n 0 then t.vl else bif Nat.beq (n % 2) 1 then t.le.get (n / 2) else t.ri.get (n / 2 - 1) := by
  rw [← sel_eq]
  cases t with
  | leaf => show none = sel n none none none; unfold sel; cases Nat.beq n 0 <;> cases Nat.beq (Nat.mod n 2) 1 <;> rfl
  | node v l r => rfl
theorem set_succ (f : Nat) (t : T α) (n : Nat) (x : α) : set (f + 1) t n x = bif Nat.beq n 0 then node (some x) t.le t.ri else bif Nat.beq (n % 2) 1 then node t.vl (set f t.le (n / 2) x) t.ri else node t.vl t.le (set f t.ri (n / 2 - 1) x) := by
  rw [← sel_eq]; rfl
theorem get_set (f : Nat) : ∀ (t : T α) (n m : Nat) (x : α), n < 2 ^ f → (set f t n x).get m = if m = n then some x else t.get m := by
  induction f with
  | zero =>
    intro t n m x h
    have hn : n = 0 := by simpa using h
    subst hn
    show (node (some x) t.le t.ri).get m = _
    rw [get_eq, get_eq t]
    by_cases hm : m = 0
    · subst hm; simp [vl]
    · simp only [beq_f hm, cond_false, if_neg hm]; rfl
  | succ f ih =>
    intro t n m x h
    rw [Nat.pow_succ] at h
    rw [set_succ]
    by_cases hn : n = 0
    · subst hn
      rw [beq_t rfl, cond_true, get_eq, get_eq t]
      by_cases hm : m = 0
      · subst hm; simp [vl]
      · simp only [beq_f hm, cond_false, if_neg hm]; rfl
    · rw [beq_f hn, cond_false]
      by_cases ho : n % 2 = 1
      · rw [beq_t ho, cond_true, get_eq, get_eq t]
        by_cases hm : m = 0
        · subst hm; simp [vl, Ne.symm hn]
        · rw [beq_f hm, cond_false, cond_false]
          by_cases hmo : m % 2 = 1
          · rw [beq_t hmo, cond_true, cond_true]
            show (set f t.le (n / 2) x).get (m / 2) = _
            rw [ih _ _ _ _ (by omega)]
            by_cases hmn : m = n
            · subst hmn; simp
            · rw [if_neg (by omega), if_neg hmn]
          · rw [beq_f hmo, cond_false, cond_false, if_neg (by rintro rfl; exact hmo ho)]; rfl
      · rw [beq_f ho, cond_false, get_eq, get_eq t]
        by_cases hm : m = 0
        · subst hm; simp [vl, Ne.symm hn]
        · rw [beq_f hm, cond_false, cond_false]
          by_cases hmo : m % 2 = 1
          · rw [beq_t hmo, cond_true, cond_true, if_neg (by rintro rfl; exact ho hmo)]; rfl
          · rw [beq_f hmo, cond_false, cond_false]
            show (set f t.ri (n / 2 - 1) x).get (m / 2 - 1) = _
            rw [ih _ _ _ _ (by omega)]
            by_cases hmn : m = n
            · subst hmn; simp
            · rw [if_neg (by omega), if_neg hmn]
theorem get_put (t : T α) (n m : Nat) (x : α) (h : n < 1048576) : (t.put n x).get m = if m = n then some x else t.get m := get_set 20 t n m x h
theorem get_leaf (n : Nat) : (leaf : T α).get n = none := rfl
end T
inductive AV where
  | top
  | bool (b : Bool)
  | int (k : IntKind) (n : Int)
  | str (l : List UInt8)
  | ptr (b off : Nat)
  | nilptr
  | sl (b off len cap : Nat) (exact : Bool) (sz : Nat)
  | nilsl
  | map (b : Nat)
  | nilmap
  | fn (f : Fn) (first captured : List AV)
  | nilfn
  | ifc (t : TypeId) (v : AV)
  | nilifc
  | agg (l : List AV)
  | ints (k : IntKind) (l : List Int)
  | tup (l : List AV)
instance : Inhabited AV := ⟨.top⟩
abbrev Ren := Nat → Option (Nat × (Nat × Nat))
mutual
def VR (ρ : Ren) : AV → Value → Prop
  | .top, _ => True
  | .bool b, v => v = .bool b
  | .int k n, v => v = .int k n
  | .str l, v => v = .string ⟨l.toArray⟩
  | .ptr b o, v => ∃ c d, ρ b = some (c, d) ∧ v = .pointer (some ⟨c, o + d.1, none⟩)
  | .nilptr, v => v = .pointer none
  | .sl b o n k e z, v => (∃ c d o' k', ρ b = some (c, d) ∧ v = .slice (some ⟨c, o', none⟩) n k' ∧ (k ≠ 0 → o' = o + d.1) ∧ n ≤ k ∧ k ≤ k' ∧ (e = true → k' = k) ∧ o' + k' * z ≤ d.2) ∨ (n = 0 ∧ k = 0 ∧ e = false ∧ (∃ x, ρ b = some x) ∧ ∃ p, v = .slice (some p) 0 0)
  | .nilsl, v => v = .slice none 0 0
  | .map b, v => ∃ c d, ρ b = some (c, d) ∧ v = .map (some c)
  | .nilmap, v => v = .map none
  | .fn f xs ys, v => ∃ us vs : List Value, v = .func f us.toArray vs.toArray ∧ VRs ρ xs us ∧ VRs ρ ys vs
  | .nilfn, v => v = .nilFunc
  | .ifc t a, v => ∃ u, v = .iface t u ∧ VR ρ a u
  | .nilifc, v => v = .nilIface
  | .agg l, v => ∃ us : List Value, v = .agg us.toArray ∧ VRs ρ l us
  | .ints k l, v => v = .agg (l.map (Value.int k)).toArray
  | .tup l, v => ∃ us : List Value, v = .tuple us.toArray ∧ VRs ρ l us
def VRs (ρ : Ren) : List AV → List Value → Prop
  | [], vs => vs = []
  | a :: l, vs => ∃ v m, vs = v :: m ∧ VR ρ a v ∧ VRs ρ l m
end
def Sub (ρ ρ' : Ren) : Prop := ∀ b x, ρ b = some x → ρ' b = some x
mutual
theorem VR.mono {ρ ρ' : Ren} (h : Sub ρ ρ') : ∀ (a : AV) (v : Value), VR ρ a v → VR ρ' a v
  | .top, _, _ => trivial
  | .bool _, _, e => e
  | .int _ _, _, e => e
  | .str _, _, e => e
  | .ptr _ _, _, ⟨c, d, hc, e⟩ => ⟨c, d, h _ _ hc, e⟩
  | .nilptr, _, e => e
  | .sl _ _ _ _ _ _, _, .inl ⟨c, d, o, k, hc, e⟩ => .inl ⟨c, d, o, k, h _ _ hc, e⟩
  | .sl _ _ _ _ _ _, _, .inr ⟨h1, h2, h3, ⟨x, hx⟩, e⟩ => .inr ⟨h1, h2, h3, ⟨x, h _ _ hx⟩, e⟩
  | .nilsl, _, e => e
  | .map _, _, ⟨c, d, hc, e⟩ => ⟨c, d, h _ _ hc, e⟩
  | .nilmap, _, e => e
  | .fn _ xs ys, _, ⟨us, vs, e, h1, h2⟩ => ⟨us, vs, e, VRs.mono h xs us h1, VRs.mono h ys vs h2⟩
  | .nilfn, _, e => e
  | .ifc _ a, _, ⟨u, e, hu⟩ => ⟨u, e, VR.mono h a u hu⟩
  | .nilifc, _, e => e
  | .agg l, _, ⟨us, e, hu⟩ => ⟨us, e, VRs.mono h l us hu⟩
  | .ints _ _, _, e => e
  | .tup l, _, ⟨us, e, hu⟩ => ⟨us, e, VRs.mono h l us hu⟩
theorem VRs.mono {ρ ρ' : Ren} (h : Sub ρ ρ') : ∀ (l : List AV) (vs : List Value), VRs ρ l vs → VRs ρ' l vs
  | [], _, e => e
  | a :: l, _, ⟨v, m, e, hv, hm⟩ => ⟨v, m, e, VR.mono h a v hv, VRs.mono h l m hm⟩
end
theorem VRs.length {ρ : Ren} : ∀ {l : List AV} {vs : List Value}, VRs ρ l vs → vs.length = l.length
  | [], _, e => by rw [show _ = [] from e]; rfl
  | _ :: _, _, ⟨_, _, e, _, hm⟩ => by rw [e]; simp [VRs.length hm]
theorem VRs.at {ρ : Ren} : ∀ {l : List AV} {vs : List Value}, VRs ρ l vs → ∀ (i : Nat) a, l[i]? = some a → ∃ v, vs[i]? = some v ∧ VR ρ a v
  | [], _, _, i, a, h => by simp at h
  | x :: l, _, ⟨v, m, e, hv, hm⟩, i, a, h => by
    subst e
    cases i with
    | zero => simp only [List.getElem?_cons_zero, Option.some.injEq] at h; subst h; exact ⟨v, rfl, hv⟩
    | succ i => exact VRs.at hm i a (by simpa using h)
theorem VRs.of {ρ : Ren} : ∀ (l : List AV) (vs : List Value), vs.length = l.length → (∀ (i : Nat) a, l[i]? = some a → ∃ v, vs[i]? = some v ∧ VR ρ a v) → VRs ρ l vs
  | [], vs, hl, _ => List.length_eq_zero_iff.1 hl
  | a :: l, [], hl, _ => by simp at hl
  | a :: l, v :: m, hl, h => by
    refine ⟨v, m, rfl, ?_, VRs.of l m (by simpa using hl) fun i b hb => ?_⟩
    · obtain ⟨u, hu, hr⟩ := h 0 a rfl
      simp only [List.getElem?_cons_zero, Option.some.injEq] at hu
      rw [hu]; exact hr
    · obtain ⟨u, hu, hr⟩ := h (i + 1) b (by simpa using hb)
      exact ⟨u, by simpa using hu, hr⟩
theorem VRs.append {ρ : Ren} : ∀ {l l' : List AV} {vs vs' : List Value}, VRs ρ l vs → VRs ρ l' vs' → VRs ρ (l ++ l') (vs ++ vs')
  | [], _, _, _, e, h => by rw [show _ = [] from e]; exact h
  | _ :: _, _, _, _, ⟨v, m, e, hv, hm⟩, h => by subst e; exact ⟨v, m ++ _, rfl, hv, VRs.append hm h⟩
def AV.one : AV → Bool
  | .top | .agg _ | .ints _ _ | .tup _ => false
  | _ => true
theorem VR.one {ρ : Ren} {a : AV} {v : Value} (h : VR ρ a v) (ho : a.one = true) : v.oneCell' = true := by
  cases a <;> simp only [AV.one, Bool.false_eq_true] at ho <;> unfold VR at h
  all_goals first
    | (subst h; rfl)
    | (obtain ⟨_, _, _, h⟩ := h; subst h; rfl)
    | (rcases h with ⟨_, _, _, _, _, h, _⟩ | ⟨_, _, _, _, _, h⟩ <;> (subst h; rfl))
    | (obtain ⟨_, _, h, _⟩ := h; subst h; rfl)
    | (obtain ⟨_, h, _⟩ := h; subst h; rfl)
def AV.known : AV → Bool
  | .top => false
  | _ => true
def AV.cells : AV → List AV
  | .agg l => l
  | .ints k l => l.map (AV.int k)
  | a => [a]
theorem VRs.ints {ρ : Ren} (k : IntKind) : ∀ (l : List Int), VRs ρ (l.map (AV.int k)) (l.map (Value.int k))
  | [] => rfl
  | _n :: l => ⟨_, _, rfl, rfl, VRs.ints k l⟩
theorem VR.cells {ρ : Ren} {a : AV} {v : Value} (h : VR ρ a v) (hk : a.known = true) : VRs ρ a.cells v.cells.toList := by
  have sing : ∀ {a : AV} {v : Value}, VR ρ a v → v.cells = #[v] → VRs ρ [a] v.cells.toList := fun h e => by rw [e]; exact ⟨_, _, rfl, h, rfl⟩
  cases a
  case top => simp [AV.known] at hk
  case agg l => unfold VR at h; obtain ⟨us, rfl, hu⟩ := h; simpa [Value.cells, AV.cells] using hu
  case ints k l => unfold VR at h; subst h; simpa [Value.cells, AV.cells] using VRs.ints k l
  all_goals
    refine sing h ?_
    unfold VR at h
    first
      | (subst h; rfl)
      | (obtain ⟨_, _, _, h⟩ := h; subst h; rfl)
      | (rcases h with ⟨_, _, _, _, _, h, _⟩ | ⟨_, _, _, _, _, h⟩ <;> (subst h; rfl))
      | (obtain ⟨_, _, h, _⟩ := h; subst h; rfl)
      | (obtain ⟨_, h, _⟩ := h; subst h; rfl)
inductive Tl where
  | exact
  | more
  | ro
def Tl.wide : Tl → Bool
  | .exact => false
  | _ => true
def Tl.isRo : Tl → Bool
  | .ro => true
  | _ => false
inductive AObj where
  | dead
  | cells (l : List AV) (elem : TypeId) (tail : Tl)
  | ints (k : IntKind) (l : List Int) (elem : TypeId) (tail : Tl)
  | map (l : List (AV × AV))
def AObj.len : AObj → Nat
  | .dead => 0
  | .cells l _ _ => l.length
  | .ints _ l _ _ => l.length
  | .map _ => 0
def AObj.at (o : AObj) (i : Nat) : Option AV := match o with
  | .dead => none
  | .cells l _ _ => l[i]?
  | .ints k l _ _ => (l[i]?).map (.int k)
  | .map _ => none
def AObj.elem : AObj → TypeId
  | .dead => 0
  | .cells _ e _ => e
  | .ints _ _ e _ => e
  | .map _ => 0
def AObj.tail : AObj → Bool
  | .dead => true
  | .cells _ _ t => t.wide
  | .ints _ _ _ t => t.wide
  | .map _ => false
def AObj.isRo : AObj → Bool
  | .dead => false
  | .cells _ _ t => t.isRo
  | .ints _ _ _ t => t.isRo
  | .map _ => false
def AObj.alive : AObj → Bool
  | .dead => false
  | _ => true
def AObj.cellsy : AObj → Bool
  | .cells _ _ _ => true
  | .ints _ _ _ _ => true
  | _ => false
theorem AObj.alive_of {o : AObj} (h : o.cellsy = true) : o.alive = true := by cases o <;> first | rfl | cases h
def Free (c : Array Value) (fr : Nat × Nat) : Prop := fr.1 = fr.2 ∨ c.size ≤ fr.1
theorem Free.no {c : Array Value} {fr : Nat × Nat} (h : Free c fr) (i : Nat) (hi : i < c.size) : ¬(fr.1 ≤ i ∧ i < fr.2) := by
  rcases h with h | h <;> omega
def MapL (ρ : Ren) : List (AV × AV) → List MapEntry → Prop
  | [], es => es = []
  | p :: l, es => ∃ e m, es = e :: m ∧ VR ρ p.1 e.key ∧ VR ρ p.2 e.val ∧ MapL ρ l m
def MR (ρ : Ren) (l : List (AV × AV)) (x : Option Obj) : Prop := ∃ es ck, x = some (.map es ck) ∧ MapL ρ l es.toList ∧ es.toList.Pairwise (fun a b => a.born < b.born) ∧ ∀ e ∈ es.toList, e.born < ck
theorem MapL.mono {ρ ρ' : Ren} (h : Sub ρ ρ') : ∀ {l : List (AV × AV)} {es : List MapEntry}, MapL ρ l es → MapL ρ' l es
  | [], _, e => e
  | _ :: _, _, ⟨e, m, h1, h2, h3, h4⟩ => ⟨e, m, h1, h2.mono h, h3.mono h, h4.mono h⟩
def OR (ρ : Ren) (d : Nat × Nat) (o : AObj) (x : Option Obj) : Prop :=
  (o.cellsy = true → o.len + d.1 ≤ d.2 ∧ ((o.isRo = true → 0 < o.len) → ∃ c e fr, x = some (.cells c e fr) ∧ (o.isRo = false → e = o.elem ∧ Free c fr ∧ c.size = d.2) ∧ o.len + d.1 ≤ c.size ∧ o.len + d.1 ≤ d.2 ∧ ∀ i a, o.at i = some a → ∃ v, c[i + d.1]? = some v ∧ VR ρ a v)) ∧
  ∀ l, o = .map l → MR ρ l x
theorem OR.mk' {ρ : Ren} {d : Nat × Nat} {o : AObj} {x : Option Obj} (hc : o.cellsy = true) (h : ∃ c e fr, x = some (.cells c e fr) ∧ (o.isRo = false → e = o.elem ∧ Free c fr ∧ c.size = d.2) ∧ o.len + d.1 ≤ c.size ∧ o.len + d.1 ≤ d.2 ∧ ∀ i a, o.at i = some a → ∃ v, c[i + d.1]? = some v ∧ VR ρ a v) : OR ρ d o x :=
  ⟨fun _ => ⟨by obtain ⟨c, e, fr, _, _, _, h4, _⟩ := h; exact h4, fun _ => h⟩, fun l e => (by subst e; cases hc)⟩
theorem OR.dead {ρ : Ren} {d : Nat × Nat} {x : Option Obj} : OR ρ d .dead x := ⟨fun h => (by cases h), fun l h => (by cases h)⟩
structure AH where
  next : Nat
  mem : T AObj
def AH.get (σ : AH) (b : Nat) : Option AObj := σ.mem.get b
def AH.put (σ : AH) (b : Nat) (o : AObj) : AH := { σ with mem := σ.mem.put b o }
def Shr (σ : AH) (b b' : Nat) : Prop := σ.get b = some .dead ∨ σ.get b' = some .dead ∨ ∃ o o', σ.get b = some o ∧ σ.get b' = some o' ∧ o.isRo = true ∧ o'.isRo = true
theorem Shr.congr {σ σ' : AH} {b b' : Nat} (h : Shr σ b b') (h1 : σ'.get b = σ.get b) (h2 : σ'.get b' = σ.get b') : Shr σ' b b' := by
  unfold Shr; rw [h1, h2]; exact h
theorem Shr.left {σ : AH} {b b' : Nat} {o : AObj} (h : Shr σ b b') (ho : σ.get b = some o) (hal : o.alive = true) (hro : o.isRo = false) : σ.get b' = some .dead := by
  rcases h with e | e | ⟨o1, _, e, _, e2, _⟩
  · rw [ho] at e; cases e; cases hal
  · exact e
  · rw [ho] at e; cases e; rw [hro] at e2; cases e2
structure HR (ρ : Ren) (σ : AH) (W : World) : Prop where
  small : σ.next ≤ 1000000
  none_ : ∀ b, σ.next ≤ b → σ.get b = none
  dom : ∀ b c d, ρ b = some (c, d) → b < σ.next ∧ c < W.heap.size ∧ ∃ o, σ.get b = some o ∧ OR ρ d o W.heap[c]?
  inj : ∀ b b' c d d', ρ b = some (c, d) → ρ b' = some (c, d') → b ≠ b' → Shr σ b b'
structure Stp (N : Nat) (ρ : Ren) (σ : AH) (W : World) (ρ' : Ren) (σ' : AH) (W' : World) : Prop where
  ext : ∀ b, b < N → ρ' b = ρ b
  img : ∀ b c d, ρ' b = some (c, d) → (∃ b0 d0, ρ b0 = some (c, d0)) ∨ W.heap.size ≤ c
  next : N ≤ σ'.next
  keep : ∀ b o, b < N → ρ b = none → σ.get b = some o → o.tail = false → σ'.get b = some o
  frame : ∀ c, c < W.heap.size → (∀ b d, ρ b ≠ some (c, d)) → W'.heap[c]? = W.heap[c]?
  tape : W'.tape = W.tape
  os : W'.os = W.os
  output : W'.output = W.output
  size : W.heap.size ≤ W'.heap.size
  ro : ∀ b c d o, b < N → ρ b = some (c, d) → c < W.heap.size → σ.get b = some o → o.isRo = true → σ'.get b = some o ∧ W'.heap[c]? = W.heap[c]?
theorem Stp.refl {N : Nat} {ρ : Ren} {σ : AH} {W : World} (h : N ≤ σ.next) : Stp N ρ σ W ρ σ W :=
  ⟨fun _ _ => rfl, fun b _c d h => .inl ⟨b, d, h⟩, h, fun _ _ _ _ h _ => h, fun _ _ _ => rfl, rfl, rfl, rfl, Nat.le_refl _, fun _ _ _ _ _ _ _ h _ => ⟨h, rfl⟩⟩
theorem Stp.trans {N M : Nat} {ρ ρ' ρ'' : Ren} {σ σ' σ'' : AH} {W W' W'' : World} (h : Stp N ρ σ W ρ' σ' W') (h' : Stp M ρ' σ' W' ρ'' σ'' W'') (hM : N ≤ M) : Stp N ρ σ W ρ'' σ'' W'' where
  ext b hb := (h'.ext b (Nat.lt_of_lt_of_le hb hM)).trans (h.ext b hb)
  img b c d hc := by
    rcases h'.img b c d hc with ⟨b0, d0, h0⟩ | h0
    · exact h.img b0 c d0 h0
    · exact .inr (Nat.le_trans h.size h0)
  next := Nat.le_trans hM h'.next
  keep b o hb hn ho ht := h'.keep b o (Nat.lt_of_lt_of_le hb hM) ((h.ext b hb).trans hn) (h.keep b o hb hn ho ht) ht
  frame c hc hn := (h'.frame c (Nat.lt_of_lt_of_le hc h.size) fun b d hb => by
    rcases h.img b c d hb with ⟨b0, d0, h0⟩ | h0
    · exact hn b0 d0 h0
    · exact absurd hc (by omega)).trans (h.frame c hc hn)
  tape := h'.tape.trans h.tape
  os := h'.os.trans h.os
  output := h'.output.trans h.output
  size := Nat.le_trans h.size h'.size
  ro b c d o hb hρ hc ho hr := by
    obtain ⟨h1, h2⟩ := h.ro b c d o hb hρ hc ho hr
    obtain ⟨h3, h4⟩ := h'.ro b c d o (Nat.lt_of_lt_of_le hb hM) ((h.ext b hb).trans hρ) (Nat.lt_of_lt_of_le hc h.size) h1 hr
    exact ⟨h3, h4.trans h2⟩
theorem Stp.sub {ρ ρ' : Ren} {σ σ' : AH} {W W' : World} (h : Stp σ.next ρ σ W ρ' σ' W') (hr : HR ρ σ W) : Sub ρ ρ' := fun b x hc => by
  rw [h.ext b (hr.dom b x.1 x.2 hc).1]; exact hc
end
end Go.Proofs.YtjkicmlelilcaaaDoor.V2
