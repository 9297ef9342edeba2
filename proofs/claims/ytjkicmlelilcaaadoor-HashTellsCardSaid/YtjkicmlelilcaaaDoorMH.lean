/- The walk of the law HashTells. -/
import Derived.Test.YtjkicmlelilcaaaDoorMGB
import Derived.Test.YtjkicmlelilcaaaDoorMFB
import Derived.Test.YtjkicmlelilcaaaDoorW10
import Derived.Test.YtjkicmlelilcaaaDoorRow
import Derived.Test.YtjkicmlelilcaaaDoorW11
namespace Go.Proofs.YtjkicmlelilcaaaDoor.V2
open Go
open Go.RowKit
theorem HR.below {ρ : Ren} {σ : AH} {W W' : World} (h : HR ρ σ W) (hb : Below W.heap.size W W') : HR ρ σ W' :=
  ⟨h.small, h.none_, fun b c d hρ => by
    obtain ⟨h1, h2, o, h3, h4⟩ := h.dom b c d hρ
    refine ⟨h1, Nat.lt_of_lt_of_le h2 hb.size, o, h3, ?_⟩
    rw [hb.block c h2]; exact h4, h.inj⟩
theorem Stp.below {N : Nat} {ρ : Ren} {σ : AH} {W W' : World} (hN : N ≤ σ.next) (hb : Below W.heap.size W W') : Stp N ρ σ W ρ σ W' :=
  ⟨fun _ _ => rfl, fun b _c d h => .inl ⟨b, d, h⟩, hN, fun _ _ _ _ h _ => h, fun c hc _ => hb.block c hc, hb.tape, hb.os, hb.output, hb.size, fun _ c _ _ _ _ hc h _ => ⟨h, hb.block c hc⟩⟩
/-- What is read of a slice of bytes. -/
def rowB : Row → Option (List Int)
  | .ints k l => match k with
    | .u8 => some l
    | _ => none
  | .cells l => match l with
    | [] => some []
    | _ => none
def byI (l : List Int) : Bool := l.all fun n => decide (0 ≤ n) && decide (n ≤ 255)
theorem byI_iff {l : List Int} (h : byI l = true) : ∀ n ∈ l, 0 ≤ n ∧ n ≤ 255 := fun n hn => by
  have := List.all_eq_true.1 h n hn
  simpa using this
/-- A slice of bytes, and what it holds. -/
noncomputable def bytesA (A : Ar) (By : List Int → Bool) (σ : AH) (v : AV) : Bool × List Int := match rowA A false 1 σ v with
  | (ok, _, r) => match rowB r with
    | some l => (ok && By l, l)
    | none => (false, [])
theorem bytes_of {ρ : Ren} {σ : AH} {W : World} (hr : HR ρ σ W) {s : AV} {v : Value} (hv : VR ρ s v) (hok : (bytesA std byI σ s).1 = true) : BSl W v (toBs (bytesA std byI σ s).2) ∧ bI (toBs (bytesA std byI σ s).2) = (bytesA std byI σ s).2 := by
  unfold bytesA at hok ⊢
  generalize hrow : rowA std false 1 σ s = row at hok ⊢
  obtain ⟨ok, n, r⟩ := row
  simp only at hok ⊢
  cases hB : rowB r with
  | none => rw [hB] at hok; cases hok
  | some l =>
    rw [hB] at hok
    simp only [Bool.and_eq_true] at hok ⊢
    obtain ⟨hok, hby⟩ := hok
    have hby := byI_iff hby
    refine ⟨?_, bI_toBs l hby⟩
    cases s
    case nilsl =>
      simp only [VR] at hv
      simp only [rowA, Prod.mk.injEq] at hrow
      obtain ⟨_, _, rfl⟩ := hrow
      simp only [rowB, Option.some.injEq] at hB
      subst hB; subst hv
      exact .inl ⟨rfl, rfl⟩
    case sl b o n' k e z =>
      obtain ⟨c, d, o', k', hb, rfl, ho, hnk, hk, _, _⟩ := (vr_sl hv).resolve_right id
      have hc := (hr.dom _ _ _ hb).2.1
      simp only [rowA] at hrow
      have hempty : n' = 0 → l = [] → BSl W (.slice (some ⟨c, o', none⟩) n' k') (toBs l) := fun h1 h2 => by
        subst h1; subst h2
        exact .inr (.inl ⟨c, o', k', rfl, Nat.zero_le _, hc, fun j hj => by cases hj⟩)
      cases hob : σ.get b with
      | none => rw [hob] at hrow; cases hrow; cases hok
      | some ob =>
        rw [hob] at hrow
        cases ob with
        | map m => cases hrow; cases hok
        | dead =>
          simp only [Prod.mk.injEq] at hrow
          obtain ⟨h1, _, rfl⟩ := hrow
          simp only [rowB, Option.some.injEq] at hB
          rw [← h1, Bool.and_eq_true, Nat.beq_eq] at hok
          exact hempty hok.2 hB.symm
        | cells m e2 t =>
          simp only [Prod.mk.injEq] at hrow
          obtain ⟨h1, _, rfl⟩ := hrow
          rw [← h1] at hok
          simp only [Bool.and_eq_true, Nat.ble_eq] at hok
          cases hm : (m.drop o).take (n' * 1) with
          | nil =>
            have h0 : ((m.drop o).take (n' * 1)).length = 0 := by rw [hm]; rfl
            rw [List.length_take, List.length_drop] at h0
            rw [hm] at hB
            simp only [rowB, Option.some.injEq] at hB
            exact hempty (by omega) hB.symm
          | cons x y => rw [hm] at hB; cases hB
        | ints ik m e2 t =>
          simp only [Prod.mk.injEq] at hrow
          obtain ⟨h1, _, rfl⟩ := hrow
          rw [← h1] at hok
          simp only [std, Bool.and_eq_true, Nat.ble_eq] at hok
          have hik : ik = .u8 := by cases ik <;> first | rfl | (simp [rowB] at hB)
          subst hik
          simp only [std, rowB, Option.some.injEq] at hB
          have hln : l.length = n' := by rw [← hB, List.length_take, List.length_drop]; omega
          by_cases hn : n' = 0
          · exact hempty hn (List.length_eq_zero_iff.1 (by rw [hln, hn]))
          · have ho := ho (by omega)
            subst ho
            refine .inr (.inl ⟨c, o + d.1, k', by rw [toBs_length, hln], by rw [toBs_length, hln]; omega, hc, fun j hj => ?_⟩)
            rw [toBs_length, hln] at hj
            have hjm : o + j < m.length := by omega
            obtain ⟨u, hu, hvr⟩ := hr.load (i := o + j) (a := .int .u8 m[o + j]) hb hob (by simp only [AObj.at]; rw [List.getElem?_eq_getElem hjm]; rfl)
            simp only [VR] at hvr
            subst hvr
            rw [show o + d.1 + j = o + j + d.1 by omega, hu]
            have hlj : l[j]? = some m[o + j] := by rw [← hB, List.getElem?_take, if_pos (by omega), List.getElem?_drop, List.getElem?_eq_getElem hjm]
            have : (bI (toBs l)).getD j 0 = m[o + j] := by rw [bI_toBs l hby, List.getD_eq_getElem?_getD, hlj]; rfl
            rw [bI_getD] at this
            rw [this]
    all_goals (simp only [rowA, Prod.mk.injEq] at hrow; obtain ⟨h1, _⟩ := hrow; rw [← h1] at hok; cases hok)
/-- A slice of slices of bytes. -/
noncomputable def partsA (A : Ar) (By : List Int → Bool) (σ : AH) : List AV → Bool × List (List Int)
  | [] => (true, [])
  | v :: l => match bytesA A By σ v with
    | (ok, b) => match partsA A By σ l with
      | (ok', m) => (ok && ok', b :: m)
noncomputable def listA (A : Ar) (By : List Int → Bool) (σ : AH) (v : AV) : Bool × List (List Int) := match rowA A false 1 σ v with
  | (ok, _, r) => match r with
    | .cells l => match partsA A By σ l with
      | (ok', m) => (ok && ok', m)
    | _ => (false, [])
end Go.Proofs.YtjkicmlelilcaaaDoor.V2
namespace Go.Proofs.YtjkicmlelilcaaaDoor.V2
open Go
open Go.RowKit
theorem atV_get {vs : List Value} {j : Nat} {v : Value} (h : vs[j]? = some v) : atV vs j = v := by
  unfold atV; rw [List.getD_eq_getElem?_getD, h]; rfl
theorem atP_get {ps : List (List UInt8)} {j : Nat} {p : List UInt8} (h : ps[j]? = some p) : atP ps j = p := by
  unfold atP; rw [List.getD_eq_getElem?_getD, h]; rfl
theorem parts_of {ρ : Ren} {σ : AH} {W : World} (hr : HR ρ σ W) : ∀ {l : List AV} {vs : List Value}, VRs ρ l vs → (partsA std byI σ l).1 = true → vs.length = ((partsA std byI σ l).2.map toBs).length ∧ ∀ j, j < vs.length → BSl W (atV vs j) (atP ((partsA std byI σ l).2.map toBs) j)
  | [], _, h, _ => by rw [show _ = [] from h]; exact ⟨rfl, fun j hj => by simp at hj⟩
  | a :: l, _, ⟨v, m, e, hv, hm⟩, hok => by
    subst e
    unfold partsA at hok ⊢
    have hB := fun h => bytes_of hr hv h
    have hL := fun h => parts_of hr hm h
    generalize bytesA std byI σ a = b at hok hB ⊢
    generalize partsA std byI σ l = q at hok hL ⊢
    obtain ⟨ok, b⟩ := b
    obtain ⟨ok', q⟩ := q
    simp only [Bool.and_eq_true] at hok hB hL ⊢
    obtain ⟨h1, h2⟩ := hL hok.2
    refine ⟨by simp [h1], fun j hj => ?_⟩
    cases j with
    | zero => exact (hB hok.1).1
    | succ j =>
      have := h2 j (by simpa using hj)
      simpa [atV, atP] using this
theorem list_of {ρ : Ren} {σ : AH} {W : World} (hr : HR ρ σ W) {s : AV} {v : Value} (hv : VR ρ s v) (hok : (listA std byI σ s).1 = true) : ∃ vs, PSl W v vs ((listA std byI σ s).2.map toBs) := by
  unfold listA at hok ⊢
  generalize hrow : rowA std false 1 σ s = row at hok ⊢
  obtain ⟨ok, n, r⟩ := row
  simp only at hok ⊢
  cases r with
  | ints k l => cases hok
  | cells l =>
    simp only at hok ⊢
    have hp := fun vs (h : VRs ρ l vs) => parts_of hr h
    generalize hpa : partsA std byI σ l = q at hok hp ⊢
    obtain ⟨ok', m⟩ := q
    simp only [Bool.and_eq_true] at hok hp ⊢
    obtain ⟨hok, hok'⟩ := hok
    cases s
    case nilsl =>
      simp only [VR] at hv
      simp only [rowA, Prod.mk.injEq, Row.cells.injEq] at hrow
      obtain ⟨_, _, rfl⟩ := hrow
      cases hpa
      subst hv
      exact ⟨[], ⟨rfl, .inl ⟨rfl, rfl⟩, fun j hj => by simp at hj⟩⟩
    case sl b o n' k e z =>
      obtain ⟨c, d, o', k', hb, rfl, ho, hnk, hk, _, _⟩ := (vr_sl hv).resolve_right id
      have hc := (hr.dom _ _ _ hb).2.1
      simp only [rowA] at hrow
      cases hob : σ.get b with
      | none => rw [hob] at hrow; cases hrow; cases hok
      | some ob =>
        rw [hob] at hrow
        cases ob with
        | map m => cases hrow; cases hok
        | ints ik m e2 t => simp at hrow
        | dead =>
          simp only [Prod.mk.injEq, Row.cells.injEq] at hrow
          obtain ⟨h1, _, rfl⟩ := hrow
          cases hpa
          rw [← h1, Bool.and_eq_true, Nat.beq_eq] at hok
          obtain rfl := hok.2
          exact ⟨[], ⟨rfl, .inr ⟨c, o', k', rfl, Nat.zero_le _, hc, fun j hj => by simp at hj⟩, fun j hj => by simp at hj⟩⟩
        | cells q e2 t =>
          simp only [Prod.mk.injEq, Row.cells.injEq] at hrow
          obtain ⟨h1, _, h2⟩ := hrow
          rw [← h1] at hok
          simp only [Bool.and_eq_true, Nat.ble_eq, Nat.mul_one] at hok h2
          by_cases hn : n' = 0
          · subst hn
            rw [List.take_zero] at h2
            subst h2
            cases hpa
            exact ⟨[], ⟨rfl, .inr ⟨c, o', k', rfl, Nat.zero_le _, hc, fun j hj => by simp at hj⟩, fun j hj => by simp at hj⟩⟩
          have ho := ho (by omega)
          subst ho
          have hll : l.length = n' := by rw [← h2, List.length_take, List.length_drop]; omega
          -- the values of the row
          have hex : ∀ j, j < n' → ∃ u, W.cell? ⟨c, o + d.1 + j, none⟩ = some u ∧ ∀ a, l[j]? = some a → VR ρ a u := fun j hj => by
            have hq : o + j < q.length := by omega
            obtain ⟨u, hu, hur⟩ := hr.load (i := o + j) (a := q[o + j]) hb hob (by simp only [AObj.at]; exact List.getElem?_eq_getElem hq)
            refine ⟨u, by rw [show o + d.1 + j = o + j + d.1 by omega]; exact hu, fun a ha => ?_⟩
            rw [← h2, List.getElem?_take, if_pos hj, List.getElem?_drop, List.getElem?_eq_getElem hq] at ha
            cases ha; exact hur
          obtain ⟨vs, hvl, hvs⟩ : ∃ vs : List Value, vs.length = n' ∧ ∀ j, j < n' → W.cell? ⟨c, o + d.1 + j, none⟩ = some (atV vs j) ∧ ∀ a, l[j]? = some a → VR ρ a (atV vs j) := by
            refine ⟨(List.range n').map fun j => (W.cell? ⟨c, o + d.1 + j, none⟩).getD undef, by simp, fun j hj => ?_⟩
            obtain ⟨u, hu, hua⟩ := hex j hj
            have : atV ((List.range n').map fun j => (W.cell? ⟨c, o + d.1 + j, none⟩).getD undef) j = u := atV_get (by simp [hj, hu])
            rw [this]; exact ⟨hu, hua⟩
          have hV : VRs ρ l vs := VRs.of l vs (by rw [hvl, hll]) fun j a ha => by
            have hj : j < n' := by rw [← hll]; exact (List.getElem?_eq_some_iff.1 ha).1
            refine ⟨atV vs j, ?_, (hvs j hj).2 a ha⟩
            unfold atV
            rw [List.getD_eq_getElem?_getD, List.getElem?_eq_getElem (by omega)]; rfl
          obtain ⟨p1, p2⟩ := hp vs hV hok'
          have hpl : (m.map toBs).length = n' := by rw [← p1, hvl]
          exact ⟨vs, ⟨p1, .inr ⟨c, o + d.1, k', by rw [hpl], by rw [hpl]; omega, hc, fun j hj => (hvs j (by rw [hpl] at hj; exact hj)).1⟩, fun j hj => p2 j (by rw [hpl] at hj; rw [hvl]; exact hj)⟩⟩
    all_goals (simp only [rowA, Prod.mk.injEq] at hrow; obtain ⟨h1, _⟩ := hrow; rw [← h1] at hok; cases hok)
end Go.Proofs.YtjkicmlelilcaaaDoor.V2
namespace Go.Proofs.YtjkicmlelilcaaaDoor.V2
open Go
open Go.RowKit
noncomputable def globA (σ : AH) (g : Nat) (t : List Int → Bool) : Bool := match σ.get g with
  | some ob => match ob with
    | .ints k l _ _ => match k with
      | .u32 => t l
      | _ => false
    | _ => false
  | none => false
noncomputable def tabA (σ : AH) (g n : Nat) (t : List Int → Bool) : Bool := match σ.get g with
  | some ob => match ob with
    | .cells l _ _ => match l with
      | [.sl b o m _ _ _] => Nat.beq o 0 && Nat.beq m n && globA σ b t
      | _ => false
    | _ => false
  | none => false
theorem glob_of {ρ : Ren} {σ : AH} {W : World} (hr : HR ρ σ W) {g n : Nat} {T : List UInt32} {t : List Int → Bool} (ht : ∀ l, t l = true → l = wI T) (hn : T.length = n) (hg : ∃ s, ρ g = some (g, (0, s))) (h : globA σ g t = true) : ∀ i, i < n → W.cell? ⟨g, i, none⟩ = some (.int .u32 (N32 (at32 T i))) := by
  unfold globA at h
  split at h
  case h_2 => cases h
  rename_i ob hob
  split at h
  case h_2 => cases h
  rename_i k l e tl
  split at h
  case h_2 => cases h
  have hl := ht _ h
  subst hl
  obtain ⟨s, hs⟩ := hg
  intro i hi
  have hi2 : i < (wI T).length := by rw [wI_length, hn]; exact hi
  obtain ⟨u, hu, hur⟩ := hr.load (i := i) (a := .int .u32 (wI T)[i]) hs hob (by simp only [AObj.at]; rw [List.getElem?_eq_getElem hi2]; rfl)
  simp only [VR] at hur
  subst hur
  have hu : W.cell? ⟨g, i, none⟩ = _ := hu
  rw [hu]
  have := wI_getD T i
  rw [List.getD_eq_getElem?_getD, List.getElem?_eq_getElem hi2] at this
  rw [← this]; rfl
theorem tab_of {ρ : Ren} {σ : AH} {W : World} (hr : HR ρ σ W) {g n : Nat} {T : List UInt32} {t : List Int → Bool} (ht : ∀ l, t l = true → l = wI T) (hn : T.length = n) (hn0 : 0 < n) (hg : ∃ s, ρ g = some (g, (0, s))) (h : tabA σ g n t = true) : TabC W g T := by
  unfold tabA at h
  split at h
  case h_2 => cases h
  rename_i ob hob
  split at h
  case h_2 => cases h
  rename_i l e2 t2
  split at h
  case h_2 => cases h
  rename_i b o m k e z
  rw [Bool.and_eq_true, Bool.and_eq_true, Nat.beq_eq, Nat.beq_eq] at h
  obtain ⟨⟨rfl, rfl⟩, h⟩ := h
  unfold globA at h
  split at h
  case h_2 => cases h
  rename_i ob2 hob2
  split at h
  case h_2 => cases h
  rename_i kk l2 e3 t3
  split at h
  case h_2 => cases h
  have hl := ht _ h
  subst hl
  obtain ⟨s, hs⟩ := hg
  obtain ⟨v, hv, hvr⟩ := hr.load (i := 0) (a := .sl b 0 m k e z) hs hob rfl
  obtain ⟨c, d, o', k', hb, rfl, ho, hnk, hk, _, _⟩ := (vr_sl hvr).resolve_right id
  have ho := ho (by omega)
  subst ho
  refine ⟨c, 0 + d.1, k', by rw [hn]; exact hv, by omega, (hr.dom _ _ _ hb).2.1, fun i hi => ?_⟩
  have hi2 : i < (wI T).length := by rw [wI_length]; exact hi
  obtain ⟨u, hu, hur⟩ := hr.load (i := i) (a := .int .u32 (wI T)[i]) hb hob2 (by simp only [AObj.at]; rw [List.getElem?_eq_getElem hi2]; rfl)
  simp only [VR] at hur
  subst hur
  rw [show 0 + d.1 + i = i + d.1 by omega, hu]
  have := wI_getD T i
  rw [List.getD_eq_getElem?_getD, List.getElem?_eq_getElem hi2] at this
  rw [← this]; rfl
def isS (l : List Int) : Bool := decide (l = wI S0)
def isK (l : List Int) : Bool := decide (l = wI KK)
def shaI (l : List Int) : List Int := bI (shaB (toBs l))
def hmI (k l : List Int) : List Int := bI (hmB (toBs k) (toBs l))
def catI (A : Ar) : List (List Int) → List Int
  | [] => []
  | [l] => l
  | l :: m => A.app l (catI A m)
theorem catI_std : ∀ l : List (List Int), catI std l = l.flatten
  | [] => rfl
  | [l] => by simp [catI]
  | l :: m :: r => by rw [catI, catI_std (m :: r)]; rfl; simp
/-- The contracts: Sh, Hm: what the functions compute; By: all are bytes; tS, tK: the tables. -/
noncomputable def Γ3 (A : Ar) (Sh : List Int → List Int) (Hm : List Int → List Int → List Int) (By tS tK : List Int → Bool) : Gam := fun f args σ =>
  bif Nat.beq f 12 then (match args with
    | [s] => match listA A By σ s with
      | (ok, ps) => (ok && Nat.ble ps.length 1000000 && A.leN (A.len (catI A ps)) 10000000000 && globA σ 0 tS && globA σ 3 tK, .ints .u8 (Sh (catI A ps)), σ)
    | _ => bad σ)
  else bif Nat.beq f 13 then (match args with
    | [s] => match bytesA A By σ s with
      | (ok, l) => (ok && A.leN (A.len l) 10000000000 && tabA σ 1 8 tS && tabA σ 2 64 tK, .ints .u8 (Sh l), σ)
    | _ => bad σ)
  else bif Nat.beq f 14 then (match args with
    | [k, s] => match bytesA A By σ k with
      | (ok1, kl) => match listA A By σ s with
        | (ok, ps) => (ok1 && ok && A.leN (A.len kl) 10000000000 && Nat.ble ps.length 1000000 && A.leN (A.len (catI A ps)) 10000000000 && globA σ 0 tS && globA σ 3 tK, .ints .u8 (Hm kl (catI A ps)), σ)
    | _ => bad σ)
  else bif Nat.beq f 15 then (match args with
    | [k, s] => match bytesA A By σ k with
      | (ok1, kl) => match bytesA A By σ s with
        | (ok, l) => (ok1 && ok && A.leN (A.len kl) 10000000000 && A.leN (A.len l) 10000000000 && tabA σ 1 8 tS && tabA σ 2 64 tK, .ints .u8 (Hm kl l), σ)
    | _ => bad σ)
  else bif Nat.beq f 16 then (match args with
    | [] => (globA σ 0 tS && globA σ 3 tK, .bool true, σ)
    | _ => bad σ)
  else bad σ
theorem flatten_toBs (ps : List (List Int)) : (ps.map toBs).flatten = toBs ps.flatten := by
  unfold toBs
  induction ps with
  | nil => rfl
  | cons p ps ih => rw [List.map_cons, List.flatten_cons, List.flatten_cons, List.map_append, ih]
theorem vr_bytes {ρ : Ren} (l : List UInt8) : VR ρ (.ints .u8 (bI l)) (.agg (c8 l)) := by
  unfold VR bI c8 c8l
  rw [List.map_map]; rfl
theorem vrs_one {ρ : Ren} {a : AV} {vs : List Value} (h : VRs ρ [a] vs) : ∃ v, vs = [v] ∧ VR ρ a v := by
  obtain ⟨v, m, rfl, hv, hm⟩ := h
  have hm : m = [] := hm
  subst hm; exact ⟨v, rfl, hv⟩
theorem vrs_two {ρ : Ren} {a b : AV} {vs : List Value} (h : VRs ρ [a, b] vs) : ∃ v u, vs = [v, u] ∧ VR ρ a v ∧ VR ρ b u := by
  obtain ⟨v, m, rfl, hv, u, m', rfl, hu, hm⟩ := h
  have hm : m' = [] := hm
  subst hm; exact ⟨v, u, rfl, hv, hu⟩
theorem gam3_ok : GamOk Tryd.prog 4 (Γ3 std shaI hmI byI isS isK) := by
  have isS' : ∀ l, isS l = true → l = wI S0 := fun l h => by simpa [isS] using h
  have isK' : ∀ l, isK l = true → l = wI KK := fun l h => by simpa [isK] using h
  intro f args σ h
  unfold Γ3 at h ⊢
  cases h12 : Nat.beq f 12
  case true =>
    rw [h12] at h
    have e := Nat.eq_of_beq_eq_true h12
    subst e
    simp only [cond_true] at h ⊢
    split at h
    case h_2 => cases h
    rename_i s
    refine ⟨⟨_, Tryd.func12, by kernel_rfl, by kernel_rfl⟩, fun ρ W vs hG hr hvs => ?_⟩
    obtain ⟨v, rfl, hv⟩ := vrs_one hvs
    have hL := fun h => list_of hr hv h
    dsimp only at h ⊢
    generalize listA std byI σ s = q at h hL ⊢
    obtain ⟨ok, ps⟩ := q
    simp only [Bool.and_eq_true, Nat.ble_eq] at h hL ⊢
    obtain ⟨⟨⟨⟨h1, h2⟩, h3⟩, h4⟩, h5⟩ := h
    obtain ⟨us, hP⟩ := hL h1
    rw [catI_std] at h3 ⊢
    have h3 : Nat.ble ps.flatten.length 10000000000 = true := h3
    rw [Nat.ble_eq] at h3
    obtain ⟨s3, hs3⟩ := hG 3 (by decide)
    refine (sha_any v us _ W hP (by rw [List.length_map]; omega) (by rw [flatten_toBs, toBs_length]; omega) (glob_of hr isK' rfl (hG 3 (by decide)) h5) (glob_of hr isS' rfl (hG 0 (by decide)) h4) (hr.dom _ _ _ hs3).2.1).mono fun e W' ⟨e1, e2⟩ => ?_
    subst e1
    rw [flatten_toBs]
    exact ⟨_, ρ, rfl, hr.below e2, Stp.below (Nat.le_refl _) e2, vr_bytes _⟩
  rw [h12] at h
  simp only [cond_false] at h ⊢
  cases h13 : Nat.beq f 13
  case true =>
    rw [h13] at h
    have e := Nat.eq_of_beq_eq_true h13
    subst e
    simp only [cond_true] at h ⊢
    split at h
    case h_2 => cases h
    rename_i s
    refine ⟨⟨_, Tryd.func13, by kernel_rfl, by kernel_rfl⟩, fun ρ W vs hG hr hvs => ?_⟩
    obtain ⟨v, rfl, hv⟩ := vrs_one hvs
    have hL := fun h => bytes_of hr hv h
    dsimp only at h ⊢
    generalize bytesA std byI σ s = q at h hL ⊢
    obtain ⟨ok, l⟩ := q
    simp only [Bool.and_eq_true] at h hL ⊢
    obtain ⟨⟨⟨h1, h2⟩, h3⟩, h4⟩ := h
    have h2 : Nat.ble l.length 10000000000 = true := h2
    rw [Nat.ble_eq] at h2
    obtain ⟨s3, hs3⟩ := hG 3 (by decide)
    refine (rsha_any v (toBs l) W (hL h1).1 (by rw [toBs_length]; omega) (tab_of hr isS' rfl (by decide) (hG 1 (by decide)) h3) (tab_of hr isK' rfl (by decide) (hG 2 (by decide)) h4) (hr.dom _ _ _ hs3).2.1).mono fun e W' ⟨e1, e2⟩ => ?_
    subst e1
    exact ⟨_, ρ, rfl, hr.below e2, Stp.below (Nat.le_refl _) e2, vr_bytes _⟩
  rw [h13] at h
  simp only [cond_false] at h ⊢
  cases h14 : Nat.beq f 14
  case true =>
    rw [h14] at h
    have e := Nat.eq_of_beq_eq_true h14
    subst e
    simp only [cond_true] at h ⊢
    split at h
    case h_2 => cases h
    rename_i k s
    refine ⟨⟨_, Tryd.func14, by kernel_rfl, by kernel_rfl⟩, fun ρ W vs hG hr hvs => ?_⟩
    obtain ⟨u, v, rfl, hu, hv⟩ := vrs_two hvs
    have hB := fun h => bytes_of hr hu h
    have hL := fun h => list_of hr hv h
    dsimp only at h ⊢
    generalize bytesA std byI σ k = q1 at h hB ⊢
    generalize listA std byI σ s = q at h hL ⊢
    obtain ⟨ok1, kl⟩ := q1
    obtain ⟨ok, ps⟩ := q
    simp only [Bool.and_eq_true, Nat.ble_eq] at h hB hL ⊢
    obtain ⟨⟨⟨⟨⟨⟨h0, h1⟩, h2⟩, h2'⟩, h3⟩, h4⟩, h5⟩ := h
    obtain ⟨us, hP⟩ := hL h1
    rw [catI_std] at h3 ⊢
    have h3 : Nat.ble ps.flatten.length 10000000000 = true := h3
    have h2 : Nat.ble kl.length 10000000000 = true := h2
    rw [Nat.ble_eq] at h3 h2
    obtain ⟨s3, hs3⟩ := hG 3 (by decide)
    refine (hmac_any u v (toBs kl) us _ W (hB h0).1 (by rw [toBs_length]; exact h2) hP (by rw [List.length_map]; omega) (by rw [flatten_toBs, toBs_length]; omega) (glob_of hr isK' rfl (hG 3 (by decide)) h5) (glob_of hr isS' rfl (hG 0 (by decide)) h4) (hr.dom _ _ _ hs3).2.1).mono fun e W' ⟨e1, e2⟩ => ?_
    subst e1
    rw [flatten_toBs]
    exact ⟨_, ρ, rfl, hr.below e2, Stp.below (Nat.le_refl _) e2, vr_bytes _⟩
  rw [h14] at h
  simp only [cond_false] at h ⊢
  cases h15 : Nat.beq f 15
  case true =>
    rw [h15] at h
    have e := Nat.eq_of_beq_eq_true h15
    subst e
    simp only [cond_true] at h ⊢
    split at h
    case h_2 => cases h
    rename_i k s
    refine ⟨⟨_, Tryd.func15, by kernel_rfl, by kernel_rfl⟩, fun ρ W vs hG hr hvs => ?_⟩
    obtain ⟨u, v, rfl, hu, hv⟩ := vrs_two hvs
    have hB := fun h => bytes_of hr hu h
    have hL := fun h => bytes_of hr hv h
    dsimp only at h ⊢
    generalize bytesA std byI σ k = q1 at h hB ⊢
    generalize bytesA std byI σ s = q at h hL ⊢
    obtain ⟨ok1, kl⟩ := q1
    obtain ⟨ok, l⟩ := q
    simp only [Bool.and_eq_true] at h hB hL ⊢
    obtain ⟨⟨⟨⟨⟨h0, h1⟩, h2⟩, h2'⟩, h3⟩, h4⟩ := h
    have h2' : Nat.ble l.length 10000000000 = true := h2'
    have h2 : Nat.ble kl.length 10000000000 = true := h2
    rw [Nat.ble_eq] at h2' h2
    obtain ⟨s3, hs3⟩ := hG 3 (by decide)
    refine (rhm_any u v (toBs kl) (toBs l) W (hB h0).1 (hL h1).1 (by rw [toBs_length]; exact h2) (by rw [toBs_length]; exact h2') (tab_of hr isS' rfl (by decide) (hG 1 (by decide)) h3) (tab_of hr isK' rfl (by decide) (hG 2 (by decide)) h4) (hr.dom _ _ _ hs3).2.1).mono fun e W' ⟨e1, e2⟩ => ?_
    subst e1
    exact ⟨_, ρ, rfl, hr.below e2, Stp.below (Nat.le_refl _) e2, vr_bytes _⟩
  rw [h15] at h
  simp only [cond_false] at h ⊢
  cases h16 : Nat.beq f 16
  case false => rw [h16] at h; cases h
  rw [h16] at h
  have e := Nat.eq_of_beq_eq_true h16
  subst e
  simp only [cond_true] at h ⊢
  split at h
  case h_2 => cases h
  refine ⟨⟨_, Tryd.func16, by kernel_rfl, by kernel_rfl⟩, fun ρ W vs hG hr hvs => ?_⟩
  rw [show vs = [] from hvs]
  simp only [Bool.and_eq_true] at h
  obtain ⟨s3, hs3⟩ := hG 3 (by decide)
  refine (tells_any W (glob_of hr isK' rfl (hG 3 (by decide)) h.2) (glob_of hr isS' rfl (hG 0 (by decide)) h.1) (hr.dom _ _ _ hs3).2.1).mono fun e W' ⟨e1, e2⟩ => ?_
  subst e1
  exact ⟨_, ρ, rfl, hr.below e2, Stp.below (Nat.le_refl _) e2, by unfold VR; rfl⟩
end Go.Proofs.YtjkicmlelilcaaaDoor.V2
namespace Go.Proofs.YtjkicmlelilcaaaDoor.V2
open Go
noncomputable section
/-- The memory has grown, no more. -/
structure Grown (σ σ' : AH) : Prop where
  next : σ.next ≤ σ'.next
  get : ∀ b, b < σ.next → σ'.get b = σ.get b
theorem Grown.refl (σ : AH) : Grown σ σ := ⟨Nat.le_refl _, fun _ _ => rfl⟩
theorem Grown.trans {σ σ' σ'' : AH} (h : Grown σ σ') (h' : Grown σ' σ'') : Grown σ σ'' := ⟨Nat.le_trans h.next h'.next, fun b hb => (h'.get b (Nat.lt_of_lt_of_le hb h.next)).trans (h.get b hb)⟩
theorem Grown.new {σ : AH} {o : AObj} (h : σ.next < 1000000) : Grown σ (σ.new o) := ⟨Nat.le_succ _, fun b hb => by
  show ((σ.mem.put σ.next o).get b) = σ.mem.get b
  rw [T.get_put _ _ _ _ (by omega), if_neg (by omega)]⟩
theorem get_new {σ : AH} {o : AObj} (h : σ.next < 1000000) : (σ.new o).get σ.next = some o := by
  show ((σ.mem.put σ.next o).get σ.next) = _
  rw [T.get_put _ _ _ _ (by omega), if_pos rfl]
/-- A slice of bytes. -/
inductive IsB (σ : AH) : AV → List Int → Prop
  | nil : IsB σ .nilsl []
  | sl (b o n k : Nat) (ex : Bool) (l m : List Int) (e : TypeId) (tl : Tl) (hb : b < σ.next) (hg : σ.get b = some (.ints .u8 m e tl)) (hn : o + n ≤ m.length) (hk : n ≤ k) (hl : l = (m.drop o).take n) : IsB σ (.sl b o n k ex 1) l
theorem IsB.mono {σ σ' : AH} (h : Grown σ σ') {v : AV} {l : List Int} (hv : IsB σ v l) : IsB σ' v l := by
  cases hv with
  | nil => exact .nil
  | sl b o n k ex l m e tl hb hg hn hk hl => exact .sl b o n k ex l m e tl (Nat.lt_of_lt_of_le hb h.next) (by rw [h.get b hb]; exact hg) hn hk hl
theorem IsB.row {σ : AH} {v : AV} {l : List Int} (hv : IsB σ v l) : ∃ r, rowA std false 1 σ v = (true, l.length, r) ∧ rowB r = some l ∧ (r = .ints .u8 l ∨ r = .cells [] ∧ l = []) := by
  cases hv with
  | nil => exact ⟨_, rfl, rfl, .inr ⟨rfl, rfl⟩⟩
  | sl b o n k ex l m e tl hb hg hn hk hl =>
    have hlen : l.length = n := by rw [hl, List.length_take, List.length_drop]; omega
    refine ⟨.ints .u8 l, ?_, rfl, .inl rfl⟩
    simp only [rowA, hg, std, Nat.mul_one]
    rw [← hl, hlen]
    have : Nat.ble (o + n) m.length = true := by rw [Nat.ble_eq]; exact hn
    rw [this]; rfl
theorem IsB.bytes {σ : AH} {v : AV} {l : List Int} (hv : IsB σ v l) (hl : byI l = true) : bytesA std byI σ v = (true, l) := by
  obtain ⟨r, h1, h2, _⟩ := hv.row
  simp only [bytesA, h1, h2, hl]; rfl
theorem IsB.isSl {σ : AH} {v : AV} {l : List Int} (hv : IsB σ v l) : isSl 1 v = true := by cases hv <;> rfl
theorem IsB.str {σ : AH} {v : AV} {l : List Int} (hv : IsB σ v l) : lstep std σ .sl2str [v] = (true, .str (toBs l)) := by
  obtain ⟨r, h1, h2, h3⟩ := hv.row
  simp only [lstep, h1]
  rcases h3 with rfl | ⟨rfl, rfl⟩ <;> rfl
theorem IsB.app {σ : AH} {v : AV} {l : List Int} (hv : IsB σ v l) (hs : σ.next < 1000000) (hl : l.length ≤ 1000000000000) (e : TypeId) : ∃ v' σ', xstep std σ (.append e false 1) [.nilsl, v] = (true, v', σ') ∧ IsB σ' v' l ∧ Grown σ σ' ∧ σ'.next ≤ σ.next + 1 := by
  obtain ⟨r, h1, h2, h3⟩ := hv.row
  simp only [xstep, h1]
  by_cases h0 : l.length = 0
  · have : l = [] := List.length_eq_zero_iff.1 h0
    subst this
    exact ⟨.nilsl, σ, rfl, .nil, Grown.refl _, Nat.le_succ _⟩
  · have hz : Nat.beq l.length 0 = false := by
      cases hb : Nat.beq l.length 0 with
      | false => rfl
      | true => exact absurd (Nat.eq_of_beq_eq_true hb) h0
    have hr : r = .ints .u8 l := h3.resolve_right fun h => h0 (by rw [h.2]; rfl)
    subst hr
    refine ⟨.sl σ.next 0 l.length l.length false 1, σ.new (.ints .u8 l e .more), ?_, .sl _ _ _ _ _ _ l e .more (Nat.lt_succ_self _) (get_new hs) (by omega) (Nat.le_refl _) (by simp), Grown.new hs, Nat.le_refl _⟩
    have h5 : Nat.ble l.length 1000000000000 = true := by rw [Nat.ble_eq]; omega
    have h6 : Nat.blt σ.next 1000000 = true := by rw [Nat.blt_eq]; exact hs
    have h7 : std.eqN l.length 0 = false := hz
    have h8 : rowA std false 1 σ .nilsl = (true, 0, .cells []) := rfl
    have h9 : std.addN 0 l.length = l.length := Nat.zero_add _
    have h10 : std.leN l.length 1000000000000 = true := h5
    simp only [h7, Bool.false_and, cond_false, appN, h1, h8, catA, baseOk, killA, h9, h10, h6, Bool.and_true, Bool.not_false]
theorem IsB.block {σ : AH} {v : AV} {l : List Int} (hv : IsB σ v l) (e : TypeId) : nstep std (.bslice e 1 1) [v] = (true, fun b => .sl b 0 1 1 true 1, .cells [v] e .exact) := by cases hv <;> rfl
theorem IsB.list {σ : AH} {v : AV} {l : List Int} {b : Nat} {e : TypeId} {tl : Tl} (hv : IsB σ v l) (hl : byI l = true) (hb : σ.get b = some (.cells [v] e tl)) : listA std byI σ (.sl b 0 1 1 true 1) = (true, [l]) := by
  have h1 : rowA std false 1 σ (.sl b 0 1 1 true 1) = (true, 1, .cells [v]) := by
    simp only [rowA, hb]
    cases hv <;> rfl
  simp only [listA, h1, partsA, hv.bytes hl]; rfl
theorem eq_u8 (l : List Int) (ks : List CK) (hk : ks.all CK.isInt = true) (hl : l.length = ks.length) : pstep std (.eqF false ks) [.ints .u8 l, .ints .u8 l] = (true, .bool true) := by
  have h : Nat.beq ks.length ks.length = true := Nat.beq_refl _
  simp [pstep, flatEq, hk, std, hl]
section
variable {A : Ar} {Γ : Gam} {G nt N : Nat} {K : AK} {env : T AV} {σ : AH}
theorem avc_reg_nil {b : ACode} (h : avc A Γ G nt N b K env σ) : avc A Γ G nt N (.seq (.reg []) b) K env σ := ⟨rfl, h⟩
theorem avc_reg_cons {r : CRow} {rows : List CRow} {b : ACode} {v : AV} {σ' : AH} (h : gstep A Γ (evS env) σ r = (true, v, σ')) (h2 : avc A Γ G nt N (.seq (.reg rows) b) K (putD env r.dst v) σ') : avc A Γ G nt N (.seq (.reg (r :: rows)) b) K env σ := by
  have h3 : (evP A Γ rows (putD env r.dst v) σ').1 = true ∧ (AK.seq (avc A Γ G nt N b K) K) .normal (evP A Γ rows (putD env r.dst v) σ').2.1 (evP A Γ rows (putD env r.dst v) σ').2.2 := h2
  show (evP A Γ (r :: rows) env σ).1 = true ∧ (AK.seq (avc A Γ G nt N b K) K) .normal (evP A Γ (r :: rows) env σ).2.1 (evP A Γ (r :: rows) env σ).2.2
  unfold evP
  rw [h]
  simp only
  generalize evP A Γ rows (putD env r.dst v) σ' = x at h3
  obtain ⟨ok, x⟩ := x
  exact h3
end
end
end Go.Proofs.YtjkicmlelilcaaaDoor.V2
namespace Go.Proofs.YtjkicmlelilcaaaDoor.V2
open Go
section
variable {A : Ar} {Γ : Gam} {G nt N : Nat} {K : AK} {env : T AV} {σ : AH} {ev : Ref → AV}
theorem g_if {op : COp} {d : Option Nat} {g : Ref} {b : Bool} {out : Out} (hg : ev g = .bool b) (h : gstep A Γ ev σ ⟨op, d, none⟩ = out) : gstep A Γ ev σ ⟨op, d, some (g, b)⟩ = out := by
  unfold gstep
  simp only [hg]
  cases b <;> exact h
theorem g_mov {d : Option Nat} {x : Ref} {v : AV} (h : ev x = v) : gstep A Γ ev σ ⟨.aop (.mov x), d, none⟩ = (true, v, σ) := by subst h; rfl
theorem g_pick {d : Option Nat} {c x y : Ref} {v : AV} (hc : ev c = .bool true) (h : ev x = v) : gstep A Γ ev σ ⟨.aop (.pick c x y), d, none⟩ = (true, v, σ) := by
  subst h
  show step A ev σ (.pick c x y) = _
  unfold step
  simp only [hc]; rfl
theorem g_ext {d : Option Nat} {x : XOp} {args : List Ref} {vs : List AV} {out : Out} (h : args.map ev = vs) (h2 : xstep A σ x vs = out) : gstep A Γ ev σ ⟨.aop (.ext x args), d, none⟩ = out := by subst h; exact h2
theorem g_call {d : Option Nat} {f : Ref} {n : FuncId} {args : List Ref} {vs : List AV} {out : Out} (hf : ev f = .fn (.func n) [] []) (h : args.map ev = vs) (h2 : Γ n vs σ = out) : gstep A Γ ev σ ⟨.call f args, d, none⟩ = out := by
  subst h
  show cstep A Γ ev σ (.call f args) = _
  unfold cstep
  simp only [hf, List.nil_append, List.append_nil]
  exact h2
theorem g_mk {d : Option Nat} {x : NOp} {args : List Ref} {vs : List AV} {v : Nat → AV} {o : AObj} (h : args.map ev = vs) (h2 : nstep A x vs = (true, v, o)) (hs : σ.next < 1000000) : gstep A Γ ev σ ⟨.aop (.mk x args), d, none⟩ = (true, v σ.next, σ.new o) := by
  subst h
  show step A ev σ (.mk x args) = _
  unfold step
  have : Nat.blt σ.next 1000000 = true := by rw [Nat.blt_eq]; exact hs
  simp only [h2, this]; rfl
theorem g_pur {d : Option Nat} {x : POp} {args : List Ref} {vs : List AV} {v : AV} (h : args.map ev = vs) (h2 : pstep A x vs = (true, v)) : gstep A Γ ev σ ⟨.aop (.pur x args), d, none⟩ = (true, v, σ) := by
  subst h
  show step A ev σ (.pur x args) = _
  unfold step
  simp only [h2]
theorem g_rd {d : Option Nat} {x : LOp} {args : List Ref} {vs : List AV} {v : AV} (h : args.map ev = vs) (h2 : lstep A σ x vs = (true, v)) : gstep A Γ ev σ ⟨.aop (.rd x args), d, none⟩ = (true, v, σ) := by
  subst h
  show step A ev σ (.rd x args) = _
  unfold step
  simp only [h2]
theorem g_eqs {d : Option Nat} {x y : Ref} {l : List UInt8} (hx : ev x = .str l) (hy : ev y = .str l) : gstep std Γ ev σ ⟨.aop (.bin .eql x y), d, none⟩ = (true, .bool true, σ) := by
  show step std ev σ (.bin .eql x y) = _
  unfold step
  simp [oBin, hx, hy, binS, std]
theorem g_lenb {d : Option Nat} {x : Ref} {v : AV} {l : List Int} (h : ev x = v) (hv : IsB σ v l) : gstep A Γ ev σ ⟨.aop (.lenSl x), d, none⟩ = (true, .int .i64 l.length, σ) := by
  have e : gstep A Γ ev σ ⟨.aop (.lenSl x), d, none⟩ = (match ev x with | .sl _ _ n _ _ _ => (true, .int .i64 n, σ) | .nilsl => (true, .int .i64 0, σ) | _ => bad σ) := rfl
  rw [e, h]
  cases hv with
  | nil => rfl
  | sl b o n k ex l m e tl hb hg hn hk hl =>
    have hlen : l.length = n := by rw [hl, List.length_take, List.length_drop]; omega
    simp only [hlen]
theorem evD_step {all : List (Nat × CRow)} {rc : Nat → List Nat} {p : Nat × CRow} {l : List (Nat × CRow)} {vals : T AV} {v : AV} {σ' : AH} {r : T AV × AH} (h : gstep A Γ (evR env vals) σ p.2 = (true, v, σ')) (hr : rechk A Γ env all (vals.put p.1 v) σ' (rc p.1) = true)
    (h2 : evD A Γ env all rc l (vals.put p.1 v) σ' = (true, r)) : evD A Γ env all rc (p :: l) vals σ = (true, r) := by
  rw [evD_cons, h]
  simp only [h2, hr]; rfl
theorem avc_seq_evD {st : List (Nat × CRow)} {rcs : List (Nat × List Nat)} {ds : List (Option Nat)} {b : ACode} {r : T AV × AH} (h : evD A Γ env st (rcGet rcs) st .leaf σ = (true, r)) (h2 : avc A Γ G nt N b K (putAll r.1 ds 0 env) r.2) : avc A Γ G nt N (.seq (.regd st rcs ds) b) K env σ :=
  avc_seq_regd (r := (true, putAll r.1 ds 0 env, r.2)) (by unfold evDr; rw [h]) rfl h2
end
/-- A slice of bytes cut to 150. -/
theorem IsB.cut {σ : AH} {v : AV} {l : List Int} (hv : IsB σ v l) (n : Nat) : ∃ v', oSlSl std 1 v none (some (.int .i64 (min (l.length : Int) n))) none σ = (true, v', σ) ∧ IsB σ v' (l.take n) := by
  cases hv with
  | nil =>
    have : min ((([] : List Int).length : Int)) (n : Int) = 0 := by simp; omega
    exact ⟨.nilsl, by rw [this]; rfl, by rw [List.take_nil]; exact .nil⟩
  | sl b o k c ex l m e tl hb hg hn hk hl =>
    have hlen : l.length = k := by rw [hl, List.length_take, List.length_drop]; omega
    have h1 : (min (l.length : Int) n).toNat = min k n := by omega
    have h2 : Nat.ble (min k n) c = true := by rw [Nat.ble_eq]; omega
    have h3 : (decide ((0 : Int) ≤ min (l.length : Int) n)) = true := by rw [decide_eq_true_eq]; omega
    refine ⟨.sl b o (min k n) c ex 1, ?_, .sl _ _ _ _ _ _ m e tl hb hg (by omega) (by omega) (by rw [hl, List.take_take, Nat.min_comm])⟩
    simp only [oSlSl, bnd, std, h1, h2, h3]
    simp
theorem min150 (n : Nat) : pstep std .minI [.int .i64 n, .int .i64 150] = (true, .int .i64 (min (n : Int) 150)) := by
  show minL std false .i64 n [.int .i64 150] = _
  have : (bif std.lt 150 (n : Int) then (150 : Int) else n) = min (n : Int) 150 := by
    show (bif decide ((150 : Int) < n) then (150 : Int) else n) = _
    by_cases h : (150 : Int) < n
    · simp only [h, decide_true, cond_true]; omega
    · simp only [h, decide_false, cond_false]; omega
  simp only [minL, cond_false, this]; rfl
theorem g_cut {Γ : Gam} {σ : AH} {ev : Ref → AV} {d : Option Nat} {x y : Ref} {v v' : AV} {n : Int} (hx : ev x = v) (hy : ev y = .int .i64 n) (h : oSlSl std 1 v none (some (.int .i64 n)) none σ = (true, v', σ)) : gstep std Γ ev σ ⟨.aop (.slSl 1 x none (some y) none), d, none⟩ = (true, v', σ) := by
  subst hx
  show oSlSl std 1 (ev x) none (some (ev y)) none σ = _
  rw [hy]; exact h
end Go.Proofs.YtjkicmlelilcaaaDoor.V2
namespace Go.Proofs.YtjkicmlelilcaaaDoor.V2
open Go
def c3 : ACode := (.seq (.reg [⟨(.aop (.mov (.lit (.bool false)))), (some 4), none⟩]) (.seq (.regd [(0, ⟨(.aop (.mov (.slot 0))), (some 7), none⟩), (1, ⟨(.aop (.mov (.slot 0))), (some 8), none⟩), (2, ⟨(.aop (.lenSl (.op 1))), (some 9), none⟩), (3, ⟨(.aop (.pur .minI [(.op 2), (.lit (.int .i64 (150)))])), (some 10), none⟩), (4, ⟨(.aop (.slSl 1 (.op 0) none (some (.op 3)) none)), (some 11), none⟩), (5, ⟨(.aop (.mov (.slot 1))), (some 12), none⟩), (6, ⟨(.aop (.mov (.slot 1))), (some 13), none⟩), (7, ⟨(.aop (.lenSl (.op 6))), (some 14), none⟩), (8, ⟨(.aop (.pur .minI [(.op 7), (.lit (.int .i64 (150)))])), (some 15), none⟩), (9, ⟨(.aop (.slSl 1 (.op 5) none (some (.op 8)) none)), (some 16), none⟩), (10, ⟨(.aop (.mov (.op 4))), (some 0), none⟩), (11, ⟨(.aop (.mov (.op 9))), (some 1), none⟩)] [] [(some 7), (some 8), (some 9), (some 10), (some 11), (some 12), (some 13), (some 14), (some 15), (some 16), (some 0), (some 1)]) (.seq (.reg [⟨(.aop (.mov (.slot 0))), (some 17), none⟩, ⟨(.aop (.ext (.append 5 false 1) [(.lit .nilsl), (.slot 17)])), (some 18), none⟩, ⟨(.aop (.mov (.slot 1))), (some 19), none⟩, ⟨(.aop (.ext (.append 5 false 1) [(.lit .nilsl), (.slot 19)])), (some 20), none⟩, ⟨(.aop (.mov (.slot 18))), (some 5), none⟩, ⟨(.aop (.mov (.slot 20))), (some 6), none⟩]) (.seq (.reg [⟨(.aop (.mov (.slot 6))), (some 21), none⟩, ⟨(.aop (.mk (.bslice 22 1 1) [(.slot 21)])), (some 22), none⟩, ⟨(.call (.lit (.fn (.func 12) [] [])) [(.slot 22)]), (some 23), none⟩, ⟨(.aop (.mov (.slot 1))), (some 24), none⟩, ⟨(.call (.lit (.fn (.func 13) [] [])) [(.slot 24)]), (some 25), none⟩, ⟨(.aop (.pur (.eqF false [.int, .int, .int, .int, .int, .int, .int, .int, .int, .int, .int, .int, .int, .int, .int, .int, .int, .int, .int, .int, .int, .int, .int, .int, .int, .int, .int, .int, .int, .int, .int, .int]) [(.slot 23), (.slot 25)])), (some 26), none⟩, ⟨(.aop (.mov (.slot 26))), (some 27), none⟩, ⟨(.aop (.mov (.slot 5))), (some 28), (some ((.slot 27), true))⟩, ⟨(.aop (.mov (.slot 6))), (some 29), (some ((.slot 27), true))⟩, ⟨(.aop (.mk (.bslice 22 1 1) [(.slot 29)])), (some 30), (some ((.slot 27), true))⟩, ⟨(.call (.lit (.fn (.func 14) [] [])) [(.slot 28), (.slot 30)]), (some 31), (some ((.slot 27), true))⟩, ⟨(.aop (.mov (.slot 0))), (some 32), (some ((.slot 27), true))⟩, ⟨(.aop (.mov (.slot 1))), (some 33), (some ((.slot 27), true))⟩, ⟨(.call (.lit (.fn (.func 15) [] [])) [(.slot 32), (.slot 33)]), (some 34), (some ((.slot 27), true))⟩, ⟨(.aop (.pur (.eqF false [.int, .int, .int, .int, .int, .int, .int, .int, .int, .int, .int, .int, .int, .int, .int, .int, .int, .int, .int, .int, .int, .int, .int, .int, .int, .int, .int, .int, .int, .int, .int, .int]) [(.slot 31), (.slot 34)])), (some 35), (some ((.slot 27), true))⟩, ⟨(.aop (.pick (.slot 27) (.slot 35) (.lit (.bool false)))), (some 36), none⟩, ⟨(.aop (.mov (.slot 36))), (some 37), none⟩, ⟨(.aop (.mov (.slot 5))), (some 38), (some ((.slot 37), true))⟩, ⟨(.aop (.rd .sl2str [(.slot 38)])), (some 39), (some ((.slot 37), true))⟩, ⟨(.aop (.mov (.slot 0))), (some 40), (some ((.slot 37), true))⟩, ⟨(.aop (.rd .sl2str [(.slot 40)])), (some 41), (some ((.slot 37), true))⟩, ⟨(.aop (.bin .eql (.slot 39) (.slot 41))), (some 42), (some ((.slot 37), true))⟩, ⟨(.aop (.pick (.slot 37) (.slot 42) (.lit (.bool false)))), (some 43), none⟩, ⟨(.aop (.mov (.slot 43))), (some 44), none⟩, ⟨(.aop (.mov (.slot 6))), (some 45), (some ((.slot 44), true))⟩, ⟨(.aop (.rd .sl2str [(.slot 45)])), (some 46), (some ((.slot 44), true))⟩, ⟨(.aop (.mov (.slot 1))), (some 47), (some ((.slot 44), true))⟩, ⟨(.aop (.rd .sl2str [(.slot 47)])), (some 48), (some ((.slot 44), true))⟩, ⟨(.aop (.bin .eql (.slot 46) (.slot 48))), (some 49), (some ((.slot 44), true))⟩, ⟨(.aop (.pick (.slot 44) (.slot 49) (.lit (.bool false)))), (some 50), none⟩, ⟨(.aop (.mov (.slot 50))), (some 51), none⟩, ⟨(.call (.lit (.fn (.func 16) [] [])) []), (some 52), (some ((.slot 51), true))⟩, ⟨(.aop (.pick (.slot 51) (.slot 52) (.lit (.bool false)))), (some 53), none⟩, ⟨(.aop (.mov (.slot 53))), (some 4), none⟩]) .ret))))
theorem comp3 : (V2.compC Tryd.prog 4 Tryd.f3.ntmps (fun _ => false) (Tryd.f3.body.getD .skip), V2.compR Tryd.prog Tryd.f3.results.toList) = (some c3, some [.tmp 4]) := by kernel_rfl
/-- The tables lie where they lie. -/
structure Tabs (σ : AH) : Prop where
  n : 5 < σ.next
  s : ∃ e t, σ.get 0 = some (.ints .u32 (wI S0) e t)
  k : ∃ e t, σ.get 3 = some (.ints .u32 (wI KK) e t)
  ts : ∃ e t k ex z e' t', σ.get 1 = some (.cells [.sl 4 0 8 k ex z] e t) ∧ σ.get 4 = some (.ints .u32 (wI S0) e' t')
  tk : ∃ e t k ex z e' t', σ.get 2 = some (.cells [.sl 5 0 64 k ex z] e t) ∧ σ.get 5 = some (.ints .u32 (wI KK) e' t')
theorem Tabs.mono {σ σ' : AH} (h : Tabs σ) (g : Grown σ σ') : Tabs σ' := by
  have hn := h.n
  refine ⟨Nat.lt_of_lt_of_le h.n g.next, ?_, ?_, ?_, ?_⟩
  · rw [g.get 0 (by omega)]; exact h.s
  · rw [g.get 3 (by omega)]; exact h.k
  · rw [g.get 1 (by omega), g.get 4 (by omega)]; exact h.ts
  · rw [g.get 2 (by omega), g.get 5 (by omega)]; exact h.tk
theorem Tabs.g0 {σ : AH} (h : Tabs σ) : globA σ 0 isS = true := by
  obtain ⟨e, t, h⟩ := h.s
  simp [globA, h, isS]
theorem Tabs.g3 {σ : AH} (h : Tabs σ) : globA σ 3 isK = true := by
  obtain ⟨e, t, h⟩ := h.k
  simp [globA, h, isK]
theorem Tabs.t1 {σ : AH} (h : Tabs σ) : tabA σ 1 8 isS = true := by
  obtain ⟨e, t, k, ex, z, e', t', h1, h2⟩ := h.ts
  simp [tabA, h1, globA, h2, isS]
theorem Tabs.t2 {σ : AH} (h : Tabs σ) : tabA σ 2 64 isK = true := by
  obtain ⟨e, t, k, ex, z, e', t', h1, h2⟩ := h.tk
  simp [tabA, h1, globA, h2, isK]
theorem le_std {n m : Nat} (h : n ≤ m) : std.leN n m = true := by
  show Nat.ble n m = true
  rw [Nat.ble_eq]; exact h
theorem one_cat (l : List Int) : catI std [l] = l := rfl
section
variable {σ : AH}
theorem g3_12 {v : AV} {l : List Int} (hT : Tabs σ) (h : listA std byI σ v = (true, [l])) (hl : l.length ≤ 10000000000) : Γ3 std shaI hmI byI isS isK 12 [v] σ = (true, .ints .u8 (shaI l), σ) := by
  have hl : std.leN (std.len l) 10000000000 = true := le_std hl
  have e : Nat.beq 12 12 = true := rfl
  simp only [Γ3, e, cond_true, h, one_cat, hl, hT.g0, hT.g3]; rfl
theorem g3_13 {v : AV} {l : List Int} (hT : Tabs σ) (h : bytesA std byI σ v = (true, l)) (hl : l.length ≤ 10000000000) : Γ3 std shaI hmI byI isS isK 13 [v] σ = (true, .ints .u8 (shaI l), σ) := by
  have hl : std.leN (std.len l) 10000000000 = true := le_std hl
  have e : Nat.beq 13 12 = false := rfl
  have e2 : Nat.beq 13 13 = true := rfl
  simp only [Γ3, e, e2, cond_true, cond_false, h, hl, hT.t1, hT.t2]; rfl
theorem g3_14 {k v : AV} {kl l : List Int} (hT : Tabs σ) (hk : bytesA std byI σ k = (true, kl)) (h : listA std byI σ v = (true, [l])) (hkl : kl.length ≤ 10000000000) (hl : l.length ≤ 10000000000) : Γ3 std shaI hmI byI isS isK 14 [k, v] σ = (true, .ints .u8 (hmI kl l), σ) := by
  have hl : std.leN (std.len l) 10000000000 = true := le_std hl
  have hkl : std.leN (std.len kl) 10000000000 = true := le_std hkl
  have e : Nat.beq 14 12 = false := rfl
  have e2 : Nat.beq 14 13 = false := rfl
  have e3 : Nat.beq 14 14 = true := rfl
  simp only [Γ3, e, e2, e3, cond_true, cond_false, hk, h, one_cat, hkl, hl, hT.g0, hT.g3]; rfl
theorem g3_15 {k v : AV} {kl l : List Int} (hT : Tabs σ) (hk : bytesA std byI σ k = (true, kl)) (h : bytesA std byI σ v = (true, l)) (hkl : kl.length ≤ 10000000000) (hl : l.length ≤ 10000000000) : Γ3 std shaI hmI byI isS isK 15 [k, v] σ = (true, .ints .u8 (hmI kl l), σ) := by
  have hl : std.leN (std.len l) 10000000000 = true := le_std hl
  have hkl : std.leN (std.len kl) 10000000000 = true := le_std hkl
  have e : Nat.beq 15 12 = false := rfl
  have e2 : Nat.beq 15 13 = false := rfl
  have e3 : Nat.beq 15 14 = false := rfl
  have e4 : Nat.beq 15 15 = true := rfl
  simp only [Γ3, e, e2, e3, e4, cond_true, cond_false, hk, h, hkl, hl, hT.t1, hT.t2]; rfl
theorem g3_16 (hT : Tabs σ) : Γ3 std shaI hmI byI isS isK 16 [] σ = (true, .bool true, σ) := by
  have e : Nat.beq 16 12 = false := rfl
  have e2 : Nat.beq 16 13 = false := rfl
  have e3 : Nat.beq 16 14 = false := rfl
  have e4 : Nat.beq 16 15 = false := rfl
  have e5 : Nat.beq 16 16 = true := rfl
  simp only [Γ3, e, e2, e3, e4, e5, cond_true, cond_false, hT.g0, hT.g3]; rfl
end
theorem byI_take {l : List Int} (h : byI l = true) (n : Nat) : byI (l.take n) = true := by
  unfold byI at h ⊢
  rw [List.all_eq_true] at h ⊢
  exact fun x hx => h x (List.mem_of_mem_take hx)
def K32 : List CK := [.int, .int, .int, .int, .int, .int, .int, .int, .int, .int, .int, .int, .int, .int, .int, .int, .int, .int, .int, .int, .int, .int, .int, .int, .int, .int, .int, .int, .int, .int, .int, .int]
theorem walk3 {Γ : Gam} {Sh : List Int → List Int} {Hm : List Int → List Int → List Int} (hSh : ∀ l, (Sh l).length = 32) (hHm : ∀ k l, (Hm k l).length = 32)
    (h12 : ∀ σ v l, Tabs σ → listA std byI σ v = (true, [l]) → l.length ≤ 10000000000 → Γ 12 [v] σ = (true, .ints .u8 (Sh l), σ))
    (h13 : ∀ σ v l, Tabs σ → bytesA std byI σ v = (true, l) → l.length ≤ 10000000000 → Γ 13 [v] σ = (true, .ints .u8 (Sh l), σ))
    (h14 : ∀ σ k v kl l, Tabs σ → bytesA std byI σ k = (true, kl) → listA std byI σ v = (true, [l]) → kl.length ≤ 10000000000 → l.length ≤ 10000000000 → Γ 14 [k, v] σ = (true, .ints .u8 (Hm kl l), σ))
    (h15 : ∀ σ k v kl l, Tabs σ → bytesA std byI σ k = (true, kl) → bytesA std byI σ v = (true, l) → kl.length ≤ 10000000000 → l.length ≤ 10000000000 → Γ 15 [k, v] σ = (true, .ints .u8 (Hm kl l), σ))
    (h16 : ∀ σ, Tabs σ → Γ 16 [] σ = (true, .bool true, σ))
    {σ : AH} {ka ba : AV} {kl bl : List Int} (hk : IsB σ ka kl) (hb : IsB σ ba bl) (hkb : byI kl = true) (hbb : byI bl = true) (hT : Tabs σ) (hs : σ.next ≤ 900000) {K : AV → AH → Prop} (hK : ∀ σ', K (.bool true) σ') {N : Nat} :
    avc std Γ 4 54 N c3 (fun e env σ' => (match e with | .normal => True | .ret => True | _ => False) ∧ (resL std env σ' [.tmp 4]).1 = true ∧ K (retV (resL std env σ' [.tmp 4]).2) σ') (envOf [ka, ba] 0 .leaf) σ := by
  unfold c3
  refine avc_reg_cons (g_mov (v := .bool false) (by kernel_rfl)) (avc_reg_nil ?_)
  obtain ⟨ka', ek, hk'⟩ := hk.cut 150
  obtain ⟨ba', eb, hb'⟩ := hb.cut 150
  -- the region that draws its order
  refine avc_seq_evD (evD_step (g_mov (v := ka) (by kernel_rfl)) rfl (evD_step (g_mov (v := ka) (by kernel_rfl)) rfl (evD_step (g_lenb (v := ka) (by kernel_rfl) hk) rfl (evD_step (g_pur (vs := [.int .i64 kl.length, .int .i64 150]) (by kernel_rfl) (min150 _)) rfl
    (evD_step (g_cut (v := ka) (n := min (kl.length : Int) 150) (by kernel_rfl) (by kernel_rfl) ek) rfl
    (evD_step (g_mov (v := ba) (by kernel_rfl)) rfl (evD_step (g_mov (v := ba) (by kernel_rfl)) rfl (evD_step (g_lenb (v := ba) (by kernel_rfl) hb) rfl (evD_step (g_pur (vs := [.int .i64 bl.length, .int .i64 150]) (by kernel_rfl) (min150 _)) rfl
    (evD_step (g_cut (v := ba) (n := min (bl.length : Int) 150) (by kernel_rfl) (by kernel_rfl) eb) rfl
    (evD_step (g_mov (v := ka') (by kernel_rfl)) rfl (evD_step (g_mov (v := ba') (by kernel_rfl)) rfl rfl)))))))))))) ?_

  have hkt := byI_take hkb 150
  have hbt := byI_take hbb 150
  have hkn : (kl.take 150).length ≤ 150 := by rw [List.length_take]; omega
  have hbn : (bl.take 150).length ≤ 150 := by rw [List.length_take]; omega
  generalize kl.take 150 = kl' at hk' hkt hkn ek
  generalize bl.take 150 = bl' at hb' hbt hbn eb
  obtain ⟨kc, σ1, x1, hkc, gr1, n1⟩ := hk'.app (by omega) (by omega) 5
  obtain ⟨bc, σ2, x2, hbc, gr2, n2⟩ := (hb'.mono gr1).app (by omega) (by omega) 5
  have hT1 := hT.mono gr1
  have hT2 := hT1.mono gr2
  refine avc_reg_cons (g_mov (v := ka') (by kernel_rfl)) ?_
  refine avc_reg_cons (g_ext (vs := [.nilsl, ka']) (by kernel_rfl) x1) ?_
  refine avc_reg_cons (g_mov (v := ba') (by kernel_rfl)) ?_
  refine avc_reg_cons (g_ext (vs := [.nilsl, ba']) (by kernel_rfl) x2) ?_
  refine avc_reg_cons (g_mov (v := kc) (by kernel_rfl)) ?_
  refine avc_reg_cons (g_mov (v := bc) (by kernel_rfl)) ?_
  refine avc_reg_nil ?_
  refine avc_reg_cons (g_mov (v := bc) (by kernel_rfl)) ?_
  have gr3 : Grown σ2 (σ2.new (.cells [bc] 22 .exact)) := Grown.new (by omega)
  have hT3 := hT2.mono gr3
  have hg3 : (σ2.new (.cells [bc] 22 .exact)).get σ2.next = some (.cells [bc] 22 .exact) := get_new (by omega)
  have n3 : (σ2.new (.cells [bc] 22 .exact)).next = σ2.next + 1 := rfl
  refine avc_reg_cons (g_mk (vs := [bc]) (by kernel_rfl) (hbc.block 22) (by omega)) ?_
  dsimp only
  generalize σ2.new (.cells [bc] 22 .exact) = σ3 at gr3 hT3 hg3 n3 ⊢
  refine avc_reg_cons (g_call (n := 12) (vs := [.sl σ2.next 0 1 1 true 1]) (by kernel_rfl) (by kernel_rfl) (h12 σ3 _ bl' hT3 ((hbc.mono gr3).list hbt hg3) (by omega))) ?_
  refine avc_reg_cons (g_mov (v := ba') (by kernel_rfl)) ?_
  have gB3 := (gr1.trans gr2).trans gr3
  refine avc_reg_cons (g_call (n := 13) (vs := [ba']) (by kernel_rfl) (by kernel_rfl) (h13 σ3 _ bl' hT3 ((hb'.mono gB3).bytes hbt) (by omega))) ?_
  refine avc_reg_cons (g_pur (vs := [.ints .u8 (Sh bl'), .ints .u8 (Sh bl')]) (by kernel_rfl) (eq_u8 (Sh bl') K32 rfl (hSh _))) ?_
  refine avc_reg_cons (g_mov (v := .bool true) (by kernel_rfl)) ?_
  refine avc_reg_cons (g_if (by kernel_rfl) (g_mov (v := kc) (by kernel_rfl))) ?_
  refine avc_reg_cons (g_if (by kernel_rfl) (g_mov (v := bc) (by kernel_rfl))) ?_
  have gr4 : Grown σ3 (σ3.new (.cells [bc] 22 .exact)) := Grown.new (by omega)
  have hT4 := hT3.mono gr4
  have hg4 : (σ3.new (.cells [bc] 22 .exact)).get σ3.next = some (.cells [bc] 22 .exact) := get_new (by omega)
  refine avc_reg_cons (g_if (by kernel_rfl) (g_mk (vs := [bc]) (by kernel_rfl) (hbc.block 22) (by omega))) ?_
  dsimp only
  generalize σ3.new (.cells [bc] 22 .exact) = σ4 at gr4 hT4 hg4 ⊢
  have gk4 := (gr2.trans gr3).trans gr4
  have gb4 := gr3.trans gr4
  have gB4 := gB3.trans gr4
  refine avc_reg_cons (g_if (by kernel_rfl) (g_call (n := 14) (vs := [kc, .sl σ3.next 0 1 1 true 1]) (by kernel_rfl) (by kernel_rfl) (h14 σ4 _ _ kl' bl' hT4 ((hkc.mono gk4).bytes hkt) ((hbc.mono gb4).list hbt hg4) (by omega) (by omega)))) ?_
  refine avc_reg_cons (g_if (by kernel_rfl) (g_mov (v := ka') (by kernel_rfl))) ?_
  refine avc_reg_cons (g_if (by kernel_rfl) (g_mov (v := ba') (by kernel_rfl))) ?_
  refine avc_reg_cons (g_if (by kernel_rfl) (g_call (n := 15) (vs := [ka', ba']) (by kernel_rfl) (by kernel_rfl) (h15 σ4 _ _ kl' bl' hT4 ((hk'.mono gB4).bytes hkt) ((hb'.mono gB4).bytes hbt) (by omega) (by omega)))) ?_
  refine avc_reg_cons (g_if (by kernel_rfl) (g_pur (vs := [.ints .u8 (Hm kl' bl'), .ints .u8 (Hm kl' bl')]) (by kernel_rfl) (eq_u8 (Hm kl' bl') K32 rfl (hHm _ _)))) ?_
  refine avc_reg_cons (g_pick (v := .bool true) (by kernel_rfl) (by kernel_rfl)) ?_
  refine avc_reg_cons (g_mov (v := .bool true) (by kernel_rfl)) ?_
  refine avc_reg_cons (g_if (by kernel_rfl) (g_mov (v := kc) (by kernel_rfl))) ?_
  refine avc_reg_cons (g_if (by kernel_rfl) (g_rd (vs := [kc]) (by kernel_rfl) (hkc.mono gk4).str)) ?_
  refine avc_reg_cons (g_if (by kernel_rfl) (g_mov (v := ka') (by kernel_rfl))) ?_
  refine avc_reg_cons (g_if (by kernel_rfl) (g_rd (vs := [ka']) (by kernel_rfl) (hk'.mono gB4).str)) ?_
  refine avc_reg_cons (g_if (by kernel_rfl) (g_eqs (l := toBs kl') (by kernel_rfl) (by kernel_rfl))) ?_
  refine avc_reg_cons (g_pick (v := .bool true) (by kernel_rfl) (by kernel_rfl)) ?_
  refine avc_reg_cons (g_mov (v := .bool true) (by kernel_rfl)) ?_
  refine avc_reg_cons (g_if (by kernel_rfl) (g_mov (v := bc) (by kernel_rfl))) ?_
  refine avc_reg_cons (g_if (by kernel_rfl) (g_rd (vs := [bc]) (by kernel_rfl) (hbc.mono gb4).str)) ?_
  refine avc_reg_cons (g_if (by kernel_rfl) (g_mov (v := ba') (by kernel_rfl))) ?_
  refine avc_reg_cons (g_if (by kernel_rfl) (g_rd (vs := [ba']) (by kernel_rfl) (hb'.mono gB4).str)) ?_
  refine avc_reg_cons (g_if (by kernel_rfl) (g_eqs (l := toBs bl') (by kernel_rfl) (by kernel_rfl))) ?_
  refine avc_reg_cons (g_pick (v := .bool true) (by kernel_rfl) (by kernel_rfl)) ?_
  refine avc_reg_cons (g_mov (v := .bool true) (by kernel_rfl)) ?_
  refine avc_reg_cons (g_if (by kernel_rfl) (g_call (n := 16) (vs := []) (by kernel_rfl) rfl (h16 σ4 hT4))) ?_
  refine avc_reg_cons (g_pick (v := .bool true) (by kernel_rfl) (by kernel_rfl)) ?_
  refine avc_reg_cons (g_mov (v := .bool true) (by kernel_rfl)) ?_
  refine avc_reg_nil ?_
  exact ⟨trivial, rfl, hK σ4⟩
end Go.Proofs.YtjkicmlelilcaaaDoor.V2
namespace Go.Proofs.YtjkicmlelilcaaaDoor.V2
open Go
open Go.RowKit
/-- A slice of bytes: none, or one that lies in a block. -/
def BSn (W : World) (v : Value) (bs : List UInt8) : Prop :=
  (v = .slice none 0 0 ∧ bs = []) ∨ ∃ b off c, v = .slice (some ⟨b, off, none⟩) bs.length c ∧ bs.length ≤ c ∧ b < W.heap.size ∧ ∀ i, i < bs.length → W.cell? ⟨b, off + i, none⟩ = some (.int .u8 (N8 (at8 bs i)))
noncomputable def memL : List AObj → Nat → T AObj → T AObj
  | [], _, t => t
  | a :: l, i, t => memL l (i + 1) (t.put i a)
theorem memL_get : ∀ (l : List AObj) (i : Nat) (t : T AObj) (m : Nat), i + l.length ≤ 1048576 → (memL l i t).get m = if i ≤ m ∧ m < i + l.length then l[m - i]? else t.get m
  | [], i, t, m, _ => by rw [if_neg (by intro h; simp at h; omega)]; rfl
  | a :: l, i, t, m, h => by
    simp only [List.length_cons] at h
    show (memL l (i + 1) (t.put i a)).get m = _
    rw [memL_get l (i + 1) _ m (by omega), T.get_put _ _ _ _ (by omega)]
    by_cases h1 : i + 1 ≤ m ∧ m < i + 1 + l.length
    · rw [if_pos h1, if_pos (by simp; omega), show m - i = (m - (i + 1)) + 1 by omega, List.getElem?_cons_succ]
    · rw [if_neg h1]
      by_cases hm : m = i
      · subst hm; rw [if_pos rfl, if_pos (by simp)]; simp
      · rw [if_neg hm, if_neg (by simp; omega)]
noncomputable def hL (l : List AObj) : AH := ⟨l.length, memL l 0 .leaf⟩
theorem hL_get {l : List AObj} (h : l.length ≤ 1000000) (b : Nat) : (hL l).get b = l[b]? := by
  show (memL l 0 .leaf).get b = _
  rw [memL_get _ _ _ _ (by omega), T.get_leaf]
  by_cases hb : b < l.length
  · rw [if_pos (by omega)]; simp
  · rw [if_neg (by omega), List.getElem?_eq_none (by omega)]
/-- Where the blocks of a list lie. -/
def rL (l : List (Option (Nat × (Nat × Nat)))) : Ren := fun b => (l[b]?).getD none
/-- A memory all of which is only read: as a list says it. -/
theorem hr_ro {w : World} {l : List AObj} {r : List (Option (Nat × (Nat × Nat)))} (hl : l.length ≤ 1000000) (hlr : r.length = l.length) (hro : ∀ o ∈ l, o.isRo = true)
    (h : ∀ (b c : Nat) (d : Nat × Nat) (o : AObj), r[b]? = some (some (c, d)) → l[b]? = some o → c < w.heap.size ∧ OR (rL r) d o w.heap[c]?) : HR (rL r) (hL l) w := by
  have hlt : ∀ {b x}, rL r b = some x → b < l.length := fun {b x} hb => by
    unfold rL at hb
    rw [← hlr]
    cases hq : r[b]? with
    | none => rw [hq] at hb; cases hb
    | some y => exact (List.getElem?_eq_some_iff.1 hq).1
  refine ⟨hl, fun b hb => ?_, fun b c d hb => ?_, fun b b' c d d' h1 h2 hne => ?_⟩
  · rw [hL_get hl, List.getElem?_eq_none hb]
  · have hbl := hlt hb
    have hb2 : r[b]? = some (some (c, d)) := by
      unfold rL at hb
      cases hq : r[b]? with
      | none => rw [hq] at hb; cases hb
      | some y => rw [hq] at hb; exact congrArg some hb
    obtain ⟨e1, e2⟩ := h b c d l[b] hb2 (List.getElem?_eq_getElem hbl)
    exact ⟨hbl, e1, _, (hL_get hl b).trans (List.getElem?_eq_getElem hbl), e2⟩
  · have k1 := hlt h1
    have k2 := hlt h2
    exact .inr (.inr ⟨l[b], l[b'], (hL_get hl b).trans (List.getElem?_eq_getElem k1), (hL_get hl b').trans (List.getElem?_eq_getElem k2), hro _ (List.getElem_mem k1), hro _ (List.getElem_mem k2)⟩)
/-- A row of words or bytes, read-only. -/
theorem or_ro {ρ : Ren} {w : World} {b off D : Nat} {k : IntKind} {l : List Int} {e : TypeId} (hD : l.length + off ≤ D) (h : ∀ i, i < l.length → w.cell? ⟨b, off + i, none⟩ = some (.int k (l.getD i 0))) : OR ρ (off, D) (.ints k l e .ro) w.heap[b]? := ⟨fun _ => by
  refine ⟨hD, fun hl => ?_⟩
  have hl : 0 < l.length := hl rfl
  obtain ⟨c, t, fr, hb, _⟩ := cell_row (h 0 hl)
  have hat : ∀ i, i < l.length → c[i + off]? = some (.int k (l.getD i 0)) := fun i hi => by
    obtain ⟨c', t', fr', hb', hc⟩ := cell_row (h i hi)
    rw [hb] at hb'; cases hb'
    rw [Nat.add_comm]; exact hc
  refine ⟨c, t, fr, hb, (fun hh => by cases hh), ?_, hD, fun i a hi => ?_⟩
  · have := (Array.getElem?_eq_some_iff.1 (hat (l.length - 1) (by omega))).1
    show l.length + off ≤ c.size
    omega
  · simp only [AObj.at, Option.map_eq_some_iff] at hi
    obtain ⟨m, hm, rfl⟩ := hi
    have hil := (List.getElem?_eq_some_iff.1 hm).1
    refine ⟨_, hat i hil, ?_⟩
    show Value.int k (l.getD i 0) = Value.int k m
    rw [List.getD_eq_getElem?_getD, hm]; rfl, fun l e => by cases e⟩
theorem or_glob {ρ : Ren} {w : World} {g b off c n s e : Nat} (hc : w.cell? ⟨g, 0, none⟩ = some (.slice (some ⟨b, off, none⟩) n c)) (hn : n ≤ c) (hρ : ρ s = some (b, (off, off + c))) : OR ρ (0, 1) (.cells [.sl s 0 n n false 1] e .ro) w.heap[g]? := ⟨fun _ => by
  refine ⟨Nat.le_refl _, fun _ => ?_⟩
  obtain ⟨cs, t, fr, hb, h0⟩ := cell_row hc
  refine ⟨cs, t, fr, hb, (fun h => by cases h), ?_, Nat.le_refl _, fun i a hi => ?_⟩
  · have := (Array.getElem?_eq_some_iff.1 h0).1
    show 1 + 0 ≤ _; omega
  · match i, hi with
    | 0, hi =>
      simp only [AObj.at, List.getElem?_cons_zero, Option.some.injEq] at hi
      subst hi
      refine ⟨_, h0, ?_⟩
      unfold VR
      exact .inl ⟨b, (off, off + c), off, c, hρ, rfl, fun _ => (Nat.zero_add _).symm, Nat.le_refl _, hn, fun h => (by cases h), by show off + c * 1 ≤ off + c; omega⟩
    | i + 1, hi => simp [AObj.at] at hi, fun l e => by cases e⟩
/-- An argument: how it is said, and where it lies. -/
theorem arg_of {w : World} {v : Value} {bs : List UInt8} (hB : BSn w v bs) (s : Nat) : ∃ (a : AV) (r : Option (Nat × (Nat × Nat))), (∀ c d, r = some (c, d) → c < w.heap.size ∧ ∀ ρ, OR ρ d (.ints .u8 (bI bs) 5 .ro) w.heap[c]?) ∧ (∀ ρ : Ren, ρ s = r → VR ρ a v) ∧
    ∀ σ : AH, s < σ.next → σ.get s = some (.ints .u8 (bI bs) 5 .ro) → IsB σ a (bI bs) := by
  rcases hB with ⟨rfl, rfl⟩ | ⟨b, off, c, rfl, hc, hb, hcell⟩
  · exact ⟨.nilsl, none, (fun c d h => by cases h), fun ρ _ => by unfold VR; rfl, fun σ _ _ => .nil⟩
  · refine ⟨.sl s 0 bs.length bs.length false 1, some (b, (off, off + c)), fun c' d h => ?_, fun ρ hρ => ?_, fun σ hs hg => .sl s 0 _ _ _ _ (bI bs) 5 .ro hs hg (by rw [bI_length]; omega) (Nat.le_refl _) ?_⟩
    · cases h
      exact ⟨hb, fun ρ => or_ro (by rw [bI_length]; omega) fun i hi => by rw [bI_getD]; exact hcell i (by rw [bI_length] at hi; exact hi)⟩
    · unfold VR
      exact .inl ⟨b, (off, off + c), off, c, hρ, rfl, fun _ => (Nat.zero_add _).symm, Nat.le_refl _, hc, fun h => (by cases h), by show off + c * 1 ≤ off + c; omega⟩
    · rw [← bI_length bs, List.drop_zero, List.take_length]
theorem byI_bI (bs : List UInt8) : byI (bI bs) = true := by
  unfold byI bI
  rw [List.all_eq_true]
  intro x hx
  obtain ⟨b, _, rfl⟩ := List.mem_map.1 hx
  have := b.toNat_lt
  rw [Bool.and_eq_true, decide_eq_true_eq, decide_eq_true_eq]
  show (0 : Int) ≤ ((b.toNat : Nat) : Int) ∧ ((b.toNat : Nat) : Int) ≤ 255
  omega
theorem Below.ofStp {ρ' : Ren} {l : List AObj} {r : List (Option (Nat × (Nat × Nat)))} {w W' : World} {σ' : AH} (hl : l.length ≤ 1000000) (hr : HR (rL r) (hL l) w) (hro : ∀ o ∈ l, o.isRo = true) (h : Stp (hL l).next (rL r) (hL l) w ρ' σ' W') : Below w.heap.size w W' := by
  refine ⟨h.os, h.tape, h.output, h.size, fun c hc => ?_⟩
  by_cases hm : ∃ b d, rL r b = some (c, d)
  · obtain ⟨b, d, hm⟩ := hm
    obtain ⟨k1, k2, o, k3, k4⟩ := hr.dom b c d hm
    have k5 : l[b]? = some o := by rw [← hL_get hl]; exact k3
    exact (h.ro b c d o k1 hm hc k3 (hro o (List.mem_of_getElem? k5))).2
  · exact h.frame c hc fun b d h => hm ⟨b, d, h⟩
end Go.Proofs.YtjkicmlelilcaaaDoor.V2
namespace Go.Proofs.YtjkicmlelilcaaaDoor
open Go
open Go.RowKit Go.ChangeShapes
theorem gSq : Tryd.prog.globalNamed "longwire/longwireref02.squares" = some 1 := by kernel_rfl
theorem gCu : Tryd.prog.globalNamed "longwire/longwireref02.cubes" = some 2 := by kernel_rfl
theorem gSqType : (Tryd.prog.globals[1]?).map (·.type) = some 93 := by kernel_rfl
theorem gCuType : (Tryd.prog.globals[2]?).map (·.type) = some 93 := by kernel_rfl
theorem tabSq_eq {H : Type} : (Rows.laid_longwire_longwireref02_squares : DataW H) = .slice (lits .u32 (S0.map N32)) [] := by kernel_rfl
theorem tabCu_eq {H : Type} : (Rows.laid_longwire_longwireref02_cubes : DataW H) = .slice (lits .u32 (KK.map N32)) [] := by kernel_rfl
theorem lits_inj {H : Type} {k : IntKind} : ∀ {l m : List Int}, (lits k l : List (DataW H)) = lits k m → l = m
  | [], [], _ => rfl
  | [], _ :: _, h => by simp [lits] at h
  | _ :: _, [], h => by simp [lits] at h
  | a :: l, b :: m, h => by
    simp only [lits, List.map_cons, List.cons.injEq, DataW.lit.injEq, Lit.int.injEq, true_and] at h
    rw [h.1, lits_inj h.2]
theorem tabC_of {W : World} {name : String} {g t e : Nat} {T : List UInt32} {data : DataW Unit} {rest : List (String × DataW Unit)} (hg : Tryd.prog.globalNamed name = some g) (hty : (Tryd.prog.globals[g]?).map (·.type) = some t)
    (ht : Tryd.prog.underlying t = some (.slice e)) (he : Tryd.prog.underlying e = some (.int .u32)) (hce : Tryd.prog.cellsOf e = 1) (hT : 0 < T.length) (hdata : data = .slice (lits .u32 (T.map N32)) [])
    (h : laidMet Tryd.prog ((name, data) :: rest) W) : TabC W g T := by
  obtain ⟨ps, ⟨g', t', cs, fuel, p, q, hg', ht', hvar, hd, h1, h2⟩, h3⟩ := h
  obtain rfl := Option.some.inj (hg.symm.trans hg')
  obtain rfl := Option.some.inj (hty.symm.trans ht')
  rcases open_ints ht he hce hd with ⟨_, hx⟩ | ⟨a, len, cap, zs, hcs, _, hl, _, hz, hx, hc, _⟩
  · rw [hdata] at hx; cases hx
  · simp only [if_true] at hz
    rw [hdata] at hx
    simp only [Prod.mk.injEq, DataW.slice.injEq] at hx
    have hzt := lits_inj hx.1.1
    have hlen : len = T.length := by
      have := congrArg List.length hzt
      rw [List.length_map, List.length_take] at this; omega
    obtain ⟨hs, hb⟩ := spot_of_cell (hc 0 (by omega))
    have hcell := World.var?_cell hg hvar 0
    have hc0 : cs[0]? = some (.slice (some a) len cap) := by
      rw [← Array.getElem?_toList, hcs]; rfl
    rw [hc0] at hcell
    obtain ⟨b, o, sp⟩ := a
    cases hs
    refine ⟨b, o, cap, by rw [← hlen]; exact hcell, by omega, hb, fun i hi => ?_⟩
    have h5 := hc i (by omega)
    rw [add_none rfl] at h5
    have h6 : (zs.take len)[i]? = zs[i]? := by rw [List.getElem?_take, if_pos (by omega)]
    have h7 : zs.getD i 0 = N32 (at32 T i) := by
      rw [List.getD_eq_getElem?_getD, ← h6, ← hzt, List.getElem?_map, List.getElem?_eq_getElem hi]
      simp [at32, List.getD_eq_getElem?_getD, hi]
    rw [h7] at h5
    exact h5
theorem tabs_of {W : World} {rest : List (String × DataW Unit)} (h : laidMet Tryd.prog (("longwire/longwireref02.squares", Rows.laid_longwire_longwireref02_squares) :: ("longwire/longwireref02.cubes", Rows.laid_longwire_longwireref02_cubes) :: rest) W) : TabC W 1 S0 ∧ TabC W 2 KK :=
  ⟨tabC_of gSq gSqType Tryd.underlying93 Tryd.underlying62 cells62 (by decide) tabSq_eq h, tabC_of gCu gCuType Tryd.underlying93 Tryd.underlying62 cells62 (by decide) tabCu_eq h.tail⟩
end Go.Proofs.YtjkicmlelilcaaaDoor
namespace Go.Proofs.YtjkicmlelilcaaaDoor
open Go.ChangeShapes Go.WideShapes Go.ChangeAt Go.RowKit
open Go.Proofs.YtjkicmlelilcaaaDoor.V2 (BSn)
theorem bsn_of {W : World} {v : Value} {bs : List UInt8} (hB : BSl W v bs) (h : ∀ a L C, v = .slice (some a) L C → a.spot = none ∧ a.block < W.heap.size) : BSn W v bs := by
  rcases hB with ⟨rfl, rfl⟩ | ⟨b, off, c, rfl, hc, hb, hcell⟩ | ⟨a, rfl, rfl⟩
  · exact .inl ⟨rfl, rfl⟩
  · exact .inr ⟨b, off, c, rfl, hc, hb, hcell⟩
  · obtain ⟨h1, h2⟩ := h a 0 0 rfl
    obtain ⟨b, o, sp⟩ := a
    cases h1
    exact .inr ⟨b, o, 0, rfl, Nat.le_refl _, h2, fun i hi => by cases hi⟩
set_option maxRecDepth 100000 in
theorem open_bsn {H : Type} {enc : TypeId × Value → H} {W : World} {v : Value} {d : DataW H} {p : List MemPlace} {r : Reach} {base : Nat} (hv : Value.okWide Tryd.prog W r base 22 v) (h : DataW.Trod enc Tryd.prog W 0 (fun _ => true) true 22 v d p) : ∃ bs, BSn W v bs := by
  obtain ⟨A, L, C, bs, rfl, hB, _⟩ := open_bytes hv h
  refine ⟨bs, bsn_of hB fun a L' C' e => ?_⟩
  cases e
  simp only [Value.okWide, Tryd.underlying22, Cell.okWide, Cell.ok] at hv
  obtain ⟨_, _, _, hsp, row, cells, hsh, _⟩ := hv
  refine ⟨hsp, ?_⟩
  unfold World.shape? at hsh
  split at hsh
  · rename_i hh; exact (Array.getElem?_eq_some_iff.1 hh).1
  · cases hsh
end Go.Proofs.YtjkicmlelilcaaaDoor
namespace Go.Proofs.YtjkicmlelilcaaaDoor.V2
open Go
open Go.RowKit
theorem body3 : Tryd.f3.body = some (Tryd.f3.body.getD .skip) := by kernel_rfl
def mem3 (key bs : List UInt8) : List AObj := [.ints .u32 (wI S0) 62 .ro, .cells [.sl 4 0 8 8 false 1] 62 .ro, .cells [.sl 5 0 64 64 false 1] 62 .ro, .ints .u32 (wI KK) 62 .ro, .ints .u32 (wI S0) 62 .ro, .ints .u32 (wI KK) 62 .ro, .ints .u8 (bI key) 5 .ro, .ints .u8 (bI bs) 5 .ro]
theorem mem3_ro (key bs : List UInt8) : ∀ o ∈ mem3 key bs, o.isRo = true := by
  intro o ho
  simp only [mem3, List.mem_cons, List.not_mem_nil, or_false] at ho
  rcases ho with rfl | rfl | rfl | rfl | rfl | rfl | rfl | rfl <;> rfl
theorem mem3_len (key bs : List UInt8) : (mem3 key bs).length ≤ 1000000 := by show 8 ≤ _; omega
theorem mem3_tabs (key bs : List UInt8) : Tabs (hL (mem3 key bs)) := by
  have g := hL_get (mem3_len key bs)
  exact ⟨by show 5 < 8; omega, ⟨_, _, g 0⟩, ⟨_, _, g 3⟩, ⟨_, _, _, _, _, _, _, g 1, g 4⟩, ⟨_, _, _, _, _, _, _, g 2, g 5⟩⟩
theorem globS_row {w : World} (hS : GlobS w) : ∀ ρ, OR ρ (0, 8) (.ints .u32 (wI S0) 62 .ro) w.heap[0]? := fun ρ => or_ro (by rw [wI_length]; exact Nat.le_refl _) fun i hi => by
  rw [wI_getD, Nat.zero_add]; exact hS i (by rw [wI_length] at hi; exact hi)
theorem globK_row {w : World} (hK : GlobK w) : ∀ ρ, OR ρ (0, 64) (.ints .u32 (wI KK) 62 .ro) w.heap[3]? := fun ρ => or_ro (by rw [wI_length]; exact Nat.le_refl _) fun i hi => by
  rw [wI_getD, Nat.zero_add]; exact hK i (by rw [wI_length] at hi; exact hi)
theorem hashTells_any (v0 v1 : Value) (key bs : List UInt8) (w : World) (hB1 : BSn w v0 key) (hB2 : BSn w v1 bs) (hS : TabC w 1 S0) (hK : TabC w 2 KK) (hgS : GlobS w) (hgK : GlobK w) (h3 : 3 < w.heap.size) :
    Calls Tryd.prog 3 #[v0, v1] w fun e w' => e = .returned (.bool true) ∧ Below w.heap.size w w' := by
  obtain ⟨bS, oS, cS, k1, k2, k3, k4⟩ := hS
  obtain ⟨bK, oK, cK, s1, s2, s3, s4⟩ := hK
  obtain ⟨a6, r6, h6, hv6, hi6⟩ := arg_of hB1 6
  obtain ⟨a7, r7, h7, hv7, hi7⟩ := arg_of hB2 7
  have g := hL_get (mem3_len key bs)
  have hr : HR (rL [some (0, (0, 8)), some (1, (0, 1)), some (2, (0, 1)), some (3, (0, 64)), some (bS, (oS, oS + cS)), some (bK, (oK, oK + cK)), r6, r7]) (hL (mem3 key bs)) w := by
    refine hr_ro (mem3_len key bs) rfl (mem3_ro key bs) fun b c d o hb ho => ?_
    match b with
    | 0 => cases hb; cases ho; exact ⟨by omega, globS_row hgS _⟩
    | 1 => cases hb; cases ho; exact ⟨by omega, or_glob k1 k2 rfl⟩
    | 2 => cases hb; cases ho; exact ⟨by omega, or_glob s1 s2 rfl⟩
    | 3 => cases hb; cases ho; exact ⟨by omega, globK_row hgK _⟩
    | 4 => cases hb; cases ho; exact ⟨k3, or_ro (by rw [wI_length]; have : S0.length = 8 := rfl; omega) fun i hi => by rw [wI_getD]; exact k4 i (by rw [wI_length] at hi; exact hi)⟩
    | 5 => cases hb; cases ho; exact ⟨s3, or_ro (by rw [wI_length]; have : KK.length = 64 := rfl; omega) fun i hi => by rw [wI_getD]; exact s4 i (by rw [wI_length] at hi; exact hi)⟩
    | 6 =>
      have hb : some r6 = some (some (c, d)) := hb
      cases ho
      obtain ⟨e1, e2⟩ := h6 c d (Option.some.inj hb)
      exact ⟨e1, e2 _⟩
    | 7 =>
      have hb : some r7 = some (some (c, d)) := hb
      cases ho
      obtain ⟨e1, e2⟩ := h7 c d (Option.some.inj hb)
      exact ⟨e1, e2 _⟩
    | n + 8 => cases hb
  have hG : ∀ g, g < 4 → ∃ s, (rL [some (0, (0, 8)), some (1, (0, 1)), some (2, (0, 1)), some (3, (0, 64)), some (bS, (oS, oS + cS)), some (bK, (oK, oK + cK)), r6, r7]) g = some (g, (0, s)) := fun g hg => by
    match g, hg with
    | 0, _ => exact ⟨8, rfl⟩
    | 1, _ => exact ⟨1, rfl⟩
    | 2, _ => exact ⟨1, rfl⟩
    | 3, _ => exact ⟨64, rfl⟩
  have hw := walk3 (Γ := Γ3 std shaI hmI byI isS isK) (Sh := shaI) (Hm := hmI) (fun l => by rw [shaI, bI_length, shaB_length]) (fun k l => by rw [hmI, bI_length, hmB_length])
    (fun _ _ _ hT h hl => g3_12 hT h hl) (fun _ _ _ hT h hl => g3_13 hT h hl) (fun _ _ _ _ _ hT hk h hkl hl => g3_14 hT hk h hkl hl) (fun _ _ _ _ _ hT hk h hkl hl => g3_15 hT hk h hkl hl) (fun _ hT => g3_16 hT)
    (σ := hL (mem3 key bs)) (hi6 _ (by show 6 < 8; omega) (g 6)) (hi7 _ (by show 7 < 8; omega) (g 7)) (byI_bI key) (byI_bI bs) (mem3_tabs key bs) (by show 8 ≤ _; omega) (K := fun av _ => av = .bool true) (fun _ => rfl) (N := (hL (mem3 key bs)).next)
  have hc := comp3
  simp only [Prod.mk.injEq] at hc
  refine (call_sound (xs := [.tmp 4]) (K := fun av _ => av = .bool true) (vs := [v0, v1]) mixed gam3_ok (pu := fun _ => false) (fun f h => by cases h) Tryd.func3 body3 hc.1 hc.2 (by kernel_rfl) (by kernel_rfl) hw hG hr ⟨v0, [v1], rfl, hv6 _ rfl, v1, [], rfl, hv7 _ rfl, rfl⟩).mono fun e W' ⟨u, av, σ', ρ', e1, e2, e3, e4, e5⟩ => ?_
  subst e1 e2
  refine ⟨?_, Below.ofStp (mem3_len key bs) hr (mem3_ro key bs) e4⟩
  unfold VR at e5
  rw [e5]
end Go.Proofs.YtjkicmlelilcaaaDoor.V2
