/- Part 2 of the proof: texts of the proof. -/
import Derived.Test.YtjoakhpdajlhiaaGreatDoorQY1
import Derived.Deep.AppendSrc
import Derived.Lib.AppendZerosOnto
import Derived.DeepKeys
import Derived.Laws.BytesString
import Derived.Laws.MakeOwn
namespace Go.Proofs.YtjoakhpdajlhiaaGreatDoor.V2
open Go
noncomputable section
section
variable {P : Program} {W : World} {ρ : Ren} {σ : AH}
theorem one_of (ρ : Ren) : ∀ {l : List AV} {vs : List Value}, VRs ρ l vs → l.all AV.one = true → ∀ u ∈ vs, u.oneCell' = true
  | [], _, e, _, u, hu => by rw [show _ = [] from e] at hu; cases hu
  | a :: l, _, ⟨v, m, e, hv, hm⟩, h, u, hu => by
    subst e
    rw [List.all_cons, Bool.and_eq_true] at h
    rcases List.mem_cons.1 hu with rfl | hu
    · exact hv.one h.1
    · exact one_of ρ hm h.2 u hu
theorem Jz (hr : HR ρ σ W) {str : Bool} {size : Nat} {v : AV} {x : Value} (hv : VR ρ v x) (hok : (C8 std str size σ v).1 = true) {tx : TypeId} (ht : (str = true ∧ P.underlying tx = some .string) ∨ (str = false ∧ ∃ e', P.underlying tx = some (.slice e'))) :
    ∃ cs, Src P size tx x (C8 std str size σ v).2.1 cs W ∧ VRs ρ (C8 std str size σ v).2.2.list cs ∧ (str = false → x = .slice none 0 0 ∧ (C8 std str size σ v).2.1 = 0 ∨ ∃ a c, x = .slice (some a) (C8 std str size σ v).2.1 c ∧ ∀ j u, cs[j]? = some u → W.cell? (a.add j) = some u) := by
  cases v
  case nilsl =>
    unfold VR at hv
    subst hv
    have hs : str = false := by
      have h : (!str) = true := hok
      cases str <;> simp at h ⊢
    subst hs
    obtain ⟨_, e', he⟩ := ht.resolve_left (fun h => by cases h.1)
    exact ⟨[], Src.ofNil W he 0, rfl, fun _ => .inl ⟨rfl, rfl⟩⟩
  case str l =>
    unfold VR at hv
    subst hv
    have h : (str && Nat.beq size 1) = true := hok
    rw [Bool.and_eq_true, Nat.beq_eq] at h
    obtain ⟨rfl, rfl⟩ := h
    obtain ⟨_, he⟩ := ht.resolve_right (fun h => by cases h.1)
    refine ⟨_, Src.ofString W he ⟨l.toArray⟩, ?_, fun h => by cases h⟩
    show VRs ρ ((l.map fun b => (b.toNat : Int)).map (AV.int .u8)) (byteCells ⟨l.toArray⟩)
    have : byteCells ⟨l.toArray⟩ = (l.map fun b => (b.toNat : Int)).map (Value.int .u8) := by simp [byteCells]
    rw [this]; exact VRs.ints .u8 _
  case sl b o n k e z =>
    simp only [C8] at hok ⊢
    cases hob : σ.get b with
    | none => rw [hob] at hok; cases hok
    | some ob =>
      rw [hob] at hok
      have hsf : str = false := by
        cases ob <;> simp only [Bool.and_eq_true, Bool.not_eq_true', Bool.false_eq_true] at hok
        · exact hok.1
        · exact hok.1.1.1
        · exact hok.1.1
      subst hsf
      obtain ⟨_, e', he⟩ := ht.resolve_left (fun h => by cases h.1)
      rcases vr_sl hv with ⟨c, d, o', k', hb, rfl, ho, hnk, hkk, hex, hlim⟩ | ⟨rfl, rfl, rfl, _, pp, rfl⟩
      · -- an address
        have hzero : n = 0 → Src P size tx (.slice (some ⟨c, o', none⟩) 0 k') 0 [] W := fun _ =>
          Src.ofSlice W he ⟨c, o', none⟩ 0 k' [] (by simp) (fun j u hu => by simp at hu) (fun u hu => by cases hu)
        have hmain : ∀ (l : List AV), ob.cellsy = true → (∀ i, ob.at i = l[i]?) → o + n * size ≤ l.length → l.all AV.one = true → ∃ cs, Src P size tx (.slice (some ⟨c, o', none⟩) n k') n cs W ∧ VRs ρ ((l.drop o).take (n * size)) cs ∧ ∀ j u, cs[j]? = some u → W.cell? ((⟨c, o', none⟩ : Addr).add j) = some u := by
          intro l hal hat hle hone
          obtain ⟨_, hc, ob', hob', hO⟩ := hr.dom b c d hb
          rw [hob] at hob'; cases hob'
          by_cases hns : n * size = 0
          · refine ⟨[], Src.ofSlice W he ⟨c, o', none⟩ n k' [] (by rw [hns]; rfl) (fun j u hu => by simp at hu) (fun u hu => by cases hu), ?_, fun j u hu => by simp at hu⟩
            rw [hns]; exact rfl
          · have hn0 : n ≠ 0 := fun h => hns (by rw [h, Nat.zero_mul])
            obtain ⟨cs, e0, fr, hx, _, hlen, _, hats⟩ := (hO.1 hal).2 (fun _ => by
              have e1 := hat 0
              rw [List.getElem?_eq_getElem (by omega)] at e1
              exact Nat.lt_of_le_of_lt (Nat.zero_le _) (AObj.at_lt e1))
            have hk0 : k ≠ 0 := by omega
            have ho := ho hk0
            subst ho
            have hlc : o + n * size + d.1 ≤ cs.size := by
              have : l.length = ob.len := by
                have h1 : ∀ i, i < ob.len ↔ i < l.length := fun i => by
                  constructor
                  · intro h
                    rcases Nat.lt_or_ge i l.length with h' | h'
                    · exact h'
                    · have e1 := hat i
                      rw [List.getElem?_eq_none h'] at e1
                      cases ob with
                      | dead => cases hal
                      | map l => cases hal
                      | hid => cases hal
                      | cells l2 e t => simp only [AObj.at, AObj.len] at e1 h; rw [List.getElem?_eq_getElem h] at e1; cases e1
                      | ints k2 l2 e t => simp only [AObj.at, AObj.len] at e1 h; rw [List.getElem?_eq_getElem h] at e1; cases e1
                  · intro h
                    have e1 := hat i
                    rw [List.getElem?_eq_getElem h] at e1
                    exact AObj.at_lt e1
                have h2 := h1 l.length
                have h3 := h1 ob.len
                omega
              omega
            have hvs : VRs ρ ((l.drop o).take (n * size)) ((cs.toList.drop (o + d.1)).take (n * size)) := by
              refine VRs.of _ _ (by simp; omega) fun i a hi => ?_
              rw [List.getElem?_take] at hi ⊢
              split at hi
              · rename_i hin
                rw [if_pos hin]
                rw [List.getElem?_drop] at hi ⊢
                obtain ⟨u, hu, hur⟩ := hats (o + i) a (by rw [hat]; exact hi)
                exact ⟨u, by rw [show o + d.1 + i = o + i + d.1 by omega]; simpa using hu, hur⟩
              · cases hi
            have hmem : ∀ j u, ((cs.toList.drop (o + d.1)).take (n * size))[j]? = some u → W.cell? ((⟨c, o + d.1, none⟩ : Addr).add j) = some u := fun j u hu => by
              rw [List.getElem?_take] at hu
              split at hu
              · rw [List.getElem?_drop] at hu
                rw [Dx]
                simp only [World.cell?, hx]
                simpa using hu
              · cases hu
            refine ⟨_, Src.ofSlice W he ⟨c, o + d.1, none⟩ n k' _ (by simp; omega) hmem (one_of ρ hvs ?_), hvs, hmem⟩
            rw [List.all_eq_true] at hone ⊢
            exact fun a ha => hone a (List.mem_of_mem_drop (List.mem_of_mem_take ha))
        cases ob with
        | map l => cases hok
        | hid => cases hok
        | dead =>
          simp only [Bool.and_eq_true, Nat.beq_eq] at hok
          obtain ⟨_, rfl⟩ := hok
          exact ⟨[], hzero rfl, rfl, fun _ => .inr ⟨_, _, rfl, fun j u hu => by simp at hu⟩⟩
        | cells l e2 t =>
          simp only [Bool.and_eq_true, Nat.ble_eq] at hok
          obtain ⟨cs, h1, h2, h3⟩ := hmain l rfl (fun _ => rfl) hok.1.2 hok.2
          exact ⟨cs, h1, h2, fun _ => .inr ⟨_, _, rfl, h3⟩⟩
        | ints ik l e2 t =>
          simp only [std, Bool.and_eq_true, Nat.ble_eq] at hok
          obtain ⟨cs, h1, h2, h3⟩ := hmain (l.map (AV.int ik)) rfl (fun i => by simp [AObj.at]) (by simpa using hok.2) (by rw [List.all_eq_true]; intro a ha; obtain ⟨m, _, rfl⟩ := List.mem_map.1 ha; rfl)
          refine ⟨cs, h1, ?_, fun _ => .inr ⟨_, _, rfl, h3⟩⟩
          show VRs ρ (((l.drop o).take (n * size)).map (AV.int ik)) cs
          rw [List.map_take, List.map_drop]; exact h2
      · -- nothing
        have hsrc : Src P size tx (.slice (some pp) 0 0) 0 [] W := Src.ofSlice W he pp 0 0 [] (by simp) (fun j u hu => by simp at hu) (fun u hu => by cases hu)
        have hor : (.slice (some pp) 0 0 : Value) = .slice none 0 0 ∧ (0 : Nat) = 0 ∨ ∃ a c, (.slice (some pp) 0 0 : Value) = .slice (some a) 0 c ∧ ∀ (j : Nat) (u : Value), ([] : List Value)[j]? = some u → W.cell? (a.add j) = some u := .inr ⟨pp, 0, rfl, fun j u hu => by simp at hu⟩
        cases ob with
        | map l => cases hok
        | hid => cases hok
        | dead => exact ⟨[], hsrc, rfl, fun _ => hor⟩
        | cells l e2 t =>
          refine ⟨[], hsrc, ?_, fun _ => hor⟩
          show VRs ρ ((l.drop o).take (0 * size)) []
          rw [Nat.zero_mul, List.take_zero]; exact rfl
        | ints ik l e2 t =>
          refine ⟨[], hsrc, ?_, fun _ => hor⟩
          show VRs ρ (((l.drop o).take (0 * size)).map (AV.int ik)) []
          rw [Nat.zero_mul, List.take_zero]; exact rfl
  all_goals cases hok
theorem catA_spec {e : TypeId} {r1 r2 : Row} (h : (Gx std e r1 r2).1 = true) : (Gx std e r1 r2).2.cellsy = true ∧ (Gx std e r1 r2).2.len = (r1.list ++ r2.list).length ∧ (Gx std e r1 r2).2.elem = e ∧ (Gx std e r1 r2).2.tail = true ∧ ∀ i, (Gx std e r1 r2).2.at i = (r1.list ++ r2.list)[i]? := by
  have hints : ∀ k (l : List Int), (AObj.ints k l e .more).cellsy = true ∧ (AObj.ints k l e .more).len = (l.map (AV.int k)).length ∧ (AObj.ints k l e .more).elem = e ∧ (AObj.ints k l e .more).tail = true ∧ ∀ i, (AObj.ints k l e .more).at i = (l.map (AV.int k))[i]? :=
    fun k l => ⟨rfl, by simp [AObj.len], rfl, rfl, fun i => by simp [AObj.at]⟩
  have hof : ∀ (m : List AV) k' m' e' t', AObj.of m e .more = .ints k' m' e' t' → m = m'.map (AV.int k') := fun m k' m' e' t' h => by
    have := (AObj.of_spec m e .more).2.2.2.2
    rw [h] at this
    apply List.ext_getElem?
    intro i
    rw [← this i]; simp [AObj.at]
  cases r1 with
  | ints k l =>
    cases r2 with
    | ints k' m =>
      have hk : k = k' := of_decide_eq_true h
      subst hk
      have := hints k (l ++ m)
      simpa [Gx, Row.list, std] using this
    | cells m =>
      cases m with
      | nil => have := hints k l; simpa [Gx, Row.list] using this
      | cons a m =>
        simp only [Gx] at h ⊢
        split at h
        · rename_i k' m' e' t' hm
          have hk : k = k' := of_decide_eq_true h
          subst hk
          have e1 := hof _ _ _ _ _ hm
          have := hints k (l ++ m')
          rw [List.map_append, ← e1] at this
          exact this
        · cases h
  | cells l =>
    cases r2 with
    | ints k m =>
      cases l with
      | nil => have := hints k m; simpa [Gx, Row.list] using this
      | cons a l =>
        simp only [Gx] at h ⊢
        split at h
        · rename_i k' l' e' t' hm
          have hk : k = k' := of_decide_eq_true h
          subst hk
          have e1 := hof _ _ _ _ _ hm
          have := hints k (l' ++ m)
          rw [List.map_append, ← e1] at this
          exact this
        · cases h
    | cells m => exact AObj.of_spec (l ++ m) e .more
theorem HR.more {ρ : Ren} {σ σ' : AH} {W : World} (h : HR ρ σ W) (hs : σ'.next ≤ 1000000) (hn : ∀ b, σ'.next ≤ b → σ'.get b = none) (hle : σ.next ≤ σ'.next) (hg : ∀ b, b < σ.next → σ'.get b = σ.get b) : HR ρ σ' W :=
  ⟨hs, hn, fun b c d hb => by
    obtain ⟨h1, h2, h3⟩ := h.dom b c d hb
    refine ⟨by omega, h2, ?_⟩
    rw [hg b h1]; exact h3, fun b b' c d d' h1 h2 hne => by
    exact (h.inj b b' c d d' h1 h2 hne).congr (hg b (h.dom _ _ _ h1).1) (hg b' (h.dom _ _ _ h2).1)⟩
theorem HR.killt {ρ : Ren} {σ : AH} {W : World} (h : HR ρ σ W) {b : Nat} {ob : AObj} (hb : σ.get b = some ob) (ht : ob.tail = true ∨ ∃ x, ρ b = some x) (hro : ob.isRo = false) : HR ρ (σ.put b .dead) W ∧ Stp σ.next ρ σ W ρ (σ.put b .dead) W := by
  have hbn : b < σ.next := Nat.lt_of_not_le fun hle => by rw [h.none_ b hle] at hb; cases hb
  have hs := h.small
  have hb20 : b < 1048576 := by omega
  refine ⟨⟨h.small, fun m hm => by rw [AH.get_put hb20, if_neg (by rintro rfl; exact absurd hm (by show ¬ σ.next ≤ _; omega))]; exact h.none_ m hm, fun b' c' d' hb' => ?_, fun b1 b2 c' d1 d2 h1 h2 hne => ?_⟩, ⟨fun _ _ => rfl, fun b' c' d' hb' => .inl ⟨b', d', hb'⟩, Nat.le_refl _, fun b' ob' hb' hn ho' ht' => ?_, fun _ _ _ => rfl, rfl, rfl, rfl, Nat.le_refl _, fun b' c d o _ _ _ ho' hr' => ⟨by rw [AH.get_put hb20, if_neg (by rintro rfl; rw [hb] at ho'; cases ho'; rw [hro] at hr'; cases hr')]; exact ho', rfl⟩⟩⟩
  · obtain ⟨h1, h2, o2, h3, h4⟩ := h.dom b' c' d' hb'
    refine ⟨h1, h2, ?_⟩
    rw [AH.get_put hb20]
    by_cases hbb : b' = b
    · exact ⟨.dead, if_pos hbb, OR.dead⟩
    · rw [if_neg hbb]; exact ⟨o2, h3, h4⟩
  · by_cases e1 : b1 = b
    · refine .inl ?_; rw [AH.get_put hb20, if_pos e1]
    · by_cases e2 : b2 = b
      · refine .inr (.inl ?_); rw [AH.get_put hb20, if_pos e2]
      · exact (h.inj b1 b2 c' d1 d2 h1 h2 hne).congr (by rw [AH.get_put hb20, if_neg e1]) (by rw [AH.get_put hb20, if_neg e2])
  · rw [AH.get_put hb20, if_neg ?_]
    · exact ho'
    · rintro rfl
      rw [hb] at ho'; cases ho'
      rcases ht with ht | ⟨x, hx⟩
      · rw [ht] at ht'; cases ht'
      · rw [hx] at hn; cases hn
theorem HR.rename {ρ : Ren} {σ : AH} {W : World} (h : HR ρ σ W) {c : Nat} {d : Nat × Nat} {o : AObj} (hs : Nat.blt σ.next 1000000 = true) (hc : c < W.heap.size) (hO : OR ρ d o W.heap[c]?) (hdead : ∀ b d', ρ b = some (c, d') → σ.get b = some .dead) (hold : ∃ b d', ρ b = some (c, d')) :
    ∃ ρ', ρ' σ.next = some (c, d) ∧ Sub ρ ρ' ∧ HR ρ' (σ.new o) W ∧ Stp σ.next ρ σ W ρ' (σ.new o) W := by
  have hs : σ.next < 1000000 := by rw [Nat.blt_eq] at hs; exact hs
  have hn : ρ σ.next = none := by
    cases hc : ρ σ.next with
    | none => rfl
    | some c => have := (h.dom _ c.1 c.2 hc).1; omega
  have hget : ∀ m, (σ.new o).get m = if m = σ.next then some o else σ.get m := fun m => T.get_put _ _ _ _ (by omega)
  have hsub : Sub ρ (fun b => if b = σ.next then some (c, d) else ρ b) := fun b x hc => by
    have hne : b ≠ σ.next := by rintro rfl; rw [hn] at hc; cases hc
    simp only [if_neg hne]; exact hc
  refine ⟨fun b => if b = σ.next then some (c, d) else ρ b, if_pos rfl, hsub, ⟨by show σ.next + 1 ≤ _; omega, fun m hm => by have hm : σ.next + 1 ≤ m := hm; rw [hget, if_neg (by omega)]; exact h.none_ m (by omega), fun b c' d' hc' => ?_, fun b b' c' d1 d2 h1 h2 hne => ?_⟩, ⟨fun b hb => if_neg (by omega), fun b c' d' hc' => ?_, by show σ.next ≤ σ.next + 1; omega, fun b ob hb _ ho' _ => ?_, fun _ _ _ => rfl, rfl, rfl, rfl, Nat.le_refl _, fun b c' d' ob hb _ _ ho' _ => ⟨by rw [hget, if_neg (by omega)]; exact ho', rfl⟩⟩⟩
  · rw [hget]
    by_cases hb : b = σ.next
    · subst hb
      simp only [if_true, Option.some.injEq, Prod.mk.injEq] at hc'
      obtain ⟨rfl, rfl⟩ := hc'
      exact ⟨Nat.lt_succ_self _, hc, o, if_pos rfl, hO.mono hsub⟩
    · simp only [if_neg hb] at hc' ⊢
      obtain ⟨h1, h2, o2, h3, h4⟩ := h.dom b c' d' hc'
      exact ⟨by show b < σ.next + 1; omega, h2, o2, h3, h4.mono hsub⟩
  · by_cases e1 : b = σ.next
    · subst e1
      simp only [if_true, Option.some.injEq, Prod.mk.injEq] at h1
      obtain ⟨rfl, rfl⟩ := h1
      simp only [if_neg (Ne.symm hne)] at h2
      exact .inr (.inl (by rw [hget, if_neg (Ne.symm hne)]; exact hdead _ _ h2))
    · by_cases e2 : b' = σ.next
      · subst e2
        simp only [if_true, Option.some.injEq, Prod.mk.injEq] at h2
        obtain ⟨rfl, rfl⟩ := h2
        simp only [if_neg e1] at h1
        exact .inl (by rw [hget, if_neg e1]; exact hdead _ _ h1)
      · simp only [if_neg e1, if_neg e2] at h1 h2
        exact (h.inj b b' c' d1 d2 h1 h2 hne).congr (by rw [hget, if_neg e1]) (by rw [hget, if_neg e2])
  · by_cases hb : b = σ.next
    · subst hb
      simp only [if_true, Option.some.injEq, Prod.mk.injEq] at hc'
      obtain ⟨rfl, rfl⟩ := hc'
      obtain ⟨b0, d0, h0⟩ := hold
      exact .inl ⟨b0, d0, h0⟩
    · simp only [if_neg hb] at hc'
      exact .inl ⟨b, d', hc'⟩
  · rw [hget, if_neg (by omega)]; exact ho'
end
end
end Go.Proofs.YtjoakhpdajlhiaaGreatDoor.V2
namespace Go.Proofs.YtjoakhpdajlhiaaGreatDoor.V2
open Go
noncomputable section
section
variable {P : Program} {W : World} {ρ : Ren} {σ : AH}
theorem Et {pp : Option Addr} {t tx ty e : TypeId} {i : TypeInfo} {x : Value} (ht : P.underlying t = some (.slice e)) (hi : P.info? e = some i) (hs : Src P i.size tx x 0 [] W) :
    (Builtin.append_ #[t, tx] ty #[.slice pp 0 0, x]).run P W = .ok (.slice pp 0 0) W := by
  cases pp <;> rcases hs.kind with ⟨e', hk⟩ | hk <;> simp [Builtin.append_, storeCells, run_underlying ht, run_underlying hk, sizeOf, typeInfo, hi, hs.len, hs.cells]
structure SrcB (P : Program) (t tx ty e : TypeId) (i : TypeInfo) (z x : Value) (m : Nat) (news : List Value) (W : World) : Prop where
  newsLen : news.length = m * i.size
  nil : ∀ pp : Option Addr, m = 0 → (Builtin.append_ #[t, tx] ty #[.slice pp 0 0, x]).run P W = .ok (.slice pp 0 0) W
  room : ∀ b off sLen sCap, sLen + m ≤ sCap → (∀ j, j < news.length → (W.cell? ⟨b, off + sLen * i.size + j, none⟩).isSome = true) → (∀ j, j < news.length → W.frozen? ⟨b, off + sLen * i.size + j, none⟩ = false) →
    (Builtin.append_ #[t, tx] ty #[.slice (some ⟨b, off, none⟩) sLen sCap, x]).run P W = .ok (.slice (some ⟨b, off, none⟩) (sLen + m) sCap) (W.setCells b (off + sLen * i.size) news)
  grow : ∀ (base : Option Addr) (sLen sCap : Nat) (olds : List Value), (Builtin.firstCells i.size sLen (.slice base sLen sCap)).run P W.drew = .ok olds.toArray W.drew → m ≠ 0 →
    sCap < sLen + m → ((sLen + m : Nat) : Int) ≤ 9223372036854775807 → Builtin.nextslicecap (sLen + m) sCap * i.bytes ≤ 281474976710656 →
    (Builtin.append_ #[t, tx] ty #[.slice base sLen sCap, x]).run P W =
      .ok (.slice (some ⟨W.heap.size, 0, none⟩) (sLen + m) (grownCap W (sLen + m) sCap e))
        (W.drew.alloc (.cells ((olds ++ news).toArray ++ Builtin.zeroCells z.cells (grownCap W (sLen + m) sCap e - (sLen + m))) e))
theorem SrcB.of {t tx ty e : TypeId} {i : TypeInfo} {z x : Value} {m : Nat} {news : List Value} (ht : P.underlying t = some (.slice e)) (hi : P.info? e = some i) (hz : i.zero = some z) (hs : Src P i.size tx x m news W) : SrcB P t tx ty e i z x m news W :=
  ⟨hs.newsLen, fun pp h => by
    subst h
    have : news = [] := by have := hs.newsLen; rwa [Nat.zero_mul, List.length_eq_zero_iff] at this
    subst this
    exact Et ht hi hs, fun b off sLen sCap h1 h2 h3 => run_append_room_src (P := P) W t tx ty e i ht hi b off sLen sCap x m news hs h1 h2 h3,
    fun base sLen sCap olds h1 _ h2 h3 h4 => run_append_grow_src (P := P) W t tx ty e i z ht hi hz base sLen sCap olds h1 x m news hs h2 h3 h4⟩
theorem Ix (k : IntKind) (m : Nat) : Builtin.zeroCells #[.int k 0] m = (List.replicate m (Value.int k 0)).toArray := by
  apply Array.ext
  · simp [Builtin.zeroCells]
  · intro j h1 h2
    simp [Builtin.zeroCells, Nat.mod_one]
theorem SrcB.zeros {t tx ty e : TypeId} {i : TypeInfo} {k kn kq : IntKind} {m : Nat} (ht : P.underlying t = some (.slice e)) (htx : P.underlying tx = some (.int kn)) (hi : P.info? e = some i) (hz : i.zero = some (.int k 0)) (hs1 : i.size = 1) (hby : i.bytes ≤ 128) (hm : m ≤ 1000000) :
    SrcB P t tx ty e i (.int k 0) (.int kq m) m (List.replicate m (.int k 0)) W := by
  have hw : IntKind.i64.wrap (m : Int) = m := by rw [IntKind.wrap_i64]; omega
  have hneg : ¬ ((m : Int) < 0) := by omega
  have h48 : m * i.bytes ≤ 281474976710656 := by
    have : m * i.bytes ≤ 1000000 * 128 := Nat.mul_le_mul hm hby
    omega
  have h48i : ¬ (281474976710656 < (m : Int) * (i.bytes : Int)) := by
    rw [← Int.natCast_mul]
    omega
  refine ⟨by simp [hs1], fun pp h => ?_, fun b off sLen sCap h1 h2 h3 => ?_, fun base sLen sCap olds h1 hm0 h2 h3 h4 => ?_⟩
  · subst h
    cases pp <;> simp [Builtin.append_, storeCells, run_underlying ht, run_underlying htx, sizeOf, typeInfo, hi, hs1, asInt, asIntOf, hw, IntKind.wrap_i64]
  · have hst := run_storeCells_cells (P := P) b (off + sLen * i.size) (List.replicate m (.int k 0)) 0 W (by simpa using h2) (by simpa using h3) (fun v hv => by rw [(List.mem_replicate.1 hv).2]; rfl)
    simp only [Nat.add_zero] at hst
    by_cases hm0 : m = 0
    · subst hm0
      simp only [hs1, Nat.mul_one, List.replicate_zero] at hst ⊢
      simp [Builtin.append_, run_underlying ht, run_underlying htx, sizeOf, typeInfo, hi, hs1, asInt, asIntOf, hw, IntKind.wrap_i64, h1, Addr.add_lit, hst]
      intro h; omega
    · simp only [hs1, Nat.mul_one] at hst ⊢
      simp [Builtin.append_, run_underlying ht, run_underlying htx, sizeOf, typeInfo, zeroValue, hi, hz, hs1, asInt, asIntOf, hw, hneg, hm0, h48i, h1, Addr.add_lit, Ix, Value.cells, hst]
  · have := Lib.run_append_grow_zeros (P := P) W t tx ty e i (.int k 0) kq kn ht htx hi hz base sLen sCap olds h1 m (by omega) (by omega) h2 h3 h48 h4
    rw [this]
    simp only [Value.cells, Ix]
    congr 3
    apply Array.ext'
    simp
theorem appR_sound (hr : HR ρ σ W) {t tx ty e : TypeId} {i : TypeInfo} {z : Value} (ht : P.underlying t = some (.slice e)) (hi : P.info? e = some i) (_hz : i.zero = some z) (hzs : z.cells.size = i.size) (hby : i.bytes ≤ 128) {q : Bool × Nat × Row}
    {vs vx : Value} {sa : AV} (hvs : VR ρ sa vs) (hX : q.1 = true → ∃ news, SrcB P t tx ty e i z vx q.2.1 news W ∧ VRs ρ q.2.2.list news) (hok : (appR std σ e i.size sa q).1 = true) :
    ∃ v W' ρ', (Builtin.append_ #[t, tx] ty #[vs, vx]).run P W = .ok v W' ∧ HR ρ' (appR std σ e i.size sa q).2.2 W' ∧ Stp σ.next ρ σ W ρ' (appR std σ e i.size sa q).2.2 W' ∧ VR ρ' (appR std σ e i.size sa q).2.1 v := by
  simp only [appR] at hok ⊢
  have hS := fun h => Jz (P := P) (size := i.size) (str := false) hr hvs h (.inr ⟨rfl, e, ht⟩)
  generalize hrs : C8 std false i.size σ sa = rs at hok hS ⊢
  obtain ⟨ok1, n, r1⟩ := rs
  obtain ⟨ok2, m, r2⟩ := q
  have hC := fun h => catA_spec (e := e) (r1 := r1) (r2 := r2) h
  generalize Gx std e r1 r2 = cc at hok hC ⊢
  obtain ⟨ok3, ob⟩ := cc
  simp only [Bool.and_eq_true, std, Nat.ble_eq] at hok hC hS hX ⊢
  obtain ⟨⟨⟨⟨⟨⟨o0, o1⟩, o2⟩, o3⟩, o4⟩, o5⟩, o6⟩ := hok
  have hm0 : m ≠ 0 := fun h => by rw [h] at o0; cases o0
  obtain ⟨olds, s1, s2, s3⟩ := hS o1
  obtain ⟨news, x1, x2⟩ := hX o2
  obtain ⟨c1, c2, c3, c4, c5⟩ := hC o3
  have hcells := s2.append x2
  have hol := s1.newsLen
  have hnl := x1.newsLen
  have hlen : (olds ++ news).length = (n + m) * i.size := by rw [List.length_append, hol, hnl, Nat.add_mul]
  have hobl : ob.len = (n + m) * i.size := by rw [c2, ← hcells.length, hlen]
  have hbytes : (n + m) * i.bytes ≤ 140737488355328 := by
    have : (n + m) * i.bytes ≤ 1000000000000 * 128 := Nat.mul_le_mul o5 hby
    omega
  have hORof : ∀ {ρ2 : Ren} (d : Nat × Nat) (cs : Array Value) (fr : Nat × Nat), Sub ρ ρ2 → Free cs fr → (n + m) * i.size + d.1 ≤ cs.size → cs.size = d.2 → (∀ j, j < (n + m) * i.size → cs[j + d.1]? = (olds ++ news)[j]?) → OR ρ2 d ob (some (.cells cs e fr)) := by
    intro ρ2 d cs fr hsub hfr h1 h2 h3
    refine OR.mk' c1 ?_
    refine ⟨cs, e, fr, rfl, fun _ => ⟨c3.symm, hfr, h2⟩, by rw [hobl]; exact h1, by rw [hobl, ← h2]; exact h1, fun j a hj => ?_⟩
    rw [c5] at hj
    obtain ⟨v, hv, hvr⟩ := hcells.at j a hj
    have hjl := (List.getElem?_eq_some_iff.1 hv).1
    exact ⟨v, by rw [h3 j (by omega)]; exact hv, hvr.mono hsub⟩
  have hgrow : ∀ (base : Option Addr) (cap : Nat) (σ1 : AH), vs = .slice base n cap → cap < n + m → HR ρ σ1 W → Stp σ.next ρ σ W ρ σ1 W → σ1.next = σ.next →
      ∃ v W' ρ', (Builtin.append_ #[t, tx] ty #[vs, vx]).run P W = .ok v W' ∧ HR ρ' (σ1.new ob) W' ∧ Stp σ.next ρ σ W ρ' (σ1.new ob) W' ∧ VR ρ' (.sl σ.next 0 (n + m) (n + m) false i.size) v := by
    intro base cap σ1 hv hg hr1 hst hnx
    subst hv
    have hge := grownCap_ge W (n + m) cap e
    have hrun := x1.grow base n cap olds s1.cellsD hm0 hg (by omega) (growslice_fits hg hbytes)
    obtain ⟨ρ', f1, f2, f3, f4⟩ := (hr1.drew (W.drawn + 1)).new (o := ob) (x := .cells ((olds ++ news).toArray ++ Builtin.zeroCells z.cells (grownCap W (n + m) cap e - (n + m))) e)
      (s := ((olds ++ news).toArray ++ Builtin.zeroCells z.cells (grownCap W (n + m) cap e - (n + m))).size) (by rw [hnx]; exact o6)
      (hORof (0, _) _ (0, 0) (fun _ _ h => h) (.inl rfl) (by rw [Array.size_append, List.size_toArray, hlen]; show _ + 0 ≤ _; omega) rfl (fun j hj => by
        show _[j + 0]? = _
        rw [Nat.add_zero, Array.getElem?_append_left (by rw [List.size_toArray, hlen]; exact hj)]; simp))
    refine ⟨_, _, ρ', hrun, f3, (hst.trans f4.drew (by rw [hnx]; exact Nat.le_refl _)), ?_⟩
    rw [hnx] at f1
    unfold VR
    refine .inl ⟨_, _, 0, grownCap W (n + m) cap e, f1, rfl, fun _ => rfl, Nat.le_refl _, hge, fun h => (by cases h), ?_⟩
    show 0 + _ ≤ Array.size _
    rw [Array.size_append, List.size_toArray, hlen, size_zeroCells, hzs, ← Nat.add_mul, Nat.add_sub_cancel' hge, Nat.zero_add]
    exact Nat.le_refl _
  have hnilAny : ∀ (pp : Option Addr) (σ1 : AH), vs = .slice pp 0 0 → n = 0 → HR ρ σ1 W → Stp σ.next ρ σ W ρ σ1 W → σ1.next = σ.next →
      ∃ v W' ρ', (Builtin.append_ #[t, tx] ty #[vs, vx]).run P W = .ok v W' ∧ HR ρ' (σ1.new ob) W' ∧ Stp σ.next ρ σ W ρ' (σ1.new ob) W' ∧ VR ρ' (.sl σ.next 0 (n + m) (n + m) false i.size) v := by
    intro pp σ1 hv hn hr1 hst hnx
    exact hgrow pp 0 σ1 (by rw [hv, hn]) (by omega) hr1 hst hnx
  cases sa
  case nilsl =>
    unfold VR at hvs
    have hn : n = 0 := by simp only [C8, Prod.mk.injEq] at hrs; exact hrs.2.1.symm
    exact hnilAny none σ hvs hn hr (Stp.refl (Nat.le_refl _)) rfl
  case sl b o n' k ex zz =>
    simp only [Gz] at o4
    cases hob : σ.get b with
    | none => rw [hob] at o4; cases o4
    | some ob0 =>
      rw [hob] at o4
      simp only [Bool.and_eq_true] at o4
      obtain ⟨p1, p3⟩ := o4
      have hn : n = n' := by
        simp only [C8, hob] at hrs
        cases ob0 with
        | dead => cases p1
        | map l => cases p1
        | hid => cases p1
        | cells l e2 t2 => simp only [Prod.mk.injEq] at hrs; exact hrs.2.1.symm
        | ints ik l e2 t2 => simp only [Prod.mk.injEq] at hrs; exact hrs.2.1.symm
      subst hn
      rcases vr_sl hvs with ⟨c, d, o', k', hb, hv, ho, hnk, hkk, hex, hlim⟩ | ⟨hn0, _, hx, hpx, pp, hv⟩
      · have hkill := hr.killt hob (.inr ⟨_, hb⟩)
        have hnr : ex = false ∨ std.ltN k (n + m) = false → ob0.isRo = false := fun h => by
          rw [Bool.or_eq_true, Bool.and_eq_true, Bool.and_eq_true] at p3
          rcases p3 with ⟨_, h'⟩ | ⟨h1, h2⟩
          · simpa using h'
          · rcases h with h | h
            · rw [h] at h1; cases h1
            · have h2 : std.ltN k (n + m) = true := h2
              rw [h] at h2; cases h2
        by_cases hroom : n + m ≤ k'
        · -- in place
          have hnk2 : G5 std σ (n + m) (.sl b o n k ex zz) = σ.put b .dead := by
            cases ex
            · rfl
            · simp only [G5]
              have : std.ltN k (n + m) = false := by
                show Nat.blt k (n + m) = false
                rw [Bool.eq_false_iff]; intro h; rw [Nat.blt_eq] at h
                have := hex rfl; omega
              rw [this]; rfl
          have hel : ob0.elem = e ∧ ob0.isRo = false := by
            rw [Bool.or_eq_true, Bool.and_eq_true, Bool.and_eq_true] at p3
            rcases p3 with ⟨h, h'⟩ | ⟨h1, h2⟩
            · exact ⟨Nat.eq_of_beq_eq_true h, by simpa using h'⟩
            · have h2 : Nat.blt k (n + m) = true := h2
              rw [Nat.blt_eq] at h2
              have := hex h1; omega
          show ∃ v W' ρ', _ ∧ HR ρ' ((G5 std σ (n + m) (.sl b o n k ex zz)).new ob) W' ∧ Stp σ.next ρ σ W ρ' ((G5 std σ (n + m) (.sl b o n k ex zz)).new ob) W' ∧ _
          rw [hnk2]
          obtain ⟨_, hcW, ob', hob', hO⟩ := hr.dom b c d hb
          rw [hob] at hob'; cases hob'
          obtain ⟨cs, e0, fr, hx, hrw, hlen0, _, _⟩ := (hO.1 p1).2 (fun h => by rw [hel.2] at h; cases h)
          obtain ⟨rfl, hfr, hcsz⟩ := hrw hel.2
          have hkm : (n + m) * i.size ≤ k' * i.size := Nat.mul_le_mul_right _ hroom
          have hnm : (n + m) * i.size = n * i.size + m * i.size := Nat.add_mul _ _ _
          have hzz : zz = i.size := by
            simp only [C8, hob] at hrs
            cases ob0 with
            | dead => cases p1
            | map l => cases p1
            | hid => cases p1
            | cells l e2 t2 =>
              simp only [Prod.mk.injEq] at hrs
              have := hrs.1.trans o1
              simp only [Bool.and_eq_true, Nat.beq_eq] at this
              exact this.1.1.2
            | ints ik l e2 t2 =>
              simp only [Prod.mk.injEq] at hrs
              have := hrs.1.trans o1
              simp only [Bool.and_eq_true, Nat.beq_eq] at this
              exact this.1.2
          subst hzz
          have hcc : ∀ j, j < news.length → o' + n * i.size + j < cs.size := fun j hj => by omega
          have hrun := x1.room c o' n k' hroom (fun j hj => by simp [World.cell?, hx, hcc j hj]) (fun j hj => by
            have := hfr.no _ (hcc j hj)
            simp only [World.frozen?, hx]
            rw [Bool.eq_false_iff]
            intro e
            rw [Bool.and_eq_true, decide_eq_true_eq, decide_eq_true_eq] at e
            exact this e)
          obtain ⟨g1, g2, g3, g4⟩ := Fz news W c (o' + n * i.size)
          obtain ⟨q1, q2⟩ := hr.replace (W' := W.setCells c (o' + n * i.size) news) (o' := .dead) hb hob (AObj.alive_of p1) hel.2 OR.dead (fun k hk => by rw [Do, if_neg hk]) g4 g1 g2 g3
          have hheap : (W.setCells c (o' + n * i.size) news).heap[c]? = some (.cells (Fy cs (o' + n * i.size) news) e fr) := by rw [Do, if_pos rfl, hx, ← hel.1]; rfl
          have hmem : ∀ j u, olds[j]? = some u → cs[o' + j]? = some u := fun j u hu => by
            rcases s3 trivial with ⟨h1, h2⟩ | ⟨a, c2, h1, h2⟩
            · rw [hv] at h1; cases h1
            · rw [hv] at h1
              injection h1 with h1
              injection h1 with h1
              have := h2 j u hu
              rw [← h1, Dx] at this
              simpa [World.cell?, hx] using this
          have hOR : OR ρ (o', d.2) ob (W.setCells c (o' + n * i.size) news).heap[c]? := by
            rw [hheap]
            refine hORof (o', d.2) _ fr (fun _ _ h => h) (by unfold Free; rw [Di]; exact hfr) (by rw [Di]; show _ + o' ≤ _; omega) (by rw [Di]; exact hcsz) fun j hj => ?_
            show (Fy cs (o' + n * i.size) news)[j + o']? = _
            rw [Jw _ _ _ (by omega), List.getElem?_append]
            by_cases hjn : j < olds.length
            · rw [if_neg (by omega), if_pos hjn, List.getElem?_eq_getElem hjn, Nat.add_comm j o']
              exact hmem j _ (List.getElem?_eq_getElem hjn)
            · rw [if_pos (by omega), if_neg hjn, show j + o' - (o' + n * i.size) = j - olds.length by omega]
          have hb20 : b < 1048576 := by have := (hr.dom b c d hb).1; have := hr.small; omega
          obtain ⟨ρ', f1, f2, f3, f4⟩ := q1.rename (c := c) (d := (o', d.2)) (o := ob) o6 (by rw [g4]; exact hcW) hOR (fun b' d' hb' => by
              rw [AH.get_put hb20]
              by_cases hbb : b' = b
              · rw [if_pos hbb]
              · rw [if_neg hbb]
                exact (hr.inj b b' c d d' hb hb' (Ne.symm hbb)).left hob (AObj.alive_of p1) hel.2) ⟨b, d, hb⟩
          rw [hv]
          refine ⟨_, _, ρ', hrun, f3, q2.trans f4 (Nat.le_refl _), ?_⟩
          unfold VR
          exact .inl ⟨c, (o', d.2), o', k', f1, rfl, fun _ => (Nat.zero_add _).symm, Nat.le_refl _, hroom, fun h => (by cases h), by show o' + k' * i.size ≤ d.2; exact hlim⟩
        · have hσ1 : ∃ σ1, G5 std σ (n + m) (.sl b o n k ex zz) = σ1 ∧ HR ρ σ1 W ∧ Stp σ.next ρ σ W ρ σ1 W ∧ σ1.next = σ.next := by
            cases ex
            · have hkill := hkill (hnr (.inl rfl)); exact ⟨_, rfl, hkill.1, hkill.2, rfl⟩
            · simp only [G5]
              cases hlt : std.ltN k (n + m)
              · have hkill := hkill (hnr (.inr hlt)); exact ⟨_, rfl, hkill.1, hkill.2, rfl⟩
              · exact ⟨_, rfl, hr, Stp.refl (Nat.le_refl _), rfl⟩
          obtain ⟨σ1, e1, e2, e3, e4⟩ := hσ1
          show ∃ v W' ρ', _ ∧ HR ρ' ((G5 std σ (n + m) (.sl b o n k ex zz)).new ob) W' ∧ Stp σ.next ρ σ W ρ' ((G5 std σ (n + m) (.sl b o n k ex zz)).new ob) W' ∧ _
          rw [e1]
          exact hgrow _ k' σ1 hv (by omega) e2 e3 e4
      · subst hx
        have hkill := hr.killt hob (.inr hpx) (by
          rw [Bool.or_eq_true, Bool.and_eq_true, Bool.and_eq_true] at p3
          rcases p3 with ⟨_, h'⟩ | ⟨h1, _⟩
          · simpa using h'
          · cases h1)
        exact hnilAny (some pp) _ hv hn0 hkill.1 hkill.2 rfl
  all_goals (simp only [Gz] at o4; cases o4)
theorem appN_sound (hr : HR ρ σ W) {t tx ty e : TypeId} {i : TypeInfo} {z : Value} (ht : P.underlying t = some (.slice e)) (hi : P.info? e = some i) (hz : i.zero = some z) (hzs : z.cells.size = i.size) (_hsz : 0 < i.size) (hby : i.bytes ≤ 128) {str : Bool} (htx : (str = true ∧ P.underlying tx = some .string) ∨ (str = false ∧ ∃ e', P.underlying tx = some (.slice e')))
    {vs vx : Value} {sa ax : AV} (hvs : VR ρ sa vs) (hvx : VR ρ ax vx) (hok : (appN std σ e str i.size sa ax).1 = true) :
    ∃ v W' ρ', (Builtin.append_ #[t, tx] ty #[vs, vx]).run P W = .ok v W' ∧ HR ρ' (appN std σ e str i.size sa ax).2.2 W' ∧ Stp σ.next ρ σ W ρ' (appN std σ e str i.size sa ax).2.2 W' ∧ VR ρ' (appN std σ e str i.size sa ax).2.1 v :=
  appR_sound hr ht hi hz hzs hby hvs (fun h => by
    obtain ⟨news, x1, x2, _⟩ := Jz (P := P) (size := i.size) (str := str) hr hvx h htx
    exact ⟨news, .of ht hi hz x1, x2⟩) hok
theorem appX_sound (hr : HR ρ σ W) {t tx ty e : TypeId} {i : TypeInfo} {z : Value} (ht : P.underlying t = some (.slice e)) (hi : P.info? e = some i) (hz : i.zero = some z) (hzs : z.cells.size = i.size) (hby : i.bytes ≤ 128) {q : Bool × Nat × Row}
    {vs vx : Value} {sa : AV} (hvs : VR ρ sa vs) (hX : q.1 = true → ∃ news, SrcB P t tx ty e i z vx q.2.1 news W ∧ VRs ρ q.2.2.list news) (hok : (appX std σ e i.size sa q).1 = true) :
    ∃ v W' ρ', (Builtin.append_ #[t, tx] ty #[vs, vx]).run P W = .ok v W' ∧ HR ρ' (appX std σ e i.size sa q).2.2 W' ∧ Stp σ.next ρ σ W ρ' (appX std σ e i.size sa q).2.2 W' ∧ VR ρ' (appX std σ e i.size sa q).2.1 v := by
  have hN := appR_sound (ty := ty) hr ht hi hz hzs hby hvs hX
  obtain ⟨ok2, m, r2⟩ := q
  simp only [appX] at hok hX hN ⊢
  cases hb : std.eqN m 0 && isSl i.size sa with
  | false => rw [hb] at hok; exact hN hok
  | true =>
    rw [hb] at hok
    simp only [cond_true] at hok ⊢
    rw [Bool.and_eq_true] at hb
    have hm : m = 0 := Nat.eq_of_beq_eq_true hb.1
    subst hm
    obtain ⟨news, x1, _⟩ := hX hok
    have hnl := x1.newsLen
    rw [Nat.zero_mul, List.length_eq_zero_iff] at hnl
    subst hnl
    have key : ∃ w0, vs = w0 ∧ (Builtin.append_ #[t, tx] ty #[w0, vx]).run P W = .ok w0 W := by
      refine ⟨vs, rfl, ?_⟩
      cases sa <;> simp only [isSl] at hb <;> try (cases hb.2; done)
      · rename_i b o n k ex zz
        rcases vr_sl hvs with ⟨c, d, o', k', _, hv, _, hnk, hkk, _⟩ | ⟨rfl, rfl, _, _, pp, hv⟩
        · subst hv
          have hrun := x1.room c o' n k' (by omega) (fun j hj => absurd hj (Nat.not_lt_zero _)) (fun j hj => absurd hj (Nat.not_lt_zero _))
          rw [hrun, Nat.add_zero]; rfl
        · subst hv
          exact x1.nil _ rfl
      · unfold VR at hvs
        subst hvs; exact x1.nil _ rfl
    obtain ⟨_, rfl, hrun⟩ := key
    exact ⟨vs, W, ρ, hrun, hr, Stp.refl (Nat.le_refl _), hvs⟩
theorem appz_sound (hr : HR ρ σ W) {t tx ty e : TypeId} {i : TypeInfo} {k kn : IntKind} (ht : P.underlying t = some (.slice e)) (htx : P.underlying tx = some (.int kn)) (hi : P.info? e = some i) (hz : i.zero = some (.int k 0)) (hs1 : i.size = 1) (hby : i.bytes ≤ 128)
    {vs vx : Value} {sa ax : AV} (hvs : VR ρ sa vs) (hvx : VR ρ ax vx) (hok : (Bf std σ (.appz e k) [sa, ax]).1 = true) :
    ∃ v W' ρ', (Builtin.append_ #[t, tx] ty #[vs, vx]).run P W = .ok v W' ∧ HR ρ' (Bf std σ (.appz e k) [sa, ax]).2.2 W' ∧ Stp σ.next ρ σ W ρ' (Bf std σ (.appz e k) [sa, ax]).2.2 W' ∧ VR ρ' (Bf std σ (.appz e k) [sa, ax]).2.1 v := by
  cases ax
  case int kq nq =>
    unfold VR at hvx
    subst hvx
    have key := appX_sound (q := zrow std k nq) (vx := .int kq nq) (tx := tx) (ty := ty) hr ht hi hz (by rw [hs1]; rfl) hby hvs (fun h => by
      simp only [zrow, std, Bool.and_eq_true, decide_eq_true_eq, Nat.ble_eq] at h ⊢
      obtain ⟨h1, h2⟩ := h
      refine ⟨List.replicate nq.toNat (.int k 0), ?_, ?_⟩
      · have := SrcB.zeros (W := W) (ty := ty) (m := nq.toNat) (kq := kq) ht htx hi hz hs1 hby h2
        rwa [Int.toNat_of_nonneg h1] at this
      · have := VRs.ints (ρ := ρ) k (List.replicate nq.toNat 0)
        simpa [Row.list] using this)
    rw [hs1] at key
    exact key hok
  all_goals (have h : false = true := hok; cases h)
theorem append_sound (hr : HR ρ σ W) {t tx ty e : TypeId} {i : TypeInfo} {z : Value} (ht : P.underlying t = some (.slice e)) (hi : P.info? e = some i) (hz : i.zero = some z) (hzs : z.cells.size = i.size) (hsz : 0 < i.size) (hby : i.bytes ≤ 128) {str : Bool} (htx : (str = true ∧ P.underlying tx = some .string) ∨ (str = false ∧ ∃ e', P.underlying tx = some (.slice e')))
    {vs vx : Value} {sa ax : AV} (hvs : VR ρ sa vs) (hvx : VR ρ ax vx) (hok : (Bf std σ (.append e str i.size) [sa, ax]).1 = true) :
    ∃ v W' ρ', (Builtin.append_ #[t, tx] ty #[vs, vx]).run P W = .ok v W' ∧ HR ρ' (Bf std σ (.append e str i.size) [sa, ax]).2.2 W' ∧ Stp σ.next ρ σ W ρ' (Bf std σ (.append e str i.size) [sa, ax]).2.2 W' ∧ VR ρ' (Bf std σ (.append e str i.size) [sa, ax]).2.1 v := by
  have hX := fun h => Jz (P := P) (size := i.size) (str := str) hr hvx h htx
  have hN := appN_sound (ty := ty) hr ht hi hz hzs hsz hby htx hvs hvx
  simp only [Bf] at hok ⊢
  generalize hrx : C8 std str i.size σ ax = rx at hok hX ⊢
  obtain ⟨ok2, m, r2⟩ := rx
  simp only at hok hX ⊢
  cases hb : std.eqN m 0 && isSl i.size sa with
  | false => rw [hb] at hok; exact hN hok
  | true =>
    rw [hb] at hok
    simp only [cond_true] at hok ⊢
    rw [Bool.and_eq_true] at hb
    have hm : m = 0 := Nat.eq_of_beq_eq_true hb.1
    subst hm
    obtain ⟨news, x1, _, _⟩ := hX hok
    have hnl := x1.newsLen
    rw [Nat.zero_mul, List.length_eq_zero_iff] at hnl
    subst hnl
    have key : ∃ w0, vs = w0 ∧ (Builtin.append_ #[t, tx] ty #[w0, vx]).run P W = .ok w0 W := by
      refine ⟨vs, rfl, ?_⟩
      cases sa <;> simp only [isSl] at hb <;> try (cases hb.2; done)
      · rename_i b o n k ex zz
        rcases vr_sl hvs with ⟨c, d, o', k', _, hv, _, hnk, hkk, _⟩ | ⟨rfl, rfl, _, _, pp, hv⟩
        · subst hv
          have hrun := run_append_room_src (P := P) W t tx ty e i ht hi c o' n k' vx 0 [] x1 (by omega) (fun j hj => absurd hj (Nat.not_lt_zero _)) (fun j hj => absurd hj (Nat.not_lt_zero _))
          rw [hrun, Nat.add_zero]; rfl
        · subst hv
          rcases x1.kind with ⟨e', hk⟩ | hk <;> simp [Builtin.append_, run_underlying ht, run_underlying hk, sizeOf, typeInfo, hi, x1.len, x1.cells, storeCells]
      · unfold VR at hvs
        subst hvs; exact Et ht hi x1
    obtain ⟨_, rfl, hrun⟩ := key
    exact ⟨vs, W, ρ, hrun, hr, Stp.refl (Nat.le_refl _), hvs⟩
end
end
end Go.Proofs.YtjoakhpdajlhiaaGreatDoor.V2
namespace Go.Proofs.YtjoakhpdajlhiaaGreatDoor.V2
open Go
noncomputable section
theorem Ma : ∀ (l m : List Value) (o : Nat) (cs : Array Value), Fy cs o (l ++ m) = Fy (Fy cs o l) (o + l.length) m
  | [], m, o, cs => rfl
  | v :: l, m, o, cs => by
    show Fy (cs.setIfInBounds o v) (o + 1) (l ++ m) = Fy (Fy (cs.setIfInBounds o v) (o + 1) l) (o + (l.length + 1)) m
    rw [Ma l m, Nat.add_assoc, Nat.add_comm 1]
theorem Lu (off : Nat) : ∀ (l : List Value) (s : Nat) (cs : Array Value), (l.zipIdx s).foldl (fun cs p => cs.setIfInBounds (off + p.2) p.1) cs = Fy cs (off + s) l
  | [], s, cs => rfl
  | v :: l, s, cs => by
    rw [List.zipIdx_cons, List.foldl_cons, Lu off l (s + 1)]; rfl
theorem fill_spec (size : Nat) : ∀ (vs : List Value) (k : Nat) (cells : Array Value), (∀ v ∈ vs, v.cells.size = size) → (k + vs.length) * size ≤ cells.size →
    Instr.fill (fun i => some (i * size, size)) cells ((List.range' k vs.length).zip vs) = some (Fy cells (k * size) (vs.flatMap fun v => v.cells.toList))
  | [], k, cells, _, _ => rfl
  | v :: vs, k, cells, h, hs => by
    have hv := h v List.mem_cons_self
    rw [List.length_cons] at hs ⊢
    rw [List.range'_succ, List.zip_cons_cons]
    unfold Instr.fill
    simp only
    have hk : (k + (vs.length + 1)) * size = k * size + size + vs.length * size := by rw [Nat.add_mul, Nat.add_mul, Nat.one_mul]; omega
    rw [if_neg (by rw [hv]; simp; omega)]
    have e1 : Array.foldl (fun cs (x : Value × Nat) => match x with | (c, j) => cs.setIfInBounds (k * size + j) c) cells v.cells.zipIdx = Fy cells (k * size) v.cells.toList := by
      rw [← Array.foldl_toList, Array.toList_zipIdx]
      exact Lu (k * size) v.cells.toList 0 cells
    have e2 := fill_spec size vs (k + 1) (Fy cells (k * size) v.cells.toList) (fun u hu => h u (List.mem_cons_of_mem _ hu)) (by rw [Di, show (k + 1 + vs.length) * size = (k + (vs.length + 1)) * size by rw [Nat.add_assoc, Nat.add_comm 1]]; exact hs)
    rw [e1, e2, List.flatMap_cons, Ma]
    have : k * size + v.cells.toList.length = (k + 1) * size := by rw [Nat.add_mul, Nat.one_mul, ← hv]; rfl
    rw [this]
theorem setL_all (cs : Array Value) (l : List Value) (h : l.length = cs.size) : Fy cs 0 l = l.toArray := by
  apply Array.ext_getElem?
  intro j
  rw [Jw l 0 cs (by omega)]
  by_cases hj : 0 ≤ j ∧ j < 0 + l.length
  · rw [if_pos hj]; simp
  · rw [if_neg hj, Array.getElem?_eq_none (by omega)]; simp; omega
section
variable {P : Program} {W : World} {ρ : Ren} {σ : AH}
theorem VRs.flat : ∀ {l : List AV} {vs : List Value}, VRs ρ l vs → (l.all fun a => a.known) = true → VRs ρ (l.flatMap AV.cells) (vs.flatMap fun v => v.cells.toList)
  | [], _, e, _ => by rw [show _ = [] from e]; rfl
  | a :: l, _, ⟨v, m, e, hv, hm⟩, h => by
    subst e
    rw [List.all_cons, Bool.and_eq_true] at h
    rw [List.flatMap_cons, List.flatMap_cons]
    exact (hv.cells h.1).append (hm.flat h.2)
def Makes (P : Program) (m : Sem Next) (W : World) (ρ : Ren) (r : Bool × (Nat → AV) × AObj) : Prop := r.1 = true → ∃ v x n s, m.run P W = .ok (.value v) { W with heap := W.heap.push x, drawn := n } ∧ OR ρ (0, s) r.2.2 (some x) ∧ ∀ ρ' b, ρ' b = some (W.heap.size, (0, s)) → VR ρ' (r.2.1 b) v
theorem Makes.runs {m : Sem Next} {r : Bool × (Nat → AV) × AObj} (h : Makes P m W ρ r) (hr : HR ρ σ W) : Runs P m W ρ σ (r.1 && Nat.blt σ.next 1000000, r.2.1 σ.next, σ.new r.2.2) := fun hok => by
  have hok : (r.1 && Nat.blt σ.next 1000000) = true := hok
  rw [Bool.and_eq_true] at hok
  obtain ⟨v, x, n, s, h1, h2, h3⟩ := h hok.1
  obtain ⟨ρ', f1, _, f3, f4⟩ := (hr.drew n).new (o := r.2.2) (x := x) hok.2 h2
  exact ⟨_, _, ρ', h1, f3, f4.drew, .inl ⟨v, rfl, h3 ρ' _ f1⟩⟩
theorem bslice_makes {t e : TypeId} {i : TypeInfo} {z : Value} {n : Nat} (ht : P.underlying t = some (.slice e)) (hi : P.info? e = some i) (hz : i.zero = some z) (hn : n * i.size ≤ 16777216)
    {as' : List AV} {vs : List Value} (hvs : VRs ρ as' vs) (hl : vs.length = n) {parts : Array (Nat × Value)} (hp : parts.toList = (List.range n).zip vs) :
    Makes P (do let v ← Instr.buildSlice t n parts; pure (.value v)) W ρ (Bl std (.bslice e i.size n) as') := by
  intro hok
  simp only [Bl, Bool.and_eq_true, Nat.beq_eq] at hok ⊢
  obtain ⟨h2, h3⟩ := hok
  have hkn : (as'.all fun a => a.known) = true := by
    rw [List.all_eq_true] at h3 ⊢
    intro a ha
    have := h3 a ha
    rw [Bool.and_eq_true] at this
    exact this.1
  have hsz : ∀ v ∈ vs, v.cells.size = i.size := by
    intro v hv
    obtain ⟨j, hj⟩ := List.mem_iff_getElem?.1 hv
    have hjl := (List.getElem?_eq_some_iff.1 hj).1
    have hal := hvs.length
    have ha : as'[j]? = some as'[j] := List.getElem?_eq_getElem (by omega)
    obtain ⟨u, hu, hur⟩ := hvs.at j _ ha
    rw [hj] at hu; cases hu
    have := List.all_eq_true.1 h3 _ (List.getElem_mem (by omega : j < as'.length))
    rw [Bool.and_eq_true, Nat.beq_eq] at this
    have hc := (hur.cells this.1).length
    rw [← this.2, ← hc]; rfl
  have hflat := hvs.flat hkn
  have hfl : (vs.flatMap fun v => v.cells.toList).length = n * i.size := by rw [hflat.length]; exact h2
  have hfill : ∀ cells0 : Array Value, Instr.fill (fun i_1 => some (i_1 * i.size, i.size)) ((Array.range (n * i.size)).map (cells0[· % cells0.size]!)) parts.toList = some (vs.flatMap fun v => v.cells.toList).toArray := fun cells0 => by
    have hfill := fill_spec i.size vs 0 ((Array.range (n * i.size)).map (cells0[· % cells0.size]!)) hsz (by simp [hl])
    rwa [← List.range_eq_range', hl, ← hp, Nat.zero_mul, setL_all _ _ (by simp [hfl])] at hfill
  have hrun : (Instr.buildSlice t n parts).run P W = .ok (.slice (some ⟨W.heap.size, 0, none⟩) n n) { W with heap := W.heap.push (.cells (vs.flatMap fun v => v.cells.toList).toArray e) } := by
    unfold Instr.buildSlice
    have hsize : (sizeOf e).run P W = .ok i.size W := by simp [sizeOf, typeInfo, hi]
    have hze : (zeroValue e).run P W = .ok z W := by simp [zeroValue, typeInfo, hi, hz]
    rw [Sem.run_bind, run_underlying ht, Result.andThen_ok]
    simp only [Sem.run_bind, hsize, Result.andThen_ok]
    rw [if_neg (by omega)]
    by_cases h0 : n * i.size = 0
    · rw [if_pos h0]
      simp only [Sem.run_bind, Sem.run_pure, Result.andThen_ok, hfill, newRow, run_newObj]
    · rw [if_neg h0]
      simp only [Sem.run_bind, Sem.run_pure, Result.andThen_ok, hze, hfill, newRow, run_newObj]
  refine ⟨.slice (some ⟨W.heap.size, 0, none⟩) n n, _, W.drawn, _, by rw [Sem.run_bind, hrun]; rfl, OR.of hflat, fun ρ' b hb => ?_⟩
  unfold VR
  exact .inl ⟨_, _, 0, n, hb, rfl, fun _ => rfl, Nat.le_refl _, Nat.le_refl _, fun _ => rfl, by show 0 + n * i.size ≤ List.length _; rw [hfl]; omega⟩
end
end
end Go.Proofs.YtjoakhpdajlhiaaGreatDoor.V2
namespace Go.Proofs.YtjoakhpdajlhiaaGreatDoor.V2
open Go
section
variable {P : Program} {W : World} {ρ : Ren} {σ : AH}
theorem Kv {l : List AV} {v : Value} (h : VR ρ (.agg l) v) : ∃ us : List Value, v = .agg us.toArray ∧ VRs ρ l us := by unfold VR at h; exact h
theorem Fj {k : IntKind} {l : List Int} {v : Value} (h : VR ρ (.ints k l) v) : v = .agg (l.map (Value.int k)).toArray := by unfold VR at h; exact h
theorem Ii {t : TypeId} {d : TypeDesc} (hu : P.underlying t = some d) : (isAgg t).run P W = .ok (B3 d) W := by
  unfold isAgg underlying
  simp only [Sem.run_bind, run_program, Result.andThen_ok, hu, Sem.run_pure]
  cases d <;> rfl
theorem Ch {t : TypeId} {i : TypeInfo} (hi : P.info? t = some i) : (sizeOf t).run P W = .ok i.size W := by simp [sizeOf, typeInfo, hi]
theorem part1_run {t : TypeId} {d : TypeDesc} (hu : P.underlying t = some d) (hd : B3 d = false) {ax : AV} {x : Value} (hx : VR ρ ax x) {off : Nat} (hok : (Hm std ax off).1 = true) :
    ∃ cs v, x = .agg cs ∧ (part t cs off).run P W = .ok v W ∧ VR ρ (Hm std ax off).2 v := by
  cases ax <;> simp only [Hm, Bool.false_eq_true] at hok
  case agg l =>
    obtain ⟨us, rfl, hus⟩ := Kv hx
    rw [Nat.blt_eq] at hok
    obtain ⟨v, hv, hr⟩ := hus.at off l[off] (List.getElem?_eq_getElem hok)
    refine ⟨us.toArray, v, rfl, ?_, ?_⟩
    · unfold part
      simp only [Sem.run_bind, Ii hu, hd, Result.andThen_ok, Bool.false_eq_true, if_false]
      have : us.toArray[off]? = some v := by simpa using hv
      rw [this]; rfl
    · show VR ρ (l.getD off .top) v
      simp only [List.getD_eq_getElem?_getD, List.getElem?_eq_getElem hok, Option.getD_some]; exact hr
  case ints k l =>
    have := Fj hx
    subst this
    have hlt : off < l.length := by have hok : Nat.blt off l.length = true := hok; rwa [Nat.blt_eq] at hok
    refine ⟨_, .int k l[off], rfl, ?_, ?_⟩
    · unfold part
      simp only [Sem.run_bind, Ii hu, hd, Result.andThen_ok, Bool.false_eq_true, if_false]
      have : (l.map (Value.int k)).toArray[off]? = some (.int k l[off]) := by simp [hlt]
      rw [this]; rfl
    · show VR ρ (.int k (l.getD off 0)) _
      unfold VR; simp [hlt]
theorem partN_run {t : TypeId} {d : TypeDesc} {i : TypeInfo} (hu : P.underlying t = some d) (hd : B3 d = true) (hi : P.info? t = some i) {ax : AV} {x : Value} (hx : VR ρ ax x) {off : Nat} (hok : (Hl std ax off i.size).1 = true) :
    ∃ cs v, x = .agg cs ∧ (part t cs off).run P W = .ok v W ∧ VR ρ (Hl std ax off i.size).2 v := by
  have hpart : ∀ cs : Array Value, (part t cs off).run P W = .ok (.agg (cs.extract off (off + i.size))) W := fun cs => by
    unfold part
    simp only [Sem.run_bind, Ii hu, hd, Result.andThen_ok, if_true, Ch hi, Sem.run_pure]
  cases ax <;> simp only [Hl, Bool.false_eq_true] at hok
  case agg l =>
    obtain ⟨us, rfl, hus⟩ := Kv hx
    rw [Nat.ble_eq] at hok
    have hl := hus.length
    refine ⟨us.toArray, _, rfl, hpart _, ?_⟩
    have e : us.toArray.extract off (off + i.size) = ((us.drop off).take i.size).toArray := by
      apply Array.ext'; simp [List.extract]
    rw [e]
    refine F3 (VRs.of _ _ (by simp; omega) fun j a hj => ?_)
    rw [List.getElem?_take] at hj
    split at hj
    · rename_i hjl
      rw [List.getElem?_drop] at hj
      obtain ⟨v, hv, hr⟩ := hus.at _ a hj
      exact ⟨v, by rw [List.getElem?_take, if_pos hjl, List.getElem?_drop]; exact hv, hr⟩
    · cases hj
  case ints k l =>
    have := Fj hx
    subst this
    refine ⟨_, _, rfl, hpart _, ?_⟩
    show VR ρ (.ints k ((l.drop off).take i.size)) _
    unfold VR
    congr 1
    apply Array.ext'
    simp [List.extract, List.map_drop, List.map_take]
theorem sem_field1 (hr : HR ρ σ W) {s : TypeId} {fs : Array Field} {f : Nat} {fd : Field} {d : TypeDesc} (hs : P.underlying s = some (.struct fs)) (hf : fs[f]? = some fd) (hu : P.underlying fd.type = some d) (hd : B3 d = false) {ax : AV} {x : Value} (hx : VR ρ ax x) :
    Runs P (do let v ← Instr.field s x f; pure (.value v)) W ρ σ ((Hm std ax fd.offset).1, (Hm std ax fd.offset).2, σ) := by
  intro hok
  obtain ⟨cs, v, rfl, h1, h2⟩ := part1_run (P := P) (W := W) hu hd hx hok
  refine ⟨.value v, W, ρ, ?_, hr, Stp.refl (Nat.le_refl _), .inl ⟨v, rfl, h2⟩⟩
  simp only [Instr.field, Sem.run_bind, run_underlying hs, Result.andThen_ok, hf, asAgg, Sem.run_pure, h1]
theorem sem_fieldN (hr : HR ρ σ W) {s : TypeId} {fs : Array Field} {f : Nat} {fd : Field} {d : TypeDesc} {i : TypeInfo} (hs : P.underlying s = some (.struct fs)) (hf : fs[f]? = some fd) (hu : P.underlying fd.type = some d) (hd : B3 d = true) (hi : P.info? fd.type = some i) {ax : AV} {x : Value} (hx : VR ρ ax x) :
    Runs P (do let v ← Instr.field s x f; pure (.value v)) W ρ σ ((Hl std ax fd.offset i.size).1, (Hl std ax fd.offset i.size).2, σ) := by
  intro hok
  obtain ⟨cs, v, rfl, h1, h2⟩ := partN_run (P := P) (W := W) hu hd hi hx hok
  refine ⟨.value v, W, ρ, ?_, hr, Stp.refl (Nat.le_refl _), .inl ⟨v, rfl, h2⟩⟩
  simp only [Instr.field, Sem.run_bind, run_underlying hs, Result.andThen_ok, hf, asAgg, Sem.run_pure, h1]
theorem sem_idxA (hr : HR ρ σ W) {t e : TypeId} {len : Nat} {i : TypeInfo} {d : TypeDesc} (ht : P.underlying t = some (.array len e)) (hi : P.info? e = some i) (hu : P.underlying e = some d) {ax ay : AV} {x y : Value} (hx : VR ρ ax x) (hy : VR ρ ay y) :
    Runs P (do let v ← Instr.index t x y; pure (.value v)) W ρ σ ((Aq std (.idxArr len i.size (B3 d)) [ax, ay]).1, (Aq std (.idxArr len i.size (B3 d)) [ax, ay]).2, σ) := by
  intro hok
  cases ay <;> simp only [Aq, Bool.false_eq_true] at hok
  rename_i k n
  simp only [VR] at hy
  subst hy
  simp only [Bool.and_eq_true] at hok
  obtain ⟨⟨h0, h1⟩, h2⟩ := hok
  have h0 : 0 ≤ n := of_decide_eq_true h0
  have h1 : n.toNat < len := by have h1 : Nat.blt n.toNat len = true := h1; rwa [Nat.blt_eq] at h1
  have key : ∃ cs v, x = .agg cs ∧ (part e cs (n.toNat * i.size)).run P W = .ok v W ∧ VR ρ (Aq std (.idxArr len i.size (B3 d)) [ax, .int k n]).2 v := by
    simp only [Aq]
    cases hd : B3 d with
    | true =>
      rw [hd] at h2
      exact partN_run (P := P) (W := W) hu hd hi hx h2
    | false =>
      rw [hd] at h2
      exact part1_run (P := P) (W := W) hu hd hx h2
  obtain ⟨cs, v, rfl, h3, h4⟩ := key
  refine ⟨.value v, W, ρ, ?_, hr, Stp.refl (Nat.le_refl _), .inl ⟨v, rfl, h4⟩⟩
  have hb : (0 : Int) ≤ n ∧ n < (len : Int) := ⟨h0, by omega⟩
  simp only [Instr.index, asIntOf, Sem.run_bind, Sem.run_pure, Result.andThen_ok, run_underlying ht]
  rw [if_pos hb]
  simp only [Sem.run_bind, Ch hi, Result.andThen_ok, h3]
theorem sem_idxS (hr : HR ρ σ W) {t : TypeId} (ht : P.underlying t = some .string) {ax ay : AV} {x y : Value} (hx : VR ρ ax x) (hy : VR ρ ay y) :
    Runs P (do let v ← Instr.index t x y; pure (.value v)) W ρ σ ((Aq std .idxStr [ax, ay]).1, (Aq std .idxStr [ax, ay]).2, σ) := by
  intro hok
  cases ax <;> cases ay <;> simp only [Aq, Bool.false_eq_true] at hok
  rename_i l k n
  simp only [VR] at hx hy
  subst hx; subst hy
  simp only [Bool.and_eq_true] at hok
  obtain ⟨h0, h1⟩ := hok
  have h0 : 0 ≤ n := of_decide_eq_true h0
  have h1 : n.toNat < l.length := by have h1 : Nat.blt n.toNat l.length = true := h1; rwa [Nat.blt_eq] at h1
  have hb : (⟨l.toArray⟩ : ByteArray)[n.toNat]? = some l[n.toNat] := by
    have hs : n.toNat < (⟨l.toArray⟩ : ByteArray).size := h1
    exact (getElem?_pos (⟨l.toArray⟩ : ByteArray) n.toNat hs).trans rfl
  refine ⟨.value (.int .u8 (l[n.toNat]).toNat), W, ρ, ?_, hr, Stp.refl (Nat.le_refl _), .inl ⟨_, rfl, ?_⟩⟩
  · simp only [Instr.index, asIntOf, Sem.run_bind, Sem.run_pure, Result.andThen_ok, run_underlying ht, if_pos h0, hb]
  · show VR ρ (.int .u8 ((l.map fun b => ((b.toNat : Nat) : Int)).getD n.toNat 0)) _
    unfold VR
    simp [h1]
theorem minL_run (mx : Bool) {k : IntKind} : ∀ (l : List AV) (vs : List Value) (n : Int), VRs ρ l vs → (minL std mx k n l).1 = true →
    ∃ v, (vs.foldlM (bif mx then Builtin.max2 else Builtin.min2) (.int k n)).run P W = .ok v W ∧ VR ρ (minL std mx k n l).2 v
  | [], vs, n, h, _ => by
    rw [show vs = [] from h]
    exact ⟨.int k n, rfl, by show VR ρ (.int k n) _; unfold VR; rfl⟩
  | a :: l, _, n, ⟨v, m, e, hv, hm⟩, hok => by
    subst e
    cases a <;> simp only [minL, Bool.false_eq_true] at hok
    rename_i k' j
    rw [Bool.and_eq_true, decide_eq_true_eq] at hok
    obtain ⟨rfl, hok⟩ := hok
    simp only [VR] at hv
    subst hv
    obtain ⟨w, h1, h2⟩ := minL_run mx l m _ hm hok
    refine ⟨w, ?_, h2⟩
    rw [List.foldlM_cons, Sem.run_bind]
    have e : ((bif mx then Builtin.max2 else Builtin.min2) (Value.int k n) (Value.int k j)).run P W = .ok (.int k (bif (bif mx then std.lt n j else std.lt j n) then j else n)) W := by
      cases mx
      · show Sem.run P (pure (Value.int k (if j < n then j else n))) W = _
        have : (if j < n then j else n) = bif std.lt j n then j else n := by simp only [std]; by_cases h : j < n <;> simp [h]
        rw [this]; rfl
      · show Sem.run P (pure (Value.int k (if j > n then j else n))) W = _
        have : (if j > n then j else n) = bif std.lt n j then j else n := by simp only [std]; by_cases h : n < j <;> simp [h]
        rw [this]; rfl
    rw [e, Result.andThen_ok]; exact h1
theorem vr_fn {f : Fn} {xs ys : List AV} {v : Value} (h : VR ρ (.fn f xs ys) v) : ∃ us vs : List Value, v = .func f us.toArray vs.toArray ∧ VRs ρ xs us ∧ VRs ρ ys vs := by unfold VR at h; exact h
theorem vr_ifc {t : TypeId} {a : AV} {v : Value} (h : VR ρ (.ifc t a) v) : ∃ u, v = .iface t u ∧ VR ρ a u := by unfold VR at h; exact h
theorem Fw {b : Nat} {v : Value} (h : VR ρ (.map b) v) : ∃ c d, ρ b = some (c, d) ∧ v = .map (some c) := by unfold VR at h; exact h
def EK.fits (P : Program) (t : TypeId) : EK → Prop
  | .bool => P.underlying t = some .bool
  | .ptr => ∃ e i n, P.underlying t = some (.pointer e) ∧ P.info? e = some i ∧ i.size = n + 1
  | .sl => ∃ e, P.underlying t = some (.slice e)
  | .map => ∃ k e, P.underlying t = some (.map k e)
  | .fn => ∃ a b c, P.underlying t = some (.func a b c)
  | .ifc => ∃ ms, P.underlying t = some (.interface ms)
theorem eqv_run {k : EK} {t : TypeId} {ax ay : AV} {x y : Value} (hx : VR ρ ax x) (hy : VR ρ ay y) (hok : (eqvA std k ax ay).1 = true) (ht : k.fits P t) :
    (Op.equal t x y).run P W = .ok (eqvA std k ax ay).2 W := by
  have e0 : Op.equal t x y = Op.equalIn (9999 + 1) t x y := rfl
  rw [e0]
  generalize 9999 = dd
  unfold Op.equalIn
  unfold eqvA at hok ⊢
  split at hok
  case h_1 =>
    simp only [VR] at hx hy; subst hx; subst hy
    have ht : P.underlying t = some .bool := ht
    simp only [Sem.run_bind, run_underlying ht, Result.andThen_ok]
    rfl
  case h_2 =>
    simp only [VR] at hx hy; subst hx; subst hy
    obtain ⟨e, i, n, ht, hi, hn⟩ := ht
    simp only [Sem.run_bind, run_underlying ht, Result.andThen_ok]
    rfl
  case h_3 =>
    obtain ⟨c, d, _, rfl⟩ := Ez hy
    simp only [VR] at hx; subst hx
    obtain ⟨e, i, n, ht, hi, hn⟩ := ht
    simp only [Sem.run_bind, run_underlying ht, Result.andThen_ok]
    rfl
  case h_4 =>
    obtain ⟨c, d, _, rfl⟩ := Ez hx
    simp only [VR] at hy; subst hy
    obtain ⟨e, i, n, ht, hi, hn⟩ := ht
    simp only [Sem.run_bind, run_underlying ht, Result.andThen_ok]
    rfl
  case h_5 =>
    obtain ⟨c, d, h1, rfl⟩ := Ez hx
    obtain ⟨c', d', h2, rfl⟩ := Ez hy
    simp only [std, Bool.and_eq_true, Nat.beq_eq] at hok
    obtain ⟨rfl, rfl⟩ := hok
    rw [h1] at h2; cases h2
    obtain ⟨e, i, n, ht, hi, hn⟩ := ht
    simp only [Sem.run_bind, run_underlying ht, Result.andThen_ok, Ch hi, hn]
    simp [sameAddr]
  case h_6 =>
    simp only [VR] at hx hy; subst hx; subst hy
    obtain ⟨e, ht⟩ := ht
    simp only [Sem.run_bind, run_underlying ht, Result.andThen_ok]
    rfl
  case h_7 =>
    obtain ⟨p, k', rfl, _⟩ := Hf hy
    simp only [VR] at hx; subst hx
    obtain ⟨e, ht⟩ := ht
    simp only [Sem.run_bind, run_underlying ht, Result.andThen_ok]
    rfl
  case h_8 =>
    obtain ⟨p, k', rfl, _⟩ := Hf hx
    simp only [VR] at hy; subst hy
    obtain ⟨e, ht⟩ := ht
    simp only [Sem.run_bind, run_underlying ht, Result.andThen_ok]
    rfl
  case h_9 =>
    simp only [VR] at hx hy; subst hx; subst hy
    obtain ⟨_, e, ht⟩ := ht
    simp only [Sem.run_bind, run_underlying ht, Result.andThen_ok]
    rfl
  case h_10 =>
    obtain ⟨c, d, _, rfl⟩ := Fw hy
    simp only [VR] at hx; subst hx
    obtain ⟨_, e, ht⟩ := ht
    simp only [Sem.run_bind, run_underlying ht, Result.andThen_ok]
    rfl
  case h_11 =>
    obtain ⟨c, d, _, rfl⟩ := Fw hx
    simp only [VR] at hy; subst hy
    obtain ⟨_, e, ht⟩ := ht
    simp only [Sem.run_bind, run_underlying ht, Result.andThen_ok]
    rfl
  case h_12 =>
    simp only [VR] at hx hy; subst hx; subst hy
    obtain ⟨_, _, _, ht⟩ := ht
    simp only [Sem.run_bind, run_underlying ht, Result.andThen_ok]
    rfl
  case h_13 =>
    obtain ⟨_, _, rfl, _⟩ := vr_fn hy
    simp only [VR] at hx; subst hx
    obtain ⟨_, _, _, ht⟩ := ht
    simp only [Sem.run_bind, run_underlying ht, Result.andThen_ok]
    rfl
  case h_14 =>
    obtain ⟨_, _, rfl, _⟩ := vr_fn hx
    simp only [VR] at hy; subst hy
    obtain ⟨_, _, _, ht⟩ := ht
    simp only [Sem.run_bind, run_underlying ht, Result.andThen_ok]
    rfl
  case h_15 =>
    simp only [VR] at hx hy; subst hx; subst hy
    obtain ⟨_, ht⟩ := ht
    simp only [Sem.run_bind, run_underlying ht, Result.andThen_ok]
    rfl
  case h_16 =>
    obtain ⟨_, rfl, _⟩ := vr_ifc hy
    simp only [VR] at hx; subst hx
    obtain ⟨_, ht⟩ := ht
    simp only [Sem.run_bind, run_underlying ht, Result.andThen_ok]
    rfl
  case h_17 =>
    obtain ⟨_, rfl, _⟩ := vr_ifc hx
    simp only [VR] at hy; subst hy
    obtain ⟨_, ht⟩ := ht
    simp only [Sem.run_bind, run_underlying ht, Result.andThen_ok]
    rfl
  case h_18 => cases hok
end
end Go.Proofs.YtjoakhpdajlhiaaGreatDoor.V2
namespace Go.Proofs.YtjoakhpdajlhiaaGreatDoor.V2
open Go
section
variable {P : Program} {ρ : Ren}
theorem Eo {ks : List CK} : ∀ {l m : List AV}, (Az std ks l m).1 = true → l.length = ks.length ∧ m.length = ks.length := by
  induction ks with
  | nil => intro l m h; cases l <;> cases m <;> first | exact ⟨rfl, rfl⟩ | cases h
  | cons k ks ih =>
    intro l m h
    cases l with
    | nil => cases h
    | cons a l =>
      cases m with
      | nil => cases h
      | cons b m =>
        simp only [Az, Bool.and_eq_true] at h
        obtain ⟨h1, h2⟩ := ih h.2
        exact ⟨by simp [h1], by simp [h2]⟩
theorem H9 {ks ks' : List CK} : ∀ {l l' m m' : List AV}, l.length = ks.length → m.length = ks.length →
    Az std (ks ++ ks') (l ++ l') (m ++ m') = ((Az std ks l m).1 && (Az std ks' l' m').1, (Az std ks l m).2 && (Az std ks' l' m').2) := by
  induction ks with
  | nil =>
    intro l l' m m' h1 h2
    rw [List.length_eq_zero_iff.1 h1, List.length_eq_zero_iff.1 h2]
    simp [Az]
  | cons k ks ih =>
    intro l l' m m' h1 h2
    cases l with
    | nil => simp at h1
    | cons a l =>
      cases m with
      | nil => simp at h2
      | cons b m =>
        simp only [List.cons_append, Az]
        rw [ih (by simpa using h1) (by simpa using h2)]
        simp [Bool.and_assoc]
def Er (P : Program) (t : TypeId) (x : Value) (xs : List Value) : Prop := match P.underlying t with
  | some (.array _ _) => x = .agg xs.toArray
  | some (.struct _) => x = .agg xs.toArray
  | _ => xs = [x]
def EqS (P : Program) (dd : Nat) (t : TypeId) (ks : List CK) : Prop := ∀ (W : World) (ρ : Ren) (x y : Value) (xs ys : List Value) (l m : List AV), Er P t x xs → Er P t y ys → VRs ρ l xs → VRs ρ m ys → (Az std ks l m).1 = true →
  (Op.equalIn dd t x y).run P W = .ok (Az std ks l m).2 W
theorem cell_run {k : CK} {t : TypeId} (dd : Nat) {a b : AV} {x y : Value} {W : World} (ht : match k with | .int => ∃ q, P.underlying t = some (.int q) | .str => P.underlying t = some .string | .bool => P.underlying t = some .bool) (hx : VR ρ a x) (hy : VR ρ b y) (h : (Cf std k a b).1 = true) :
    (Op.equalIn (dd + 1) t x y).run P W = .ok (Cf std k a b).2 W := by
  cases k
  case int =>
    cases a <;> cases b <;> simp only [Cf, Bool.false_eq_true] at h
    simp only [VR] at hx hy; subst hx; subst hy
    simp only [decide_eq_true_eq] at h
    subst h
    obtain ⟨q, ht⟩ := ht
    rw [run_equalIn_int W dd t _ q _ _ ht]
    simp only [Cf, std]; rfl
  case str =>
    cases a <;> cases b <;> simp only [Cf, Bool.false_eq_true] at h
    simp only [VR] at hx hy; subst hx; subst hy
    rw [run_equalIn_string W dd t _ _ ht, Ir, Ir]
    simp only [Cf, std]
  case bool =>
    cases a <;> cases b <;> simp only [Cf, Bool.false_eq_true] at h
    simp only [VR] at hx hy; subst hx; subst hy
    rw [run_equalIn_bool W dd t _ _ ht]
    simp only [Cf]
theorem Jn {t : TypeId} {k : CK} (dd : Nat) (hk : match k with | .int => ∃ q, P.underlying t = some (.int q) | .str => P.underlying t = some .string | .bool => P.underlying t = some .bool) : EqS P (dd + 1) t [k] := by
  intro W ρ x y xs ys l m fx fy hx hy h
  have e1 : xs = [x] := by unfold Er at fx; cases k <;> simp only at hk <;> first | (obtain ⟨q, hk⟩ := hk; rw [hk] at fx; exact fx) | (rw [hk] at fx; exact fx)
  have e2 : ys = [y] := by unfold Er at fy; cases k <;> simp only at hk <;> first | (obtain ⟨q, hk⟩ := hk; rw [hk] at fy; exact fy) | (rw [hk] at fy; exact fy)
  subst e1; subst e2
  obtain ⟨h1, h2⟩ := Eo h
  match l, m, h1, h2 with
  | [a], [b], _, _ =>
    obtain ⟨v, _, e, hv, _⟩ := hx
    obtain ⟨u, _, e', hu, _⟩ := hy
    cases e; cases e'
    simp only [Az, Bool.and_true] at h ⊢
    exact cell_run dd hk hv hu h
theorem Fo {e : TypeId} {i : TypeInfo} (hi : P.info? e = some i) {xs : List Value} {off : Nat} (hl : off + i.size ≤ xs.length) (hs : ∀ d, P.underlying e = some d → B3 d = false → i.size = 1) (hu : (P.underlying e).isSome = true) (W : World) :
    ∃ v, (part e xs.toArray off).run P W = .ok v W ∧ Er P e v ((xs.drop off).take i.size) := by
  obtain ⟨d, hd⟩ := Option.isSome_iff_exists.1 hu
  unfold part
  simp only [Sem.run_bind, Ii hd, Result.andThen_ok]
  cases hag : B3 d with
  | true =>
    simp only [if_true, Sem.run_bind, Ch hi, Result.andThen_ok, Sem.run_pure]
    refine ⟨_, rfl, ?_⟩
    have e1 : xs.toArray.extract off (off + i.size) = ((xs.drop off).take i.size).toArray := by apply Array.ext'; simp [List.extract]
    unfold Er
    rw [hd, e1]
    cases d <;> simp only [B3, Bool.false_eq_true] at hag <;> rfl
  | false =>
    have h1 := hs d hd hag
    simp only [Bool.false_eq_true, if_false]
    have hlt : off < xs.length := by omega
    have : xs.toArray[off]? = some xs[off] := by simp [hlt]
    rw [this]
    refine ⟨xs[off], rfl, ?_⟩
    have e2 : (xs.drop off).take i.size = [xs[off]] := by rw [h1, List.drop_eq_getElem_cons hlt]; rfl
    rw [e2]
    unfold Er
    rw [hd]
    cases d <;> simp only [B3, Bool.true_eq_false] at hag <;> rfl
theorem VRs.drop {ρ : Ren} : ∀ (n : Nat) {l : List AV} {vs : List Value}, VRs ρ l vs → VRs ρ (l.drop n) (vs.drop n)
  | 0, _, _, h => h
  | n + 1, [], _, h => by rw [show _ = [] from h]; rfl
  | n + 1, _ :: _, _, ⟨_, _, e, _, hm⟩ => by subst e; exact VRs.drop n hm
theorem VRs.take {ρ : Ren} : ∀ (n : Nat) {l : List AV} {vs : List Value}, VRs ρ l vs → VRs ρ (l.take n) (vs.take n)
  | 0, _, _, _ => rfl
  | n + 1, [], _, h => by rw [show _ = [] from h]; rfl
  | n + 1, _ :: _, _, ⟨v, m, e, hv, hm⟩ => by subst e; exact ⟨v, m.take n, rfl, hv, VRs.take n hm⟩
theorem items_run {dd : Nat} {e : TypeId} {i : TypeInfo} {ks : List CK} (hE : EqS P dd e ks) (hi : P.info? e = some i) (hsz : i.size = ks.length) (hpos : 0 < ks.length) (hc : P.cellsOf e = ks.length) (hs : ∀ d, P.underlying e = some d → B3 d = false → i.size = 1) (hu : (P.underlying e).isSome = true) (xs ys : List Value) (W : World) :
    ∀ (n s : Nat) (l m : List AV), VRs ρ l (xs.drop (s * ks.length)) → VRs ρ m (ys.drop (s * ks.length)) → (Az std (List.replicate n ks).flatten l m).1 = true →
    (Op.eqItems dd e (P.cellsOf e) xs.toArray ys.toArray (List.range' s n)).run P W = .ok (Az std (List.replicate n ks).flatten l m).2 W
  | 0, s, l, m, hx, hy, h => by
    obtain ⟨h1, h2⟩ := Eo h
    simp at h1 h2
    subst h1; subst h2
    rfl
  | n + 1, s, l, m, hx, hy, h => by
    obtain ⟨h1, h2⟩ := Eo h
    rw [List.replicate_succ, List.flatten_cons, List.length_append] at h1 h2
    have hlx := hx.length
    have hly := hy.length
    rw [List.length_drop] at hlx hly
    have el : l = l.take ks.length ++ l.drop ks.length := (List.take_append_drop _ _).symm
    have em : m = m.take ks.length ++ m.drop ks.length := (List.take_append_drop _ _).symm
    have hsplit := H9 (ks := ks) (ks' := (List.replicate n ks).flatten) (l := l.take ks.length) (l' := l.drop ks.length) (m := m.take ks.length) (m' := m.drop ks.length) (by simp; omega) (by simp; omega)
    rw [← el, ← em] at hsplit
    rw [List.replicate_succ, List.flatten_cons] at h ⊢
    rw [hsplit] at h ⊢
    simp only [Bool.and_eq_true] at h
    obtain ⟨v, hv, fv⟩ := Fo (P := P) (xs := xs) (off := s * ks.length) hi (by omega) hs hu W
    obtain ⟨u, hu', fu⟩ := Fo (P := P) (xs := ys) (off := s * ks.length) hi (by omega) hs hu W
    rw [hsz] at fv fu
    have hrec := items_run hE hi hsz hpos hc hs hu xs ys W n (s + 1) (l.drop ks.length) (m.drop ks.length) (by rw [Nat.add_mul, Nat.one_mul, ← List.drop_drop]; exact hx.drop _) (by rw [Nat.add_mul, Nat.one_mul, ← List.drop_drop]; exact hy.drop _) h.2
    have h0 := hE W ρ v u _ _ _ _ fv fu (hx.take _) (hy.take _) h.1
    rw [List.range'_succ]
    simp only [Op.eqItems, Sem.run_bind, hc] at hrec ⊢
    rw [hv, Result.andThen_ok, hu', Result.andThen_ok, h0, Result.andThen_ok]
    cases hb : (Az std ks (l.take ks.length) (m.take ks.length)).2 with
    | false => simp
    | true => simp only [Bool.not_true, Bool.false_eq_true, if_false, Bool.true_and]; exact hrec
theorem shapeF_cons {sh : TypeId → Option (List CK)} {f : Field} {fs : List Field} {off : Nat} {ks : List CK} (h : K4 P sh (f :: fs) off = some ks) :
    ∃ k1 k2 i, sh f.type = some k1 ∧ P.info? f.type = some i ∧ f.name ≠ "_" ∧ f.offset = off ∧ i.size = k1.length ∧ 0 < k1.length ∧ K4 P sh fs (off + k1.length) = some k2 ∧ ks = k1 ++ k2 := by
  unfold K4 at h
  split at h
  · rename_i k1 h1
    split at h
    · rename_i i hi
      split at h
      · rename_i hb
        split at h
        · rename_i k2 h2
          cases h
          simp only [Bool.and_eq_true, bne_iff_ne, ne_eq, Nat.beq_eq] at hb
          exact ⟨k1, k2, i, h1, hi, hb.1.1.1.1, hb.1.1.1.2, hb.1.1.2, by have := hb.2; rwa [Nat.blt_eq] at this, h2, rfl⟩
        · cases h
      · cases h
    · cases h
  · cases h
theorem fields_run {dd : Nat} {sh : TypeId → Option (List CK)} (hE : ∀ t ks, sh t = some ks → EqS P dd t ks ∧ (P.underlying t).isSome = true ∧ ∀ d, P.underlying t = some d → B3 d = false → ks.length = 1) (xs ys : List Value) (W : World) :
    ∀ (fs : List Field) (off : Nat) (ks : List CK) (l m : List AV), K4 P sh fs off = some ks → VRs ρ l (xs.drop off) → VRs ρ m (ys.drop off) → (Az std ks l m).1 = true →
    (Op.eqFields dd xs.toArray ys.toArray fs).run P W = .ok (Az std ks l m).2 W
  | [], off, ks, l, m, hs, hx, hy, h => by
    cases hs
    obtain ⟨h1, h2⟩ := Eo h
    simp at h1 h2
    subst h1; subst h2
    rfl
  | f :: fs, off, ks, l, m, hs, hx, hy, h => by
    obtain ⟨k1, k2, i, e1, e2, e3, rfl, e5, hpos, e6, rfl⟩ := shapeF_cons hs
    obtain ⟨hE1, hu, hsc⟩ := hE _ _ e1
    obtain ⟨h1, h2⟩ := Eo h
    rw [List.length_append] at h1 h2
    have hlx := hx.length
    have hly := hy.length
    rw [List.length_drop] at hlx hly
    have el : l = l.take k1.length ++ l.drop k1.length := (List.take_append_drop _ _).symm
    have em : m = m.take k1.length ++ m.drop k1.length := (List.take_append_drop _ _).symm
    have hsplit := H9 (ks := k1) (ks' := k2) (l := l.take k1.length) (l' := l.drop k1.length) (m := m.take k1.length) (m' := m.drop k1.length) (by simp; omega) (by simp; omega)
    rw [← el, ← em] at hsplit
    rw [hsplit] at h ⊢
    simp only [Bool.and_eq_true] at h
    have hs1 : ∀ d, P.underlying f.type = some d → B3 d = false → i.size = 1 := fun d hd ha => by rw [e5]; exact hsc d hd ha
    obtain ⟨v, hv, fv⟩ := Fo (P := P) (xs := xs) (off := f.offset) e2 (by omega) hs1 hu W
    obtain ⟨u, hu', fu⟩ := Fo (P := P) (xs := ys) (off := f.offset) e2 (by omega) hs1 hu W
    rw [e5] at fv fu
    have hrec := fields_run hE xs ys W fs (f.offset + k1.length) k2 (l.drop k1.length) (m.drop k1.length) e6 (by rw [← List.drop_drop]; exact hx.drop _) (by rw [← List.drop_drop]; exact hy.drop _) h.2
    have h0 := hE1 W ρ v u _ _ _ _ fv fu (hx.take _) (hy.take _) h.1
    simp only [Op.eqFields, Sem.run_ite, e3, ne_eq, not_false_eq_true, if_true, Sem.run_bind]
    rw [hv, Result.andThen_ok, hu', Result.andThen_ok, h0, Result.andThen_ok]
    cases hb : (Az std k1 (l.take k1.length) (m.take k1.length)).2 with
    | false => simp
    | true => simp only [Bool.not_true, Bool.false_eq_true, if_false, Bool.true_and]; exact hrec
theorem Du : ∀ (n : Nat) (t : TypeId) (ks : List CK), Bx P n t = some ks → (∀ d, EqS P (d + n) t ks) ∧ (P.underlying t).isSome = true ∧ ∀ d, P.underlying t = some d → B3 d = false → ks.length = 1
  | 0, _, _, h => by cases h
  | n + 1, t, ks, h => by
    unfold Bx at h
    split at h
    · rename_i q hu
      cases h
      exact ⟨fun d => Jn (k := .int) (d + n) ⟨q, hu⟩, by rw [hu]; rfl, fun _ _ _ => rfl⟩
    · rename_i hu
      cases h
      exact ⟨fun d => Jn (k := .str) (d + n) hu, by rw [hu]; rfl, fun _ _ _ => rfl⟩
    · rename_i hu
      cases h
      exact ⟨fun d => Jn (k := .bool) (d + n) hu, by rw [hu]; rfl, fun _ _ _ => rfl⟩
    · rename_i len e hu
      split at h
      · rename_i k1 h1
        split at h
        · rename_i i hi
          split at h
          · rename_i hb
            cases h
            simp only [Bool.and_eq_true, Nat.beq_eq] at hb
            obtain ⟨⟨hsz, hc⟩, hpos⟩ := hb
            rw [Nat.blt_eq] at hpos
            obtain ⟨ih1, ih2, ih3⟩ := Du n e k1 h1
            refine ⟨fun d => ?_, by rw [hu]; rfl, fun d hd ha => by rw [hu] at hd; cases hd; cases ha⟩
            intro W ρ x y xs ys l m fx fy hx hy hok
            unfold Er at fx fy
            rw [hu] at fx fy
            simp only at fx fy
            subst fx; subst fy
            rw [show d + (n + 1) = (d + n) + 1 from rfl, run_equalIn_array W (d + n) _ _ hu hi, List.range_eq_range']
            exact items_run (ρ := ρ) (ih1 d) hi hsz hpos hc (fun d' hd' ha => by rw [hsz]; exact ih3 d' hd' ha) ih2 xs ys W len 0 l m (by simpa using hx) (by simpa using hy) hok
          · cases h
        · cases h
      · cases h
    · rename_i fs hu
      split at h
      · cases h
      · rename_i hst
        refine ⟨fun d => ?_, by rw [hu]; rfl, fun d hd ha => by rw [hu] at hd; cases hd; cases ha⟩
        intro W ρ x y xs ys l m fx fy hx hy hok
        unfold Er at fx fy
        rw [hu] at fx fy
        simp only at fx fy
        subst fx; subst fy
        have hfs : P.fieldsOf t = fs := by simp [Program.fieldsOf, hu]
        rw [show d + (n + 1) = (d + n) + 1 from rfl, run_equalIn_struct W (d + n) t _ _ (by rw [hfs]; exact hu) hst, hfs]
        exact fields_run (ρ := ρ) (sh := Bx P n) (fun t' ks' h' => ⟨(Du n t' ks' h').1 d, (Du n t' ks' h').2⟩) xs ys W fs.toList 0 ks l m h (by simpa using hx) (by simpa using hy) hok
    · cases h
theorem flatEq_run {t : TypeId} {ks : List CK} (hk : Bx P 100 t = some ks) {a b : AV} {x y : Value} {W : World} (hx : VR ρ a x) (hy : VR ρ b y) (h : (B0 std (A5 P t) ks a b).1 = true) :
    (Op.equal t x y).run P W = .ok (B0 std (A5 P t) ks a b).2 W := by
  have hE := (Du 100 t ks hk).1 9900
  have e0 : Op.equal t x y = Op.equalIn (9900 + 100) t x y := rfl
  rw [e0]
  have hsc : (A5 P t = true → ∀ v : Value, Er P t v [v]) ∧ (A5 P t = false → ∀ us : List Value, Er P t (.agg us.toArray) us) := by
    have hs : (P.underlying t).isSome = true := (Du 100 t ks hk).2.1
    unfold Bx at hk
    unfold A5 Er
    split at hk
    · rename_i hu; rw [hu]; exact ⟨fun _ _ => rfl, fun h => by cases h⟩
    · rename_i hu; rw [hu]; exact ⟨fun _ _ => rfl, fun h => by cases h⟩
    · rename_i hu; rw [hu]; exact ⟨fun _ _ => rfl, fun h => by cases h⟩
    · rename_i hu; rw [hu]; exact ⟨fun h => (by cases h), fun _ _ => rfl⟩
    · rename_i hu; rw [hu]; exact ⟨fun h => (by cases h), fun _ _ => rfl⟩
    · cases hk
  have map_int : ∀ (k : IntKind) (l : List Int), VR ρ (.agg (l.map (AV.int k))) (.agg (l.map (Value.int k)).toArray) := fun k l => by unfold VR; exact ⟨_, rfl, VRs.ints k l⟩
  cases hs : A5 P t with
  | true =>
    rw [hs] at h
    exact hE W ρ x y [x] [y] [a] [b] (hsc.1 hs x) (hsc.1 hs y) ⟨x, [], rfl, hx, rfl⟩ ⟨y, [], rfl, hy, rfl⟩ h
  | false =>
    rw [hs] at h
    have key : ∀ (l m : List AV) (us vs : List Value), x = .agg us.toArray → y = .agg vs.toArray → VRs ρ l us → VRs ρ m vs → (Az std ks l m).1 = true → (Op.equalIn (9900 + 100) t x y).run P W = .ok (Az std ks l m).2 W := by
      intro l m us vs e1 e2 h1 h2 h3
      subst e1; subst e2
      exact hE W ρ _ _ us vs l m (hsc.2 hs us) (hsc.2 hs vs) h1 h2 h3
    unfold B0 at h ⊢
    cases a <;> simp only [Bool.false_eq_true] at h
    case agg l =>
      obtain ⟨us, e1, hu⟩ := Kv hx
      cases b <;> simp only [Bool.false_eq_true] at h
      case agg m =>
        obtain ⟨vs, e2, hv⟩ := Kv hy
        exact key l m us vs e1 e2 hu hv h
      case ints k m =>
        exact key l _ us _ e1 (Fj hy) hu (VRs.ints k m) h
    case ints k l =>
      cases b <;> simp only [Bool.false_eq_true] at h
      case agg m =>
        obtain ⟨vs, e2, hv⟩ := Kv hy
        exact key _ m _ vs (Fj hx) e2 (VRs.ints k l) hv h
      case ints k' m =>
        simp only [std, Bool.and_eq_true, decide_eq_true_eq, Nat.beq_eq] at h
        obtain ⟨⟨⟨rfl, h1⟩, h2⟩, h3⟩ := h
        have hall : ∀ (ks : List CK) (l m : List Int), ks.all CK.isInt = true → l.length = ks.length → m.length = ks.length → Az std ks (l.map (AV.int k)) (m.map (AV.int k)) = (true, decide (l = m)) := by
          intro ks
          induction ks with
          | nil => intro l m _ h1 h2; rw [List.length_eq_zero_iff.1 h1, List.length_eq_zero_iff.1 h2]; simp [Az]
          | cons c ks ih =>
            intro l m hc h1 h2
            cases l with
            | nil => simp at h1
            | cons p l =>
              cases m with
              | nil => simp at h2
              | cons q m =>
                rw [List.all_cons, Bool.and_eq_true] at hc
                cases c <;> simp only [CK.isInt, Bool.false_eq_true, false_and] at hc
                simp only [List.map_cons, Az, Cf]
                rw [ih l m hc.2 (by simpa using h1) (by simpa using h2)]
                simp [std]
        have := hall ks l m h1 h2 h3
        have hkey := key _ _ _ _ (Fj hx) (Fj hy) (VRs.ints k l) (VRs.ints k m) (by rw [this])
        rw [hkey, this]; rfl
end
end Go.Proofs.YtjoakhpdajlhiaaGreatDoor.V2
namespace Go.Proofs.YtjoakhpdajlhiaaGreatDoor.V2
open Go
section
variable {P : Program} {W : World} {ρ : Ren} {σ : AH} {a : Act} {rf : Operand → Ref} {ev : Ref → AV} {ao : AOp}
def plainV : Value → Bool
  | .int _ _ => false
  | .float _ _ => false
  | .complex _ _ _ => false
  | .string _ => false
  | _ => true
theorem bin_eql {t : TypeId} {x y : Value} (h : plainV x = true) : binOp .eql t x y = (do pure (.bool (← Op.equal t x y))) := by
  cases x <;> first | (cases h; done) | (cases y <;> rfl)
theorem bin_neq {t : TypeId} {x y : Value} (h : plainV x = true) : binOp .neq t x y = (do pure (.bool (!(← Op.equal t x y)))) := by
  cases x <;> first | (cases h; done) | (cases y <;> rfl)
theorem bin_any {neg : Bool} {op : BinOp} (hop : op = bif neg then .neq else .eql) {t : TypeId} {x y : Value} (h : plainV x = true) {b : Bool} (hb : (Op.equal t x y).run P W = .ok b W) :
    (binOp op t x y).run P W = .ok (.bool (bif neg then !b else b)) W := by
  subst hop
  cases neg
  · simp only [cond_false, bin_eql h, Sem.run_bind, hb, Result.andThen_ok, Sem.run_pure]
  · simp only [cond_true, bin_neq h, Sem.run_bind, hb, Result.andThen_ok, Sem.run_pure]
theorem eqv_plain {k : EK} {ax ay : AV} {x : Value} (hx : VR ρ ax x) (hok : (eqvA std k ax ay).1 = true) : plainV x = true := by
  unfold eqvA at hok
  split at hok
  case h_18 => cases hok
  all_goals first
    | (simp only [VR] at hx; subst hx; rfl)
    | (obtain ⟨_, _, _, rfl⟩ := Ez hx; rfl)
    | (obtain ⟨_, _, rfl, _⟩ := Hf hx; rfl)
    | (obtain ⟨_, _, _, rfl⟩ := Fw hx; rfl)
    | (obtain ⟨_, _, rfl, _⟩ := vr_fn hx; rfl)
    | (obtain ⟨_, rfl, _⟩ := vr_ifc hx; rfl)
theorem guard_agg {op : BinOp} {t : TypeId} {x y : Operand} {xs ys : Array Value} (hg : P.eqGuardType P.depth t = false) : (eqGuard op t x y (.agg xs) (.agg ys)).run P W = .ok () W := by
  unfold eqGuard
  by_cases h : (op matches .eql | .neq) = true
  · cases op <;> simp at h <;> simp [hg]
  · cases op <;> simp at h <;> rfl
theorem guard_const {op : BinOp} {t : TypeId} {x y : Operand} {vx vy : Value} (hc : (Fb x || Fb y) = true ∨ vx ≠ .nilIface) (hp : ∀ xs, vx ≠ .agg xs) : (eqGuard op t x y vx vy).run P W = .ok () W := by
  unfold eqGuard
  by_cases h : (op matches .eql | .neq) = true
  · cases vx
    case agg xs => exact absurd rfl (hp xs)
    case nilIface =>
      cases vy
      case nilIface =>
        have hc := hc.resolve_right (fun h => h rfl)
        cases x <;> cases y <;> simp [Fb] at hc <;> cases op <;> simp at h <;> rfl
      all_goals (cases op <;> simp at h <;> rfl)
    all_goals (cases vy <;> cases op <;> simp at h <;> rfl)
  · cases op <;> simp at h <;> rfl
theorem Bu {m : Sem Value} {v : Value} {W' : World} (h : m.run P W = .ok v W') : (do let v ← m; pure (Next.value v) : Sem Next).run P W = .ok (.value v) W' := by
  rw [Sem.run_bind, h]; rfl
theorem Gg (hr : HR ρ σ W) {neg : Bool} {op : BinOp} (hop : op = bif neg then .neq else .eql) {k : EK} {t : TypeId} {x y : Operand} {vx vy : Value} {ax ay : AV} (hx : VR ρ ax vx) (hy : VR ρ ay vy) (ht : k.fits P t) (hc : k = .ifc → (Fb x || Fb y) = true) :
    Runs P (do let v ← (do eqGuard op t x y vx vy; binOp op t vx vy); pure (.value v)) W ρ σ ((Aq std (.eqv neg k) [ax, ay]).1, (Aq std (.eqv neg k) [ax, ay]).2, σ) := by
  intro hok
  have hok : (eqvA std k ax ay).1 = true := hok
  have h1 := eqv_run (P := P) (W := W) hx hy hok ht
  have hpl := eqv_plain hx hok
  have hg : (eqGuard op t x y vx vy).run P W = .ok () W := by
    refine guard_const ?_ ?_
    · by_cases hk : k = .ifc
      · exact .inl (hc hk)
      · right
        rintro rfl
        unfold eqvA at hok
        split at hok <;> first | (exact hk rfl) | skip
        case h_18 => cases hok
        all_goals first
          | (simp only [VR] at hx; cases hx; done)
          | (obtain ⟨_, _, _, h⟩ := Ez hx; cases h; done)
          | (obtain ⟨_, _, h, _⟩ := Hf hx; cases h; done)
          | (obtain ⟨_, _, _, h⟩ := Fw hx; cases h; done)
          | (obtain ⟨_, _, h, _⟩ := vr_fn hx; cases h; done)
    · rintro xs rfl
      unfold eqvA at hok
      split at hok
      case h_18 => cases hok
      all_goals first
          | (simp only [VR] at hx; cases hx; done)
          | (obtain ⟨_, _, _, h⟩ := Ez hx; cases h; done)
          | (obtain ⟨_, _, h, _⟩ := Hf hx; cases h; done)
          | (obtain ⟨_, _, _, h⟩ := Fw hx; cases h; done)
          | (obtain ⟨_, _, h, _⟩ := vr_fn hx; cases h; done)
          | (obtain ⟨_, h, _⟩ := vr_ifc hx; cases h; done)
  refine ⟨.value _, W, ρ, Bu (by rw [Sem.run_bind, hg, Result.andThen_ok]; exact bin_any hop hpl h1), hr, Stp.refl (Nat.le_refl _), .inl ⟨_, rfl, ?_⟩⟩
  show VR ρ (.bool _) _
  unfold VR; rfl
theorem eqF_runs (hr : HR ρ σ W) {neg : Bool} {op : BinOp} (hop : op = bif neg then .neq else .eql) {t : TypeId} {ks : List CK} {x y : Operand} {vx vy : Value} {ax ay : AV} (hx : VR ρ ax vx) (hy : VR ρ ay vy) (hk : Bx P 100 t = some ks) (hsc : A5 P t = false) (hg : P.eqGuardType P.depth t = false) :
    Runs P (do let v ← (do eqGuard op t x y vx vy; binOp op t vx vy); pure (.value v)) W ρ σ ((Aq std (.eqF neg ks) [ax, ay]).1, (Aq std (.eqF neg ks) [ax, ay]).2, σ) := by
  intro hok
  have hok : (B0 std false ks ax ay).1 = true := hok
  have h1 := flatEq_run (P := P) (W := W) hk hx hy (by rw [hsc]; exact hok)
  rw [hsc] at h1
  have hagg : ∀ {a : AV} {v : Value}, VR ρ a v → ((∃ l, a = .agg l) ∨ (∃ k l, a = .ints k l)) → ∃ xs, v = .agg xs := by
    intro a v h ha
    rcases ha with ⟨l, rfl⟩ | ⟨k, l, rfl⟩
    · obtain ⟨us, h, _⟩ := Kv h; exact ⟨_, h⟩
    · exact ⟨_, Fj h⟩
  have hab : ((∃ l, ax = .agg l) ∨ (∃ k l, ax = .ints k l)) ∧ ((∃ l, ay = .agg l) ∨ (∃ k l, ay = .ints k l)) := by
    unfold B0 at hok
    cases ax <;> simp only [Bool.false_eq_true] at hok <;> cases ay <;> simp only [Bool.false_eq_true] at hok
    · exact ⟨.inl ⟨_, rfl⟩, .inl ⟨_, rfl⟩⟩
    · exact ⟨.inl ⟨_, rfl⟩, .inr ⟨_, _, rfl⟩⟩
    · exact ⟨.inr ⟨_, _, rfl⟩, .inl ⟨_, rfl⟩⟩
    · exact ⟨.inr ⟨_, _, rfl⟩, .inr ⟨_, _, rfl⟩⟩
  obtain ⟨xs, rfl⟩ := hagg hx hab.1
  obtain ⟨ys, rfl⟩ := hagg hy hab.2
  refine ⟨.value _, W, ρ, Bu (by rw [Sem.run_bind, guard_agg hg, Result.andThen_ok]; exact bin_any hop rfl h1), hr, Stp.refl (Nat.le_refl _), .inl ⟨_, rfl, ?_⟩⟩
  show VR ρ (.bool _) _
  unfold VR; rfl
theorem Kg {neg : Bool} {op : BinOp} {t : TypeId} {x y : Operand} (hop : op = bif neg then .neq else .eql) (hc : F0 P rf neg op t x y = some ao) (hev : ∀ x, VR ρ (ev (rf x)) (a.eval x)) (hr : HR ρ σ W) :
    Runs P (do let v ← (do eqGuard op t x y (a.eval x) (a.eval y); binOp op t (a.eval x) (a.eval y)); pure (.value v)) W ρ σ (step std ev σ ao) := by
  unfold F0 at hc
  split at hc
  · cases hc; exact sem_bin hr (hev x) (hev y)
  · cases hc; exact sem_bin hr (hev x) (hev y)
  · rename_i hu; cases hc; exact Gg (k := .bool) hr hop (hev x) (hev y) hu (fun h => by cases h)
  · rename_i e hu
    split at hc
    · rename_i i hi
      split at hc
      · cases hc
      · rename_i n hn
        cases hc; exact Gg (k := .ptr) hr hop (hev x) (hev y) ⟨e, i, n, hu, hi, hn⟩ (fun h => by cases h)
    · cases hc
  · rename_i e hu; cases hc; exact Gg (k := .sl) hr hop (hev x) (hev y) ⟨e, hu⟩ (fun h => by cases h)
  · rename_i k e hu; cases hc; exact Gg (k := .map) hr hop (hev x) (hev y) ⟨k, e, hu⟩ (fun h => by cases h)
  · rename_i p q r hu; cases hc; exact Gg (k := .fn) hr hop (hev x) (hev y) ⟨p, q, r, hu⟩ (fun h => by cases h)
  · rename_i ms hu
    split at hc
    · rename_i hk; cases hc; exact Gg (k := .ifc) hr hop (hev x) (hev y) ⟨ms, hu⟩ (fun _ => hk)
    · cases hc
  · rename_i len e hu
    split at hc
    · cases hc
    · rename_i hg
      split at hc
      · rename_i ks hk; cases hc; exact eqF_runs hr hop (hev x) (hev y) hk (by unfold A5; rw [hu]) hg
      · cases hc
  · rename_i fs hu
    split at hc
    · cases hc
    · rename_i hg
      split at hc
      · rename_i ks hk; cases hc; exact eqF_runs hr hop (hev x) (hev y) hk (by unfold A5; rw [hu]) hg
      · cases hc
  · cases hc
end
end Go.Proofs.YtjoakhpdajlhiaaGreatDoor.V2
namespace Go.Proofs.YtjoakhpdajlhiaaGreatDoor.V2
open Go
section
variable {P : Program} {W : World} {ρ : Ren} {σ : AH} {a : Act} {rf : Operand → Ref} {ev : Ref → AV} {ao : AOp}
theorem fill_lay (place : Nat → Option (Nat × Nat)) : ∀ (parts : List (Nat × Value)) (spots : List (Nat × Nat)) (as' : List AV) (cs : List AV) (cells : Array Value), VRs ρ cs cells.toList → VRs ρ as' (parts.map (·.2)) → parts.map (fun p => place p.1) = spots.map some → (layL cs spots as').1 = true →
    ∃ cells', Instr.fill place cells parts = some cells' ∧ VRs ρ (layL cs spots as').2 cells'.toList
  | [], spots, as', cs, cells, hc, ha, hp, _ => by
    have h1 : spots = [] := by simpa using hp.symm
    have h2 : as' = [] := by have := ha.length; simpa using this.symm
    subst h1; subst h2
    exact ⟨cells, rfl, hc⟩
  | (i, v) :: parts, [], as', cs, cells, hc, ha, hp, _ => by simp at hp
  | (i, v) :: parts, p :: spots, [], cs, cells, hc, ha, hp, _ => by have := ha.length; simp at this
  | (i, v) :: parts, p :: spots, b :: as', cs, cells, hc, ha, hp, hok => by
    obtain ⟨v', m', e, hv, hm⟩ := ha
    simp only [List.map_cons, List.cons.injEq] at e
    obtain ⟨e1, e2⟩ := e
    subst e1; subst e2
    simp only [List.map_cons, List.cons.injEq] at hp
    obtain ⟨hp1, hp2⟩ := hp
    unfold layL at hok ⊢
    cases hb : (b.known && Nat.beq b.cells.length p.2 && Nat.ble (p.1 + p.2) cs.length) with
    | false => rw [hb] at hok; cases hok
    | true =>
      rw [hb] at hok
      simp only at hok ⊢
      simp only [Bool.and_eq_true, Nat.beq_eq, Nat.ble_eq] at hb
      obtain ⟨⟨hk, hl⟩, hle⟩ := hb
      have hvc := hv.cells hk
      have hvl := hvc.length
      have hvs : v.cells.size = p.2 := by rw [← hl, ← hvl]; rfl
      have hcl := hc.length
      have hcs : cells.size = cs.length := by rw [← hcl]; rfl
      unfold Instr.fill
      simp only [hp1]
      rw [if_neg (by rw [hvs]; simp; omega)]
      have e1 : Array.foldl (fun cs (x : Value × Nat) => match x with | (c, j) => cs.setIfInBounds (p.1 + j) c) cells v.cells.zipIdx = Fy cells p.1 v.cells.toList := by
        rw [← Array.foldl_toList, Array.toList_zipIdx]
        exact Lu p.1 v.cells.toList 0 cells
      rw [e1]
      refine fill_lay place parts spots as' _ _ ?_ hm hp2 hok
      refine VRs.of _ _ ?_ fun j x hj => ?_
      · rw [Array.length_toList, Di, hcs, ← hl]
        exact (Ed cs b.cells p.1 (by omega)).symm
      · rw [← hl, Ig cs b.cells p.1 (by omega)] at hj
        rw [Array.getElem?_toList, Jw _ _ _ (by rw [hvl]; omega), hvl]
        by_cases hr : p.1 ≤ j ∧ j < p.1 + b.cells.length
        · rw [if_pos hr] at hj ⊢; exact hvc.at _ _ hj
        · rw [if_neg hr] at hj ⊢
          obtain ⟨u, hu, hur⟩ := hc.at _ _ hj
          exact ⟨u, by rwa [Array.getElem?_toList] at hu, hur⟩
theorem places_run : ∀ (fs : List Field), (fs.all fun f => (P.info? f.type).isSome) = true →
    (fs.mapM (fun f => do pure (f.offset, ← sizeOf f.type) : Field → Sem (Nat × Nat))).run P W = .ok (fs.map fun f => (f.offset, ((P.info? f.type).map (·.size)).getD 0)) W
  | [], _ => rfl
  | f :: fs, h => by
    rw [List.all_cons, Bool.and_eq_true] at h
    obtain ⟨i, hi⟩ := Option.isSome_iff_exists.1 h.1
    rw [List.mapM_cons]
    simp only [Sem.run_bind, Ch hi, Result.andThen_ok, Sem.run_pure, places_run fs h.2, List.map_cons, hi, Option.map_some, Option.getD_some]
theorem spotsS_map {fs : Array Field} : ∀ (parts : List (Nat × Operand)) (spots : List (Nat × Nat)), spotsS P fs parts = some spots →
    parts.map (fun p => ((fs.toList.map fun f => (f.offset, ((P.info? f.type).map (·.size)).getD 0)).toArray)[p.1]?) = spots.map some
  | [], spots, h => by cases h; rfl
  | p :: parts, spots, h => by
    unfold spotsS at h
    split at h
    · rename_i fd hf
      split at h
      · rename_i j hj
        split at h
        · rename_i r hr
          cases h
          rw [List.map_cons, List.map_cons, spotsS_map parts r hr]
          congr 1
          have hf' : fs.toList[p.1]? = some fd := by rwa [Array.getElem?_toList]
          simp [hf', hj]
        · cases h
      · cases h
    · cases h
theorem map_parts (a : Act) (parts : Array (Nat × Operand)) : (parts.map fun (i, x) => (i, a.eval x)).toList = parts.toList.map fun p => (p.1, a.eval p.2) := by
  rw [Array.toList_map]
theorem Ku (hev : ∀ x, VR ρ (ev (rf x)) (a.eval x)) : ∀ l : List (Nat × Operand), VRs ρ ((l.map fun p => rf p.2).map ev) ((l.map fun p => (p.1, a.eval p.2)).map (·.2))
  | [] => rfl
  | p :: l => ⟨_, _, rfl, hev p.2, Ku hev l⟩
theorem Mr {t : TypeId} {parts : Array (Nat × Operand)} (hc : Dj P rf t parts.toList = some ao) (hev : ∀ x, VR ρ (ev (rf x)) (a.eval x)) (hr : HR ρ σ W) :
    Runs P (do let v ← Instr.build t (parts.map fun (i, x) => (i, a.eval x)); pure (.value v)) W ρ σ (step std ev σ ao) := by
  unfold Dj at hc
  split at hc
  case h_2 => cases hc
  rename_i i hi
  split at hc
  case h_2 => cases hc
  rename_i z hz
  have hzero : ∀ W : World, (zeroValue t).run P W = .ok z W := fun W => by simp [zeroValue, typeInfo, hi, hz]
  have hzc := D6 ρ z.cells.toList
  split at hc
  · rename_i fs hu
    split at hc
    case h_2 => cases hc
    rename_i hall
    split at hc
    case h_2 => cases hc
    rename_i spots hspots
    cases hc
    intro hok
    have hok : (layL (z.cells.toList.map Dc) spots ((parts.toList.map fun p => rf p.2).map ev)).1 = true := hok
    have hsp := spotsS_map (P := P) parts.toList spots hspots
    obtain ⟨cells', h1, h2⟩ := fill_lay (ρ := ρ) (fun k => ((fs.toList.map fun f => (f.offset, ((P.info? f.type).map (·.size)).getD 0)).toArray)[k]?) (parts.toList.map fun p => (p.1, a.eval p.2)) spots _ _ z.cells hzc (Ku hev _) (by rw [List.map_map]; exact hsp) hok
    refine ⟨.value (.agg cells'), W, ρ, Bu ?_, hr, Stp.refl (Nat.le_refl _), .inl ⟨_, rfl, F3 (us := cells'.toList) h2⟩⟩
    unfold Instr.build
    simp only [Sem.run_bind, hzero, Result.andThen_ok, run_underlying hu]
    rw [Array.mapM_eq_mapM_toList, Sem.run_map, places_run fs.toList hall]
    simp only [Result.andThen_ok, map_parts, h1, Sem.run_pure]
  · rename_i len e hu
    split at hc
    case h_2 => cases hc
    rename_i j hj
    cases hc
    intro hok
    have hok : (layL (z.cells.toList.map Dc) (parts.toList.map fun p => (p.1 * j.size, j.size)) ((parts.toList.map fun p => rf p.2).map ev)).1 = true := hok
    obtain ⟨cells', h1, h2⟩ := fill_lay (ρ := ρ) (fun k => some (k * j.size, j.size)) (parts.toList.map fun p => (p.1, a.eval p.2)) (parts.toList.map fun p => (p.1 * j.size, j.size)) _ _ z.cells hzc (Ku hev _) (by rw [List.map_map, List.map_map]; rfl) hok
    refine ⟨.value (.agg cells'), W, ρ, Bu ?_, hr, Stp.refl (Nat.le_refl _), .inl ⟨_, rfl, F3 (us := cells'.toList) h2⟩⟩
    unfold Instr.build
    simp only [Sem.run_bind, hzero, Result.andThen_ok, run_underlying hu, Ch hj, map_parts, h1, Sem.run_pure]
  · cases hc
end
end Go.Proofs.YtjoakhpdajlhiaaGreatDoor.V2
namespace Go.Proofs.YtjoakhpdajlhiaaGreatDoor.V2
open Go
section
variable {P : Program} {W : World} {ρ : Ren} {σ : AH} {a : Act} {rf : Operand → Ref} {ev : Ref → AV} {ao : AOp}
theorem He {k : IntKind} : ∀ {l : List Int} {vs : List Value}, VRs ρ (l.map (AV.int k)) vs → vs = l.map (Value.int k)
  | [], _, h => h
  | n :: l, _, ⟨v, m, e, hv, hm⟩ => by
    simp only [VR] at hv
    rw [e, hv, He hm]; rfl
theorem push_all : ∀ (ns : List Int) (acc : List UInt8), ns.foldl (fun r n => r.push (UInt8.ofNat n.toNat)) (⟨acc.toArray⟩ : ByteArray) = ⟨(acc ++ ns.map fun n => UInt8.ofNat n.toNat).toArray⟩
  | [], acc => by simp
  | n :: ns, acc => by
    rw [List.foldl_cons]
    have e : (⟨acc.toArray⟩ : ByteArray).push (UInt8.ofNat n.toNat) = ⟨(acc ++ [UInt8.ofNat n.toNat]).toArray⟩ := by simp [ByteArray.push]
    rw [e, push_all ns]; simp
theorem sl2str_run (hr : HR ρ σ W) {s e : TypeId} {x : Value} {ax : AV} (hs : P.underlying s = some (.slice e)) (hx : VR ρ ax x) (hok : (B1 std σ .sl2str [ax]).1 = true) :
    ∃ v, (Conv.bytesToString x).run P W = .ok v W ∧ VR ρ (B1 std σ .sl2str [ax]).2 v := by
  have hS := fun h => Jz (P := P) (size := 1) (tx := s) (str := false) hr hx h (.inr ⟨rfl, e, hs⟩)
  simp only [B1] at hok ⊢
  generalize hrow : C8 std false 1 σ ax = row at hok hS ⊢
  obtain ⟨ok, n, r⟩ := row
  have hok1 : ok = true := by
    cases r with
    | ints k l => simp only [Bool.and_eq_true] at hok; exact hok.1
    | cells l => cases l <;> first | exact hok | cases hok
  obtain ⟨cs, h1, h2, h3⟩ := hS hok1
  have hcl := h1.newsLen
  rw [Nat.mul_one] at hcl
  have key : ∀ ns : List Int, cs = ns.map (Value.int .u8) → (Conv.bytesToString x).run P W = .ok (.string ⟨(ns.map fun n => UInt8.ofNat n.toNat).toArray⟩) W := by
    intro ns hns
    rcases h3 rfl with ⟨rfl, hn⟩ | ⟨ad, c, rfl, hc⟩
    · have hn : n = 0 := hn
      rw [hn] at hcl
      have : ns = [] := by have := congrArg List.length hns; rw [hcl] at this; simpa using this.symm
      subst this
      rfl
    · have hl := run_loadCells_list (P := P) W ad cs hc
      rw [hcl] at hl
      rw [run_bytesToString W ad n c ns (by rw [hl, hns])]
      have := push_all ns []
      simp only [List.nil_append] at this
      rw [← this]; rfl
  cases r with
  | ints k l =>
    simp only [Bool.and_eq_true, decide_eq_true_eq] at hok
    obtain ⟨_, rfl⟩ := hok
    have hcs : cs = l.map (Value.int .u8) := He h2
    exact ⟨_, key l hcs, by show VR ρ (.str _) _; unfold VR; rfl⟩
  | cells l =>
    cases l with
    | nil =>
      have hcs : cs = [] := h2
      exact ⟨_, key [] (by rw [hcs]; rfl), by show VR ρ (.str _) _; unfold VR; rfl⟩
    | cons b l => cases hok
theorem freeze_new {W : World} {c : Array Value} {e : TypeId} {n : Nat} : (({ W with heap := W.heap.push (.cells c e), drawn := n } : World).freeze ⟨W.heap.size, c.size, none⟩ 1) = { W with heap := W.heap.push (.cells c e (c.size, c.size + 1)), drawn := n } := by
  unfold World.freeze
  rw [if_neg (by decide)]
  have : (W.heap.push (.cells c e)).modify W.heap.size (fun | .cells c' elem (lo, hi) => .cells c' elem (if lo == hi then (c.size, c.size + 1) else (min lo c.size, max hi (c.size + 1))) | o => o) = W.heap.push (.cells c e (c.size, c.size + 1)) := by
    apply Array.ext_getElem?
    intro i
    rw [Array.getElem?_modify]
    by_cases hi : W.heap.size = i
    · subst hi; simp
    · rw [if_neg hi, Array.getElem?_push, Array.getElem?_push]
      simp [Ne.symm hi]
  exact congrArg (fun h => ({ W with heap := h, drawn := n } : World)) this
theorem str2sl_run {e : TypeId} (l : List UInt8) (W : World) : ∃ cap, l.length ≤ cap ∧ (Conv.stringToBytes e ⟨l.toArray⟩).run P W = .ok (.slice (some ⟨W.heap.size, 0, none⟩) l.length cap)
    { W with heap := W.heap.push (.cells ((l.map fun (b : UInt8) => Value.int .u8 ((b.toNat : Nat) : Int)).toArray ++ Array.replicate (cap - l.length) (Value.int .u8 0)) e (cap, cap + 1)), drawn := W.drawn + 1 } := by
  have hcap := Nat.le_add_right l.length (W.tape W.drawn (.appendCap l.length 0 e) % (2 ^ 63 - l.length))
  obtain ⟨cap, hc⟩ : ∃ cap, cap = (Question.appendCap l.length 0 e).cut (W.tape W.drawn (.appendCap l.length 0 e)) := ⟨_, rfl⟩
  have hle : l.length ≤ cap := by rw [hc]; exact hcap
  refine ⟨cap, hle, ?_⟩
  have hmap : (⟨l.toArray⟩ : ByteArray).data.map (fun (b : UInt8) => Value.int .u8 ((b.toNat : Nat) : Int)) = (l.map fun (b : UInt8) => Value.int .u8 ((b.toNat : Nat) : Int)).toArray := by simp
  have hsz : ((l.map fun (b : UInt8) => Value.int .u8 ((b.toNat : Nat) : Int)).toArray ++ Array.replicate (cap - l.length) (Value.int .u8 0)).size = cap := by simp; omega
  unfold Conv.stringToBytes
  rw [Sem.run_bind, run_choose]
  have hf : (Question.appendCap l.length 0 e).forced = false := rfl
  have hq : (⟨l.toArray⟩ : ByteArray).size = l.length := rfl
  rw [hq, hf]
  simp only [Bool.false_eq_true, if_false, Result.andThen_ok, ← hc]
  rw [hmap]
  simp only [newRow, Sem.run_bind, run_newObj, Result.andThen_ok, Sem.run_pure]
  unfold markStringish
  have hsh : ∀ (c : Array Value) (n : Nat), (shape W.heap.size).run P { W with heap := W.heap.push (.cells c e), drawn := n } = .ok (some (e, c.size)) { W with heap := W.heap.push (.cells c e), drawn := n } := fun c n => by
    simp [shape, Sem.run, World.shape?]
  simp only [Sem.run_bind, hsh, Result.andThen_ok]
  have hfr : ∀ (c : Array Value) (n : Nat), (freeze ⟨W.heap.size, c.size, none⟩ 1).run P { W with heap := W.heap.push (.cells c e), drawn := n } = .ok () { W with heap := W.heap.push (.cells c e (c.size, c.size + 1)), drawn := n } := fun c n => by
    show Sem.run P (.freeze ⟨W.heap.size, c.size, none⟩ 1 (.pure ())) _ = _
    simp only [Sem.run]
    rw [freeze_new]
  rw [hfr, Result.andThen_ok, hsz]
theorem Jt {s d e : TypeId} {x : Operand} (hs : P.underlying s = some .string) (hd : P.underlying d = some (.slice e)) (he : P.underlying e = some (.int .u8)) (hev : ∀ x, VR ρ (ev (rf x)) (a.eval x)) :
    Makes P (do let v ← convert s d (a.eval x); pure (.value v)) W ρ (Bl std (.str2sl e) ([rf x].map ev)) := by
  intro hok
  have hx := hev x
  simp only [List.map_cons, List.map_nil, Bl] at hok ⊢
  cases hax : ev (rf x) <;> rw [hax] at hok hx <;> try (cases hok; done)
  rename_i l
  simp only [VR] at hx
  obtain ⟨cap, hle, hrun⟩ := str2sl_run (P := P) (e := e) l W
  refine ⟨_, _, _, cap, Bu (by rw [hx]; simp only [convert, Sem.run_bind, run_underlying hs, run_underlying hd, Result.andThen_ok, run_underlying he]; exact hrun), ?_, ?_⟩
  · have hsz : ((l.map fun (b : UInt8) => Value.int .u8 ((b.toNat : Nat) : Int)).toArray ++ Array.replicate (cap - l.length) (Value.int .u8 0)).size = cap := by simp; omega
    refine OR.mk' rfl ⟨_, e, (cap, cap + 1), rfl, fun _ => ⟨rfl, .inr (Nat.le_of_eq hsz), hsz⟩, ?_, ?_, fun i v hi => ?_⟩
    · show (List.map _ l).length + 0 ≤ _; rw [hsz]; simpa using hle
    · show (List.map _ l).length + 0 ≤ cap; simpa using hle
    · simp only [AObj.at, std, List.getElem?_map, Option.map_map] at hi
      cases hl : l[i]? with
      | none => rw [hl] at hi; cases hi
      | some b =>
        rw [hl] at hi
        simp only [Option.map_some, Function.comp, Option.some.injEq] at hi
        have hlt := (List.getElem?_eq_some_iff.1 hl).1
        refine ⟨.int .u8 (b.toNat : Nat), ?_, by rw [← hi]; unfold VR; rfl⟩
        rw [Nat.add_zero, Array.getElem?_append_left (by simpa using hlt)]
        simp [hl]
  · intro ρ' b hb
    show VR ρ' (.sl b 0 l.length l.length false 1) _
    unfold VR
    exact .inl ⟨_, _, 0, cap, hb, rfl, fun _ => rfl, Nat.le_refl _, hle, fun h => (by cases h), by show 0 + cap * 1 ≤ cap; omega⟩
theorem makeMap_makes {t k e : TypeId} {r : Option Operand} (ht : P.underlying t = some (.map k e)) (hev : ∀ x, VR ρ (ev (rf x)) (a.eval x)) :
    Makes P (do let v ← Instr.makeMap t (r.map a.eval); pure (.value v)) W ρ (Bl std .makeMap ((r.toList.map rf).map ev)) := by
  intro hok
  have key : (Instr.makeMap t (r.map a.eval)).run P W = .ok (.map (some W.heap.size)) { W with heap := W.heap.push (.map #[] 0) } ∧ ∃ f : Nat → AV, (Bl std .makeMap ((r.toList.map rf).map ev)).2 = (fun b => .map b, .map []) := by
    cases r with
    | none => exact ⟨by simp [Instr.makeMap], fun b => .map b, rfl⟩
    | some x =>
      have hx := hev x
      simp only [Option.toList_some, List.map_cons, List.map_nil, Bl] at hok ⊢
      cases hax : ev (rf x) <;> rw [hax] at hok hx <;> try (cases hok; done)
      simp only [VR] at hx
      refine ⟨?_, fun b => .map b, rfl⟩
      simp [Instr.makeMap, Sem.run_bind, run_underlying ht, hx, asInt, asIntOf]
  obtain ⟨h1, _, h2⟩ := key
  rw [h2]
  refine ⟨_, _, W.drawn, 0, Bu h1, ⟨fun h => (by cases h), fun l hl => ?_⟩, fun ρ' b hb => ?_⟩
  · cases hl; exact ⟨#[], 0, rfl, rfl, List.Pairwise.nil, fun e he => by simp at he⟩
  · show VR ρ' (.map b) _; unfold VR; exact ⟨_, _, hb, rfl⟩
theorem flatten_rep_at {α : Type} (z : List α) (n i : Nat) (h : i < n * z.length) : ((List.replicate n z).flatten)[i]? = z[i % z.length]? := by
  induction n generalizing i with
  | zero => omega
  | succ n ih =>
    rw [List.replicate_succ, List.flatten_cons, List.getElem?_append]
    split
    · rename_i hi; rw [Nat.mod_eq_of_lt hi]
    · rename_i hi
      rw [ih (i - z.length) (by rw [Nat.add_mul, Nat.one_mul] at h; omega)]
      congr 1
      exact (Nat.mod_eq_sub_mod (by omega)).symm
theorem newCells_spec (n : Nat) (e : TypeId) (zero : List AV) : (Df std n e zero).cellsy = true ∧ (Df std n e zero).len = n * zero.length ∧ (Df std n e zero).elem = e ∧ (Df std n e zero).isRo = false ∧ ∀ i v, (Df std n e zero).at i = some v → i < n * zero.length ∧ zero[i % zero.length]? = some v := by
  have gen : ∀ z : List AV, (AObj.cells ((List.replicate n z).flatten) e .exact).cellsy = true ∧ (AObj.cells ((List.replicate n z).flatten) e .exact).len = n * z.length ∧ (AObj.cells ((List.replicate n z).flatten) e .exact).elem = e ∧ (AObj.cells ((List.replicate n z).flatten) e .exact).isRo = false ∧ ∀ i v, (AObj.cells ((List.replicate n z).flatten) e .exact).at i = some v → i < n * z.length ∧ z[i % z.length]? = some v := fun z => by
    have hl : ((List.replicate n z).flatten).length = n * z.length := by simp
    refine ⟨rfl, hl, rfl, rfl, fun i v hi => ?_⟩
    have hlt : i < n * z.length := by rw [← hl]; exact (List.getElem?_eq_some_iff.1 hi).1
    exact ⟨hlt, by rw [← flatten_rep_at z n i hlt]; exact hi⟩
  unfold Df
  split
  · rename_i k z
    cases hz : std.eq z 0 with
    | true =>
      have hz0 : z = 0 := of_decide_eq_true hz
      subst hz0
      refine ⟨rfl, by simp [AObj.len, std], rfl, rfl, fun i v hi => ?_⟩
      have hi : ((List.replicate n (0 : Int))[i]?).map (AV.int k) = some v := hi
      cases hr : (List.replicate n (0 : Int))[i]? with
      | none => rw [hr] at hi; cases hi
      | some w =>
        rw [hr] at hi
        have hlt := (List.getElem?_eq_some_iff.1 hr).1
        rw [List.length_replicate] at hlt
        have : w = 0 := by rw [List.getElem?_replicate, if_pos hlt] at hr; exact (Option.some.inj hr).symm
        subst this
        simp only [Option.map_some, Option.some.injEq] at hi
        refine ⟨by simpa using hlt, ?_⟩
        simp [Nat.mod_one, hi]
    | false =>
      have := gen [.int k z]
      simp only [cond_false]
      have e1 : (List.replicate n [AV.int k z]).flatten = List.replicate n (AV.int k z) := by
        clear this gen
        induction n with
        | zero => rfl
        | succ n ih => rw [List.replicate_succ, List.flatten_cons, ih, List.replicate_succ]; rfl
      rw [e1] at this
      exact this
  · exact gen _
theorem makeSl_makes {t e : TypeId} {i : TypeInfo} {z : Value} {x y : Operand} (ht : P.underlying t = some (.slice e)) (hi : P.info? e = some i) (hz : i.zero = some z) (hb : (Nat.beq z.cells.size i.size && Nat.ble i.bytes 1024) = true) (hev : ∀ x, VR ρ (ev (rf x)) (a.eval x)) :
    Makes P (do let v ← Instr.makeSlice t (a.eval x) (a.eval y); pure (.value v)) W ρ (Bl std (.makeSl e i.size (z.cells.toList.map Dc)) ([rf x, rf y].map ev)) := by
  rw [Bool.and_eq_true, Nat.beq_eq, Nat.ble_eq] at hb
  intro hok
  have hx := hev x
  have hy := hev y
  simp only [List.map_cons, List.map_nil, Bl] at hok ⊢
  cases hax : ev (rf x) <;> rw [hax] at hok hx <;> try (cases hok; done)
  cases hay : ev (rf y) <;> rw [hay] at hok hy <;> try (cases hok; done)
  rename_i k1 n k2 c
  simp only [VR] at hx hy
  have hok : (std.le 0 n && std.le n c && std.leN (std.ton c) 1000000) = true := hok
  simp only [std, Bool.and_eq_true, decide_eq_true_eq, Nat.ble_eq] at hok
  obtain ⟨⟨h0, h1⟩, h2⟩ := hok
  obtain ⟨N, rfl⟩ : ∃ N : Nat, n = N := ⟨n.toNat, by omega⟩
  obtain ⟨C, rfl⟩ : ∃ C : Nat, c = C := ⟨c.toNat, by omega⟩
  simp only [Int.toNat_natCast] at h2
  have hNC : N ≤ C := by omega
  have hbytes : C * i.bytes ≤ 1000000 * 1024 := Nat.mul_le_mul h2 hb.2
  obtain ⟨s1, s2, s3, s4, s5⟩ := newCells_spec C e (z.cells.toList.map Dc)
  have hzl : (z.cells.toList.map Dc).length = i.size := by rw [List.length_map]; exact hb.1
  rw [hzl] at s2 s5
  have hbI : (i.bytes : Int) * C ≤ 281474976710656 := by
    have e1 : ((C * i.bytes : Nat) : Int) = (i.bytes : Int) * C := by rw [Int.natCast_mul, Int.mul_comm]
    omega
  have hrun := run_make (P := P) W t e i z ht hi hz k1 k2 N C (by omega) h1 hbI (by omega)
  simp only [Int.toNat_natCast] at hrun
  refine ⟨_, _, W.drawn, C * i.size, Bu (by rw [hx, hy]; exact hrun), ?_, ?_⟩
  · refine OR.mk' s1 ⟨_, e, (0, 0), rfl, fun _ => ⟨s3.symm, .inl rfl, by simp [madeCells]⟩, ?_, ?_, fun j v hj => ?_⟩
    · show (Df std C e _).len + 0 ≤ _; rw [s2]; simp [madeCells]
    · show (Df std C e _).len + 0 ≤ _; rw [s2]; exact Nat.le_refl _
    · obtain ⟨hlt, hv⟩ := s5 j v hj
      have hne : C * i.size ≠ 0 := by omega
      rw [List.getElem?_map] at hv
      have hzj : ∃ u, z.cells[j % i.size]? = some u ∧ Dc u = v := by
        cases hc : z.cells.toList[j % i.size]? with
        | none => rw [hc] at hv; cases hv
        | some u => rw [hc] at hv; exact ⟨u, by rwa [Array.getElem?_toList] at hc, by simpa using hv⟩
      obtain ⟨u, hu, hv'⟩ := hzj
      refine ⟨u, ?_, by rw [← hv']; exact Id ρ u⟩
      unfold madeCells
      rw [hb.1, Nat.add_zero, Array.getElem?_map]
      have hr : (Array.range (C * i.size))[j]? = some j := by simp [hlt]
      rw [hr]
      simp only [Option.map_some]
      have hjl : j % i.size < z.cells.size := (Array.getElem?_eq_some_iff.1 hu).1
      rw [getElem!_pos z.cells _ hjl]
      rw [Array.getElem?_eq_getElem hjl] at hu
      exact hu
  · intro ρ' b hb'
    show VR ρ' (.sl b 0 (Int.toNat N) (Int.toNat C) true i.size) _
    simp only [Int.toNat_natCast]
    unfold VR
    exact .inl ⟨_, _, 0, C, hb', rfl, fun _ => rfl, hNC, Nat.le_refl _, fun _ => rfl, by show 0 + C * i.size ≤ C * i.size; omega⟩
theorem first_run (hr : HR ρ σ W) {str : Bool} {size : Nat} {ax : AV} {x : Value} (hx : VR ρ ax x) (hok : (C8 std str size σ ax).1 = true) {tx : TypeId} (ht : (str = true ∧ P.underlying tx = some .string) ∨ (str = false ∧ ∃ e', P.underlying tx = some (.slice e'))) {n : Nat} (hn : n ≤ (C8 std str size σ ax).2.1) :
    (Builtin.lenOf x).run P W = .ok (C8 std str size σ ax).2.1 W ∧ ∃ cs : List Value, (Builtin.firstCells size n x).run P W = .ok cs.toArray W ∧ VRs ρ ((C8 std str size σ ax).2.2.list.take (n * size)) cs := by
  obtain ⟨cs, h1, h2, h3⟩ := Jz (P := P) hr hx hok ht
  refine ⟨h1.len W, cs.take (n * size), ?_, h2.take _⟩
  have hcl := h1.newsLen
  have hle : n * size ≤ cs.length := by rw [hcl]; exact Nat.mul_le_mul_right _ hn
  rcases ht with ⟨rfl, hs⟩ | ⟨rfl, e', hs⟩
  · cases ax <;> simp only [C8, Bool.not_true, Bool.false_and, Bool.false_eq_true] at hok <;> first | (cases hok; done) | skip
    case sl b o k c e z =>
      exfalso
      cases hob : σ.get b with
      | none => rw [hob] at hok; cases hok
      | some ob => rw [hob] at hok; cases ob <;> simp at hok
    case str l =>
      simp only [VR] at hx
      subst hx
      have hsz : size = 1 := by simpa using hok
      subst hsz
      have hc := h1.cells
      have hnl : (C8 std true 1 σ (.str l)).2.1 = l.length := rfl
      have hcs : cs = l.map fun (b : UInt8) => Value.int .u8 ((b.toNat : Nat) : Int) := by
        rw [hnl] at hc
        simp only [Builtin.firstCells, Jo] at hc
        have : (((l.drop 0).take (l.length - 0)).toArray.map fun (b : UInt8) => Value.int .u8 ((b.toNat : Nat) : Int)) = cs.toArray := by
          injection hc
        simpa using this.symm
      show (pure (((⟨l.toArray⟩ : ByteArray).extract 0 n).data.map fun b => Value.int .u8 b.toNat) : Sem (Array Value)).run P W = _
      rw [Jo, hcs]
      show Result.ok _ W = _
      congr 1
      simp [List.map_take]
  · rcases h3 rfl with ⟨rfl, hz⟩ | ⟨ad, c, rfl, hc⟩
    · have : n = 0 := by omega
      subst this
      show Result.ok _ W = _
      simp
    · have hl := run_loadCells_list (P := P) W ad (cs.take (n * size)) (fun j v hj => hc j v (by
        rw [List.getElem?_take] at hj
        split at hj
        · exact hj
        · cases hj))
      rw [List.length_take, Nat.min_eq_left hle] at hl
      exact hl
theorem piece_vr {r : Row} {n : Nat} {cs : List Value} (h : VRs ρ (r.list.take n) cs) : VR ρ (Lc std n r) (.agg cs.toArray) := by
  cases r with
  | ints k l =>
    show VR ρ (.ints k ((l.drop 0).take n)) _
    rw [List.drop_zero]
    unfold VR
    have h : VRs ρ ((l.map (AV.int k)).take n) cs := h
    rw [← List.map_take] at h
    rw [He h]
  | cells l => exact F3 h
theorem copy_run (hr : HR ρ σ W) {t e tx ty : TypeId} {i : TypeInfo} {str : Bool} (ht : P.underlying t = some (.slice e)) (hi : P.info? e = some i) (htx : (str = true ∧ P.underlying tx = some .string) ∨ (str = false ∧ ∃ e', P.underlying tx = some (.slice e')))
    {x y : Value} {ax ay : AV} (hx : VR ρ ax x) (hy : VR ρ ay y) : Runs P (do let v ← Builtin.copy_ #[t, tx] ty #[x, y]; pure (.value v)) W ρ σ (Bf std σ (.copy i.size str) [ax, ay]) := by
  intro hok
  simp only [Bf] at hok ⊢
  cases ax <;> try (cases hok; done)
  case nilsl =>
    simp only [VR] at hx
    subst hx
    simp only at hok ⊢
    obtain ⟨h1, cs, h2, h3⟩ := first_run (P := P) (n := 0) hr hy hok htx (Nat.zero_le _)
    refine ⟨.value (.int .i64 0), W, ρ, Bu ?_, hr, Stp.refl (Nat.le_refl _), .inl ⟨_, rfl, by show VR ρ (.int .i64 0) _; unfold VR; rfl⟩⟩
    simp only [Builtin.copy_]
    simp [Sem.run_bind, run_underlying ht, h1, Ch hi, h2, goInt]
  case sl b o n k ex z =>
    simp only at hok ⊢
    have hF := fun c h (hc : c ≤ (C8 std str i.size σ ay).2.1) => first_run (P := P) (n := c) hr hy h htx hc
    generalize C8 std str i.size σ ay = row at hok hF ⊢
    obtain ⟨ok, m, r⟩ := row
    simp only at hok hF ⊢
    obtain ⟨cnt, hcnt⟩ : ∃ cnt, cnt = (bif std.leN m n then m else n) := ⟨_, rfl⟩
    have hmin : cnt = Nat.min m n := by
      rw [hcnt]
      show (bif Nat.ble m n then m else n) = _
      cases h : Nat.ble m n with
      | true => rw [Nat.ble_eq] at h; exact (Nat.min_eq_left h).symm
      | false => have : ¬ m ≤ n := fun h' => by rw [Nat.ble_eq_true_of_le h'] at h; cases h
                 show n = Nat.min m n
                 exact (Nat.min_eq_right (by omega)).symm
    rw [← hcnt] at hok ⊢
    have hcm : cnt ≤ m := by rw [hmin]; exact Nat.min_le_left _ _
    have hcn : cnt ≤ n := by rw [hmin]; exact Nat.min_le_right _ _
    rcases vr_sl hx with ⟨c, d, o', k', hb, rfl, ho, hnk, hkk, _, hlim⟩ | ⟨rfl, _, _, _, pp, rfl⟩
    rotate_left
    · have h0 : cnt = 0 := by omega
      unfold cpyA at hok ⊢
      have hz : std.eqN cnt 0 = true := by rw [h0]; rfl
      rw [hz] at hok
      rw [hz]
      simp only [cond_true, Bool.and_eq_true] at hok ⊢
      obtain ⟨h1, cs, h2, h3⟩ := hF cnt hok.1 hcm
      have hcs : cs = [] := by have := h3.length; rw [h0] at this; simpa using this
      subst hcs
      rw [hmin] at h2
      refine ⟨.value (.int .i64 cnt), W, ρ, Bu ?_, hr, Stp.refl (Nat.le_refl _), .inl ⟨_, rfl, ?_⟩⟩
      · simp only [Builtin.copy_]
        simp only [List.getElem?_toArray, List.getElem?_cons_zero, List.getElem?_cons_succ, Sem.run_bind, run_underlying ht, Result.andThen_ok, h1, Ch hi, h2, Sem.run_pure, goInt, hmin]
        rfl
      rw [h0]
      show VR ρ (.int .i64 0) _; unfold VR; rfl
    have hcopy : ∀ cs : List Value, (Builtin.lenOf y).run P W = .ok m W → (Builtin.firstCells i.size cnt y).run P W = .ok cs.toArray W → ∀ W', (storeCells ⟨c, o', none⟩ cs).run P W = .ok () W' → (Builtin.copy_ #[t, tx] ty #[.slice (some ⟨c, o', none⟩) n k', y]).run P W = .ok (.int .i64 cnt) W' := by
      intro cs e1 e2 W' e3
      rw [hmin] at e2
      simp only [Builtin.copy_]
      simp only [List.getElem?_toArray, List.getElem?_cons_zero, List.getElem?_cons_succ, Sem.run_bind, run_underlying ht, Result.andThen_ok, e1, Ch hi, e2, e3, Sem.run_pure, goInt, hmin]
    unfold cpyA at hok ⊢
    cases hz : std.eqN cnt 0 with
    | true =>
      rw [hz] at hok
      simp only [cond_true, Bool.and_eq_true] at hok ⊢
      have h0 : cnt = 0 := Nat.eq_of_beq_eq_true hz
      obtain ⟨h1, cs, h2, h3⟩ := hF cnt hok.1 hcm
      have hcs : cs = [] := by have := h3.length; rw [h0] at this; simpa using this
      subst hcs
      refine ⟨.value (.int .i64 cnt), W, ρ, Bu (hcopy [] h1 h2 W rfl), hr, Stp.refl (Nat.le_refl _), .inl ⟨_, rfl, ?_⟩⟩
      rw [h0]
      show VR ρ (.int .i64 0) _; unfold VR; rfl
    | false =>
      rw [hz] at hok
      simp only [cond_false] at hok ⊢
      cases hob : σ.get b with
      | none => rw [hob] at hok; cases hok
      | some ob =>
        rw [hob] at hok
        simp only [Bool.and_eq_true] at hok ⊢
        obtain ⟨⟨hk1, _⟩, hw⟩ := hok
        obtain ⟨h1, cs, h2, h3⟩ := hF cnt hk1 hcm
        have hne : cnt ≠ 0 := fun h => by rw [h] at hz; cases hz
        have hk0 : k ≠ 0 := by omega
        obtain ⟨W', s1, s2, s3⟩ := hr.store P hb hob hw (piece_vr (n := cnt * i.size) h3)
        have s1 : (storeCells ⟨c, o + d.1, none⟩ cs).run P W = .ok () W' := s1
        rw [← ho hk0] at s1
        exact ⟨.value (.int .i64 cnt), W', ρ, Bu (hcopy cs h1 h2 W' s1), s2, s3, .inl ⟨_, rfl, by show VR ρ (.int .i64 cnt) _; unfold VR; rfl⟩⟩
theorem D7 (hev : ∀ x, VR ρ (ev (rf x)) (a.eval x)) : ∀ l : List Operand, VRs ρ ((l.map rf).map ev) (l.map a.eval)
  | [] => rfl
  | x :: l => ⟨_, _, rfl, hev x, D7 hev l⟩
theorem bi_run {b : Builtin} {args : Array Operand} {ats : Array TypeId} {ty : TypeId} {v : Value} {W' : World} {f : Array TypeId → TypeId → Array Value → Sem Value}
    (hb : ∀ cs as', builtin b ats ty cs as' = (do let v ← f ats ty as'; pure (.value v))) (h : (f ats ty (args.map a.eval)).run P W = .ok v W') :
    (do let d ← resolve a.eval { callee := .builtin b, args := args, argTypes := ats } ty; invoke d.target d.args : Sem Next).run P W = .ok (.value v) W' := by
  simp only [resolve, Sem.run_bind, Sem.run_pure, Result.andThen_ok, invoke, hb, h]
def mmA (mx : Bool) : List AV → Bool × AV
  | .int k n :: l => minL std mx k n l
  | _ => (false, .top)
theorem mmA_eq (mx : Bool) (l : List AV) : Aq std (bif mx then .maxI else .minI) l = mmA mx l := by
  cases mx
  · simp only [cond_false, Aq]; unfold mmA; rfl
  · simp only [cond_true, Aq]; unfold mmA; rfl
theorem J5 (hr : HR ρ σ W) {mx : Bool} {args : Array Operand} {ats : Array TypeId} {ty : TypeId} (hev : ∀ x, VR ρ (ev (rf x)) (a.eval x)) :
    Runs P (do let d ← resolve a.eval { callee := .builtin (bif mx then .max else .min), args := args, argTypes := ats } ty; invoke d.target d.args) W ρ σ (step std ev σ (.pur (bif mx then .maxI else .minI) (args.toList.map rf))) := by
  intro hok
  have hv := D7 hev args.toList
  generalize hl : (args.toList.map rf).map ev = l at hv
  have hst : step std ev σ (.pur (bif mx then .maxI else .minI) (args.toList.map rf)) = ((Aq std (bif mx then .maxI else .minI) l).1, (Aq std (bif mx then .maxI else .minI) l).2, σ) := by simp only [step, hl]
  rw [hst] at hok ⊢
  rw [mmA_eq] at hok ⊢
  match l, hv, hok with
  | [], _, hok => cases hok
  | a0 :: l, ⟨v0, vs, e, h0, hvs⟩, hok =>
    cases a0 <;> try (cases hok; done)
    rename_i k n
    simp only [VR] at h0
    subst h0
    obtain ⟨v, h1, h2⟩ := minL_run (P := P) (W := W) mx l vs n hvs hok
    refine ⟨.value v, W, ρ, ?_, hr, Stp.refl (Nat.le_refl _), .inl ⟨v, rfl, h2⟩⟩
    have hal : (args.map a.eval).toList = .int k n :: vs := by rw [Array.toList_map]; exact e
    cases mx
    · exact bi_run (f := Builtin.min_) (fun _ _ => rfl) (by unfold Builtin.min_; rw [hal]; exact h1)
    · exact bi_run (f := Builtin.max_) (fun _ _ => rfl) (by unfold Builtin.max_; rw [hal]; exact h1)
theorem cap_sound (hr : HR ρ σ W) {args : Array Operand} {ats : Array TypeId} {ty t e : TypeId} {r : List TypeId} (ha : ats.toList = t :: r) (ht : P.underlying t = some (.slice e)) (hev : ∀ x, VR ρ (ev (rf x)) (a.eval x)) :
    Runs P (do let d ← resolve a.eval { callee := .builtin .cap, args := args, argTypes := ats } ty; invoke d.target d.args) W ρ σ (step std ev σ (.pur .capSl (args.toList.map rf))) := by
  intro hok
  have hv := D7 hev args.toList
  generalize hl : (args.toList.map rf).map ev = l at hv
  have hst : step std ev σ (.pur .capSl (args.toList.map rf)) = ((Aq std .capSl l).1, (Aq std .capSl l).2, σ) := by simp only [step, hl]
  rw [hst] at hok ⊢
  have e1 : ats[0]? = some t := by rw [← Array.getElem?_toList, ha]; rfl
  match l, hv, hok with
  | [], _, hok => cases hok
  | [a0], ⟨v0, vs, e, h0, hvs⟩, hok =>
    cases hvs
    have e2 : (args.map a.eval)[0]? = some v0 := by rw [← Array.getElem?_toList, Array.toList_map, e]; rfl
    cases a0 <;> try (cases hok; done)
    · rename_i b o n k ex z
      obtain ⟨p, k', hv, _, _, hex⟩ := Hf h0
      subst hv
      refine ⟨.value (.int .i64 k'), W, ρ, bi_run (f := Builtin.cap_) (fun _ _ => rfl) ?_, hr, Stp.refl (Nat.le_refl _), .inl ⟨_, rfl, ?_⟩⟩
      · simp only [Builtin.cap_, e1, e2, Sem.run_bind, run_underlying ht, Result.andThen_ok]; rfl
      · show VR ρ (bif ex then .int .i64 k else .top) _
        cases ex with
        | false => trivial
        | true => rw [hex rfl]; show VR ρ (.int .i64 k) _; unfold VR; rfl
    · simp only [VR] at h0
      subst h0
      refine ⟨.value (.int .i64 0), W, ρ, bi_run (f := Builtin.cap_) (fun _ _ => rfl) ?_, hr, Stp.refl (Nat.le_refl _), .inl ⟨_, rfl, by show VR ρ (.int .i64 0) _; unfold VR; rfl⟩⟩
      simp only [Builtin.cap_, e1, e2, Sem.run_bind, run_underlying ht, Result.andThen_ok]; rfl
  | a0 :: a1 :: l', _, hok =>
    have : (Aq std .capSl (a0 :: a1 :: l')).1 = false := by cases a0 <;> rfl
    have hok : (Aq std .capSl (a0 :: a1 :: l')).1 = true := hok
    rw [this] at hok; cases hok
theorem copy_sound (hr : HR ρ σ W) {args : Array Operand} {ats : Array TypeId} {ty t tx e : TypeId} {i : TypeInfo} {str : Bool} (ha : ats.toList = [t, tx]) (ht : P.underlying t = some (.slice e)) (hi : P.info? e = some i) (htx : (str = true ∧ P.underlying tx = some .string) ∨ (str = false ∧ ∃ e', P.underlying tx = some (.slice e'))) (hev : ∀ x, VR ρ (ev (rf x)) (a.eval x)) :
    Runs P (do let d ← resolve a.eval { callee := .builtin .copy, args := args, argTypes := ats } ty; invoke d.target d.args) W ρ σ (step std ev σ (.ext (.copy i.size str) (args.toList.map rf))) := by
  have e1 : ats = #[t, tx] := by apply Array.ext'; exact ha
  subst e1
  have hv := D7 hev args.toList
  generalize hl : (args.toList.map rf).map ev = l at hv
  have hst : step std ev σ (.ext (.copy i.size str) (args.toList.map rf)) = Bf std σ (.copy i.size str) l := by simp only [step, hl]
  rw [hst]
  match l, hv with
  | [], _ => exact fun h => by cases h
  | [a0], _ => exact fun h => by cases a0 <;> cases h
  | [a0, a1], ⟨v0, _, e, h0, v1, _, e', h1, e''⟩ =>
    cases e''; cases e'
    intro hok
    obtain ⟨n, W', ρ', r1, r2, r3, r4⟩ := copy_run (ty := ty) hr ht hi htx h0 h1 hok
    refine ⟨n, W', ρ', ?_, r2, r3, r4⟩
    have hal : args.map a.eval = #[v0, v1] := by apply Array.ext'; rw [Array.toList_map]; exact e
    rw [← r1]
    simp only [resolve, Sem.run_bind, Sem.run_pure, Result.andThen_ok, invoke, hal]
    rw [show ∀ cs, builtin .copy #[t, tx] ty cs #[v0, v1] = (do let v ← Builtin.copy_ #[t, tx] ty #[v0, v1]; pure (.value v)) from fun _ => rfl]
    simp only [Sem.run_bind, Sem.run_pure]
  | a0 :: a1 :: a2 :: l', _ => exact fun h => by cases a0 <;> cases h
end
end Go.Proofs.YtjoakhpdajlhiaaGreatDoor.V2
