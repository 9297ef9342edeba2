/- Part 11 of the proof: texts of the proof. -/
import Derived.Test.YtcbfjmjphpoimaaGreatDoorQN10
import Derived.Test.YtcbfjmjphpoimaaGreatDoorCards
import Derived.Test.YtcbfjmjphpoimaaGreatDoorTie
import Derived.LaidMore
import Derived.ProofKit
import Derived.OpenShut
import Derived.Carry
import Derived.Deep.DeepHandedRow
import Derived.Deep.Matrix
import Derived.Lib.LaidTab
import Derived.Stop.LaidErr
namespace Go.Proofs.YtcbfjmjphpoimaaGreatDoor.V2
open Go Go.RowKit Go.Maps Go.Sort
def insI (x : Int) : List Int → List Int
  | [] => [x]
  | y :: l => bif decide (y < x) then y :: insI x l else x :: y :: l
def sortI : List Int → List Int
  | [] => []
  | x :: l => insI x (sortI l)
def risI : List Int → Bool
  | [] => true
  | x :: l => (match l with | [] => true | y :: _ => decide (x < y)) && risI l
theorem insI_perm (x : Int) : ∀ l, (insI x l).Perm (x :: l)
  | [] => .refl _
  | y :: l => by
    unfold insI
    cases decide (y < x)
    · exact .refl _
    · exact (List.Perm.cons y (insI_perm x l)).trans (.swap _ _ _)
theorem sortI_perm : ∀ l, (sortI l).Perm l
  | [] => .refl _
  | x :: l => (insI_perm x _).trans (.cons x (sortI_perm l))
theorem risI_lt : ∀ {l : List Int}, risI l = true → l.Pairwise (· < ·)
  | [], _ => .nil
  | [x], _ => List.pairwise_singleton _ _
  | x :: y :: l, h => by
    unfold risI at h
    rw [Bool.and_eq_true, decide_eq_true_eq] at h
    have ih := risI_lt h.2
    refine List.pairwise_cons.2 ⟨fun z hz => ?_, ih⟩
    rcases List.mem_cons.1 hz with rfl | hz
    · exact h.1
    · have := List.rel_of_pairwise_cons ih hz; omega
theorem srtL_of {ss t : List Int} (hp : ss.Perm t) (ht : risI t = true) : srtL ss = t := by
  rw [srtL_eq]
  refine List.Perm.eq_of_pairwise (le := fun a b => (!ltInt b a) = true) (fun a b _ _ h1 h2 => ?_) (List.pairwise_mergeSort (fun a b c h1 h2 => ?_) (fun a b => ?_) ss) ((risI_lt ht).imp fun {a b} h => ?_) ((List.mergeSort_perm ss _).trans hp)
  · simp only [ltInt, Bool.not_eq_true', decide_eq_false_iff_not] at h1 h2; omega
  · simp only [ltInt, Bool.not_eq_true', decide_eq_false_iff_not] at h1 h2 ⊢; omega
  · simp only [ltInt, Bool.or_eq_true, Bool.not_eq_true', decide_eq_false_iff_not]; omega
  · simp only [ltInt, Bool.not_eq_true', decide_eq_false_iff_not]; omega
noncomputable def srtUO (σ : AH) (ks : List Int) : Out := match sortI ks with
  | [] => (true, .nilsl, σ)
  | x :: l => (risI (x :: l) && inU ks && Nat.ble ks.length 12 && Nat.blt σ.next 1000000, .sl σ.next 0 (x :: l).length (x :: l).length false 1, σ.new (.ints .u32 (x :: l) 23 .more))
noncomputable def srtUM (σ : AH) (m : Nat) : Out := match σ.get m with
  | some (.map l) => match keysI l with
    | some ks => srtUO σ ks
    | none => bad σ
  | _ => bad σ
noncomputable def suA (args : List AV) (σ : AH) : Out := match args with
  | [.fn (.func q) [] [.ptr b o]] => bif Nat.beq q 164 then match (σ.get b).bind fun ob => ob.at o with
    | some (.map m) => srtUM σ m
    | _ => bad σ else bad σ
  | _ => bad σ
noncomputable def suF (g : FuncId → List AV → AH → Out) (f : FuncId) (args : List AV) (σ : AH) : Out := bif Nat.beq f 144 then suA args σ else g f args σ
theorem HR.adopt {ρ : Ren} {σ : AH} {W W' : World} (h : HR ρ σ W) (hb : RowKit.Below W.heap.size W W') {g s : Nat} (hg : W.heap.size ≤ g) (hg' : g < W'.heap.size) (hs : σ.next < 1000000) {o : AObj} (hO : OR ρ (0, s) o W'.heap[g]?)  :
    ∃ ρ', ρ' σ.next = some (g, (0, s)) ∧ Sub ρ ρ' ∧ HR ρ' (σ.new o) W' ∧ Stp σ.next ρ σ W ρ' (σ.new o) W' := by
  have hn : ρ σ.next = none := by
    cases hc : ρ σ.next with
    | none => rfl
    | some c => have := (h.dom _ c.1 c.2 hc).1; omega
  have hget : ∀ m, (σ.new o).get m = if m = σ.next then some o else σ.get m := fun m => T.get_put _ _ _ _ (by omega)
  have hsub : Sub ρ (fun b => if b = σ.next then some (g, (0, s)) else ρ b) := fun b x hc => by
    have hne : b ≠ σ.next := by rintro rfl; rw [hn] at hc; cases hc
    simp only [if_neg hne]; exact hc
  refine ⟨fun b => if b = σ.next then some (g, (0, s)) else ρ b, if_pos rfl, hsub, ⟨by show σ.next + 1 ≤ _; omega, fun m hm => by have hm : σ.next + 1 ≤ m := hm; rw [hget, if_neg (by omega)]; exact h.none_ m (by omega), fun b c d hc => ?_, fun b b' c d d' h1 h2 hne => ?_⟩, ⟨fun b hb => if_neg (by omega), fun b c d hc => ?_, by show σ.next ≤ σ.next + 1; omega, fun b ob hb _ ho' _ => ?_, fun c hc _ => hb.block c hc, hb.tape, hb.os, hb.output, hb.size, fun b c d ob hb' _ hc ho' _ => ⟨by rw [hget, if_neg (by omega)]; exact ho', hb.block c hc⟩⟩⟩
  · rw [hget]
    by_cases hbn : b = σ.next
    · subst hbn
      simp only [if_true, Option.some.injEq, Prod.mk.injEq] at hc
      obtain ⟨rfl, rfl⟩ := hc
      exact ⟨Nat.lt_succ_self _, hg', o, if_pos rfl, hO.mono hsub⟩
    · simp only [if_neg hbn] at hc ⊢
      obtain ⟨h1, h2, o2, h3, h4⟩ := h.dom b c d hc
      refine ⟨by show b < σ.next + 1; omega, Nat.lt_of_lt_of_le h2 hb.size, o2, h3, ?_⟩
      rw [hb.block c h2]
      exact h4.mono hsub
  · by_cases e1 : b = σ.next
    · subst e1
      simp only [if_true, Option.some.injEq, Prod.mk.injEq] at h1
      obtain ⟨rfl, rfl⟩ := h1
      simp only [if_neg (Ne.symm hne)] at h2
      have := (h.dom _ _ _ h2).2.1
      omega
    · by_cases e2 : b' = σ.next
      · subst e2
        simp only [if_true, Option.some.injEq, Prod.mk.injEq] at h2
        obtain ⟨rfl, rfl⟩ := h2
        simp only [if_neg e1] at h1
        have := (h.dom _ _ _ h1).2.1
        omega
      · simp only [if_neg e1, if_neg e2] at h1 h2
        exact (h.inj b b' c d d' h1 h2 hne).congr (by rw [hget, if_neg e1]) (by rw [hget, if_neg e2])
  · by_cases hbn : b = σ.next
    · subst hbn
      simp only [if_true, Option.some.injEq, Prod.mk.injEq] at hc
      exact .inr (by omega)
    · simp only [if_neg hbn] at hc
      exact .inl ⟨b, d, hc⟩
  · rw [hget, if_neg (by omega)]; exact ho'
theorem adoptU {ρ : Ren} {σ : AH} {W W' : World} (h : HR ρ σ W) (hb : RowKit.Below W.heap.size W W') (hs : σ.next < 1000000) {u : Value} {ss : List Int} (hne : ss ≠ []) (ho : W'.ownsRow W.heap.size 23 1 u ss.length (ss.map uC)) :
    ∃ ρ', HR ρ' (σ.new (.ints .u32 ss 23 .more)) W' ∧ Stp σ.next ρ σ W ρ' (σ.new (.ints .u32 ss 23 .more)) W' ∧ VR ρ' (.sl σ.next 0 ss.length ss.length false 1) u := by
  have hl : 0 < ss.length := List.length_pos_iff.2 hne
  obtain ⟨_, ⟨_, h0⟩ | ⟨g, cap, cur, rfl, hg, hrow, hn, hcap, hsz, htk⟩⟩ := ho
  · omega
  have hg' : g < W'.heap.size := (Array.getElem?_eq_some_iff.1 hrow).1
  have hO : OR ρ (0, cap) (.ints .u32 ss 23 .more) W'.heap[g]? := by
    rw [hrow]
    refine OR.mk' rfl ⟨cur, 23, (0, 0), rfl, fun _ => ⟨rfl, .inl rfl, by rw [hsz, Nat.mul_one]⟩, by show ss.length + 0 ≤ _; omega, by show ss.length + 0 ≤ cap; omega, fun i a hi => ?_⟩
    simp only [AObj.at] at hi
    obtain ⟨x, hx, rfl⟩ := Option.map_eq_some_iff.1 hi
    have hil : i < ss.length := (List.getElem?_eq_some_iff.1 hx).1
    have e1 : (cur.toList.take (ss.length * 1))[i]? = (ss.map uC)[i]? := by rw [htk]
    rw [List.getElem?_take, if_pos (by omega), Array.getElem?_toList, List.getElem?_map, hx] at e1
    exact ⟨uC x, by rw [Nat.add_zero, e1]; rfl, rfl⟩
  obtain ⟨ρ', k1, _, k3, k4⟩ := h.adopt hb hg hg' hs hO
  refine ⟨ρ', k3, k4, ?_⟩
  unfold VR
  exact .inl ⟨g, (0, cap), 0, cap, k1, rfl, fun _ => rfl, Nat.le_refl _, hn, fun h => (by cases h), by show 0 + cap * 1 ≤ cap; omega⟩
theorem srtUO_ok {ρ : Ren} {σ : AH} {W : World} (hr : HR ρ σ W) {l : List (AV × AV)} {c : Nat} (hM : MR ρ l W.heap[c]?) {ks : List Int} (hk : keysI l = some ks) (h : (srtUO σ ks).1 = true) {v : Value}
    (hC : ∀ (D0 : DataW Nat), W.ownsMap Tryz.prog 23 RNil c ks.length D0 → Maps.size D0 ≤ 12 → (∀ ss, KeysU D0 ss → ss.length ≤ 12) → Calls Tryz.prog 144 #[v] W fun e w' => ∃ (v : Value) (ss : List Int), e = .returned v ∧ KeysU D0 ss ∧
      w'.ownsRow W.heap.size 23 1 v ss.length ((srtL ss).map uC) ∧ (v = .slice none 0 0 ↔ ss = []) ∧ RowKit.Below W.heap.size W w') :
    Calls Tryz.prog 144 #[v] W fun e W' => ∃ v ρ', e = .returned v ∧ HR ρ' (srtUO σ ks).2.2 W' ∧ Stp σ.next ρ σ W ρ' (srtUO σ ks).2.2 W' ∧ VR ρ' (srtUO σ ks).2.1 v := by
  unfold srtUO at h ⊢
  have hso := sortI_perm ks
  cases hS : sortI ks with
  | nil =>
    rw [hS] at hso
    have hks : ks = [] := by simpa using hso.symm.length_eq
    subst hks
    obtain ⟨D, h1, h2, h3⟩ := own_ofU hM hk List.nodup_nil rfl (by simp)
    have hempty : ∀ ss, KeysU D ss → ss = [] := fun ss hss => by
      cases ss with
      | nil => rfl
      | cons x t => have := (h2 x).1 ((hss.2 x).1 (List.mem_cons_self ..)); cases this
    refine (hC D h1 (by rw [h3]; simp) (fun ss hss => by rw [hempty ss hss]; simp)).mono ?_
    rintro e W' ⟨v, ss, rfl, g1, g2, g3, g4⟩
    refine ⟨v, ρ, rfl, hr.below g4, .below (Nat.le_refl _) g4, ?_⟩
    unfold VR
    exact g3.2 (hempty ss g1)
  | cons x t =>
    rw [hS] at h
    simp only [Bool.and_eq_true, Nat.ble_eq, Nat.blt_eq] at h
    obtain ⟨⟨⟨h1, h2⟩, h3⟩, h4⟩ := h
    rw [← hS] at h1
    have hnd : ks.Nodup := hso.nodup_iff.1 ((risI_lt h1).imp fun {a b} hab e => by omega)
    obtain ⟨D, j1, j2, j3⟩ := own_ofU hM hk hnd h2 (by omega)
    have hperm : ∀ ss, KeysU D ss → ss.Perm ks := fun ss hss => (List.perm_ext_iff_of_nodup hss.1 hnd).2 fun y => (hss.2 y).trans (j2 y)
    refine (hC D j1 (by rw [j3]; exact h3) (fun ss hss => by rw [(hperm ss hss).length_eq]; exact h3)).mono ?_
    rintro e W' ⟨v, ss, rfl, g1, g2, g3, g4⟩
    have e1 : srtL ss = x :: t := by rw [← hS]; exact srtL_of ((hperm ss g1).trans hso.symm) h1
    have e2 : ss.length = (x :: t).length := by rw [← hS, hso.length_eq, (hperm ss g1).length_eq]
    rw [e1, e2] at g2
    obtain ⟨ρ', k1, k2, k3⟩ := adoptU hr g4 h4 (by simp) g2
    exact ⟨v, ρ', rfl, k1, k2, k3⟩
theorem suF_ok {Y : List Yl} {g : FuncId → List AV → AH → Out} (hg : FnOk Tryz.prog 5 g Y) : FnOk Tryz.prog 5 (suF g) Y := by
  intro f args σ h
  unfold suF at h ⊢
  cases hf : Nat.beq f 144
  case false => rw [hf] at h; rw [cond_false] at h ⊢; exact hg f args σ h
  rw [hf] at h
  simp only [cond_true] at h ⊢
  have e := Nat.eq_of_beq_eq_true hf
  subst e
  refine ⟨⟨_, Tryz.func144, by kernel_rfl, by kernel_rfl⟩, fun ρ W vs _ hG hr hvs => ?_⟩
  unfold suA at h ⊢
  split at h
  case h_2 => cases h
  rename_i q b o
  cases hq : Nat.beq q 164 <;> rw [hq] at h
  · cases h
  rw [cond_true] at h ⊢
  split at h
  case h_2 => cases h
  rename_i m hm
  obtain ⟨ob, hob, hat⟩ := Option.bind_eq_some_iff.1 hm
  obtain ⟨v, mm, rfl, hv, hmm⟩ := hvs
  have hmm : mm = [] := hmm
  subst hmm
  unfold VR at hv
  obtain ⟨us, ys, rfl, hus, hys⟩ := hv
  have hus : us = [] := hus
  subst hus
  obtain ⟨y, yy, rfl, hy, hyy⟩ := hys
  have hyy : yy = [] := hyy
  subst hyy
  unfold VR at hy
  obtain ⟨c, d, hc, rfl⟩ := hy
  obtain ⟨_, hcl, ob', ho', hO⟩ := hr.dom b c d hc
  rw [hob] at ho'
  cases ho'
  have hcy : ob.cellsy = true := by cases ob <;> first | rfl | (exact absurd hat (by simp [AObj.at]))
  have hpos : 0 < ob.len := by
    cases ob <;> simp only [AObj.at] at hat
    · cases hat
    · exact Nat.lt_of_le_of_lt (Nat.zero_le _) (List.getElem?_eq_some_iff.1 hat).1
    · obtain ⟨_, h5, _⟩ := Option.map_eq_some_iff.1 hat; exact Nat.lt_of_le_of_lt (Nat.zero_le _) (List.getElem?_eq_some_iff.1 h5).1
    · cases hat
    · cases hat
  obtain ⟨cs, el, fr, hx, _, _, _, hall⟩ := (hO.1 hcy).2 fun _ => hpos
  obtain ⟨u, hu, huv⟩ := hall o _ hat
  unfold VR at huv
  obtain ⟨c2, d2, hc2, rfl⟩ := huv
  have hcell : W.cell? ⟨c, o + d.1, none⟩ = some (.map (some c2)) := by simp [World.cell?, hx, hu]
  obtain ⟨_, _, ob2, ho2, hO2⟩ := hr.dom m c2 d2 hc2
  unfold srtUM at h ⊢
  split at h
  case h_2 => cases h
  rename_i l hl
  rw [hl] at ho2
  cases ho2
  cases hk : keysI l <;> simp only [hk] at h ⊢
  · cases h
  rename_i ks
  have e := Nat.eq_of_beq_eq_true hq
  subst e
  exact srtUO_ok hr (hO2.2 l rfl) hk h fun D0 h1 h2 h3 => sortedU c (o + d.1) c2 ks.length D0 W hcl hcell h1 h2 h3
noncomputable section
def kFn (f : Fn → List FV → List FV → FR) (v : FV) : FR := FV.rec (motive_1 := fun _ => FR) (motive_2 := fun _ => FR) (fun _ _ => .bad) (fun _ _ => .bad) (fun _ => .bad) (fun _ => .bad) (fun _ _ => .bad) (fun _ _ _ _ _ _ => .bad) (fun _ => .bad) (fun _ => .bad) (fun g a b _ _ => f g a b) (fun _ _ _ => .bad) (fun _ _ => .bad) (fun _ => .bad) (fun _ _ => .bad) (fun _ _ => .bad) (fun _ => .bad) .bad (fun _ _ _ _ => .bad) v
theorem kFn_cases {f : Fn → List FV → List FV → FR} {v : FV} (h : kFn f v ≠ .bad) : ∃ g a b, v = .fn g a b ∧ kFn f v = f g a b := by
  cases v <;> first | exact ⟨_, _, _, rfl, rfl⟩ | exact absurd rfl h
def kFu (f : Nat → FR) (g : Fn) : FR := Fn.rec (motive := fun _ => FR) f (fun _ => .bad) (fun _ _ => .bad) (fun _ _ _ _ => .bad) (fun _ => .bad) g
theorem kFu_cases {f : Nat → FR} {g : Fn} (h : kFu f g ≠ .bad) : ∃ n, g = .func n ∧ kFu f g = f n := by
  cases g <;> first | exact ⟨_, rfl, rfl⟩ | exact absurd rfl h
def kNi (l : List FV) (s : FR) : FR := List.rec (motive := fun _ => FR) s (fun _ _ _ => .bad) l
theorem kNi_cases {l : List FV} {s : FR} (h : kNi l s ≠ .bad) : l = [] ∧ kNi l s = s := by
  cases l
  · exact ⟨rfl, rfl⟩
  · exact absurd rfl h
def kCe (f : List FV → FR) (ob : FObj) : FR := FObj.rec (motive := fun _ => FR) .bad (fun l _ _ => f l) (fun _ _ _ => .bad) (fun _ _ _ _ => .bad) (fun _ => .bad) .bad ob
theorem kCe_cases {f : List FV → FR} {ob : FObj} (h : kCe f ob ≠ .bad) : ∃ l e t, ob = .cells l e t ∧ kCe f ob = f l := by
  cases ob <;> first | exact ⟨_, _, _, rfl, rfl⟩ | exact absurd rfl h
def kiK (l : List (FV × FV)) (k : List Int → FR) : FR := List.rec (motive := fun _ => (List Int → FR) → FR) (fun k => k []) (fun p _ ih k => Prod.rec (fun x _ => kNn (fun q m => gK .u32 q (ih fun r => k (Int.ofNat m :: r))) x) p) l k
theorem kiK_cases : ∀ {l : List (FV × FV)} {k : List Int → FR}, kiK l k ≠ .bad → ∃ ks, keysI (αP l) = some ks ∧ kiK l k = k ks
  | [], _, _ => ⟨[], rfl, rfl⟩
  | (x, y) :: l, k, h => by
    have h : kNn (fun q m => gK .u32 q (kiK l fun r => k (Int.ofNat m :: r))) x ≠ .bad := h
    show ∃ ks, _ ∧ kNn (fun q m => gK .u32 q (kiK l fun r => k (Int.ofNat m :: r))) x = k ks
    obtain ⟨q, m, rfl, h1⟩ := kNn_cases h
    rw [h1] at h ⊢
    obtain ⟨rfl, h2⟩ := gK_cases h
    rw [h2] at h ⊢
    obtain ⟨ks, h3, h4⟩ := kiK_cases h
    refine ⟨Int.ofNat m :: ks, ?_, h4⟩
    simp only [αP, keysI, αV, h3]
def srtUQ (ks : List Int) (σ : FH) (k : KV) : FR := gB (inU ks && Nat.ble ks.length 12) (List.rec (motive := fun _ => FR) (k (.o .sl) σ) (fun _ _ _ => gB (risI (sortI ks)) (fN (sortI ks).length fun n => fO (.ints .u32 (sortI ks) 23 .more) fun ob => nM σ ob fun b σ => k (.sl b 0 n n false 1) σ)) (sortI ks))
theorem srtUQ_sm (ks : List Int) (σ : FH) (k : KV) : Sm (srtUQ ks σ k) k (srtUO (αH σ) ks) := by
  intro h
  unfold srtUQ srtUO at *
  rw [gB_eq] at h ⊢
  cases hb : inU ks && Nat.ble ks.length 12 <;> rw [hb] at h
  · exact absurd rfl h
  rw [cond_true] at h ⊢
  rw [Bool.and_eq_true] at hb
  cases hS : sortI ks with
  | nil =>
    exact ⟨.o .sl, σ, rfl, rfl⟩
  | cons x t =>
    rw [hS] at h
    have h : gB (risI (x :: t)) (fN (x :: t).length fun n => fO (.ints .u32 (x :: t) 23 .more) fun ob => nM σ ob fun b σ => k (.sl b 0 n n false 1) σ) ≠ .bad := h
    show ∃ v σ', _ ∧ gB (risI (x :: t)) (fN (x :: t).length fun n => fO (.ints .u32 (x :: t) 23 .more) fun ob => nM σ ob fun b σ => k (.sl b 0 n n false 1) σ) = k v σ'
    rw [gB_eq] at h ⊢
    cases hr : risI (x :: t) <;> rw [hr] at h
    · exact absurd rfl h
    rw [cond_true] at h ⊢
    rw [fN_eq, fO_eq] at h ⊢
    obtain ⟨g5, σ', g6, g7⟩ := nM_cases h
    refine ⟨.sl σ.next 0 (x :: t).length (x :: t).length false 1, σ', ?_, g7⟩
    simp only [hb.1, hb.2, g5, hr, Bool.and_self]
    rw [g6]
    rfl
def suQ (l : List FV) (σ : FH) (k : KV) : FR := k1L l (kFn fun g a c => kFu (fun q => gB (Nat.beq q 164) (kNi a (k1L c (kP fun b o => gM σ b (kCe fun l => nthK l o (kM fun m => gM σ m (kMp fun l => kiK l fun ks => srtUQ ks σ k))))))) g)
theorem suQ_sm (l : List FV) (σ : FH) (k : KV) : Sm (suQ l σ k) k (suA (αL l) (αH σ)) := by
  intro h
  unfold suQ at h ⊢
  obtain ⟨x, rfl, h1⟩ := k1L_cases h
  rw [h1] at h ⊢
  obtain ⟨g, a, c, rfl, h2⟩ := kFn_cases h
  rw [h2] at h ⊢
  obtain ⟨q, rfl, h3⟩ := kFu_cases h
  rw [h3] at h ⊢
  rw [gB_eq] at h ⊢
  cases hq : Nat.beq q 164 <;> rw [hq] at h
  · exact absurd rfl h
  rw [cond_true] at h ⊢
  obtain ⟨rfl, h4⟩ := kNi_cases h
  rw [h4] at h ⊢
  obtain ⟨y, rfl, h5⟩ := k1L_cases h
  rw [h5] at h ⊢
  obtain ⟨b, o, rfl, h6⟩ := kP_cases h
  rw [h6] at h ⊢
  obtain ⟨ob, _, h7, h8⟩ := gM_cases h
  rw [h8] at h ⊢
  obtain ⟨l, e, t, rfl, h9⟩ := kCe_cases h
  rw [h9] at h ⊢
  rw [nthK_eq] at h ⊢
  cases hl : l[o]? <;> rw [hl] at h
  · exact absurd rfl h
  rename_i v
  have h : kM (fun m => gM σ m (kMp fun l => kiK l fun ks => srtUQ ks σ k)) v ≠ .bad := h
  show ∃ w σ', _ ∧ kM (fun m => gM σ m (kMp fun l => kiK l fun ks => srtUQ ks σ k)) v = k w σ'
  obtain ⟨m, rfl, h10⟩ := kM_cases h
  rw [h10] at h ⊢
  obtain ⟨ob2, _, h11, h12⟩ := gM_cases h
  rw [h12] at h ⊢
  obtain ⟨l2, rfl, h13⟩ := kMp_cases h
  rw [h13] at h ⊢
  obtain ⟨ks, h14, h15⟩ := kiK_cases h
  rw [h15] at h ⊢
  obtain ⟨v, σ', h16, h17⟩ := srtUQ_sm ks σ k h
  refine ⟨v, σ', ?_, h17⟩
  rw [← h16]
  simp only [αL, αV, suA, hq, h7, Option.bind_some, αO, AObj.at, αL_map, List.getElem?_map, hl, Option.map_some, cond_true, srtUM, h11, h14]
end
end Go.Proofs.YtcbfjmjphpoimaaGreatDoor.V2
namespace Go.Proofs.YtcbfjmjphpoimaaGreatDoor.V2
open Go
set_option linter.unusedVariables false
noncomputable def qeZ : List Qe := [⟨4, eZ Tryz.f4, q4⟩, ⟨5, eZ Tryz.f5, q5⟩, ⟨7, eZ Tryz.f7, q7⟩, ⟨8, eZ Tryz.f8, q8⟩, ⟨9, eZ Tryz.f9, q9⟩, ⟨10, eZ Tryz.f10, q10⟩, ⟨11, eZ Tryz.f11, q11⟩, ⟨12, eZ Tryz.f12, q12⟩, ⟨13, eZ Tryz.f13, q13⟩, ⟨14, eZ Tryz.f14, q14⟩, ⟨15, eZ Tryz.f15, q15⟩, ⟨16, eZ Tryz.f16, q16⟩, ⟨17, eZ Tryz.f17, q17⟩, ⟨18, eZ Tryz.f18, q18⟩, ⟨19, eZ Tryz.f19, q19⟩, ⟨20, eZ Tryz.f20, q20⟩, ⟨21, eZ Tryz.f21, q21⟩, ⟨22, eZ Tryz.f22, q22⟩, ⟨23, eZ Tryz.f23, q23⟩, ⟨24, eZ Tryz.f24, q24⟩, ⟨25, eZ Tryz.f25, q25⟩, ⟨26, eZ Tryz.f26, q26⟩, ⟨27, eZ Tryz.f27, q27⟩, ⟨28, eZ Tryz.f28, q28⟩, ⟨29, eZ Tryz.f29, q29⟩, ⟨30, eZ Tryz.f30, q30⟩, ⟨31, eZ Tryz.f31, q31⟩, ⟨32, eZ Tryz.f32, q32⟩, ⟨33, eZ Tryz.f33, q33⟩, ⟨35, eZ Tryz.f35, q35⟩, ⟨36, eZ Tryz.f36, q36⟩, ⟨37, eZ Tryz.f37, q37⟩, ⟨38, eZ Tryz.f38, q38⟩, ⟨39, eZ Tryz.f39, q39⟩, ⟨40, eZ Tryz.f40, q40⟩, ⟨41, eZ Tryz.f41, q41⟩, ⟨42, eZ Tryz.f42, q42⟩, ⟨43, eZ Tryz.f43, q43⟩, ⟨44, eZ Tryz.f44, q44⟩, ⟨45, eZ Tryz.f45, q45⟩, ⟨46, eZ Tryz.f46, q46⟩, ⟨47, eZ Tryz.f47, q47⟩, ⟨48, eZ Tryz.f48, q48⟩, ⟨49, eZ Tryz.f49, q49⟩, ⟨50, eZ Tryz.f50, q50⟩, ⟨51, eZ Tryz.f51, q51⟩, ⟨52, eZ Tryz.f52, q52⟩, ⟨53, eZ Tryz.f53, q53⟩, ⟨54, eZ Tryz.f54, q54⟩, ⟨55, eZ Tryz.f55, q55⟩, ⟨56, eZ Tryz.f56, q56⟩, ⟨57, eZ Tryz.f57, q57⟩, ⟨58, eZ Tryz.f58, q58⟩, ⟨59, eZ Tryz.f59, q59⟩, ⟨60, eZ Tryz.f60, q60⟩, ⟨61, eZ Tryz.f61, q61⟩, ⟨62, eZ Tryz.f62, q62⟩, ⟨63, eZ Tryz.f63, q63⟩, ⟨64, eZ Tryz.f64, q64⟩, ⟨65, eZ Tryz.f65, q65⟩, ⟨66, eZ Tryz.f66, q66⟩, ⟨67, eZ Tryz.f67, q67⟩, ⟨68, eZ Tryz.f68, q68⟩, ⟨69, eZ Tryz.f69, q69⟩, ⟨70, eZ Tryz.f70, q70⟩, ⟨71, eZ Tryz.f71, q71⟩, ⟨72, eZ Tryz.f72, q72⟩, ⟨73, eZ Tryz.f73, q73⟩, ⟨74, eZ Tryz.f74, q74⟩, ⟨75, eZ Tryz.f75, q75⟩, ⟨76, eZ Tryz.f76, q76⟩, ⟨77, eZ Tryz.f77, q77⟩, ⟨78, eZ Tryz.f78, q78⟩, ⟨79, eZ Tryz.f79, q79⟩, ⟨81, eZ Tryz.f81, q81⟩, ⟨82, eZ Tryz.f82, q82⟩, ⟨83, eZ Tryz.f83, q83⟩, ⟨84, eZ Tryz.f84, q84⟩, ⟨85, eZ Tryz.f85, q85⟩, ⟨86, eZ Tryz.f86, q86⟩, ⟨87, eZ Tryz.f87, q87⟩, ⟨88, eZ Tryz.f88, q88⟩, ⟨89, eZ Tryz.f89, q89⟩, ⟨90, eZ Tryz.f90, q90⟩, ⟨92, eZ Tryz.f92, q92⟩, ⟨93, eZ Tryz.f93, q93⟩, ⟨94, eZ Tryz.f94, q94⟩, ⟨95, eZ Tryz.f95, q95⟩, ⟨96, eZ Tryz.f96, q96⟩, ⟨97, eZ Tryz.f97, q97⟩, ⟨98, eZ Tryz.f98, q98⟩, ⟨99, eZ Tryz.f99, q99⟩, ⟨100, eZ Tryz.f100, q100⟩, ⟨101, eZ Tryz.f101, q101⟩, ⟨102, eZ Tryz.f102, q102⟩, ⟨103, eZ Tryz.f103, q103⟩, ⟨104, eZ Tryz.f104, q104⟩, ⟨105, eZ Tryz.f105, q105⟩, ⟨106, eZ Tryz.f106, q106⟩, ⟨107, eZ Tryz.f107, q107⟩, ⟨108, eZ Tryz.f108, q108⟩, ⟨109, eZ Tryz.f109, q109⟩, ⟨110, eZ Tryz.f110, q110⟩, ⟨111, eZ Tryz.f111, q111⟩, ⟨112, eZ Tryz.f112, q112⟩, ⟨113, eZ Tryz.f113, q113⟩, ⟨114, eZ Tryz.f114, q114⟩, ⟨115, eZ Tryz.f115, q115⟩, ⟨116, eZ Tryz.f116, q116⟩, ⟨117, eZ Tryz.f117, q117⟩, ⟨118, eZ Tryz.f118, q118⟩, ⟨119, eZ Tryz.f119, q119⟩, ⟨120, eZ Tryz.f120, q120⟩, ⟨122, eZ Tryz.f122, q122⟩, ⟨123, eZ Tryz.f123, q123⟩, ⟨124, eZ Tryz.f124, q124⟩, ⟨125, eZ Tryz.f125, q125⟩, ⟨126, eZ Tryz.f126, q126⟩, ⟨127, eZ Tryz.f127, q127⟩, ⟨128, eZ Tryz.f128, q128⟩, ⟨129, eZ Tryz.f129, q129⟩, ⟨131, eZ Tryz.f131, q131⟩, ⟨133, eZ Tryz.f133, q133⟩, ⟨134, eZ Tryz.f134, q134⟩, ⟨135, eZ Tryz.f135, q135⟩, ⟨136, eZ Tryz.f136, q136⟩, ⟨137, eZ Tryz.f137, q137⟩, ⟨138, eZ Tryz.f138, q138⟩, ⟨139, eZ Tryz.f139, q139⟩, ⟨141, eZ Tryz.f141, q141⟩, ⟨143, eZ Tryz.f143, q143⟩, ⟨145, eZ Tryz.f145, q145⟩, ⟨146, eZ Tryz.f146, q146⟩, ⟨147, eZ Tryz.f147, q147⟩, ⟨148, eZ Tryz.f148, q148⟩, ⟨150, eZ Tryz.f150, q150⟩, ⟨151, eZ Tryz.f151, q151⟩, ⟨152, eZ Tryz.f152, q152⟩, ⟨153, eZ Tryz.f153, q153⟩, ⟨154, eZ Tryz.f154, q154⟩, ⟨155, eZ Tryz.f155, q155⟩, ⟨156, eZ Tryz.f156, q156⟩, ⟨157, eZ Tryz.f157, q157⟩, ⟨158, eZ Tryz.f158, q158⟩, ⟨159, eZ Tryz.f159, q159⟩, ⟨161, eZ Tryz.f161, q161⟩, ⟨165, eZ Tryz.f165, q165⟩, ⟨166, eZ Tryz.f166, q166⟩, ⟨171, eZ Tryz.f171, q171⟩, ⟨172, eZ Tryz.f172, q172⟩, ⟨173, eZ Tryz.f173, q173⟩, ⟨174, eZ Tryz.f174, q174⟩, ⟨175, eZ Tryz.f175, q175⟩, ⟨176, eZ Tryz.f176, q176⟩, ⟨177, eZ Tryz.f177, q177⟩, ⟨178, eZ Tryz.f178, q178⟩, ⟨179, eZ Tryz.f179, q179⟩, ⟨180, eZ Tryz.f180, q180⟩, ⟨188, eZ Tryz.f188, q188⟩, ⟨189, eZ Tryz.f189, q189⟩, ⟨190, eZ Tryz.f190, q190⟩, ⟨191, eZ Tryz.f191, q191⟩, ⟨250, eZ Tryz.f250, q250⟩, ⟨251, eZ Tryz.f251, q251⟩]
theorem qeZ_ok : ∀ p ∈ qeZ, QeOk p := by
  unfold qeZ
  exact List.forall_mem_cons.2 ⟨k4, List.forall_mem_cons.2 ⟨k5, List.forall_mem_cons.2 ⟨k7, List.forall_mem_cons.2 ⟨k8, List.forall_mem_cons.2 ⟨k9, List.forall_mem_cons.2 ⟨k10, List.forall_mem_cons.2 ⟨k11, List.forall_mem_cons.2 ⟨k12, List.forall_mem_cons.2 ⟨k13, List.forall_mem_cons.2 ⟨k14, List.forall_mem_cons.2 ⟨k15, List.forall_mem_cons.2 ⟨k16, List.forall_mem_cons.2 ⟨k17, List.forall_mem_cons.2 ⟨k18, List.forall_mem_cons.2 ⟨k19, List.forall_mem_cons.2 ⟨k20, List.forall_mem_cons.2 ⟨k21, List.forall_mem_cons.2 ⟨k22, List.forall_mem_cons.2 ⟨k23, List.forall_mem_cons.2 ⟨k24, List.forall_mem_cons.2 ⟨k25, List.forall_mem_cons.2 ⟨k26, List.forall_mem_cons.2 ⟨k27, List.forall_mem_cons.2 ⟨k28, List.forall_mem_cons.2 ⟨k29, List.forall_mem_cons.2 ⟨k30, List.forall_mem_cons.2 ⟨k31, List.forall_mem_cons.2 ⟨k32, List.forall_mem_cons.2 ⟨k33, List.forall_mem_cons.2 ⟨k35, List.forall_mem_cons.2 ⟨k36, List.forall_mem_cons.2 ⟨k37, List.forall_mem_cons.2 ⟨k38, List.forall_mem_cons.2 ⟨k39, List.forall_mem_cons.2 ⟨k40, List.forall_mem_cons.2 ⟨k41, List.forall_mem_cons.2 ⟨k42, List.forall_mem_cons.2 ⟨k43, List.forall_mem_cons.2 ⟨k44, List.forall_mem_cons.2 ⟨k45, List.forall_mem_cons.2 ⟨k46, List.forall_mem_cons.2 ⟨k47, List.forall_mem_cons.2 ⟨k48, List.forall_mem_cons.2 ⟨k49, List.forall_mem_cons.2 ⟨k50, List.forall_mem_cons.2 ⟨k51, List.forall_mem_cons.2 ⟨k52, List.forall_mem_cons.2 ⟨k53, List.forall_mem_cons.2 ⟨k54, List.forall_mem_cons.2 ⟨k55, List.forall_mem_cons.2 ⟨k56, List.forall_mem_cons.2 ⟨k57, List.forall_mem_cons.2 ⟨k58, List.forall_mem_cons.2 ⟨k59, List.forall_mem_cons.2 ⟨k60, List.forall_mem_cons.2 ⟨k61, List.forall_mem_cons.2 ⟨k62, List.forall_mem_cons.2 ⟨k63, List.forall_mem_cons.2 ⟨k64, List.forall_mem_cons.2 ⟨k65, List.forall_mem_cons.2 ⟨k66, List.forall_mem_cons.2 ⟨k67, List.forall_mem_cons.2 ⟨k68, List.forall_mem_cons.2 ⟨k69, List.forall_mem_cons.2 ⟨k70, List.forall_mem_cons.2 ⟨k71, List.forall_mem_cons.2 ⟨k72, List.forall_mem_cons.2 ⟨k73, List.forall_mem_cons.2 ⟨k74, List.forall_mem_cons.2 ⟨k75, List.forall_mem_cons.2 ⟨k76, List.forall_mem_cons.2 ⟨k77, List.forall_mem_cons.2 ⟨k78, List.forall_mem_cons.2 ⟨k79, List.forall_mem_cons.2 ⟨k81, List.forall_mem_cons.2 ⟨k82, List.forall_mem_cons.2 ⟨k83, List.forall_mem_cons.2 ⟨k84, List.forall_mem_cons.2 ⟨k85, List.forall_mem_cons.2 ⟨k86, List.forall_mem_cons.2 ⟨k87, List.forall_mem_cons.2 ⟨k88, List.forall_mem_cons.2 ⟨k89, List.forall_mem_cons.2 ⟨k90, List.forall_mem_cons.2 ⟨k92, List.forall_mem_cons.2 ⟨k93, List.forall_mem_cons.2 ⟨k94, List.forall_mem_cons.2 ⟨k95, List.forall_mem_cons.2 ⟨k96, List.forall_mem_cons.2 ⟨k97, List.forall_mem_cons.2 ⟨k98, List.forall_mem_cons.2 ⟨k99, List.forall_mem_cons.2 ⟨k100, List.forall_mem_cons.2 ⟨k101, List.forall_mem_cons.2 ⟨k102, List.forall_mem_cons.2 ⟨k103, List.forall_mem_cons.2 ⟨k104, List.forall_mem_cons.2 ⟨k105, List.forall_mem_cons.2 ⟨k106, List.forall_mem_cons.2 ⟨k107, List.forall_mem_cons.2 ⟨k108, List.forall_mem_cons.2 ⟨k109, List.forall_mem_cons.2 ⟨k110, List.forall_mem_cons.2 ⟨k111, List.forall_mem_cons.2 ⟨k112, List.forall_mem_cons.2 ⟨k113, List.forall_mem_cons.2 ⟨k114, List.forall_mem_cons.2 ⟨k115, List.forall_mem_cons.2 ⟨k116, List.forall_mem_cons.2 ⟨k117, List.forall_mem_cons.2 ⟨k118, List.forall_mem_cons.2 ⟨k119, List.forall_mem_cons.2 ⟨k120, List.forall_mem_cons.2 ⟨k122, List.forall_mem_cons.2 ⟨k123, List.forall_mem_cons.2 ⟨k124, List.forall_mem_cons.2 ⟨k125, List.forall_mem_cons.2 ⟨k126, List.forall_mem_cons.2 ⟨k127, List.forall_mem_cons.2 ⟨k128, List.forall_mem_cons.2 ⟨k129, List.forall_mem_cons.2 ⟨k131, List.forall_mem_cons.2 ⟨k133, List.forall_mem_cons.2 ⟨k134, List.forall_mem_cons.2 ⟨k135, List.forall_mem_cons.2 ⟨k136, List.forall_mem_cons.2 ⟨k137, List.forall_mem_cons.2 ⟨k138, List.forall_mem_cons.2 ⟨k139, List.forall_mem_cons.2 ⟨k141, List.forall_mem_cons.2 ⟨k143, List.forall_mem_cons.2 ⟨k145, List.forall_mem_cons.2 ⟨k146, List.forall_mem_cons.2 ⟨k147, List.forall_mem_cons.2 ⟨k148, List.forall_mem_cons.2 ⟨k150, List.forall_mem_cons.2 ⟨k151, List.forall_mem_cons.2 ⟨k152, List.forall_mem_cons.2 ⟨k153, List.forall_mem_cons.2 ⟨k154, List.forall_mem_cons.2 ⟨k155, List.forall_mem_cons.2 ⟨k156, List.forall_mem_cons.2 ⟨k157, List.forall_mem_cons.2 ⟨k158, List.forall_mem_cons.2 ⟨k159, List.forall_mem_cons.2 ⟨k161, List.forall_mem_cons.2 ⟨k165, List.forall_mem_cons.2 ⟨k166, List.forall_mem_cons.2 ⟨k171, List.forall_mem_cons.2 ⟨k172, List.forall_mem_cons.2 ⟨k173, List.forall_mem_cons.2 ⟨k174, List.forall_mem_cons.2 ⟨k175, List.forall_mem_cons.2 ⟨k176, List.forall_mem_cons.2 ⟨k177, List.forall_mem_cons.2 ⟨k178, List.forall_mem_cons.2 ⟨k179, List.forall_mem_cons.2 ⟨k180, List.forall_mem_cons.2 ⟨k188, List.forall_mem_cons.2 ⟨k189, List.forall_mem_cons.2 ⟨k190, List.forall_mem_cons.2 ⟨k191, List.forall_mem_cons.2 ⟨k250, List.forall_mem_cons.2 ⟨k251, fun p hp => absurd hp List.not_mem_nil⟩⟩⟩⟩⟩⟩⟩⟩⟩⟩⟩⟩⟩⟩⟩⟩⟩⟩⟩⟩⟩⟩⟩⟩⟩⟩⟩⟩⟩⟩⟩⟩⟩⟩⟩⟩⟩⟩⟩⟩⟩⟩⟩⟩⟩⟩⟩⟩⟩⟩⟩⟩⟩⟩⟩⟩⟩⟩⟩⟩⟩⟩⟩⟩⟩⟩⟩⟩⟩⟩⟩⟩⟩⟩⟩⟩⟩⟩⟩⟩⟩⟩⟩⟩⟩⟩⟩⟩⟩⟩⟩⟩⟩⟩⟩⟩⟩⟩⟩⟩⟩⟩⟩⟩⟩⟩⟩⟩⟩⟩⟩⟩⟩⟩⟩⟩⟩⟩⟩⟩⟩⟩⟩⟩⟩⟩⟩⟩⟩⟩⟩⟩⟩⟩⟩⟩⟩⟩⟩⟩⟩⟩⟩⟩⟩⟩⟩⟩⟩⟩⟩⟩⟩⟩⟩⟩⟩⟩⟩⟩⟩⟩⟩⟩
noncomputable def tEZ : T Ent := tabE qeZ
noncomputable def tQZ : T (Phi → HF) := tabP qeZ
theorem tQZ_ok : TabQ 1000000 tEZ tQZ := ⟨fun f => (tabE_get qeZ_ok f).2, fun f x hx => by
  obtain ⟨q, h1, h2, _⟩ := (tabE_get qeZ_ok f).1 x hx
  exact ⟨q, h1, h2⟩⟩
theorem tEZ_ok : TabOk Tryz.prog 5 (fun _ => false) tEZ := fun f x h => by
  obtain ⟨_, _, _, h3⟩ := (tabE_get qeZ_ok f).1 x h
  exact h3
noncomputable def gQZ : FuncId → List AV → AH → Out := slF (suF (crF (mcF (hmF noF))))
theorem gQZ_ok : FnOk Tryz.prog 5 gQZ [] := slF_ok (suF_ok (crF_ok (mcF_ok (hmF_ok noF_ok))))
theorem gamZ_ok : GamOk Tryz.prog 5 (Gam.grow std 1000000 tEZ Sp.none (.of gQZ) 40) [] := (grow_ok mixed tEZ_ok Sp.none_ok (fun f h => by cases h) 40 (.of gQZ_ok) hpu0').1
noncomputable def bQZ : FuncId → HF := fun f l σ k => Bool.rec (Bool.rec (Bool.rec (Bool.rec (Bool.rec .bad (hmQ l σ k) (Nat.beq f 149)) (cmQ l σ k) (Nat.beq f 140 || Nat.beq f 142)) (crQ l σ k) (Nat.beq f 80)) (suQ l σ k) (Nat.beq f 144)) (slM (Γm.fn f (αL l) (αH σ)) k) (Nat.beq f 130)
theorem gQZ_at (f : FuncId) (l : List FV) (σ : FH) : gQZ f (αL l) (αH σ) = bif Nat.beq f 130 then Γm.fn f (αL l) (αH σ) else bif Nat.beq f 144 then suA (αL l) (αH σ) else bif Nat.beq f 80 then crA (αL l) (αH σ) else bif Nat.beq f 140 || Nat.beq f 142 then cmA (αL l) (αH σ) else bif Nat.beq f 149 then hmA (αL l) (αH σ) else bad (αH σ) := by
  unfold gQZ slF suF crF mcF hmF noF
  rfl
theorem bQZ_ok (f : FuncId) : HOk (bQZ f) ((Gam.of gQZ).fn f) := fun l σ k => by
  show Sm (Bool.rec (Bool.rec (Bool.rec (Bool.rec (Bool.rec .bad (hmQ l σ k) (Nat.beq f 149)) (cmQ l σ k) (Nat.beq f 140 || Nat.beq f 142)) (crQ l σ k) (Nat.beq f 80)) (suQ l σ k) (Nat.beq f 144)) (slM (Γm.fn f (αL l) (αH σ)) k) (Nat.beq f 130)) k (gQZ f (αL l) (αH σ))
  rw [gQZ_at]
  cases Nat.beq f 130 with
  | true => exact slM_sm _ _
  | false =>
  cases Nat.beq f 144 with
  | true => exact suQ_sm l σ k
  | false =>
  cases Nat.beq f 80 with
  | true => exact crQ_sm l σ k
  | false =>
  cases Nat.beq f 140 || Nat.beq f 142 with
  | true => exact cmQ_sm l σ k
  | false =>
  cases Nat.beq f 149 with
  | true => exact hmQ_sm l σ k
  | false =>
  exact Sm.bad
end Go.Proofs.YtcbfjmjphpoimaaGreatDoor.V2
namespace Go.Proofs.YtcbfjmjphpoimaaGreatDoor.V2
open Go
set_option linter.unusedVariables false
open Go.RowKit
def gb0 : FObj := .cells [.o .fn, .fn (.func 250) [] [], .fn (.func 250) [] [], .fn (.func 251) [] [], .fn (.func 252) [] [], .fn (.func 250) [] []] 274 .ro
def gb1 : FObj := .ints .i64 [Int.ofNat 0, Int.ofNat 0, Int.ofNat 1, Int.ofNat 1, Int.ofNat 1] 172 .ro
def gb2 : FObj := .ints .u32 [Int.ofNat 0, Int.ofNat 498536548, Int.ofNat 997073096, Int.ofNat 651767980, Int.ofNat 1994146192, Int.ofNat 1802195444, Int.ofNat 1303535960, Int.ofNat 1342533948, Int.ofNat 3988292384, Int.ofNat 4027552580, Int.ofNat 3604390888, Int.ofNat 3412177804, Int.ofNat 2607071920, Int.ofNat 2262029012, Int.ofNat 2685067896, Int.ofNat 3183342108] 306 .ro
def gb3 : FObj := .ints .u32 [Int.ofNat 1779033703, Int.ofNat 3144134277, Int.ofNat 1013904242, Int.ofNat 2773480762, Int.ofNat 1359893119, Int.ofNat 2600822924, Int.ofNat 528734635, Int.ofNat 1541459225] 341 .ro
def gb4 : FObj := .ints .u32 [Int.ofNat 1116352408, Int.ofNat 1899447441, Int.ofNat 3049323471, Int.ofNat 3921009573, Int.ofNat 961987163, Int.ofNat 1508970993, Int.ofNat 2453635748, Int.ofNat 2870763221, Int.ofNat 3624381080, Int.ofNat 310598401, Int.ofNat 607225278, Int.ofNat 1426881987, Int.ofNat 1925078388, Int.ofNat 2162078206, Int.ofNat 2614888103, Int.ofNat 3248222580, Int.ofNat 3835390401, Int.ofNat 4022224774, Int.ofNat 264347078, Int.ofNat 604807628, Int.ofNat 770255983, Int.ofNat 1249150122, Int.ofNat 1555081692, Int.ofNat 1996064986, Int.ofNat 2554220882, Int.ofNat 2821834349, Int.ofNat 2952996808, Int.ofNat 3210313671, Int.ofNat 3336571891, Int.ofNat 3584528711, Int.ofNat 113926993, Int.ofNat 338241895, Int.ofNat 666307205, Int.ofNat 773529912, Int.ofNat 1294757372, Int.ofNat 1396182291, Int.ofNat 1695183700, Int.ofNat 1986661051, Int.ofNat 2177026350, Int.ofNat 2456956037, Int.ofNat 2730485921, Int.ofNat 2820302411, Int.ofNat 3259730800, Int.ofNat 3345764771, Int.ofNat 3516065817, Int.ofNat 3600352804, Int.ofNat 4094571909, Int.ofNat 275423344, Int.ofNat 430227734, Int.ofNat 506948616, Int.ofNat 659060556, Int.ofNat 883997877, Int.ofNat 958139571, Int.ofNat 1322822218, Int.ofNat 1537002063, Int.ofNat 1747873779, Int.ofNat 1955562222, Int.ofNat 2024104815, Int.ofNat 2227730452, Int.ofNat 2361852424, Int.ofNat 2428436474, Int.ofNat 2756734187, Int.ofNat 3204031479, Int.ofNat 3329325298] 359 .ro
def l6_0 : List (Nat × FV) := []
def m6_0 : List (Nat × FObj) := [(0, gb0), (1, gb1), (2, gb2), (3, gb3), (4, gb4)]
theorem u6_0_lt : (l6_0.all fun p => Nat.blt p.1 1024) = true := by kernel_rfl
def o6_1 : List Nat := [0, 1, 2, 3, 4, 61, 68, 58, 10, 60, 1079, 71, 67, 65, 736, 9, 1078, 1082, 1088, 1094, 1100, 1106, 1085, 1091, 1097, 1103, 1109, 69, 564, 64, 735, 739, 745, 751, 757, 763, 742, 748, 754, 760, 766, 1075, 1077, 732, 734, 1073, 1074, 1076, 730, 731, 733]
def l6_1 : List (Nat × FV) := [(0, .b false), (1, .p 5 0), (3, .p 6 0), (4, .n .u32 1)]
def m6_1 : List (Nat × FObj) := [(0, gb0), (1, gb1), (2, gb2), (3, gb3), (4, gb4), (5, .cells [.sl 7 0 6 6 false 1, .n .u32 1000, .n .i64 10, .n .i64 80, .n .i64 8192, .n .i64 300, .p 8 0, .p 9 0, .p 10 0, .sl 11 0 1 1 false 1, .n .u32 0, .n .i64 0, .n .i64 10, .n .i64 20] 55 .exact), (6, .cells [.p 12 0, .p 13 0, .n .u32 1000, .p 14 0, .n .u32 0, .n .u64 1] 112 .exact), (7, .bs 409454036346227 5 .more), (8, .cells [.sl 15 0 6 6 false 1] 89 .exact), (9, .cells [.p 8 0, .n .u32 7, .n .u32 1, .n .u64 2345315504966339008, .n .u64 1, .o .sl] 97 .exact), (10, .cells [.n .i64 0, .p 16 0, .p 17 0, .p 18 0, .p 19 0, .p 20 0, .p 21 0, .p 22 0, .p 23 0, .p 24 0, .p 25 0, .p 26 0, .o .sl, .o .sl, .o .sl, .o .sl, .o .sl, .o .sl, .n .i64 0, .o .sl, .b false, .b false] 171 .exact), (11, .cells [.p 27 0] 114 .more), (12, .cells [.p 13 0, .n .u32 7, .n .u32 1, .n .u32 0, .b true, .n .u32 0, .n .u32 0, .n .u64 1, .sl 28 0 63 63 false 1] 199 .exact), (13, .cells [.sl 29 0 6 6 false 1] 89 .exact), (14, .cells [.n .i64 1, .p 30 0, .p 31 0, .p 32 0, .p 33 0, .p 34 0, .p 35 0, .p 36 0, .p 37 0, .p 38 0, .p 39 0, .p 40 0, .o .sl, .o .sl, .o .sl, .o .sl, .o .sl, .o .sl, .n .i64 0, .o .sl, .b false, .b false] 171 .exact), (15, .bs 409454036346227 5 .more), (16, .cells [.n .u32 7, .n .u32 1, .n .u8 248, .n .u8 193, .n .u8 241, .n .u8 102, .n .u8 129, .n .u8 247, .n .u8 26, .n .u8 164, .n .u8 36, .n .u8 175, .n .u8 187, .n .u8 206, .n .u8 83, .n .u8 255, .n .u8 239, .n .u8 232, .n .u8 71, .n .u8 230, .n .u8 132, .n .u8 102, .n .u8 47, .n .u8 159, .n .u8 213, .n .u8 160, .n .u8 38, .n .u8 31, .n .u8 24, .n .u8 212, .n .u8 198, .n .u8 213, .n .u8 177, .n .u8 133, .n .u8 47, .n .u8 209, .n .u8 108, .n .u8 33, .n .u8 245, .n .u8 163, .n .u8 178, .n .u8 104, .n .u8 19, .n .u8 174, .n .u8 252, .n .u8 10, .n .u8 101, .n .u8 28, .n .u8 243, .n .u8 202, .n .u8 217, .n .u8 174, .n .u8 13, .n .u8 224, .n .u8 50, .n .u8 125, .n .u8 254, .n .u8 250, .n .u8 217, .n .u8 251, .n .u8 74, .n .u8 190, .n .u8 9, .n .u8 159, .n .u8 196, .n .u8 157, .n .u32 1000, .n .i64 10, .n .i64 80, .p 41 0, .p 42 0, .b false] 164 .exact), (17, .ints .u64 [Int.ofNat 8192, Int.ofNat 8192, Int.ofNat 0] 251 .exact), (18, .ints .u64 [Int.ofNat 8192, Int.ofNat 8192, Int.ofNat 0] 251 .exact), (19, .ints .u64 [Int.ofNat 8192, Int.ofNat 8192, Int.ofNat 0] 251 .exact), (20, .ints .u64 [Int.ofNat 8192, Int.ofNat 8192, Int.ofNat 0] 251 .exact), (21, .ints .u64 [Int.ofNat 8192, Int.ofNat 8192, Int.ofNat 0] 251 .exact), (22, .ints .u64 [Int.ofNat 8192, Int.ofNat 8192, Int.ofNat 0, Int.ofNat 0] 253 .exact), (23, .ints .u64 [Int.ofNat 8192, Int.ofNat 8192, Int.ofNat 0, Int.ofNat 0] 253 .exact), (24, .ints .u64 [Int.ofNat 8192, Int.ofNat 8192, Int.ofNat 0, Int.ofNat 0] 253 .exact), (25, .ints .u64 [Int.ofNat 8192, Int.ofNat 8192, Int.ofNat 0, Int.ofNat 0] 253 .exact), (26, .ints .u64 [Int.ofNat 8192, Int.ofNat 8192, Int.ofNat 0, Int.ofNat 0] 253 .exact), (27, .cells [.n .u32 1, .s 353, .s 1, .s 1, .n .i64 0, .b false, .b false, .n .i64 0, .n .u32 0, .n .u32 0, .b false, .b false] 116 .exact), (28, .bs 55773820468656497055053544369027071037444752037250227040889166152574741312604835079460434917057567411184963935212891002140072849422193438380051811794946 5 .more), (29, .bs 409454036346227 5 .more), (30, .cells [.n .u32 7, .n .u32 1, .n .u8 47, .n .u8 209, .n .u8 108, .n .u8 33, .n .u8 245, .n .u8 163, .n .u8 178, .n .u8 104, .n .u8 19, .n .u8 174, .n .u8 252, .n .u8 10, .n .u8 101, .n .u8 28, .n .u8 243, .n .u8 202, .n .u8 217, .n .u8 174, .n .u8 13, .n .u8 224, .n .u8 50, .n .u8 125, .n .u8 254, .n .u8 250, .n .u8 217, .n .u8 251, .n .u8 74, .n .u8 190, .n .u8 9, .n .u8 159, .n .u8 196, .n .u8 157, .n .u8 248, .n .u8 193, .n .u8 241, .n .u8 102, .n .u8 129, .n .u8 247, .n .u8 26, .n .u8 164, .n .u8 36, .n .u8 175, .n .u8 187, .n .u8 206, .n .u8 83, .n .u8 255, .n .u8 239, .n .u8 232, .n .u8 71, .n .u8 230, .n .u8 132, .n .u8 102, .n .u8 47, .n .u8 159, .n .u8 213, .n .u8 160, .n .u8 38, .n .u8 31, .n .u8 24, .n .u8 212, .n .u8 198, .n .u8 213, .n .u8 177, .n .u8 133, .n .u32 1000, .n .i64 10, .n .i64 80, .p 43 0, .p 44 0, .b false] 164 .exact), (31, .ints .u64 [Int.ofNat 8192, Int.ofNat 8192, Int.ofNat 0] 251 .exact), (32, .ints .u64 [Int.ofNat 8192, Int.ofNat 8192, Int.ofNat 0] 251 .exact), (33, .ints .u64 [Int.ofNat 8192, Int.ofNat 8192, Int.ofNat 0] 251 .exact), (34, .ints .u64 [Int.ofNat 8192, Int.ofNat 8192, Int.ofNat 0] 251 .exact), (35, .ints .u64 [Int.ofNat 8192, Int.ofNat 8192, Int.ofNat 0] 251 .exact), (36, .ints .u64 [Int.ofNat 8192, Int.ofNat 8192, Int.ofNat 0, Int.ofNat 0] 253 .exact), (37, .ints .u64 [Int.ofNat 8192, Int.ofNat 8192, Int.ofNat 0, Int.ofNat 0] 253 .exact), (38, .ints .u64 [Int.ofNat 8192, Int.ofNat 8192, Int.ofNat 0, Int.ofNat 0] 253 .exact), (39, .ints .u64 [Int.ofNat 8192, Int.ofNat 8192, Int.ofNat 0, Int.ofNat 0] 253 .exact), (40, .ints .u64 [Int.ofNat 8192, Int.ofNat 8192, Int.ofNat 0, Int.ofNat 0] 253 .exact), (41, .cells [.p 45 0, .n .i64 10, .n .i64 80, .m 46] 242 .exact), (42, .cells [.n .u32 0, .m 47] 245 .exact), (43, .cells [.p 48 0, .n .i64 10, .n .i64 80, .m 49] 242 .exact), (44, .cells [.n .u32 0, .m 50] 245 .exact), (45, .ints .u32 [Int.ofNat 0, Int.ofNat 1000] 288 .exact), (46, .map []), (47, .map []), (48, .ints .u32 [Int.ofNat 0, Int.ofNat 1000] 288 .exact), (49, .map []), (50, .map [])]
theorem u6_1_lt : (l6_1.all fun p => Nat.blt p.1 1024) = true := by kernel_rfl
theorem n6_1_ok : okN o6_1 51 (αl l6_1) (αm m6_1) = true := by kernel_rfl
theorem d6_1_ok : distN (l6_1.map (·.1)) = true := by kernel_rfl
theorem w6_1_ok : ((List.range 5).map fun b => (ofM (αm m6_1)).get b) = (List.range 5).map fun b => (lowL (αm m6_1) b).map (mapO (rn o6_1)) := by kernel_rfl
def o6_2 : List Nat := [0, 1, 2, 3, 4, 5, 6, 7, 8, 9, 10, 11, 12, 13, 14, 15, 16, 17, 18, 19, 20, 21, 22, 23, 24, 25, 26, 68, 27, 28, 29, 30, 31, 32, 33, 34, 35, 36, 37, 38, 39, 40, 41, 42, 66, 43, 44, 45, 46, 47, 48, 49, 50, 70]
def l6_2 : List (Nat × FV) := [(0, .b false), (1, .p 5 0), (3, .p 6 0), (4, .n .u32 1), (12, .b true), (13, .n .i64 1)]
def m6_2 : List (Nat × FObj) := [(0, gb0), (1, gb1), (2, gb2), (3, gb3), (4, gb4), (5, .cells [.sl 7 0 6 6 false 1, .n .u32 1000, .n .i64 10, .n .i64 80, .n .i64 8192, .n .i64 300, .p 8 0, .p 9 0, .p 10 0, .sl 11 0 1 1 false 1, .n .u32 1, .n .i64 0, .n .i64 10, .n .i64 20] 55 .exact), (6, .cells [.p 12 0, .p 13 0, .n .u32 1000, .p 14 0, .n .u32 1, .n .u64 1] 112 .exact), (7, .bs 409454036346227 5 .more), (8, .cells [.sl 15 0 6 6 false 1] 89 .exact), (9, .cells [.p 8 0, .n .u32 7, .n .u32 1, .n .u64 2345315504966339008, .n .u64 1, .o .sl] 97 .exact), (10, .cells [.n .i64 0, .p 16 0, .p 17 0, .p 18 0, .p 19 0, .p 20 0, .p 21 0, .p 22 0, .p 23 0, .p 24 0, .p 25 0, .p 26 0, .o .sl, .o .sl, .o .sl, .o .sl, .o .sl, .sl 27 1 0 0 false 1, .n .i64 0, .o .sl, .b false, .b false] 171 .exact), (11, .cells [.p 28 0] 114 .more), (12, .cells [.p 13 0, .n .u32 7, .n .u32 1, .n .u32 1, .b true, .n .u32 0, .n .u32 0, .n .u64 1, .sl 29 0 63 63 false 1] 199 .exact), (13, .cells [.sl 30 0 6 6 false 1] 89 .exact), (14, .cells [.n .i64 1, .p 31 0, .p 32 0, .p 33 0, .p 34 0, .p 35 0, .p 36 0, .p 37 0, .p 38 0, .p 39 0, .p 40 0, .p 41 0, .o .sl, .o .sl, .o .sl, .o .sl, .o .sl, .o .sl, .n .i64 0, .o .sl, .b false, .b false] 171 .exact), (15, .bs 409454036346227 5 .more), (16, .cells [.n .u32 7, .n .u32 1, .n .u8 248, .n .u8 193, .n .u8 241, .n .u8 102, .n .u8 129, .n .u8 247, .n .u8 26, .n .u8 164, .n .u8 36, .n .u8 175, .n .u8 187, .n .u8 206, .n .u8 83, .n .u8 255, .n .u8 239, .n .u8 232, .n .u8 71, .n .u8 230, .n .u8 132, .n .u8 102, .n .u8 47, .n .u8 159, .n .u8 213, .n .u8 160, .n .u8 38, .n .u8 31, .n .u8 24, .n .u8 212, .n .u8 198, .n .u8 213, .n .u8 177, .n .u8 133, .n .u8 47, .n .u8 209, .n .u8 108, .n .u8 33, .n .u8 245, .n .u8 163, .n .u8 178, .n .u8 104, .n .u8 19, .n .u8 174, .n .u8 252, .n .u8 10, .n .u8 101, .n .u8 28, .n .u8 243, .n .u8 202, .n .u8 217, .n .u8 174, .n .u8 13, .n .u8 224, .n .u8 50, .n .u8 125, .n .u8 254, .n .u8 250, .n .u8 217, .n .u8 251, .n .u8 74, .n .u8 190, .n .u8 9, .n .u8 159, .n .u8 196, .n .u8 157, .n .u32 1000, .n .i64 10, .n .i64 80, .p 42 0, .p 43 0, .b false] 164 .exact), (17, .ints .u64 [Int.ofNat 8192, Int.ofNat 8192, Int.ofNat 6] 251 .exact), (18, .ints .u64 [Int.ofNat 8192, Int.ofNat 8192, Int.ofNat 0] 251 .exact), (19, .ints .u64 [Int.ofNat 8192, Int.ofNat 8192, Int.ofNat 0] 251 .exact), (20, .ints .u64 [Int.ofNat 8192, Int.ofNat 8192, Int.ofNat 0] 251 .exact), (21, .ints .u64 [Int.ofNat 8192, Int.ofNat 8192, Int.ofNat 0] 251 .exact), (22, .ints .u64 [Int.ofNat 8192, Int.ofNat 8192, Int.ofNat 0, Int.ofNat 0] 253 .exact), (23, .ints .u64 [Int.ofNat 8192, Int.ofNat 8192, Int.ofNat 0, Int.ofNat 0] 253 .exact), (24, .ints .u64 [Int.ofNat 8192, Int.ofNat 8192, Int.ofNat 0, Int.ofNat 0] 253 .exact), (25, .ints .u64 [Int.ofNat 8192, Int.ofNat 8192, Int.ofNat 0, Int.ofNat 0] 253 .exact), (26, .ints .u64 [Int.ofNat 8192, Int.ofNat 8192, Int.ofNat 0, Int.ofNat 0] 253 .exact), (27, .cells [.sl 44 0 7 7 false 1] 22 .more), (28, .cells [.n .u32 1, .s 353, .s 1, .s 1, .n .i64 0, .b false, .b false, .n .i64 0, .n .u32 0, .n .u32 0, .b false, .b false] 116 .exact), (29, .bs 55773820468656497055053544369027071037444752037250227040889166152574741312604835079460434917057567411184963935212891002140072849422193438380051811794946 5 .more), (30, .bs 409454036346227 5 .more), (31, .cells [.n .u32 7, .n .u32 1, .n .u8 47, .n .u8 209, .n .u8 108, .n .u8 33, .n .u8 245, .n .u8 163, .n .u8 178, .n .u8 104, .n .u8 19, .n .u8 174, .n .u8 252, .n .u8 10, .n .u8 101, .n .u8 28, .n .u8 243, .n .u8 202, .n .u8 217, .n .u8 174, .n .u8 13, .n .u8 224, .n .u8 50, .n .u8 125, .n .u8 254, .n .u8 250, .n .u8 217, .n .u8 251, .n .u8 74, .n .u8 190, .n .u8 9, .n .u8 159, .n .u8 196, .n .u8 157, .n .u8 248, .n .u8 193, .n .u8 241, .n .u8 102, .n .u8 129, .n .u8 247, .n .u8 26, .n .u8 164, .n .u8 36, .n .u8 175, .n .u8 187, .n .u8 206, .n .u8 83, .n .u8 255, .n .u8 239, .n .u8 232, .n .u8 71, .n .u8 230, .n .u8 132, .n .u8 102, .n .u8 47, .n .u8 159, .n .u8 213, .n .u8 160, .n .u8 38, .n .u8 31, .n .u8 24, .n .u8 212, .n .u8 198, .n .u8 213, .n .u8 177, .n .u8 133, .n .u32 1000, .n .i64 10, .n .i64 80, .p 45 0, .p 46 0, .b true] 164 .exact), (32, .ints .u64 [Int.ofNat 8192, Int.ofNat 8192, Int.ofNat 0] 251 .exact), (33, .ints .u64 [Int.ofNat 8192, Int.ofNat 8192, Int.ofNat 0] 251 .exact), (34, .ints .u64 [Int.ofNat 8192, Int.ofNat 8192, Int.ofNat 0] 251 .exact), (35, .ints .u64 [Int.ofNat 8192, Int.ofNat 8192, Int.ofNat 0] 251 .exact), (36, .ints .u64 [Int.ofNat 8192, Int.ofNat 8192, Int.ofNat 0] 251 .exact), (37, .ints .u64 [Int.ofNat 8192, Int.ofNat 8192, Int.ofNat 6, Int.ofNat 6] 253 .exact), (38, .ints .u64 [Int.ofNat 8192, Int.ofNat 8192, Int.ofNat 0, Int.ofNat 0] 253 .exact), (39, .ints .u64 [Int.ofNat 8192, Int.ofNat 8192, Int.ofNat 0, Int.ofNat 0] 253 .exact), (40, .ints .u64 [Int.ofNat 8192, Int.ofNat 8192, Int.ofNat 0, Int.ofNat 0] 253 .exact), (41, .ints .u64 [Int.ofNat 8192, Int.ofNat 8192, Int.ofNat 0, Int.ofNat 0] 253 .exact), (42, .cells [.p 47 0, .n .i64 10, .n .i64 80, .m 48] 242 .exact), (43, .cells [.n .u32 0, .m 49] 245 .exact), (44, .bs 99361766290489600 5 .more), (45, .cells [.p 50 0, .n .i64 10, .n .i64 80, .m 51] 242 .exact), (46, .cells [.n .u32 1, .m 52] 245 .exact), (47, .ints .u32 [Int.ofNat 1, Int.ofNat 1000] 288 .exact), (48, .map [(.n .u32 0, .agg [.n .u32 0, .sl 53 0 7 7 false 1, .n .i64 1, .n .i64 11])]), (49, .map []), (50, .ints .u32 [Int.ofNat 0, Int.ofNat 1000] 288 .exact), (51, .map []), (52, .map []), (53, .bs 99361766290489600 5 .more)]
theorem u6_2_lt : (l6_2.all fun p => Nat.blt p.1 1024) = true := by kernel_rfl
theorem n6_2_ok : okN o6_2 54 (αl l6_2) (αm m6_2) = true := by kernel_rfl
theorem d6_2_ok : distN (l6_2.map (·.1)) = true := by kernel_rfl
theorem w6_2_ok : ((List.range 5).map fun b => (ofM (αm m6_2)).get b) = (List.range 5).map fun b => (lowL (αm m6_2) b).map (mapO (rn o6_2)) := by kernel_rfl
def o6_3 : List Nat := [0, 1, 2, 3, 4, 5, 6, 7, 8, 9, 10, 11, 12, 13, 14, 15, 16, 17, 18, 19, 20, 21, 22, 23, 24, 25, 26, 27, 28, 29, 30, 31, 32, 33, 34, 35, 36, 37, 38, 39, 40, 41, 123, 42, 43, 44, 45, 46, 73, 95, 121, 47, 48, 49, 50, 51, 52, 53]
def l6_3 : List (Nat × FV) := [(0, .b false), (1, .p 5 0), (3, .p 6 0), (4, .n .u32 1), (12, .b true), (13, .n .i64 1)]
def m6_3 : List (Nat × FObj) := [(0, gb0), (1, gb1), (2, gb2), (3, gb3), (4, gb4), (5, .cells [.sl 7 0 6 6 false 1, .n .u32 1000, .n .i64 10, .n .i64 80, .n .i64 8192, .n .i64 300, .p 8 0, .p 9 0, .p 10 0, .sl 11 0 1 1 false 1, .n .u32 1, .n .i64 0, .n .i64 10, .n .i64 20] 55 .exact), (6, .cells [.p 12 0, .p 13 0, .n .u32 1000, .p 14 0, .n .u32 1, .n .u64 1] 112 .exact), (7, .bs 409454036346227 5 .more), (8, .cells [.sl 15 0 6 6 false 1] 89 .exact), (9, .cells [.p 8 0, .n .u32 7, .n .u32 1, .n .u64 2345315504966339008, .n .u64 1, .o .sl] 97 .exact), (10, .cells [.n .i64 0, .p 16 0, .p 17 0, .p 18 0, .p 19 0, .p 20 0, .p 21 0, .p 22 0, .p 23 0, .p 24 0, .p 25 0, .p 26 0, .o .sl, .o .sl, .o .sl, .o .sl, .o .sl, .sl 27 1 0 0 false 1, .n .i64 0, .o .sl, .b false, .b false] 171 .exact), (11, .cells [.p 28 0] 114 .more), (12, .cells [.p 13 0, .n .u32 7, .n .u32 1, .n .u32 1, .b true, .n .u32 0, .n .u32 0, .n .u64 1, .sl 29 0 63 63 false 1] 199 .exact), (13, .cells [.sl 30 0 6 6 false 1] 89 .exact), (14, .cells [.n .i64 1, .p 31 0, .p 32 0, .p 33 0, .p 34 0, .p 35 0, .p 36 0, .p 37 0, .p 38 0, .p 39 0, .p 40 0, .p 41 0, .o .sl, .o .sl, .o .sl, .o .sl, .o .sl, .sl 42 0 3 3 false 1, .n .i64 0, .o .sl, .b false, .b false] 171 .exact), (15, .bs 409454036346227 5 .more), (16, .cells [.n .u32 7, .n .u32 1, .n .u8 248, .n .u8 193, .n .u8 241, .n .u8 102, .n .u8 129, .n .u8 247, .n .u8 26, .n .u8 164, .n .u8 36, .n .u8 175, .n .u8 187, .n .u8 206, .n .u8 83, .n .u8 255, .n .u8 239, .n .u8 232, .n .u8 71, .n .u8 230, .n .u8 132, .n .u8 102, .n .u8 47, .n .u8 159, .n .u8 213, .n .u8 160, .n .u8 38, .n .u8 31, .n .u8 24, .n .u8 212, .n .u8 198, .n .u8 213, .n .u8 177, .n .u8 133, .n .u8 47, .n .u8 209, .n .u8 108, .n .u8 33, .n .u8 245, .n .u8 163, .n .u8 178, .n .u8 104, .n .u8 19, .n .u8 174, .n .u8 252, .n .u8 10, .n .u8 101, .n .u8 28, .n .u8 243, .n .u8 202, .n .u8 217, .n .u8 174, .n .u8 13, .n .u8 224, .n .u8 50, .n .u8 125, .n .u8 254, .n .u8 250, .n .u8 217, .n .u8 251, .n .u8 74, .n .u8 190, .n .u8 9, .n .u8 159, .n .u8 196, .n .u8 157, .n .u32 1000, .n .i64 10, .n .i64 80, .p 43 0, .p 44 0, .b false] 164 .exact), (17, .ints .u64 [Int.ofNat 8192, Int.ofNat 8192, Int.ofNat 6] 251 .exact), (18, .ints .u64 [Int.ofNat 8192, Int.ofNat 8192, Int.ofNat 0] 251 .exact), (19, .ints .u64 [Int.ofNat 8192, Int.ofNat 8192, Int.ofNat 0] 251 .exact), (20, .ints .u64 [Int.ofNat 8192, Int.ofNat 8192, Int.ofNat 0] 251 .exact), (21, .ints .u64 [Int.ofNat 8192, Int.ofNat 8192, Int.ofNat 0] 251 .exact), (22, .ints .u64 [Int.ofNat 8192, Int.ofNat 8192, Int.ofNat 0, Int.ofNat 0] 253 .exact), (23, .ints .u64 [Int.ofNat 8192, Int.ofNat 8192, Int.ofNat 0, Int.ofNat 0] 253 .exact), (24, .ints .u64 [Int.ofNat 8192, Int.ofNat 8192, Int.ofNat 0, Int.ofNat 0] 253 .exact), (25, .ints .u64 [Int.ofNat 8192, Int.ofNat 8192, Int.ofNat 0, Int.ofNat 0] 253 .exact), (26, .ints .u64 [Int.ofNat 8192, Int.ofNat 8192, Int.ofNat 0, Int.ofNat 0] 253 .exact), (27, .cells [.sl 45 0 7 7 false 1] 22 .more), (28, .cells [.n .u32 1, .s 353, .s 1, .s 1, .n .i64 0, .b false, .b false, .n .i64 0, .n .u32 0, .n .u32 0, .b false, .b false] 116 .exact), (29, .bs 55773820468656497055053544369027071037444752037250227040889166152574741312604835079460434917057567411184963935212891002140072849422193438380051811794946 5 .more), (30, .bs 409454036346227 5 .more), (31, .cells [.n .u32 7, .n .u32 1, .n .u8 47, .n .u8 209, .n .u8 108, .n .u8 33, .n .u8 245, .n .u8 163, .n .u8 178, .n .u8 104, .n .u8 19, .n .u8 174, .n .u8 252, .n .u8 10, .n .u8 101, .n .u8 28, .n .u8 243, .n .u8 202, .n .u8 217, .n .u8 174, .n .u8 13, .n .u8 224, .n .u8 50, .n .u8 125, .n .u8 254, .n .u8 250, .n .u8 217, .n .u8 251, .n .u8 74, .n .u8 190, .n .u8 9, .n .u8 159, .n .u8 196, .n .u8 157, .n .u8 248, .n .u8 193, .n .u8 241, .n .u8 102, .n .u8 129, .n .u8 247, .n .u8 26, .n .u8 164, .n .u8 36, .n .u8 175, .n .u8 187, .n .u8 206, .n .u8 83, .n .u8 255, .n .u8 239, .n .u8 232, .n .u8 71, .n .u8 230, .n .u8 132, .n .u8 102, .n .u8 47, .n .u8 159, .n .u8 213, .n .u8 160, .n .u8 38, .n .u8 31, .n .u8 24, .n .u8 212, .n .u8 198, .n .u8 213, .n .u8 177, .n .u8 133, .n .u32 1000, .n .i64 10, .n .i64 80, .p 46 0, .p 47 0, .b true] 164 .exact), (32, .ints .u64 [Int.ofNat 8192, Int.ofNat 8192, Int.ofNat 0] 251 .exact), (33, .ints .u64 [Int.ofNat 8192, Int.ofNat 8192, Int.ofNat 0] 251 .exact), (34, .ints .u64 [Int.ofNat 8192, Int.ofNat 8192, Int.ofNat 22] 251 .exact), (35, .ints .u64 [Int.ofNat 8192, Int.ofNat 8192, Int.ofNat 0] 251 .exact), (36, .ints .u64 [Int.ofNat 8192, Int.ofNat 8192, Int.ofNat 14] 251 .exact), (37, .ints .u64 [Int.ofNat 8192, Int.ofNat 8192, Int.ofNat 6, Int.ofNat 6] 253 .exact), (38, .ints .u64 [Int.ofNat 8192, Int.ofNat 8192, Int.ofNat 0, Int.ofNat 0] 253 .exact), (39, .ints .u64 [Int.ofNat 8192, Int.ofNat 8192, Int.ofNat 0, Int.ofNat 0] 253 .exact), (40, .ints .u64 [Int.ofNat 8192, Int.ofNat 8192, Int.ofNat 0, Int.ofNat 0] 253 .exact), (41, .ints .u64 [Int.ofNat 8192, Int.ofNat 8192, Int.ofNat 0, Int.ofNat 0] 253 .exact), (42, .cells [.sl 48 0 12 12 false 1, .sl 49 0 12 12 false 1, .sl 50 0 15 15 false 1] 22 .more), (43, .cells [.p 51 0, .n .i64 10, .n .i64 80, .m 52] 242 .exact), (44, .cells [.n .u32 0, .m 53] 245 .exact), (45, .bs 99361766290489600 5 .more), (46, .cells [.p 54 0, .n .i64 10, .n .i64 80, .m 55] 242 .exact), (47, .cells [.n .u32 1, .m 56] 245 .exact), (48, .bs 109674959281258774458030620930 5 .more), (49, .bs 109985657939266217025575321858 5 .more), (50, .bs 1329227995788542650362652047316091140 5 .more), (51, .ints .u32 [Int.ofNat 1, Int.ofNat 1000] 288 .exact), (52, .map [(.n .u32 0, .agg [.n .u32 0, .sl 57 0 7 7 false 1, .n .i64 1, .n .i64 11])]), (53, .map []), (54, .ints .u32 [Int.ofNat 0, Int.ofNat 1000] 288 .exact), (55, .map []), (56, .map []), (57, .bs 99361766290489600 5 .more)]
theorem u6_3_lt : (l6_3.all fun p => Nat.blt p.1 1024) = true := by kernel_rfl
theorem n6_3_ok : okN o6_3 58 (αl l6_3) (αm m6_3) = true := by kernel_rfl
theorem d6_3_ok : distN (l6_3.map (·.1)) = true := by kernel_rfl
theorem w6_3_ok : ((List.range 5).map fun b => (ofM (αm m6_3)).get b) = (List.range 5).map fun b => (lowL (αm m6_3) b).map (mapO (rn o6_3)) := by kernel_rfl
noncomputable def c6_0 : ACode := c6
noncomputable def c6_1 : ACode := aD 5 c6_0
noncomputable def c6_2 : ACode := aD 2 c6_1
noncomputable def c6_3 : ACode := aD 2 c6_2
theorem f6_0 : noFor 5 c6_0 = true := by kernel_rfl
theorem f6_1 : noFor 2 c6_1 = true := by kernel_rfl
theorem f6_2 : noFor 2 c6_2 = true := by kernel_rfl
end Go.Proofs.YtcbfjmjphpoimaaGreatDoor.V2
namespace Go.Proofs.YtcbfjmjphpoimaaGreatDoor.V2
open Go
set_option linter.unusedVariables false
open Go.RowKit
set_option maxRecDepth 100000
noncomputable def z6_0 : Cd := (cWr X0 (.b false) (cLet (oCallS 13 [(rdV (.n .u32 1000))]) fun v1 => (cLet (oCallS 4 [(rdV v1)]) fun v2 => (cLet (o1 (exG 0) (rdV v2)) fun v3 => (cLet (o1 (exG 1) (rdV v2)) fun v4 => (cWr X1 v3 (cLet (oCallS 14 [(rdV (.n .u32 1000))]) fun v5 => (cWr X3 v5 (cLet (o2 bNeq (rdV v4) (rdV (.n .i64 0))) fun v6 => (cLet (oG false (rdV v6) (oV (rdV v5))) fun v7 => (cLet (oG false (rdV v6) (o2 (eqQ1 false .ptr) (rdV v7) (rdV (.o .ptr)))) fun v8 => (cLet (o3 pkF (rdV v6) (rdV (.b true)) (rdV v8)) fun v9 => (cSeq (cCond (rdV v9) (cWr X0 (.b false) cRet) cSkip) (cLet (oCallS 15 [(rdV v3), (rdV (.s 353))]) fun v10 => (cLet (o1 (exG 0) (rdV v10)) fun v11 => (cLet (o1 (exG 1) (rdV v10)) fun v12 => (cWr X4 v11 (cLet (oCallS 16 [(rdV v3), (rdV (.n .i64 0)), (rdV (.n .u64 1))]) fun v13 => (cLet (o1 lvF (rdV v13)) fun v14 => (cWr X42 (.n .i64 0) (cSeq (cBlk 0 (cLoop 1000000 (cLet (o2 bLss R42 (rdV v14)) fun v15 => (cSeq (cCond (rdV v15) cSkip (cExit 0)) (cSeq (cBlk 1 (cLet (o2 (isF 1) (rdV v13) R42) fun v16 => (cLet (m1 ldF (rdV v16)) fun v17 => (cLet (oCallS 17 [(rdV v5), (rdV v17), (rdV (.n .i64 0))]) fun v18 => (cLet (o1 (exG 0) (rdV v18)) fun v19 => (cLet (o1 (exG 1) (rdV v18)) fun v20 => (cLet (o1 lvF (rdV v19)) fun v21 => (cWr X54 (.n .i64 0) (cSeq (cBlk 2 (cLoop 1000000 (cLet (o2 bLss R54 (rdV v21)) fun v22 => (cSeq (cCond (rdV v22) cSkip (cExit 2)) (cSeq (cBlk 3 (cLet (o2 (isF 1) (rdV v19) R54) fun v23 => (cLet (m1 ldF (rdV v23)) fun v24 => (cLet (oCallS 18 [(rdV v3), (rdV v24), (rdV (.n .i64 0))]) fun v25 => cSkip)))) (cLet (o2 bAdd R54 (rdV (.n .i64 1))) fun v26 => (cWr X54 v26 cSkip))))))) cSkip))))))))) (cLet (o2 bAdd R42 (rdV (.n .i64 1))) fun v27 => (cWr X42 v27 cSkip))))))) cSkip)))))))))))))))))))))
theorem z6_0_eq : thrK 1000000 139 (drOf 139 [0, 1, 3, 4, 42, 54]) (aT 5 c6_0) [] cS = z6_0 := by kernel_rfl
theorem t6_0 : runQ tQZ bQZ z6_0 l6_0 m6_0 5 (endK [R0, R1, R3, R4] (m6_1.map fun p => rn o6_1 p.1)) kX = .ok (.tup (l6_1.map fun p => mapF (rn o6_1) p.2)) ⟨0, chT (m6_1.map fun p => mapFO (rn o6_1) p.2)⟩ := by kernel_rfl
end Go.Proofs.YtcbfjmjphpoimaaGreatDoor.V2
namespace Go.Proofs.YtcbfjmjphpoimaaGreatDoor.V2
open Go
set_option linter.unusedVariables false
open Go.RowKit
set_option maxRecDepth 100000
noncomputable def z6_1 : Cd := (cLet (oV R1) fun v1 => (cLet (oCallS 19 [(rdV v1)]) fun v2 => (cWr X12 v2 (cWr X13 (.n .i64 0) (cLet (oV R1) fun v3 => (cLet (oCallS 16 [(rdV v3), (rdV (.n .i64 1)), (rdV (.n .u64 2))]) fun v4 => (cLet (o1 lvF (rdV v4)) fun v5 => (cWr X68 (.n .i64 0) (cSeq (cBlk 4 (cLoop 1000000 (cLet (o2 bLss R68 (rdV v5)) fun v6 => (cSeq (cCond (rdV v6) cSkip (cExit 4)) (cSeq (cBlk 5 (cLet (o2 (isF 1) (rdV v4) R68) fun v7 => (cLet (m1 ldF (rdV v7)) fun v8 => (cLet (oV R3) fun v9 => (cLet (oCallS 17 [(rdV v9), (rdV v8), (rdV (.n .i64 1))]) fun v10 => (cLet (o1 (exG 0) (rdV v10)) fun v11 => (cLet (o1 (exG 1) (rdV v10)) fun v12 => (cLet (oV R13) fun v13 => (cLet (o1 lvF (rdV v12)) fun v14 => (cLet (o2 bAdd (rdV v13) (rdV v14)) fun v15 => (cWr X13 v15 cSkip))))))))))) (cLet (o2 bAdd R68 (rdV (.n .i64 1))) fun v16 => (cWr X68 v16 cSkip))))))) cSkip)))))))))
theorem z6_1_eq : thrK 1000000 139 (drOf 139 [0, 1, 3, 4, 12, 13, 68]) (aT 2 c6_1) [] cS = z6_1 := by kernel_rfl
theorem t6_1 : runQ tQZ bQZ z6_1 l6_1 m6_1 51 (endK [R0, R1, R3, R4, R12, R13] (m6_2.map fun p => rn o6_2 p.1)) kX = .ok (.tup (l6_2.map fun p => mapF (rn o6_2) p.2)) ⟨0, chT (m6_2.map fun p => mapFO (rn o6_2) p.2)⟩ := by kernel_rfl
end Go.Proofs.YtcbfjmjphpoimaaGreatDoor.V2
namespace Go.Proofs.YtcbfjmjphpoimaaGreatDoor.V2
open Go
set_option linter.unusedVariables false
open Go.RowKit
set_option maxRecDepth 100000
noncomputable def z6_2 : Cd := (cLet (oV R3) fun v1 => (cLet (nL (bsQ 23 1 1) [(rdV (.n .u32 0))]) fun v2 => (cLet (nL (bsQ 5 1 2) [(rdV (.n .u8 97)), (rdV (.n .u8 98))]) fun v3 => (cLet (n1 mkQ (rdV v3)) fun v4 => (cLet (oCallS 20 [(rdV v1), (rdV (.n .i64 2)), (rdV (.n .u32 1)), (rdV v2), (rdV v4)]) fun v5 => (cLet (oV R3) fun v6 => (cLet (nL (bsQ 23 1 1) [(rdV (.n .u32 1))]) fun v7 => (cLet (nL (bsQ 5 1 2) [(rdV (.n .u8 98)), (rdV (.n .u8 99))]) fun v8 => (cLet (n1 mkQ (rdV v8)) fun v9 => (cLet (oCallS 20 [(rdV v6), (rdV (.n .i64 2)), (rdV (.n .u32 1)), (rdV v7), (rdV v9)]) fun v10 => (cLet (oV R3) fun v11 => (cLet (nL (bsQ 23 1 2) [(rdV (.n .u32 3)), (rdV (.n .u32 0))]) fun v12 => (cLet (nL (bsQ 5 1 1) [(rdV (.n .u8 0))]) fun v13 => (cLet (oCallS 20 [(rdV v11), (rdV (.n .i64 4)), (rdV (.n .u32 1)), (rdV v12), (rdV v13)]) fun v14 => cSkip))))))))))))))
theorem z6_2_eq : thrK 1000000 139 (drOf 139 [0, 1, 3, 4, 12, 13]) (aT 2 c6_2) [] cS = z6_2 := by kernel_rfl
theorem t6_2 : runQ tQZ bQZ z6_2 l6_2 m6_2 54 (endK [R0, R1, R3, R4, R12, R13] (m6_3.map fun p => rn o6_3 p.1)) kX = .ok (.tup (l6_3.map fun p => mapF (rn o6_3) p.2)) ⟨0, chT (m6_3.map fun p => mapFO (rn o6_3) p.2)⟩ := by kernel_rfl
end Go.Proofs.YtcbfjmjphpoimaaGreatDoor.V2
namespace Go.Proofs.YtcbfjmjphpoimaaGreatDoor.V2
open Go
set_option linter.unusedVariables false
open Go.RowKit
set_option maxRecDepth 100000
noncomputable def z6_3 : Cd := (cLet (oV R3) fun v1 => (cLet (oCallS 21 [(rdV v1), (rdV (.n .i64 2))]) fun v2 => (cLet (o1 lvF (rdV v2)) fun v3 => (cWr X100 (.n .i64 0) (cSeq (cBlk 6 (cLoop 1000000 (cLet (o2 bLss R100 (rdV v3)) fun v4 => (cSeq (cCond (rdV v4) cSkip (cExit 6)) (cSeq (cBlk 7 (cLet (o2 (isF 1) (rdV v2) R100) fun v5 => (cLet (m1 ldF (rdV v5)) fun v6 => (cLet (oV R1) fun v7 => (cLet (oCallS 18 [(rdV v7), (rdV v6), (rdV (.n .i64 2))]) fun v8 => cSkip))))) (cLet (o2 bAdd R100 (rdV (.n .i64 1))) fun v9 => (cWr X100 v9 cSkip))))))) (cLet (oV R1) fun v10 => (cLet (oCallS 22 [(rdV v10), (rdV (.n .u32 1))]) fun v11 => (cLet (o1 (exG 0) (rdV v11)) fun v12 => (cLet (o1 (exG 1) (rdV v11)) fun v13 => (cLet (n0 (.cells [.n .u32 0, .s 1, .s 1, .s 1, .n .i64 0, .b false] 83 .exact)) fun v14 => (cDo (n2 (stF 6) (rdV v14) (rdV v12)) (cLet (oV R4) fun v15 => (cLet (o2 bEql (rdV v15) (rdV (.n .u32 1))) fun v16 => (cLet (oG true (rdV v16) (oV R12)) fun v17 => (cLet (o3 pkF (rdV v16) (rdV v17) (rdV (.b false))) fun v18 => (cLet (oG true (rdV v18) (oV R13)) fun v19 => (cLet (oG true (rdV v18) (o2 bEql (rdV v19) (rdV (.n .i64 1)))) fun v20 => (cLet (o3 pkF (rdV v18) (rdV v20) (rdV (.b false))) fun v21 => (cLet (oG true (rdV v21) (oV (rdV v13))) fun v22 => (cLet (o3 pkF (rdV v21) (rdV v22) (rdV (.b false))) fun v23 => (cLet (oG true (rdV v23) (o1 (faF 2) (rdV v14))) fun v24 => (cLet (oG true (rdV v23) (m1 ldF (rdV v24))) fun v25 => (cLet (oG true (rdV v23) (o2 bEql (rdV v25) (rdV (.s 23290465)))) fun v26 => (cLet (o3 pkF (rdV v23) (rdV v26) (rdV (.b false))) fun v27 => (cLet (oG true (rdV v27) (o1 (faF 5) (rdV v14))) fun v28 => (cLet (oG true (rdV v27) (m1 ldF (rdV v28))) fun v29 => (cLet (o3 pkF (rdV v27) (rdV v29) (rdV (.b false))) fun v30 => (cLet (oG true (rdV v30) (oV R1)) fun v31 => (cLet (oG true (rdV v30) (oCallS 23 [(rdV v31)])) fun v32 => (cLet (oG true (rdV v30) (o2 bEql (rdV v32) (rdV (.n .i64 0)))) fun v33 => (cLet (o3 pkF (rdV v30) (rdV v33) (rdV (.b false))) fun v34 => (cWr X0 v34 cRet))))))))))))))))))))))))))))))))
theorem z6_3_eq : thrK 1000000 139 (drOf 139 [0, 1, 3, 4, 12, 13, 100]) c6_3 [] cS = z6_3 := by kernel_rfl
theorem t6_3 : runQ tQZ bQZ z6_3 l6_3 m6_3 58 kX (fun e σ => rsQ [vT R0] e σ fun vs => .ok (.tup vs) ⟨0, .leaf⟩) = .ok (.tup [.b true]) ⟨0, .leaf⟩ := by kernel_rfl
end Go.Proofs.YtcbfjmjphpoimaaGreatDoor.V2
namespace Go.Proofs.YtcbfjmjphpoimaaGreatDoor.V2
open Go
set_option linter.unusedVariables false
open Go.RowKit
theorem wakesM (w : World) (hG : GlobM w) : Calls (Tryz.prog)  6 #[] w fun e w' => e = .returned (.bool true) ∧ Below w.heap.size w w' := by
  have hr0 := hrM hG
  refine (calls_of_aq (G := 5) (σ := hL memM) (ρ := rM) (xs := [.tmp 0]) (vs := []) (K := fun av _ => av = .bool true) Tryz.func6 body6 (Prod.mk.inj comp6).2 ?_).mono fun e W' ⟨v, av, σ', ρ', e1, e2, e3, e4, e5⟩ => ?_
  rotate_left
  · subst e1 e2
    unfold VR at e5
    exact ⟨by rw [e5], Below.ofStp (by show 5 ≤ _; omega) hr0 memM_ro e4⟩
  have st : Start [] 5 w.heap.size rM (hL memM) w := ⟨Nat.le_refl _, (fun y hy => absurd hy List.not_mem_nil), (fun y hy => absurd hy List.not_mem_nil), hr0⟩
  have h0 : (⟨5, ofM (αm m6_0)⟩ : AH) = hL memM := by kernel_rfl
  have main : Good Tryz.prog 5 Tryz.f6.ntmps 5 w.heap.size rM (hL memM) w (AQ 5 Tryz.f6.ntmps 5 w.heap.size rM (hL memM) w (fun e env σ' => (match e with | .normal => True | .ret => True | _ => False) ∧ (resL std env σ' [.tmp 0]).1 = true ∧ retV (resL std env σ' [.tmp 0]).2 = .bool true)) (ofL (αl l6_0)) ⟨5, ofM (αm m6_0)⟩ (Tryz.f6.body.getD .skip) :=
    Good.pieceQ st mixed gamZ_ok hpu0' tQZ_ok bQZ_ok (m := 5) (c' := c6_0) f6_0 (Prod.mk.inj comp6).1 z6_0_eq u6_0_lt (by kernel_rfl) t6_0 n6_1_ok d6_1_ok w6_1_ok fun hc1 =>
    Good.pieceQ st mixed gamZ_ok hpu0' tQZ_ok bQZ_ok (m := 2) (c' := c6_1) f6_1 hc1 z6_1_eq u6_1_lt (by kernel_rfl) t6_1 n6_2_ok d6_2_ok w6_2_ok fun hc2 =>
    Good.pieceQ st mixed gamZ_ok hpu0' tQZ_ok bQZ_ok (m := 2) (c' := c6_2) f6_2 hc2 z6_2_eq u6_2_lt (by kernel_rfl) t6_2 n6_3_ok d6_3_ok w6_3_ok fun hc3 =>
    Good.endQ (c' := c6_3) (xs := [.tmp 0]) st mixed gamZ_ok hpu0' tQZ_ok bQZ_ok hc3 z6_3_eq u6_3_lt (by kernel_rfl) t6_3 (fun env σ h2 => by rw [h2]; exact ⟨trivial, rfl, rfl⟩)
  refine main rM w _ (by rw [h0]; exact hr0) ⟨by decide +kernel, by simp, rM_glob, fun t v ht => by cases ht⟩ (by rw [h0]; exact Stp.refl (Nat.le_refl _)) ⟨trivial, fun r hr => by cases hr⟩
end Go.Proofs.YtcbfjmjphpoimaaGreatDoor.V2
namespace Go.Proofs.YtcbfjmjphpoimaaGreatDoor.V2
open Go
set_option linter.unusedVariables false
set_option maxRecDepth 100000
noncomputable def qeL : List Qe := [⟨3, eZ Tryz.f3, q3⟩, ⟨4, eZ Tryz.f4, q4⟩, ⟨5, eZ Tryz.f5, q5⟩, ⟨7, eZ Tryz.f7, q7⟩, ⟨8, eZ Tryz.f8, q8⟩, ⟨9, eZ Tryz.f9, q9⟩, ⟨10, eZ Tryz.f10, q10⟩, ⟨11, eZ Tryz.f11, q11⟩, ⟨12, eZ Tryz.f12, q12⟩, ⟨24, eZ Tryz.f24, q24⟩, ⟨25, eZ Tryz.f25, q25⟩, ⟨26, eZ Tryz.f26, q26⟩, ⟨27, eZ Tryz.f27, q27⟩, ⟨28, eZ Tryz.f28, q28⟩, ⟨29, eZ Tryz.f29, q29⟩, ⟨58, eZ Tryz.f58, q58⟩, ⟨59, eZ Tryz.f59, q59⟩, ⟨60, eZ Tryz.f60, q60⟩, ⟨61, eZ Tryz.f61, q61⟩, ⟨62, eZ Tryz.f62, q62⟩, ⟨63, eZ Tryz.f63, q63⟩, ⟨64, eZ Tryz.f64, q64⟩, ⟨103, eZ Tryz.f103, q103⟩, ⟨104, eZ Tryz.f104, q104⟩, ⟨105, eZ Tryz.f105, q105⟩, ⟨106, eZ Tryz.f106, q106⟩, ⟨107, eZ Tryz.f107, q107⟩, ⟨108, eZ Tryz.f108, q108⟩, ⟨139, eZ Tryz.f139, q139⟩, ⟨141, eZ Tryz.f141, q141⟩]
theorem qeL_ok : ∀ p ∈ qeL, QeOk p := by
  unfold qeL
  exact List.forall_mem_cons.2 ⟨k3, List.forall_mem_cons.2 ⟨k4, List.forall_mem_cons.2 ⟨k5, List.forall_mem_cons.2 ⟨k7, List.forall_mem_cons.2 ⟨k8, List.forall_mem_cons.2 ⟨k9, List.forall_mem_cons.2 ⟨k10, List.forall_mem_cons.2 ⟨k11, List.forall_mem_cons.2 ⟨k12, List.forall_mem_cons.2 ⟨k24, List.forall_mem_cons.2 ⟨k25, List.forall_mem_cons.2 ⟨k26, List.forall_mem_cons.2 ⟨k27, List.forall_mem_cons.2 ⟨k28, List.forall_mem_cons.2 ⟨k29, List.forall_mem_cons.2 ⟨k58, List.forall_mem_cons.2 ⟨k59, List.forall_mem_cons.2 ⟨k60, List.forall_mem_cons.2 ⟨k61, List.forall_mem_cons.2 ⟨k62, List.forall_mem_cons.2 ⟨k63, List.forall_mem_cons.2 ⟨k64, List.forall_mem_cons.2 ⟨k103, List.forall_mem_cons.2 ⟨k104, List.forall_mem_cons.2 ⟨k105, List.forall_mem_cons.2 ⟨k106, List.forall_mem_cons.2 ⟨k107, List.forall_mem_cons.2 ⟨k108, List.forall_mem_cons.2 ⟨k139, List.forall_mem_cons.2 ⟨k141, fun p hp => absurd hp List.not_mem_nil⟩⟩⟩⟩⟩⟩⟩⟩⟩⟩⟩⟩⟩⟩⟩⟩⟩⟩⟩⟩⟩⟩⟩⟩⟩⟩⟩⟩⟩⟩
noncomputable def tEL : T Ent := tabE qeL
noncomputable def tQL : T (Phi → HF) := tabP qeL
theorem tQL_ok : TabQ 1000000 tEL tQL := ⟨fun f => (tabE_get qeL_ok f).2, fun f x hx => by
  obtain ⟨q, h1, h2, _⟩ := (tabE_get qeL_ok f).1 x hx
  exact ⟨q, h1, h2⟩⟩
theorem tEL_ok : TabOk Tryz.prog 5 (fun _ => false) tEL := fun f x h => by
  obtain ⟨_, _, _, h3⟩ := (tabE_get qeL_ok f).1 x h
  exact h3
noncomputable def wkOk (σ : AH) : Bool := zA σ && funAM σ && globA σ 2 isTM && globA σ 3 isS && globA σ 4 isK
noncomputable def wkA (args : List AV) (σ : AH) : Out := match args with
  | [] => (wkOk σ, .bool true, σ)
  | _ => bad σ
noncomputable def wkF (g : FuncId → List AV → AH → Out) (f : FuncId) (args : List AV) (σ : AH) : Out := bif Nat.beq f 6 then wkA args σ else g f args σ
theorem wkF_ok {Y : List Yl} {g : FuncId → List AV → AH → Out} (hg : FnOk Tryz.prog 5 g Y) : FnOk Tryz.prog 5 (wkF g) Y := by
  have isS' : ∀ l, isS l = true → l = wI S0 := fun l h => by simpa [isS] using h
  have isK' : ∀ l, isK l = true → l = wI KK := fun l h => by simpa [isK] using h
  have isT' : ∀ l, isTM l = true → l = wI TM := fun l h => by simpa [isTM] using h
  intro f args σ h
  unfold wkF at h ⊢
  cases h14 : Nat.beq f 6
  case false => rw [h14] at h; rw [cond_false] at h ⊢; exact hg f args σ h
  rw [h14] at h
  have e := Nat.eq_of_beq_eq_true h14
  subst e
  simp only [cond_true] at h ⊢
  unfold wkA at h ⊢
  split at h
  case h_2 => cases h
  refine ⟨⟨_, Tryz.func6, by kernel_rfl, by kernel_rfl⟩, fun ρ W vs _ hG hr hvs => ?_⟩
  have hvs : vs = [] := hvs
  subst hvs
  dsimp only at h ⊢
  unfold wkOk at h
  simp only [Bool.and_eq_true] at h
  obtain ⟨⟨⟨⟨h1, h2⟩, h3⟩, h4⟩, h5⟩ := h
  obtain ⟨s4, hs4⟩ := hG 4 (by decide)
  refine (wakesM W ⟨z_of hr (hG 1 (by decide)) h1, fun_ofM hr (hG 0 (by decide)) h2, glob_of hr isT' rfl (hG 2 (by decide)) h3, glob_of hr isS' rfl (hG 3 (by decide)) h4, glob_of hr isK' rfl (hG 4 (by decide)) h5, (hr.dom _ _ _ hs4).2.1⟩).mono fun e W' ⟨e1, e2⟩ => ?_
  subst e1
  exact ⟨_, ρ, rfl, hr.below e2, Stp.below (Nat.le_refl _) e2, rfl⟩
noncomputable def gL : FuncId → List AV → AH → Out := wkF (mcF noF)
theorem gL_ok : FnOk Tryz.prog 5 gL [] := wkF_ok (mcF_ok noF_ok)
theorem gamL_ok : GamOk Tryz.prog 5 (Gam.grow std 1000000 tEL Sp.none (.of gL) 41) [] := (grow_ok mixed tEL_ok Sp.none_ok (fun f h => by cases h) 41 (.of gL_ok) hpu0').1
noncomputable def wkQ (l : List FV) (σ : FH) (k : KV) : FR := List.rec (motive := fun _ => FR) (gT (wkOk (αH σ)) (k (.b true) σ)) (fun _ _ _ => .bad) l
theorem wkQ_sm (l : List FV) (σ : FH) (k : KV) : Sm (wkQ l σ k) k (wkA (αL l) (αH σ)) := fun h => by
  cases l with
  | cons _ _ => exact absurd rfl h
  | nil =>
    obtain ⟨h1, h2⟩ := gT_cases h
    exact ⟨.b true, σ, by show (wkOk (αH σ), AV.bool true, αH σ) = _; rw [h1]; rfl, h2⟩
noncomputable def bQL : FuncId → HF := fun f l σ k => Bool.rec (Bool.rec .bad (cmQ l σ k) (Nat.beq f 140 || Nat.beq f 142)) (wkQ l σ k) (Nat.beq f 6)
theorem bQL_ok (f : FuncId) : HOk (bQL f) ((Gam.of gL).fn f) := fun l σ k => by
  show Sm (Bool.rec (Bool.rec .bad (cmQ l σ k) (Nat.beq f 140 || Nat.beq f 142)) (wkQ l σ k) (Nat.beq f 6)) k (gL f (αL l) (αH σ))
  have e : gL f (αL l) (αH σ) = bif Nat.beq f 6 then wkA (αL l) (αH σ) else bif Nat.beq f 140 || Nat.beq f 142 then cmA (αL l) (αH σ) else bad (αH σ) := by unfold gL wkF mcF noF; rfl
  rw [e]
  cases Nat.beq f 6 with
  | true => exact wkQ_sm l σ k
  | false =>
  cases Nat.beq f 140 || Nat.beq f 142 with
  | true => exact cmQ_sm l σ k
  | false =>
  exact Sm.bad
noncomputable def y0L : Nat → HF := fun _ _ _ _ => .bad
noncomputable def ΦL (n : Nat) : Phi := PhiG tQL n bQL y0L
theorem ΦL_at (n : Nat) {f : Nat} {q : Phi → HF} (h : tQL.get f = some q) : Phi.fn (ΦL (n + 1)) f = q (ΦL n) := by
  funext l σ k
  show tg tQL f (bQL f l σ k) (fun q => q (PhiG tQL n bQL y0L) l σ k) = _
  rw [tg_eq, h]; rfl
theorem ΦL_no (n : Nat) {f : Nat} (h : tQL.get f = none) : Phi.fn (ΦL (n + 1)) f = bQL f := by
  funext l σ k
  show tg tQL f (bQL f l σ k) (fun q => q (PhiG tQL n bQL y0L) l σ k) = _
  rw [tg_eq, h]
theorem at3 (n : Nat) : Phi.fn (ΦL (n + 1)) 3 = p3 stdO (ΦL n) := (ΦL_at n (q := q3) (by kernel_rfl)).trans (congrFun qp3 _)
theorem at4 (n : Nat) : Phi.fn (ΦL (n + 1)) 4 = p4 stdO (ΦL n) := (ΦL_at n (q := q4) (by kernel_rfl)).trans (congrFun qp4 _)
theorem at5 (n : Nat) : Phi.fn (ΦL (n + 1)) 5 = p5 stdO (ΦL n) := (ΦL_at n (q := q5) (by kernel_rfl)).trans (congrFun qp5 _)
theorem at7 (n : Nat) : Phi.fn (ΦL (n + 1)) 7 = p7 stdO (ΦL n) := (ΦL_at n (q := q7) (by kernel_rfl)).trans (congrFun qp7 _)
theorem at8 (n : Nat) : Phi.fn (ΦL (n + 1)) 8 = p8 stdO (ΦL n) := (ΦL_at n (q := q8) (by kernel_rfl)).trans (congrFun qp8 _)
theorem at9 (n : Nat) : Phi.fn (ΦL (n + 1)) 9 = p9 stdO (ΦL n) := (ΦL_at n (q := q9) (by kernel_rfl)).trans (congrFun qp9 _)
theorem at10 (n : Nat) : Phi.fn (ΦL (n + 1)) 10 = p10 stdO (ΦL n) := (ΦL_at n (q := q10) (by kernel_rfl)).trans (congrFun qp10 _)
theorem at11 (n : Nat) : Phi.fn (ΦL (n + 1)) 11 = p11 stdO (ΦL n) := (ΦL_at n (q := q11) (by kernel_rfl)).trans (congrFun qp11 _)
theorem at12 (n : Nat) : Phi.fn (ΦL (n + 1)) 12 = p12 stdO (ΦL n) := (ΦL_at n (q := q12) (by kernel_rfl)).trans (congrFun qp12 _)
theorem at24 (n : Nat) : Phi.fn (ΦL (n + 1)) 24 = p24 stdO (ΦL n) := (ΦL_at n (q := q24) (by kernel_rfl)).trans (congrFun qp24 _)
theorem at25 (n : Nat) : Phi.fn (ΦL (n + 1)) 25 = p25 stdO (ΦL n) := (ΦL_at n (q := q25) (by kernel_rfl)).trans (congrFun qp25 _)
theorem at26 (n : Nat) : Phi.fn (ΦL (n + 1)) 26 = p26 stdO (ΦL n) := (ΦL_at n (q := q26) (by kernel_rfl)).trans (congrFun qp26 _)
theorem at27 (n : Nat) : Phi.fn (ΦL (n + 1)) 27 = p27 stdO (ΦL n) := (ΦL_at n (q := q27) (by kernel_rfl)).trans (congrFun qp27 _)
theorem at28 (n : Nat) : Phi.fn (ΦL (n + 1)) 28 = p28 stdO (ΦL n) := (ΦL_at n (q := q28) (by kernel_rfl)).trans (congrFun qp28 _)
theorem at29 (n : Nat) : Phi.fn (ΦL (n + 1)) 29 = p29 stdO (ΦL n) := (ΦL_at n (q := q29) (by kernel_rfl)).trans (congrFun qp29 _)
theorem at58 (n : Nat) : Phi.fn (ΦL (n + 1)) 58 = p58 stdO (ΦL n) := (ΦL_at n (q := q58) (by kernel_rfl)).trans (congrFun qp58 _)
theorem at59 (n : Nat) : Phi.fn (ΦL (n + 1)) 59 = p59 stdO (ΦL n) := (ΦL_at n (q := q59) (by kernel_rfl)).trans (congrFun qp59 _)
theorem at60 (n : Nat) : Phi.fn (ΦL (n + 1)) 60 = p60 stdO (ΦL n) := (ΦL_at n (q := q60) (by kernel_rfl)).trans (congrFun qp60 _)
theorem at61 (n : Nat) : Phi.fn (ΦL (n + 1)) 61 = p61 stdO (ΦL n) := (ΦL_at n (q := q61) (by kernel_rfl)).trans (congrFun qp61 _)
theorem at62 (n : Nat) : Phi.fn (ΦL (n + 1)) 62 = p62 stdO (ΦL n) := (ΦL_at n (q := q62) (by kernel_rfl)).trans (congrFun qp62 _)
theorem at63 (n : Nat) : Phi.fn (ΦL (n + 1)) 63 = p63 stdO (ΦL n) := (ΦL_at n (q := q63) (by kernel_rfl)).trans (congrFun qp63 _)
theorem at64 (n : Nat) : Phi.fn (ΦL (n + 1)) 64 = p64 stdO (ΦL n) := (ΦL_at n (q := q64) (by kernel_rfl)).trans (congrFun qp64 _)
theorem at103 (n : Nat) : Phi.fn (ΦL (n + 1)) 103 = p103 stdO (ΦL n) := (ΦL_at n (q := q103) (by kernel_rfl)).trans (congrFun qp103 _)
theorem at104 (n : Nat) : Phi.fn (ΦL (n + 1)) 104 = p104 stdO (ΦL n) := (ΦL_at n (q := q104) (by kernel_rfl)).trans (congrFun qp104 _)
theorem at105 (n : Nat) : Phi.fn (ΦL (n + 1)) 105 = p105 stdO (ΦL n) := (ΦL_at n (q := q105) (by kernel_rfl)).trans (congrFun qp105 _)
theorem at106 (n : Nat) : Phi.fn (ΦL (n + 1)) 106 = p106 stdO (ΦL n) := (ΦL_at n (q := q106) (by kernel_rfl)).trans (congrFun qp106 _)
theorem at107 (n : Nat) : Phi.fn (ΦL (n + 1)) 107 = p107 stdO (ΦL n) := (ΦL_at n (q := q107) (by kernel_rfl)).trans (congrFun qp107 _)
theorem at108 (n : Nat) : Phi.fn (ΦL (n + 1)) 108 = p108 stdO (ΦL n) := (ΦL_at n (q := q108) (by kernel_rfl)).trans (congrFun qp108 _)
theorem at139 (n : Nat) : Phi.fn (ΦL (n + 1)) 139 = p139 stdO (ΦL n) := (ΦL_at n (q := q139) (by kernel_rfl)).trans (congrFun qp139 _)
theorem at141 (n : Nat) : Phi.fn (ΦL (n + 1)) 141 = p141 stdO (ΦL n) := (ΦL_at n (q := q141) (by kernel_rfl)).trans (congrFun qp141 _)
theorem at6 (n : Nat) : Phi.fn (ΦL (n + 1)) 6 = bQL 6 := ΦL_no n (by kernel_rfl)
theorem at140 (n : Nat) : Phi.fn (ΦL (n + 1)) 140 = bQL 140 := ΦL_no n (by kernel_rfl)
theorem at142 (n : Nat) : Phi.fn (ΦL (n + 1)) 142 = bQL 142 := ΦL_no n (by kernel_rfl)
theorem sMay (n : Nat) : MayS (Phi.fn (ΦL (n + 1)) 24) := by rw [at24]; exact may_s rfl _
theorem sSlc (n : Nat) : CloneS (Phi.fn (ΦL (n + 1)) 25) := by rw [at25]; exact slc_s rfl _
theorem sByc (n : Nat) : CloneS (Phi.fn (ΦL (n + 1)) 9) := by rw [at9]; exact byc_s rfl _
theorem sSeal (n : Nat) : SealNewS (Phi.fn (ΦL (n + 2)) 7) := by rw [at7]; exact sealNew_s rfl _ (sMay n) (sSlc n)
theorem sSealN (n : Nat) : SealNewN (Phi.fn (ΦL (n + 2)) 7) := by rw [at7]; exact sealNew_n rfl _ _ (at24 n)
theorem sSeq (n : Nat) : SeqNewS (Phi.fn (ΦL (n + 1)) 103) := by rw [at103]; exact seqNew_s rfl _
theorem sIn (n : Nat) : InNewS (Phi.fn (ΦL (n + 1)) 59) := by rw [at59]; exact inNew_s rfl _
theorem sWin (n : Nat) : WinNewS (Phi.fn (ΦL (n + 2)) 58) := by rw [at58]; exact winNew_s rfl _ (sSeq n)
theorem sArq (n : Nat) : ArqNewS (Phi.fn (ΦL (n + 3)) 26) := by rw [at26]; exact arqNew_s rfl _ (sWin n) (sIn (n + 1))
theorem sSpend (n : Nat) : CreS (Phi.fn (ΦL (n + 2)) 60) := by rw [at60]; exact spend_s rfl _ _ (at104 n)
theorem sGive (n : Nat) : CreS (Phi.fn (ΦL (n + 2)) 61) := by rw [at61]; exact give_s rfl _ _ (at104 n)
theorem sCopy (n : Nat) : CopyS (Phi.fn (ΦL (n + 3)) 62) := by rw [at62]; exact copy_s rfl _ _ _ (at105 (n + 1)) (at106 (n + 1)) (at107 (n + 1)) (at139 n) (fun l σ k => by rw [at140]; rfl) (at141 n) (fun l σ k => by rw [at142]; rfl)
theorem sMux (n : Nat) : MuxNewS (Phi.fn (ΦL (n + 4)) 27) := by rw [at27]; exact muxNew_s rfl _ (sSpend (n + 1)) (sGive (n + 1)) (sCopy n)
theorem sStream (n : Nat) : StreamS (Phi.fn (ΦL (n + 5)) 8) := by rw [at8]; exact stream_s rfl _ (sArq (n + 1)) (sMux n)
theorem sStreamN (n : Nat) : StreamS_n (Phi.fn (ΦL (n + 5)) 8) := by rw [at8]; exact stream_s_n rfl _ (sArq (n + 1)) (sMux n)
theorem sClient (n : Nat) : ClientNewS (Phi.fn (ΦL (n + 6)) 4) := by rw [at4]; exact clientNew_s rfl _ _ (sSeal (n + 3)) (sStream n) (sByc (n + 4)) (at10 (n + 4))
theorem sClientN (n : Nat) : ClientNewS_n (Phi.fn (ΦL (n + 6)) 4) := by rw [at4]; exact clientNew_s_n rfl _ _ (sSealN (n + 3)) (sStreamN n) (sByc (n + 4)) (at10 (n + 4))
theorem sRSeq (n : Nat) : RSeqS (Phi.fn (ΦL (n + 1)) 108) := by rw [at108]; exact rSeq_s rfl _
theorem sRWin (n : Nat) : RWinS (Phi.fn (ΦL (n + 2)) 63) := by rw [at63]; exact rWin_s rfl _ (sRSeq n)
theorem sRArq (n : Nat) : RArqS (Phi.fn (ΦL (n + 3)) 28) := by rw [at28]; exact rArq_s rfl _ (sRWin n)
theorem sRMay (n : Nat) : RMayS (Phi.fn (ΦL (n + 1)) 64) := by rw [at64]; exact rMay_s rfl _
theorem sRMux (n : Nat) : RMuxS (Phi.fn (ΦL (n + 2)) 29) := by rw [at29]; exact rMux_s rfl _ (sRMay n)
theorem sRStream (n : Nat) : RStreamS (Phi.fn (ΦL (n + 4)) 11) := by rw [at11]; exact rStream_s rfl _ (sRArq n) (sRMux (n + 1))
theorem sRStreamN (n : Nat) : RStreamS_n (Phi.fn (ΦL (n + 4)) 11) := by rw [at11]; exact rStream_s_n rfl _ (sRArq n) (sRMux (n + 1))
theorem sRNew (n : Nat) : RNewS (Phi.fn (ΦL (n + 5)) 5) := by rw [at5]; exact rNew_s rfl _ _ (sRStream n) (at12 (n + 3))
theorem sRNewN (n : Nat) : RNewS_n (Phi.fn (ΦL (n + 5)) 5) := by rw [at5]; exact rNew_s_n rfl _ _ (sRStreamN n) (at12 (n + 3))
end Go.Proofs.YtcbfjmjphpoimaaGreatDoor.V2
namespace Go.Proofs.YtcbfjmjphpoimaaGreatDoor.V2
open Go
set_option linter.unusedVariables false
set_option maxRecDepth 100000
open Go.RowKit
def memN (bs : List UInt8) : List AObj := memM ++ [.ints .u8 (bI bs) 5 .ro]
theorem packI_bI : ∀ bs : List UInt8, packI (bI bs) = some (pack bs)
  | [] => rfl
  | b :: bs => by
    have hb : b.toNat < 256 := b.toNat_lt
    show (bif Nat.blt b.toNat 256 then (packI (bI bs)).map fun c => b.toNat + 256 * c else none) = _
    rw [show Nat.blt b.toNat 256 = true by rw [Nat.blt_eq]; exact hb, cond_true, packI_bI bs]; rfl
noncomputable def sN (bs : List UInt8) : T FObj := (hL (memN bs)).mem.map βO
theorem sN_get (bs : List UInt8) (b : Nat) : (sN bs).get b = (memN bs)[b]?.map βO := by
  show ((hL (memN bs)).mem.map βO).get b = _
  rw [T.map_get]
  have := hL_get (l := memN bs) (by show 6 ≤ _; omega) b
  show ((hL (memN bs)).get b).map βO = _
  rw [this]
theorem sN_am (bs : List UInt8) : Am (sN bs) 5 (.bs (pack bs) 5 .ro) := by
  unfold Am
  rw [sN_get]
  show some (βO (.ints .u8 (bI bs) 5 .ro)) = _
  have : βO (.ints .u8 (bI bs) 5 .ro) = .bs (pack bs) 5 .ro := by
    simp only [βO, packI_bI]
  rw [this]
theorem sN_wk (bs : List UInt8) {n' : Nat} {m' : T FObj} (h : Kp 6 (sN bs) m') : wkOk (αH ⟨n', m'⟩) = true := by
  have g : ∀ b o, b < 5 → memM[b]? = some o → (αH ⟨n', m'⟩).get b = some o := fun b o hb ho => by
    rw [αH_get]
    have : Am (sN bs) b (βO o) := by
      unfold Am
      rw [sN_get]
      have : (memN bs)[b]? = some o := by
        unfold memN
        rw [List.getElem?_append_left (by show b < 5; omega)]; exact ho
      rw [this]; rfl
    have := h b _ (by omega) this
    unfold Am at this
    show (m'.get b).map αO = _
    rw [this, Option.map_some, αβO]
  unfold wkOk zA funAM globA
  rw [g 0 _ (by omega) rfl, g 1 _ (by omega) rfl, g 2 _ (by omega) rfl, g 3 _ (by omega) rfl, g 4 _ (by omega) rfl]
  clear g h
  decide +kernel
theorem wk_at (bs : List UInt8) (n : Nat) {n' : Nat} {m' : T FObj} {k : KV} (h : Kp 6 (sN bs) m') : Phi.fn (ΦL (n + 1)) 6 [] ⟨n', m'⟩ k = k (.b true) ⟨n', m'⟩ := by
  rw [at6]
  show gT (wkOk (αH ⟨n', m'⟩)) (k (.b true) ⟨n', m'⟩) = _
  rw [sN_wk bs h]; rfl
def kE : KV := fun v _ => .ok v ⟨0, .leaf⟩
theorem run_s (bs : List UInt8) {l : Nat} {f t c p : Int} : Phi.fn (ΦL 41) 3 [.agg [.sl 5 0 bs.length bs.length false 1, .n .u32 l, iF f, iF t, iF c, iF p]] ⟨6, sN bs⟩ kE = .ok (.b true) ⟨0, .leaf⟩ := by
  rw [at3]
  exact law_s rfl _ (sClient 34) (sRNew 35) (by omega) (by omega) (sN_am bs) (by rw [bl_pack]; omega) (Nat.le_refl _) (fun n' m' k h => wk_at bs 39 h) (fun n' m' => rfl)
theorem run_n {l : Nat} {f t c p : Int} : Phi.fn (ΦL 41) 3 [.agg [.o .sl, .n .u32 l, iF f, iF t, iF c, iF p]] ⟨6, sN []⟩ kE = .ok (.b true) ⟨0, .leaf⟩ := by
  rw [at3]
  exact law_n rfl _ (sClientN 34) (sRNewN 35) (by omega) (fun n' m' k h => wk_at [] 39 h) (fun n' m' => rfl)
theorem αV_iF (z : Int) : αV (iF z) = .int .i64 z := by cases z <;> rfl
noncomputable def rN (r : Option (Nat × (Nat × Nat))) : Ren := rL [some (0, (0, 6)), some (1, (0, 5)), some (2, (0, 16)), some (3, (0, 8)), some (4, (0, 64)), r]
theorem rN_glob (r : Option (Nat × (Nat × Nat))) : ∀ g, g < 5 → ∃ s, rN r g = some (g, (0, s)) := fun g hg => by
  match g, hg with
  | 0, _ => exact ⟨6, rfl⟩
  | 1, _ => exact ⟨5, rfl⟩
  | 2, _ => exact ⟨16, rfl⟩
  | 3, _ => exact ⟨8, rfl⟩
  | 4, _ => exact ⟨64, rfl⟩
theorem memN_sh (bs : List UInt8) : ∀ o ∈ memN bs, o.isSh = true := by
  intro o ho
  unfold memN at ho
  rcases List.mem_append.1 ho with h | h
  · exact memM_sh o h
  · simp only [List.mem_cons, List.not_mem_nil, or_false] at h
    subst h; rfl
theorem memN_ro (bs : List UInt8) : ∀ o ∈ memN bs, o.isRo = true := fun o ho => AObj.isSh_ro (memN_sh bs o ho)
theorem hrN {w : World} (h : GlobM w) (bs : List UInt8) (r : Option (Nat × (Nat × Nat))) (hr : ∀ c d, r = some (c, d) → c < w.heap.size ∧ ∀ ρ, OR ρ d (.ints .u8 (bI bs) 5 .ro) w.heap[c]?) : HR (rN r) (hL (memN bs)) w := by
  refine hr_ro (by show 6 ≤ _; omega) rfl (memN_sh bs) fun b c d o hb ho => ?_
  have hs := h.size
  match b with
  | 1 => cases hb; cases ho; exact ⟨by omega, or_ro (k := .i64) (l := zM) (Nat.le_refl _) fun i hi => by rw [Nat.zero_add]; exact h.z i hi⟩
  | 0 =>
    cases hb; cases ho
    refine ⟨by omega, or_croM (Nat.le_refl _) (by decide) fun i a hi => ?_⟩
    match i, hi with
    | 0, hi => cases hi; exact ⟨_, h.f 0 (by omega), rfl⟩
    | 1, hi => cases hi; exact ⟨_, h.f 1 (by omega), vr_fnM 250⟩
    | 2, hi => cases hi; exact ⟨_, h.f 2 (by omega), vr_fnM 250⟩
    | 3, hi => cases hi; exact ⟨_, h.f 3 (by omega), vr_fnM 251⟩
    | 4, hi => cases hi; exact ⟨_, h.f 4 (by omega), vr_fnM 252⟩
    | 5, hi => cases hi; exact ⟨_, h.f 5 (by omega), vr_fnM 250⟩
    | n + 6, hi => cases hi
  | 2 => cases hb; cases ho; exact ⟨by omega, row_ofM (T := TM) (n := 16) rfl (by decide +kernel) h.t rfl _⟩
  | 3 => cases hb; cases ho; exact ⟨by omega, row_ofM (T := S0) (n := 8) rfl (by decide +kernel) h.s rfl _⟩
  | 4 => cases hb; cases ho; exact ⟨by omega, row_ofM (T := KK) (n := 64) rfl (by decide +kernel) h.k rfl _⟩
  | 5 =>
    cases ho
    have hb : some r = some (some (c, d)) := hb
    obtain ⟨h1, h2⟩ := hr c d (Option.some.inj hb)
    exact ⟨h1, h2 _⟩
  | n + 6 => cases hb
theorem finish {w : World} (hG : GlobM w) {bs : List UInt8} {r : Option (Nat × (Nat × Nat))} (hr : ∀ c d, r = some (c, d) → c < w.heap.size ∧ ∀ ρ, OR ρ d (.ints .u8 (bI bs) 5 .ro) w.heap[c]?) {a : FV} {v : Value} {cs : List FV} {us : List Value} (hv : VR (rN r) (αV a) v) (hu : VRs (rN r) (αL cs) us)
    (hrun : Phi.fn (ΦL 41) 3 [.agg (a :: cs)] ⟨6, sN bs⟩ kE = .ok (.b true) ⟨0, .leaf⟩) : Calls Tryz.prog 3 #[.agg (v :: us).toArray] w fun e w' => e = .returned (.bool true) ∧ Below w.heap.size w w' := by
  have hΦ : PhiOk (ΦL 41) (Gam.grow std 1000000 tEL Sp.none (.of gL) 41) := PhiG_ok tQL_ok 41 bQL_ok fun j l σ k => Sm.bad
  have hσ : αH ⟨6, sN bs⟩ = hL (memN bs) := αβH (hL (memN bs))
  obtain ⟨x, σ', h1, h2⟩ := hΦ.fn 3 [.agg (a :: cs)] ⟨6, sN bs⟩ kE (by rw [hrun]; exact fun h => by cases h)
  rw [hrun] at h2
  rw [hσ] at h1
  cases h2
  have hh := hrN hG bs r hr
  refine ((gamL_ok.fn 3 (αL [.agg (a :: cs)]) (hL (memN bs)) (by rw [h1])).2 (rN r) w [.agg (v :: us).toArray] (fun y hy => absurd hy List.not_mem_nil) (rN_glob r) hh ⟨_, _, rfl, ⟨v :: us, rfl, ⟨v, us, rfl, hv, hu⟩⟩, rfl⟩).mono fun e W' ⟨u, ρ', e1, e2, e3, e4⟩ => ?_
  rw [h1] at e2 e3 e4
  subst e1
  refine ⟨by rw [show u = .bool true from e4], Below.ofStp (by show 6 ≤ _; omega) hh (memN_ro bs) e3⟩
theorem clientNewM (w : World) (hG : GlobM w) {v0 : Value} {bs : List UInt8} (hB : BSl w v0 bs) (l : Nat) (f t c p : Int) : Calls Tryz.prog 3 #[.agg #[v0, .int .u32 l, .int .i64 f, .int .i64 t, .int .i64 c, .int .i64 p]] w fun e w' => e = .returned (.bool true) ∧ Below w.heap.size w w' := by
  have hs := hG.size
  have hu : ∀ ρ : Ren, VRs ρ (αL [.n .u32 l, iF f, iF t, iF c, iF p]) [.int .u32 l, .int .i64 f, .int .i64 t, .int .i64 c, .int .i64 p] := fun ρ => by
    simp only [αL, αV_iF]
    exact ⟨_, _, rfl, rfl, _, _, rfl, rfl, _, _, rfl, rfl, _, _, rfl, rfl, _, _, rfl, rfl, rfl⟩
  rcases hB with ⟨rfl, rfl⟩ | ⟨b, off, cc, rfl, hc, hb, hcell⟩ | ⟨q, rfl, rfl⟩
  · exact finish hG (bs := []) (r := none) (fun c d h => by cases h) (a := .o .sl) rfl (hu _) run_n
  · refine finish hG (bs := bs) (r := some (b, (off, off + cc))) (fun c' d h => ?_) (a := .sl 5 0 bs.length bs.length false 1) ?_ (hu _) (run_s bs)
    · cases h
      exact ⟨hb, fun ρ => or_ro (by rw [bI_length]; omega) fun i hi => by rw [bI_getD]; exact hcell i (by rw [bI_length] at hi; exact hi)⟩
    · show VR _ (.sl 5 0 bs.length bs.length false 1) _
      unfold VR
      exact .inl ⟨b, (off, off + cc), off, cc, rfl, rfl, fun _ => by simp, Nat.le_refl _, hc, (fun h => by cases h), by show off + cc * 1 ≤ off + cc; omega⟩
  · refine finish hG (bs := []) (r := some (0, (0, 0))) (fun c' d h => ?_) (a := .sl 5 0 0 0 false 1) ?_ (hu _) (run_s [])
    · cases h
      exact ⟨by omega, fun ρ => or_ro (Nat.le_refl _) fun i hi => absurd hi (Nat.not_lt_zero _)⟩
    · show VR _ (.sl 5 0 0 0 false 1) _
      unfold VR
      exact .inr ⟨rfl, rfl, rfl, ⟨_, rfl⟩, q, rfl⟩
end Go.Proofs.YtcbfjmjphpoimaaGreatDoor.V2
namespace Go.Proofs.YtcbfjmjphpoimaaGreatDoor
open Go.ChangeShapes Go.WideShapes Go.ChangeAt Go.RowKit
section
variable {H : Type} {enc : TypeId × Value → H} {P : Program}
theorem trodAll_stays (hl : laidOutB P = true) {W W' : World} {sp' : Nat → Bool} : ∀ {ts : List TypeId} {vs : List Value} {ds : List (DataW H)} {ps : List MemPlace}, (∀ t ∈ ts, P.readableRec t = true ∧ t < P.types.size) →
    DataW.TrodAll enc P W 0 (fun _ => true) true ts vs ds ps → (∀ p ∈ ps, W.sameAt W' p) → (∀ p ∈ ps, sp' p.block = true) → DataW.TrodAll enc P W' 0 sp' true ts vs ds ps
  | [], _, _, _, _, h, _, _ => by
    obtain ⟨rfl, rfl, rfl⟩ := trodAll_nil h
    exact trodAll_mk0
  | t :: ts, _, _, _, ht, h, h1, h2 => by
    obtain ⟨v, vs1, d, ds1, a, b, rfl, rfl, rfl, ha, hb⟩ := trodAll_cons h
    exact trodAll_cons_mk (WideElems.Trod_stays hl (ht t (by simp)).1 (ht t (by simp)).2 ha (fun p hp => h1 p (by simp [hp])) (fun p hp => h2 p (by simp [hp])))
      (trodAll_stays hl (fun t' h' => ht t' (by simp [h'])) hb (fun p hp => h1 p (by simp [hp])) (fun p hp => h2 p (by simp [hp])))
theorem post_of_below {f : Func} {s : ChangeSpec} {apart fresh handsOn again : Bool} {W W' : World} {args : Array Value} {v : Value} {ds gs : List (DataW H)} {before : List MemPlace}
    (hW : DataW.Whole enc P f.params.toList s.vars apart W args.toList ds gs before) (hl : laidOutB P = true) (hsv : s.vars = []) (hts : ∀ t ∈ f.params.toList, P.readableRec t = true ∧ t < P.types.size)
    (hb : Below W.heap.size W W') (ha : (s.fn H (ds ++ gs)).args = ds) (hgv : (s.fn H (ds ++ gs)).vars = [])
    (hres : ∀ (b : Nat) (sp : Nat → Bool) (hd : Bool), DataW.TrodAll enc P W' b sp hd f.resultTypes.toList (v.resultList f.resultTypes.size) (s.fn H (ds ++ gs)).results [])
    (hok : ∀ (j : Nat) (t : TypeId) (r : Value), f.resultTypes[j]? = some t → (v.resultList f.resultTypes.size)[j]? = some r → Value.okWide P W' .any 0 t r) :
    s.post enc P f apart fresh handsOn again W args v W' := by
  have hlt := hW.lt
  have hW0 := hW
  obtain ⟨p, q, hA0, hV, rfl, hz, hn⟩ := hW
  have hA : DataW.TrodAll enc P W 0 (fun _ => true) true f.params.toList args.toList ds p := hA0
  rw [hsv] at hV
  obtain ⟨rfl, rfl⟩ := trodVars_none hV
  rw [List.append_nil] at hlt hz hn
  have hs : ∀ x ∈ p, W.sameAt W' x := fun x hx => hb.same (hlt x hx)
  have hargs : ∀ sp : Nat → Bool, (∀ x ∈ p, sp x.block = true) → DataW.TrodAll enc P W' 0 sp true f.params.toList args.toList (s.fn H (ds ++ [])).args p := fun sp hsp => by
    rw [ha]; exact trodAll_stays hl hts hA hs hsp
  have hvars : ∀ sp : Nat → Bool, DataW.TrodVars enc P W' sp s.vars (s.fn H (ds ++ [])).vars [] := fun sp => by rw [hgv, hsv]; rfl
  have hold : ∀ x ∈ p, (fun b => decide (b < W.heap.size)) x.block = true := fun x hx => by simpa using hlt x hx
  refine ⟨ds, [], p ++ [], [], p, [], hW0, hres _ _ _, hargs _ hold, hvars _, ?_, fun _ => ?_⟩
  · exact hb.frame _
  · refine ⟨hok, _, _, ([] ++ p) ++ [], ⟨[] ++ p, [], trodAll_append (hargs _ (fun _ _ => rfl)) (hres _ _ _), hvars _, rfl, ?_, ?_⟩, ?_⟩
    · intro b off hp
      simp only [List.nil_append, List.append_nil] at hp
      rw [hb.frozen (hlt _ hp)]
      exact hz b off hp
    · intro h'
      simpa using hn h'
    · intro x hx _
      simpa using hx
end
theorem laidOut : laidOutB Tryz.prog = true := by kernel_rfl
theorem own : ownKnob Tryz.prog.godebug = none := by kernel_rfl
/-! The program's tables. -/
theorem gStart : Tryz.prog.globalNamed "longwire/hash.start" = some 3 := by kernel_rfl
theorem gConst : Tryz.prog.globalNamed "longwire/hash.constants" = some 4 := by kernel_rfl
theorem gTable : Tryz.prog.globalNamed "longwire/scribe.table" = some 2 := by kernel_rfl
theorem gMay : Tryz.prog.globalNamed "longwire/frame.may" = some 0 := by kernel_rfl
theorem gStartType : (Tryz.prog.globals[3]?).map (·.type) = some 341 := by kernel_rfl
theorem gConstType : (Tryz.prog.globals[4]?).map (·.type) = some 359 := by kernel_rfl
theorem gTableType : (Tryz.prog.globals[2]?).map (·.type) = some 306 := by kernel_rfl
theorem gMayType : (Tryz.prog.globals[0]?).map (·.type) = some 274 := by kernel_rfl
theorem cells23_ : Tryz.prog.cellsOf 23 = 1 := by kernel_rfl
theorem cells351_ : Tryz.prog.cellsOf 341 = 8 := by kernel_rfl
theorem cells374_ : Tryz.prog.cellsOf 359 = 64 := by kernel_rfl
theorem cells349_ : Tryz.prog.cellsOf 306 = 16 := by kernel_rfl
theorem cells325_ : Tryz.prog.cellsOf 273 = 1 := by kernel_rfl
theorem tabS_eq {H : Type} : (Rows.laid_longwire_hash_start : DataW H) = Lib.tabData .u32 (S0.map N32) := by kernel_rfl
theorem tabK_eq {H : Type} : (Rows.laid_longwire_hash_constants : DataW H) = Lib.tabData .u32 (KK.map N32) := by kernel_rfl
theorem tabT_eq {H : Type} : (Rows.laid_longwire_scribe_table : DataW H) = Lib.tabData .u32 (V2.TM.map N32) := by kernel_rfl
theorem row_laid {W : World} {name : String} {g t : Nat} {n : Nat} {T : List UInt32} {data : DataW Unit} {rest : List (String × DataW Unit)} (hg : Tryz.prog.globalNamed name = some g) (ht : (Tryz.prog.globals[g]?).map (·.type) = some t)
    (hu : Tryz.prog.underlying t = some (.array n 23)) (hc : Tryz.prog.cellsOf t = n) (hd : data = Lib.tabData .u32 (T.map N32)) (h : laidMet Tryz.prog ((name, data) :: rest) W) : ∀ i, i < T.length → W.cell? ⟨g, i, none⟩ = some (.int .u32 (N32 (at32 T i))) := by
  rw [hd] at h
  intro i hi
  have := (Lib.tabIs_of_head hg ht hu Tryz.underlying23 cells23_ hc h).cell hg i (by simpa using hi)
  rw [this]
  simp [at32, List.getD_eq_getElem?_getD, hi]
theorem nil_of_trod {w : World} {sp : Nat → Bool} {fuel : Nat} {t : TypeId} {ps rs : Array TypeId} {va : Bool} {v : Value} {q : List MemPlace} (ht : Tryz.prog.underlying t = some (.func ps rs va))
    (h : DataW.trod (funcToken Tryz.prog) Tryz.prog w 0 sp true fuel t [v] = some (.nil, q)) : v = .nilFunc := by
  cases fuel with
  | zero => simp [DataW.trod] at h
  | succ n => cases v <;> simp [DataW.trod, ht] at h ⊢
set_option maxRecDepth 100000 in
theorem globF_of {W : World} (h : funcsAt Tryz.prog W "longwire/frame.may" (.agg [.nil, .iface "func" (.lit (.string [108, 111, 110, 103, 119, 105, 114, 101, 47, 102, 114, 97, 109, 101, 46, 98, 97, 114, 101])), .iface "func" (.lit (.string [108, 111, 110, 103, 119, 105, 114, 101, 47, 102, 114, 97, 109, 101, 46, 98, 97, 114, 101])), .iface "func" (.lit (.string [108, 111, 110, 103, 119, 105, 114, 101, 47, 102, 114, 97, 109, 101, 46, 109, 97, 121, 36, 49])), .iface "func" (.lit (.string [108, 111, 110, 103, 119, 105, 114, 101, 47, 102, 114, 97, 109, 101, 46, 109, 97, 121, 36, 50])), .iface "func" (.lit (.string [108, 111, 110, 103, 119, 105, 114, 101, 47, 102, 114, 97, 109, 101, 46, 98, 97, 114, 101]))])) : V2.GlobFM W := by
  obtain ⟨g, t, cs, fuel, p, hg, ht, hv, hd⟩ := h
  obtain rfl := Option.some.inj (gMay.symm.trans hg)
  obtain rfl := Option.some.inj (gMayType.symm.trans ht)
  obtain ⟨xs, m, _, hx, _, hlen, hel⟩ := DataW.trod_array Tryz.underlying274 hd
  rw [cells325_] at hel
  have hx2 : (DataW.agg ([.nil, .held [108, 111, 110, 103, 119, 105, 114, 101, 47, 102, 114, 97, 109, 101, 46, 98, 97, 114, 101], .held [108, 111, 110, 103, 119, 105, 114, 101, 47, 102, 114, 97, 109, 101, 46, 98, 97, 114, 101], .held [108, 111, 110, 103, 119, 105, 114, 101, 47, 102, 114, 97, 109, 101, 46, 109, 97, 121, 36, 49], .held [108, 111, 110, 103, 119, 105, 114, 101, 47, 102, 114, 97, 109, 101, 46, 109, 97, 121, 36, 50], .held [108, 111, 110, 103, 119, 105, 114, 101, 47, 102, 114, 97, 109, 101, 46, 98, 97, 114, 101]] : List (DataW (List UInt8))), p) = (.agg (xs.map (·.1)), xs.flatMap (·.2)) := hx
  have hx1 : xs.map (·.1) = ([.nil, .held [108, 111, 110, 103, 119, 105, 114, 101, 47, 102, 114, 97, 109, 101, 46, 98, 97, 114, 101], .held [108, 111, 110, 103, 119, 105, 114, 101, 47, 102, 114, 97, 109, 101, 46, 98, 97, 114, 101], .held [108, 111, 110, 103, 119, 105, 114, 101, 47, 102, 114, 97, 109, 101, 46, 109, 97, 121, 36, 49], .held [108, 111, 110, 103, 119, 105, 114, 101, 47, 102, 114, 97, 109, 101, 46, 109, 97, 121, 36, 50], .held [108, 111, 110, 103, 119, 105, 114, 101, 47, 102, 114, 97, 109, 101, 46, 98, 97, 114, 101]] : List (DataW (List UInt8))) := (DataW.agg.inj (Prod.mk.inj hx2).1).symm
  have key : ∀ (i : Nat) (d : DataW (List UInt8)), i < 6 → ([.nil, .held [108, 111, 110, 103, 119, 105, 114, 101, 47, 102, 114, 97, 109, 101, 46, 98, 97, 114, 101], .held [108, 111, 110, 103, 119, 105, 114, 101, 47, 102, 114, 97, 109, 101, 46, 98, 97, 114, 101], .held [108, 111, 110, 103, 119, 105, 114, 101, 47, 102, 114, 97, 109, 101, 46, 109, 97, 121, 36, 49], .held [108, 111, 110, 103, 119, 105, 114, 101, 47, 102, 114, 97, 109, 101, 46, 109, 97, 121, 36, 50], .held [108, 111, 110, 103, 119, 105, 114, 101, 47, 102, 114, 97, 109, 101, 46, 98, 97, 114, 101]] : List (DataW (List UInt8)))[i]? = some d → ∃ v q, cs[i]? = some v ∧ DataW.trod (funcToken Tryz.prog) Tryz.prog W 0 (fun _ => true) true m 273 [v] = some (d, q) := fun i d hi hd => by
    have h1 := hel i hi
    rw [← hx1, List.getElem?_map, Option.map_eq_some_iff] at hd
    obtain ⟨⟨d', q⟩, hq, rfl⟩ := hd
    rw [hq, Nat.mul_one] at h1
    cases hc : cs.toList.drop i with
    | nil => rw [hc] at h1; cases m <;> simp [DataW.trod, Tryz.underlying273] at h1
    | cons v r =>
      rw [hc] at h1
      refine ⟨v, q, ?_, h1⟩
      rw [← Array.getElem?_toList, ← Nat.add_zero i, ← List.getElem?_drop, hc]; rfl
  intro i hi
  rw [World.var?_cell hg hv i]
  match i, hi with
  | 0, _ =>
    obtain ⟨v, q, hc, hr⟩ := key 0 _ (by omega) rfl
    rw [hc]
    rw [nil_of_trod Tryz.underlying273 hr]; rfl
  | 1, _ =>
    obtain ⟨v, q, hc, hr⟩ := key 1 _ (by omega) rfl
    rw [hc]
    rw [func_of_trod (f0 := 250) Tryz.underlying273 (by kernel_rfl) hr]; rfl
  | 2, _ =>
    obtain ⟨v, q, hc, hr⟩ := key 2 _ (by omega) rfl
    rw [hc]
    rw [func_of_trod (f0 := 250) Tryz.underlying273 (by kernel_rfl) hr]; rfl
  | 3, _ =>
    obtain ⟨v, q, hc, hr⟩ := key 3 _ (by omega) rfl
    rw [hc]
    rw [func_of_trod (f0 := 251) Tryz.underlying273 (by kernel_rfl) hr]; rfl
  | 4, _ =>
    obtain ⟨v, q, hc, hr⟩ := key 4 _ (by omega) rfl
    rw [hc]
    rw [func_of_trod (f0 := 252) Tryz.underlying273 (by kernel_rfl) hr]; rfl
  | 5, _ =>
    obtain ⟨v, q, hc, hr⟩ := key 5 _ (by omega) rfl
    rw [hc]
    rw [func_of_trod (f0 := 250) Tryz.underlying273 (by kernel_rfl) hr]; rfl
theorem gFrom : Tryz.prog.globalNamed "longwire/mux.from" = some 1 := by kernel_rfl
theorem gFromType : (Tryz.prog.globals[1]?).map (·.type) = some 172 := by kernel_rfl
theorem cells3_ : Tryz.prog.cellsOf 3 = 1 := by kernel_rfl
theorem cells200_ : Tryz.prog.cellsOf 172 = 5 := by kernel_rfl
theorem globZ_of {W : World} {rest : List (String × DataW Unit)} (h : laidMet Tryz.prog (("longwire/mux.from", Rows.laid_longwire_mux_from) :: rest) W) : V2.GlobZM W := by
  have e : (Rows.laid_longwire_mux_from : DataW Unit) = Lib.tabData .i64 V2.zM := by kernel_rfl
  rw [e] at h
  intro i hi
  have hi' : i < V2.zM.length := hi
  have := (Lib.tabIs_of_head gFrom gFromType Tryz.underlying172 Tryz.underlying3 cells3_ cells200_ h).cell gFrom i hi'
  rw [this]
theorem globs_of {W : World} (h : laidMetH Tryz.prog Rows.clientNewRow.laid W) : V2.GlobM W := by
  have hd : laidMet Tryz.prog [("longwire/hash.start", Rows.laid_longwire_hash_start), ("longwire/hash.constants", Rows.laid_longwire_hash_constants), ("longwire/scribe.table", Rows.laid_longwire_scribe_table), ("longwire/mux.from", Rows.laid_longwire_mux_from)] W := h.1
  have hK := row_laid gConst gConstType Tryz.underlying359 cells374_ tabK_eq hd.tail
  refine ⟨globZ_of hd.tail.tail.tail, globF_of (h.funcs (by simp [Rows.clientNewRow, Rows.laid_longwire_frame_may])), row_laid gTable gTableType Tryz.underlying306 cells349_ tabT_eq hd.tail.tail, row_laid gStart gStartType Tryz.underlying341 cells351_ tabS_eq hd, hK, ?_⟩
  have := hK 0 (by decide)
  unfold World.cell? at this
  split at this
  · rename_i hh; exact (Array.getElem?_eq_some_iff.1 hh).1
  · cases this
theorem cellsB5 : Tryz.prog.cellsOf 5 = 1 := by kernel_rfl
def toB (zs : List Int) : List UInt8 := zs.map fun z => UInt8.ofNat z.toNat
theorem toB_length (zs : List Int) : (toB zs).length = zs.length := by simp [toB]
theorem toB_at {zs : List Int} (h : ∀ n ∈ zs, (Lit.int .u8 n).wf = true) {j : Nat} (hj : j < zs.length) : N8 (at8 (toB zs) j) = zs.getD j 0 := by
  have h1 := h zs[j] (List.getElem_mem hj)
  simp only [Lit.wf, Bool.and_eq_true, decide_eq_true_eq] at h1
  have h2 : (0 : Int) ≤ zs[j] ∧ zs[j] ≤ 255 := h1
  unfold N8 at8 toB
  rw [List.getD_eq_getElem?_getD, List.getD_eq_getElem?_getD, List.getElem?_map, List.getElem?_eq_getElem hj]
  simp only [Option.map_some, Option.getD_some]
  rw [UInt8.toNat_ofNat']
  omega
theorem add_none {a : Addr} (h : a.spot = none) (j : Nat) : a.add j = ⟨a.block, a.off + j, none⟩ := by
  obtain ⟨b, o, sp⟩ := a
  cases h
  unfold Addr.add; split <;> simp_all
theorem spot_of_cell {w : World} {a : Addr} {v : Value} (h : w.cell? (a.add 0) = some v) : a.spot = none ∧ a.block < w.heap.size := by
  have e : a.add 0 = a := by unfold Addr.add; simp
  rw [e] at h
  unfold World.cell? at h
  split at h
  · rename_i hh
    refine ⟨?_, (Array.getElem?_eq_some_iff.1 hh).1⟩
    cases hs : a.spot with
    | none => rfl
    | some x => simp [hs] at h
  · cases h
theorem bsl_of {W : World} {A : Option Addr} {L C : Nat} {zs : List Int} (hl : L ≤ C) (hz : zs.length = C) (hw : ∀ n ∈ zs, (Lit.int .u8 n).wf = true) (h0 : A = none → C = 0)
    (hc : ∀ a, A = some a → ∀ c, c < C → W.cell? (a.add c) = some (.int .u8 (zs.getD c 0))) : BSl W (.slice A L C) (toB (zs.take L)) := by
  have hlen : (toB (zs.take L)).length = L := by rw [toB_length, List.length_take]; omega
  cases A with
  | none =>
    have := h0 rfl
    subst this
    obtain rfl : L = 0 := by omega
    exact .inl ⟨rfl, rfl⟩
  | some a =>
    by_cases hC : C = 0
    · subst hC
      obtain rfl : L = 0 := by omega
      exact .inr (.inr ⟨a, rfl, rfl⟩)
    · obtain ⟨hs, hb⟩ := spot_of_cell (hc a rfl 0 (by omega))
      refine .inr (.inl ⟨a.block, a.off, C, by rw [hlen]; obtain ⟨b, o, sp⟩ := a; cases hs; rfl, by rw [hlen]; exact hl, hb, fun j hj => ?_⟩)
      rw [hlen] at hj
      have := hc a rfl j (by omega)
      rw [add_none hs] at this
      rw [this, toB_at (fun n hn => hw n (List.mem_of_mem_take hn)) (by rw [List.length_take]; omega)]
      rw [List.getD_eq_getElem?_getD, List.getD_eq_getElem?_getD, List.getElem?_take, if_pos hj]
set_option maxRecDepth 100000 in
theorem open_bytes1 {H : Type} {enc : TypeId × Value → H} {W : World} {n : Nat} {cs : List Value} {x : DataW H × List MemPlace} (h : DataW.trod enc Tryz.prog W 0 (fun _ => true) true n 22 cs = some x) :
    ∃ v bs, cs = [v] ∧ BSl W v bs ∧ bs.length ≤ 9223372036854775807 := by
  rcases open_ints Tryz.underlying22 Tryz.underlying5 cellsB5 h with ⟨e, _⟩ | ⟨a, len, cap, zs, e, _, hl, hm, hz, _, hc, hw⟩
  · exact ⟨_, [], e, .inl ⟨rfl, rfl⟩, Nat.zero_le _⟩
  · simp only [if_true] at hz
    have hB := bsl_of (W := W) (A := some a) hl hz hw (fun h => by cases h) (fun a' ha c hc' => by cases ha; exact hc c (by omega))
    refine ⟨_, _, e, hB, ?_⟩
    rw [toB_length, List.length_take]
    unfold maxLen at hm
    omega
theorem cellsCF : Tryz.prog.cellsOf 25 = 6 := by kernel_rfl
theorem cellsSB : Tryz.prog.cellsOf 22 = 1 := by kernel_rfl
theorem cellsU : Tryz.prog.cellsOf 23 = 1 := by kernel_rfl
theorem cellsI : Tryz.prog.cellsOf 2 = 1 := by kernel_rfl
theorem cellsN : Tryz.prog.cellsOf 3 = 1 := by kernel_rfl
set_option maxRecDepth 100000 in
theorem open_cfg {H : Type} {enc : TypeId × Value → H} {W : World} {v : Value} {d : DataW H} {p : List MemPlace} {r : Reach} {base : Nat} (hv : Value.okWide Tryz.prog W r base 25 v) (h : DataW.Trod enc Tryz.prog W 0 (fun _ => true) true 25 v d p) :
    ∃ v0 bs, ∃ l : Nat, ∃ f t c p : Int, v = .agg #[v0, .int .u32 l, .int .i64 f, .int .i64 t, .int .i64 c, .int .i64 p] ∧ BSl W v0 bs := by
  obtain ⟨cs, rfl, hsz⟩ := okWide_struct Tryz.underlying25 hv
  rw [cellsCF] at hsz
  obtain ⟨n, h⟩ := h
  obtain ⟨xs, m, rfl, _, hlen, hxl, hf⟩ := DataW.trod_struct Tryz.underlying25 h
  have hl : cs.toList.length = 6 := by simpa using hsz
  obtain ⟨a0, a1, a2, a3, a4, a5, hcs⟩ : ∃ a0 a1 a2 a3 a4 a5, cs.toList = [a0, a1, a2, a3, a4, a5] := by
    match h : cs.toList, hl with
    | [a0, a1, a2, a3, a4, a5], _ => exact ⟨a0, a1, a2, a3, a4, a5, rfl⟩
  have hcs' : cs = #[a0, a1, a2, a3, a4, a5] := by
    apply Array.ext'
    exact hcs
  subst hcs'
  have x0 : DataW.trod enc Tryz.prog W 0 (fun _ => true) true m 22 (([a0, a1, a2, a3, a4, a5].drop 0).take (Tryz.prog.cellsOf 22)) = xs[0]? := hf 0 _ rfl
  rw [cellsSB, List.getElem?_eq_getElem (by rw [hxl]; decide)] at x0
  have x1 : DataW.trod enc Tryz.prog W 0 (fun _ => true) true m 23 (([a0, a1, a2, a3, a4, a5].drop 1).take (Tryz.prog.cellsOf 23)) = xs[1]? := hf 1 _ rfl
  rw [cellsU, List.getElem?_eq_getElem (by rw [hxl]; decide)] at x1
  have x2 : DataW.trod enc Tryz.prog W 0 (fun _ => true) true m 2 (([a0, a1, a2, a3, a4, a5].drop 2).take (Tryz.prog.cellsOf 2)) = xs[2]? := hf 2 _ rfl
  rw [cellsI, List.getElem?_eq_getElem (by rw [hxl]; decide)] at x2
  have x3 : DataW.trod enc Tryz.prog W 0 (fun _ => true) true m 2 (([a0, a1, a2, a3, a4, a5].drop 3).take (Tryz.prog.cellsOf 2)) = xs[3]? := hf 3 _ rfl
  rw [cellsI, List.getElem?_eq_getElem (by rw [hxl]; decide)] at x3
  have x4 : DataW.trod enc Tryz.prog W 0 (fun _ => true) true m 3 (([a0, a1, a2, a3, a4, a5].drop 4).take (Tryz.prog.cellsOf 3)) = xs[4]? := hf 4 _ rfl
  rw [cellsN, List.getElem?_eq_getElem (by rw [hxl]; decide)] at x4
  have x5 : DataW.trod enc Tryz.prog W 0 (fun _ => true) true m 2 (([a0, a1, a2, a3, a4, a5].drop 5).take (Tryz.prog.cellsOf 2)) = xs[5]? := hf 5 _ rfl
  rw [cellsI, List.getElem?_eq_getElem (by rw [hxl]; decide)] at x5
  obtain ⟨v0, bs, e0, hB, _⟩ := open_bytes1 x0
  obtain ⟨z1, e1, _, w1⟩ := DataW.trod_int Tryz.underlying23 x1
  obtain ⟨z2, e2, _, _⟩ := DataW.trod_int Tryz.underlying2 x2
  obtain ⟨z3, e3, _, _⟩ := DataW.trod_int Tryz.underlying2 x3
  obtain ⟨z4, e4, _, _⟩ := DataW.trod_int Tryz.underlying3 x4
  obtain ⟨z5, e5, _, _⟩ := DataW.trod_int Tryz.underlying2 x5
  have e0 : [a0] = [v0] := e0
  have e1 : [a1] = [Value.int .u32 z1] := e1
  have e2 : [a2] = [Value.int .i64 z2] := e2
  have e3 : [a3] = [Value.int .i64 z3] := e3
  have e4 : [a4] = [Value.int .i64 z4] := e4
  have e5 : [a5] = [Value.int .i64 z5] := e5
  cases e0; cases e1; cases e2; cases e3; cases e4; cases e5
  have hz : (0 : Int) ≤ z1 := by
    simp only [Lit.wf, Bool.and_eq_true, decide_eq_true_eq] at w1
    exact w1.1
  refine ⟨_, bs, z1.toNat, z2, z3, z4, z5, ?_, hB⟩
  rw [Int.toNat_of_nonneg hz]
end Go.Proofs.YtcbfjmjphpoimaaGreatDoor
