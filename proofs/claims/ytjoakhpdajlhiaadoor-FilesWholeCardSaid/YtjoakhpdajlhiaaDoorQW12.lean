/- Part 12 of the proof: texts of the proof. -/
import Derived.Test.YtjoakhpdajlhiaaDoorQW11
namespace Go.Proofs.YtjoakhpdajlhiaaDoor.V2.S
open Go
set_option maxRecDepth 100000
set_option linter.unusedVariables false
theorem good_of {n : Bs} (h : nameB n = true) : Good n := by
  have h' := h
  unfold nameB at h
  simp only [Bool.and_eq_true, decide_eq_true_eq, Bool.not_eq_true'] at h
  obtain ⟨⟨⟨⟨h1, h2⟩, h3⟩, h4⟩, h5⟩ := h
  refine ⟨h', ?_, h1, h2, h3⟩
  unfold countS
  rw [List.count_eq_zero]
  intro hm
  rw [List.any_eq_false] at h5
  exact h5 47 hm (by decide)
structure St (t : Tr) (a : Bs) (ns : List Bs) : Prop where
  g : ∀ x ∈ ns, Good x
  e : a = dirP ns
  k : ∀ j, j < ns.length → kindG t (dirP (ns.take j)) = 1
theorem dirP_long {a : List Bs} {n : Bs} (hn : Good n) : dirP (a ++ [n]) ≠ [47] := by
  rw [dirP_snoc]
  intro h
  have := congrArg List.length h
  have h1 := List.length_pos_iff.2 hn.e1
  simp only [List.length_append, List.length_cons, List.length_nil] at this
  omega
theorem dirP_inj {a b : List Bs} (ha : ∀ x ∈ a, Good x) (hb : ∀ x ∈ b, Good x) (h : dirP a = dirP b) : a = b := by
  rcases List.eq_nil_or_concat a with rfl | ⟨c, x, rfl⟩
  · rcases List.eq_nil_or_concat b with rfl | ⟨d, y, rfl⟩
    · rfl
    · rw [List.concat_eq_append] at *
      exact absurd h.symm (dirP_long (hb y (by simp)))
  · rw [List.concat_eq_append] at *
    rcases List.eq_nil_or_concat b with rfl | ⟨d, y, rfl⟩
    · exact absurd h (dirP_long (ha x (by simp)))
    · rw [List.concat_eq_append] at *
      rw [dirP, if_neg (by simp), dirP, if_neg (by simp)] at h
      have := congrArg splitB h
      rw [split_pF fun n hn => (ha n hn).c0, split_pF fun n hn => (hb n hn).c0] at this
      exact (List.cons.inj this).2
theorem kind_some {t : Tr} {p : Bs} (h : kindG t p ≠ 0) (hp : p ≠ [47]) : ∃ e, look t p = some e ∧ e ∈ t.L ∧ e.path = p ∧ kindG t p = if e.dir then 1 else 2 := by
  unfold kindG at h ⊢
  rw [if_neg hp] at h ⊢
  cases hl : look t p with
  | none => rw [hl] at h; exact absurd rfl h
  | some e => exact ⟨e, rfl, look_in hl, (look_sizes hl).2, rfl⟩
theorem kind_of {t : Tr} {p : Bs} {e : En} (hl : look t p = some e) (hp : p ≠ [47]) : kindG t p = if e.dir then 1 else 2 := by
  unfold kindG; rw [if_neg hp, hl]
theorem kind_no {t : Tr} {p : Bs} (hl : look t p = none) (hp : p ≠ [47]) : kindG t p = 0 := by
  unfold kindG; rw [if_neg hp, hl]
theorem kind_le (t : Tr) (p : Bs) : kindG t p = 0 ∨ kindG t p = 1 ∨ kindG t p = 2 := by
  unfold kindG
  split
  · exact .inr (.inl rfl)
  split
  · split
    · exact .inr (.inl rfl)
    · exact .inr (.inr rfl)
  · exact .inl rfl
structure OkT (t : Tr) : Prop where
  en : ∀ e ∈ t.L, ∃ ns n, (∀ x ∈ ns, Good x) ∧ Good n ∧ e.path = dirP (ns ++ [n]) ∧ kindG t (dirP ns) = 1
  cw : ∃ ns, (∀ x ∈ ns, Good x) ∧ t.cwd = dirP ns ∧ kindG t t.cwd = 1
  dd : ∀ e ∈ t.L, e.dir = true → e.data = []
theorem OkT.up {t : Tr} (h : OkT t) {ms : List Bs} {n : Bs} (hm : ∀ x ∈ ms, Good x) (hn : Good n) (hk : kindG t (dirP (ms ++ [n])) ≠ 0) : kindG t (dirP ms) = 1 := by
  obtain ⟨e, h1, h2, h3, _⟩ := kind_some hk (dirP_long hn)
  obtain ⟨ns, n', g1, g2, g3, g4⟩ := h.en e h2
  have : ms ++ [n] = ns ++ [n'] := dirP_inj (fun x hx => (List.mem_append.1 hx).elim (hm x) fun h => by rw [List.mem_singleton.1 h]; exact hn) (fun x hx => (List.mem_append.1 hx).elim (g1 x) fun h => by rw [List.mem_singleton.1 h]; exact g2) (h3.symm.trans g3)
  obtain ⟨rfl, _⟩ := List.append_inj' this rfl
  exact g4
theorem OkT.chain {t : Tr} (h : OkT t) : ∀ (k : Nat) (ns : List Bs), ns.length = k → (∀ x ∈ ns, Good x) → kindG t (dirP ns) ≠ 0 → ∀ j, j < ns.length → kindG t (dirP (ns.take j)) = 1
  | 0, ns, hl, _, _, j, hj => by omega
  | k + 1, ns, hl, hg, hk, j, hj => by
    rcases List.eq_nil_or_concat ns with rfl | ⟨ms, n, rfl⟩
    · cases hl
    · rw [List.concat_eq_append] at *
      rw [List.length_append, List.length_singleton] at hl hj
      have hm : ∀ x ∈ ms, Good x := fun x hx => hg x (by simp [hx])
      have h1 := h.up hm (hg n (by simp)) hk
      rcases Nat.lt_or_ge j ms.length with h2 | h2
      · rw [List.take_append_of_le_length (by omega)]
        exact OkT.chain h k ms (by omega) hm (by omega) j h2
      · rw [List.take_left' (by omega)]; exact h1
theorem OkT.st {t : Tr} (h : OkT t) {ns : List Bs} (hg : ∀ x ∈ ns, Good x) (hk : kindG t (dirP ns) ≠ 0) : St t (dirP ns) ns := ⟨hg, rfl, h.chain _ ns rfl hg hk⟩
theorem step_st {t : Tr} {a b p : Bs} {ns : List Bs} (hs : St t a ns) (h : stepG t a p = .inr b) : ∃ ms, St t b ms := by
  obtain ⟨hg, rfl, hk⟩ := hs
  unfold stepG at h
  split at h
  · cases h; exact ⟨ns, hg, rfl, hk⟩
  rename_i h1
  split at h
  · cases h
  rename_i h2
  split at h
  · cases h
  rename_i h3
  split at h
  · cases h
  rename_i h4
  have h5 : kindG t (dirP ns) = 1 := by have := kind_le t (dirP ns); omega
  split at h
  · cases h
    rcases List.eq_nil_or_concat ns with rfl | ⟨ms, n, rfl⟩
    · exact ⟨[], hg, by decide, hk⟩
    · rw [List.concat_eq_append] at *
      rw [par_dirP ms (hg n (by simp))]
      exact ⟨ms, fun x hx => hg x (by simp [hx]), rfl, fun j hj => by
        have := hk j (by rw [List.length_append]; omega)
        rwa [List.take_append_of_le_length (by omega)] at this⟩
  · rename_i h6
    cases h
    have hn : Good p := good_of (by
      cases hq : nameB p with
      | true => rfl
      | false => exact absurd ⟨h6, hq⟩ h2)
    rw [join_dirP hg]
    refine ⟨ns ++ [p], fun x hx => (List.mem_append.1 hx).elim (hg x) fun h => by rw [List.mem_singleton.1 h]; exact hn, rfl, fun j hj => ?_⟩
    rw [List.length_append, List.length_singleton] at hj
    rcases Nat.lt_or_ge j ns.length with h7 | h7
    · rw [List.take_append_of_le_length (by omega)]; exact hk j h7
    · rw [List.take_left' (by omega)]; exact h5
theorem loop_st {t : Tr} : ∀ {ps : List Bs} {a b : Bs} {ns : List Bs}, St t a ns → loopG t a ps = .inr b → ∃ ms, St t b ms
  | [], a, b, ns, hs, h => by unfold loopG at h; cases h; exact ⟨ns, hs⟩
  | p :: ps, a, b, ns, hs, h => by
    unfold loopG at h
    cases hq : stepG t a p with
    | inl e => rw [hq] at h; cases h
    | inr c =>
      rw [hq] at h
      obtain ⟨ms, h1⟩ := step_st hs hq
      exact loop_st h1 h
theorem OkT.abs {t : Tr} (h : OkT t) {path : Bs} (h0 : (absG t path).2 = 0) : ∃ ns, St t (absG t path).1 ns := by
  unfold absG at h0 ⊢
  split
  · rename_i hh; rw [if_pos hh] at h0; cases h0
  · rename_i hh
    rw [if_neg hh] at h0
    cases hl : loopG t (if hasPre path [47] then [47] else t.cwd) (splitB path) with
    | inl e =>
      rw [hl] at h0
      have : e = 0 := h0
      exact absurd hl (by subst this; exact loopG_ne0)
    | inr a =>
      obtain ⟨ns, g1, g2, g3⟩ := h.cw
      have hc : St t t.cwd ns := ⟨g1, g2, h.chain _ ns rfl g1 (by rw [← g2, g3]; decide)⟩
      by_cases hp : hasPre path [47] = true
      · rw [if_pos hp] at hl
        exact loop_st (ns := []) ⟨fun x hx => absurd hx List.not_mem_nil, rfl, fun j hj => absurd hj (Nat.not_lt_zero _)⟩ hl
      · rw [if_neg hp] at hl
        exact loop_st hc hl
theorem St.abs {t : Tr} {a : Bs} {ns : List Bs} (h : St t a ns) (hl : a.length ≤ 256) : absG t a = (a, 0) := by
  obtain ⟨hg, rfl, hk⟩ := h
  by_cases hn : ns = []
  · subst hn; rfl
  · have e : dirP ns = pF ns := if_neg hn
    rw [e] at hl ⊢
    exact absP hg hk hl hn
theorem look_set (p : Bs) (x : En) : ∀ L : List En, lookM En.path p (setM En.path x L) = if x.path = p then some x else lookM En.path p L
  | [] => rfl
  | a :: L => by
    unfold setM
    by_cases ha : a.path = x.path
    · rw [if_pos ha]
      unfold lookM
      by_cases hp : x.path = p
      · rw [if_pos hp, if_pos hp]
      · rw [if_neg hp, if_neg hp, if_neg (by rw [ha]; exact hp)]
    · rw [if_neg ha]
      unfold lookM
      by_cases hp : a.path = p
      · rw [if_pos hp, if_pos hp, if_neg (fun h => ha (by rw [hp, h]))]
      · rw [if_neg hp, if_neg hp, look_set p x L]
theorem look_del {p a : Bs} : ∀ {L : List En}, (L.map En.path).Nodup → lookM En.path p (delM En.path a L) = if p = a then none else lookM En.path p L
  | [], _ => by simp [delM, lookM]
  | b :: L, hn => by
    rw [List.map_cons, List.nodup_cons] at hn
    unfold delM
    by_cases hb : b.path = a
    · rw [if_pos hb]
      by_cases hp : p = a
      · rw [if_pos hp]
        cases hl : lookM En.path p L with
        | none => rfl
        | some e =>
          have h1 := look_in hl
          have h2 := (look_sizes hl).2
          exact absurd (List.mem_map_of_mem (f := En.path) h1) (by rw [h2, hp, ← hb]; exact hn.1)
      · rw [if_neg hp]
        conv => rhs; unfold lookM
        rw [if_neg (fun h => hp (by rw [← h, hb]))]
    · rw [if_neg hb]
      unfold lookM
      by_cases hp : b.path = p
      · rw [if_pos hp, if_pos hp, if_neg (fun h => hb (by rw [hp, h]))]
      · rw [if_neg hp, if_neg hp, look_del hn.2]
theorem kind_set {t : Tr} {x : En} {p : Bs} (hx : x.path ≠ [47]) : kindG { t with L := setM En.path x t.L } p = if x.path = p then (if x.dir then 1 else 2) else kindG t p := by
  unfold kindG look
  rw [look_set]
  by_cases hp : x.path = p
  · rw [if_pos hp, if_pos hp, if_neg (fun h => hx (by rw [hp, h]))]
  · rw [if_neg hp, if_neg hp]
theorem kind_del {t : Tr} {a p : Bs} (hn : (t.L.map En.path).Nodup) (ha : a ≠ [47]) : kindG { t with L := delM En.path a t.L } p = if p = a then 0 else kindG t p := by
  unfold kindG look
  rw [look_del hn]
  by_cases hp : p = a
  · rw [if_pos hp, if_pos hp, if_neg (fun h => ha (by rw [← hp, h]))]
  · rw [if_neg hp, if_neg hp]
theorem putG_ok {t : Tr} {x : En} (h : (putG t x).2 = 0) : (putG t x).1 = { t with L := setM En.path x t.L } ∧ x.path.length ≤ 256 ∧ x.data.length ≤ 8192 := by
  unfold putG at h ⊢
  split
  · rename_i hh; rw [if_pos hh] at h; cases h
  rename_i h1
  rw [if_neg h1] at h
  split
  · rename_i hh; rw [if_pos hh] at h; cases h
  · exact ⟨rfl, by omega, by omega⟩
theorem putG_no {t : Tr} {x : En} (h : (putG t x).2 ≠ 0) : (putG t x).1 = t := by
  unfold putG at h ⊢
  split
  · rfl
  rename_i h1
  rw [if_neg h1] at h
  split
  · rfl
  rename_i h2
  rw [if_neg h2] at h; exact absurd rfl h
theorem OkT.set {t : Tr} (h : OkT t) {x : En} {ns : List Bs} {n : Bs} (hg : ∀ y ∈ ns, Good y) (hn : Good n) (hx : x.path = dirP (ns ++ [n])) (hp : kindG t (dirP ns) = 1) (hk : x.dir = true ∧ x.data = [] ∨ x.dir = false ∧ kindG t x.path ≠ 1) : OkT { t with L := setM En.path x t.L } := by
  have hxn : x.path ≠ [47] := by rw [hx]; exact dirP_long hn
  have keep : ∀ p, kindG t p = 1 → kindG { t with L := setM En.path x t.L } p = 1 := fun p hp => by
    rw [kind_set hxn]
    split
    · rename_i he
      subst he
      rcases hk with ⟨h1, _⟩ | ⟨h1, h2⟩
      · rw [if_pos h1]
      · exact absurd hp h2
    · exact hp
  refine ⟨fun e he => ?_, ?_, fun e he hd => ?_⟩
  · rcases setM_mem he with rfl | he
    · exact ⟨ns, n, hg, hn, hx, keep _ hp⟩
    · obtain ⟨ms, m, h1, h2, h3, h4⟩ := h.en e he
      exact ⟨ms, m, h1, h2, h3, keep _ h4⟩
  · obtain ⟨ms, h1, h2, h3⟩ := h.cw
    exact ⟨ms, h1, h2, keep _ h3⟩
  · rcases setM_mem he with rfl | he
    · rcases hk with ⟨_, h1⟩ | ⟨h1, _⟩
      · exact h1
      · rw [hd] at h1; cases h1
    · exact h.dd e he hd
theorem OkT.del {t : Tr} (h : OkT t) (hW : WfT t) {a : Bs} (ha : a ≠ [47]) (hc : a ≠ t.cwd) (hw : withinB t a = false) : OkT { t with L := delM En.path a t.L } := by
  have hsub : ∀ e, e ∈ delM En.path a t.L → e ∈ t.L := fun e he => (delM_sub a t.L).subset he
  refine ⟨fun e he => ?_, ?_, fun e he hd => h.dd e (hsub e he) hd⟩
  · obtain ⟨ms, m, h1, h2, h3, h4⟩ := h.en e (hsub e he)
    refine ⟨ms, m, h1, h2, h3, ?_⟩
    show kindG { t with L := delM En.path a t.L } (dirP ms) = 1
    rw [kind_del hW.nd ha, if_neg, h4]
    intro hq
    unfold withinB at hw
    rw [List.any_eq_false] at hw
    exact hw e (hsub e he) (by rw [h3, par_dirP ms h2, hq]; simp)
  · obtain ⟨ms, h1, h2, h3⟩ := h.cw
    refine ⟨ms, h1, h2, ?_⟩
    show kindG { t with L := delM En.path a t.L } t.cwd = 1
    rw [kind_del hW.nd ha, if_neg (fun hq => hc hq.symm), h3]
theorem St.last {t : Tr} {a : Bs} {ns : List Bs} (h : St t a ns) (ha : a ≠ [47]) : ∃ ms m, (∀ y ∈ ms, Good y) ∧ Good m ∧ a = dirP (ms ++ [m]) ∧ kindG t (dirP ms) = 1 ∧ ns = ms ++ [m] := by
  obtain ⟨hg, rfl, hk⟩ := h
  rcases List.eq_nil_or_concat ns with rfl | ⟨ms, m, rfl⟩
  · exact absurd rfl ha
  · rw [List.concat_eq_append] at *
    refine ⟨ms, m, fun y hy => hg y (by simp [hy]), hg m (by simp), rfl, ?_, rfl⟩
    have := hk ms.length (by simp)
    rwa [List.take_left' rfl] at this
theorem write_eq {t : Tr} {path data : Bs} {more : Bool} (h : (writeG t path data more).2 = 0) : (absG t path).2 = 0 ∧ kindG t (absG t path).1 ≠ 1 ∧ (putG t ⟨(absG t path).1, false, if more then dataG t (absG t path).1 ++ data else data⟩).2 = 0 ∧ (writeG t path data more).1 = { t with L := setM En.path ⟨(absG t path).1, false, if more then dataG t (absG t path).1 ++ data else data⟩ t.L } := by
  unfold writeG at h ⊢
  by_cases h1 : (absG t path).2 ≠ 0
  · rw [if_pos h1] at h; exact absurd h h1
  rw [if_neg h1] at h ⊢
  by_cases h2 : kindG t (absG t path).1 = 1
  · rw [if_pos h2] at h; cases h
  rw [if_neg h2] at h ⊢
  exact ⟨by omega, h2, h, (putG_ok h).1⟩
theorem write_no {t : Tr} {path data : Bs} {more : Bool} (h : (writeG t path data more).2 ≠ 0) : (writeG t path data more).1 = t := by
  unfold writeG at h ⊢
  split
  · rfl
  rename_i h1
  rw [if_neg h1] at h
  split
  · rfl
  rename_i h2
  rw [if_neg h2] at h; exact putG_no h
theorem make_eq {t : Tr} {path : Bs} (h : (makeG t path).2 = 0) : (absG t path).2 = 0 ∧ kindG t (absG t path).1 = 0 ∧ (putG t ⟨(absG t path).1, true, []⟩).2 = 0 ∧ (makeG t path).1 = { t with L := setM En.path ⟨(absG t path).1, true, []⟩ t.L } := by
  unfold makeG at h ⊢
  by_cases h1 : (absG t path).2 ≠ 0
  · rw [if_pos h1] at h; exact absurd h h1
  rw [if_neg h1] at h ⊢
  by_cases h2 : kindG t (absG t path).1 ≠ 0
  · rw [if_pos h2] at h; cases h
  rw [if_neg h2] at h ⊢
  exact ⟨by omega, by omega, h, (putG_ok h).1⟩
theorem make_no {t : Tr} {path : Bs} (h : (makeG t path).2 ≠ 0) : (makeG t path).1 = t := by
  unfold makeG at h ⊢
  split
  · rfl
  rename_i h1
  rw [if_neg h1] at h
  split
  · rfl
  rename_i h2
  rw [if_neg h2] at h; exact putG_no h
theorem remove_eq {t : Tr} {path : Bs} (h : (removeG t path).2 = 0) : (absG t path).2 = 0 ∧ kindG t (absG t path).1 ≠ 0 ∧ ¬ busyG t (absG t path).1 ∧ withinB t (absG t path).1 = false ∧ (removeG t path).1 = { t with L := delM En.path (absG t path).1 t.L } := by
  unfold removeG at h ⊢
  by_cases h1 : (absG t path).2 ≠ 0
  · rw [if_pos h1] at h; exact absurd h h1
  rw [if_neg h1] at h ⊢
  by_cases h2 : kindG t (absG t path).1 = 0
  · rw [if_pos h2] at h; cases h
  rw [if_neg h2] at h ⊢
  by_cases h3 : busyG t (absG t path).1
  · rw [if_pos h3] at h; cases h
  rw [if_neg h3] at h ⊢
  by_cases h4 : withinB t (absG t path).1 = true
  · rw [if_pos h4] at h; cases h
  rw [if_neg h4]
  exact ⟨by omega, h2, h3, by simpa using h4, rfl⟩
theorem remove_no {t : Tr} {path : Bs} (h : (removeG t path).2 ≠ 0) : (removeG t path).1 = t := by
  unfold removeG at h ⊢
  split
  · rfl
  rename_i h1
  rw [if_neg h1] at h
  split
  · rfl
  rename_i h2
  rw [if_neg h2] at h
  split
  · rfl
  rename_i h3
  rw [if_neg h3] at h
  split
  · rfl
  rename_i h4
  rw [if_neg h4] at h; exact absurd rfl h
theorem is_eq {t : Tr} {path : Bs} {kd : Nat} (h : (isG t path kd).2 = 0) : (absG t path).2 = 0 ∧ kindG t (absG t path).1 = kd ∧ (isG t path kd).1 = (absG t path).1 := by
  unfold isG at h ⊢
  by_cases h1 : (absG t path).2 ≠ 0
  · rw [if_pos h1] at h; exact absurd h h1
  rw [if_neg h1] at h ⊢
  by_cases h2 : kindG t (absG t path).1 = kd
  · rw [if_pos h2]; exact ⟨by omega, h2, rfl⟩
  rw [if_neg h2] at h
  split at h <;> cases h
theorem is_of {t : Tr} {path a : Bs} {kd : Nat} (h1 : absG t path = (a, 0)) (h2 : kindG t a = kd) : isG t path kd = (a, 0) := by
  unfold isG; rw [h1]; rw [if_neg (by simp), if_pos h2]
theorem cd_no {t : Tr} {path : Bs} (h : (cdG t path).2 ≠ 0) : (cdG t path).1 = t := by
  unfold cdG at h ⊢
  split
  · rfl
  rename_i h1
  rw [if_neg h1] at h; exact absurd rfl h
theorem cd_eq {t : Tr} {path : Bs} (h : (cdG t path).2 = 0) : (absG t path).2 = 0 ∧ kindG t (absG t path).1 = 1 ∧ (cdG t path).1 = { t with cwd := (absG t path).1 } := by
  unfold cdG at h ⊢
  by_cases h1 : (isG t path 1).2 ≠ 0
  · rw [if_pos h1] at h; exact absurd h h1
  rw [if_neg h1]
  obtain ⟨g1, g2, g3⟩ := is_eq (by omega : (isG t path 1).2 = 0)
  exact ⟨g1, g2, by rw [g3]⟩
theorem OkT.new : OkT newG := ⟨fun e he => absurd he List.not_mem_nil, ⟨[], fun x hx => absurd hx List.not_mem_nil, rfl, rfl⟩, fun e he => absurd he List.not_mem_nil⟩
theorem OkT.write {t : Tr} (h : OkT t) (path data : Bs) (more : Bool) : OkT (writeG t path data more).1 := by
  by_cases h0 : (writeG t path data more).2 = 0
  · obtain ⟨h1, h2, h3, h4⟩ := write_eq h0
    rw [h4]
    obtain ⟨ns, hs⟩ := h.abs h1
    obtain ⟨ms, m, g1, g2, g3, g4, _⟩ := hs.last (fun he => h2 (by rw [he]; rfl))
    exact h.set g1 g2 g3 g4 (.inr ⟨rfl, h2⟩)
  · rw [write_no h0]; exact h
theorem OkT.make {t : Tr} (h : OkT t) (path : Bs) : OkT (makeG t path).1 := by
  by_cases h0 : (makeG t path).2 = 0
  · obtain ⟨h1, h2, h3, h4⟩ := make_eq h0
    rw [h4]
    obtain ⟨ns, hs⟩ := h.abs h1
    obtain ⟨ms, m, g1, g2, g3, g4, _⟩ := hs.last (fun he => by rw [he] at h2; cases h2)
    exact h.set g1 g2 g3 g4 (.inl ⟨rfl, rfl⟩)
  · rw [make_no h0]; exact h
theorem OkT.remove {t : Tr} (h : OkT t) (hW : WfT t) (path : Bs) : OkT (removeG t path).1 := by
  by_cases h0 : (removeG t path).2 = 0
  · obtain ⟨h1, h2, h3, h4, h5⟩ := remove_eq h0
    rw [h5]
    exact h.del hW (fun he => h3 (.inl he)) (fun he => h3 (.inr (.inl he))) h4
  · rw [remove_no h0]; exact h
theorem OkT.cd {t : Tr} (h : OkT t) (path : Bs) : OkT (cdG t path).1 := by
  by_cases h0 : (cdG t path).2 = 0
  · obtain ⟨h1, h2, h3⟩ := cd_eq h0
    rw [h3]
    obtain ⟨ns, hs⟩ := h.abs h1
    exact ⟨fun e he => h.en e he, ⟨ns, hs.g, hs.e, h2⟩, h.dd⟩
  · rw [cd_no h0]; exact h
theorem Rc.ok {t : Tr} (h : Rc t) : WfT t ∧ OkT t := by
  induction h with
  | new => exact ⟨newG_wf, .new⟩
  | write p d m _ ih => exact ⟨writeG_wf ih.1 p d m, ih.2.write p d m⟩
  | make p _ ih => exact ⟨makeG_wf ih.1 p, ih.2.make p⟩
  | remove p _ ih => exact ⟨removeG_wf ih.1 p, ih.2.remove ih.1 p⟩
  | cd p _ ih => exact ⟨cdG_wf ih.1 p, ih.2.cd p⟩
end Go.Proofs.YtjoakhpdajlhiaaDoor.V2.S
namespace Go.Proofs.YtjoakhpdajlhiaaDoor.V2.S
open Go
set_option maxRecDepth 100000
set_option linter.unusedVariables false
def twoB (a : Nat) : Bs := [UInt8.ofNat (a / 256 % 256), UInt8.ofNat (a % 256)]
def toldB (s : Bs) : Bs := (twoB s.length).take 2 ++ s
theorem toldB_len (s : Bs) : (toldB s).length = 2 + s.length := by unfold toldB; rw [List.length_append]; rfl
def entB (e : En) : Bs := [if e.dir then 1 else 2] ++ toldB e.path ++ (if e.dir then [] else toldB e.data)
def treeB (t : Tr) : Bs := toldB t.cwd ++ twoB t.L.length ++ (sortE t.L).flatMap entB
def preB (t : Tr) : Bs := toldB t.cwd ++ twoB t.L.length
def byI (t : Tr) (i : Nat) : Bs := preB t ++ ((sortE t.L).take i).flatMap entB
theorem byI_0 (t : Tr) : byI t 0 = preB t := by unfold byI; rw [List.take_zero, List.flatMap_nil, List.append_nil]
theorem byI_all (t : Tr) : byI t t.L.length = treeB t := by unfold byI treeB preB; rw [List.take_of_length_le (by rw [sortE_len]; exact Nat.le_refl _)]
theorem byI_succ {t : Tr} {i : Nat} {e : En} (h : (sortE t.L)[i]? = some e) : byI t (i + 1) = byI t i ++ entB e := by
  unfold byI
  rw [List.take_add_one, h, List.flatMap_append, List.append_assoc]
  show _ ++ (_ ++ [e].flatMap entB) = _
  rw [List.flatMap_singleton]
theorem entB_len (e : En) : (entB e).length ≤ 5 + e.path.length + e.data.length := by
  unfold entB
  split <;> simp only [List.length_append, toldB_len, List.length_cons, List.length_nil] <;> omega
theorem ents_len : ∀ l : List En, (l.flatMap entB).length ≤ 5 * l.length + sizesG l
  | [] => Nat.le_refl _
  | e :: l => by
    rw [List.flatMap_cons, List.length_append, List.length_cons]
    have := entB_len e
    have := ents_len l
    show _ ≤ _ + (e.path.length + e.data.length + sizesG l)
    omega
theorem byI_len {t : Tr} (hW : WfT t) (i : Nat) : (byI t i).length ≤ 34000 := by
  unfold byI preB
  rw [List.length_append, List.length_append, toldB_len]
  have h1 := ents_len ((sortE t.L).take i)
  have h2 := sizesG_le_take (sortE t.L) i
  rw [sizesG_perm (sortE_perm t.L)] at h2
  have h3 := hW.len
  have h4 := hW.sz
  have h5 := hW.c2
  have h6 : ((sortE t.L).take i).length ≤ t.L.length := by rw [List.length_take, sortE_len]; omega
  show _ + 2 + _ ≤ _
  omega
theorem tk0 {l : Bs} {L : Nat} (h : L = l.length) : (l.drop 0).take L = l := by rw [List.drop_zero, h, List.take_length]
theorem preB_eq (t : Tr) : preB t = ((toldB t.cwd).drop 0).take (2 + t.cwd.length) ++ ((twoB t.L.length).drop 0).take 2 := by
  rw [tk0 (toldB_len _).symm]; rfl
theorem preB_len (t : Tr) : 2 + t.cwd.length + 2 = (byI t 0).length := by rw [byI_0]; unfold preB; rw [List.length_append, toldB_len]; rfl
theorem ent_dir {t : Tr} {i L : Nat} {e : En} (hL : L = (byI t i).length) (he : (sortE t.L)[i]? = some e) (hd : e.dir = true) : byI t (i + 1) = ((((byI t i).drop 0).take L ++ (([UInt8.ofNat 1] : Bs).drop 0).take 1).drop 0).take (L + 1) ++ ((toldB e.path).drop 0).take (2 + e.path.length) := by
  rw [tk0 hL, tk0 (l := [UInt8.ofNat 1]) (L := 1) rfl, tk0 (by rw [List.length_append, hL]; rfl), tk0 (toldB_len _).symm, byI_succ he]
  unfold entB
  rw [if_pos hd, if_pos hd, List.append_nil, ← List.append_assoc]; rfl
theorem ent_file {t : Tr} {i L : Nat} {e : En} (hL : L = (byI t i).length) (he : (sortE t.L)[i]? = some e) (hd : e.dir = false) : byI t (i + 1) = ((((((byI t i).drop 0).take L ++ (([UInt8.ofNat 2] : Bs).drop 0).take 1).drop 0).take (L + 1) ++ ((toldB e.path).drop 0).take (2 + e.path.length)).drop 0).take (L + 1 + (2 + e.path.length)) ++ ((toldB e.data).drop 0).take (2 + e.data.length) := by
  rw [tk0 hL, tk0 (l := [UInt8.ofNat 2]) (L := 1) rfl, tk0 (l := byI t i ++ [UInt8.ofNat 2]) (L := L + 1) (by rw [List.length_append, hL]; rfl), tk0 (l := toldB e.path) (toldB_len _).symm, tk0 (l := toldB e.data) (toldB_len _).symm, tk0 (l := byI t i ++ [UInt8.ofNat 2] ++ toldB e.path) (L := L + 1 + (2 + e.path.length)) (by rw [List.length_append, List.length_append, toldB_len, hL]; rfl), byI_succ he]
  unfold entB
  rw [if_neg (by simp [hd]), if_neg (by simp [hd]), ← List.append_assoc, ← List.append_assoc]; rfl
theorem len_dir {t : Tr} {i L : Nat} {e : En} (hL : L = (byI t i).length) (he : (sortE t.L)[i]? = some e) (hd : e.dir = true) : L + 1 + (2 + e.path.length) = (byI t (i + 1)).length := by
  rw [byI_succ he, List.length_append, ← hL]
  unfold entB
  rw [if_pos hd, if_pos hd, List.append_nil, List.length_append, toldB_len, List.length_singleton]; omega
theorem len_file {t : Tr} {i L : Nat} {e : En} (hL : L = (byI t i).length) (he : (sortE t.L)[i]? = some e) (hd : e.dir = false) : L + 1 + (2 + e.path.length) + (2 + e.data.length) = (byI t (i + 1)).length := by
  rw [byI_succ he, List.length_append, ← hL]
  unfold entB
  rw [if_neg (by simp [hd]), if_neg (by simp [hd]), List.length_append, List.length_append, toldB_len, toldB_len, List.length_singleton]; omega
theorem bt_ext {a b : Bs} (hl : a.length = b.length) (h : ∀ j, j < a.length → bt a j = bt b j) : a = b := by
  refine List.ext_getElem hl fun i h1 h2 => ?_
  have := h i h1
  unfold bt at this
  rw [List.getD_eq_getElem?_getD, List.getD_eq_getElem?_getD, List.getElem?_eq_getElem h1, List.getElem?_eq_getElem h2, Option.getD_some, Option.getD_some] at this
  exact UInt8.toNat_inj.1 this
end Go.Proofs.YtjoakhpdajlhiaaDoor.V2.S
namespace Go.Proofs.YtjoakhpdajlhiaaDoor.V2.S
open Go
set_option maxRecDepth 100000
set_option linter.unusedVariables false
/-! Bytes read as a tree, in plain words. -/
def textO (l : Bs) (o : Nat) : Option (Bs × Nat) := if o + 2 ≤ l.length ∧ o + 2 + numV l o ≤ l.length then some ((l.drop (o + 2)).take (numV l o), o + 2 + numV l o) else none
def entO (l : Bs) (o : Nat) : Option (Nat × Bs × Bs × Nat) :=
  if o + 1 ≤ l.length then match textO l (o + 1) with
    | none => none
    | some (p, o2) => if bt l o = 2 then match textO l o2 with
      | none => none
      | some (d, o3) => some (bt l o, p, d, o3) else some (bt l o, p, [], o2) else none
def okE (t : Tr) (kd : Nat) (p : Bs) : Prop := (absG t p).2 = 0 ∧ (absG t p).1 = p ∧ kindG t p = 0 ∧ (kd = 1 ∨ kd = 2)
instance (t : Tr) (kd : Nat) (p : Bs) : Decidable (okE t kd p) := by unfold okE; exact inferInstance
def addE (t : Tr) (kd : Nat) (p d : Bs) : Tr × Bool := if okE t kd p then ((putG t ⟨p, decide (kd = 1), d⟩).1, decide ((putG t ⟨p, decide (kd = 1), d⟩).2 = 0)) else (t, false)
def loopP (l : Bs) : Nat → Nat → Tr → Bool → Option (Tr × Bool)
  | 0, _, t, g => some (t, g)
  | c + 1, o, t, g => match entO l o with
    | none => none
    | some (kd, p, d, o') => loopP l c o' (addE t kd p d).1 (g && (addE t kd p d).2)
def parseG (l : Bs) : Option Tr × Nat := match textO l 0 with
  | none => (none, 4)
  | some (c, o1) => if o1 + 2 ≤ l.length then match loopP l (numV l o1) (o1 + 2) newG true with
    | none => (none, 4)
    | some (t, g) => if g = true ∧ (cdG t c).2 = 0 ∧ treeB (cdG t c).1 = l then (some (cdG t c).1, 0) else (none, 5) else (none, 4)
theorem textO_len {l p : Bs} {o o2 : Nat} (h : textO l o = some (p, o2)) : o + 2 ≤ o2 ∧ o2 ≤ l.length ∧ p.length = o2 - (o + 2) := by
  unfold textO at h
  split at h
  · rename_i hh
    cases h
    refine ⟨by omega, hh.2, ?_⟩
    rw [List.length_take, List.length_drop]; omega
  · cases h
theorem entO_len {l p d : Bs} {o o2 kd : Nat} (h : entO l o = some (kd, p, d, o2)) : o + 3 ≤ o2 ∧ o2 ≤ l.length ∧ p.length + d.length ≤ o2 - o ∧ (kd = 1 → d = []) := by
  unfold entO at h
  split at h
  · split at h
    · cases h
    · rename_i q oq hq
      have h1 := textO_len hq
      split at h
      · rename_i hk
        split at h
        · cases h
        · rename_i dq o3 hd
          have h2 := textO_len hd
          cases h
          exact ⟨by omega, by omega, by omega, fun h => by omega⟩
      · cases h
        exact ⟨by omega, by omega, by simp only [List.length_nil]; omega, fun _ => rfl⟩
  · cases h
theorem addE_ok {t : Tr} (hW : WfT t) (hO : OkT t) {kd : Nat} {p d : Bs} (hd : kd = 1 → d = []) : WfT (addE t kd p d).1 ∧ OkT (addE t kd p d).1 := by
  unfold addE
  split
  · rename_i h
    obtain ⟨h1, h2, h3, h4⟩ := h
    obtain ⟨ns, hs⟩ := hO.abs h1
    rw [h2] at hs
    have hx : p ≠ [47] := fun he => by rw [he] at h3; cases h3
    obtain ⟨ms, m, g1, g2, g3, g4, _⟩ := hs.last hx
    have hh : p.head? = some 47 := by rw [← h2]; exact absG_head hW.hc h1
    refine ⟨putG_wf hW hh, ?_⟩
    by_cases h0 : (putG t ⟨p, decide (kd = 1), d⟩).2 = 0
    · rw [(putG_ok h0).1]
      refine hO.set g1 g2 g3 g4 ?_
      rcases h4 with h4 | h4
      · exact .inl ⟨decide_eq_true h4, hd h4⟩
      · exact .inr ⟨decide_eq_false (by omega), by show kindG t p ≠ 1; omega⟩
    · rw [putG_no h0]; exact hO
  · exact ⟨hW, hO⟩
theorem loopP_ok {l : Bs} : ∀ {c o : Nat} {t t2 : Tr} {g g2 : Bool}, WfT t → OkT t → loopP l c o t g = some (t2, g2) → WfT t2 ∧ OkT t2
  | 0, o, t, t2, g, g2, hW, hO, h => by unfold loopP at h; cases h; exact ⟨hW, hO⟩
  | c + 1, o, t, t2, g, g2, hW, hO, h => by
    unfold loopP at h
    split at h
    · cases h
    · rename_i kd p d o' he
      obtain ⟨h1, h2⟩ := addE_ok hW hO (entO_len he).2.2.2
      exact loopP_ok h1 h2 h
theorem parseG_ok {l : Bs} {t : Tr} {e : Nat} (h : parseG l = (some t, e)) : WfT t ∧ OkT t ∧ treeB t = l ∧ e = 0 := by
  unfold parseG at h
  split at h
  · cases h
  · rename_i c o1 hc
    split at h
    · split at h
      · cases h
      · rename_i t2 g hl
        split at h
        · rename_i hh
          cases h
          obtain ⟨h1, h2⟩ := loopP_ok newG_wf .new hl
          exact ⟨cdG_wf h1 c, h2.cd c, hh.2.2, rfl⟩
        · cases h
    · cases h
end Go.Proofs.YtjoakhpdajlhiaaDoor.V2.S
namespace Go.Proofs.YtjoakhpdajlhiaaDoor.V2.S
open Go
set_option maxRecDepth 100000
set_option linter.unusedVariables false
theorem bt_app {A B : Bs} {i : Nat} (h : A.length ≤ i) : bt (A ++ B) i = bt B (i - A.length) := by
  unfold bt
  rw [List.getD_eq_getElem?_getD, List.getD_eq_getElem?_getD, List.getElem?_append_right h]
theorem numV_two {A B : Bs} {a : Nat} (ha : a < 65536) : numV (A ++ (twoB a ++ B)) A.length = a := by
  unfold numV
  rw [bt_app (A := A) (i := A.length) (Nat.le_refl _), bt_app (A := A) (i := A.length + 1) (by omega), Nat.sub_self, Nat.add_sub_cancel_left]
  show (UInt8.ofNat (a / 256 % 256)).toNat * 256 + (UInt8.ofNat (a % 256)).toNat = a
  rw [UInt8.toNat_ofNat', UInt8.toNat_ofNat']
  omega
theorem textO_told {A s B : Bs} (hs : s.length < 65536) : textO (A ++ (toldB s ++ B)) A.length = some (s, A.length + 2 + s.length) := by
  have e : A ++ (toldB s ++ B) = A ++ (twoB s.length ++ (s ++ B)) := by
    unfold toldB
    rw [List.append_assoc]; rfl
  unfold textO
  rw [e, numV_two hs]
  have hl : (A ++ (twoB s.length ++ (s ++ B))).length = A.length + 2 + s.length + B.length := by
    rw [List.length_append, List.length_append, List.length_append]
    show _ + (2 + _) = _
    omega
  rw [if_pos (by omega), show A.length + 2 = A.length + (twoB s.length).length from rfl, List.drop_length_add_append, List.drop_left, List.take_left]
theorem entO_dir {A B : Bs} {e : En} (hp : e.path.length < 65536) (hd : e.dir = true) : entO (A ++ (entB e ++ B)) A.length = some (1, e.path, [], A.length + (entB e).length) := by
  have e1 : entB e = [1] ++ toldB e.path := by unfold entB; rw [if_pos hd, if_pos hd, List.append_nil]
  have e2 : A ++ (entB e ++ B) = (A ++ [1]) ++ (toldB e.path ++ B) := by rw [e1]; simp only [List.append_assoc]
  have h1 : A.length + 1 ≤ (A ++ (entB e ++ B)).length := by rw [e2, List.length_append, List.length_append, List.length_singleton]; omega
  have h2 : bt (A ++ (entB e ++ B)) A.length = 1 := by rw [bt_app (A := A) (Nat.le_refl _), Nat.sub_self, e1]; rfl
  have h3 := textO_told (A := A ++ [1]) (B := B) hp
  rw [← e2, List.length_append, List.length_singleton] at h3
  unfold entO
  rw [if_pos h1, h3]
  show (if bt _ _ = 2 then _ else _) = _
  rw [h2, if_neg (by decide), e1, List.length_append, toldB_len, List.length_singleton]
  simp only [Option.some.injEq, Prod.mk.injEq, true_and]
  omega
theorem entO_file {A B : Bs} {e : En} (hp : e.path.length < 65536) (hq : e.data.length < 65536) (hd : e.dir = false) : entO (A ++ (entB e ++ B)) A.length = some (2, e.path, e.data, A.length + (entB e).length) := by
  have e1 : entB e = [2] ++ toldB e.path ++ toldB e.data := by unfold entB; rw [if_neg (by simp [hd]), if_neg (by simp [hd])]
  have e2 : A ++ (entB e ++ B) = (A ++ [2]) ++ (toldB e.path ++ (toldB e.data ++ B)) := by rw [e1]; simp only [List.append_assoc]
  have e3 : A ++ (entB e ++ B) = ((A ++ [2]) ++ toldB e.path) ++ (toldB e.data ++ B) := by rw [e1]; simp only [List.append_assoc]
  have h1 : A.length + 1 ≤ (A ++ (entB e ++ B)).length := by rw [e2, List.length_append, List.length_append, List.length_singleton]; omega
  have h2 : bt (A ++ (entB e ++ B)) A.length = 2 := by rw [bt_app (A := A) (Nat.le_refl _), Nat.sub_self, e1]; rfl
  have h3 := textO_told (A := A ++ [2]) (B := toldB e.data ++ B) hp
  rw [← e2, List.length_append, List.length_singleton] at h3
  have h4 := textO_told (A := (A ++ [2]) ++ toldB e.path) (B := B) hq
  rw [← e3, List.length_append, List.length_append, List.length_singleton, toldB_len, ← Nat.add_assoc] at h4
  unfold entO
  rw [if_pos h1, h3]
  show (if bt _ _ = 2 then _ else _) = _
  rw [h2, if_pos rfl, h4, e1, List.length_append, List.length_append, toldB_len, toldB_len, List.length_singleton]
  simp only [Option.some.injEq, Prod.mk.injEq, true_and]
  omega
def addS (p : Tr × Bool) (e : En) : Tr × Bool := ((addE p.1 (if e.dir then 1 else 2) e.path e.data).1, p.2 && (addE p.1 (if e.dir then 1 else 2) e.path e.data).2)
theorem loopP_own {l : Bs} : ∀ (es : List En) (A : Bs) (t : Tr) (g : Bool), l = A ++ es.flatMap entB → (∀ e ∈ es, e.path.length < 65536 ∧ e.data.length < 65536 ∧ (e.dir = true → e.data = [])) → loopP l es.length A.length t g = some (es.foldl addS (t, g))
  | [], A, t, g, _, _ => rfl
  | e :: es, A, t, g, hl, h => by
    obtain ⟨h1, h2, h3⟩ := h e List.mem_cons_self
    have hl' : l = A ++ (entB e ++ es.flatMap entB) := by rw [hl, List.flatMap_cons]
    have he : entO l A.length = some (if e.dir then 1 else 2, e.path, e.data, A.length + (entB e).length) := by
      rw [hl']
      cases hd : e.dir with
      | true => rw [if_pos rfl, entO_dir h1 hd, h3 hd]
      | false => rw [if_neg (by decide), entO_file h1 h2 hd]
    rw [List.length_cons, loopP, he]
    have := loopP_own (l := l) es (A ++ entB e) (addE t (if e.dir then 1 else 2) e.path e.data).1 (g && (addE t (if e.dir then 1 else 2) e.path e.data).2) (by rw [hl', List.append_assoc]) (fun x hx => h x (List.mem_cons_of_mem _ hx))
    rw [List.length_append] at this
    exact this
theorem sortE_id : ∀ {l : List En}, (l.map En.path).Pairwise (· < ·) → sortE l = l
  | [], _ => rfl
  | e :: l, h => by
    rw [List.map_cons, List.pairwise_cons] at h
    rw [sortE, sortE_id h.2]
    cases l with
    | nil => rfl
    | cons y l =>
      have h1 := h.1 y.path (by simp)
      rw [insE, if_neg (List.lt_asymm h1)]
end Go.Proofs.YtjoakhpdajlhiaaDoor.V2.S
namespace Go.Proofs.YtjoakhpdajlhiaaDoor.V2.S
open Go
set_option maxRecDepth 100000
set_option linter.unusedVariables false
theorem setM_new : ∀ {L : List En} {e : En}, e.path ∉ L.map En.path → setM En.path e L = L ++ [e]
  | [], e, _ => rfl
  | a :: L, e, h => by
    rw [List.map_cons, List.mem_cons, not_or] at h
    unfold setM
    rw [if_neg (fun hq => h.1 hq.symm), setM_new h.2]; rfl
theorem sort_nd {t : Tr} (hW : WfT t) : ((sortE t.L).map En.path).Nodup := ((sortE_perm t.L).map En.path).nodup_iff.2 hW.nd
theorem set_take {t : Tr} (hW : WfT t) {i : Nat} {e : En} (he : (sortE t.L)[i]? = some e) : setM En.path e ((sortE t.L).take i) = (sortE t.L).take (i + 1) := by
  rw [setM_new, List.take_add_one, he]; rfl
  intro hm
  obtain ⟨x, h1, h2⟩ := List.mem_map.1 hm
  obtain ⟨j, hj, h3⟩ := List.mem_take_iff_getElem.1 h1
  have hi := (List.getElem?_eq_some_iff.1 he)
  obtain ⟨hi1, hi2⟩ := hi
  have hn := sort_nd hW
  rw [List.Nodup, List.pairwise_iff_getElem] at hn
  exact hn j i (by rw [List.length_map]; omega) (by rw [List.length_map]; exact hi1) (by omega) (by rw [List.getElem_map, List.getElem_map, h3, hi2, h2])
theorem look_sort {t : Tr} (hW : WfT t) (p : Bs) : lookM En.path p (sortE t.L) = look t p := by
  unfold look
  cases h : lookM En.path p t.L with
  | some e =>
    have h1 := (sortE_perm t.L).mem_iff.2 (look_in h)
    have h2 := (look_sizes h).2
    have := look_mem (sort_nd hW) h1
    rwa [h2] at this
  | none =>
    cases h2 : lookM En.path p (sortE t.L) with
    | none => rfl
    | some e =>
      have h1 := (sortE_perm t.L).mem_iff.1 (look_in h2)
      have h3 := (look_sizes h2).2
      have := look_mem hW.nd h1
      rw [h3, h] at this; cases this
theorem mem_sort {t : Tr} {i : Nat} {e : En} (h : (sortE t.L)[i]? = some e) : e ∈ t.L := (sortE_perm t.L).mem_iff.1 (List.mem_of_getElem? h)
end Go.Proofs.YtjoakhpdajlhiaaDoor.V2.S
namespace Go.Proofs.YtjoakhpdajlhiaaDoor.V2.S
open Go
set_option maxRecDepth 100000
set_option maxHeartbeats 4000000
set_option linter.unusedVariables false
attribute [local irreducible] fN fO nM gM pM Phi.fn Phi.yl Phi.up mp bl bpart bapp top1 pack
theorem used_aux {t : Tr} {i : Nat} {e : En} (hW : WfT t) (he : (sortE t.L)[i]? = some e) : i < 128 ∧ sizesG ((sortE t.L).take i) + (e.path.length + e.data.length) ≤ 32768 := by
  have h1 := (List.getElem?_eq_some_iff.1 he).1
  rw [sortE_len] at h1
  have h2 := sizesG_take he
  have h3 := sizesG_le_take (sortE t.L) (i + 1)
  rw [sizesG_perm (sortE_perm t.L)] at h3
  exact ⟨by have := hW.len; omega, by have := hW.sz; omega⟩
theorem used_s {O : Oz} (hO : O = zO) (Φ : Phi) (H : ∀ y Y, WalkS (Phi.fn (Phi.up Φ y Y) 9) y Y) : UsedS (p52 O Φ) := fun {tb mb t n m} hT htb hmb hW k P hn hf => by
  have hlen := hW.len
  have ez : sizesG ((sortE t.L).take t.L.length) = sizesG t.L := by rw [List.take_of_length_le (by rw [sortE_len]; exact Nat.le_refl _), sizesG_perm (sortE_perm t.L)]
  rw [← ez] at hf
  repeat' ((conv => lhs; whnf); first | ((with_reducible refine atFn ?_); refine H _ _ 1 [n, n + 1] (fun i m2 => Am m2 n (.ints .i64 [Int.ofNat i] 3 .exact) ∧ Am m2 (n + 1) (.ints .i64 [Int.ofNat (sizesG ((sortE t.L).take i))] 3 .exact)) (hT.kp kQ htb hmb) (by omega) (by omega) hW (fun x hx => by simp only [List.mem_cons, List.not_mem_nil, or_false] at hx; omega) (fun x hx => by simp only [List.mem_cons, List.not_mem_nil, or_false] at hx; omega) (fun x hx => by simp only [List.mem_cons, List.not_mem_nil, or_false] at hx; omega) (fun i n1 m1 m2 h1 hk hI => ⟨hk _ _ (by omega) hI.1, hk _ _ (by omega) hI.2⟩) (fun i e n1 m1 k5 P5 he hn1 hc5 hq5 hI5 hk5 => hI5.elim fun ha5 hb5 => (used_aux hW he).elim fun z1 z2 => ?_) _ _ (by omega) ⟨aQ, aQ⟩ (fun n4 m4 h4 g4 k4 hI4 => hI4.elim fun ha4 hb4 => (fun k4l => ?_) (Kq.low (n := n) k4 (by omega) (by simp)))) | ((with_reducible refine fa0 hO ?_)) | ((with_reducible refine atLd ?_); first | refine ldC hO aQ (by rfl) ?_ | refine ldI hO aQ (by rfl) ?_) | (((with_reducible refine lsS hO ?_); try simp only [List.length_cons, List.length_nil, Nat.zero_add])) | ((with_reducible refine adI hO (by omega) ?_)) | ((with_reducible refine atSt ?_); refine ust hO ?_) | ((with_reducible refine alO hO (by omega) ?_)) | ((with_reducible refine rcE hO (by kernel_rfl) rfl ?_)) | (with_reducible refine (fN_eq _ _).trans ?_) | (with_reducible refine (nM_mp (by omega)).trans ?_) | (with_reducible refine pM_mp.trans ?_) | (refine gM_amP aQ ?_))
  all_goals (conv => lhs; whnf)
  all_goals first
    | exact hf _ _ (by omega) (by omega) kQ
    | exact hk5 _ _ (by omega) (by omega) qQ ⟨aQ, by rw [sizesG_take he, ← Nat.add_assoc]; repeat (first | assumption | exact am_same (by omega) | apply am_ne (by omega) (by omega) | apply kp_am (by assumption) (by omega) | apply Kq.am (by assumption) (by omega) (by simp only [List.mem_cons, List.not_mem_nil, or_false, forall_eq_or_imp, forall_eq, false_implies, implies_true, ne_eq, and_true]; omega))⟩
end Go.Proofs.YtjoakhpdajlhiaaDoor.V2.S
namespace Go.Proofs.YtjoakhpdajlhiaaDoor.V2.S
open Go
set_option maxRecDepth 100000
set_option linter.unusedVariables false
/-! A tree is read of its own bytes. -/
theorem lt_app : ∀ (l : Bs) (c : UInt8) (r : Bs), l < l ++ c :: r
  | [], c, r => List.nil_lt_cons c r
  | a :: l, c, r => List.cons_lt_cons_iff.2 (.inr ⟨rfl, lt_app l c r⟩)
theorem dirP_lt {ns : List Bs} {j : Nat} {n : Bs} (hj : 0 < j) (h : j ≤ ns.length) : dirP (ns.take j) < dirP (ns ++ [n]) := by
  have e : dirP (ns ++ [n]) = pF (ns.take j) ++ pF (ns.drop j ++ [n]) := by
    unfold dirP; rw [if_neg (by simp), ← pF_app, ← List.append_assoc, List.take_append_drop]
  have e2 : dirP (ns.take j) = pF (ns.take j) := by
    unfold dirP; rw [if_neg]
    intro h0
    have := congrArg List.length h0
    rw [List.length_take, List.length_nil] at this
    omega
  rw [e, e2]
  obtain ⟨c, r, hc⟩ : ∃ c r, pF (ns.drop j ++ [n]) = c :: r := by
    cases hd : ns.drop j ++ [n] with
    | nil => simp at hd
    | cons x l => exact ⟨47, x ++ pF l, rfl⟩
  rw [hc]; exact lt_app _ _ _
theorem idx_lt {L : List En} (hp : (L.map En.path).Pairwise (· < ·)) {i k : Nat} {e x : En} (he : L[i]? = some e) (hk : L[k]? = some x) (h : k < i) : x.path < e.path := by
  rw [List.pairwise_iff_getElem] at hp
  obtain ⟨hi', e1⟩ := List.getElem?_eq_some_iff.1 he
  obtain ⟨hk', e2⟩ := List.getElem?_eq_some_iff.1 hk
  have := hp k i (by rw [List.length_map]; exact hk') (by rw [List.length_map]; exact hi') h
  rwa [List.getElem_map, List.getElem_map, e1, e2] at this
theorem in_take {L : List En} (hp : (L.map En.path).Pairwise (· < ·)) {i : Nat} {e x : En} (he : L[i]? = some e) (hx : x ∈ L) (h : x.path < e.path) : x ∈ L.take i := by
  obtain ⟨k, hk⟩ := List.getElem?_of_mem hx
  rcases Nat.lt_or_ge k i with h1 | h1
  · exact List.mem_of_getElem? (i := k) (by rw [List.getElem?_take_of_lt h1]; exact hk)
  · exfalso
    rcases Nat.eq_or_lt_of_le h1 with h2 | h2
    · subst h2; rw [he] at hk; cases hk; exact List.lt_irrefl _ h
    · exact List.lt_asymm (idx_lt hp hk he h2) h
theorem out_take {L : List En} (hp : (L.map En.path).Pairwise (· < ·)) {i : Nat} {e : En} (he : L[i]? = some e) : e.path ∉ (L.take i).map En.path := fun hm => by
  obtain ⟨x, h1, h2⟩ := List.mem_map.1 hm
  obtain ⟨k, hk⟩ := List.getElem?_of_mem h1
  rcases Nat.lt_or_ge k i with h3 | h3
  · rw [List.getElem?_take_of_lt h3] at hk
    have := idx_lt hp he hk h3
    rw [h2] at this; exact List.lt_irrefl _ this
  · rw [List.getElem?_eq_none (by rw [List.length_take]; omega)] at hk; cases hk
theorem look_out {p : Bs} : ∀ {L : List En}, p ∉ L.map En.path → lookM En.path p L = none
  | [], _ => rfl
  | a :: L, h => by
    rw [List.map_cons, List.mem_cons, not_or] at h
    unfold lookM
    rw [if_neg (fun e => h.1 e.symm), look_out h.2]
theorem sortE_pw {t : Tr} (hW : WfT t) : ((sortE t.L).map En.path).Pairwise (· < ·) := by rw [sortE_map]; exact sortB_pw hW.nd
def preT (t : Tr) (i : Nat) : Tr := ⟨(sortE t.L).take i, [47]⟩
theorem own_step {t : Tr} (hW : WfT t) (hO : OkT t) {i : Nat} {e : En} (he : (sortE t.L)[i]? = some e) : addE (preT t i) (if e.dir then 1 else 2) e.path e.data = (preT t (i + 1), true) := by
  have hm : e ∈ t.L := mem_sort he
  obtain ⟨ns, n, hg, hn, hp, hk⟩ := hO.en e hm
  have hpw := sortE_pw hW
  have hnd : ((sortE t.L).map En.path).Nodup := ((sortE_perm t.L).map _).nodup_iff.2 hW.nd
  have hgn : ∀ x ∈ ns ++ [n], Good x := fun x hx => (List.mem_append.1 hx).elim (hg x) fun h => by rw [List.mem_singleton.1 h]; exact hn
  have hkind : ∀ j, j ≤ ns.length → kindG (preT t i) (dirP (ns.take j)) = 1 := fun j hj => by
    by_cases h0 : dirP (ns.take j) = [47]
    · rw [h0]; unfold kindG; rw [if_pos rfl]
    · have hj0 : 0 < j := Nat.pos_of_ne_zero (fun h => by subst h; exact h0 rfl)
      have h1 : kindG t (dirP (ns.take j)) = 1 := by
        rcases Nat.lt_or_eq_of_le hj with h | h
        · exact hO.chain _ ns rfl hg (by rw [hk]; decide) j h
        · rw [h, List.take_length]; exact hk
      obtain ⟨x, hx1, hx2, hx3, hx4⟩ := kind_some (t := t) (by rw [h1]; decide) h0
      have hxd : x.dir = true := by
        rw [h1] at hx4
        cases hd : x.dir with
        | true => rfl
        | false => rw [hd] at hx4; cases hx4
      have hlt : x.path < e.path := by rw [hx3, hp]; exact dirP_lt hj0 hj
      have hin := in_take hpw he ((sortE_perm t.L).mem_iff.2 hx2) hlt
      have hl : look (preT t i) (dirP (ns.take j)) = some x := by
        rw [← hx3]
        exact look_mem (hnd.sublist ((List.take_sublist i _).map _)) hin
      rw [kind_of hl h0, hxd]; rfl
  have hst : St (preT t i) e.path (ns ++ [n]) := ⟨hgn, hp, fun j hj => by
    rw [List.length_append, List.length_singleton] at hj
    rw [List.take_append_of_le_length (by omega)]; exact hkind j (by omega)⟩
  have ha := hst.abs (hW.pl e hm).1
  have hx0 : e.path ≠ [47] := by rw [hp]; exact dirP_long hn
  have hl : look (preT t i) e.path = none := look_out (out_take hpw he)
  have hk0 : kindG (preT t i) e.path = 0 := kind_no hl hx0
  have hen : (⟨e.path, decide ((if e.dir then 1 else 2) = 1), e.data⟩ : En) = e := by
    cases e with
    | mk p d b => cases d <;> rfl
  have hput : putG (preT t i) e = (preT t (i + 1), 0) := by
    unfold putG
    have h1 := hW.pl e hm
    have hu := used_aux hW he
    rw [if_neg (by omega), if_neg]
    · show (({ preT t i with L := setM En.path e ((sortE t.L).take i) } : Tr), 0) = _
      rw [set_take hW he]; rfl
    · unfold manyG bytesG
      rw [hl]
      show ¬ (128 < ((sortE t.L).take i).length + 1 ∨ 32768 < sizesG ((sortE t.L).take i) + e.path.length + e.data.length)
      rw [List.length_take]
      omega
  unfold addE
  rw [if_pos ⟨by rw [ha], by rw [ha], hk0, by cases e.dir <;> simp⟩, hen, hput]
  rfl
theorem own_fold {t : Tr} (hW : WfT t) (hO : OkT t) : ∀ (es : List En) (i : Nat), (sortE t.L).drop i = es → es.foldl addS (preT t i, true) = (preT t (i + es.length), true)
  | [], i, _ => rfl
  | e :: es, i, h => by
    have he : (sortE t.L)[i]? = some e := by
      have := List.getElem?_drop (xs := sortE t.L) (i := i) (j := 0)
      rw [h, Nat.add_zero] at this
      exact this.symm
    have hd : (sortE t.L).drop (i + 1) = es := by rw [← List.drop_drop, h]; rfl
    rw [List.foldl_cons]
    show es.foldl addS ((addE (preT t i) (if e.dir then 1 else 2) e.path e.data).1, true && (addE (preT t i) (if e.dir then 1 else 2) e.path e.data).2) = _
    rw [own_step hW hO he, Bool.true_and, own_fold hW hO es (i + 1) hd, List.length_cons, show i + 1 + es.length = i + (es.length + 1) by omega]
theorem kind_sort {t : Tr} (hW : WfT t) (c p : Bs) : kindG ⟨sortE t.L, c⟩ p = kindG t p := by
  unfold kindG
  rw [show look ⟨sortE t.L, c⟩ p = look t p from look_sort hW p]
theorem parse_own {t : Tr} (hW : WfT t) (hO : OkT t) : parseG (treeB t) = (some ⟨sortE t.L, t.cwd⟩, 0) := by
  have hcl := hW.c2
  have hlen := hW.len
  have h1 : textO (treeB t) 0 = some (t.cwd, 2 + t.cwd.length) := by
    have := textO_told (A := []) (s := t.cwd) (B := twoB t.L.length ++ (sortE t.L).flatMap entB) (by omega)
    rw [List.nil_append, List.length_nil, Nat.zero_add] at this
    unfold treeB
    rw [List.append_assoc]; exact this
  have h2 : numV (treeB t) (2 + t.cwd.length) = t.L.length := by
    have := numV_two (A := toldB t.cwd) (B := (sortE t.L).flatMap entB) (a := t.L.length) (by omega)
    rw [toldB_len] at this
    unfold treeB
    rw [List.append_assoc]; exact this
  have h3 : 2 + t.cwd.length + 2 ≤ (treeB t).length := by
    unfold treeB
    rw [List.length_append, List.length_append, toldB_len]
    show _ ≤ 2 + t.cwd.length + 2 + _
    omega
  have h4 : loopP (treeB t) t.L.length (2 + t.cwd.length + 2) newG true = some (preT t t.L.length, true) := by
    have h := loopP_own (l := treeB t) (sortE t.L) (toldB t.cwd ++ twoB t.L.length) newG true rfl (fun e he => by
      have hm := (sortE_perm t.L).mem_iff.1 he
      have := hW.pl e hm
      exact ⟨by omega, by omega, hO.dd e hm⟩)
    rw [sortE_len, List.length_append, toldB_len, show (newG, true) = (preT t 0, true) from rfl, own_fold hW hO (sortE t.L) 0 rfl, sortE_len, Nat.zero_add] at h
    exact h
  have h5 : preT t t.L.length = ⟨sortE t.L, [47]⟩ := by
    unfold preT
    rw [List.take_of_length_le (by rw [sortE_len]; exact Nat.le_refl _)]
  have h6 : cdG ⟨sortE t.L, [47]⟩ t.cwd = (⟨sortE t.L, t.cwd⟩, 0) := by
    obtain ⟨ns, g1, g2, g3⟩ := hO.cw
    have hs : St ⟨sortE t.L, [47]⟩ t.cwd ns := by
      rw [g2]
      obtain ⟨a, b, c⟩ := hO.st g1 (by rw [← g2, g3]; decide)
      exact ⟨a, b, fun j hj => (kind_sort hW _ _).trans (c j hj)⟩
    have hi := is_of (kd := 1) (hs.abs hcl) ((kind_sort hW _ _).trans g3)
    unfold cdG
    rw [hi]; rfl
  have h7 : treeB ⟨sortE t.L, t.cwd⟩ = treeB t := by
    unfold treeB
    show toldB t.cwd ++ twoB (sortE t.L).length ++ (sortE (sortE t.L)).flatMap entB = _
    rw [sortE_id (sortE_pw hW), sortE_len]
  unfold parseG
  rw [h1]
  show (if 2 + t.cwd.length + 2 ≤ (treeB t).length then (match loopP (treeB t) (numV (treeB t) (2 + t.cwd.length)) (2 + t.cwd.length + 2) newG true with
    | none => (none, 4)
    | some (u, g) => if g = true ∧ (cdG u t.cwd).2 = 0 ∧ treeB (cdG u t.cwd).1 = treeB t then (some (cdG u t.cwd).1, 0) else (none, 5)) else (none, 4)) = _
  rw [if_pos h3, h2, h4, h5]
  show (if true = true ∧ (cdG ⟨sortE t.L, [47]⟩ t.cwd).2 = 0 ∧ treeB (cdG ⟨sortE t.L, [47]⟩ t.cwd).1 = treeB t then (some (cdG ⟨sortE t.L, [47]⟩ t.cwd).1, 0) else (none, 5)) = _
  rw [h6, if_pos ⟨rfl, rfl, h7⟩]
end Go.Proofs.YtjoakhpdajlhiaaDoor.V2.S
namespace Go.Proofs.YtjoakhpdajlhiaaDoor.V2.S
open Go
set_option maxRecDepth 100000
set_option linter.unusedVariables false
/-! What whole asks of each entry, in plain words. -/
def lastP (t : Tr) : Nat → Bs
  | 0 => []
  | i + 1 => (((sortE t.L)[i]?).map En.path).getD []
theorem lastP_succ {t : Tr} {i : Nat} {e : En} (he : (sortE t.L)[i]? = some e) : lastP t (i + 1) = e.path := by
  show (((sortE t.L)[i]?).map En.path).getD [] = _
  rw [he]; rfl
theorem lastP_lt {t : Tr} (hW : WfT t) {i : Nat} {e : En} (he : (sortE t.L)[i]? = some e) : lastP t i < e.path := by
  have hm : e ∈ t.L := mem_sort he
  cases i with
  | zero =>
    show [] < e.path
    have h := hW.hd e hm
    cases hp : e.path with
    | nil => rw [hp] at h; cases h
    | cons c l => exact List.nil_lt_cons c l
  | succ i =>
    have hi : i < (sortE t.L).length := by have := (List.getElem?_eq_some_iff.1 he).1; omega
    have h0 : (sortE t.L)[i]? = some (sortE t.L)[i] := List.getElem?_eq_getElem hi
    rw [lastP_succ h0]
    exact idx_lt (sortE_pw hW) he h0 (by omega)
theorem whole_en {t : Tr} (hW : WfT t) (hO : OkT t) {e : En} (he : e ∈ t.L) : ∃ i, lastS e.path = i + 1 ∧ e.path.take (max i 1) = parG e.path ∧ (parG e.path).length ≤ 256 ∧ kindE t (parG e.path) = (1, 0) ∧ isG t (parG e.path) 1 = (parG e.path, 0) ∧ e.path.drop (i + 1) ∈ outG (parG e.path) (t.L.map En.path) ∧ i + 1 ≤ e.path.length := by
  obtain ⟨ns, n, hg, hn, hp, hk⟩ := hO.en e he
  have hl : lastS e.path = (pF ns).length + 1 := by rw [hp, dirP_snoc, lastS_app0 _ _ hn.c0]
  have hpar : parG e.path = dirP ns := by rw [hp]; exact par_dirP ns hn
  have hpl : (parG e.path).length ≤ 256 := Nat.le_trans (parG_le _) (hW.pl e he).1
  have hst := hO.st hg (by rw [hk]; decide)
  have ha : absG t (parG e.path) = (parG e.path, 0) := by
    rw [hpar] at hpl ⊢; exact hst.abs hpl
  have hk1 : kindG t (parG e.path) = 1 := by rw [hpar]; exact hk
  refine ⟨(pF ns).length, hl, ?_, hpl, ?_, is_of ha hk1, ?_, ?_⟩
  · unfold parG; rw [hl, Nat.add_sub_cancel]
  · unfold kindE
    rw [ha]
    show (if (0 : Nat) ≠ 0 then _ else (kindG t (parG e.path), 0)) = _
    rw [if_neg (by decide), hk1]
  · unfold outG
    refine List.mem_map.2 ⟨e.path, List.mem_filter.2 ⟨List.mem_map.2 ⟨e, he, rfl⟩, decide_eq_true rfl⟩, ?_⟩
    rw [hpar, join_dirP hg [], dirP_snoc, List.length_append]; rfl
  · rw [hp, dirP_snoc, List.length_append, List.length_cons]; omega
theorem home_en {t : Tr} (hW : WfT t) (hO : OkT t) : kindE t t.cwd = (1, 0) := by
  obtain ⟨ns, g1, g2, g3⟩ := hO.cw
  have hs := hO.st g1 (by rw [← g2, g3]; decide)
  rw [← g2] at hs
  unfold kindE
  rw [hs.abs hW.c2]
  show (if (0 : Nat) ≠ 0 then _ else (kindG t t.cwd, 0)) = _
  rw [if_neg (by decide), g3]
theorem out_mem_ne {d x : Bs} {l : List Bs} (h : x ∈ outG d l) : outG d l ≠ [] := fun e => by rw [e] at h; cases h
theorem insB_mem2 {x z : Bs} : ∀ {l : List Bs}, z = x ∨ z ∈ l → z ∈ insB x l
  | [], h => by
    rcases h with h | h
    · rw [h]; exact List.mem_cons_self
    · cases h
  | y :: l, h => by
    unfold insB
    split
    · rcases h with h | h
      · exact List.mem_cons_of_mem _ (insB_mem2 (.inl h))
      · rcases List.mem_cons.1 h with h | h
        · rw [h]; exact List.mem_cons_self
        · exact List.mem_cons_of_mem _ (insB_mem2 (.inr h))
    · rcases h with h | h
      · rw [h]; exact List.mem_cons_self
      · exact List.mem_cons_of_mem _ h
theorem sortB_mem2 {x : Bs} : ∀ {l : List Bs}, x ∈ l → x ∈ sortB l
  | y :: l, h => insB_mem2 ((List.mem_cons.1 h).imp_right sortB_mem2)
end Go.Proofs.YtjoakhpdajlhiaaDoor.V2.S
namespace Go.Proofs.YtjoakhpdajlhiaaDoor.V2.S
open Go
set_option maxRecDepth 100000
set_option maxHeartbeats 4000000
set_option linter.unusedVariables false
attribute [local irreducible] fN fO nM gM pM Phi.fn mp bl bpart bapp top1 pack
def TwoS (H : HF) : Prop := ∀ (a n : Nat) (m : T FObj), a ≤ 65535 → RetX 1 [] H [.n .i64 a] n m (fun v n' m' => ∃ b, v = .sl b 0 2 2 true 1 ∧ n ≤ b ∧ b < n' ∧ Am m' b (.bs (pack (twoB a)) 5 .exact))
theorem two_s {O : Oz} (hO : O = zO) (Φ : Phi) : TwoS (p32 O Φ) := fun a n m ha k P hn hf => by
  repeat' ((conv => lhs; whnf); first | ((with_reducible refine hr8 hO ?_)) | ((with_reducible refine cvW hO ?_)) | ((with_reducible refine bs2 hO (by omega) (by omega) (by omega) ?_)))
  all_goals (conv => lhs; whnf)
  all_goals first
    | exact hf _ _ _ (by omega) (by omega) qQ ⟨n, rfl, by omega, by omega, am_same (by omega)⟩
def ToldS (H : HF) : Prop := ∀ (s : Bs) (n : Nat) (m : T FObj), s.length ≤ 65535 → RetX 2 [] H [.s (pack s)] n m (fun v n' m' => ∃ b x tl, v = .sl b 0 (2 + s.length) (2 + s.length) x 1 ∧ n ≤ b ∧ b < n' ∧ Am m' b (.bs (pack (toldB s)) 5 tl) ∧ (s ≠ [] → x = false ∧ tl = .more))
theorem told_s {O : Oz} (hO : O = zO) (Φ : Phi) (H : TwoS (Phi.fn Φ 32)) : ToldS (p31 O Φ) := fun s n m hs k P hn hf => by
  by_cases h0 : s = []
  · subst h0
    repeat' ((conv => lhs; whnf); first | ((with_reducible refine atFn ?_); (refine H _ _ _ (by first | omega | decide) _ _ (by omega) (fun v2 n2 m2 h2 g2 k2 q2 => ?_); obtain ⟨b2, rfl, q3, q4, q5⟩ := q2; have k2p := Kq.kp k2)) | (((with_reducible refine lsS hO ?_); try simp only [List.length_nil])) | ((with_reducible refine atAp ?_); refine apS0 hO ?_))
    all_goals (conv => lhs; whnf)
    all_goals first
      | exact hf _ _ _ (by omega) (by omega) qQ ⟨b2, true, .exact, rfl, by omega, by omega, q5, fun h => absurd rfl h⟩
  · have hp := List.length_pos_iff.2 h0
    repeat' ((conv => lhs; whnf); first | ((with_reducible refine atFn ?_); (refine H _ _ _ (by omega) _ _ (by omega) (fun v2 n2 m2 h2 g2 k2 q2 => ?_); obtain ⟨b2, rfl, q3, q4, q5⟩ := q2; have k2p := Kq.kp k2)) | (((with_reducible refine lsS hO ?_))) | ((with_reducible refine atAp ?_); refine apXS hO q5 (by show 2 ≤ 2; omega) rfl hp (by omega) (by omega) ?_))
    all_goals (conv => lhs; whnf)
    all_goals first
      | exact hf _ _ _ (by omega) (by omega) qQ ⟨_, false, .more, rfl, by omega, by omega, am_same (by omega), fun _ => ⟨rfl, rfl⟩⟩
def EqBS (H : HF) : Prop := ∀ {a b : Bs} {b1 b2 K1 K2 n : Nat} {m : T FObj} {x1 x2 : Bool} {e1 e2 : TypeId} {t1 t2 : Tl}, Am m b1 (.bs (pack a) e1 t1) → Am m b2 (.bs (pack b) e2 t2) → a.length ≤ 900000 → b.length ≤ 900000 → Ret0 H [.sl b1 0 a.length K1 x1 1, .sl b2 0 b.length K2 x2 1] n m (.b (decide (a = b)))
theorem eqB_s {O : Oz} (hO : O = zO) (Φ : Phi) : EqBS (p17 O Φ) := fun {a b b1 b2 K1 K2 n m x1 x2 e1 e2 t1 t2} ha1 ha2 hl1 hl2 k P hf => by
  repeat' ((conv => lhs; whnf); first | ((with_reducible refine lvS hO ?_)) | ((with_reducible refine neB hO (fun h => ?_) (fun h => ?_))))
  all_goals (conv => lhs; whnf)
  all_goals first
    | (rw [decide_eq_false (fun e : a = b => by subst e; first | omega | (rename_i hne; exact hne rfl) | exact absurd rfl (by assumption))] at hf; exact hf)
    | (refine lpI hO (fun q e n' m' => ∃ i, i ≤ a.length ∧ q = a.length - i ∧ n' = n ∧ m' = m ∧ (∀ j, j < i → bt a j = bt b j) ∧ e = eof [(4, .b false), (13, .n .i64 i)]) ?_ ?_ _ a.length _ _ _ (by omega) ⟨0, by omega, by omega, rfl, rfl, fun j hj => absurd hj (Nat.not_lt_zero _), rfl⟩
       · rintro q e n' m' ⟨i, _, _, h, _⟩; omega
       · rintro q e n' m' ih ⟨i, hi, rfl, rfl, rfl, hj, rfl⟩ hih
         repeat' ((conv => lhs; whnf); first | ((with_reducible refine atLd ?_); first | refine ldB hO ha1 (by omega) ?_ | refine ldB hO ha2 (by omega) ?_) | ((with_reducible refine ltB hO (fun h => ?_) (fun h => ?_))) | ((with_reducible refine neB hO (fun h => ?_) (fun h => ?_))) | ((with_reducible refine adI hO (by omega) ?_)) | ((with_reducible refine ix01 hO (by omega) ?_)))
         all_goals (conv => lhs; whnf)
         all_goals first
           | exact hih (a.length - (i + 1)) _ _ _ (by omega) ⟨i + 1, by omega, rfl, rfl, rfl, fun j hj2 => by
               rcases Nat.lt_or_ge j i with h2 | h2
               · exact hj j h2
               · rw [show j = i by omega]; omega, rfl⟩
           | (rw [decide_eq_true (bt_ext (by omega) fun j hj2 => hj j (by omega))] at hf; exact hf)
           | (rw [decide_eq_false (fun e : a = b => by subst e; first | omega | (rename_i hne; exact hne rfl) | exact absurd rfl (by assumption))] at hf; exact hf))
def KindES (H : HF) : Prop := ∀ {tb mb : Nat} {t : Tr} {n : Nat} {m : T FObj}, TreeAt m tb mb 65 t → tb < n → mb < n → 1 ≤ t.cwd.length → t.cwd.length ≤ 256 → ∀ (path : Bs), path.length ≤ 900000 → Ret 601 H [.p tb 0, .s (pack path)] n m (.tup [.n .i64 (kindE t path).1, .n .i64 (kindE t path).2])
theorem kindE_s {O : Oz} (hO : O = zO) (Φ : Phi) (HA : AbsS (Phi.fn Φ 12)) (HK : KindS (Phi.fn Φ 35)) : KindES (p19 O Φ) := fun {tb mb t n m} hT htb hmb hc1 hc2 path hpl k P hn hf => by
  repeat' ((conv => lhs; whnf); first | ((with_reducible refine atFn ?_); first | refine HA (hT.kp kQ htb hmb) (by omega) (by omega) hc1 hc2 _ hpl _ _ (by omega) (fun n2 m2 h2 g2 k2 => ?_) | refine HK (hT.kp kQ htb hmb) (by omega) (by omega) _ _ _ (by omega) (fun n3 m3 h3 g3 k3 => ?_)) | ((with_reducible refine neB hO (fun h => ?_) (fun h => ?_))))
  all_goals (conv => lhs; whnf)
  all_goals first
    | (rw [show kindE t path = (0, (absG t path).2) by unfold kindE; rw [if_pos (by assumption)]] at hf; exact hf _ _ (by omega) (by omega) kQ)
    | (rw [show kindE t path = (kindG t (absG t path).1, 0) by unfold kindE; rw [if_neg (by simp [*])]] at hf; exact hf _ _ (by omega) (by omega) kQ)
end Go.Proofs.YtjoakhpdajlhiaaDoor.V2.S
namespace Go.Proofs.YtjoakhpdajlhiaaDoor.V2.S
open Go
set_option maxRecDepth 100000
set_option maxHeartbeats 4000000
set_option linter.unusedVariables false
attribute [local irreducible] fN fO nM gM pM Phi.fn Phi.yl Phi.up mp bl bpart bapp top1 pack
def WalkN (H : HF) (y : Nat) (Y : HF) : Prop := ∀ {tb mb : Nat} {t : Tr} {n : Nat} {m : T FObj} (c : Nat) (xs : List Nat) (I : Nat → Nat → Nat → T FObj → Prop), TreeAt m tb mb 65 t → tb < n → mb < n → WfT t → (∀ x ∈ xs, x < n) → (∀ x ∈ xs, tb ≠ x) → (∀ x ∈ xs, mb ≠ x) →
  (∀ N i e n1 m1 (k : KV) (P : FR), (sortE t.L)[i]? = some e → n ≤ N → N ≤ n1 → n1 + c ≤ 1000000 → Kq xs n m m1 → I N i n1 m1 → (∀ n2 m2, n1 ≤ n2 → n2 ≤ n1 + c → Kq xs N m1 m2 → I N (i + 1) n2 m2 → k (.b true) ⟨n2, m2⟩ = P) → Y [entV e] ⟨n1, m1⟩ k = P) →
  ∀ (k : KV) (P : FR), n + 2 + c * t.L.length ≤ 1000000 → (∀ N m1, n ≤ N → N ≤ n + 2 → Kp n m m1 → I N 0 N m1) → (∀ N n' m', n ≤ N → N ≤ n' → n' ≤ n + 2 + c * t.L.length → Kq xs n m m' → I N t.L.length n' m' → k (.tup []) ⟨n', m'⟩ = P) → H [.p tb 0, .y y] ⟨n, m⟩ k = P
theorem walkN_s {O : Oz} (hO : O = zO) (Φ : Phi) (H1 : NoneS (Phi.fn Φ 28)) (H2 : KeysS Φ) (y : Nat) (Y : HF) (hy : Phi.yl Φ y = Y) : WalkN (p9 O Φ) y Y := fun {tb mb t n m} c xs I hT htb hmb hW hx1 hx2 hx3 hY k P hn h0 hf => by
  have hT1 := hT.s
  have hT2 := hT.m
  have hwl := hW.len
  have hpw : ∀ e ∈ t.L, e.path.length ≤ 1000000 := fun e he => by have := (hW.pl e he).1; omega
  by_cases hL : t.L = []
  · have hl0 : t.L.length = 0 := by rw [hL]; rfl
    rw [hl0] at hf hn
    repeat' ((conv => lhs; whnf); first | ((with_reducible refine atFn ?_); first | refine H1 (hT.kp kQ htb hmb) _ _ ?_ | (refine H2 hT2 hmb hW.nd (by omega) hpw _ _ (by omega) ?_; rintro v1 n1 m1 h1 g1 k1 q0 q1; obtain rfl := q0 hL)) | ((with_reducible refine fa0 hO ?_)) | ((with_reducible refine atLd ?_); refine ldC hO aQ (by rfl) ?_) | ((with_reducible refine lvN hO ?_)))
    all_goals (conv => lhs; whnf)
    all_goals first
      | exact hf n _ _ (by omega) (by omega) (by omega) qQ (h0 n _ (by omega) (by omega) kQ)
      | (refine lpI hO (fun t e n' m' => t = 0 ∧ n' = n1 ∧ m' = m1 ∧ e = eof [(15, .n .i64 0)]) ?_ ?_ _ 0 _ _ _ (by omega) ⟨rfl, rfl, rfl, rfl⟩
         · rintro t e n' m' ⟨_, rfl, _⟩; omega
         · rintro t e n' m' ih ⟨rfl, rfl, rfl, rfl⟩ hih
           repeat' ((conv => lhs; whnf); first | ((with_reducible refine ltF hO (by omega) ?_)))
           all_goals (conv => lhs; whnf)
           all_goals first
             | exact hf _ _ _ (by omega) (Nat.le_refl _) (by omega) (Kq.of kQ _) (h0 _ _ (by omega) (by omega) kQ))
  · 
    repeat' ((conv => lhs; whnf); first | ((with_reducible refine atFn ?_); first | refine H1 (hT.kp kQ htb hmb) _ _ ?_ | (refine H2 hT2 hmb hW.nd (by omega) hpw _ _ (by omega) ?_; rintro v1 n1 m1 h1 g1 k1 q0 q1; obtain ⟨b, rfl, q1, q2, q3⟩ := q1 hL)) | ((with_reducible refine fa0 hO ?_)) | ((with_reducible refine atLd ?_); refine ldC hO aQ (by rfl) ?_) | ((with_reducible refine lvS hO ?_)))
    all_goals (conv => lhs; whnf)
    all_goals first
      | exact absurd rfl hL
      | (refine lpI hO (fun q e n' m' => ∃ i, i ≤ t.L.length ∧ q = t.L.length - i ∧ n1 ≤ n' ∧ n' ≤ n1 + c * i ∧ Kq xs n m m' ∧ Kq xs n1 m1 m' ∧ I n1 i n' m' ∧ e = eof [(15, .n .i64 i)]) ?_ ?_ _ t.L.length _ _ _ (by omega) ⟨0, Nat.zero_le _, by omega, Nat.le_refl _, by omega, Kq.of kQ _, Kq.refl _ _ _, h0 _ _ (by omega) (by omega) kQ, rfl⟩
         · rintro q e n' m' ⟨i, _, _, h, _⟩; omega
         · rintro q e n' m' ih ⟨i, z1, rfl, z2, z3, z4, z5, z6, rfl⟩ hih
           have hT' := hT.kq z4 htb hmb hx2 hx3
           have hT1' := hT'.s
           have hT2' := hT'.m
           have hb' : Am m' b (.cells (vsL (sortB (t.L.map En.path))) 9 .more) := z5 _ _ q2 (fun x hx => by have := hx1 x hx; omega) q3
           clear hT1 hT2
           rcases Nat.lt_or_ge i t.L.length with hlt | hge
           · obtain ⟨e1, he⟩ : ∃ e1, (sortE t.L)[i]? = some e1 := ⟨_, List.getElem?_eq_getElem (by rw [sortE_len]; omega)⟩
             have hle := sortE_at hW.nd he
             have hci : c * (i + 1) ≤ c * t.L.length := Nat.mul_le_mul_left c (by omega)
             have hcs : c * (i + 1) = c * i + c := Nat.mul_succ c i
             repeat' ((conv => lhs; whnf); first | ((rw [hy]; refine hY n1 _ _ _ _ _ _ he (by omega) (by omega) (by omega) z4 z6 (fun n5 m5 h5 g5 k5 q5 => ?_))) | ((with_reducible refine fa0 hO ?_)) | ((with_reducible refine atLd ?_); first | refine ldC hO aQ (vsL_at (sortB_at he)) ?_ | refine ldC hO aQ (by rfl) ?_) | ((with_reducible refine ltT hO (by omega) ?_)) | ((with_reducible refine adI hO (by omega) ?_)) | ((with_reducible refine ix01 hO (by omega) ?_)) | ((with_reducible refine atLk ?_); (refine lkS1 hO aQ (fun a hla => ?_) (fun hla => absurd hla (by rw [hle]; simp)); obtain rfl : e1 = a := by rw [hle] at hla; exact Option.some.inj hla)))
             all_goals (conv => lhs; whnf)
             all_goals first
               | exact hih (t.L.length - (i + 1)) _ _ _ (by omega) ⟨i + 1, by omega, rfl, by omega, by omega, z4.trans k5 (by omega), z5.trans k5 (by omega), q5, rfl⟩
           · obtain rfl : i = t.L.length := by omega
             repeat' ((conv => lhs; whnf); first | ((with_reducible refine ltF hO (by omega) ?_)))
             all_goals (conv => lhs; whnf)
             all_goals first
               | exact hf n1 _ _ (by omega) (by omega) (by omega) z4 z6)
end Go.Proofs.YtjoakhpdajlhiaaDoor.V2.S
namespace Go.Proofs.YtjoakhpdajlhiaaDoor.V2.S
open Go
set_option maxRecDepth 100000
set_option maxHeartbeats 4000000
set_option linter.unusedVariables false
attribute [local irreducible] fN fO nM gM pM Phi.fn Phi.yl Phi.up mp bl bpart bapp top1 pack
def BytesS (H : HF) : Prop := ∀ {tb mb : Nat} {t : Tr} {n : Nat} {m : T FObj}, TreeAt m tb mb 65 t → tb < n → mb < n → WfT t → RetX 1160 [] H [.p tb 0] n m (fun v n' m' => ∃ b, v = .sl b 0 (treeB t).length (treeB t).length false 1 ∧ n ≤ b ∧ b < n' ∧ Am m' b (.bs (pack (treeB t)) 5 .more))
theorem bytes_s {O : Oz} (hO : O = zO) (Φ : Phi) (HN : NoneS (Phi.fn Φ 28)) (HT : ToldS (Phi.fn Φ 31)) (H2 : TwoS (Phi.fn Φ 32)) (H : ∀ y Y, WalkN (Phi.fn (Phi.up Φ y Y) 9) y Y) : BytesS (p10 O Φ) := fun {tb mb t n m} hT htb hmb hW k P hn hf => by
  have hT1 := hT.s
  have hT2 := hT.m
  have hlen := hW.len
  have hc1 := hW.c1
  have hc2 := hW.c2
  have hcn : t.cwd ≠ [] := fun h => by rw [h] at hc1; simp at hc1
  repeat' ((conv => lhs; whnf); first | ((with_reducible refine bs1 hO (by omega) (by omega) ?_)) | ((with_reducible refine mlS hO aQ ?_)) | ((with_reducible refine atFn ?_); first | refine HN (hT.kp kQ htb hmb) _ _ ?_ | (refine HT _ _ _ (by omega) _ _ (by omega) (fun v1 n1 m1 h1 g1 k1 q1 => ?_); obtain ⟨b1, x1, tl1, rfl, r1, r2, r3, r4⟩ := q1; obtain ⟨rfl, rfl⟩ := r4 hcn; have k1p := Kq.kp k1) | (refine H2 _ _ _ (by omega) _ _ (by omega) (fun v2 n2 m2 h2 g2 k2 q2 => ?_); obtain ⟨b2, rfl, s1, s2, s3⟩ := q2; have k2p := Kq.kp k2) | refine H _ _ 9 [n, n2] (fun N i n1 m1 => ∃ b L, (b = n2 ∨ N ≤ b) ∧ b < n1 ∧ L = (byI t i).length ∧ Am m1 n (.cells [.sl b 0 L L false 1] 33 .exact) ∧ Am m1 b (.bs (pack (byI t i)) 5 .more)) (hT.kp kQ htb hmb) (by omega) (by omega) hW (fun x hx => by simp only [List.mem_cons, List.not_mem_nil, or_false] at hx; omega) (fun x hx => by simp only [List.mem_cons, List.not_mem_nil, or_false] at hx; omega) (fun x hx => by simp only [List.mem_cons, List.not_mem_nil, or_false] at hx; omega) (fun N i e n5 m5 k5 P5 he hN hn5 hc5 hq5 hI5 hk5 => hI5.elim fun b5 hI6 => hI6.elim fun L5 hI7 => hI7.elim fun hb5 hI8 => hI8.elim fun hb6 hI9 => hI9.elim fun hL5 hI10 => hI10.elim fun ha5 hd5 => (used_aux hW he).elim fun z1 z2 => (fun z3 => ?_) (byI_len hW i)) _ _ (by omega) (fun N m4 h4 g4 k4 => ⟨n2, 2 + t.cwd.length + 2, .inl rfl, by omega, preB_len t, aQ, by rw [byI_0, preB_eq]; repeat (first | assumption | exact am_same (by omega) | apply am_ne (by omega) (by omega) | apply kp_am (by assumption) (by omega) | apply Kq.am (by assumption) (by omega) (by simp only [List.mem_cons, List.not_mem_nil, or_false, forall_eq_or_imp, forall_eq, false_implies, implies_true, ne_eq, and_true]; omega))⟩) (fun N n4 m4 h4 g4 l4 k4 hI4 => (fun k4l => hI4.elim fun b4 hI6 => hI6.elim fun L4 hI7 => hI7.elim fun hb4 hI8 => hI8.elim fun hb6 hI9 => hI9.elim fun hL4 hI10 => hI10.elim fun ha4 hd4 => ?_) (Kq.low (n := n) k4 (by omega) (fun x hx => by simp only [List.mem_cons, List.not_mem_nil, or_false] at hx; omega))) | (rw [bare_fn]; refine HT _ _ _ (by omega) _ _ (by omega) (fun v6 n6 m6 h6 g6 k6 q6 => ?_); obtain ⟨b6, x6, tl6, rfl, u2, u3, u4, u5⟩ := q6; have k6p := Kq.kp k6)) | ((with_reducible refine fa0 hO ?_)) | ((with_reducible refine atLd ?_); refine ldC hO aQ (by rfl) ?_) | ((with_reducible refine cvB hO (by omega) ?_)) | ((with_reducible refine atSt ?_); first | refine stC hO aQ (by kernel_rfl) (fun _ _ _ => rfl) (fun _ => rfl) ?_ | refine ust hO ?_) | ((with_reducible refine alO hO (by omega) ?_)) | ((with_reducible refine rcE hO (by kernel_rfl) rfl ?_)) | ((with_reducible refine atAp ?_); first | refine apBB hO aQ aQ (by rw [toldB_len]; omega) (by show 2 ≤ 2; omega) (by omega) (by rfl) (fun _ => rfl) (by omega) (by omega) ?_ | refine apBB hO aQ aQ (by omega) (by show 1 ≤ 1; omega) (by omega) (by rfl) (fun _ => rfl) (by omega) (by omega) ?_ | refine apBB hO aQ aQ (by simp only [List.length_append, List.length_take, List.drop_zero, List.length_singleton]; omega) (by rw [toldB_len]; omega) (by omega) (by rfl) (fun _ => rfl) (by omega) (by omega) ?_ | refine apBB hO aQ aQ (by simp only [List.length_append, List.length_take, List.drop_zero, List.length_singleton, toldB_len]; omega) (by rw [toldB_len]; omega) (by omega) (by rfl) (fun _ => rfl) (by omega) (by omega) ?_) | (with_reducible refine (fN_eq _ _).trans ?_) | (with_reducible refine (nM_mp (by omega)).trans ?_) | (with_reducible refine pM_mp.trans ?_) | (refine gM_amP aQ ?_) | ((with_reducible refine atB ?_); first | refine brecT (by assumption) ?_ | refine brecF (by assumption) ?_ | refine brec (fun h => ?_) (fun h => ?_)))
  all_goals (conv => lhs; whnf)
  all_goals first
    | (rcases hb5 with rfl | hb5 <;> exact hk5 _ _ (by omega) (by omega) qQ ⟨n6, _, .inr (by omega), by omega, len_dir hL5 he (by assumption), aQ, by rw [ent_dir hL5 he (by assumption)]; repeat (first | assumption | exact am_same (by omega) | apply am_ne (by omega) (by omega) | apply kp_am (by assumption) (by omega) | apply Kq.am (by assumption) (by omega) (by simp only [List.mem_cons, List.not_mem_nil, or_false, forall_eq_or_imp, forall_eq, false_implies, implies_true, ne_eq, and_true]; omega))⟩)
    | (rcases hb5 with rfl | hb5 <;> exact hk5 _ _ (by omega) (by omega) qQ ⟨n6, _, .inr (by omega), by omega, len_file hL5 he (by assumption), aQ, by rw [ent_file hL5 he (by assumption)]; repeat (first | assumption | exact am_same (by omega) | apply am_ne (by omega) (by omega) | apply kp_am (by assumption) (by omega) | apply Kq.am (by assumption) (by omega) (by simp only [List.mem_cons, List.not_mem_nil, or_false, forall_eq_or_imp, forall_eq, false_implies, implies_true, ne_eq, and_true]; omega))⟩)
    | (rw [byI_all] at hL4 hd4; subst hL4; exact hf _ _ _ (by omega) (by omega) qQ ⟨b4, rfl, by omega, by omega, hd4⟩)
end Go.Proofs.YtjoakhpdajlhiaaDoor.V2.S
namespace Go.Proofs.YtjoakhpdajlhiaaDoor.V2.S
open Go
theorem nm0 {y : Nat} : ∀ x ∈ ([] : List Nat), y ≠ x := fun x hx => absurd hx List.not_mem_nil
theorem nm1 {y a : Nat} (h : y ≠ a) : ∀ x ∈ [a], y ≠ x := fun x hx => by rw [List.mem_singleton.1 hx]; exact h
end Go.Proofs.YtjoakhpdajlhiaaDoor.V2.S
namespace Go.Proofs.YtjoakhpdajlhiaaDoor.V2.S
open Go
set_option maxRecDepth 100000
set_option maxHeartbeats 4000000
set_option linter.unusedVariables false
attribute [local irreducible] fN fO nM gM pM Phi.fn Phi.yl Phi.up mp bl bpart bapp top1 pack
theorem nm3 {y a b c : Nat} (h : y ≠ a) (h2 : y ≠ b) (h3 : y ≠ c) : ∀ x ∈ [a, b, c], y ≠ x := fun x hx => by
  simp only [List.mem_cons, List.not_mem_nil, or_false] at hx
  rcases hx with rfl | rfl | rfl <;> assumption
theorem out_len (d : Bs) (l : List Bs) : (outG d l).length ≤ l.length := by unfold outG; rw [List.length_map]; exact List.length_filter_le _ _
theorem sizesG_all {t : Tr} : sizesG ((sortE t.L).take t.L.length) = sizesG t.L := by rw [List.take_of_length_le (by rw [sortE_len]; exact Nat.le_refl _), sizesG_perm (sortE_perm t.L)]
def WholeS (H : HF) : Prop := ∀ {tb mb : Nat} {t : Tr} {n : Nat} {m : T FObj}, TreeAt m tb mb 65 t → tb < n → mb < n → WfT t → OkT t → Ret 160000 H [.p tb 0] n m (.b true)
theorem whole_s {O : Oz} (hO : O = zO) (Φ : Phi) (HL : LibS (Phi.fn Φ 54)) (HK : KindES (Phi.fn Φ 19)) (HLi : ListS (Phi.fn Φ 55)) (HC : ContS (Phi.fn Φ 56)) (HU : UsedS (Phi.fn Φ 52)) (HCw : CwdS (Phi.fn Φ 11)) (H : ∀ y Y, WalkN (Phi.fn (Phi.up Φ y Y) 9) y Y) : WholeS (p24 O Φ) := fun {tb mb t n m} hT htb hmb hW hO1 k P hn hf => by
  have hTs := hT.s
  have hTm := hT.m
  clear hT
  have hc1 := hW.c1
  have hc2 := hW.c2
  have hwl := hW.len
  have hsz := hW.sz
  have hhm := home_en hW hO1
  have z1 : (kindE t t.cwd).1 = 1 := by rw [hhm]
  have z2 : (kindE t t.cwd).2 = 0 := by rw [hhm]
  repeat' ((conv => lhs; whnf); first | ((with_reducible refine leSF hO hlt ?_)) | ((with_reducible refine neSF hO (hdd (by assumption)) ?_)) | ((with_reducible refine ssH hO (by omega) ?_; rw [w2])) | ((with_reducible refine atFn ?_); first | (refine H _ _ (t := t) 1210 [n + 1 + 1, n + 1 + 1 + 1, n + 1 + 1 + 1 + 1] (fun N i n1 m1 => Am m1 (n + 1 + 1) (.ints .i64 [Int.ofNat i] 3 .exact) ∧ Am m1 (n + 1 + 1 + 1) (.ints .i64 [Int.ofNat (sizesG ((sortE t.L).take i))] 3 .exact) ∧ Am m1 (n + 1 + 1 + 1 + 1) (.cells [.s (pack (lastP t i))] 9 .exact)) ⟨(by (repeat (first | assumption | exact am_same (by omega) | apply am_ne (by omega) (by omega) | apply kp_am (by assumption) (by omega) | apply Kq.am (by assumption) (by omega) (by first | exact nm0 | exact nm1 (by omega) | exact nm3 (by omega) (by omega) (by omega)))); fail_if_success show _), (by (repeat (first | assumption | exact am_same (by omega) | apply am_ne (by omega) (by omega) | apply kp_am (by assumption) (by omega) | apply Kq.am (by assumption) (by omega) (by first | exact nm0 | exact nm1 (by omega) | exact nm3 (by omega) (by omega) (by omega)))); fail_if_success show _)⟩ (by omega) (by omega) hW (fun x hx => by simp only [List.mem_cons, List.not_mem_nil, or_false] at hx; omega) (fun x hx => by simp only [List.mem_cons, List.not_mem_nil, or_false] at hx; omega) (fun x hx => by simp only [List.mem_cons, List.not_mem_nil, or_false] at hx; omega) (fun N i e n5 m5 k5 P5 he hN hn5 hc5 hq5 hI5 hk5 => ?_) _ _ (by omega) (fun N m4 h4 g4 k4 => ⟨(by (repeat (first | assumption | exact am_same (by omega) | apply am_ne (by omega) (by omega) | apply kp_am (by assumption) (by omega) | apply Kq.am (by assumption) (by omega) (by first | exact nm0 | exact nm1 (by omega) | exact nm3 (by omega) (by omega) (by omega)))); fail_if_success show _), (by (repeat (first | assumption | exact am_same (by omega) | apply am_ne (by omega) (by omega) | apply kp_am (by assumption) (by omega) | apply Kq.am (by assumption) (by omega) (by first | exact nm0 | exact nm1 (by omega) | exact nm3 (by omega) (by omega) (by omega)))); fail_if_success show _), (by (repeat (first | assumption | exact am_same (by omega) | apply am_ne (by omega) (by omega) | apply kp_am (by assumption) (by omega) | apply Kq.am (by assumption) (by omega) (by first | exact nm0 | exact nm1 (by omega) | exact nm3 (by omega) (by omega) (by omega)))); fail_if_success show _)⟩) (fun N n4 m4 h4 g4 l4 k4 hI4 => ?_); (obtain ⟨a1, a2, a3⟩ := hI5; have hmem := mem_sort he; obtain ⟨i0, w1, w2, w3, w4, w5, w6, w7⟩ := whole_en hW hO1 hmem; have w4a : (kindE t (parG e.path)).1 = 1 := (by rw [w4]); have w4b : (kindE t (parG e.path)).2 = 0 := (by rw [w4]); have w8 := out_len (parG e.path) (t.L.map En.path); have w9 : (t.L.map En.path).length = t.L.length := List.length_map _; have hlt := lastP_lt hW he; have hpl := (hW.pl e hmem).1; have hdl := (hW.pl e hmem).2; have hdd := hO1.dd e hmem; have hus := (used_aux hW he).2; have hi8 := (used_aux hW he).1; have b0 : Am m5 n (.cells [.p tb 0] 26 .exact) := (by (repeat (first | assumption | exact am_same (by omega) | apply am_ne (by omega) (by omega) | apply kp_am (by assumption) (by omega) | apply Kq.am (by assumption) (by omega) (by first | exact nm0 | exact nm1 (by omega) | exact nm3 (by omega) (by omega) (by omega)))); fail_if_success show _); have b1 : Am m5 tb (.cells [.m mb, .s (pack t.cwd)] 65 .exact) := (by (repeat (first | assumption | exact am_same (by omega) | apply am_ne (by omega) (by omega) | apply kp_am (by assumption) (by omega) | apply Kq.am (by assumption) (by omega) (by first | exact nm0 | exact nm1 (by omega) | exact nm3 (by omega) (by omega) (by omega)))); fail_if_success show _); have b2 : Am m5 mb (.map (t.L.map fun a => (.s (pack (En.path a)), entV a))) := (by (repeat (first | assumption | exact am_same (by omega) | apply am_ne (by omega) (by omega) | apply kp_am (by assumption) (by omega) | apply Kq.am (by assumption) (by omega) (by first | exact nm0 | exact nm1 (by omega) | exact nm3 (by omega) (by omega) (by omega)))); fail_if_success show _)); rotate_left; (obtain ⟨a1, a2, a3⟩ := hI4; rw [sizesG_all] at a2; have b0 : Am m4 n (.cells [.p tb 0] 26 .exact) := (by (repeat (first | assumption | exact am_same (by omega) | apply am_ne (by omega) (by omega) | apply kp_am (by assumption) (by omega) | apply Kq.am (by assumption) (by omega) (by first | exact nm0 | exact nm1 (by omega) | exact nm3 (by omega) (by omega) (by omega)))); fail_if_success show _); have b1 : Am m4 tb (.cells [.m mb, .s (pack t.cwd)] 65 .exact) := (by (repeat (first | assumption | exact am_same (by omega) | apply am_ne (by omega) (by omega) | apply kp_am (by assumption) (by omega) | apply Kq.am (by assumption) (by omega) (by first | exact nm0 | exact nm1 (by omega) | exact nm3 (by omega) (by omega) (by omega)))); fail_if_success show _); have b2 : Am m4 mb (.map (t.L.map fun a => (.s (pack (En.path a)), entV a))) := (by (repeat (first | assumption | exact am_same (by omega) | apply am_ne (by omega) (by omega) | apply kp_am (by assumption) (by omega) | apply Kq.am (by assumption) (by omega) (by first | exact nm0 | exact nm1 (by omega) | exact nm3 (by omega) (by omega) (by omega)))); fail_if_success show _); have b3 : Am m4 (n + 1) (.cells [.b false] 4 .exact) := (by (repeat (first | assumption | exact am_same (by omega) | apply am_ne (by omega) (by omega) | apply kp_am (by assumption) (by omega) | apply Kq.am (by assumption) (by omega) (by first | exact nm0 | exact nm1 (by omega) | exact nm3 (by omega) (by omega) (by omega)))); fail_if_success show _); have k4p := Kq.low (n := n) k4 (by omega) (fun x hx => by simp only [List.mem_cons, List.not_mem_nil, or_false] at hx; omega)); rotate_left) | (rw [bare_fn]; refine HL e.path (by omega) _ _ i0 w1 _ _ ?_) | (rw [bare_fn]; refine HK (t := t) ⟨(by (repeat (first | assumption | exact am_same (by omega) | apply am_ne (by omega) (by omega) | apply kp_am (by assumption) (by omega) | apply Kq.am (by assumption) (by omega) (by first | exact nm0 | exact nm1 (by omega) | exact nm3 (by omega) (by omega) (by omega)))); fail_if_success show _), (by (repeat (first | assumption | exact am_same (by omega) | apply am_ne (by omega) (by omega) | apply kp_am (by assumption) (by omega) | apply Kq.am (by assumption) (by omega) (by first | exact nm0 | exact nm1 (by omega) | exact nm3 (by omega) (by omega) (by omega)))); fail_if_success show _)⟩ (by omega) (by omega) hc1 hc2 (parG e.path) (by omega) _ _ (by omega) (fun n6 m6 h6 g6 k6 => ?_); rw [w4a, w4b]) | (rw [bare_fn]; refine HLi (t := t) ⟨(by (repeat (first | assumption | exact am_same (by omega) | apply am_ne (by omega) (by omega) | apply kp_am (by assumption) (by omega) | apply Kq.am (by assumption) (by omega) (by first | exact nm0 | exact nm1 (by omega) | exact nm3 (by omega) (by omega) (by omega)))); fail_if_success show _), (by (repeat (first | assumption | exact am_same (by omega) | apply am_ne (by omega) (by omega) | apply kp_am (by assumption) (by omega) | apply Kq.am (by assumption) (by omega) (by first | exact nm0 | exact nm1 (by omega) | exact nm3 (by omega) (by omega) (by omega)))); fail_if_success show _)⟩ (by omega) (by omega) hW (parG e.path) (by omega) w5 (out_mem_ne w6) _ _ (by omega) (fun b7 n7 m7 h7 h7b g7 k7 a7 => ?_)) | (rw [bare_fn]; refine HC a7 (sortB_length _).symm (by omega) _ (sortB_mem2 w6) _ _ ?_) | (refine HU (t := t) ⟨(by (repeat (first | assumption | exact am_same (by omega) | apply am_ne (by omega) (by omega) | apply kp_am (by assumption) (by omega) | apply Kq.am (by assumption) (by omega) (by first | exact nm0 | exact nm1 (by omega) | exact nm3 (by omega) (by omega) (by omega)))); fail_if_success show _), (by (repeat (first | assumption | exact am_same (by omega) | apply am_ne (by omega) (by omega) | apply kp_am (by assumption) (by omega) | apply Kq.am (by assumption) (by omega) (by first | exact nm0 | exact nm1 (by omega) | exact nm3 (by omega) (by omega) (by omega)))); fail_if_success show _)⟩ (by omega) (by omega) hW _ _ (by omega) (fun n6 m6 h6 g6 k6 => ?_)) | refine HCw (t := t) ⟨(by (repeat (first | assumption | exact am_same (by omega) | apply am_ne (by omega) (by omega) | apply kp_am (by assumption) (by omega) | apply Kq.am (by assumption) (by omega) (by first | exact nm0 | exact nm1 (by omega) | exact nm3 (by omega) (by omega) (by omega)))); fail_if_success show _), (by (repeat (first | assumption | exact am_same (by omega) | apply am_ne (by omega) (by omega) | apply kp_am (by assumption) (by omega) | apply Kq.am (by assumption) (by omega) (by first | exact nm0 | exact nm1 (by omega) | exact nm3 (by omega) (by omega) (by omega)))); fail_if_success show _)⟩ (by omega) (by omega) _ _ ?_ | (refine HK (t := t) ⟨(by (repeat (first | assumption | exact am_same (by omega) | apply am_ne (by omega) (by omega) | apply kp_am (by assumption) (by omega) | apply Kq.am (by assumption) (by omega) (by first | exact nm0 | exact nm1 (by omega) | exact nm3 (by omega) (by omega) (by omega)))); fail_if_success show _), (by (repeat (first | assumption | exact am_same (by omega) | apply am_ne (by omega) (by omega) | apply kp_am (by assumption) (by omega) | apply Kq.am (by assumption) (by omega) (by first | exact nm0 | exact nm1 (by omega) | exact nm3 (by omega) (by omega) (by omega)))); fail_if_success show _)⟩ (by omega) (by omega) hc1 hc2 t.cwd (by omega) _ _ (by omega) (fun n7 m7 h7 g7 k7 => ?_); rw [z1, z2])) | ((with_reducible refine fa0 hO ?_)) | ((with_reducible refine atLd ?_); first | refine ldC hO aQ (by rfl) ?_ | refine ldI hO aQ (by rfl) ?_) | (((with_reducible refine lsS hO ?_))) | ((with_reducible refine ltF hO (by omega) ?_)) | ((with_reducible refine leT hO (by omega) ?_)) | ((with_reducible refine gtF hO (by omega) ?_)) | ((with_reducible refine eqT hO (by omega) ?_)) | ((with_reducible refine neF hO (by omega) ?_)) | ((with_reducible refine adI hO (by omega) ?_)) | ((with_reducible refine mxI hO ?_)) | ((with_reducible refine ssL hO (by omega) ?_)) | ((with_reducible refine atSt ?_); first | refine stC hO aQ (by kernel_rfl) (fun _ _ _ => rfl) (fun _ => rfl) ?_ | refine ust hO ?_) | ((with_reducible refine alO hO (by omega) ?_)) | ((with_reducible refine atBx ?_); refine ubx hO ?_) | ((with_reducible refine rcE hO (by kernel_rfl) rfl ?_)) | (with_reducible refine (fN_eq _ _).trans ?_) | (with_reducible refine (nM_mp (by omega)).trans ?_) | (with_reducible refine pM_mp.trans ?_) | (refine gM_amP aQ ?_) | ((with_reducible refine atB ?_); first | refine brecT (by assumption) ?_ | refine brecF (by assumption) ?_ | refine brec (fun h => ?_) (fun h => ?_)))
  all_goals (conv => lhs; whnf)
  all_goals first
    | exact hk5 _ _ (by omega) (by omega) qQ ⟨(by (repeat (first | assumption | exact am_same (by omega) | apply am_ne (by omega) (by omega) | apply kp_am (by assumption) (by omega) | apply Kq.am (by assumption) (by omega) (by first | exact nm0 | exact nm1 (by omega) | exact nm3 (by omega) (by omega) (by omega)))); fail_if_success show _), by rw [sizesG_take he, ← Nat.add_assoc]; (repeat (first | assumption | exact am_same (by omega) | apply am_ne (by omega) (by omega) | apply kp_am (by assumption) (by omega) | apply Kq.am (by assumption) (by omega) (by first | exact nm0 | exact nm1 (by omega) | exact nm3 (by omega) (by omega) (by omega)))); fail_if_success show _, by rw [lastP_succ he]; (repeat (first | assumption | exact am_same (by omega) | apply am_ne (by omega) (by omega) | apply kp_am (by assumption) (by omega) | apply Kq.am (by assumption) (by omega) (by first | exact nm0 | exact nm1 (by omega) | exact nm3 (by omega) (by omega) (by omega)))); fail_if_success show _⟩
    | exact hf _ _ (by omega) (by omega) kQ
end Go.Proofs.YtjoakhpdajlhiaaDoor.V2.S
namespace Go.Proofs.YtjoakhpdajlhiaaDoor.V2.S
open Go
set_option maxRecDepth 100000
set_option maxHeartbeats 4000000
set_option linter.unusedVariables false
attribute [local irreducible] fN fO nM gM pM Phi.fn mp bl bpart bapp top1 pack
def AbsF (H : HF) : Prop := ∀ {tb mb : Nat} {t : Tr} {n : Nat} {m : T FObj}, TreeAt m tb mb 65 t → tb < n → mb < n → 1 ≤ t.cwd.length → t.cwd.length ≤ 256 → ∀ (path : Bs), path.length ≤ 900000 → Ret (5 + 2 * min path.length 256) H [.p tb 0, .s (pack path)] n m (.tup [.s (pack (absG t path).1), .n .i64 (absG t path).2])
theorem abs_f {O : Oz} (hO : O = zO) (Φ : Phi) (H1 : NoneS (Phi.fn Φ 28)) (H2 : KindS (Phi.fn Φ 35)) (H3 : HpS (Phi.fn Φ 33)) (H4 : NamedS (Phi.fn Φ 36)) (H5 : SplitS (Phi.fn Φ 34)) (H6 : ParS (Phi.fn Φ 37)) (H7 : JoinS (Phi.fn Φ 38)) : AbsF (p12 O Φ) := fun {tb mb t n m} hT htb hmb hc1 hc2 path hpl k P hn hf => by
  have hcsl := countS_le path
  have hT1 := hT.s
  have hT2 := hT.m
  have fin : ∀ n' m', path.length ≤ 256 → path ≠ [] → n ≤ n' → n' ≤ n + (5 + 2 * min path.length 256) → Kp n m m' → ∀ (r : Nat ⊕ Bs), loopG t (if hasPre path [47] then [47] else t.cwd) (splitB path) = r → k (.tup [.s (pack (match r with | .inl _ => [] | .inr a => a)), .n .i64 (match r with | .inl e => e | .inr _ => 0)]) ⟨n', m'⟩ = P := fun n' m' h1 h2 h3 h4 h5 r hr => by
    have := hf n' m' h3 h4 h5
    unfold absG at this
    rw [if_neg (by rintro (h | h); exact h2 h; omega), hr] at this
    cases r <;> exact this
  have key : ∀ (at0 : Bs), (if hasPre path [47] then [47] else t.cwd) = at0 → path.length ≤ 256 → path ≠ [] → 1 ≤ at0.length → at0.length ≤ 256 → ∀ (b Kk n1 : Nat) (m1 : T FObj), n ≤ n1 → n1 ≤ n + 1 → n ≤ b → b < n1 → Kp n m m1 → Am m1 b (.cells (vsL (splitB path)) 9 .exact) → ∀ (kn kr : K2) (ke : Nat → K2) (cd : Cd),
      (∀ i at_ n' m' (ih : K2), i ≤ countS path + 1 → n ≤ n' → n' ≤ n + 1 + 2 * i → Kp n m m' → Am m' b (.cells (vsL (splitB path)) 9 .exact) → loopG t at0 (splitB path) = loopG t at_ ((splitB path).drop i) → 1 ≤ at_.length → at_.length ≤ 256 + 33 * i → b < n' →
        (∀ at2 n2 m2, i < countS path + 1 → n ≤ n2 → n2 ≤ n + 1 + 2 * (i + 1) → Kp n m m2 → Am m2 b (.cells (vsL (splitB path)) 9 .exact) → loopG t at0 (splitB path) = loopG t at2 ((splitB path).drop (i + 1)) → 1 ≤ at2.length → at2.length ≤ 256 + 33 * (i + 1) → b < n2 → ih (eof [(4, .s (pack [])), (5, .n .i64 0), (6, .s (pack at2)), (30, .n .i64 (i + 1))]) ⟨n2, m2⟩ = P) →
        cd Φ n ih kr ke (eof [(4, .s (pack [])), (5, .n .i64 0), (6, .s (pack at_)), (30, .n .i64 i)]) ⟨n', m'⟩ = P) →
      O.lp 1000000 cd Φ n kn kr ke (eof [(4, .s (pack [])), (5, .n .i64 0), (6, .s (pack at0)), (30, .n .i64 0)]) ⟨n1, m1⟩ = P := fun at0 hat h1 h2 h3 h4 b Kk n1 m1 g1 g2 g3 g4 g5 g6 kn kr ke cd hs => by
    have hcl := countS_le path
    refine lpI hO (fun q e n' m' => ∃ i at_, i ≤ countS path + 1 ∧ q = countS path + 1 - i ∧ n ≤ n' ∧ n' ≤ n + 1 + 2 * i ∧ Kp n m m' ∧ Am m' b (.cells (vsL (splitB path)) 9 .exact) ∧ loopG t at0 (splitB path) = loopG t at_ ((splitB path).drop i) ∧ 1 ≤ at_.length ∧ at_.length ≤ 256 + 33 * i ∧ b < n' ∧ e = eof [(4, .s (pack [])), (5, .n .i64 0), (6, .s (pack at_)), (30, .n .i64 i)]) ?_ ?_ _ (countS path + 1) _ _ _ (by omega) ⟨0, at0, by omega, by omega, g1, by omega, g5, g6, rfl, h3, by omega, g4, rfl⟩
    · rintro q e n' m' ⟨i, at_, _, _, h, _⟩; exact h
    · rintro q e n' m' ih ⟨i, at_, q1, rfl, q2, q3, q4, q5, q6, q7, q8, q9, rfl⟩ hih
      exact hs i at_ n' m' ih q1 q2 q3 q4 q5 q6 q7 q8 q9 fun at2 n2 m2 r0 r1 r2 r3 r4 r5 r6 r7 r8 => hih (countS path + 1 - (i + 1)) _ _ _ (by omega) ⟨i + 1, at2, by omega, rfl, r1, r2, r3, r4, r5, r6, r7, r8, rfl⟩
  repeat' ((conv => lhs; whnf); first | ((with_reducible refine atFn ?_); first | refine H1 (hT.kp kQ htb hmb) _ _ ?_ | refine H3 _ _ (by omega) _ _ _ _ ?_ | (refine H5 _ (by omega) _ _ _ _ (by omega) ?_; rintro v1 n1 m1 h1 g1 hk1 ⟨b, Kk, rfl, q1, q2, q3⟩)) | ((with_reducible refine fa0 hO ?_)) | ((with_reducible refine atLd ?_); refine ldC hO aQ (by rfl) ?_) | (((with_reducible refine lsS hO ?_))) | ((with_reducible refine lvS hO ?_)) | ((with_reducible refine gtB hO (fun h => ?_) (fun h => ?_))) | ((with_reducible refine eqSB hO (fun h => ?_) (fun h => ?_))) | ((with_reducible refine atB ?_); refine brec (fun h => ?_) (fun h => ?_)))
  all_goals (conv => lhs; whnf)
  all_goals first
    | (have e : absG t path = ([], 23) := by unfold absG; rw [if_pos (by first | exact .inl (by assumption) | exact .inr (by omega))]
       rw [e] at hf; exact hf _ _ (by omega) (by omega) kQ)
    | (have hne : path ≠ [] := by assumption
       have hk2 : Kp n m m1 := hk1.kp
       clear hf
       have hle : path.length ≤ 256 := by omega
       first
         | refine key [47] (if_pos (by assumption)) hle hne (by decide) (by decide) b Kk n1 m1 h1 g1 q1 q2 hk2 q3 _ _ _ _ ?_
         | refine key t.cwd (if_neg (by simp [*])) hle hne hc1 hc2 b Kk n1 m1 h1 g1 q1 q2 hk2 q3 _ _ _ _ ?_)
  all_goals (
    intro i at_ n' m' ih z1 z2 z3 z4 z5 z6 z7 z8 z9 hih
    have hcl := countS_le path
    have e1 := parG_le at_
    have e2 := parG_pos z7
    rcases Nat.lt_or_ge i (countS path + 1) with hlt | hge)
  all_goals first
    | (have hi1 : i < countS path + 1 := hlt
       obtain ⟨p, hp⟩ : ∃ p, (splitB path)[i]? = some p := ⟨_, List.getElem?_eq_getElem (by rw [split_len]; omega)⟩
       have hdr := drop_of_get hp
       have hpm : p.length ≤ path.length := split_mem_le (List.mem_of_getElem? hp)
       have e3 := joinG_le at_ p
       have e4 := joinG_pos at_ p
       repeat' ((conv => lhs; whnf); first | ((with_reducible refine atFn ?_); first | refine H2 (hT.kp kQ htb hmb) (by omega) (by omega) _ _ _ (by omega) (fun n3 m3 h3 g3 k3 => ?_) | refine H4 _ _ _ (by omega) _ _ (by omega) (fun n3 m3 h3 g3 k3 => ?_) | refine H6 _ _ _ (by omega) (by omega) _ _ ?_ | refine H7 _ _ _ _ (by omega) (by omega) _ _ ?_) | ((with_reducible refine atLd ?_); refine ldC hO aQ (vsL_at hp) ?_) | ((with_reducible refine ltT hO (by omega) ?_)) | ((with_reducible refine eqB hO (fun h => ?_) (fun h => ?_))) | ((with_reducible refine eqST hO (by first | rfl | assumption) ?_)) | ((with_reducible refine eqSF hO (by first | assumption | decide) ?_)) | ((with_reducible refine eqSB hO (fun h => ?_) (fun h => ?_))) | ((with_reducible refine neSB hO (fun h => ?_) (fun h => ?_))) | ((with_reducible refine adI hO (by omega) ?_)) | ((with_reducible refine ix01 hO (by omega) ?_)) | ((with_reducible refine atB ?_); refine brec (fun h => ?_) (fun h => ?_)))
       all_goals (conv => lhs; whnf)
       all_goals first
         | exact hih at_ _ _ hi1 (by omega) (by omega) kQ aQ (by rw [z6, hdr, loopG_step (b := at_) (by unfold stepG; rw [if_pos (by first | exact .inl (by assumption) | exact .inr (by assumption))])]) (by omega) (by omega) (by omega)
         | exact fin _ _ hle hne (by omega) (by omega) kQ (.inl 23) (by (first | rw [if_pos (by assumption), z6, hdr] | rw [if_neg (by simp [*]), z6, hdr]); exact loopG_err (by unfold stepG; simp [*]))
         | exact fin _ _ hle hne (by omega) (by omega) kQ (.inl 6) (by (first | rw [if_pos (by assumption), z6, hdr] | rw [if_neg (by simp [*]), z6, hdr]); exact loopG_err (by unfold stepG; simp [*]))
         | exact fin _ _ hle hne (by omega) (by omega) kQ (.inl 5) (by (first | rw [if_pos (by assumption), z6, hdr] | rw [if_neg (by simp [*]), z6, hdr]); exact loopG_err (by unfold stepG; simp [*]))
         | exact hih (parG at_) _ _ hi1 (by omega) (by omega) kQ aQ (by rw [z6, hdr]; exact loopG_step (by unfold stepG; simp [*])) (by omega) (by omega) (by omega)
         | (have e5 := nameB_le (s := p) (by assumption)
            exact hih (joinG at_ p) _ _ hi1 (by omega) (by omega) kQ aQ (by rw [z6, hdr]; exact loopG_step (by unfold stepG; simp [*])) (by omega) (by omega) (by omega)))
    | (have hi1 : countS path + 1 ≤ i := hge
       repeat' ((conv => lhs; whnf); first | ((with_reducible refine ltF hO (by omega) ?_)))
       all_goals (conv => lhs; whnf)
       all_goals first
         | exact fin _ _ hle hne (by omega) (by omega) kQ (.inr at_) (by (first | rw [if_pos (by assumption), z6, List.drop_of_length_le (by rw [split_len]; omega)] | rw [if_neg (by simp [*]), z6, List.drop_of_length_le (by rw [split_len]; omega)]); rfl))
end Go.Proofs.YtjoakhpdajlhiaaDoor.V2.S
namespace Go.Proofs.YtjoakhpdajlhiaaDoor.V2.S
open Go
set_option maxRecDepth 100000
set_option maxHeartbeats 4000000
set_option linter.unusedVariables false
attribute [local irreducible] fN fO nM gM pM Phi.fn mp bl bpart bapp top1 pack numV
theorem textO_no {l : Bs} {o R : Nat} (hl : o + R = l.length) (h : R < 2 ∨ R - 2 < numV l o) : textO l o = none := by
  unfold textO
  rw [if_neg (by omega)]
theorem textO_some {l : Bs} {o R : Nat} (hl : o + R = l.length) (h1 : 2 ≤ R) (h2 : numV l o ≤ R - 2) : textO l o = some ((l.drop (o + 2)).take (numV l o), o + 2 + numV l o) := by
  unfold textO
  rw [if_pos (by omega)]
theorem entO_no1 {l : Bs} {o : Nat} (h : l.length < o + 1) : entO l o = none := by
  unfold entO
  rw [if_neg (by omega)]
theorem entO_no2 {l : Bs} {o : Nat} (h : textO l (o + 1) = none) : entO l o = none := by
  unfold entO
  split
  · rw [h]
  · rfl
theorem entO_no3 {l p : Bs} {o o2 : Nat} (hk : bt l o = 2) (h : textO l (o + 1) = some (p, o2)) (h2 : textO l o2 = none) : entO l o = none := by
  unfold entO
  by_cases h0 : o + 1 ≤ l.length
  · rw [if_pos h0, h]
    show (if bt l o = 2 then _ else _) = _
    rw [if_pos hk, h2]
  · rw [if_neg h0]
theorem entO_s1 {l p : Bs} {o o2 : Nat} (h0 : o + 1 ≤ l.length) (hk : bt l o ≠ 2) (h : textO l (o + 1) = some (p, o2)) : entO l o = some (bt l o, p, [], o2) := by
  unfold entO
  rw [if_pos h0, h]
  show (if bt l o = 2 then _ else _) = _
  rw [if_neg hk]
theorem entO_s2 {l p d : Bs} {o o2 o3 : Nat} (h0 : o + 1 ≤ l.length) (hk : bt l o = 2) (h : textO l (o + 1) = some (p, o2)) (h2 : textO l o2 = some (d, o3)) : entO l o = some (bt l o, p, d, o3) := by
  unfold entO
  rw [if_pos h0, h]
  show (if bt l o = 2 then _ else _) = _
  rw [if_pos hk, h2]
theorem loop_none {l : Bs} {c o : Nat} {t : Tr} {g : Bool} (h : entO l o = none) (hc : 0 < c) : loopP l c o t g = none := by
  obtain ⟨c, rfl⟩ : ∃ q, c = q + 1 := ⟨c - 1, by omega⟩
  unfold loopP
  rw [h]
theorem loop_some {l p d : Bs} {c o o' kd : Nat} {t : Tr} {g : Bool} (h : entO l o = some (kd, p, d, o')) (hc : 0 < c) : loopP l c o t g = loopP l (c - 1) o' (addE t kd p d).1 (g && (addE t kd p d).2) := by
  obtain ⟨c, rfl⟩ : ∃ q, c = q + 1 := ⟨c - 1, by omega⟩
  rw [loopP, h, Nat.add_sub_cancel]
theorem addE_no {t : Tr} {kd : Nat} {p d : Bs} (h : (absG t p).2 ≠ 0 ∨ (absG t p).1 ≠ p ∨ kindG t (absG t p).1 ≠ 0 ∨ (kd ≠ 1 ∧ kd ≠ 2)) : addE t kd p d = (t, false) := by
  unfold addE
  rw [if_neg]
  rintro ⟨h1, h2, h3, h4⟩
  rcases h with h | h | h | h
  · exact h h1
  · exact h h2
  · rw [h2] at h; exact h h3
  · rcases h4 with h4 | h4
    · exact h.1 h4
    · exact h.2 h4
theorem add_put {l p d : Bs} {o o' kd : Nat} {t : Tr} (he : entO l o = some (kd, p, d, o')) (hW : WfT t) (hO : OkT t) (h1 : (absG t p).2 = 0) (h2 : (absG t p).1 = p) (h3 : kindG t (absG t p).1 = 0) (h4 : kd = 1 ∨ kd = 2) {b : Bool} (hb : decide (kd = 1) = b) :
    addE t kd p d = ((putG t ⟨(absG t p).1, b, d⟩).1, decide ((putG t ⟨(absG t p).1, b, d⟩).2 = 0)) ∧ WfT (putG t ⟨(absG t p).1, b, d⟩).1 ∧ OkT (putG t ⟨(absG t p).1, b, d⟩).1 := by
  have h0 := addE_ok hW hO (kd := kd) (p := p) (d := d) (entO_len he).2.2.2
  have e : addE t kd p d = ((putG t ⟨(absG t p).1, b, d⟩).1, decide ((putG t ⟨(absG t p).1, b, d⟩).2 = 0)) := by
    unfold addE
    rw [h2] at h3
    rw [if_pos ⟨h1, h2, h3, h4⟩, h2, hb]
  rw [e] at h0
  exact ⟨e, h0⟩
theorem loop_step {l p d : Bs} {c o o' kd : Nat} {t t' : Tr} {g b : Bool} (h : entO l o = some (kd, p, d, o')) (hc : 0 < c) (ha : addE t kd p d = (t', b)) : loopP l c o t g = loopP l (c - 1) o' t' (g && b) := by
  rw [loop_some h hc, ha]
theorem add_put_no {l p d : Bs} {o o' kd : Nat} {t : Tr} (he : entO l o = some (kd, p, d, o')) (hW : WfT t) (hO : OkT t) (h1 : (absG t p).2 = 0) (h2 : (absG t p).1 = p) (h3 : kindG t (absG t p).1 = 0) (h4 : kd = 1 ∨ kd = 2) {b : Bool} (hb : decide (kd = 1) = b) (h5 : (putG t ⟨(absG t p).1, b, d⟩).2 ≠ 0) :
    addE t kd p d = ((putG t ⟨(absG t p).1, b, d⟩).1, false) ∧ WfT (putG t ⟨(absG t p).1, b, d⟩).1 ∧ OkT (putG t ⟨(absG t p).1, b, d⟩).1 := by
  have h := add_put he hW hO h1 h2 h3 h4 hb
  rw [decide_eq_false h5] at h; exact h
theorem add_put_ok {l p d : Bs} {o o' kd : Nat} {t : Tr} (he : entO l o = some (kd, p, d, o')) (hW : WfT t) (hO : OkT t) (h1 : (absG t p).2 = 0) (h2 : (absG t p).1 = p) (h3 : kindG t (absG t p).1 = 0) (h4 : kd = 1 ∨ kd = 2) {b : Bool} (hb : decide (kd = 1) = b) (h5 : (putG t ⟨(absG t p).1, b, d⟩).2 = 0) :
    addE t kd p d = ((putG t ⟨(absG t p).1, b, d⟩).1, true) ∧ WfT (putG t ⟨(absG t p).1, b, d⟩).1 ∧ OkT (putG t ⟨(absG t p).1, b, d⟩).1 := by
  have h := add_put he hW hO h1 h2 h3 h4 hb
  rw [decide_eq_true h5] at h; exact h
theorem RdS.kp {m m' : T FObj} {rb Bb o R n : Nat} {s : Bool} (h : RdS m rb Bb o R s) (hk : Kp n m m') (h1 : rb < n) : RdS m' rb Bb o R s := by
  obtain ⟨K, x, h2, h3⟩ := h
  exact ⟨K, x, h2, hk _ _ h1 h3⟩
theorem RdS.kq {m m' : T FObj} {rb Bb o R n mb : Nat} {s : Bool} (h : RdS m rb Bb o R s) (hk : Kq [mb] n m m') (h1 : rb < n) (h4 : rb ≠ mb) : RdS m' rb Bb o R s := by
  obtain ⟨K, x, h2, h3⟩ := h
  exact ⟨K, x, h2, hk _ _ h1 (nm1 h4) h3⟩
theorem RdS.eq {m : T FObj} {rb Bb o R R' : Nat} {s : Bool} (h : RdS m rb Bb o R s) (e : R = R') : RdS m rb Bb o R' s := e ▸ h
noncomputable def b21 (O : Oz) (v3 v4 v6 : FV) : Cd := (cLet (o2 O.lt R21 (rdV v6)) fun v7 => (cSeq (cCond (rdV v7) cSkip (cExit 0)) (cSeq (cBlk 1 (cLet (oCallS 44 [(rdV v3), (rdV (.n .i64 1))]) fun v8 => (cLet (o2 (O.ix 1) (rdV v8) (rdV (.n .i64 0))) fun v9 => (cLet (m1 O.ld (rdV v9)) fun v10 => (cLet (o1 (O.cv .i64) (rdV v10)) fun v11 => (cLet (oCallS 42 [(rdV v3)]) fun v12 => (cWr X10 (.s (pack [])) (cLet (o2 O.eq (rdV v11) (rdV (.n .i64 2))) fun v13 => (cSeq (cCond (rdV v13) (cLet (oCallS 42 [(rdV v3)]) fun v14 => (cWr X10 v14 cSkip)) cSkip) (cLet (o1 ncF (rdV v3)) fun v15 => (cLet (o1 (O.fa 1) (rdV v15)) fun v16 => (cLet (m1 O.ld (rdV v16)) fun v17 => (cSeq (cCond (rdV v17) (cExit 0) cSkip) (cLet (oCallS 12 [(rdV v4), (rdV v12)]) fun v18 => (cLet (o1 (exG 0) (rdV v18)) fun v19 => (cLet (o1 (exG 1) (rdV v18)) fun v20 => (cLet (o2 O.ne (rdV v20) (rdV (.n .i64 0))) fun v21 => (cLet (oG false (rdV v21) (oV (rdV v19))) fun v22 => (cLet (oG false (rdV v21) (oV (rdV v12))) fun v23 => (cLet (oG false (rdV v21) (o2 O.ne (rdV v22) (rdV v23))) fun v24 => (cLet (o3 pkF (rdV v21) (rdV (.b true)) (rdV v24)) fun v25 => (cLet (oG false (rdV v25) (oV (rdV v4))) fun v26 => (cLet (oG false (rdV v25) (oV (rdV v19))) fun v27 => (cLet (oG false (rdV v25) (oCallS 35 [(rdV v26), (rdV v27)])) fun v28 => (cLet (oG false (rdV v25) (o2 O.ne (rdV v28) (rdV (.n .i64 0)))) fun v29 => (cLet (o3 pkF (rdV v25) (rdV (.b true)) (rdV v29)) fun v30 => (cLet (oG false (rdV v30) (oV (rdV v11))) fun v31 => (cLet (oG false (rdV v30) (o2 O.ne (rdV v31) (rdV (.n .i64 1)))) fun v32 => (cLet (oG false (rdV v30) (oV (rdV v32))) fun v33 => (cLet (oG true (rdV v33) (oV (rdV v11))) fun v34 => (cLet (oG true (rdV v33) (o2 O.ne (rdV v34) (rdV (.n .i64 2)))) fun v35 => (cLet (oG false (rdV v30) (o3 pkF (rdV v33) (rdV v35) (rdV (.b false)))) fun v36 => (cLet (o3 pkF (rdV v30) (rdV (.b true)) (rdV v36)) fun v37 => (cLet (oG false (rdV v37) (oV (rdV v4))) fun v38 => (cLet (oG false (rdV v37) (oV (rdV v19))) fun v39 => (cLet (oG false (rdV v37) (oV (rdV v11))) fun v40 => (cLet (oG false (rdV v37) (o2 O.eq (rdV v40) (rdV (.n .i64 1)))) fun v41 => (cLet (oG false (rdV v37) (oV R10)) fun v42 => (cLet (oG false (rdV v37) (nL (O.bu [.s (pack []), .b false, .s (pack [])] [(.str []), (.bool false), (.str [])] [(0, 1), (1, 1), (2, 1)]) [(rdV v39), (rdV v41), (rdV v42)])) fun v43 => (cLet (oG false (rdV v37) (oCallS 39 [(rdV v38), (rdV v43)])) fun v44 => (cLet (oG false (rdV v37) (o2 O.ne (rdV v44) (rdV (.n .i64 0)))) fun v45 => (cLet (o3 pkF (rdV v37) (rdV (.b true)) (rdV v45)) fun v46 => (cSeq (cCond (rdV v46) (cWr X7 (.n .i64 5) cSkip) cSkip) cSkip))))))))))))))))))))))))))))))))))))))))))) (cLet (o2 O.ad R21 (rdV (.n .i64 1))) fun v47 => (cWr X21 v47 cSkip)))))
def LoopPS (O : Oz) (Φ : Phi) : Prop := ∀ {n rb Bb tb mb N cnt o1 n0 : Nat} {l : Bs} {e : TypeId} {tl : Tl} {m m0 : T FObj} {kn kr : K2} {ke : Nat → K2} {P : FR} {y0 : FV}, n ≤ rb → rb < n0 → n ≤ tb → tb < n0 → n ≤ mb → mb < n0 → tb ≠ mb → rb ≠ tb → rb ≠ mb → Bb < n → l.length ≤ 900000 → cnt ≤ 65535 → N ≤ n0 → Am m Bb (.bs (pack l) e tl) → Kp n m m0 → o1 ≤ l.length → RdS m0 rb Bb o1 (l.length - o1) false → TreeAt m0 tb mb 65 newG → n0 + (160 * min cnt (l.length / 3) + 2 * l.length + 200) ≤ 1000000 →
  (∀ e' n' m' o' R', loopP l cnt o1 newG true = none → n0 ≤ n' → n' ≤ n0 + (160 * min cnt (l.length / 3) + 2 * l.length + 10) → Kp n m m' → RdS m' rb Bb o' R' true → (∃ z y w, e' = eof [(2, .o .ptr), (3, .n .i64 0), (7, z), (10, y), (21, w)]) → ke 0 e' ⟨n', m'⟩ = P) →
  (∀ t g y n' m' o', loopP l cnt o1 newG true = some (t, g) → n0 ≤ n' → n' ≤ n0 + (160 * min cnt (l.length / 3) + 2 * l.length) → Kp n m m' → RdS m' rb Bb o' (l.length - o') false → TreeAt m' tb mb 65 t → WfT t → OkT t → ke 0 (eof [(2, .o .ptr), (3, .n .i64 0), (7, .n .i64 (if g = true then 0 else 5)), (10, y), (21, .n .i64 cnt)]) ⟨n', m'⟩ = P) →
  O.lp 1000000 (b21 O (.p rb 0) (.p tb 0) (.n .i64 cnt)) Φ N kn kr ke (eof [(2, .o .ptr), (3, .n .i64 0), (7, .n .i64 0), (10, y0), (21, .n .i64 0)]) ⟨n0, m0⟩ = P
theorem loopP_s {O : Oz} (hO : O = zO) (Φ : Phi) (HTx : TextS (Phi.fn Φ 42)) (HTk : TakeS (Phi.fn Φ 44)) (HA : AbsF (Phi.fn Φ 12)) (HK : KindS (Phi.fn Φ 35)) (HP : PutS (Phi.fn Φ 39)) : LoopPS O Φ := fun {n rb Bb tb mb N cnt o1 n0 l e tl m m0 kn kr ke P y0} hrn hr0 htn ht0 hmn hm0 htm hrt hrm hBn hl9 hcnt hN ha hk0 ho1 hr0' hT0 hb hsh hen => by
  have hrB : rb ≠ Bb := by omega
  refine lpI hO (fun q e' n' m' => ∃ i o t g y, q = cnt - i ∧ i ≤ cnt ∧ o1 + 3 * i ≤ o ∧ o ≤ l.length ∧ n0 ≤ n' ∧ n' ≤ n0 + (160 * i + 2 * (o - o1)) ∧ Kp n m m' ∧ RdS m' rb Bb o (l.length - o) false ∧ TreeAt m' tb mb 65 t ∧ WfT t ∧ OkT t ∧ loopP l cnt o1 newG true = loopP l (cnt - i) o t g ∧ e' = eof [(2, .o .ptr), (3, .n .i64 0), (7, .n .i64 (if g = true then 0 else 5)), (10, y), (21, .n .i64 i)]) ?_ ?_ _ cnt _ _ _ (by omega) ⟨0, o1, newG, true, y0, by omega, by omega, by omega, ho1, by omega, by omega, hk0, hr0', hT0, newG_wf, .new, rfl, rfl⟩
  · rintro q e' n' m' ⟨i, o, t, g, y, _, _, _, _, h, _⟩; omega
  · rintro q e' n1 m1' ih ⟨i, o, t, g, y, rfl, hi, hio, hol, hn0, hn1, hk, hr, hT, hW, hOk, hlp, rfl⟩ hih
    rcases Nat.lt_or_ge i cnt with hlt | hge
    rotate_left
    · obtain rfl : i = cnt := by omega
      rw [Nat.sub_self] at hlp
      repeat' ((conv => lhs; whnf); first | ((with_reducible refine ltF hO (by omega) ?_)))
      all_goals (conv => lhs; whnf)
      all_goals first
        | exact hen _ _ _ _ _ _ hlp (by omega) (by omega) hk hr hT hW hOk
    · have hc1 := hW.c1
      have hc2 := hW.c2
      have aB0 : Am m1' Bb (.bs (pack l) e tl) := hk _ _ (by omega) ha
      have hbt := bt_le l o
      have hb0 : bt [0] 0 = 0 := rfl
      have aS0 := hT.s
      have aM0 := hT.m
      clear hT hk0 hr0' hT0
      have hc3 : 0 < cnt - i := by omega
      have hcs : cnt - i - 1 = cnt - (i + 1) := by omega
      repeat' ((conv => lhs; whnf); first | ((with_reducible refine atFn ?_); first | (refine HTk (rb := rb) (Bb := Bb) hr aB0 (by omega) (by omega) hrB (by omega) hl9 (by omega) _ _ (by omega) (fun hs1 m1 k1 r1 a1 => ?_) (fun hs1 hm1 m1 K1 x1 k1 r1 => ?_); (have a1 : Am m1 n1 (.bs (pack [0]) 5 .exact) := a1; have hent : entO l o = none := entO_no1 (by rcases hs1 with h | h; cases h; omega)); (all_goals (have aB1 : Am m1 Bb (.bs (pack l) e tl) := (k1 _ _ (by omega) (by first | exact nm0 | exact nm1 (by omega)) (by assumption)); have aS1 : Am m1 tb (.cells [.m mb, .s (pack t.cwd)] 65 .exact) := (k1 _ _ (by omega) (by first | exact nm0 | exact nm1 (by omega)) (by assumption)); have aM1 : Am m1 mb (.map (t.L.map fun a => (.s (pack (En.path a)), entV a))) := (k1 _ _ (by omega) (by first | exact nm0 | exact nm1 (by omega)) (by assumption)); have kn1 : Kp n m m1 := Kp.trans (by assumption) (Kq.low (n := n) k1 (by omega) (fun x hx => by simp only [List.mem_cons, List.not_mem_nil, or_false] at hx; omega)) (Nat.le_refl n))); rotate_left; (have a1 := aB1; have hkd : o + 1 ≤ l.length := by omega); rotate_left) | (refine HTx (rb := rb) (Bb := Bb) r1 aB1 (by omega) (by omega) hrB (by omega) hl9 _ _ (by omega) (fun hs2 z2 o2 R2 n2 m2 hz2 ho2 h2 g2 k2 r2 => ?_) (fun hs2 hm2 hv2 m2 k2 r2 => ?_); (have hent : entO l o = none := (by first | assumption | exact entO_no2 (textO_no (o := o + 1) (R := l.length - o - 1) (by omega) (by rcases hs2 with h | h; cases h; exact h)))); rotate_left; (first | exact absurd hs2 (by decide) | (cases hs2; have hx2 := textO_some (l := l) (o := o + 1) (R := l.length - o - 1) (by omega) hm2 hv2; generalize hp : (l.drop (o + 1 + 2)).take (numV l (o + 1)) = p at hx2 ⊢; have hpl : p.length = numV l (o + 1) := (by rw [← hp, List.length_take, List.length_drop]; omega); clear hp)); rotate_left; all_goals (obtain ⟨Kc2, xc2, hKc2, hrc2⟩ := id r2; have aB2 : Am m2 Bb (.bs (pack l) e tl) := (k2 _ _ (by omega) (by first | exact nm0 | exact nm1 (by omega)) (by assumption)); have aS2 : Am m2 tb (.cells [.m mb, .s (pack t.cwd)] 65 .exact) := (k2 _ _ (by omega) (by first | exact nm0 | exact nm1 (by omega)) (by assumption)); have aM2 : Am m2 mb (.map (t.L.map fun a => (.s (pack (En.path a)), entV a))) := (k2 _ _ (by omega) (by first | exact nm0 | exact nm1 (by omega)) (by assumption)); have kn2 : Kp n m m2 := Kp.trans (by assumption) (Kq.low (n := n) k2 (by omega) (fun x hx => by simp only [List.mem_cons, List.not_mem_nil, or_false] at hx; omega)) (Nat.le_refl n))) | (refine HTx (rb := rb) (Bb := Bb) r2 aB2 (by omega) (by omega) hrB (by omega) hl9 _ _ (by omega) (fun hs3 z3 o3 R3 n3 m3 hz3 ho3 h3 g3 k3 r3 => ?_) (fun hs3 hm3 hv3 m3 k3 r3 => ?_); (have hent : entO l o = none := (by first | assumption | exact entO_no3 (by assumption) hx2 (textO_no (o := o + 1 + 2 + numV l (o + 1)) (R := l.length - o - 1 - 2 - numV l (o + 1)) (by omega) (by rcases hs3 with h | h; cases h; exact h)))); rotate_left; (first | exact absurd hs3 (by decide) | (cases hs3; have hx3 := textO_some (l := l) (o := o + 1 + 2 + numV l (o + 1)) (R := l.length - o - 1 - 2 - numV l (o + 1)) (by omega) hm3 hv3; generalize hd : (l.drop (o + 1 + 2 + numV l (o + 1) + 2)).take (numV l (o + 1 + 2 + numV l (o + 1))) = d at hx3 ⊢; have hdl : d.length = numV l (o + 1 + 2 + numV l (o + 1)) := (by rw [← hd, List.length_take, List.length_drop]; omega); clear hd)); rotate_left; all_goals (obtain ⟨Kc3, xc3, hKc3, hrc3⟩ := id r3; have aB3 : Am m3 Bb (.bs (pack l) e tl) := (k3 _ _ (by omega) (by first | exact nm0 | exact nm1 (by omega)) (by assumption)); have aS3 : Am m3 tb (.cells [.m mb, .s (pack t.cwd)] 65 .exact) := (k3 _ _ (by omega) (by first | exact nm0 | exact nm1 (by omega)) (by assumption)); have aM3 : Am m3 mb (.map (t.L.map fun a => (.s (pack (En.path a)), entV a))) := (k3 _ _ (by omega) (by first | exact nm0 | exact nm1 (by omega)) (by assumption)); have kn3 : Kp n m m3 := Kp.trans (by assumption) (Kq.low (n := n) k3 (by omega) (fun x hx => by simp only [List.mem_cons, List.not_mem_nil, or_false] at hx; omega)) (Nat.le_refl n))) | (refine HA (t := t) ⟨aS3, aM3⟩ (by omega) (by omega) hc1 hc2 p (by omega) _ _ (by omega) (fun n4 m4 h4 g4 k4 => ?_); have r4 := r3.kp k4 (by omega); have aS4 := k4 _ _ (by omega) aS3; have aM4 := k4 _ _ (by omega) aM3; have kn4 : Kp n m m4 := kn3.trans k4 (by omega)) | (refine HA (t := t) ⟨aS2, aM2⟩ (by omega) (by omega) hc1 hc2 p (by omega) _ _ (by omega) (fun n4 m4 h4 g4 k4 => ?_); have r4 := r2.kp k4 (by omega); have aS4 := k4 _ _ (by omega) aS2; have aM4 := k4 _ _ (by omega) aM2; have kn4 : Kp n m m4 := kn2.trans k4 (by omega)) | (refine HK (t := t) ⟨aS4, aM4⟩ (by omega) (by omega) _ _ _ (by omega) (fun n5 m5 h5 g5 k5 => ?_); have r5 := r4.kp k5 (by omega); have aS5 := k5 _ _ (by omega) aS4; have aM5 := k5 _ _ (by omega) aM4; have kn5 : Kp n m m5 := kn4.trans k5 (by omega)) | (refine HP (t := t) (x := ⟨(absG t p).1, true, []⟩) ⟨aS5, aM5⟩ (by omega) (by omega) htm hW (by show (absG t p).1.length ≤ 900000; have := absG_le (t := t) (path := p) hc2 (by omega); omega) (by first | exact Nat.zero_le _ | (show d.length ≤ 900000; omega)) _ _ (by omega) (fun v6 n6 m6 h6 g6 k6 q6 => ?_); obtain ⟨rfl, hT6⟩ := q6; have r6 := r5.kq k6 (by omega) (by omega); have kn6 : Kp n m m6 := kn5.trans (Kq.low (n := n) k6 (by omega) (fun x hx => by simp only [List.mem_cons, List.not_mem_nil, or_false] at hx; omega)) (Nat.le_refl n)) | (refine HP (t := t) (x := ⟨(absG t p).1, false, d⟩) ⟨aS5, aM5⟩ (by omega) (by omega) htm hW (by show (absG t p).1.length ≤ 900000; have := absG_le (t := t) (path := p) hc2 (by omega); omega) (by first | exact Nat.zero_le _ | (show d.length ≤ 900000; omega)) _ _ (by omega) (fun v6 n6 m6 h6 g6 k6 q6 => ?_); obtain ⟨rfl, hT6⟩ := q6; have r6 := r5.kq k6 (by omega) (by omega); have kn6 : Kp n m m6 := kn5.trans (Kq.low (n := n) k6 (by omega) (fun x hx => by simp only [List.mem_cons, List.not_mem_nil, or_false] at hx; omega)) (Nat.le_refl n))) | ((with_reducible refine fa0 hO ?_)) | ((with_reducible refine atLd ?_); first | (refine ldB hO a1 (by first | omega | decide) ?_; first | rw [show o + 0 = o from rfl] | rw [show bt [0] 0 = 0 from rfl] | skip) | refine ldC hO aQ (by rfl) ?_) | ((with_reducible refine ltT hO (by omega) ?_)) | ((with_reducible refine eqT hO (by omega) ?_)) | ((with_reducible refine eqF hO (by omega) ?_)) | ((with_reducible refine eqB hO (fun h => ?_) (fun h => ?_))) | ((with_reducible refine neT hO (by omega) ?_)) | ((with_reducible refine neF hO (by omega) ?_)) | ((with_reducible refine neB hO (fun h => ?_) (fun h => ?_))) | ((with_reducible refine neSB hO (fun h => ?_) (fun h => ?_))) | ((with_reducible refine adI hO (by omega) ?_)) | ((with_reducible refine cvI hO (by omega) ?_)) | ((with_reducible refine ix01 hO (by omega) ?_)) | ((with_reducible refine ix1 hO (by omega) ?_)) | ((with_reducible first | refine umt hO ?_ | refine uqu hO ?_ | refine urm hO ?_ | refine uan hO ?_ | refine uro hO ?_ | refine uxr hO ?_ | refine uhl hO ?_ | refine uhr hO ?_ | refine uad hO ?_ | refine usb hO ?_ | refine ult hO ?_ | refine ule hO ?_ | refine ugt hO ?_ | refine uge hO ?_ | refine ueq hO ?_ | refine une hO ?_ | refine ucv hO ?_ | refine uia hO ?_ | refine usv hO ?_ | refine ubu hO ?_ | refine uap hO ?_ | refine ubs hO ?_ | refine umm hO ?_ | refine upq hO ?_ | refine unq hO ?_ | refine uln hO ?_)))
      all_goals (conv => lhs; whnf)
      all_goals first
        | exact hsh _ _ _ _ _ (hlp.trans (loop_none hent hc3)) (by omega) (by omega) kn3 r3 ⟨.n .i64 (if g = true then 0 else 5), .s (pack z3), .n .i64 i, rfl⟩
        | exact hsh _ _ _ _ _ (hlp.trans (loop_none hent hc3)) (by omega) (by omega) kn2 r2 ⟨.n .i64 (if g = true then 0 else 5), .s (pack []), .n .i64 i, rfl⟩
        | exact hih (cnt - (i + 1)) _ _ _ (by omega) ⟨i + 1, o + 1 + 2 + numV l (o + 1) + 2 + numV l (o + 1 + 2 + numV l (o + 1)), t, false, .s (pack d), rfl, by omega, by omega, by omega, by omega, by omega, kn5, (RdS.eq r5 (by omega)), ⟨aS5, aM5⟩, hW, hOk, (by rw [hlp, loop_step (entO_s2 hkd (by assumption) hx2 hx3) hc3 (addE_no (t := t) (kd := bt l o) (p := p) (d := d) (by first | exact .inl (by assumption) | exact .inr (.inl (by assumption)) | exact .inr (.inr (.inl (by assumption))) | exact .inr (.inr (.inr ⟨by assumption, by omega⟩)))), Bool.and_false, hcs]), rfl⟩
        | exact hih (cnt - (i + 1)) _ _ _ (by omega) ⟨i + 1, o + 1 + 2 + numV l (o + 1) + 2 + numV l (o + 1 + 2 + numV l (o + 1)), t, false, .s (pack d), rfl, by omega, by omega, by omega, by omega, by omega, kn4, (RdS.eq r4 (by omega)), ⟨aS4, aM4⟩, hW, hOk, (by rw [hlp, loop_step (entO_s2 hkd (by assumption) hx2 hx3) hc3 (addE_no (t := t) (kd := bt l o) (p := p) (d := d) (by first | exact .inl (by assumption) | exact .inr (.inl (by assumption)) | exact .inr (.inr (.inl (by assumption))) | exact .inr (.inr (.inr ⟨by assumption, by omega⟩)))), Bool.and_false, hcs]), rfl⟩
        | (obtain ⟨hap, hW6, hO6⟩ := add_put_no (entO_s2 hkd (by assumption) hx2 hx3) hW hOk (by omega) (by assumption) (by omega) (by omega) (b := false) (decide_eq_false (by omega)) (by assumption); exact hih (cnt - (i + 1)) _ _ _ (by omega) ⟨i + 1, o + 1 + 2 + numV l (o + 1) + 2 + numV l (o + 1 + 2 + numV l (o + 1)), _, false, .s (pack d), rfl, by omega, by omega, by omega, by omega, by omega, kn6, (RdS.eq r6 (by omega)), hT6, hW6, hO6, (by rw [hlp, loop_step (entO_s2 hkd (by assumption) hx2 hx3) hc3 hap, Bool.and_false, hcs]), rfl⟩)
        | (obtain ⟨hap, hW6, hO6⟩ := add_put_ok (entO_s2 hkd (by assumption) hx2 hx3) hW hOk (by omega) (by assumption) (by omega) (by omega) (b := false) (decide_eq_false (by omega)) (by assumption); exact hih (cnt - (i + 1)) _ _ _ (by omega) ⟨i + 1, o + 1 + 2 + numV l (o + 1) + 2 + numV l (o + 1 + 2 + numV l (o + 1)), _, g, .s (pack d), rfl, by omega, by omega, by omega, by omega, by omega, kn6, (RdS.eq r6 (by omega)), hT6, hW6, hO6, (by rw [hlp, loop_step (entO_s2 hkd (by assumption) hx2 hx3) hc3 hap, Bool.and_true, hcs]), rfl⟩)
        | exact hih (cnt - (i + 1)) _ _ _ (by omega) ⟨i + 1, o + 1 + 2 + numV l (o + 1), t, false, .s (pack []), rfl, by omega, by omega, by omega, by omega, by omega, kn5, (RdS.eq r5 (by omega)), ⟨aS5, aM5⟩, hW, hOk, (by rw [hlp, loop_step (entO_s1 hkd (by assumption) hx2) hc3 (addE_no (t := t) (kd := bt l o) (p := p) (d := []) (by first | exact .inl (by assumption) | exact .inr (.inl (by assumption)) | exact .inr (.inr (.inl (by assumption))) | exact .inr (.inr (.inr ⟨by assumption, by omega⟩)))), Bool.and_false, hcs]), rfl⟩
        | exact hih (cnt - (i + 1)) _ _ _ (by omega) ⟨i + 1, o + 1 + 2 + numV l (o + 1), t, false, .s (pack []), rfl, by omega, by omega, by omega, by omega, by omega, kn4, (RdS.eq r4 (by omega)), ⟨aS4, aM4⟩, hW, hOk, (by rw [hlp, loop_step (entO_s1 hkd (by assumption) hx2) hc3 (addE_no (t := t) (kd := bt l o) (p := p) (d := []) (by first | exact .inl (by assumption) | exact .inr (.inl (by assumption)) | exact .inr (.inr (.inl (by assumption))) | exact .inr (.inr (.inr ⟨by assumption, by omega⟩)))), Bool.and_false, hcs]), rfl⟩
        | (obtain ⟨hap, hW6, hO6⟩ := add_put_no (entO_s1 hkd (by assumption) hx2) hW hOk (by omega) (by assumption) (by omega) (by omega) (b := true) (decide_eq_true (by omega)) (by assumption); exact hih (cnt - (i + 1)) _ _ _ (by omega) ⟨i + 1, o + 1 + 2 + numV l (o + 1), _, false, .s (pack []), rfl, by omega, by omega, by omega, by omega, by omega, kn6, (RdS.eq r6 (by omega)), hT6, hW6, hO6, (by rw [hlp, loop_step (entO_s1 hkd (by assumption) hx2) hc3 hap, Bool.and_false, hcs]), rfl⟩)
        | (obtain ⟨hap, hW6, hO6⟩ := add_put_ok (entO_s1 hkd (by assumption) hx2) hW hOk (by omega) (by assumption) (by omega) (by omega) (b := true) (decide_eq_true (by omega)) (by assumption); exact hih (cnt - (i + 1)) _ _ _ (by omega) ⟨i + 1, o + 1 + 2 + numV l (o + 1), _, g, .s (pack []), rfl, by omega, by omega, by omega, by omega, by omega, kn6, (RdS.eq r6 (by omega)), hT6, hW6, hO6, (by rw [hlp, loop_step (entO_s1 hkd (by assumption) hx2) hc3 hap, Bool.and_true, hcs]), rfl⟩)
end Go.Proofs.YtjoakhpdajlhiaaDoor.V2.S
