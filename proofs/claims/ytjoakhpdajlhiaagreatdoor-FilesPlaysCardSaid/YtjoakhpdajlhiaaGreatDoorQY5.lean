/- Part 5 of the proof: texts of the proof. -/
import Derived.Test.YtjoakhpdajlhiaaGreatDoorQY4
import Derived.Maps.RangeRun
import Derived.RangeFuncLeaves
import Derived.Sort.LoopGhostIn
namespace Go.Proofs.YtjoakhpdajlhiaaGreatDoor.V2
open Go
open Go.ChangeMaps (setBlock)
noncomputable section
section
variable {P : Program} {Γ : Gam} {pu : FuncId → Bool} {G nt N B : Nat} {ρ ρ0 : Ren} {σ σ0 : AH} {W W0 : World} {Y : List Yl}
theorem E7 {ro : Option Nat} {ops : Array Oper} {Q : Exit → Act → World → Prop} {i : Nat} {l : List Nat} {o : Oper} {v : Value} {a : Act} {W' : World} (ho : ops[i]? = some o) (hg : o.guard = none) (hnd : ∀ c, o.op ≠ .defer c) (hrun : (execOp a.eval o).run P W = .ok (.value v) W')
    (h : wpOpsIn (fen ro) 0 P ops Q l (a.put o.dst v) W') : wpOpsIn (fen ro) 0 P ops Q (i :: l) a W := by
  rw [wpOpsIn_cons]
  unfold wpOpIn
  simp only [ho]
  rw [if_pos (by simp [Region.wanted, hg])]
  refine ⟨fun _ _ => trivial, ?_⟩
  rw [Oper.semAt_eq _ _ _ hnd, hrun, Oper.uponIn_value]
  exact h
theorem J2 {ro : Option Nat} (hΓ : GamOk P G Γ Y) {ops : Array Oper} {Q : Exit → Act → World → Prop} (m : Nat) : ∀ (l : List Oper) (rows : List CRow) (i : Nat), C7 P nt (rfS G) ops l = some rows → (∀ j, j < l.length → ops[i + j]? = l[j]?) →
    ∀ {ρ : Ren} {σ : AH} {W : World} {env : T AV} {a : Act}, YInv Y ρ σ W → HR ρ σ W → ER G nt ρ env a → (evP std Γ rows env σ).1 = true →
    (∀ ρ' a' W', HR ρ' (evP std Γ rows env σ).2.2 W' → ER G nt ρ' (evP std Γ rows env σ).2.1 a' → Stp σ.next ρ σ W ρ' (evP std Γ rows env σ).2.2 W' → a'.defers = a.defers → wpOpsIn (fen ro) 0 P ops Q (List.range' (i + l.length) m) a' W') →
    wpOpsIn (fen ro) 0 P ops Q (List.range' i (l.length + m)) a W := by
  intro l
  induction l with
  | nil =>
    intro rows i hrows _ ρ σ W env a _ hr he _ hQ
    cases hrows
    have h := hQ ρ a W hr he (Stp.refl (Nat.le_refl _)) rfl
    simpa using h
  | cons o l ih =>
    intro rows i hrows hops ρ σ W env a hY hr he hok hQ
    unfold C7 at hrows
    split at hrows
    · cases hrows
    · rename_i r hro
      split at hrows
      · cases hrows
      · rename_i rs hrs
        cases hrows
        have h0 := hops 0 (by simp)
        simp only [Nat.add_zero, List.getElem?_cons_zero] at h0
        rw [List.length_cons, show l.length + 1 + m = (l.length + m) + 1 by omega, List.range'_succ, wpOpsIn_cons]
        unfold wpOpIn
        simp only [h0]
        unfold evP at hok hQ
        generalize hg : Ay std Γ (evS env) σ r = g at hok hQ
        obtain ⟨ok, v, σ'⟩ := g
        simp only at hok hQ
        generalize hrest : evP std Γ rs (Hb env r.dst v) σ' = rest at hok hQ
        obtain ⟨ok', env', σ''⟩ := rest
        simp only [Bool.and_eq_true] at hok hQ
        obtain ⟨_, _, hdst, hdlt⟩ := Cz hro
        refine Ex hΓ hY he.glob hro (fun x => he.ev x) hr (by rw [hg]; exact hok.1) fun u W' ρ' h1 h2 h3 => ?_
        rw [hg] at h1 h2 h3
        simp only at h1 h2 h3
        have he' : ER G nt ρ' (Hb env r.dst v) (a.put o.dst u) := by
          rw [hdst]; exact (he.sub (h2.sub hr)).put hdlt h3
        refine ih rs (i + 1) hrs (fun j hj => by have := hops (j + 1) (by simp; omega); rw [show i + 1 + j = i + (j + 1) by omega]; simpa using this) (hY.step (fun y hy => (hY y hy).lt) h2) h1 he' (by rw [hrest]; exact hok.2) fun ρ'' a' W'' k1 k2 k3 k4 => ?_
        rw [hrest] at k1 k2 k3
        have hq := hQ ρ'' a' W'' k1 k2 (h2.trans k3 h2.next) (by rw [k4]; cases o.dst <;> rfl)
        rwa [List.length_cons, show i + (l.length + 1) = i + 1 + l.length by omega] at hq
theorem OR.hid {d : Nat × Nat} {x : Option Obj} : OR ρ d .hid x := ⟨fun h => (by cases h), fun l h => (by cases h)⟩
theorem HR.lone {b b' c : Nat} {d d' : Nat × Nat} (h : HR ρ σ W) (hg : σ.get b = some .hid) (hb : ρ b = some (c, d)) (hb' : ρ b' = some (c, d')) (hne : b' ≠ b) : σ.get b' = some .dead := by
  rcases h.inj b b' c d d' hb hb' (Ne.symm hne) with e | e | ⟨o1, o2, e1, _, e3, _⟩
  · rw [hg] at e; cases e
  · exact e
  · rw [hg] at e1; cases e1; cases e3
theorem HR.hide {b c : Nat} {d : Nat × Nat} {l : List (AV × AV)} (h : HR ρ σ W) (hb : ρ b = some (c, d)) (ho : σ.get b = some (.map l)) : HR ρ (σ.put b .hid) W := by
  have hbn := (h.dom b c d hb).1
  have hs := h.small
  have hg : ∀ m, (σ.put b .hid).get m = if m = b then some .hid else σ.get m := fun m => AH.get_put (by omega : b < 1048576) m
  refine ⟨h.small, fun m hm => ?_, fun b' c' d' hb' => ?_, fun b1 b2 c' d1 d2 h1 h2 hne => ?_⟩
  · have hm : σ.next ≤ m := hm
    rw [hg, if_neg (by omega)]; exact h.none_ m hm
  · obtain ⟨h1, h2, o2, h3, h4⟩ := h.dom b' c' d' hb'
    refine ⟨h1, h2, ?_⟩
    rw [hg]
    by_cases hbb : b' = b
    · exact ⟨_, if_pos hbb, OR.hid⟩
    · rw [if_neg hbb]; exact ⟨o2, h3, h4⟩
  · have hS := h.inj b1 b2 c' d1 d2 h1 h2 hne
    by_cases e1 : b1 = b
    · subst e1
      have := hS.left ho rfl rfl
      exact .inr (.inl (by rw [hg, if_neg (Ne.symm hne)]; exact this))
    · by_cases e2 : b2 = b
      · subst e2
        have := hS.symm.left ho rfl rfl
        exact .inl (by rw [hg, if_neg hne]; exact this)
      · exact hS.congr (by rw [hg, if_neg e1]) (by rw [hg, if_neg e2])
theorem HR.show {b c : Nat} {d : Nat × Nat} {l : List (AV × AV)} (h : HR ρ σ W) (hb : ρ b = some (c, d)) (ho : σ.get b = some .hid) (hM : MR ρ l W.heap[c]?) : HR ρ (σ.put b (.map l)) W := by
  have hbn := (h.dom b c d hb).1
  have hs := h.small
  have hg : ∀ m, (σ.put b (.map l)).get m = if m = b then some (.map l) else σ.get m := fun m => AH.get_put (by omega : b < 1048576) m
  refine ⟨h.small, fun m hm => ?_, fun b' c' d' hb' => ?_, fun b1 b2 c' d1 d2 h1 h2 hne => ?_⟩
  · have hm : σ.next ≤ m := hm
    rw [hg, if_neg (by omega)]; exact h.none_ m hm
  · obtain ⟨h1, h2, o2, h3, h4⟩ := h.dom b' c' d' hb'
    refine ⟨h1, h2, ?_⟩
    rw [hg]
    by_cases hbb : b' = b
    · subst hbb
      rw [hb] at hb'; cases hb'
      exact ⟨_, if_pos rfl, fun h => (by cases h), fun l' e => by cases e; exact hM⟩
    · rw [if_neg hbb]; exact ⟨o2, h3, h4⟩
  · by_cases e1 : b1 = b
    · subst e1
      rw [hb] at h1; cases h1
      exact .inr (.inl (by rw [hg, if_neg (Ne.symm hne)]; exact h.lone ho hb h2 (Ne.symm hne)))
    · by_cases e2 : b2 = b
      · subst e2
        rw [hb] at h2; cases h2
        exact .inl (by rw [hg, if_neg hne]; exact h.lone ho hb h1 hne)
      · exact (h.inj b1 b2 c' d1 d2 h1 h2 hne).congr (by rw [hg, if_neg e1]) (by rw [hg, if_neg e2])
theorem Stp.setM {b : Nat} {x : Nat × (Nat × Nat)} {o : AObj} (h : Stp N ρ0 σ0 W0 ρ σ W) (hs : b < 1048576) (hb : ρ b = some x) (hro : ∀ o0, b < N → σ0.get b = some o0 → o0.isRo = false) : Stp N ρ0 σ0 W0 ρ (σ.put b o) W := by
  have hg : ∀ m, m ≠ b → (σ.put b o).get m = σ.get m := fun m hm => by rw [AH.get_put hs, if_neg hm]
  refine ⟨h.ext, h.img, h.next, fun m o' hm hn ho ht => ?_, h.frame, h.tape, h.os, h.output, h.size, fun m c' d' o' hm hρ hc ho hr => ?_⟩
  · by_cases e : m = b
    · subst e; rw [h.ext m hm, hn] at hb; cases hb
    · rw [hg m e]; exact h.keep m o' hm hn ho ht
  · obtain ⟨e1, e2⟩ := h.ro m c' d' o' hm hρ hc ho hr
    by_cases e : m = b
    · subst e; rw [hro o' hm ho] at hr; cases hr
    · exact ⟨(hg m e).trans e1, e2⟩
theorem Gm {w1 : World} {r : Nat} {o : Obj} (hw : w1 = W ∨ w1 = W.drew) : (setBlock w1 r o).heap = W.heap.setIfInBounds r o := by rcases hw with rfl | rfl <;> rfl
theorem HR.turnH {r : Nat} {d : Nat × Nat} {w1 : World} {o : Obj} {b : Nat} (h : HR ρ σ W) (hw : w1 = W ∨ w1 = W.drew) (hb : ρ b = some (r, d)) (ho : σ.get b = some .hid) : HR ρ σ (setBlock w1 r o) := by
  have hh : ∀ c, c ≠ r → (setBlock w1 r o).heap[c]? = W.heap[c]? := fun c hc => by rw [Gm hw, Array.getElem?_setIfInBounds_ne (Ne.symm hc)]
  refine ⟨h.small, h.none_, fun b' c' d' hb' => ?_, h.inj⟩
  obtain ⟨h1, h2, o2, h3, h4⟩ := h.dom b' c' d' hb'
  refine ⟨h1, by rw [Gm hw, Array.size_setIfInBounds]; exact h2, o2, h3, ?_⟩
  by_cases hc : c' = r
  · subst hc
    by_cases e : b' = b
    · subst e; rw [ho] at h3; cases h3; exact OR.hid
    · have := h.lone ho hb hb' e
      rw [this] at h3; cases h3; exact OR.dead
  · rw [hh c' hc]; exact h4
theorem Stp.turnH {r : Nat} {w1 : World} {o : Obj} (h : Stp N ρ0 σ0 W0 ρ σ W) (hw : w1 = W ∨ w1 = W.drew) (hf : (∃ b d, ρ0 b = some (r, d)) ∨ W0.heap.size ≤ r) (hro : ∀ b d o, b < N → ρ0 b = some (r, d) → r < W0.heap.size → σ0.get b = some o → o.isRo = false) : Stp N ρ0 σ0 W0 ρ σ (setBlock w1 r o) := by
  have hh : ∀ c, c ≠ r → (setBlock w1 r o).heap[c]? = W.heap[c]? := fun c hc => by rw [Gm hw, Array.getElem?_setIfInBounds_ne (Ne.symm hc)]
  have hsz : (setBlock w1 r o).heap.size = W.heap.size := by rw [Gm hw, Array.size_setIfInBounds]
  refine ⟨h.ext, h.img, h.next, h.keep, fun c hc hn => (hh c ?_).trans (h.frame c hc hn), ?_, ?_, ?_, by rw [hsz]; exact h.size, fun b c d o hb hρ hc ho hr => ?_⟩
  · rintro rfl
    rcases hf with ⟨b, d, hb⟩ | hf
    · exact hn b d hb
    · omega
  · rcases hw with rfl | rfl <;> exact h.tape
  · rcases hw with rfl | rfl <;> exact h.os
  · rcases hw with rfl | rfl <;> exact h.output
  · obtain ⟨e1, e2⟩ := h.ro b c d o hb hρ hc ho hr
    refine ⟨e1, (hh c ?_).trans e2⟩
    rintro rfl
    rw [hro b d o hb hρ hc ho] at hr; cases hr
theorem Mks.turnH {r b : Nat} {d : Nat × Nat} {w1 : World} {o : Obj} (hw : w1 = W ∨ w1 = W.drew) (hb : ρ b = some (r, d)) : ∀ {ds : List Deferred}, Mks ρ W ds → Mks ρ (setBlock w1 r o) ds
  | [], _ => trivial
  | _ :: _, ⟨q, e, h1, h2, h3, h4⟩ => by
    have hne : q ≠ r := by rintro rfl; exact h2 b d hb
    exact ⟨q, e, by rw [Gm hw, Array.getElem?_setIfInBounds_ne (Ne.symm hne)]; exact h1, h2, h3, Mks.turnH hw hb h4⟩
theorem YInv.turnH {r b : Nat} {d : Nat × Nat} {w1 : World} {o : Obj} (h : YInv Y ρ σ W) (hr : HR ρ σ W) (hw : w1 = W ∨ w1 = W.drew) (hb : ρ b = some (r, d)) (ho : σ.get b = some .hid) : YInv Y ρ σ (setBlock w1 r o) := fun y hy => by
  obtain ⟨h1, h2, h3, h4, h5⟩ := h y hy
  refine ⟨h1, h2, h3, ?_, h5⟩
  have hne : y.c ≠ r := by
    rintro e
    rw [e] at h3
    by_cases hyb : y.l = b
    · rw [hyb, ho] at h2; cases h2
    · have := hr.lone ho hb h3 hyb
      rw [h2] at this; cases this
  rw [Gm hw, Array.getElem?_setIfInBounds_ne (Ne.symm hne)]
  exact h4
theorem MapL.len : ∀ {L : List (AV × AV)} {es : List MapEntry}, MapL ρ L es → es.length = L.length
  | [], _, h => by rw [show _ = [] from h]; rfl
  | _ :: _, _, ⟨e, m, h0, _, _, h3⟩ => by subst h0; simp [MapL.len h3]
theorem MapL.at_ : ∀ {L : List (AV × AV)} {es : List MapEntry}, MapL ρ L es → ∀ {i : Nat} {e : MapEntry}, es[i]? = some e → ∃ p, L[i]? = some p ∧ VR ρ p.1 e.key ∧ VR ρ p.2 e.val
  | [], es, h, i, e, he => by rw [show es = [] from h] at he; simp at he
  | p :: L, _, ⟨e0, m, h0, h1, h2, h3⟩, i, e, he => by
    subst h0
    cases i with
    | zero => simp only [List.getElem?_cons_zero, Option.some.injEq] at he; subst he; exact ⟨p, rfl, h1, h2⟩
    | succ i =>
      obtain ⟨q, hq, k⟩ := h3.at_ (i := i) (by simpa using he)
      exact ⟨q, by simpa using hq, k⟩
structure LSt (bm bi c r ck : Nat) (dm : Nat × Nat) (N : Nat) (ρ0 : Ren) (σ0 : AH) (W0 : World) (cs : Cs) (ρ : Ren) (σ : AH) (W : World) : Prop where
  hm : ρ bm = some (c, dm)
  hi : ρ bi = some (r, (0, 0))
  gm : σ.get bm = some .hid
  gi : σ.get bi = some .hid
  ne : c ≠ r
  r0 : W0.heap.size ≤ r
  c0 : (∃ b d, ρ0 b = some (c, d)) ∨ W0.heap.size ≤ c
  cro : ∀ b d o, b < N → ρ0 b = some (c, d) → c < W0.heap.size → σ0.get b = some o → o.isRo = false
  bro : ∀ o, bm < N → σ0.get bm = some o → o.isRo = false
  ex : ∃ (seen : Array Nat) (es : Array MapEntry), W.heap[r]? = some (.mapIter (some c) ck seen ck) ∧ W.heap[c]? = some (.map es ck) ∧ MapL ρ (cs.map (·.1)) es.toList ∧ es.toList.Pairwise (fun a b => a.born < b.born) ∧ (∀ e ∈ es.toList, e.born < ck) ∧
    ∀ (i : Nat) e, es.toList[i]? = some e → ∃ x, cs[i]? = some x ∧ x.2 = seen.contains e.born
theorem LSt.step {bm bi c r ck : Nat} {dm : Nat × Nat} {cs : Cs} {M : Nat} {ρ' : Ren} {σ' : AH} {W' : World} (h : LSt bm bi c r ck dm N ρ0 σ0 W0 cs ρ σ W) (hr : HR ρ σ W) (hs : Stp σ.next ρ σ W ρ' σ' W') : LSt bm bi c r ck dm N ρ0 σ0 W0 cs ρ' σ' W' := by
  obtain ⟨h1, h2, h3, h4, h5, h6, h7, h8, h9, seen, es, k1, k2, k3, k4, k5, k6⟩ := h
  obtain ⟨a1, a2, _⟩ := hr.dom _ _ _ h1
  obtain ⟨b1, b2, _⟩ := hr.dom _ _ _ h2
  obtain ⟨x1, x2⟩ := hs.ro bm c dm _ a1 h1 a2 h3 rfl
  obtain ⟨y1, y2⟩ := hs.ro bi r (0, 0) _ b1 h2 b2 h4 rfl
  exact ⟨(hs.ext _ a1).trans h1, (hs.ext _ b1).trans h2, x1, y1, h5, h6, h7, h8, h9, seen, es, y2.trans k1, x2.trans k2, k3.mono (hs.sub hr), k4, k5, k6⟩
theorem nodup_born {l : List MapEntry} (h : l.Pairwise (fun a b => a.born < b.born)) : (l.map (·.born)).Nodup :=
  List.pairwise_map.2 (h.imp fun h e => by omega)
theorem todo_mem : ∀ {cs : Cs} {k i : Nat}, i ∈ Jr cs k ↔ ∃ j x, i = k + j ∧ cs[j]? = some x ∧ x.2 = false
  | [], k, i => by simp [Jr]
  | x :: l, k, i => by
    have ih := todo_mem (cs := l) (k := k + 1) (i := i)
    constructor
    · intro h
      unfold Jr at h
      cases hx : x.2 with
      | true =>
        rw [hx] at h
        obtain ⟨j, y, h1, h2, h3⟩ := ih.1 h
        exact ⟨j + 1, y, by omega, by simpa using h2, h3⟩
      | false =>
        rw [hx] at h
        rcases List.mem_cons.1 h with rfl | h
        · exact ⟨0, x, rfl, rfl, hx⟩
        · obtain ⟨j, y, h1, h2, h3⟩ := ih.1 h
          exact ⟨j + 1, y, by omega, by simpa using h2, h3⟩
    · rintro ⟨j, y, h1, h2, h3⟩
      unfold Jr
      cases j with
      | zero =>
        simp only [List.getElem?_cons_zero, Option.some.injEq] at h2
        subst h2
        rw [h3]
        exact List.mem_cons.2 (.inl (by omega))
      | succ j =>
        have := ih.2 ⟨j, y, by omega, by simpa using h2, h3⟩
        cases x.2
        · exact List.mem_cons_of_mem _ this
        · exact this
theorem isPtr_eq {b : Nat} {v : AV} (h : isPtr b v = true) : v = .ptr b 0 := by
  cases v <;> try (cases h; done)
  simp only [isPtr, Bool.and_eq_true, Nat.beq_eq] at h
  rw [h.1, h.2]
theorem isBool_eq {t : Bool} {v : AV} (h : Lp t v = true) : v = .bool t := by
  cases v <;> try (cases h; done)
  simp only [Lp, beq_iff_eq] at h
  rw [h]
theorem bindL_mem {α β : Type} {f : α → Option (List β)} : ∀ {L : List α} {M : List β}, bindL L f = some M → ∀ p ∈ L, ∃ l, f p = some l ∧ ∀ x ∈ l, x ∈ M
  | [], _, _, p, hp => by cases hp
  | q :: L, M, h, p, hp => by
    unfold bindL at h
    split at h
    · cases h
    · rename_i l hl
      split at h
      · cases h
      · rename_i m hm
        cases h
        rcases List.mem_cons.1 hp with rfl | hp
        · exact ⟨l, hl, fun x hx => List.mem_append_left _ hx⟩
        · obtain ⟨l', h1, h2⟩ := bindL_mem hm p hp
          exact ⟨l', h1, fun x hx => List.mem_append_right _ (h2 x hx)⟩
def MkB (B : Nat) (ρ : Ren) (W : World) (a : Act) : Prop := Mks ρ W a.defers ∧ ∀ r, Fv r ∈ a.defers → B ≤ r
def L7 (P : Program) (G nt : Nat) (Y : List Yl) (ro : Option Nat) (BODY : Code) (bd : Bd) : Prop := ∀ bm cs i env σ o, bd bm cs i env σ = some o → ∀ {bi c r ck : Nat} {dm : Nat × Nat} {N B : Nat} {ρ0 ρ : Ren} {σ0 : AH} {W0 W : World} {a : Act}, Start Y N B ρ0 σ0 W0 → LSt bm bi c r ck dm N ρ0 σ0 W0 cs ρ σ W → HR ρ σ W → YInv Y ρ σ W → ER G nt ρ env a → Stp N ρ0 σ0 W0 ρ σ W → MkB B ρ W a →
  BODY.wpIn (fen ro) 0 P (fun e a' W' => e = o.1.out ∧ ∃ ρ', LSt bm bi c r ck dm N ρ0 σ0 W0 o.2.2.2 ρ' o.2.2.1 W' ∧ HR ρ' o.2.2.1 W' ∧ YInv Y ρ' o.2.2.1 W' ∧ ER G nt ρ' o.2.1 a' ∧ Stp N ρ0 σ0 W0 ρ' o.2.2.1 W' ∧ MkB B ρ' W' a') a W
theorem LSt.show {bm bi c r ck : Nat} {dm : Nat × Nat} {cs : Cs} (h : LSt bm bi c r ck dm N ρ0 σ0 W0 cs ρ σ W) (hr : HR ρ σ W) (hs : Stp N ρ0 σ0 W0 ρ σ W) : HR ρ (shw bm cs σ) W ∧ Stp N ρ0 σ0 W0 ρ (shw bm cs σ) W := by
  obtain ⟨h1, h2, h3, h4, h5, h6, h7, h8, h9, seen, es, k1, k2, k3, k4, k5, k6⟩ := h
  have hsm := hr.small
  have hbn := (hr.dom _ _ _ h1).1
  exact ⟨hr.show h1 h3 ⟨es, ck, k2, k3, k4, k5⟩, hs.setM (by omega) h1 h9⟩
theorem mloop {ro : Option Nat} {m : ML} {bm bi : Nat} {bd : Bd} (hΓ : GamOk P G Γ Y) (st : Start Y N B ρ0 σ0 W0) {id i1 i2 : Nat} {ON OE : Array Oper} {oN oE : Oper} {lN lE : List Oper} {BODY : Code}
    (hON : ON.toList = oN :: lN) (hN1 : oN.op = .next (.tmp m.it) false) (hN2 : oN.guard = none) (hN3 : oN.dst = some m.n0) (hrN : C7 P nt (rfS G) ON lN = some m.rN)
    (hOE : OE.toList = oE :: lE) (hE1 : oE.op = .entry (.tmp m.it)) (hE2 : oE.guard = none) (hE3 : oE.dst = some m.e0) (hrE : C7 P nt (rfS G) OE lE = some m.rE)
    (hn0 : m.n0 < nt) (he0 : m.e0 < nt) (hB : L7 P G nt Y ro BODY bd) {c r ck : Nat} {dm : Nat × Nat} {L0 : List (AX × T AV × AH)} {Q : Exit → Act → World → Prop}
    (hQ : ∀ o ∈ L0, ∀ ρ' a' W', HR ρ' o.2.2 W' → ER G nt ρ' o.2.1 a' → Stp N ρ0 σ0 W0 ρ' o.2.2 W' → MkB B ρ' W' a' → Q o.1.out a' W')
    {n : Nat} {cs : Cs} {env : T AV} {a : Act} (h : mgo std Γ m bm bi bd n cs env σ = some L0) (hl : LSt bm bi c r ck dm N ρ0 σ0 W0 cs ρ σ W) (hr : HR ρ σ W) (hY : YInv Y ρ σ W) (he : ER G nt ρ env a) (hs : Stp N ρ0 σ0 W0 ρ σ W) (hd : MkB B ρ W a) :
    (Code.block id (.loop (.seq (.region i1 ON false) (.seq (.cond (.tmp m.n1) .skip (.exit id)) (.block m.id1 (.seq (.region i2 OE false) BODY)))))).wpIn (fen ro) 0 P Q a W := by
  refine wpIn_block ?_
  let J : Nat → Act → World → Prop := fun n a W => ∃ ρ σ cs env L, mgo std Γ m bm bi bd n cs env σ = some L ∧ (∀ o ∈ L, o ∈ L0) ∧ LSt bm bi c r ck dm N ρ0 σ0 W0 cs ρ σ W ∧ HR ρ σ W ∧ YInv Y ρ σ W ∧ ER G nt ρ env a ∧ Stp N ρ0 σ0 W0 ρ σ W ∧ MkB B ρ W a
  refine wpIn_loop_ghost J n ⟨ρ, σ, cs, env, L0, h, fun o ho => ho, hl, hr, hY, he, hs, hd⟩ ?_
  clear h hl hr hY he hs hd
  rintro n a W ⟨ρ, σ, cs, env, L, h, hLs, hl, hr, hY, he, hs, hd⟩
  have hszN : ON.size = lN.length + 1 := by rw [← Array.length_toList, hON]; rfl
  have hszE : OE.size = lE.length + 1 := by rw [← Array.length_toList, hOE]; rfl
  have hatN : ∀ j, ON[j]? = (oN :: lN)[j]? := fun j => by rw [← hON, Array.getElem?_toList]
  have hatE : ∀ j, OE[j]? = (oE :: lE)[j]? := fun j => by rw [← hOE, Array.getElem?_toList]
  cases n with
  | zero => cases h
  | succ n =>
  unfold mgo at h
  cases hp : isPtr bi (evS env (.slot m.it)) with
  | false => rw [hp] at h; cases h
  | true =>
  rw [hp] at h
  dsimp only [cond_true] at h
  have hev : ∀ {ρ : Ren} {env : T AV} {a : Act}, ER G nt ρ env a → ρ bi = some (r, (0, 0)) → isPtr bi (evS env (.slot m.it)) = true → a.eval (.tmp m.it) = .pointer (some ⟨r, 0, none⟩) := by
    intro ρ env a he hi hp
    have := he.ev (.tmp m.it)
    change VR ρ (evS env (.slot m.it)) _ at this
    rw [isPtr_eq hp] at this
    unfold VR at this
    obtain ⟨c1, d1, h1, h2⟩ := this
    rw [hi] at h1; cases h1
    exact h2
  obtain ⟨seen, es, k1, k2, k3, k4, k5, k6⟩ := hl.ex
  have hnd1 : ∀ c, oN.op ≠ .defer c := fun c e => by rw [hN1] at e; cases e
  have hnd2 : ∀ c, oE.op ≠ .defer c := fun c e => by rw [hE1] at e; cases e
  have hevN := hev he hl.hi hp
  refine wpIn_seq (wpIn_region ?_)
  rw [List.range_eq_range', hszN, List.range'_succ]
  have hlen := k3.len
  rw [List.length_map] at hlen
  rcases run_next_at (P := P) W oN.type r c ck ck seen es ck k1 k2 k5 (Nat.le_refl _) with ⟨h0, hrun⟩ | ⟨e, hel, w1, hw1, hrun⟩
  · -- nothing is left
    have ht : Jr cs 0 = [] := by
      apply List.eq_nil_iff_forall_not_mem.2
      intro i hi
      obtain ⟨j, x, rfl, hx, hx2⟩ := todo_mem.1 hi
      have hj : j < es.toList.length := by rw [hlen]; exact (List.getElem?_eq_some_iff.1 hx).1
      obtain ⟨y, hy, hy2⟩ := k6 j _ (List.getElem?_eq_getElem hj)
      rw [hx] at hy; cases hy
      rw [hx2] at hy2
      have : es.toList[j] ∈ (leftOf es seen).toList := by
        unfold leftOf
        rw [Array.toList_filter]
        exact List.mem_filter.2 ⟨List.getElem_mem hj, by rw [← hy2]; rfl⟩
      have := List.length_pos_of_mem this
      rw [Array.length_toList] at this
      omega
    rw [ht] at h
    dsimp only at h
    generalize hEv : evP std Γ m.rN (env.put m.n0 (.tup [.bool false])) σ = ev at h
    obtain ⟨ok, e1, σ1⟩ := ev
    dsimp only at h
    cases hc : (ok && Lp false (evS e1 (.slot m.n1))) with
    | false => rw [hc] at h; cases h
    | true =>
    rw [hc] at h
    cases h
    rw [Bool.and_eq_true] at hc
    refine E7 (o := oN) (v := .tuple #[.bool false]) (W' := W) (hatN 0) hN2 hnd1 (by simp only [execOp, hN1, hevN, Sem.run_bind, hrun]; rfl) ?_
    have he1 : ER G nt ρ (env.put m.n0 (.tup [.bool false])) (a.put oN.dst (.tuple #[.bool false])) := by
      rw [hN3]
      exact he.put (d := some m.n0) (fun t h => by cases h; exact hn0) (by unfold VR; exact ⟨[.bool false], rfl, _, _, rfl, by unfold VR; rfl, rfl⟩)
    refine Ej hΓ lN m.rN 1 hrN (fun j => by rw [hatN, Nat.add_comm, List.getElem?_cons_succ]) hY hr he1 (by rw [hEv]; exact hc.1) fun ρ' a' W' q1 q2 q3 q4 => ?_
    rw [hEv] at q1 q2 q3
    refine wpIn_seq (wpIn_cond_false (by have hh := q2.ev (.tmp m.n1); change VR ρ' (evS e1 (.slot m.n1)) _ at hh; rw [isBool_eq hc.2] at hh; unfold VR at hh; exact hh) (wpIn_exit ?_))
    show (if id = id then Q .normal a' W' else Q (.exit id) a' W')
    rw [if_pos rfl]
    have hs1 := hs.trans q3 hs.next
    obtain ⟨u1, u2⟩ := (hl.step (M := 0) hr q3).show q1 hs1
    have hd1 : MkB B ρ' W' a' := by
      have e : a'.defers = a.defers := by rw [q4]; cases oN.dst <;> rfl
      unfold MkB; rw [e]; exact ⟨hd.1.step q3, hd.2⟩
    exact hQ _ (hLs _ List.mem_cons_self) ρ' a' W' u1 q2 u2 hd1
  · -- an entry
    obtain ⟨hes, hseen⟩ := mem_left hel
    obtain ⟨i, hi⟩ := List.getElem?_of_mem hes
    obtain ⟨x, hx, hx2⟩ := k6 i e hi
    rw [hseen] at hx2
    obtain ⟨p, hpL, hp1, hp2⟩ := k3.at_ hi
    have hpx : p = x.1 := by
      rw [List.getElem?_map, hx] at hpL
      exact (Option.some.inj hpL).symm
    subst hpx
    have hit : i ∈ Jr cs 0 := todo_mem.2 ⟨i, x, by omega, hx, hx2⟩
    obtain ⟨i0, is, htd⟩ : ∃ i0 is, Jr cs 0 = i0 :: is := by
      cases ht : Jr cs 0 with
      | nil => rw [ht] at hit; cases hit
      | cons i0 is => exact ⟨i0, is, rfl⟩
    rw [htd] at h
    dsimp only at h
    rw [← htd] at h
    generalize hEv : evP std Γ m.rN (env.put m.n0 (.tup [.bool true, .top, .top])) σ = ev at h
    obtain ⟨ok, e1, σ1⟩ := ev
    dsimp only at h
    cases hc : (ok && Lp true (evS e1 (.slot m.n1)) && isPtr bi (evS e1 (.slot m.it))) with
    | false => rw [hc] at h; cases h
    | true =>
    rw [hc] at h
    dsimp only [cond_true] at h
    simp only [Bool.and_eq_true] at hc
    obtain ⟨M, hM, hML⟩ := bindL_mem h i hit
    unfold mround at hM
    rw [hx] at hM
    dsimp only at hM
    generalize hEe : evP std Γ m.rE (e1.put m.e0 (.tup [x.1.1, x.1.2])) σ1 = ee at hM
    obtain ⟨ok2, e2, σ2⟩ := ee
    dsimp only at hM
    cases ok2 with
    | false => cases hM
    | true =>
    dsimp only [cond_true] at hM
    cases hbd : bd bm (cs.set i (x.1, true)) i e2 σ2 with
    | none => rw [hbd] at hM; cases hM
    | some o =>
    rw [hbd] at hM
    dsimp only at hM
    have hr2 := hr.turnH (o := .mapIter (some c) ck (seen.push e.born) ck) hw1 hl.hi hl.gi
    have hY2 := hY.turnH (o := .mapIter (some c) ck (seen.push e.born) ck) hr hw1 hl.hi hl.gi
    have hr0 := hl.r0
    have hs2 := hs.turnH (r := r) (o := .mapIter (some c) ck (seen.push e.born) ck) hw1 (.inr hr0) (fun b d o _ _ hlt => by omega)
    have hh2 := Gm (W := W) (r := r) (o := .mapIter (some c) ck (seen.push e.born) ck) hw1
    have hd2 : MkB B ρ (setBlock w1 r (.mapIter (some c) ck (seen.push e.born) ck)) a := ⟨hd.1.turnH hw1 hl.hi, hd.2⟩
    have hrlt : r < W.heap.size := (Array.getElem?_eq_some_iff.1 k1).1
    have hl2 : LSt bm bi c r ck dm N ρ0 σ0 W0 (cs.set i (x.1, true)) ρ σ (setBlock w1 r (.mapIter (some c) ck (seen.push e.born) ck)) := by
      refine ⟨hl.hm, hl.hi, hl.gm, hl.gi, hl.ne, hl.r0, hl.c0, hl.cro, hl.bro, seen.push e.born, es, ?_, ?_, ?_, k4, k5, fun j ej hj => ?_⟩
      · rw [hh2, Array.getElem?_setIfInBounds_self_of_lt hrlt]
      · rw [hh2, Array.getElem?_setIfInBounds_ne (Ne.symm hl.ne)]; exact k2
      · have : (cs.set i (x.1, true)).map (·.1) = cs.map (·.1) := by
          rw [List.map_set]
          apply List.ext_getElem?
          intro j
          rw [List.getElem?_set]
          split
          · rename_i hij
            subst hij
            rw [List.getElem?_map, hx]
            split
            · rfl
            · rename_i hlt
              exact absurd (by rw [List.length_map]; exact (List.getElem?_eq_some_iff.1 hx).1) hlt
          · rfl
        rw [this]; exact k3
      · obtain ⟨y, hy, hy2⟩ := k6 j ej hj
        rw [List.getElem?_set]
        by_cases hij : i = j
        · subst hij
          rw [hi] at hj; cases hj
          rw [if_pos rfl, if_pos (List.getElem?_eq_some_iff.1 hx).1]
          exact ⟨_, rfl, by simp⟩
        · rw [if_neg hij]
          refine ⟨y, hy, ?_⟩
          rw [hy2]
          have hne : ej.born ≠ e.born := by
            have hnd := nodup_born k4
            intro heq
            apply hij
            have h1 : (es.toList.map (·.born))[i]? = some e.born := by rw [List.getElem?_map, hi]; rfl
            have h2 : (es.toList.map (·.born))[j]? = some e.born := by rw [List.getElem?_map, hj]; simp [heq]
            exact (List.getElem?_inj (List.getElem?_eq_some_iff.1 h1).1 hnd).1 (h1.trans h2.symm)
          rw [Array.contains_push]
          simp [hne]
    generalize setBlock w1 r (.mapIter (some c) ck (seen.push e.born) ck) = W2 at hrun hr2 hY2 hs2 hh2 hd2 hl2
    refine E7 (o := oN) (v := .tuple #[.bool true, e.key, e.val]) (W' := W2) (hatN 0) hN2 hnd1 (by simp only [execOp, hN1, hevN, Sem.run_bind, hrun]; rfl) ?_
    have he1 : ER G nt ρ (env.put m.n0 (.tup [.bool true, .top, .top])) (a.put oN.dst (.tuple #[.bool true, e.key, e.val])) := by
      rw [hN3]
      exact he.put (d := some m.n0) (fun t h => by cases h; exact hn0) (by unfold VR; exact ⟨[.bool true, e.key, e.val], rfl, _, _, rfl, by unfold VR; rfl, _, _, rfl, by unfold VR; trivial, _, _, rfl, by unfold VR; trivial, rfl⟩)
    refine Ej hΓ lN m.rN 1 hrN (fun j => by rw [hatN, Nat.add_comm, List.getElem?_cons_succ]) hY2 hr2 he1 (by rw [hEv]; exact hc.1.1) fun ρ3 a3 W3 q1 q2 q3 q4 => ?_
    rw [hEv] at q1 q2 q3
    dsimp only at q1 q2 q3
    have hl3 := hl2.step (M := 0) hr2 q3
    have hY3 := hY2.step (fun y hy => (hY2 y hy).lt) q3
    have hs3 := hs2.trans q3 hs2.next
    have hd3 : MkB B ρ3 W3 a3 := by
      have e : a3.defers = a.defers := by rw [q4]; cases oN.dst <;> rfl
      unfold MkB; rw [e]; exact ⟨hd2.1.step q3, hd2.2⟩
    refine wpIn_seq (wpIn_cond_true (by have hh := q2.ev (.tmp m.n1); change VR ρ3 (evS e1 (.slot m.n1)) _ at hh; rw [isBool_eq hc.1.2] at hh; unfold VR at hh; exact hh) (wpIn_skip ?_))
    show (Code.block m.id1 (.seq (.region i2 OE false) BODY)).wpIn (fen ro) 0 P _ a3 W3
    refine wpIn_block (wpIn_seq (wpIn_region ?_))
    rw [List.range_eq_range', hszE, List.range'_succ]
    have hevE := hev q2 hl3.hi hc.2
    obtain ⟨seen3, es3, x1, x2, x3, x4, x5, x6⟩ := hl3.ex
    have hrE3 : W3.heap[r]? = some (.mapIter (some c) ck (seen.push e.born) ck) := by
      obtain ⟨b1, b2, _⟩ := hr2.dom _ _ _ hl2.hi
      rw [(q3.ro bi r (0, 0) _ b1 hl2.hi b2 hl2.gi rfl).2, hh2, Array.getElem?_setIfInBounds_self_of_lt hrlt]
    have hcE3 : W3.heap[c]? = some (.map es ck) := by
      obtain ⟨b1, b2, _⟩ := hr2.dom _ _ _ hl2.hm
      rw [(q3.ro bm c dm _ b1 hl2.hm b2 hl2.gm rfl).2, hh2, Array.getElem?_setIfInBounds_ne (Ne.symm hl.ne)]; exact k2
    have hrunE := run_entry_at (P := P) W3 r c ck seen es ck e hrE3 hcE3 hes (nodup_born k4)
    refine E7 (o := oE) (v := .tuple #[e.key, e.val]) (W' := W3) (hatE 0) hE2 hnd2 (by simp only [execOp, hE1, hevE, Sem.run_bind, hrunE]; rfl) ?_
    have hsub3 : Sub ρ ρ3 := q3.sub hr2
    have he4 : ER G nt ρ3 (e1.put m.e0 (.tup [x.1.1, x.1.2])) (a3.put oE.dst (.tuple #[e.key, e.val])) := by
      rw [hE3]
      exact q2.put (d := some m.e0) (fun t h => by cases h; exact he0) (by unfold VR; exact ⟨[e.key, e.val], rfl, _, _, rfl, hp1.mono hsub3, _, _, rfl, hp2.mono hsub3, rfl⟩)
    refine Ej hΓ lE m.rE 1 hrE (fun j => by rw [hatE, Nat.add_comm, List.getElem?_cons_succ]) hY3 q1 he4 (by rw [hEe]) fun ρ5 a5 W5 g1 g2 g3 g4 => ?_
    rw [hEe] at g1 g2 g3
    dsimp only at g1 g2 g3
    have hl5 := hl3.step (M := 0) q1 g3
    have hY5 := hY3.step (fun y hy => (hY3 y hy).lt) g3
    have hs5 := hs3.trans g3 hs3.next
    have hd5 : MkB B ρ5 W5 a5 := by
      have e : a5.defers = a3.defers := by rw [g4]; cases oE.dst <;> rfl
      unfold MkB; rw [e]; exact ⟨hd3.1.step g3, hd3.2⟩
    refine wpIn_mono (hB _ _ _ _ _ _ hbd st hl5 g1 hY5 g2 hs5 hd5) fun ex a6 W6 ⟨hex, ρ6, z1, z2, z3, z4, z5, z6⟩ => ?_
    obtain ⟨oe, oenv, oσ, ocs⟩ := o
    dsimp only at hex z1 z2 z3 z4 z5 z6
    have hgo : mgo std Γ m bm bi bd n ocs oenv oσ = some M → J n a6 W6 := fun hM' => ⟨ρ6, oσ, ocs, oenv, M, hM', fun o ho => hLs o (hML o ho), z1, z2, z3, z4, z5, z6⟩
    subst hex
    cases oe with
    | normal => exact ⟨n, Nat.lt_succ_self n, hgo hM⟩
    | exit j =>
      have hM : (bif Nat.beq j m.id1 then mgo std Γ m bm bi bd n ocs oenv oσ else none) = some M := hM
      cases hj : Nat.beq j m.id1 with
      | false => rw [hj] at hM; cases hM
      | true =>
        rw [hj] at hM
        have hj := Nat.eq_of_beq_eq_true hj
        simp only [AX.out, Exit.inBlock]
        rw [if_pos hj]
        exact ⟨n, Nat.lt_succ_self n, hgo hM⟩
    | ret =>
      have hM : some [(AX.ret, oenv, shw bm ocs oσ)] = some M := hM
      cases hM
      obtain ⟨u1, u2⟩ := z1.show z2 z5
      exact hQ _ (hLs _ (hML _ List.mem_cons_self)) ρ6 a6 W6 u1 z4 u2 z6
theorem Ln : ∀ {l k : List Oper} {o : Oper}, Hu l = some (k, o) → l = k ++ [o]
  | [], _, _, h => by cases h
  | x :: l, k, o, h => by
    unfold Hu at h
    cases hl : Hu l with
    | none =>
      rw [hl] at h
      cases h
      cases l with
      | nil => rfl
      | cons y l => unfold Hu at hl; split at hl <;> cases hl
    | some p =>
      obtain ⟨k', o'⟩ := p
      rw [hl] at h
      cases h
      rw [Ln hl]; rfl
theorem del_at {c : Nat} {es : Array MapEntry} {ck : Nat} {l : List (AV × AV)} {ay : AV} {args : Array Operand} {ats : Array TypeId} {t k e : TypeId} {ks : List CK} {r : List TypeId} {o : Oper} {a : Act} {xm xk : Operand}
    (hop : o.op = .call { callee := .builtin .delete, args := args, argTypes := ats }) (h1 : W.heap[c]? = some (.map es ck)) (hM : MapL ρ l es.toList) (hat : ats.toList = t :: r) (hargs : args.toList = [xm, xk]) (ht : P.underlying t = some (.map k e)) (hk : Bx P 100 k = some ks) (hsc : A5 P k = true)
    (hx : a.eval xm = .map (some c)) (hy : VR ρ ay (a.eval xk)) (hok : (Cc std true ks ay l 0).1 = true) :
    ∃ es' : Array MapEntry, (execOp a.eval o).run P W = .ok (.value (.tuple #[])) (setBlock W c (.map es' ck)) ∧ es'.toList = (match (Cc std true ks ay l 0).2 with | some (j, _) => es.toList.eraseIdx j | none => es.toList) := by
  have e1 : ats[0]? = some t := by rw [← Array.getElem?_toList, hat]; rfl
  obtain ⟨r', h5, h6⟩ := Gd (P := P) (W := W) hk hsc hy hM hok
  have hset : ∀ es' : Array MapEntry, (setObj c (.map es' ck)).run P W = .ok () (setBlock W c (.map es' ck)) := fun es' => by simp [setObj, Sem.run, h1, setBlock]
  have hal : args.map a.eval = #[.map (some c), a.eval xk] := by apply Array.ext'; rw [Array.toList_map, hargs]; simp [hx]
  have hrun : ∀ es' : Array MapEntry, (Builtin.delete_ ats o.type #[.map (some c), a.eval xk]).run P W = .ok (.tuple #[]) (setBlock W c (.map es' ck)) → (execOp a.eval o).run P W = .ok (.value (.tuple #[])) (setBlock W c (.map es' ck)) := by
    intro es' h
    simp only [execOp, hop, resolve, Sem.run_bind, Sem.run_pure, Result.andThen_ok, invoke, hal]
    rw [show ∀ cs, builtin .delete ats o.type cs #[.map (some c), a.eval xk] = (do let v ← Builtin.delete_ ats o.type #[.map (some c), a.eval xk]; pure (.value v)) from fun _ => rfl]
    simp only [Sem.run_bind, h, Result.andThen_ok, Sem.run_pure]
  cases hf : (Cc std true ks ay l 0).2 with
  | none =>
    rw [hf] at h6
    cases r' with
    | some q => exact h6.elim
    | none =>
      refine ⟨es, hrun _ ?_, rfl⟩
      simp only [Builtin.delete_]
      simp only [e1, List.getElem?_toArray, List.getElem?_cons_zero, List.getElem?_cons_succ, Sem.run_bind, run_underlying ht, Result.andThen_ok, Cj h1, Ct hsc, h5, hset, Sem.run_pure]
  | some p =>
    obtain ⟨j, v0⟩ := p
    rw [hf] at h6
    cases r' with
    | none => exact h6.elim
    | some q =>
      obtain ⟨j', u0⟩ := q
      obtain ⟨hj, _⟩ := h6
      simp only at hj
      subst hj
      refine ⟨es.eraseIdxIfInBounds j, hrun _ ?_, by simp⟩
      simp only [Builtin.delete_]
      simp only [e1, List.getElem?_toArray, List.getElem?_cons_zero, List.getElem?_cons_succ, Sem.run_bind, run_underlying ht, Result.andThen_ok, Cj h1, Ct hsc, h5, hset, Sem.run_pure]
theorem MkB.defers {a a' : Act} (h : MkB B ρ W a) (e : a'.defers = a.defers) : MkB B ρ W a' := by unfold MkB; rw [e]; exact h
theorem put_defers (a : Act) (d : Option Nat) (u : Value) : (a.put d u).defers = a.defers := by cases d <;> rfl
theorem bdD_ok {ro : Option Nat} {BODY : Code} {q : MD} (hΓ : GamOk P G Γ Y) (h : delOf P G nt BODY = some q) : L7 P G nt Y ro BODY (bdD std Γ q) := by
  unfold delOf at h
  split at h
  · rename_i j1 R1 cc j2 R2
    split at h
    · rename_i l2 oD hlast
      split at h
      · rename_i args ats hop
        split at h
        · rename_i xm xk hargs
          split at h
          · rename_i t tl hat
            split at h
            · rename_i k e ht
              split at h
              · rename_i ks hk
                generalize hcb : (A5 P k && oD.guard.isNone && (match oD.dst with | none => true | some d => Nat.blt d nt)) = cb at h
                cases cb with
                | false => cases h
                | true =>
                dsimp only [cond_true] at h
                split at h
                · rename_i r1 hr1
                  split at h
                  · rename_i r2 hr2
                    cases h
                    simp only [Bool.and_eq_true] at hcb
                    obtain ⟨⟨hsc, hgd⟩, hdst⟩ := hcb
                    have hg : oD.guard = none := by cases hg : oD.guard <;> first | rfl | (rw [hg] at hgd; cases hgd)
                    have hdl : ∀ d, oD.dst = some d → d < nt := fun d hd => by rw [hd] at hdst; rwa [Nat.blt_eq] at hdst
                    have hlist := Ln hlast
                    intro bm cs i env σ o ho bi c r ck dm N B ρ0 ρ σ0 W0 W a st hl hr hY he hs hd
                    unfold bdD at ho
                    dsimp only at ho
                    generalize hE1 : evP std Γ r1 env σ = ev1 at ho
                    obtain ⟨ok, e1, σ1⟩ := ev1
                    dsimp only at ho
                    cases ok with
                    | false => cases ho
                    | true =>
                    dsimp only [cond_true] at ho
                    refine wpIn_seq (wpIn_region ?_)
                    have hlN : R1.size = R1.toList.length := by simp
                    rw [List.range_eq_range', hlN]
                    refine Ej hΓ R1.toList r1 0 hr1 (fun j => by simp) hY hr he (by rw [hE1]) fun ρ1 a1 W1 q1 q2 q3 q4 => ?_
                    rw [hE1] at q1 q2 q3
                    dsimp only at q1 q2 q3
                    have hl1 := hl.step (M := 0) hr q3
                    have hY1 := hY.step (fun y hy => (hY y hy).lt) q3
                    have hs1 := hs.trans q3 hs.next
                    have hd1 : MkB B ρ1 W1 a1 := MkB.defers (a := a) ⟨hd.1.step q3, hd.2⟩ q4
                    have hv := q2.ev cc
                    cases hc : evS e1 (rfS G cc) <;> rw [hc] at ho hv <;> try (cases ho; done)
                    rename_i tb
                    unfold VR at hv
                    dsimp only at ho
                    cases tb with
                    | false =>
                      cases ho
                      exact wpIn_cond_false hv (wpIn_skip ⟨rfl, ρ1, hl1, q1, hY1, q2, hs1, hd1⟩)
                    | true =>
                      dsimp only [cond_true] at ho
                      refine wpIn_cond_true hv (wpIn_region ?_)
                      generalize hE2 : evP std Γ r2 e1 σ1 = ev2 at ho
                      obtain ⟨ok2, e2, σ2⟩ := ev2
                      dsimp only at ho
                      cases ok2 with
                      | false => cases ho
                      | true =>
                      dsimp only [cond_true] at ho
                      have hlen2 : R2.size = l2.length + 1 := by rw [← Array.length_toList, hlist]; simp
                      have hat2 : ∀ j, R2[j]? = (l2 ++ [oD])[j]? := fun j => by rw [← hlist, Array.getElem?_toList]
                      rw [List.range_eq_range', hlen2]
                      refine J2 hΓ 1 l2 r2 0 hr2 (fun j hj => by rw [hat2, Nat.zero_add, List.getElem?_append_left hj]) hY1 q1 q2 (by rw [hE2]) fun ρ2 a2 W2 g1 g2 g3 g4 => ?_
                      rw [hE2] at g1 g2 g3
                      dsimp only at g1 g2 g3
                      have hl2 := hl1.step (M := 0) q1 g3
                      have hY2 := hY1.step (fun y hy => (hY1 y hy).lt) g3
                      have hs2 := hs1.trans g3 hs1.next
                      have hd2 : MkB B ρ2 W2 a2 := MkB.defers (a := a1) ⟨hd1.1.step g3, hd1.2⟩ g4
                      have hvm := g2.ev xm
                      have hvk := g2.ev xk
                      cases hcm : evS e2 (rfS G xm) <;> rw [hcm] at ho hvm <;> try (cases ho; done)
                      rename_i b
                      dsimp only at ho
                      cases hbb : Nat.beq b bm with
                      | false => rw [hbb] at ho; cases ho
                      | true =>
                      rw [hbb] at ho
                      obtain rfl := Nat.eq_of_beq_eq_true hbb
                      dsimp only [cond_true] at ho
                      generalize hfa : Cc std true ks (evS e2 (rfS G xk)) (cs.map (·.1)) 0 = fr at ho
                      obtain ⟨ok3, rr⟩ := fr
                      dsimp only at ho
                      cases ok3 with
                      | false => cases ho
                      | true =>
                      cases ho
                      have hxm : a2.eval xm = .map (some c) := by
                        unfold VR at hvm
                        obtain ⟨c1, d1, u1, u2⟩ := hvm
                        rw [hl2.hm] at u1; cases u1; exact u2
                      obtain ⟨seen, es, k1, k2, k3, k4, k5, k6⟩ := hl2.ex
                      obtain ⟨es', hrun, hes'⟩ := del_at (P := P) hop k2 k3 hat hargs ht hk hsc hxm hvk (by rw [hfa])
                      rw [hfa] at hes'
                      dsimp only at hes'
                      rw [Nat.zero_add, List.range'_succ]
                      refine E7 (o := oD) (by rw [hat2, List.getElem?_append_right (Nat.le_refl _), Nat.sub_self]; rfl) hg (fun c e => by rw [hop] at e; cases e) hrun ?_
                      have hr3 := g1.turnH (w1 := W2) (o := .map es' ck) (.inl rfl) hl2.hm hl2.gm
                      have hY3 := hY2.turnH (w1 := W2) (o := .map es' ck) g1 (.inl rfl) hl2.hm hl2.gm
                      have hs3 := hs2.turnH (w1 := W2) (o := .map es' ck) (.inl rfl) hl2.c0 hl2.cro
                      have hd3 : MkB B ρ2 (setBlock W2 c (.map es' ck)) (a2.put oD.dst (.tuple #[])) := MkB.defers (a := a2) ⟨hd2.1.turnH (.inl rfl) hl2.hm, hd2.2⟩ (put_defers _ _ _)
                      have he3 : ER G nt ρ2 (Hb e2 oD.dst (.tup [])) (a2.put oD.dst (.tuple #[])) := g2.put hdl (by unfold VR; exact ⟨[], rfl, rfl⟩)
                      have hclt : c < W2.heap.size := (Array.getElem?_eq_some_iff.1 k2).1
                      refine ⟨rfl, ρ2, ⟨hl2.hm, hl2.hi, hl2.gm, hl2.gi, hl2.ne, hl2.r0, hl2.c0, hl2.cro, hl2.bro, seen, es', ?_, ?_, ?_, ?_, ?_, ?_⟩, hr3, hY3, he3, hs3, hd3⟩
                      · show (W2.heap.setIfInBounds c _)[r]? = _
                        rw [Array.getElem?_setIfInBounds_ne hl2.ne]; exact k1
                      · show (W2.heap.setIfInBounds c _)[c]? = _
                        rw [Array.getElem?_setIfInBounds_self_of_lt hclt]
                      · rw [hes']
                        cases rr with
                        | none => exact k3
                        | some p =>
                          have e : (cs.eraseIdx p.1).map (·.1) = (cs.map (·.1)).eraseIdx p.1 := by
                            apply List.ext_getElem?
                            intro j
                            rw [List.getElem?_map, List.getElem?_eraseIdx, List.getElem?_eraseIdx]
                            split <;> rw [List.getElem?_map]
                          show MapL ρ2 ((cs.eraseIdx p.1).map (·.1)) (es.toList.eraseIdx p.1)
                          rw [e]; exact k3.erase p.1
                      · rw [hes']
                        cases rr with
                        | none => exact k4
                        | some p => exact k4.sublist (List.eraseIdx_sublist _ _)
                      · rw [hes']
                        cases rr with
                        | none => exact k5
                        | some p => exact fun e he => k5 e (List.mem_of_mem_eraseIdx he)
                      · rw [hes']
                        cases rr with
                        | none => exact k6
                        | some p =>
                          intro j e hj
                          show ∃ x, (cs.eraseIdx p.1)[j]? = some x ∧ _
                          have hj : (es.toList.eraseIdx p.1)[j]? = some e := hj
                          rw [List.getElem?_eraseIdx] at hj ⊢
                          split at hj
                          · rename_i hlt; rw [if_pos hlt]; exact k6 j e hj
                          · rename_i hlt; rw [if_neg hlt]; exact k6 (j + 1) e hj
                  · cases h
                · cases h
              · cases h
            · cases h
          · cases h
        · cases h
      · cases h
    · cases h
  · cases h
theorem YInv.put {b : Nat} {o : AObj} (h : YInv Y ρ σ W) (hs : b < 1048576) (hb : ∀ y ∈ Y, y.l ≠ b) : YInv Y ρ (σ.put b o) W := fun y hy =>
  ⟨(h y hy).lt, by rw [AH.get_put hs, if_neg (hb y hy)]; exact (h y hy).get, (h y hy).at_, (h y hy).rec_, (h y hy).sub⟩
theorem mfr_go {ro : Option Nat} (hΓ : GamOk P G Γ Y) (st : Start Y N B ρ0 σ0 W0) {i0 : Nat} {O0 ON OE : Array Oper} {l0 lN lE : List Oper} {oR oN oE : Oper} {t kt et : TypeId} {x0 : Operand} {it id i1 n1 id1 i2 n0 e0 : Nat} {pre rN rE : List CRow} {BODY : Code} {bd : Bd} {env : T AV} {L : List (AX × T AV × AH)} {a : Act} {Q : Exit → Act → World → Prop}
    (hlast : Hu O0.toList = some (l0, oR)) (hop : oR.op = .range t x0) (ht : P.underlying t = some (.map kt et)) (hg : oR.guard = none) (hdst : oR.dst = some it) (hbl : it < nt) (hpre : C7 P nt (rfS G) O0 l0 = some pre)
    (hON : ON.toList = oN :: lN) (hOE : OE.toList = oE :: lE) (hN1 : oN.op = .next (.tmp it) false) (hE1 : oE.op = .entry (.tmp it)) (hgN : oN.guard = none) (hgE : oE.guard = none) (hdN : oN.dst = some n0) (hdE : oE.dst = some e0) (hn0 : n0 < nt) (he0 : e0 < nt)
    (hrN : C7 P nt (rfS G) ON lN = some rN) (hrE : C7 P nt (rfS G) OE lE = some rE) (hB : L7 P G nt Y ro BODY bd) (h : mfr std Γ pre (rfS G x0) ⟨it, n0, n1, e0, id1, rN, rE⟩ bd env σ = some L)
    (hr : HR ρ σ W) (hY : YInv Y ρ σ W) (he : ER G nt ρ env a) (hs : Stp N ρ0 σ0 W0 ρ σ W) (hd : MkB B ρ W a)
    (hQ : ∀ o ∈ L, ∀ ρ' a' W', HR ρ' o.2.2 W' → ER G nt ρ' o.2.1 a' → Stp N ρ0 σ0 W0 ρ' o.2.2 W' → MkB B ρ' W' a' → Q o.1.out a' W') :
    (Code.region i0 O0 false).wpIn (fen ro) 0 P (Exit.then (fun a' W' => (Code.block id (.loop (.seq (.region i1 ON false) (.seq (.cond (.tmp n1) .skip (.exit id)) (.block id1 (.seq (.region i2 OE false) BODY)))))).wpIn (fen ro) 0 P Q a' W') Q) a W := by
  unfold mfr at h
  generalize hE1' : evP std Γ pre env σ = ev at h
  obtain ⟨ok, e1, σ1⟩ := ev
  dsimp only at h
  cases hok : (ok && Nat.blt σ1.next 1000000) with
  | false => rw [hok] at h; cases h
  | true =>
  rw [hok] at h
  rw [Bool.and_eq_true, Nat.blt_eq] at hok
  dsimp only [cond_true] at h
  have hlist := Ln hlast
  have hlen : O0.size = l0.length + 1 := by rw [← Array.length_toList, hlist]; simp
  have hat : ∀ j, O0[j]? = (l0 ++ [oR])[j]? := fun j => by rw [← hlist, Array.getElem?_toList]
  refine wpIn_region ?_
  rw [List.range_eq_range', hlen]
  refine J2 hΓ 1 l0 pre 0 hpre (fun j hj => by rw [hat, Nat.zero_add, List.getElem?_append_left hj]) hY hr he (by rw [hE1']; exact hok.1) fun ρ1 a1 W1 q1 q2 q3 q4 => ?_
  rw [hE1'] at q1 q2 q3
  dsimp only at q1 q2 q3
  have hY1 := hY.step (fun y hy => (hY y hy).lt) q3
  have hs1 := hs.trans q3 hs.next
  have hd1 : MkB B ρ1 W1 a1 := MkB.defers (a := a) ⟨hd.1.step q3, hd.2⟩ q4
  have hv := q2.ev x0
  cases hc : evS e1 (rfS G x0) <;> rw [hc] at h hv <;> try (cases h; done)
  rename_i bm
  dsimp only at h
  unfold VR at hv
  obtain ⟨c, dm, hρ, hxv⟩ := hv
  cases hgm : σ1.get bm with
  | none => rw [hgm] at h; cases h
  | some o =>
  rw [hgm] at h
  cases o <;> try (cases h; done)
  rename_i l
  dsimp only at h
  obtain ⟨es, ck, k2, k3, k4, k5⟩ := q1.map_at hρ hgm
  obtain ⟨hbn, hcW, _⟩ := q1.dom _ _ _ hρ
  have hsm := q1.small
  have hrun : (execOp a1.eval oR).run P W1 = .ok (.value (.pointer (some ⟨W1.heap.size, 0, none⟩))) (W1.alloc (.mapIter (some c) ck #[] ck)) := by
    simp only [execOp, hop, hxv, Sem.run_bind, run_range_map W1 t kt et c es ck ht k2]; rfl
  rw [Nat.zero_add, List.range'_succ]
  refine E7 (o := oR) (by rw [hat, List.getElem?_append_right (Nat.le_refl _), Nat.sub_self]; rfl) hg (fun c e => by rw [hop] at e; cases e) hrun ?_
  have hbro : ∀ o0, bm < N → σ0.get bm = some o0 → o0.isRo = false := fun o0 hb ho => by
    cases hro : o0.isRo with
    | false => rfl
    | true =>
      have e0 : ρ0 bm = some (c, dm) := by rw [← hs1.ext bm hb]; exact hρ
      have := (hs1.ro bm c dm o0 hb e0 (st.hr.dom _ _ _ e0).2.1 ho hro).1
      rw [hgm] at this; cases this; cases hro
  have hcro : ∀ b d o, b < N → ρ0 b = some (c, d) → c < W0.heap.size → σ0.get b = some o → o.isRo = false := fun b d o hb hb0 hc0 ho => by
    cases hro : o.isRo with
    | false => rfl
    | true =>
      have h1 := (hs1.ro b c d o hb hb0 hc0 ho hro).1
      by_cases hbb : b = bm
      · subst hbb; rw [hgm] at h1; cases h1; cases hro
      · have := (q1.inj bm b c dm d hρ (by rw [hs1.ext b hb]; exact hb0) (Ne.symm hbb)).left hgm rfl rfl
        rw [h1] at this; cases this; cases hro
  have hr2 := q1.hide hρ hgm
  have hs2 := hs1.setM (o := .hid) (by omega) hρ hbro
  have hY2 : YInv Y ρ1 (σ1.put bm .hid) W1 := hY1.put (by omega) fun y hy e => by
    have := (hY1 y hy).get
    rw [e, hgm] at this; cases this
  obtain ⟨ρ2, n1', n2, n3, n4⟩ := hr2.new (o := .hid) (x := .mapIter (some c) ck #[] ck) (s := 0) (by show Nat.blt σ1.next _ = true; rw [Nat.blt_eq]; exact hok.2) OR.hid
  have n3 : HR ρ2 ((σ1.put bm .hid).new .hid) (W1.alloc (.mapIter (some c) ck #[] ck)) := n3
  have hs3 := hs2.trans n4 hs2.next
  have hY3 := hY2.step (fun y hy => (hY2 y hy).lt) n4
  have hsz := hs1.size
  have hg2 : ∀ m, ((σ1.put bm .hid).new .hid).get m = if m = σ1.next then some .hid else if m = bm then some .hid else σ1.get m := fun m => by
    rw [AH.get_new (by show σ1.next < _; omega), AH.get_put (by omega)]; rfl
  have hl : LSt bm σ1.next c W1.heap.size ck dm N ρ0 σ0 W0 (l.map fun p => (p, false)) ρ2 ((σ1.put bm .hid).new .hid) (W1.alloc (.mapIter (some c) ck #[] ck)) := by
    refine ⟨n2 _ _ hρ, n1', ?_, ?_, Nat.ne_of_lt hcW, hsz, hs1.img bm c dm hρ, hcro, hbro, #[], es, heap_alloc_new _ _, (heap_alloc_old _ _ hcW).trans k2, ?_, k4, k5, fun i e hi => ?_⟩
    · rw [hg2, if_neg (by omega), if_pos rfl]
    · rw [hg2, if_pos rfl]
    · have e : (l.map fun p => (p, false)).map (·.1) = l := by rw [List.map_map]; exact List.map_id _
      rw [e]; exact k3.mono n2
    · obtain ⟨p, hp, _⟩ := k3.at_ hi
      exact ⟨(p, false), by rw [List.getElem?_map, hp]; rfl, by simp⟩
  have he3 : ER G nt ρ2 (e1.put it (.ptr σ1.next 0)) (a1.put oR.dst (.pointer (some ⟨W1.heap.size, 0, none⟩))) := by
    rw [hdst]
    exact (q2.sub n2).put (d := some it) (fun t h => by cases h; exact hbl) (by unfold VR; exact ⟨_, _, n1', by simp⟩)
  have hd3 : MkB B ρ2 (W1.alloc (.mapIter (some c) ck #[] ck)) (a1.put oR.dst (.pointer (some ⟨W1.heap.size, 0, none⟩))) := MkB.defers (a := a1) ⟨hd1.1.step n4, hd1.2⟩ (put_defers _ _ _)
  exact mloop hΓ st hON hN1 hgN hdN hrN hOE hE1 hgE hdE hrE hn0 he0 hB hQ h hl n3 hY3 he3 hs3 hd3
theorem mfr_sound {ro : Option Nat} (hΓ : GamOk P G Γ Y) (st : Start Y N B ρ0 σ0 W0) {x y : Code} {pre : List CRow} {xr : Ref} {it : Nat} {m : ML} {BODY : Code} {bd : Bd} {env : T AV} {L : List (AX × T AV × AH)} {a : Act} {Q : Exit → Act → World → Prop}
    (hx : Fm P G nt x = some (pre, xr, it)) (hy : Hp P G nt it y = some (m, BODY)) (hB : L7 P G nt Y ro BODY bd) (h : mfr std Γ pre xr m bd env σ = some L)
    (hr : HR ρ σ W) (hY : YInv Y ρ σ W) (he : ER G nt ρ env a) (hs : Stp N ρ0 σ0 W0 ρ σ W) (hd : MkB B ρ W a)
    (hQ : ∀ o ∈ L, ∀ ρ' a' W', HR ρ' o.2.2 W' → ER G nt ρ' o.2.1 a' → Stp N ρ0 σ0 W0 ρ' o.2.2 W' → MkB B ρ' W' a' → Q o.1.out a' W') :
    x.wpIn (fen ro) 0 P (Exit.then (fun a' W' => y.wpIn (fen ro) 0 P Q a' W') Q) a W := by
  unfold Fm at hx
  split at hx
  · rename_i i0 O0
    split at hx
    · rename_i l0 oR hlast
      split at hx
      · rename_i t x0 hop
        split at hx
        · rename_i kt et ht
          split at hx
          · rename_i hg
            split at hx
            · rename_i it' hdst
              generalize hbl : Nat.blt it' nt = bl at hx
              cases bl with
              | false => cases hx
              | true =>
              rw [Nat.blt_eq] at hbl
              dsimp only [cond_true] at hx
              split at hx
              · rename_i pre' hpre
                cases hx
                unfold Hp at hy
                split at hy
                · rename_i id i1 ON n1 id' id1 i2 OE BODY'
                  generalize hid : Nat.beq id' id = bi at hy
                  cases bi with
                  | false => cases hy
                  | true =>
                  obtain rfl := Nat.eq_of_beq_eq_true hid
                  dsimp only [cond_true] at hy
                  split at hy
                  · rename_i oN lN hON
                    split at hy
                    · rename_i oE lE hOE
                      split at hy
                      · rename_i t1 hN1
                        split at hy
                        · rename_i t2 hE1
                          generalize hcb : (Nat.beq t1 it && Nat.beq t2 it && oN.guard.isNone && oE.guard.isNone) = cb at hy
                          cases cb with
                          | false => cases hy
                          | true =>
                          simp only [Bool.and_eq_true, Nat.beq_eq] at hcb
                          obtain ⟨⟨⟨rfl, rfl⟩, hgN⟩, hgE⟩ := hcb
                          have hgN : oN.guard = none := by cases hg : oN.guard <;> first | rfl | (rw [hg] at hgN; cases hgN)
                          have hgE : oE.guard = none := by cases hg : oE.guard <;> first | rfl | (rw [hg] at hgE; cases hgE)
                          dsimp only [cond_true] at hy
                          split at hy
                          · rename_i n0 hdN
                            split at hy
                            · rename_i e0 hdE
                              generalize hcb : (Nat.blt n0 nt && Nat.blt e0 nt) = cb at hy
                              cases cb with
                              | false => cases hy
                              | true =>
                              simp only [Bool.and_eq_true, Nat.blt_eq] at hcb
                              dsimp only [cond_true] at hy
                              split at hy
                              · rename_i rN hrN
                                split at hy
                                · rename_i rE hrE
                                  cases hy
                                  exact mfr_go hΓ st hlast hop ht hg hdst hbl hpre hON hOE hN1 hE1 hgN hgE hdN hdE hcb.1 hcb.2 hrN hrE hB h hr hY he hs hd hQ
                                · cases hy
                              · cases hy
                            · cases hy
                          · cases hy
                        · cases hy
                      · cases hy
                    · cases hy
                  · cases hy
                · cases hy
              · cases hx
            · cases hx
          · cases hx
        · cases hx
      · cases hx
    · cases hx
  · cases hx
end
end
end Go.Proofs.YtjoakhpdajlhiaaGreatDoor.V2
namespace Go.Proofs.YtjoakhpdajlhiaaGreatDoor.V2
open Go
noncomputable section
section
variable {P : Program} {Γ : Gam} {pu : FuncId → Bool} {G nt N : Nat} {ρ0 : Ren} {σ0 : AH} {W0 : World}
def SoundAt (P : Program) (pu : FuncId → Bool) (G nt : Nat) (Y : List Yl) (c : Code) : Prop := ∀ (c' : ACode), A9 P G nt pu c = some c' → ∀ {N B : Nat} {ρ0 : Ren} {σ0 : AH} {W0 : World} {ro : Option Nat} {Γ : Gam}, GamOk P G Γ Y ∧ Iw Γ pu ∧ (ro ≠ none → Γ.up = fun _ _ => .no) → Start Y N B ρ0 σ0 W0 → ∀ (K : AK) (env : T AV) (σ : AH) (ρ : Ren) (W : World) (a : Act),
    avc std Γ G nt N c' K env σ → HR ρ σ W → ER G nt ρ env a → Stp N ρ0 σ0 W0 ρ σ W → Mks ρ W a.defers ∧ (∀ r, Fv r ∈ a.defers → B ≤ r) → c.wpIn (fen ro) 0 P (AQ G nt N B ρ0 σ0 W0 K) a W
theorem inv_block {id : Nat} {c : Code} {a : ACode} (h : A9 P G nt pu (.block id c) = some a) : ∃ c', A9 P G nt pu c = some c' ∧ a = .block id c' := by
  unfold A9 at h
  split at h
  · cases h
  · rename_i c' hc; cases h; exact ⟨c', hc, rfl⟩
theorem inv_loop {c : Code} {a : ACode} (h : A9 P G nt pu (.loop c) = some a) : ∃ c', A9 P G nt pu c = some c' ∧ a = .loop c' := by
  unfold A9 at h
  split at h
  · cases h
  · rename_i c' hc; cases h; exact ⟨c', hc, rfl⟩
theorem M3 {x y : Code} {a : ACode} (h : A9 P G nt pu (.seq x y) = some a) : ∃ x' y', A9 P G nt pu x = some x' ∧ A9 P G nt pu y = some y' ∧ a = E8 P G nt x y x' y' := by
  unfold A9 at h
  split at h
  · cases h
  · rename_i x' hx
    split at h
    · cases h
    · rename_i y' hy; cases h; exact ⟨x', y', hx, hy, rfl⟩
theorem Gr {x y : Code} {y' : ACode} (h : Fm P G nt x = none ∨ ∀ it, Hp P G nt it y = none) : I3 P G nt x y y' = none := by
  unfold I3
  rcases h with h | h
  · rw [h]
  · split
    · rfl
    · rw [h]
theorem mkSeq_nb {x y : Code} {x' y' : ACode} (h : Fm P G nt x = none) : E8 P G nt x y x' y' = .seq x' y' := by
  unfold E8
  rw [Gr (.inl h)]
  dsimp only
  split
  · rw [Gr (.inl h)]
  · rfl
theorem mkSeq_cases {x y : Code} {x' y' : ACode} : E8 P G nt x y x' y' = .seq x' y' ∨ (∃ z, I3 P G nt x y y' = some z ∧ E8 P G nt x y x' y' = z) ∨ ∃ y1 y2 y1' y2' z, y = .seq y1 y2 ∧ y' = .seq y1' y2' ∧ I3 P G nt x y1 y1' = some z ∧ E8 P G nt x y x' y' = .seq z y2' := by
  unfold E8
  split
  · rename_i z hz; exact .inr (.inl ⟨z, hz, rfl⟩)
  · split
    · split
      · rename_i hz; exact .inr (.inr ⟨_, _, _, _, _, rfl, rfl, hz, rfl⟩)
      · exact .inl rfl
    · exact .inl rfl
theorem Mc {it : Nat} {y : Code} {m : ML} {BODY : Code} (h : Hp P G nt it y = some (m, BODY)) : ∃ id i1 ON n1 id1 i2 OE, y = .block id (.loop (.seq (.region i1 ON false) (.seq (.cond (.tmp n1) .skip (.exit id)) (.block id1 (.seq (.region i2 OE false) BODY))))) := by
  unfold Hp at h
  split at h
  · rename_i id i1 ON n1 id' id1 i2 OE BODY'
    generalize hid : Nat.beq id' id = bi at h
    cases bi with
    | false => cases h
    | true =>
    obtain rfl := Nat.eq_of_beq_eq_true hid
    dsimp only [cond_true] at h
    repeat' (first | (cases h; done) | (cases h; exact ⟨_, _, _, _, _, _, _, rfl⟩) | (split at h) | (generalize (_ && _) = cb at h; cases cb <;> dsimp only [cond_true, cond_false] at h))
  · cases h
theorem Gq {x y : Code} {y' z : ACode} (h : I3 P G nt x y y' = some z) : ∃ pre xr it m BODY b, Fm P G nt x = some (pre, xr, it) ∧ Hp P G nt it y = some (m, BODY) ∧ bodyOf y' = some b ∧ ((∃ q, delOf P G nt BODY = some q ∧ z = .mfor pre xr m .skip (some q)) ∨ z = .mfor pre xr m b none) := by
  unfold I3 at h
  split at h
  · cases h
  · rename_i pre xr it hx
    split at h
    · cases h
    · rename_i m BODY hy
      split at h
      · cases h
      · rename_i b hb
        split at h
        · rename_i q hq; cases h; exact ⟨pre, xr, it, m, BODY, b, hx, hy, hb, .inl ⟨q, hq, rfl⟩⟩
        · cases h; exact ⟨pre, xr, it, m, BODY, b, hx, hy, hb, .inr rfl⟩
theorem mkFor_block {x y : Code} {y' z : ACode} (h : I3 P G nt x y y' = some z) : Fm P G nt y = none := by
  obtain ⟨_, _, _, _, _, _, _, h2, _⟩ := Gq h
  obtain ⟨id, i1, ON, n1, id1, i2, OE, rfl⟩ := Mc h2
  rfl
theorem inv_seqb {y1 y2 : Code} {y1' y2' : ACode} (hn : Fm P G nt y1 = none) (h : A9 P G nt pu (.seq y1 y2) = some (.seq y1' y2')) : A9 P G nt pu y1 = some y1' ∧ A9 P G nt pu y2 = some y2' := by
  obtain ⟨a, b, h1, h2, h3⟩ := M3 h
  rw [mkSeq_nb hn] at h3
  cases h3
  exact ⟨h1, h2⟩
theorem body_comp {it : Nat} {y : Code} {y' b : ACode} {m : ML} {BODY : Code} (h : Hp P G nt it y = some (m, BODY)) (hy : A9 P G nt pu y = some y') (hb : bodyOf y' = some b) : A9 P G nt pu BODY = some b ∧ SizeOf.sizeOf BODY < SizeOf.sizeOf y := by
  obtain ⟨id, i1, ON, n1, id1, i2, OE, rfl⟩ := Mc h
  refine ⟨?_, by simp only [Code.block.sizeOf_spec, Code.loop.sizeOf_spec, Code.seq.sizeOf_spec]; omega⟩
  obtain ⟨c1, k1, rfl⟩ := inv_block hy
  obtain ⟨c2, k2, rfl⟩ := inv_loop k1
  obtain ⟨rN, c3, k3, k4, rfl⟩ := M3 k2
  obtain ⟨cc, c4, k5, k6, rfl⟩ := M3 k4
  obtain ⟨c5, k7, rfl⟩ := inv_block k6
  obtain ⟨rE, c6, k8, k9, rfl⟩ := M3 k7
  have e1 : E8 P G nt (.cond (.tmp n1) .skip (.exit id)) (.block id1 (.seq (.region i2 OE false) BODY)) cc (.block id1 (E8 P G nt (.region i2 OE false) BODY rE c6)) = .seq cc (.block id1 (E8 P G nt (.region i2 OE false) BODY rE c6)) := mkSeq_nb rfl
  rw [e1] at hb
  have e2 : E8 P G nt (.region i1 ON false) (.seq (.cond (.tmp n1) .skip (.exit id)) (.block id1 (.seq (.region i2 OE false) BODY))) rN (.seq cc (.block id1 (E8 P G nt (.region i2 OE false) BODY rE c6))) = .seq rN (.seq cc (.block id1 (E8 P G nt (.region i2 OE false) BODY rE c6))) := by
    unfold E8
    rw [Gr (.inr fun _ => rfl)]
    dsimp only
    rw [Gr (.inr fun _ => rfl)]
  rw [e2] at hb
  rcases mkSeq_cases (P := P) (G := G) (nt := nt) (x := .region i2 OE false) (y := BODY) (x' := rE) (y' := c6) with e | ⟨z, hz, e⟩ | ⟨y1, y2, y1', y2', z, _, _, hz, e⟩
  · rw [e] at hb
    have hre : ∃ rows, rE = .reg rows := by
      unfold A9 at k8
      split at k8
      · cases k8
      · cases k8; exact ⟨_, rfl⟩
    obtain ⟨rows, rfl⟩ := hre
    cases hb
    exact k9
  · rw [e] at hb
    obtain ⟨_, _, _, _, _, _, _, _, _, h5⟩ := Gq hz
    rcases h5 with ⟨q, _, rfl⟩ | rfl <;> cases hb
  · rw [e] at hb
    obtain ⟨_, _, _, _, _, _, _, _, _, h5⟩ := Gq hz
    rcases h5 with ⟨q, _, rfl⟩ | rfl <;> cases hb
theorem bdR_ok {Y : List Yl} {ro : Option Nat} {BODY : Code} {b : ACode} {fuel : Nat} (hΓ : GamOk P G Γ Y ∧ Iw Γ pu ∧ (ro ≠ none → Γ.up = fun _ _ => .no)) (hS : SoundAt P pu G nt Y BODY) (hb : A9 P G nt pu BODY = some b) : L7 P G nt Y ro BODY (bdF std Γ fuel b none) := by
  intro bm cs i env σ o ho bi c r ck dm N B ρ0 ρ σ0 W0 W a st hl hr hY he hs hd
  have ho : (match run std Γ σ.next fuel b env σ with
    | .bad => none
    | .ok e env' σ' => some (e, env', σ', cs)) = some o := ho
  cases hrun : run std Γ σ.next fuel b env σ with
  | bad => rw [hrun] at ho; cases ho
  | ok e env' σ' =>
    rw [hrun] at ho
    cases ho
    have hA := hS b hb hΓ (N := σ.next) (B := B) (ρ0 := ρ) (σ0 := σ) (W0 := W) ⟨Nat.le_trans st.b hs.size, hY, fun y hy => (hY y hy).lt, hr⟩ (fun e' env'' σ'' => e' = e.out ∧ env'' = env' ∧ σ'' = σ') env σ ρ W a (My (nt := nt) (G := G) b _ _ _ e env' σ' hrun ⟨rfl, rfl, rfl⟩) hr he (Stp.refl (Nat.le_refl _)) hd
    refine wpIn_mono hA fun e' a' W' ⟨ρ', env2, σ2, ⟨h1, h2, h3⟩, h4, h5, h6, h7, h8⟩ => ?_
    subst h1 h2 h3
    exact ⟨rfl, ρ', hl.step (M := 0) hr h6, h4, hY.step (fun y hy => (hY y hy).lt) h6, h5, hs.trans h6 hs.next, h7, h8⟩
theorem mfor_sound {Y : List Yl} {ro : Option Nat} {x y : Code} {y' z : ACode} {B : Nat} (hΓ : GamOk P G Γ Y ∧ Iw Γ pu ∧ (ro ≠ none → Γ.up = fun _ _ => .no)) (st : Start Y N B ρ0 σ0 W0) (hz : I3 P G nt x y y' = some z) (hy : A9 P G nt pu y = some y')
    (IH : ∀ (BODY : Code) (b : ACode), SizeOf.sizeOf BODY < SizeOf.sizeOf y → A9 P G nt pu BODY = some b → SoundAt P pu G nt Y BODY) {K : AK} {env : T AV} {σ : AH} {ρ : Ren} {W : World} {a : Act} (h : avc std Γ G nt N z K env σ)
    (hr : HR ρ σ W) (hY : YInv Y ρ σ W) (he : ER G nt ρ env a) (hs : Stp N ρ0 σ0 W0 ρ σ W) (hd : MkB B ρ W a) {Q : Exit → Act → World → Prop}
    (hQ : ∀ e env' σ' ρ' a' W', K e env' σ' → HR ρ' σ' W' → ER G nt ρ' env' a' → Stp N ρ0 σ0 W0 ρ' σ' W' → MkB B ρ' W' a' → Q e a' W') :
    x.wpIn (fen ro) 0 P (Exit.then (fun a' W' => y.wpIn (fen ro) 0 P Q a' W') Q) a W := by
  obtain ⟨pre, xr, it, m, BODY, b, h1, h2, h3, h4⟩ := Gq hz
  obtain ⟨hb, hsz⟩ := body_comp h2 hy h3
  have hfin : ∀ {L : List (AX × T AV × AH)} {bd : Bd}, L7 P G nt Y ro BODY bd → mfr std Γ pre xr m bd env σ = some L → (∀ o ∈ L, ∃ env2 σ2, Lw G nt N o.2.1 o.2.2 env2 σ2 ∧ K o.1.out env2 σ2) → x.wpIn (fen ro) 0 P (Exit.then (fun a' W' => y.wpIn (fen ro) 0 P Q a' W') Q) a W := by
    intro L bd hB hL hK
    refine mfr_sound hΓ.1 st h1 h2 hB hL hr hY he hs hd fun o ho ρ' a' W' k1 k2 k3 k4 => ?_
    obtain ⟨env2, σ2, w1, w2⟩ := hK o ho
    obtain ⟨ρ'', u1, u2, u3, u4, u5, u6⟩ := w1.use k3.next k1
    exact hQ _ env2 σ2 ρ'' a' W' w2 u1 (u2 a' k2) (k3.weak u3 u4 u5 u6) ⟨k4.1.weak u4, k4.2⟩
  rcases h4 with ⟨q, hq, rfl⟩ | rfl
  · obtain ⟨fuel, L, hL, hK⟩ := h
    exact hfin (bdD_ok hΓ.1 hq) hL hK
  · obtain ⟨fuel, L, hL, hK⟩ := h
    exact hfin (bdR_ok hΓ (IH BODY b hsz hb) hb) hL hK
theorem avc_sound {Y : List Yl} (hm : P.follows .mixedOrders = true) : ∀ (c : Code) (c' : ACode), A9 P G nt pu c = some c' → ∀ {N B : Nat} {ρ0 : Ren} {σ0 : AH} {W0 : World} {ro : Option Nat} {Γ : Gam}, GamOk P G Γ Y ∧ Iw Γ pu ∧ (ro ≠ none → Γ.up = fun _ _ => .no) → Start Y N B ρ0 σ0 W0 → ∀ (K : AK) (env : T AV) (σ : AH) (ρ : Ren) (W : World) (a : Act),
    avc std Γ G nt N c' K env σ → HR ρ σ W → ER G nt ρ env a → Stp N ρ0 σ0 W0 ρ σ W → Mks ρ W a.defers ∧ (∀ r, Fv r ∈ a.defers → B ≤ r) → c.wpIn (fen ro) 0 P (AQ G nt N B ρ0 σ0 W0 K) a W := by
  suffices hh : ∀ n (c : Code), SizeOf.sizeOf c ≤ n → SoundAt P pu G nt Y c from fun c c' hc => hh (SizeOf.sizeOf c) c (Nat.le_refl _) c' hc
  intro n
  induction n with
  | zero => intro c hsz; cases c <;> simp at hsz
  | succ n IH =>
  intro c hsz
  cases c with
  | skip => intro c' hc N B ρ0 σ0 W0 ro Γ hΓ st K env σ ρ W a h hr he hs hd; cases hc; exact wpIn_skip ⟨ρ, env, σ, h, hr, he, hs, hd⟩
  | ret => intro c' hc N B ρ0 σ0 W0 ro Γ hΓ st K env σ ρ W a h hr he hs hd; cases hc; exact wpIn_ret ⟨ρ, env, σ, h, hr, he, hs, hd⟩
  | exit id => intro c' hc N B ρ0 σ0 W0 ro Γ hΓ st K env σ ρ W a h hr he hs hd; cases hc; exact wpIn_exit ⟨ρ, env, σ, h, hr, he, hs, hd⟩
  | seq x y =>
    have ihx := IH x (by simp only [Code.seq.sizeOf_spec] at hsz; omega)
    have ihy := IH y (by simp only [Code.seq.sizeOf_spec] at hsz; omega)
    intro c' hc N B ρ0 σ0 W0 ro Γ hΓ st K env σ ρ W a h hr he hs hd
    unfold A9 at hc
    split at hc
    · cases hc
    · rename_i x' hx
      split at hc
      · cases hc
      · rename_i y' hy
        cases hc
        rcases mkSeq_cases (P := P) (G := G) (nt := nt) (x := x) (y := y) (x' := x') (y' := y') with e | ⟨z, hz, e⟩ | ⟨y1, y2, y1', y2', z, e1, e2, hz, e⟩
        rotate_left
        · -- a loop over a map, at the end
          rw [e] at h
          exact wpIn_seq (mfor_sound (ro := ro) hΓ st hz hy (fun B b hs' hb => IH B (by simp only [Code.seq.sizeOf_spec] at hsz; omega)) h hr (st.inv.step st.lt hs) he hs hd fun e' env' σ' ρ' a' W' k1 k2 k3 k4 k5 => ⟨ρ', env', σ', k1, k2, k3, k4, k5.1, k5.2⟩)
        · -- a loop over a map, and what is behind it
          subst e1 e2
          rw [e] at h
          obtain ⟨hy1, hy2⟩ := inv_seqb (mkFor_block hz) hy
          have ih2 := IH y2 (by simp only [Code.seq.sizeOf_spec] at hsz; omega)
          refine wpIn_seq (wpIn_mono (mfor_sound (ro := ro) hΓ st hz hy1 (fun B b hs' hb => IH B (by simp only [Code.seq.sizeOf_spec] at hsz; omega)) h hr (st.inv.step st.lt hs) he hs hd (Q := Exit.then (fun a' W' => y2.wpIn (fen ro) 0 P (AQ G nt N B ρ0 σ0 W0 K) a' W') (AQ G nt N B ρ0 σ0 W0 K)) fun e' env' σ' ρ' a' W' k1 k2 k3 k4 k5 => ?_) fun e' a' W' hh => ?_)
          · cases e' with
            | normal =>
              obtain ⟨env2, σ2, w1, w2⟩ := k1
              obtain ⟨ρ'', u1, u2, u3, u4, u5, u6⟩ := w1.use k4.next k2
              exact ih2 y2' hy2 hΓ st K env2 σ2 ρ'' W' a' w2 u1 (u2 a' k3) (k4.weak u3 u4 u5 u6) ⟨k5.1.weak u4, k5.2⟩
            | _ => exact ⟨ρ', env', σ', k1, k2, k3, k4, k5.1, k5.2⟩
          · cases e' with
            | normal => exact wpIn_seq hh
            | _ => exact hh
        rw [e] at h
        refine wpIn_seq (wpIn_mono (ihx x' hx hΓ st _ env σ ρ W a h hr he hs hd) fun e a' W' ⟨ρ', env', σ', h1, h2, h3, h4, h5⟩ => ?_)
        cases e
        case normal =>
          obtain ⟨env2, σ2, w1, w2⟩ := h1
          obtain ⟨ρ'', k1, k2, k3, k4, k5, k6⟩ := w1.use h4.next h2
          exact ihy y' hy hΓ st K env2 σ2 ρ'' W' a' w2 k1 (k2 a' h3) (h4.weak k3 k4 k5 k6) ⟨h5.1.weak k4, h5.2⟩
        all_goals exact ⟨ρ', env', σ', h1, h2, h3, h4, h5⟩
  | cond t x y =>
    have ihx := IH x (by simp only [Code.cond.sizeOf_spec] at hsz; omega)
    have ihy := IH y (by simp only [Code.cond.sizeOf_spec] at hsz; omega)
    intro c' hc N B ρ0 σ0 W0 ro Γ hΓ st K env σ ρ W a h hr he hs hd
    unfold A9 at hc
    split at hc
    · cases hc
    · rename_i x' hx
      split at hc
      · cases hc
      · rename_i y' hy
        cases hc
        unfold avc at h
        have hv := he.ev t
        cases hcv : evS env (rfS G t) <;> rw [hcv] at h hv <;> try exact h.elim
        rename_i b
        unfold VR at hv
        cases b
        · exact wpIn_cond_false hv (ihy y' hy hΓ st K env σ ρ W a (h.2 rfl) hr he hs hd)
        · exact wpIn_cond_true hv (ihx x' hx hΓ st K env σ ρ W a (h.1 rfl) hr he hs hd)
  | block id x =>
    have ih := IH x (by simp only [Code.block.sizeOf_spec] at hsz; omega)
    intro c' hc N B ρ0 σ0 W0 ro Γ hΓ st K env σ ρ W a h hr he hs hd
    unfold A9 at hc
    split at hc
    · cases hc
    · rename_i x' hx
      cases hc
      refine wpIn_block (wpIn_mono (ih x' hx hΓ st _ env σ ρ W a h hr he hs hd) fun e a' W' ⟨ρ', env', σ', h1, h2, h3, h4, h5⟩ => ?_)
      cases e
      case exit i =>
        simp only [AK.block] at h1
        simp only [Exit.inBlock]
        split
        · rename_i hi; rw [if_pos hi] at h1; exact ⟨ρ', env', σ', h1, h2, h3, h4, h5⟩
        · rename_i hi; rw [if_neg hi] at h1; exact ⟨ρ', env', σ', h1, h2, h3, h4, h5⟩
      all_goals exact ⟨ρ', env', σ', h1, h2, h3, h4, h5⟩
  | loop x =>
    have ih := IH x (by simp only [Code.loop.sizeOf_spec] at hsz; omega)
    intro c' hc N B ρ0 σ0 W0 ro Γ hΓ st K env σ ρ W a h hr he hs hd
    unfold A9 at hc
    split at hc
    · cases hc
    · rename_i x' hx
      cases hc
      unfold avc at h
      obtain ⟨I, μ, ⟨env1, σ1, hw, h0⟩, hround⟩ := h
      let J : Nat → Act → World → Prop := fun n a W => ∃ ρ env σ, I env σ ∧ μ env σ = n ∧ HR ρ σ W ∧ ER G nt ρ env a ∧ Stp N ρ0 σ0 W0 ρ σ W ∧ Mks ρ W a.defers ∧ (∀ r, Fv r ∈ a.defers → B ≤ r)
      have hloop : ∀ n, ∀ a W, J n a W → (Code.loop x).wpIn (fen ro) 0 P (AQ G nt N B ρ0 σ0 W0 K) a W := by
        intro n a W hJ
        refine wpIn_loop_ghost J n hJ (fun n a W hI => ?_)
        obtain ⟨ρ, env, σ, i1, i2, i3, i4, i5, i6⟩ := hI
        refine wpIn_mono (ih x' hx hΓ st _ env σ ρ W a (hround env σ i1) i3 i4 i5 i6) fun e a' W' ⟨ρ', env', σ', h1, h2, h3, h4, h5⟩ => ?_
        cases e
        case normal =>
          obtain ⟨env2, σ2, w1, w2, w3⟩ := h1
          obtain ⟨ρ'', k1, k2, k3, k4, k5, k6⟩ := w1.use h4.next h2
          exact ⟨μ env2 σ2, by rw [← i2]; exact w3, ρ'', env2, σ2, w2, rfl, k1, k2 a' h3, h4.weak k3 k4 k5 k6, h5.1.weak k4, h5.2⟩
        all_goals exact ⟨ρ', env', σ', h1, h2, h3, h4, h5⟩
      obtain ⟨ρ1, k1, k2, k3, k4, k5, k6⟩ := hw.use hs.next hr
      exact hloop _ a W ⟨ρ1, env1, σ1, h0, rfl, k1, k2 a he, hs.weak k3 k4 k5 k6, hd.1.weak k4, hd.2⟩
  | region id ops draw =>
    intro c' hc N B ρ0 σ0 W0 ro Γ hΓ st K env σ ρ W a h hr he hs hd
    cases draw with
    | false =>
      unfold A9 at hc
      split at hc
      · cases hc
      · rename_i rows hrows
        cases hc
        unfold avc at h
        refine wpIn_region ?_
        have hl : ops.size = ops.toList.length := by simp
        rw [List.range_eq_range', hl]
        rcases h with h | ⟨L, hL, h⟩
        · exact Ej hΓ.1 ops.toList rows 0 hrows (fun j => by simp) (st.inv.step st.lt hs) hr he h.1 fun ρ' a' W' h1 h2 h3 h4 => ⟨ρ', _, _, h.2, h1, h2, hs.trans h3 hs.next, by rw [h4]; exact hd.1.step h3, by rw [h4]; exact hd.2⟩
        · exact plainS_sound hΓ.1 ops.toList rows 0 hrows (fun j => by simp) (st.inv.step st.lt hs) hr he hL fun p hp ρ' a' W' h1 h2 h3 h4 => ⟨ρ', _, _, h p hp, h1, h2, hs.trans h3 hs.next, by rw [h4]; exact hd.1.step h3, by rw [h4]; exact hd.2⟩
    | true =>
      unfold A9 at hc
      split at hc
      · cases hc; exact h.elim
      · rename_i sts hst
        cases hc
        unfold compD at hst
        split at hst
        · cases hst
        · split at hst
          · cases hst
          · rename_i st' hst'
            generalize hBB : Ki ops.toList [] = BB at hst hst'
            cases hck : (Ip ops BB [] && (F1 pu BB (Mb (rcsOf pu BB [] st')) [] st' && ((List.range ops.size).all (I5 st') && Nat.ble ops.size 1000000))) <;> rw [hck] at hst
            · cases hst
            · cases hst
              simp only [Bool.and_eq_true, Nat.ble_eq] at hck
              unfold avc at h
              unfold evDr at h
              generalize hrc : rcsOf pu BB [] st' = rcs at h hck
              generalize hev : evD std Γ env st' (Mb rcs) st' .leaf σ = ev at h
              obtain ⟨ok, vals, σ'⟩ := ev
              simp only at h
              refine wpIn_region_any hm (drawn_any (W0 := { W with drawn := W.drawn + 1 }) hΓ.1 ((st.inv.step st.lt hs).drew _) hΓ.2.1 hst' hck.2.1 hck.2.2.1 hck.2.2.2 hck.1 (hr.drew _) he (by rw [hev]; exact h.1) fun ρ' a' W' h1 h2 h3 h4 => ?_)
              rw [hev] at h1 h2 h3
              exact ⟨ρ', _, _, h.2, h1, h2, hs.trans h3.drew hs.next, by rw [h4]; exact hd.1.step h3.drew, by rw [h4]; exact hd.2⟩
  | rangeFunc f ps x y =>
    have ihx := IH x (by simp only [Code.rangeFunc.sizeOf_spec] at hsz; omega)
    have ihy := IH y (by simp only [Code.rangeFunc.sizeOf_spec] at hsz; omega)
    intro c' hc N B ρ0 σ0 W0 ro Γ hΓ st K env σ ρ W a h hr he hs hd
    unfold A9 at hc
    split at hc
    · cases hc
    · rename_i x' hx
      split at hc
      · cases hc
      · rename_i y' hy
        cases hps : (ps.toList.all fun p => Nat.blt p nt) with
        | false => rw [hps] at hc; cases hc; exact h.elim
        | true =>
        rw [hps] at hc
        cases hc
        have hv := he.ev f
        unfold avc at h
        cases hcv : evS env (rfS G f) <;> rw [hcv] at h hv <;> try exact h.elim
        rename_i fn first cap
        cases fn <;> try exact h.elim
        rename_i g
        obtain ⟨hlt, fuel, hoK⟩ := h
        unfold VR at hv
        obtain ⟨us, vs, hv, hus, hvs⟩ := hv
        cases ro with
        | some c0 =>
          rw [hΓ.2.2 (by simp)] at hoK
          rcases hoK with ⟨hok, _⟩ | ⟨L, hok, _⟩ <;> cases hok
        | none =>
        have hltn : σ.next < 1000000 := by rwa [Nat.blt_eq] at hlt
        refine wpIn_rangeFunc fun fn _ => ?_
        let lp : Loop := { state := .ready, pending := none, fn, tmps := a.tmps, params := ps, assign := x, body := y, defers := W.heap.size }
        let W1 : World := W.alloc (.deferred (some []))
        let W2 : World := W1.alloc (.loop lp)
        have hsz1 : W1.heap.size = W.heap.size + 1 := by show (W.heap.push _).size = _; simp
        have hsz : W2.heap.size = W.heap.size + 2 := by show ((W.heap.push _).push _).size = _; simp
        have hl1 : W2.heap[W.heap.size + 1]? = some (.loop lp) := by show ((W.heap.push _).push _)[_]? = _; rw [Array.getElem?_push, if_pos (by simp)]
        have hl0 : W2.heap[W.heap.size]? = some (.deferred (some [])) := by show ((W.heap.push _).push _)[_]? = _; rw [Array.getElem?_push_lt (by simp)]; simp
        have hold1 : ∀ c, c < W.heap.size → W1.heap[c]? = W.heap[c]? := fun c hc => by
          show (W.heap.push _)[c]? = _
          rw [Array.getElem?_push_lt hc, Array.getElem?_eq_getElem hc]
        have hrW1 : HR ρ σ W1 := hr.keepW (by omega) hold1
        have hsW1 : Stp σ.next ρ σ W ρ σ W1 := ⟨fun _ _ => rfl, fun b c d hb => .inl ⟨b, d, hb⟩, Nat.le_refl _, fun _ _ _ _ ho _ => ho, fun c hc _ => hold1 c hc, rfl, rfl, rfl, by omega, fun b c d o _ _ hc ho _ => ⟨ho, hold1 c hc⟩⟩
        obtain ⟨ρ1, n1, n2, n3, n4⟩ := hrW1.new (o := AObj.shut) (x := .loop lp) (s := 0) hlt (OR.shut (Nat.le_refl _))
        rw [hsz1] at n1
        have n3 : HR ρ1 (σ.new AObj.shut) W2 := n3
        have hs1 : Stp σ.next ρ σ W ρ1 (σ.new AObj.shut) W2 := hsW1.trans n4 (Nat.le_refl _)
        let z : Yl := ⟨σ.next, W.heap.size + 1, lp, ρ⟩
        have hY : YInv Y ρ σ W := st.inv.step st.lt hs
        have hYc : ∀ y ∈ Y, y.c < W.heap.size := fun y hy => (Array.getElem?_eq_some_iff.1 (hY y hy).rec_).1
        have hYz : YInv (z :: Y) ρ1 (σ.new AObj.shut) W2 := fun y hy => by
          rcases List.mem_cons.1 hy with rfl | hy
          · exact ⟨Nat.lt_succ_self _, by rw [AH.get_new (by omega)]; exact if_pos rfl, n1, hl1, fun b x hb => ⟨(hr.dom b x.1 x.2 hb).1, n2 _ _ hb⟩⟩
          · exact hY.step (fun y hy => (hY y hy).lt) hs1 y hy
        generalize hh : rnd (both std Γ.bare fuel x' y') env ps.toList = k at hoK
        have hΓb : GamOk P G Γ.bare Y ∧ Iw Γ.bare pu ∧ (some (W.heap.size + 1) ≠ none → Γ.bare.up = fun _ _ => .no) := ⟨hΓ.1.bare, by have := hΓ.2.1; unfold Iw at this ⊢; rw [Gam.bare_fn]; exact this, fun _ => Γ.bare_up⟩
        have hYl : YlOk P G σ.next k (z :: Y) := by
          intro args σ' hok' ρ' W' vs' c' d' hY' hG' hr' hvs' hb'
          have hz' := hY' z List.mem_cons_self
          obtain ⟨rfl, rfl⟩ : c' = W.heap.size + 1 ∧ d' = (0, 0) := Prod.mk.inj (Option.some.inj (hb'.symm.trans hz'.at_))
          subst hh
          obtain ⟨hle, e2, s2, hrun, hrnd⟩ := rnd_ok hok'
          rw [hrnd]
          have hrec : W'.heap[W.heap.size + 1]? = some (.loop lp) := hz'.rec_
          have hcW : W.heap.size + 1 < W'.heap.size := (Array.getElem?_eq_some_iff.1 hrec).1
          refine ⟨_, _, _, _, yield_run hrec (by show ps.toList.length = _; rw [hle, hvs'.length]), ?_⟩
          refine roundIn_of_wpIn (F := Fence.wide) trivial ?_
          rcases RR.next_ok (show (run std Γ.bare σ'.next fuel x' (Ko env ps.toList args) σ').next (run std Γ.bare σ'.next fuel y') = _ from hrun) with ⟨e1, s1, h1, h2⟩ | ⟨h1, _⟩
          · have hst1 : Start Y σ'.next W'.heap.size ρ' σ' W' := ⟨Nat.le_refl _, fun y hy => hY' y (List.mem_cons_of_mem _ hy), fun y hy => (hY' y (List.mem_cons_of_mem _ hy)).lt, hr'⟩
            have her := bindP_er (nt := nt) ps.toList args vs' env a.tmps hle hps hvs' ⟨he.small, he.size, hG', fun t v ht => (he.at_ t v ht).mono fun b x hb => (hz'.sub b x hb).2⟩
            have hA := ihx x' hx (N := σ'.next) (B := W'.heap.size) (ro := some (W.heap.size + 1)) hΓb hst1 (fun e env' σ'' => e = .normal ∧ env' = e1 ∧ σ'' = s1) _ σ' ρ' W' _ (My (nt := nt) (G := G) x' _ _ _ .normal e1 s1 h1 ⟨rfl, rfl, rfl⟩) hr' her (Stp.refl (Nat.le_refl _)) ⟨trivial, fun r hr => by cases hr⟩
            refine wpIn_mono hA fun e a1 W3 ⟨ρ2, env2, σ2, ⟨q1, q2, q3⟩, p1, p2, p3, p4, p5⟩ => ?_
            subst q1 q2 q3
            have hY2 := hY'.step (fun y hy => (hY' y hy).lt) p3
            have hz2 := hY2 z List.mem_cons_self
            have hl2 : W3.heap[W.heap.size + 1]? = some (.loop lp) := hz2.rec_
            have hcW3 : W.heap.size + 1 < W3.heap.size := (Array.getElem?_eq_some_iff.1 hl2).1
            have hsz3 := p3.size
            refine ⟨_, beginRound_run hl2 rfl, ?_⟩
            have hst2 : Start Y σ'.next W'.heap.size ρ2 σ2 (setB W3 (W.heap.size + 1) (.loop { lp with state := .busy })) :=
              ⟨by rw [C5]; exact hsz3, YInv.turn (fun y hy => hY2 y (List.mem_cons_of_mem _ hy)) (fun y hy => by have := hYc y hy; omega), hst1.lt, p1.turnL hl2⟩
            have hB := ihy y' hy (N := σ'.next) (B := W'.heap.size) (ro := some (W.heap.size + 1)) hΓb hst2 (fun e _ σ'' => e = .normal ∧ σ'' = s2) env2 σ2 ρ2 _ a1 (My (nt := nt) (G := G) y' _ _ _ .normal e2 s2 h2 ⟨rfl, rfl⟩) (p1.turnL hl2) p2 (Stp.refl p3.next)
              ⟨p4.setB fun r hr => by have := p5 r hr; omega, p5⟩
            refine wpIn_mono hB fun e a2 W4 ⟨ρ3, env3, σ3, ⟨q1, q2⟩, r1, r2, r3, r4, r5⟩ => ?_
            subst q1 q2
            have hl3 : W4.heap[W.heap.size + 1]? = some (.loop { lp with state := .busy }) := (r3.ro z.l (W.heap.size + 1) (0, 0) _ hz'.lt hz2.at_ (by rw [C5]; exact hcW3) hz2.get rfl).2.trans (setB_self hcW3)
            exact ⟨.bool true, _, endRound_run hl3 rfl rfl, _, rfl, ρ3, r1.turnL hl3, Stp.round p3 r3 hcW hrec, by unfold VR; rfl⟩
          · exact absurd rfl h1
        have hΓ' := hΓ.1.up z hYl
        have hG1 : ∀ g, g < G → ∃ s, ρ1 g = some (g, (0, s)) := fun g hg => by obtain ⟨s, h'⟩ := he.glob g hg; exact ⟨s, n2 _ _ h'⟩
        have hargs : VRs ρ1 (first ++ (AV.yld σ.next :: cap)) (us ++ (Value.func (.yield (W.heap.size + 1)) #[] #[] :: vs)) := (hus.mono n2).append ⟨_, _, rfl, by unfold VR; exact ⟨_, _, n1, rfl⟩, hvs.mono n2⟩
        have hcalls : (∃ fd, P.funcs[g]? = some fd ∧ fd.body.isSome = true ∧ (fd.name == "runtime.NumGoroutine") = false) ∧ Calls P g (us ++ (Value.func (.yield (W.heap.size + 1)) #[] #[] :: vs)).toArray W2 fun e W' => ∃ v σ' ρ', e = .returned v ∧ K .normal env σ' ∧ HR ρ' σ' W' ∧ Stp (σ.next + 1) ρ1 (σ.new AObj.shut) W2 ρ' σ' W' := by
          rcases hoK with ⟨hok, hK⟩ | ⟨L, hok, hK⟩
          · obtain ⟨h1, h2⟩ := hΓ'.fn _ _ _ hok
            exact ⟨h1, (h2 ρ1 W2 _ hYz hG1 n3 hargs).mono fun e W' ⟨v, ρ', he', k1, k2, k3⟩ => ⟨v, _, ρ', he', hK, k1, k2⟩⟩
          · obtain ⟨h1, h2⟩ := hΓ'.dm _ _ _ _ hok
            exact ⟨h1, (h2 ρ1 W2 _ hYz hG1 n3 hargs).mono fun e W' ⟨v, av, σ', ρ', he', hm', k1, k2, k3⟩ => ⟨v, _, ρ', he', hK _ hm', k1, k2⟩⟩
        obtain ⟨⟨fd, hfd, hbody, hname⟩, hcall⟩ := hcalls
        obtain ⟨body, hbn⟩ := Option.isSome_iff_exists.1 hbody
        have hname' : ¬ fd.name = "runtime.NumGoroutine" := by simpa using hname
        refine ⟨W.heap.size + 1, [Fv W.heap.size], W2, { target := .fn (.func g) vs.toArray, args := us.toArray ++ #[.func (.yield (W.heap.size + 1)) #[] #[]] }, W2, g, (us ++ (Value.func (.yield (W.heap.size + 1)) #[] #[] :: vs)).toArray, W2, ?_, ?_, ?_, ?_, ?_, ?_⟩
        · show (Instr.enterLoop fn a.tmps ps x y none).run P W = _
          simp [Instr.enterLoop, Fv, W2, W1, lp]
        · have hc : a.eval (.const (.func (.yield (W.heap.size + 1)) #[] #[])) = .func (.yield (W.heap.size + 1)) #[] #[] := rfl
          simp [resolve, hv, Deferred.ofValue, hc]
        · exact fun _ _ => trivial
        · simp [invoke, callFunc, hfd, hbn, hname']
        · exact fun h => by cases h
        · refine callsIn_wide.2 (hcall.mono fun e W' ⟨v, σ', ρ', he', hK, k1, k2⟩ => ?_)
          subst he'
          have hYe := hYz.step (fun y hy => (hYz y hy).lt) k2
          have hl : W'.heap[W.heap.size + 1]? = some (.loop lp) := (hYe z List.mem_cons_self).rec_
          have hun1 : ∀ b x, ρ1 b ≠ some (W.heap.size, x) := fun b x hb => by
            rcases n4.img b _ x hb with ⟨b0, d0, h0⟩ | h0
            · have := (hr.dom b0 _ d0 h0).2.1; omega
            · omega
          have hd0 : W'.heap[W.heap.size]? = some (.deferred (some [])) := (k2.frame _ (by omega) fun b d => hun1 b d).trans hl0
          have hun' : ∀ b x, ρ' b ≠ some (W.heap.size, x) := fun b x hb => by
            rcases k2.img b _ x hb with ⟨b0, d0, h0⟩ | h0
            · exact hun1 b0 d0 h0
            · omega
          have hsize := hs.size
          refine ⟨none, setB W' (W.heap.size + 1) (.loop { lp with state := .exhausted }), ?_, ?_⟩
          · simp [Instr.endLoop, Instr.getLoop, getObj, Sem.run_bind, Sem.run, hl, K6 hl, lp]
          · have hsub : Sub ρ ρ' := fun b x hb => k2.sub n3 b x (n2 b x hb)
            have he2 := he.sub hsub
            have hstp : Stp N ρ0 σ0 W0 ρ' _ (setB W' (W.heap.size + 1) (.loop { lp with state := .exhausted })) := ((hs.trans hs1 hs.next).trans k2 (Nat.le_trans hs.next (Nat.le_succ _))).setB (by omega)
            have hm2 : Mks ρ' W' a.defers := (hd.1.step hs1).step k2
            refine ⟨ρ', env, _, hK, k1.turnL hl, ⟨he2.small, he2.size, he2.glob, he2.at_⟩, hstp, ⟨W.heap.size, rfl, by rw [Cb (by omega)]; exact hd0, hun', fun r' hr' => by have := hd.1.lt r' hr'; omega, hm2.setB fun r hr => by have := hd.1.lt r hr; omega⟩, fun r hr' => ?_⟩
            rcases List.mem_cons.1 hr' with h | h
            · have : r = W.heap.size := by simpa [Fv] using h
              have := st.b
              omega
            · exact hd.2 r h
  | _ => intro c' hc; cases hc; intro N B ρ0 σ0 W0 ro Γ hΓ st K env σ ρ W a h; exact h.elim
end
end
end Go.Proofs.YtjoakhpdajlhiaaGreatDoor.V2
namespace Go.Proofs.YtjoakhpdajlhiaaGreatDoor.V2
open Go
noncomputable section
inductive ARes where
  | tmp (t : Nat)
  | cell1 (a : Nat)
  | cellN (a n : Nat)
def compR1 (P : Program) : ResultVar → Option ARes
  | .tmp t => some (.tmp t)
  | .cell a t => match P.underlying t with
    | some d => match B3 d with
      | true => match P.info? t with
        | some i => some (.cellN a i.size)
        | none => none
      | false => some (.cell1 a)
    | none => none
def H0 (P : Program) : List ResultVar → Option (List ARes)
  | [] => some []
  | r :: l => match compR1 P r with
    | none => none
    | some x => match H0 P l with
      | none => none
      | some xs => some (x :: xs)
def resV (A : Ar) (env : T AV) (σ : AH) : ARes → Bool × AV
  | .tmp t => (true, evS env (.slot t))
  | .cell1 a => match De A (evS env (.slot a)) σ with
    | (ok, v, _) => (ok, v)
  | .cellN a n => match Dd A n (evS env (.slot a)) σ with
    | (ok, v, _) => (ok, v)
def J1 (A : Ar) (env : T AV) (σ : AH) : List ARes → Bool × List AV
  | [] => (true, [])
  | r :: l => match resV A env σ r with
    | (ok, v) => match J1 A env σ l with
      | (ok', vs) => (ok && ok', v :: vs)
def retV : List AV → AV
  | [x] => x
  | l => .tup l
def Me : List AV → Nat → T AV → T AV
  | [], _, t => t
  | a :: l, i, t => Me l (i + 1) (t.put i a)
def resF (tmps : Array Value) (r : ResultVar) : Sem Value := match r with
  | .tmp t => pure (tmps.getD t undef)
  | .cell a t => do loadVar t (← asAddr (tmps.getD a undef))
theorem results_eq (fn : Func) (tmps : Array Value) : results fn tmps = (do let vs ← fn.results.mapM (resF tmps); pure (if h : vs.size = 1 then vs[0] else .tuple vs)) := rfl
section
variable {P : Program} {W : World} {ρ : Ren} {σ : AH} {G nt : Nat}
theorem resV_run (hr : HR ρ σ W) {env : T AV} {a : Act} (he : ER G nt ρ env a) {r : ResultVar} {x : ARes} (hc : compR1 P r = some x) (hok : (resV std env σ x).1 = true) :
    ∃ v, (resF a.tmps r).run P W = .ok v W ∧ VR ρ (resV std env σ x).2 v := by
  cases r with
  | tmp t =>
    cases hc
    exact ⟨_, rfl, he.ev (.tmp t)⟩
  | cell b t =>
    have hv := he.ev (.tmp b)
    simp only [rfS, Act.eval] at hv
    simp only [compR1] at hc
    split at hc
    · rename_i d hu
      split at hc
      · rename_i hd
        split at hc
        · rename_i i hi
          cases hc
          simp only [resV] at hok ⊢
          have h := loadN_run (P := P) (W := W) (ax := evS env (.slot b)) hr hu hd hi hv
          generalize Dd std i.size (evS env (.slot b)) σ = out at h hok ⊢
          obtain ⟨ok, v, σ'⟩ := out
          obtain ⟨_, c, o, u, e1, e2, e3⟩ := h hok
          refine ⟨u, ?_, e3⟩
          simp only [resF, e1, asAddr, Sem.run_bind, Sem.run_pure, Result.andThen_ok, e2]
        · cases hc
      · rename_i hd
        cases hc
        simp only [resV] at hok ⊢
        have h := load1_run (P := P) (W := W) (ax := evS env (.slot b)) hr hu hd hv
        generalize De std (evS env (.slot b)) σ = out at h hok ⊢
        obtain ⟨ok, v, σ'⟩ := out
        obtain ⟨_, c, o, u, e1, e2, e3⟩ := h hok
        refine ⟨u, ?_, e3⟩
        simp only [resF, e1, asAddr, Sem.run_bind, Sem.run_pure, Result.andThen_ok, e2]
    · cases hc
theorem resL_run (hr : HR ρ σ W) {env : T AV} {a : Act} (he : ER G nt ρ env a) : ∀ (rs : List ResultVar) (xs : List ARes), H0 P rs = some xs → (J1 std env σ xs).1 = true →
    ∃ vs, (rs.mapM (resF a.tmps)).run P W = .ok vs W ∧ VRs ρ (J1 std env σ xs).2 vs
  | [], xs, hc, _ => by cases hc; exact ⟨[], rfl, rfl⟩
  | r :: rs, xs, hc, hok => by
    unfold H0 at hc
    split at hc
    · cases hc
    · rename_i x hx
      split at hc
      · cases hc
      · rename_i xs' hxs
        cases hc
        unfold J1 at hok ⊢
        have h1 := resV_run (P := P) hr he hx
        have h2 := resL_run hr he rs xs' hxs
        generalize resV std env σ x = o1 at hok h1 ⊢
        obtain ⟨k1, v1⟩ := o1
        generalize J1 std env σ xs' = o2 at hok h2 ⊢
        obtain ⟨k2, v2⟩ := o2
        simp only [Bool.and_eq_true] at hok
        obtain ⟨v, e1, e2⟩ := h1 hok.1
        obtain ⟨vs, e3, e4⟩ := h2 hok.2
        refine ⟨v :: vs, ?_, v, vs, rfl, e2, e4⟩
        rw [List.mapM_cons, Sem.run_bind, e1, Result.andThen_ok, Sem.run_bind, e3]; rfl
theorem results_run (hr : HR ρ σ W) {env : T AV} {a : Act} (he : ER G nt ρ env a) {fn : Func} {xs : List ARes} (hc : H0 P fn.results.toList = some xs) (hok : (J1 std env σ xs).1 = true) :
    ∃ v, (results fn a.tmps).run P W = .ok v W ∧ VR ρ (retV (J1 std env σ xs).2) v := by
  obtain ⟨vs, h1, h2⟩ := resL_run (P := P) hr he _ _ hc hok
  rw [results_eq, Array.mapM_eq_mapM_toList, Sem.run_bind, Sem.run_map, h1]
  simp only [Result.andThen_ok]
  generalize (J1 std env σ xs).2 = l at h2
  match l, vs, h2 with
  | [], _, e => cases e; exact ⟨_, rfl, by show VR ρ (.tup []) _; unfold VR; exact ⟨[], rfl, rfl⟩⟩
  | [x], _, ⟨v, m, e1, e2, e3⟩ =>
    cases e3; cases e1
    exact ⟨v, rfl, e2⟩
  | x :: y :: l, vs, h2 =>
    have hl := h2.length
    refine ⟨.tuple vs.toArray, ?_, ?_⟩
    · rw [dif_neg (by simp at hl ⊢; omega)]; rfl
    · show VR ρ (.tup (x :: y :: l)) _
      unfold VR; exact ⟨vs, rfl, h2⟩
theorem envOf_get : ∀ (l : List AV) (i : Nat) (t : T AV) (m : Nat), i + l.length ≤ 1048576 → (Me l i t).get m = if i ≤ m ∧ m < i + l.length then l[m - i]? else t.get m
  | [], i, t, m, _ => by rw [if_neg (by intro h; simp at h; omega)]; rfl
  | a :: l, i, t, m, h => by
    simp only [List.length_cons] at h
    show (Me l (i + 1) (t.put i a)).get m = _
    rw [envOf_get l (i + 1) _ m (by omega), T.get_put _ _ _ _ (by omega)]
    by_cases h1 : i + 1 ≤ m ∧ m < i + 1 + l.length
    · rw [if_pos h1, if_pos (by simp; omega), show m - i = (m - (i + 1)) + 1 by omega, List.getElem?_cons_succ]
    · rw [if_neg h1]
      by_cases hm : m = i
      · subst hm; rw [if_pos rfl, if_pos (by simp)]; simp
      · rw [if_neg hm, if_neg (by simp; omega)]
theorem J8 {N : Nat} {ρ0 : Ren} {σ0 : AH} {W0 : World} {fn : Func} {tmps : Array Value} {R : Ending → World → Prop} (hR : ∀ W', HR ρ σ W' → Stp N ρ0 σ0 W0 ρ σ W' → ∃ v, (results fn tmps).run P W' = .ok v W' ∧ R (.returned v) W') : ∀ (ds : List Deferred) (W : World), Mks ρ W ds → (∀ r, Fv r ∈ ds → W0.heap.size ≤ r) → HR ρ σ W → Stp N ρ0 σ0 W0 ρ σ W → LeavesInM Fence.wide 0 P fn tmps R ds .returning W
  | [], W, _, _, h1, h2 => hR W h1 h2
  | _ :: ds, W, ⟨r, e, k1, k2, k3, k4⟩, hb, h1, h2 => by
    subst e
    refine ⟨(fun h => by cases h), .inl ⟨r, setB W r (.deferred none), rfl, ?_, J8 hR ds _ (k4.setB k3) (fun r' hr => hb r' (List.mem_cons_of_mem _ hr)) (h1.setB k2) (h2.setB (hb r List.mem_cons_self))⟩⟩
    simp [Instr.takeDeferred, getObj, Sem.run_bind, Sem.run, k1, setB_deferred k1]
theorem call_sound {Γ : Gam} {pu : FuncId → Bool} {Y : List Yl} (hm : P.follows .mixedOrders = true) (hΓ : GamOk P G Γ Y) (hpu : Iw Γ pu) {f : FuncId} {fn : Func} {c : Code} {c' : ACode} {xs : List ARes} (hf : P.funcs[f]? = some fn) (hb : fn.body = some c)
    (hc : A9 P G fn.ntmps pu c = some c') (hres : H0 P fn.results.toList = some xs) (hnt : Nat.ble fn.ntmps 1048576 = true) {args : List AV} (hargs : Nat.ble args.length fn.ntmps = true) {K : AV → AH → Prop}
    (h : avc std Γ G fn.ntmps σ.next c' (fun e env σ' => (match e with | .normal => True | .ret => True | _ => False) ∧ (J1 std env σ' xs).1 = true ∧ K (retV (J1 std env σ' xs).2) σ') (Me args 0 .leaf) σ)
    {vs : List Value} (hY : YInv Y ρ σ W) (hG : ∀ g, g < G → ∃ s, ρ g = some (g, (0, s))) (hr : HR ρ σ W) (hvs : VRs ρ args vs) :
    Calls P f vs.toArray W fun e W' => ∃ v av σ' ρ', e = .returned v ∧ K av σ' ∧ HR ρ' σ' W' ∧ Stp σ.next ρ σ W ρ' σ' W' ∧ VR ρ' av v := by
  rw [Nat.ble_eq] at hnt hargs
  have hl := hvs.length
  refine callsIn_wide.1 (callsIn_of_wp_marks (n := 0) hf hb trivial (wpIn_mono (F := fen none) (avc_sound hm c c' hc ⟨hΓ, hpu, fun h => absurd rfl h⟩ ⟨Nat.le_refl _, hY, fun y hy => (hY y hy).lt, hr⟩ _ _ _ ρ W _ h hr ⟨hnt, ?_, hG, fun t v ht => ?_⟩ (Stp.refl (Nat.le_refl _)) ⟨trivial, fun r hr => by cases hr⟩) fun e a W' ⟨ρ', env', σ', ⟨h1, h2, h3⟩, h4, h5, h6, h7, h8⟩ => ?_))
  · simp; omega
  · rw [envOf_get _ _ _ _ (by omega)] at ht
    simp only [Nat.zero_le, true_and, Nat.zero_add, Nat.sub_zero, T.get_leaf] at ht
    split at ht
    · rename_i hlt
      obtain ⟨u, hu, hr'⟩ := hvs.at t v ht
      have : (vs.toArray ++ Array.replicate (fn.ntmps - vs.toArray.size) undef).getD t undef = u := by
        rw [Array.getD_eq_getD_getElem?, Array.getElem?_append_left (by simp; omega)]
        simp [hu]
      rw [this]; exact hr'
    · cases ht
  · have key := J8 (P := P) (R := fun e W' => ∃ v av σ' ρ', e = .returned v ∧ K av σ' ∧ HR ρ' σ' W' ∧ Stp σ.next ρ σ W ρ' σ' W' ∧ VR ρ' av v) (fn := fn) (tmps := a.tmps) (fun W2 k1 k2 => by
      obtain ⟨v, e1, e2⟩ := results_run (P := P) k1 h5 hres h2
      exact ⟨v, e1, v, _, σ', ρ', rfl, h3, k1, k2, e2⟩) a.defers W' h7 h8 h4 h6
    cases e
    case normal => exact key
    case ret => exact key
    all_goals exact h1.elim
end
end
end Go.Proofs.YtjoakhpdajlhiaaGreatDoor.V2
namespace Go.Proofs.YtjoakhpdajlhiaaGreatDoor.V2
open Go
noncomputable section
structure Ent where
  nt : Nat
  code : ACode
  res : List ARes
def isRet : AX → Bool
  | .exit _ => false
  | _ => true
def Jy (A : Ar) (Γ : Gam) (fuel : Nat) (x : Ent) (args : List AV) (σ : AH) : Out :=
  match run A Γ σ.next fuel x.code (Me args 0 .leaf) σ with
  | .bad => bad σ
  | .ok e env σ' => match J1 A env σ' x.res with
    | (ok, vs) => (ok && isRet e && Nat.ble args.length x.nt, retV vs, σ')
def Gam.ext (Γ0 : Gam) (l : Nat) (h : List AV → AH → Out) : Gam := .mk Γ0.fn (fun b args σ => bif Nat.beq b l then h args σ else Γ0.yl b args σ) (fun _ _ => .no) fun _ _ _ => none
structure Sp where
  is : FuncId → Bool
  fn : Gam → FuncId → List AV → AH → Out
  dm : Gam → FuncId → List AV → AH → Option (List (AV × AH))
def Gam.grow (A : Ar) (fuel : Nat) (tab : T Ent) (S : Sp) (Γ0 : Gam) (n : Nat) : Gam :=
  Nat.rec (motive := fun _ => Gam → Gam) (fun Γ0 => Γ0) (fun _ ih Γ0 => .mk (fun f args σ => match tab.get f with
    | none => bif S.is f then S.fn (ih Γ0) f args σ else Γ0.fn f args σ
    | some x => Jy A (ih Γ0) fuel x args σ) Γ0.yl (fun l h => ih (Γ0.ext l h)) fun f args σ => S.dm (ih Γ0) f args σ) n Γ0
structure Sp.Ok (P : Program) (G : Nat) (pu : FuncId → Bool) (S : Sp) : Prop where
  fn : ∀ Γ Y, GamOk P G Γ Y → Iw Γ pu → FnOk P G (S.fn Γ) Y
  dm : ∀ Γ Y, GamOk P G Γ Y → Iw Γ pu → DmOk P G (S.dm Γ) Y
  pu : ∀ f, pu f = true → S.is f = false
def Sp.none : Sp := ⟨fun _ => false, fun _ _ _ σ => bad σ, fun _ _ _ _ => .none⟩
theorem Sp.none_ok {P : Program} {G : Nat} {pu : FuncId → Bool} : Sp.none.Ok P G pu := ⟨fun _ _ _ _ => (fun f args σ h => by cases h), fun _ _ _ _ => DmOk.none_, fun _ _ => rfl⟩
def TabOk (P : Program) (G : Nat) (pu : FuncId → Bool) (tab : T Ent) : Prop := ∀ f x, tab.get f = some x → ∃ fn c, P.funcs[f]? = some fn ∧ fn.body = some c ∧ (fn.name == "runtime.NumGoroutine") = false ∧ fn.ntmps = x.nt ∧ A9 P G fn.ntmps pu c = some x.code ∧ H0 P fn.results.toList = some x.res ∧ Nat.ble fn.ntmps 1048576 = true
theorem FnOk.weak {P : Program} {G : Nat} {f : FuncId → List AV → AH → Out} {Y : List Yl} {z : Yl} (h : FnOk P G f Y) : FnOk P G f (z :: Y) := fun g args σ hok =>
  ⟨(h g args σ hok).1, fun ρ W vs hY => (h g args σ hok).2 ρ W vs fun y hy => hY y (List.mem_cons_of_mem _ hy)⟩
theorem YlOk.weak {P : Program} {G l : Nat} {h : List AV → AH → Out} {Y : List Yl} {z : Yl} (hk : YlOk P G l h Y) : YlOk P G l h (z :: Y) := fun args σ hok ρ W vs c d hY => hk args σ hok ρ W vs c d fun y hy => hY y (List.mem_cons_of_mem _ hy)
theorem GamOk.ext {P : Program} {G : Nat} {Γ0 : Gam} {Y : List Yl} {z : Yl} {h : List AV → AH → Out} (h0 : GamOk P G Γ0 Y) (hk : YlOk P G z.l h (z :: Y)) : GamOk P G (Γ0.ext z.l h) (z :: Y) := by
  refine .mk h0.fn.weak (fun l => ?_) (fun _ _ _ => .no) .none_
  cases hb : Nat.beq l z.l with
  | true =>
    have hl := Nat.eq_of_beq_eq_true hb
    have e : (fun args σ => bif Nat.beq l z.l then h args σ else Γ0.yl l args σ) = h := by rw [hb]; rfl
    rw [← hb, e, hl]; exact hk
  | false =>
    have e : (fun args σ => bif Nat.beq l z.l then h args σ else Γ0.yl l args σ) = Γ0.yl l := by rw [hb]; rfl
    rw [← hb, e]; exact (h0.yl l).weak
theorem grow_ok {P : Program} {G fuel : Nat} {pu : FuncId → Bool} {tab : T Ent} {S : Sp} (hm : P.follows .mixedOrders = true) (ht : TabOk P G pu tab) (hS : S.Ok P G pu) (hpt : ∀ f, pu f = true → tab.get f = none) (n : Nat) :
    ∀ {Γ0 : Gam} {Y : List Yl}, GamOk P G Γ0 Y → Iw Γ0 pu → GamOk P G (Gam.grow std fuel tab S Γ0 n) Y ∧ Iw (Gam.grow std fuel tab S Γ0 n) pu := by
  induction n with
  | zero => intro Γ0 Y h0 hpu; exact ⟨h0, hpu⟩
  | succ n ih =>
    intro Γ0 Y h0 hpu
    refine ⟨.mk ?_ h0.yl (fun z h hk => (ih (h0.ext hk) hpu).1) (hS.dm _ _ (ih h0 hpu).1 (ih h0 hpu).2), fun f hf args σ σ' => ?_⟩
    · intro f args σ hok
      have ih := ih h0 hpu
      have ih1 : GamOk P G (Gam.grow std fuel tab S Γ0 n) Y := ih.1
      have ih2 : Iw (Gam.grow std fuel tab S Γ0 n) pu := ih.2
      change ((match tab.get f with | none => bif S.is f then S.fn (Gam.grow std fuel tab S Γ0 n) f args σ else Γ0.fn f args σ | some x => Jy std (Gam.grow std fuel tab S Γ0 n) fuel x args σ) : Out).1 = true at hok
      show _ ∧ ∀ ρ W vs, YInv Y ρ σ W → _ → HR ρ σ W → VRs ρ args vs → Calls P f vs.toArray W fun e W' => ∃ v ρ', e = .returned v ∧ HR ρ' ((match tab.get f with | none => bif S.is f then S.fn (Gam.grow std fuel tab S Γ0 n) f args σ else Γ0.fn f args σ | some x => Jy std (Gam.grow std fuel tab S Γ0 n) fuel x args σ) : Out).2.2 W' ∧ Stp σ.next ρ σ W ρ' ((match tab.get f with | none => bif S.is f then S.fn (Gam.grow std fuel tab S Γ0 n) f args σ else Γ0.fn f args σ | some x => Jy std (Gam.grow std fuel tab S Γ0 n) fuel x args σ) : Out).2.2 W' ∧ VR ρ' ((match tab.get f with | none => bif S.is f then S.fn (Gam.grow std fuel tab S Γ0 n) f args σ else Γ0.fn f args σ | some x => Jy std (Gam.grow std fuel tab S Γ0 n) fuel x args σ) : Out).2.1 v
      cases hx : tab.get f with
      | none =>
        rw [hx] at hok
        dsimp only at hok ⊢
        cases hs : S.is f with
        | false => rw [hs] at hok; exact h0.fn f args σ hok
        | true => rw [hs] at hok; exact hS.fn _ _ ih1 ih2 f args σ hok
      | some x =>
        rw [hx] at hok
        dsimp only at hok ⊢
        obtain ⟨fn, c, e1, e2, e3, e4, e5, e6, e7⟩ := ht f x hx
        refine ⟨⟨fn, e1, by rw [e2]; rfl, e3⟩, fun ρ W vs hY hG hr hvs => ?_⟩
        unfold Jy at hok ⊢
        cases hrun : run std (Gam.grow std fuel tab S Γ0 n) σ.next fuel x.code (Me args 0 .leaf) σ with
        | bad => rw [hrun] at hok; cases hok
        | ok ex env σ' =>
          rw [hrun] at hok
          dsimp only at hok ⊢
          cases hres : J1 std env σ' x.res with
          | mk ok vs' =>
            rw [hres] at hok
            dsimp only at hok ⊢
            simp only [Bool.and_eq_true] at hok
            obtain ⟨⟨k1, k2⟩, k3⟩ := hok
            refine (call_sound (K := fun av σ1 => av = retV vs' ∧ σ1 = σ') hm ih1 ih2 e1 e2 e5 e6 e7 (by rw [e4]; exact k3) (My x.code _ _ _ _ _ _ hrun ⟨?_, by rw [hres]; exact k1, by rw [hres], rfl⟩) hY hG hr hvs).mono ?_
            · cases ex with
              | normal => trivial
              | ret => trivial
              | exit i => cases k2
            · rintro e' W' ⟨v, av, σ1, ρ', h1, ⟨rfl, rfl⟩, h3, h4, h5⟩
              exact ⟨v, ρ', h1, h3, h4, h5⟩
    · have e : ∀ σ, (Gam.grow std fuel tab S Γ0 (n + 1)) f args σ = (match tab.get f with | none => bif S.is f then S.fn (Gam.grow std fuel tab S Γ0 n) f args σ else Γ0.fn f args σ | some x => Jy std (Gam.grow std fuel tab S Γ0 n) fuel x args σ) := fun _ => rfl
      rw [e, e, hpt f hf, hS.pu f hf]
      exact hpu f hf args σ σ'
end
end Go.Proofs.YtjoakhpdajlhiaaGreatDoor.V2
namespace Go.Proofs.YtjoakhpdajlhiaaGreatDoor.V2
open Go
def Dz : Nat → Nat → List UInt8
  | 0, _ => []
  | n + 1, c => UInt8.ofNat (c % 256) :: Dz n (c / 256)
noncomputable def fF (m : Nat) (k : Nat → Nat) : Nat := Nat.rec (k 0) (fun p _ => k (Nat.succ p)) m
theorem fF_eq (m : Nat) (k : Nat → Nat) : fF m k = k m := by cases m <;> rfl
noncomputable def blp (ss : List Nat) (c : Nat) : Nat → Nat := List.rec (motive := fun _ => Nat → Nat) (fun n => n) (fun s _ ih n => Bool.rec (fF (Nat.add n s) ih) (ih n) (Nat.beq (Nat.shiftRight c (Nat.shiftLeft (Nat.add n s) 3)) 0)) ss
theorem blp_cons (s : Nat) (ss : List Nat) (c n : Nat) : blp (s :: ss) c n = bif Nat.beq (c >>> (8 * (n + s))) 0 then blp ss c n else blp ss c (n + s) := by
  have e : Nat.shiftLeft (Nat.add n s) 3 = 8 * (n + s) := by
    show (n + s) <<< 3 = _
    rw [Nat.shiftLeft_eq]; omega
  show (Bool.rec (fF (Nat.add n s) (blp ss c)) (blp ss c n) (Nat.beq (Nat.shiftRight c (Nat.shiftLeft (Nat.add n s) 3)) 0) : Nat) = _
  rw [fF_eq, e]
  show (Bool.rec (blp ss c (n + s)) (blp ss c n) (Nat.beq (c >>> (8 * (n + s))) 0) : Nat) = _
  cases Nat.beq (c >>> (8 * (n + s))) 0 <;> rfl
def pows : Nat → List Nat
  | 0 => []
  | k + 1 => 2 ^ k :: pows k
theorem sh_zero (c m : Nat) : Nat.beq (c >>> (8 * m)) 0 = true ↔ c = 0 ∨ Nat.log2 c / 8 < m := by
  rw [Nat.beq_eq, Nat.shiftRight_eq_div_pow, Nat.div_eq_zero_iff]
  by_cases hc : c = 0
  · simp [hc, Nat.pow_pos]
  · have h := Nat.le_log2 hc (k := 8 * m)
    have hp : 2 ^ (8 * m) ≠ 0 := Nat.ne_of_gt (Nat.pow_pos (by omega))
    constructor
    · rintro (h0 | h0)
      · exact absurd h0 hp
      · refine .inr ?_
        rcases Nat.lt_or_ge (Nat.log2 c / 8) m with h1 | h1
        · exact h1
        · have := h.1 (by omega); omega
    · rintro (h0 | h0)
      · exact absurd h0 hc
      · refine .inr ?_
        rcases Nat.lt_or_ge c (2 ^ (8 * m)) with h1 | h1
        · exact h1
        · have := h.2 h1; omega
theorem blp_eq (c : Nat) : ∀ (k n : Nat), n ≤ Nat.log2 c / 8 → Nat.log2 c / 8 < n + 2 ^ k → blp (pows k) c n = Nat.log2 c / 8
  | 0, n, h1, h2 => by
    show n = _
    omega
  | k + 1, n, h1, h2 => by
    rw [pows, blp_cons]
    have hz := sh_zero c (n + 2 ^ k)
    rw [Nat.pow_succ] at h2
    cases hb : Nat.beq (c >>> (8 * (n + 2 ^ k))) 0 with
    | true =>
      rw [cond_true]
      rcases hz.1 hb with h | h
      · subst h
        have e0 : Nat.log2 0 / 8 = 0 := rfl
        rw [e0] at h1 h2
        exact blp_eq 0 k n (by rw [e0]; omega) (by rw [e0]; have : 0 < 2 ^ k := Nat.pow_pos (by omega); omega)
      · exact blp_eq c k n h1 h
    | false =>
      rw [cond_false]
      refine blp_eq c k _ ?_ (by omega)
      rcases Nat.lt_or_ge (Nat.log2 c / 8) (n + 2 ^ k) with h | h
      · have := hz.2 (.inr h); rw [hb] at this; cases this
      · exact h
noncomputable def bl (c : Nat) : Nat := Bool.rec (Bool.rec (Nat.shiftRight (Nat.log2 c) 3) (blp [524288, 262144, 131072, 65536, 32768, 16384, 8192, 4096, 2048, 1024, 512, 256, 128, 64, 32, 16, 8, 4, 2, 1] c 0) (Nat.beq (Nat.shiftRight c 8388608) 0)) (blp [8, 4, 2, 1] c 0) (Nat.beq (Nat.shiftRight c 128) 0)
noncomputable def unp (c : Nat) : List UInt8 := Dz (bl c) c
def pack : List UInt8 → Nat
  | [] => 1
  | b :: l => b.toNat + 256 * pack l
theorem Cg : ∀ (n c : Nat), (Dz n c).length = n
  | 0, _ => rfl
  | n + 1, c => by simp [Dz, Cg n]
theorem Gi : ∀ (n c i : Nat), i < n → (Dz n c)[i]? = some (UInt8.ofNat (c / 256 ^ i % 256))
  | 0, _, _, h => by omega
  | n + 1, c, 0, _ => by simp [Dz]
  | n + 1, c, i + 1, h => by
    simp only [Dz, List.getElem?_cons_succ]
    rw [Gi n (c / 256) i (by omega), Nat.div_div_eq_div_mul, Nat.pow_succ, Nat.mul_comm 256]
theorem bl_eq (c : Nat) : bl c = Nat.log2 c / 8 := by
  have e4 : blp [8, 4, 2, 1] c 0 = blp (pows 4) c 0 := rfl
  have e20 : blp [524288, 262144, 131072, 65536, 32768, 16384, 8192, 4096, 2048, 1024, 512, 256, 128, 64, 32, 16, 8, 4, 2, 1] c 0 = blp (pows 20) c 0 := rfl
  unfold bl
  rw [e4, e20]
  cases h1 : Nat.beq (Nat.shiftRight c 128) 0
  · cases h2 : Nat.beq (Nat.shiftRight c 8388608) 0
    · exact Nat.shiftRight_eq_div_pow _ 3
    · refine blp_eq c 20 0 (Nat.zero_le _) ?_
      rcases (sh_zero c 1048576).1 h2 with h | h
      · subst h; decide
      · exact Nat.lt_of_lt_of_le h (by decide)
  · refine blp_eq c 4 0 (Nat.zero_le _) ?_
    rcases (sh_zero c 16).1 h1 with h | h
    · subst h; decide
    · exact Nat.lt_of_lt_of_le h (by decide)
theorem bl_of {n v : Nat} (h : v < 256 ^ n) : bl (256 ^ n + v) = n := by
  have h8 : (256 : Nat) ^ n = 2 ^ (8 * n) := by rw [show (256 : Nat) = 2 ^ 8 by rfl, ← Nat.pow_mul]
  have hp : 0 < 2 ^ (8 * n) := Nat.pow_pos (by omega)
  have : Nat.log2 (256 ^ n + v) = 8 * n := by
    rw [h8] at h ⊢
    rw [Nat.log2_eq_iff (by omega)]
    rw [Nat.pow_succ]; omega
  rw [bl_eq, this]; omega
theorem pack_eq : ∀ l : List UInt8, ∃ v, v < 256 ^ l.length ∧ pack l = 256 ^ l.length + v
  | [] => ⟨0, by simp, rfl⟩
  | b :: l => by
    obtain ⟨v, h1, h2⟩ := pack_eq l
    have hb : b.toNat < 256 := b.toNat_lt
    refine ⟨b.toNat + 256 * v, ?_, ?_⟩
    · rw [List.length_cons, Nat.pow_succ]; omega
    · rw [pack, h2, List.length_cons, Nat.pow_succ]; omega
theorem Ci (l : List UInt8) : bl (pack l) = l.length := by
  obtain ⟨v, h1, h2⟩ := pack_eq l
  rw [h2, bl_of h1]
theorem unpN_pack : ∀ l : List UInt8, Dz l.length (pack l) = l
  | [] => rfl
  | b :: l => by
    have hb : b.toNat < 256 := b.toNat_lt
    simp only [List.length_cons, Dz, pack]
    rw [show (b.toNat + 256 * pack l) % 256 = b.toNat by omega, show (b.toNat + 256 * pack l) / 256 = pack l by omega, unpN_pack l]
    simp
theorem As (l : List UInt8) : unp (pack l) = l := by unfold unp; rw [Ci, unpN_pack]
theorem B8 (c : Nat) : (unp c).length = bl c := Cg _ _
def bat (c i : Nat) : Nat := Nat.land (Nat.shiftRight c (Nat.shiftLeft i 3)) 255
theorem sh3 (i : Nat) : Nat.shiftLeft i 3 = 8 * i := by
  show i <<< 3 = _; rw [Nat.shiftLeft_eq]; omega
theorem p256 (n : Nat) : (2 : Nat) ^ (8 * n) = 256 ^ n := by rw [show (256 : Nat) = 2 ^ 8 by rfl, ← Nat.pow_mul]
theorem shr8 (c i : Nat) : Nat.shiftRight c (Nat.shiftLeft i 3) = c / 256 ^ i := by
  rw [sh3]; show c >>> (8 * i) = _; rw [Nat.shiftRight_eq_div_pow, p256]
theorem bat_eq (c i : Nat) : bat c i = c / 256 ^ i % 256 := by
  unfold bat; rw [shr8]
  show (c / 256 ^ i) &&& 255 = _
  exact Nat.and_two_pow_sub_one_eq_mod _ 8
theorem bat_lt (c i : Nat) : bat c i < 256 := by rw [bat_eq]; exact Nat.mod_lt _ (by omega)
theorem unp_at {c i : Nat} (h : i < bl c) : (unp c)[i]? = some (UInt8.ofNat (bat c i)) := by
  unfold unp; rw [Gi _ _ _ h, bat_eq]
def low (c n : Nat) : Nat := Nat.mod c (Nat.shiftLeft 1 (Nat.shiftLeft n 3))
def Bh (n : Nat) : Nat := Nat.shiftLeft 1 (Nat.shiftLeft n 3)
theorem Ie (n : Nat) : Bh n = 256 ^ n := by
  unfold Bh; rw [sh3]; show 1 <<< (8 * n) = _; rw [Nat.shiftLeft_eq, p256]; omega
theorem low_eq (c n : Nat) : low c n = c % 256 ^ n := by
  have h := Ie n; unfold Bh at h; unfold low; rw [h]; rfl
noncomputable def Au (c o n : Nat) : Nat := Nat.add (Bh n) (low (Nat.shiftRight c (Nat.shiftLeft o 3)) n)
theorem ext_unp {n : Nat} {l : List UInt8} {c : Nat} (hl : l.length = n) (h : ∀ i, i < n → l[i]? = some (UInt8.ofNat (c / 256 ^ i % 256))) : Dz n c = l := by
  apply List.ext_getElem?
  intro i
  by_cases hi : i < n
  · rw [Gi _ _ _ hi, h i hi]
  · rw [List.getElem?_eq_none (by rw [Cg]; omega), List.getElem?_eq_none (by omega)]
theorem Ho (x n i : Nat) (h : i < n) : x % 256 ^ n / 256 ^ i % 256 = x / 256 ^ i % 256 := by
  obtain ⟨k, rfl⟩ := Nat.exists_eq_add_of_lt h
  rw [show i + k + 1 = i + (k + 1) by omega, Nat.pow_add, Nat.mod_mul_right_div_self, Nat.pow_succ, Nat.mul_comm, Nat.mod_mul_right_mod]
theorem add_top (x n i : Nat) (h : i < n) : (256 ^ n + x) / 256 ^ i % 256 = x / 256 ^ i % 256 := by
  obtain ⟨k, rfl⟩ := Nat.exists_eq_add_of_lt h
  rw [show i + k + 1 = i + (k + 1) by omega, Nat.pow_add, Nat.mul_add_div (Nat.pow_pos (by omega)), Nat.pow_succ, Nat.mul_comm, Nat.mul_add_mod]
theorem Iq {c o n : Nat} (h : o + n ≤ bl c) : unp (Au c o n) = ((unp c).drop o).take n ∧ bl (Au c o n) = n := by
  have e : Au c o n = 256 ^ n + (c / 256 ^ o) % 256 ^ n := by
    unfold Au; rw [Ie, low_eq, shr8]; rfl
  have hb : bl (Au c o n) = n := by rw [e]; exact bl_of (Nat.mod_lt _ (Nat.pow_pos (by omega)))
  refine ⟨?_, hb⟩
  unfold unp; rw [hb]
  refine ext_unp ?_ fun i hi => ?_
  · rw [List.length_take, List.length_drop, Cg]; omega
  · rw [List.getElem?_take_of_lt hi, List.getElem?_drop, Gi _ _ _ (by omega), e, add_top _ _ _ hi, Ho _ _ _ hi, Nat.div_div_eq_div_mul, ← Nat.pow_add]
noncomputable def Be (a b : Nat) : Nat := Nat.add (low a (bl a)) (Nat.shiftLeft (Nat.add (Bh (bl b)) (low b (bl b))) (Nat.shiftLeft (bl a) 3))
theorem bapp_eq (a b : Nat) : Be a b = 256 ^ (bl a + bl b) + (a % 256 ^ bl a + 256 ^ bl a * (b % 256 ^ bl b)) := by
  unfold Be
  rw [low_eq, low_eq, Ie, sh3]
  show a % 256 ^ bl a + (256 ^ bl b + b % 256 ^ bl b) <<< (8 * bl a) = _
  rw [Nat.shiftLeft_eq, p256, Nat.pow_add, Nat.add_mul, Nat.mul_comm (256 ^ bl b), Nat.mul_comm (b % _)]
  omega
theorem bapp_lt (a b : Nat) : a % 256 ^ bl a + 256 ^ bl a * (b % 256 ^ bl b) < 256 ^ (bl a + bl b) := by
  have h1 : a % 256 ^ bl a < 256 ^ bl a := Nat.mod_lt _ (Nat.pow_pos (by omega))
  have h2 : b % 256 ^ bl b + 1 ≤ 256 ^ bl b := Nat.mod_lt _ (Nat.pow_pos (by omega))
  have h3 := Nat.mul_le_mul_left (256 ^ bl a) h2
  rw [Nat.mul_add, Nat.mul_one] at h3
  rw [Nat.pow_add]; omega
theorem bl_bapp (a b : Nat) : bl (Be a b) = bl a + bl b := by rw [bapp_eq, bl_of (bapp_lt a b)]
theorem bapp_unp (a b : Nat) : unp (Be a b) = unp a ++ unp b := by
  unfold unp
  rw [bl_bapp]
  refine ext_unp (by simp [Cg]) fun i hi => ?_
  rw [bapp_eq, add_top _ _ _ hi]
  by_cases h : i < bl a
  · rw [List.getElem?_append_left (by rw [Cg]; exact h), Gi _ _ _ h]
    obtain ⟨k, hk⟩ := Nat.exists_eq_add_of_lt h
    have e : a % 256 ^ bl a + 256 ^ bl a * (b % 256 ^ bl b) = a % 256 ^ bl a + 256 ^ i * (256 * (256 ^ k * (b % 256 ^ bl b))) := by
      conv => lhs; rhs; lhs; rw [hk, show i + k + 1 = i + (1 + k) by omega, Nat.pow_add, Nat.pow_add]
      simp [Nat.mul_assoc]
    rw [e, Nat.add_mul_div_left _ _ (Nat.pow_pos (by omega)), Nat.add_mul_mod_self_left, Ho _ _ _ h]
  · rw [List.getElem?_append_right (by rw [Cg]; omega), Cg, Gi _ _ _ (by omega)]
    obtain ⟨k, hk⟩ : ∃ k, i = bl a + k := ⟨i - bl a, by omega⟩
    subst hk
    rw [Nat.add_sub_cancel_left, Nat.pow_add, ← Nat.div_div_eq_div_mul, Nat.add_mul_div_left _ _ (Nat.pow_pos (by omega)), Nat.div_eq_of_lt (Nat.mod_lt _ (Nat.pow_pos (by omega))), Nat.zero_add, Ho _ _ _ (by omega)]
def bset (c i x : Nat) : Nat := Nat.sub (Nat.add c (Nat.shiftLeft x (Nat.shiftLeft i 3))) (Nat.shiftLeft (bat c i) (Nat.shiftLeft i 3))
noncomputable def bok (c : Nat) : Bool := Nat.beq (Nat.shiftRight c (Nat.shiftLeft (bl c) 3)) 1
theorem bok_eq {c : Nat} (h : bok c = true) : c = 256 ^ bl c + c % 256 ^ bl c := by
  unfold bok at h; rw [shr8] at h
  have h := Nat.eq_of_beq_eq_true h
  have := Nat.div_add_mod c (256 ^ bl c)
  rw [h, Nat.mul_one] at this; exact this.symm
theorem unpN_inj : ∀ (n a b : Nat), Dz n a = Dz n b → a % 256 ^ n = b % 256 ^ n
  | 0, a, b, _ => by simp [Nat.mod_one]
  | n + 1, a, b, h => by
    simp only [Dz, List.cons.injEq] at h
    have h1 : a % 256 = b % 256 := by
      have := congrArg UInt8.toNat h.1
      simpa [UInt8.toNat_ofNat'] using this
    have h2 := unpN_inj n _ _ h.2
    rw [Nat.pow_succ, Nat.mul_comm, Nat.mod_mul, Nat.mod_mul, h1, h2]
theorem Mv {a b : Nat} (ha : bok a = true) (hb : bok b = true) (h : unp a = unp b) : a = b := by
  have hl : bl a = bl b := by rw [← B8, ← B8, h]
  have h' : Dz (bl a) a = Dz (bl a) b := by
    have := h; unfold unp at this; rw [← hl] at this; exact this
  have := unpN_inj _ _ _ h'
  rw [bok_eq ha, bok_eq hb, ← hl, this]
theorem Km (l : List UInt8) : bok (pack l) = true := by
  obtain ⟨v, h1, h2⟩ := pack_eq l
  unfold bok; rw [shr8, Ci, h2]
  rw [Nat.add_div_left v (Nat.pow_pos (by omega)), Nat.div_eq_of_lt h1]; rfl
end Go.Proofs.YtjoakhpdajlhiaaGreatDoor.V2
namespace Go.Proofs.YtjoakhpdajlhiaaGreatDoor.V2
open Go
noncomputable section
namespace T
variable {α β : Type}
def map (f : α → β) : T α → T β
  | leaf => leaf
  | node v l r => node (v.map f) (map f l) (map f r)
theorem map_vl (f : α → β) (t : T α) : (t.map f).vl = t.vl.map f := by cases t <;> rfl
theorem map_le (f : α → β) (t : T α) : (t.map f).le = t.le.map f := by cases t <;> rfl
theorem map_ri (f : α → β) (t : T α) : (t.map f).ri = t.ri.map f := by cases t <;> rfl
theorem map_get (f : α → β) : ∀ (t : T α) (n : Nat), (t.map f).get n = (t.get n).map f := by
  intro t
  induction t with
  | leaf => intro n; rw [map, get_leaf, get_leaf]; rfl
  | node v l r il ir =>
    intro n
    rw [get_eq, get_eq (node v l r), map_vl, map_le, map_ri]
    show (bif Nat.beq n 0 then v.map f else bif Nat.beq (n % 2) 1 then (l.map f).get (n / 2) else (r.map f).get (n / 2 - 1)) = (bif Nat.beq n 0 then v else bif Nat.beq (n % 2) 1 then l.get (n / 2) else r.get (n / 2 - 1)).map f
    rw [il, ir]
    cases Nat.beq n 0 <;> cases Nat.beq (n % 2) 1 <;> rfl
theorem map_set (f : α → β) : ∀ (m : Nat) (t : T α) (n : Nat) (x : α), (set m t n x).map f = set m (t.map f) n (f x) := by
  intro m
  induction m with
  | zero => intro t n x; show map f (node (some x) t.le t.ri) = node (some (f x)) (t.map f).le (t.map f).ri; rw [map_le, map_ri]; rfl
  | succ m ih =>
    intro t n x
    rw [set_succ, set_succ, map_vl, map_le, map_ri, ← ih, ← ih]
    cases Nat.beq n 0 <;> cases Nat.beq (n % 2) 1 <;> rfl
theorem map_put (f : α → β) (t : T α) (n : Nat) (x : α) : (t.put n x).map f = (t.map f).put n (f x) := map_set f 20 t n x
end T
inductive Nl where
  | top
  | ptr
  | sl
  | map
  | fn
  | ifc
inductive FV where
  | n (k : IntKind) (m : Nat)
  | z (k : IntKind) (m : Nat)
  | b (t : Bool)
  | s (c : Nat)
  | p (b o : Nat)
  | sl (b o n k : Nat) (e : Bool) (z : Nat)
  | m (b : Nat)
  | y (b : Nat)
  | fn (f : Fn) (first cap : List FV)
  | ifc (t : TypeId) (v : FV)
  | agg (l : List FV)
  | bs (c : Nat)
  | ints (k : IntKind) (l : List Int)
  | tup (l : List FV)
  | o (j : Nl)
instance : Inhabited FV := ⟨.o .top⟩
def Nl.av : Nl → AV
  | .top => .top
  | .ptr => .nilptr
  | .sl => .nilsl
  | .map => .nilmap
  | .fn => .nilfn
  | .ifc => .nilifc
def B4 (c : Nat) : List Int := (unp c).map fun b => (b.toNat : Int)
mutual
def αV : FV → AV
  | .n k m => .int k (Int.ofNat m)
  | .z k m => .int k (Int.negSucc m)
  | .b t => .bool t
  | .s c => .str (unp c)
  | .p b o => .ptr b o
  | .sl b o n k e z => .sl b o n k e z
  | .m b => .map b
  | .y b => .yld b
  | .fn f x y => .fn f (αL x) (αL y)
  | .ifc t v => .ifc t (αV v)
  | .agg l => .agg (αL l)
  | .bs c => .ints .u8 (B4 c)
  | .ints k l => .ints k l
  | .tup l => .tup (αL l)
  | .o j => j.av
def αL : List FV → List AV
  | [] => []
  | v :: l => αV v :: αL l
end
theorem αL_map : ∀ l, αL l = l.map αV
  | [] => rfl
  | v :: l => by rw [αL, αL_map l]; rfl
def G3 : List Int → Option Nat
  | [] => some 1
  | x :: l => match x with
    | .ofNat m => bif Nat.blt m 256 then (G3 l).map fun c => m + 256 * c else none
    | .negSucc _ => none
theorem packI_spec : ∀ (l : List Int) (c : Nat), G3 l = some c → ∃ bs : List UInt8, c = pack bs ∧ l = bs.map fun b => (b.toNat : Int)
  | [], c, h => by cases h; exact ⟨[], rfl, rfl⟩
  | x :: l, c, h => by
    cases x with
    | negSucc m => cases h
    | ofNat m =>
      simp only [G3] at h
      cases hm : Nat.blt m 256 <;> rw [hm] at h
      · cases h
      · rw [Nat.blt_eq] at hm
        simp only [cond_true, Option.map_eq_some_iff] at h
        obtain ⟨c', h1, rfl⟩ := h
        obtain ⟨bs, rfl, rfl⟩ := packI_spec l c' h1
        have : (UInt8.ofNat m).toNat = m := by simp [UInt8.toNat_ofNat']; omega
        exact ⟨UInt8.ofNat m :: bs, by simp [pack, this], by simp [this]⟩
theorem packI_unpI {l : List Int} {c : Nat} (h : G3 l = some c) : B4 c = l := by
  obtain ⟨bs, rfl, rfl⟩ := packI_spec l c h
  unfold B4; rw [As]
mutual
def βV : AV → FV
  | .top => .o .top
  | .bool t => .b t
  | .int k n => match n with
    | .ofNat m => .n k m
    | .negSucc m => .z k m
  | .str l => .s (pack l)
  | .ptr b o => .p b o
  | .nilptr => .o .ptr
  | .sl b o n k e z => .sl b o n k e z
  | .nilsl => .o .sl
  | .map b => .m b
  | .nilmap => .o .map
  | .yld b => .y b
  | .fn f x y => .fn f (βL x) (βL y)
  | .nilfn => .o .fn
  | .ifc t v => .ifc t (βV v)
  | .nilifc => .o .ifc
  | .agg l => .agg (βL l)
  | .ints k l => match k with
    | .u8 => match G3 l with
      | some c => .bs c
      | none => .ints .u8 l
    | k => .ints k l
  | .tup l => .tup (βL l)
def βL : List AV → List FV
  | [] => []
  | v :: l => βV v :: βL l
end
mutual
theorem αβ : ∀ v : AV, αV (βV v) = v
  | .top => rfl
  | .bool t => rfl
  | .int k n => by cases n <;> rfl
  | .str l => by rw [βV, αV, As]
  | .ptr b o => rfl
  | .nilptr => rfl
  | .sl _ _ _ _ _ _ => rfl
  | .nilsl => rfl
  | .map b => rfl
  | .nilmap => rfl
  | .yld b => rfl
  | .fn f x y => by rw [βV, αV, αβL x, αβL y]
  | .nilfn => rfl
  | .ifc t v => by rw [βV, αV, αβ v]
  | .nilifc => rfl
  | .agg l => by rw [βV, αV, αβL l]
  | .ints k l => by
    cases k
    case u8 =>
      simp only [βV]
      cases h : G3 l with
      | none => rfl
      | some c => simp only [αV]; rw [packI_unpI h]
    all_goals rfl
  | .tup l => by rw [βV, αV, αβL l]
theorem αβL : ∀ l : List AV, αL (βL l) = l
  | [] => rfl
  | v :: l => by rw [βL, αL, αβ v, αβL l]
end
inductive FObj where
  | dead
  | cells (l : List FV) (e : TypeId) (t : Tl)
  | bs (c : Nat) (e : TypeId) (t : Tl)
  | ints (k : IntKind) (l : List Int) (e : TypeId) (t : Tl)
  | map (l : List (FV × FV))
  | hid
def αP : List (FV × FV) → List (AV × AV)
  | [] => []
  | p :: l => (αV p.1, αV p.2) :: αP l
theorem αP_map : ∀ l, αP l = l.map fun p => (αV p.1, αV p.2)
  | [] => rfl
  | v :: l => by rw [αP, αP_map l]; rfl
def αO : FObj → AObj
  | .dead => .dead
  | .cells l e t => .cells (αL l) e t
  | .bs c e t => .ints .u8 (B4 c) e t
  | .ints k l e t => .ints k l e t
  | .map l => .map (αP l)
  | .hid => .hid
def βP : List (AV × AV) → List (FV × FV)
  | [] => []
  | p :: l => (βV p.1, βV p.2) :: βP l
theorem αβP : ∀ l, αP (βP l) = l
  | [] => rfl
  | p :: l => by rw [βP, αP, αβ, αβ, αβP l]
def βO : AObj → FObj
  | .dead => .dead
  | .cells l e t => .cells (βL l) e t
  | .ints k l e t => match k with
    | .u8 => match G3 l with
      | some c => .bs c e t
      | none => .ints .u8 l e t
    | k => .ints k l e t
  | .map l => .map (βP l)
  | .hid => .hid
theorem αβO (o : AObj) : αO (βO o) = o := by
  cases o with
  | dead => rfl
  | cells l e t => simp only [βO, αO, αβL]
  | ints k l e t =>
    cases k
    case u8 =>
      simp only [βO]
      cases h : G3 l with
      | none => rfl
      | some c => simp only [αO]; rw [packI_unpI h]
    all_goals rfl
  | map l => simp only [βO, αO, αβP]
  | hid => rfl
structure FH where
  next : Nat
  mem : T FObj
def αH (σ : FH) : AH := ⟨σ.next, σ.mem.map αO⟩
theorem αH_get (σ : FH) (b : Nat) : (αH σ).get b = (σ.mem.get b).map αO := T.map_get αO σ.mem b
theorem αH_put (σ : FH) (b : Nat) (o : FObj) : (αH σ).put b (αO o) = αH ⟨σ.next, σ.mem.put b o⟩ := by
  unfold AH.put αH; simp only [T.map_put]
theorem αH_new (σ : FH) (o : FObj) : (αH σ).new (αO o) = αH ⟨σ.next + 1, σ.mem.put σ.next o⟩ := by
  unfold AH.new αH; simp only [T.map_put]
inductive FR where
  | bad
  | ok (v : FV) (σ : FH)
abbrev KV := FV → FH → FR
def Sm (r : FR) (k : KV) (o : Out) : Prop := r ≠ .bad → ∃ v σ', o = (true, αV v, αH σ') ∧ r = k v σ'
def Sv (r : FR) (c : FV → FR) (o : Bool × AV) : Prop := r ≠ .bad → ∃ v, o = (true, αV v) ∧ r = c v
theorem Sv.bad {c : FV → FR} {o : Bool × AV} : Sv .bad c o := fun h => absurd rfl h
theorem Sm.bad {k : KV} {o : Out} : Sm .bad k o := fun h => absurd rfl h
theorem Sv.of {c : FV → FR} {o : Bool × AV} (v : FV) (h : o = (true, αV v)) : Sv (c v) c o := fun _ => ⟨v, h, rfl⟩
theorem Sm.ofv {r : FR} {k : KV} {o : Bool × AV} {σ : FH} (h : Sv r (fun v => k v σ) o) : Sm r k (o.1, o.2, αH σ) := fun hr => by
  obtain ⟨v, h1, h2⟩ := h hr; exact ⟨v, σ, by rw [h1], h2⟩
def fN (m : Nat) (k : Nat → FR) : FR := Nat.rec (k 0) (fun p _ => k (Nat.succ p)) m
theorem Aj (m : Nat) (k : Nat → FR) : fN m k = k m := by cases m <;> rfl
def gB (b : Bool) (r : FR) : FR := Bool.rec .bad r b
theorem gB_eq (b : Bool) (r : FR) : gB b r = bif b then r else .bad := by cases b <;> rfl
def kI (f g : IntKind → Nat → FR) (v : FV) : FR := FV.rec (motive_1 := fun _ => FR) (motive_2 := fun _ => FR) f g (fun _ => .bad) (fun _ => .bad) (fun _ _ => .bad) (fun _ _ _ _ _ _ => .bad) (fun _ => .bad) (fun _ => .bad) (fun _ _ _ _ _ => .bad) (fun _ _ _ => .bad) (fun _ _ => .bad) (fun _ => .bad) (fun _ _ => .bad) (fun _ _ => .bad) (fun _ => .bad) .bad (fun _ _ _ _ => .bad) v
def kNn (f : IntKind → Nat → FR) (v : FV) : FR := FV.rec (motive_1 := fun _ => FR) (motive_2 := fun _ => FR) f (fun _ _ => .bad) (fun _ => .bad) (fun _ => .bad) (fun _ _ => .bad) (fun _ _ _ _ _ _ => .bad) (fun _ => .bad) (fun _ => .bad) (fun _ _ _ _ _ => .bad) (fun _ _ _ => .bad) (fun _ _ => .bad) (fun _ => .bad) (fun _ _ => .bad) (fun _ _ => .bad) (fun _ => .bad) .bad (fun _ _ _ _ => .bad) v
def kS (f : Nat → FR) (v : FV) : FR := FV.rec (motive_1 := fun _ => FR) (motive_2 := fun _ => FR) (fun _ _ => .bad) (fun _ _ => .bad) (fun _ => .bad) f (fun _ _ => .bad) (fun _ _ _ _ _ _ => .bad) (fun _ => .bad) (fun _ => .bad) (fun _ _ _ _ _ => .bad) (fun _ _ _ => .bad) (fun _ _ => .bad) (fun _ => .bad) (fun _ _ => .bad) (fun _ _ => .bad) (fun _ => .bad) .bad (fun _ _ _ _ => .bad) v
def kB (f : Bool → FR) (v : FV) : FR := FV.rec (motive_1 := fun _ => FR) (motive_2 := fun _ => FR) (fun _ _ => .bad) (fun _ _ => .bad) f (fun _ => .bad) (fun _ _ => .bad) (fun _ _ _ _ _ _ => .bad) (fun _ => .bad) (fun _ => .bad) (fun _ _ _ _ _ => .bad) (fun _ _ _ => .bad) (fun _ _ => .bad) (fun _ => .bad) (fun _ _ => .bad) (fun _ _ => .bad) (fun _ => .bad) .bad (fun _ _ _ _ => .bad) v
def kP (f : Nat → Nat → FR) (v : FV) : FR := FV.rec (motive_1 := fun _ => FR) (motive_2 := fun _ => FR) (fun _ _ => .bad) (fun _ _ => .bad) (fun _ => .bad) (fun _ => .bad) f (fun _ _ _ _ _ _ => .bad) (fun _ => .bad) (fun _ => .bad) (fun _ _ _ _ _ => .bad) (fun _ _ _ => .bad) (fun _ _ => .bad) (fun _ => .bad) (fun _ _ => .bad) (fun _ _ => .bad) (fun _ => .bad) .bad (fun _ _ _ _ => .bad) v
def kM (f : Nat → FR) (v : FV) : FR := FV.rec (motive_1 := fun _ => FR) (motive_2 := fun _ => FR) (fun _ _ => .bad) (fun _ _ => .bad) (fun _ => .bad) (fun _ => .bad) (fun _ _ => .bad) (fun _ _ _ _ _ _ => .bad) f (fun _ => .bad) (fun _ _ _ _ _ => .bad) (fun _ _ _ => .bad) (fun _ _ => .bad) (fun _ => .bad) (fun _ _ => .bad) (fun _ _ => .bad) (fun _ => .bad) .bad (fun _ _ _ _ => .bad) v
def kTup (f : List FV → FR) (v : FV) : FR := FV.rec (motive_1 := fun _ => FR) (motive_2 := fun _ => FR) (fun _ _ => .bad) (fun _ _ => .bad) (fun _ => .bad) (fun _ => .bad) (fun _ _ => .bad) (fun _ _ _ _ _ _ => .bad) (fun _ => .bad) (fun _ => .bad) (fun _ _ _ _ _ => .bad) (fun _ _ _ => .bad) (fun _ _ => .bad) (fun _ => .bad) (fun _ _ => .bad) (fun l _ => f l) (fun _ => .bad) .bad (fun _ _ _ _ => .bad) v
def kSl (f : Nat → Nat → Nat → Nat → Bool → Nat → FR) (v : FV) : FR := FV.rec (motive_1 := fun _ => FR) (motive_2 := fun _ => FR) (fun _ _ => .bad) (fun _ _ => .bad) (fun _ => .bad) (fun _ => .bad) (fun _ _ => .bad) f (fun _ => .bad) (fun _ => .bad) (fun _ _ _ _ _ => .bad) (fun _ _ _ => .bad) (fun _ _ => .bad) (fun _ => .bad) (fun _ _ => .bad) (fun _ _ => .bad) (fun _ => .bad) .bad (fun _ _ _ _ => .bad) v
def nthK (l : List FV) (i : Nat) (k : FV → FR) : FR := List.rec (motive := fun _ => Nat → FR) (fun _ => .bad) (fun a _ ih i => Nat.rec (k a) (fun j _ => ih j) i) l i
theorem nthK_eq : ∀ (l : List FV) (i : Nat) (k : FV → FR), nthK l i k = match l[i]? with | some a => k a | none => .bad
  | [], i, k => by simp [nthK]
  | a :: l, 0, k => rfl
  | a :: l, i + 1, k => by rw [List.getElem?_cons_succ, ← nthK_eq l i k]; rfl
def vI (k : IntKind) (i : Int) (c : FV → FR) : FR := Int.rec (fun m => fN m fun m => c (.n k m)) (fun m => fN m fun m => c (.z k m)) i
theorem vI_of (k : IntKind) (i : Int) (c : FV → FR) : ∃ v, αV v = .int k i ∧ vI k i c = c v := by
  cases i with
  | ofNat m => exact ⟨.n k m, rfl, by show fN m (fun m => c (.n k m)) = _; rw [Aj]⟩
  | negSucc m => exact ⟨.z k m, rfl, by show fN m (fun m => c (.z k m)) = _; rw [Aj]⟩
end
end Go.Proofs.YtjoakhpdajlhiaaGreatDoor.V2
