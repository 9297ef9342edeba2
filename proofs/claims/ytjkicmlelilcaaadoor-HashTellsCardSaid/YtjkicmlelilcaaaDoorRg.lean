/- A region that draws its order, walked once: each operation keeps what the others rest on. -/
import Derived.Test.YtjkicmlelilcaaaDoorRows
import Derived.WalkKit
import Derived.Orders
namespace Go.Proofs.YtjkicmlelilcaaaDoor
open Go

def upd (vs : Nat → Value) (i : Nat) (v : Value) : Nat → Value := fun k => bif Nat.beq k i then v else vs k
theorem upd_self (vs : Nat → Value) (i : Nat) (v : Value) : upd vs i v i = v := by simp [upd]
theorem upd_ne (vs : Nat → Value) {i k : Nat} (v : Value) (h : k ≠ i) : upd vs i v k = vs k := by
  have : Nat.beq k i = false := by rw [Bool.eq_false_iff]; exact fun e => h (Nat.eq_of_beq_eq_true e)
  simp [upd, this]
def dstAt (ops : Array Oper) (k : Nat) : Option Tmp := (ops[k]?).bind (·.dst)
/-- The frame behind the listed operations. -/
def actOf (ops : Array Oper) (a0 : Act) (vs : Nat → Value) (l : List Nat) : Act := l.foldl (fun a k => a.put (dstAt ops k) (vs k)) a0
theorem put_size (a : Act) (d : Option Tmp) (v : Value) : (a.put d v).tmps.size = a.tmps.size := by cases d <;> simp [Act.put]
theorem put_defers (a : Act) (d : Option Tmp) (v : Value) : (a.put d v).defers = a.defers := by cases d <;> rfl
theorem actOf_size (ops : Array Oper) (vs : Nat → Value) (l : List Nat) : ∀ a0, (actOf ops a0 vs l).tmps.size = a0.tmps.size := by
  induction l with
  | nil => intro a0; rfl
  | cons k l ih => intro a0; show (actOf ops _ vs l).tmps.size = _; rw [ih, put_size]
theorem actOf_at (ops : Array Oper) (vs : Nat → Value) (t : Tmp) (p q : Nat → Bool) (l : List Nat) (h : ∀ k ∈ l, dstAt ops k = some t → p k = q k) :
    ∀ a b : Act, a.tmps.size = b.tmps.size → a.tmps[t]? = b.tmps[t]? → (actOf ops a vs (l.filter p)).tmps[t]? = (actOf ops b vs (l.filter q)).tmps[t]? := by
  induction l with
  | nil => intro a b _ he; exact he
  | cons k l ih =>
    intro a b hs he
    have ih' := ih (fun j hj => h j (List.mem_cons_of_mem _ hj))
    have keep : ∀ c : Act, dstAt ops k ≠ some t → (c.put (dstAt ops k) (vs k)).tmps[t]? = c.tmps[t]? := fun c hne => by
      cases hd : dstAt ops k with
      | none => rfl
      | some d =>
        have : d ≠ t := fun e => hne (by rw [hd, e])
        simp [Act.put, Array.getElem?_setIfInBounds_ne this]
    by_cases hd : dstAt ops k = some t
    · have hpq := h k List.mem_cons_self hd
      cases hp : p k with
      | true =>
        rw [List.filter_cons_of_pos hp, List.filter_cons_of_pos (by rw [← hpq]; exact hp)]
        refine ih' _ _ (by rw [put_size, put_size, hs]) ?_
        show (a.put (dstAt ops k) (vs k)).tmps[t]? = (b.put (dstAt ops k) (vs k)).tmps[t]?
        rw [hd]
        simp [Act.put, Array.getElem?_setIfInBounds, hs]
      | false =>
        rw [List.filter_cons_of_neg (by simp [hp]), List.filter_cons_of_neg (by rw [← hpq]; simp [hp])]
        exact ih' _ _ hs he
    · cases hp : p k <;> cases hq : q k <;> simp only [List.filter_cons, hp, hq, if_true, Bool.false_eq_true, if_false]
      · exact ih' _ _ hs he
      · exact ih' _ _ (by rw [put_size]; exact hs) (by rw [keep _ hd]; exact he)
      · exact ih' _ _ (by rw [put_size]; exact hs) (by rw [keep _ hd]; exact he)
      · exact ih' _ _ (by rw [put_size, put_size]; exact hs) (by rw [keep _ hd, keep _ hd]; exact he)
theorem actOf_upd (ops : Array Oper) (vs : Nat → Value) (i : Nat) (v : Value) (l : List Nat) (h : i ∉ l) : ∀ a, actOf ops a (upd vs i v) l = actOf ops a vs l := by
  induction l with
  | nil => intro a; rfl
  | cons k l ih =>
    intro a
    show actOf ops (a.put (dstAt ops k) (upd vs i v k)) (upd vs i v) l = actOf ops (a.put (dstAt ops k) (vs k)) vs l
    rw [upd_ne vs v (fun e => h (by rw [← e]; exact List.mem_cons_self)), ih (fun hm => h (List.mem_cons_of_mem _ hm))]
theorem actOf_put (ops : Array Oper) (vs : Nat → Value) (d : Option Tmp) (v : Value) (l : List Nat) (h : ∀ k ∈ l, ∀ t, d = some t → dstAt ops k ≠ some t) :
    ∀ a, actOf ops (a.put d v) vs l = (actOf ops a vs l).put d v := by
  induction l with
  | nil => intro a; rfl
  | cons k l ih =>
    intro a
    show actOf ops ((a.put d v).put (dstAt ops k) (vs k)) vs l = (actOf ops (a.put (dstAt ops k) (vs k)) vs l).put d v
    rw [Act.put_comm a v (vs k) (fun t ht => h k List.mem_cons_self t ht), ih (fun j hj => h j (List.mem_cons_of_mem _ hj))]
theorem actOf_insert (ops : Array Oper) (a0 : Act) (vs : Nat → Value) (n i : Nat) (v : Value) (p p' : Nat → Bool) (hi : i < n) (hpi : p i = false) (hp' : ∀ k, p' k = (p k || k == i))
    (h : ∀ k, i < k → k < n → p k = true → ∀ t, dstAt ops i = some t → dstAt ops k ≠ some t) :
    actOf ops a0 (upd vs i v) ((List.range n).filter p') = (actOf ops a0 vs ((List.range n).filter p)).put (dstAt ops i) v := by
  have hr : List.range n = List.range i ++ i :: (List.range' (i + 1) (n - (i + 1))) := by
    rw [List.range_eq_range', List.range_eq_range', ← List.range'_succ]
    have := @List.range'_append_1 0 i (n - (i + 1) + 1)
    rw [Nat.zero_add] at this
    rw [this]; congr 1; omega
  have e1 : (List.range i).filter p' = (List.range i).filter p := List.filter_congr fun k hk => by
    have := List.mem_range.1 hk
    rw [hp' k, show (k == i) = false from beq_eq_false_iff_ne.2 (by omega), Bool.or_false]
  have e2 : (List.range' (i + 1) (n - (i + 1))).filter p' = (List.range' (i + 1) (n - (i + 1))).filter p := List.filter_congr fun k hk => by
    have := (List.mem_range'_1.1 hk).1
    rw [hp' k, show (k == i) = false from beq_eq_false_iff_ne.2 (by omega), Bool.or_false]
  rw [hr, List.filter_append, List.filter_append, List.filter_cons_of_pos (by simp [hp']), List.filter_cons_of_neg (by simp [hpi]), e1, e2]
  show List.foldl _ _ _ = Act.put (List.foldl _ _ _) _ _
  rw [List.foldl_append, List.foldl_append, List.foldl_cons]
  have n1 : i ∉ (List.range i).filter p := fun hm => by have := List.mem_range.1 (List.mem_filter.1 hm).1; omega
  have n2 : i ∉ (List.range' (i + 1) (n - (i + 1))).filter p := fun hm => by have := (List.mem_range'_1.1 (List.mem_filter.1 hm).1).1; omega
  have := actOf_upd ops vs i v _ n1 a0
  unfold actOf at this
  rw [this, upd_self]
  have := actOf_upd ops vs i v _ n2 ((actOf ops a0 vs ((List.range i).filter p)).put (dstAt ops i) v)
  unfold actOf at this
  rw [this]
  exact actOf_put ops vs (dstAt ops i) v _ (fun k hk t ht => by
    have hm := List.mem_filter.1 hk
    have hm1 := List.mem_range'_1.1 hm.1
    exact h k (by omega) (by omega) hm.2 t ht) _

/-- A way that ends otherwise than behind the region is none. -/
def QK (K : Act → World → Prop) : Exit → Act → World → Prop
  | .normal, a, w => K a w
  | _, _, _ => False
/-- What one operation leaves: its value and the world. -/
def OpV (P : Program) (ops : Array Oper) (o : Oper) (a : Act) (w : World) (K : Value → World → Prop) : Prop := wpList P ops (QK fun a' w' => ∃ v, a' = a.put o.dst v ∧ K v w') [o] a w
theorem put_inj {a b : Act} {d : Option Tmp} {u v : Value} (hs : a.tmps.size = b.tmps.size) (h : b.put d u = b.put d v) : a.put d u = a.put d v := by
  cases d with
  | none => rfl
  | some t =>
    by_cases hlt : t < a.tmps.size
    · have h1 : ((b.put (some t) u).tmps)[t]? = ((b.put (some t) v).tmps)[t]? := by rw [h]
      simp [Act.put, ← hs, hlt] at h1
      rw [h1]
    · have : ∀ x, a.tmps.setIfInBounds t x = a.tmps := fun x => by unfold Array.setIfInBounds; rw [dif_neg hlt]
      simp only [Act.put, this]
theorem letsOut_QK {K : Act → World → Prop} : ¬ LetsOut (QK K) := by rintro ⟨a, w, h⟩; exact h

theorem wpOp_of_list {P : Program} {ops : Array Oper} {Q : Exit → Act → World → Prop} {i : Nat} {o : Oper} {K K' : Act → World → Prop} {a b : Act} {w : World} (hi : ops[i]? = some o)
    (hd : ∀ a' w', K a' w' → a'.defers = b.defers) (he : execOp a.eval o = execOp b.eval o) (hw : Region.wanted o (yielded ops a.tmps) = Region.wanted o (yielded ops b.tmps))
    (h : wpList P ops (QK K) [o] b w) (hK : ∀ u w', K (b.put o.dst u) w' → K' (a.put o.dst u) w') : wpOp P ops Q i K' a w := by
  unfold wpOp
  simp only [hi]
  simp only [wpList] at h
  rw [hw]
  by_cases hwt : Region.wanted o (yielded ops b.tmps) = true
  · rw [if_pos hwt] at h ⊢
    have h := h.resolve_right (fun hh => letsOut_QK hh.2)
    refine .inl ?_
    unfold Oper.wp at *
    rw [he]
    generalize hr : (execOp b.eval o).run P w = r at *
    cases r with
    | ok n w' =>
      cases n with
      | value v => simp only [Oper.upon] at h ⊢; exact hK _ _ h
      | skip => simp only [Oper.upon] at h ⊢; exact hK _ _ h
      | enter f args =>
        simp only [Oper.upon] at h ⊢
        refine Calls.mono h fun e w'' he => ?_
        cases e with
        | returned u => exact hK _ _ he
        | panicked c => exact he.elim
        | outgrown => exact (letsOut_QK he).elim
      | row row args => simp only [Oper.upon] at h ⊢; exact Rows.mono h fun u w'' he => hK _ _ he
      | defer d =>
        simp only [Oper.upon] at h
        have := hd _ _ h
        rw [put_defers] at this
        exact absurd this (by simp)
      | _ => simp only [Oper.upon] at h
    | halt x w' => cases x <;> simp only [Oper.upon] at h <;> exact h.elim
  · rw [if_neg hwt] at h ⊢
    exact hK _ _ h

theorem eval_same {a b : Act} {x : Operand} (h : ∀ t, x = .tmp t → a.tmps[t]? = b.tmps[t]?) : a.eval x = b.eval x := by
  cases x with
  | tmp t => simp only [Act.eval]; have := h t rfl; simp [this]
  | _ => rfl
theorem exec_same {ops : Array Oper} {o : Oper} {a b : Act} (hs : ∀ cs b, o.op ≠ .select cs b) (h : ∀ t ∈ o.looksAt ops, a.tmps[t]? = b.tmps[t]?) : execOp a.eval o = execOp b.eval o :=
  execOp_congr o hs fun x hx => eval_same fun t ht => h t (by
    subst ht
    exact List.mem_append_left _ (List.mem_filterMap.2 ⟨.tmp t, by simpa using hx, rfl⟩))
theorem wanted_same {ops : Array Oper} {o : Oper} {a b : Act} (h : ∀ t ∈ o.looksAt ops, a.tmps[t]? = b.tmps[t]?) :
    Region.wanted o (yielded ops a.tmps) = Region.wanted o (yielded ops b.tmps) := by
  unfold Region.wanted
  cases hg : o.guard with
  | none => rfl
  | some gw =>
    obtain ⟨g, want⟩ := gw
    have hy : yielded ops a.tmps g = yielded ops b.tmps g := by
      unfold yielded
      cases ht : (ops[g]?).bind (·.dst) with
      | none => rfl
      | some t =>
        have := h t (by simp [Oper.looksAt, hg, ht])
        simp [this]
    simp only [hy]

/-- What each operation comes behind, as a table: checked. -/
def chkEdges (ops : Array Oper) (B : List (List Nat)) : Bool :=
  (List.range ops.size).all fun i => (B.getD i []).all fun k => k < i && (match ops[i]? with
    | some o => o.after.any fun e => Region.binds .any e && (k == e.on || (B.getD e.on []).contains k)
    | none => false)
def chkBack (ops : Array Oper) : Bool :=
  (List.range ops.size).all fun i => match ops[i]? with
    | some o => o.after.all fun e => !Region.binds .any e || decide (e.on < i)
    | none => false
def chkSlots (ops : Array Oper) (B : List (List Nat)) : Bool :=
  (List.range ops.size).all fun i => match ops[i]? with
    | some o => (List.range ops.size).all fun k => k == i || (B.getD i []).contains k || (B.getD k []).contains i || (match dstAt ops k with
      | some t => !(o.looksAt ops).contains t && !(o.dst == some t)
      | none => true)
    | none => false
def chkSorted (ops : Array Oper) (B : List (List Nat)) : Bool :=
  (List.range ops.size).all fun i => (B.getD i []) == (List.range ops.size).filter fun k => (B.getD i []).contains k
/-- What an operation spoils: only what nobody asks for behind it. -/
def chkKills (ops : Array Oper) (B : List (List Nat)) (X : List (List Nat)) : Bool :=
  (List.range ops.size).all fun k => (X.getD k []).all fun i => (List.range ops.size).all fun j => !(B.getD j []).contains k || j == i || (B.getD i []).contains j
def chkRegion (ops : Array Oper) (B X : List (List Nat)) : Bool := chkKills ops B X && chkEdges ops B && chkBack ops && chkSlots ops B && chkSorted ops B && Region.noSelect ops

/-- What is to be shown of each operation, from number i on. -/
def Obs (P : Program) (ops : Array Oper) (a0 : Act) (w : World) (R : World → World → Prop) (S : Nat → World → World → Prop) (B : List (List Nat)) (Φ : Nat → (Nat → Value) → World → Prop) : List Oper → Nat → Prop
  | [], _ => True
  | o :: l, i => (∀ vs W, R w W → (∀ k ∈ B.getD i [], Φ k vs W) →
      OpV P ops o (actOf ops a0 vs (B.getD i [])) W fun v W' => S i W W' ∧ Φ i (upd vs i v) W') ∧ Obs P ops a0 w R S B Φ l (i + 1)
theorem Obs.at {P : Program} {ops : Array Oper} {a0 : Act} {w : World} {R : World → World → Prop} {S : Nat → World → World → Prop} {B : List (List Nat)} {Φ : Nat → (Nat → Value) → World → Prop} :
    ∀ (l : List Oper) (i : Nat), Obs P ops a0 w R S B Φ l i → ∀ j o, l[j]? = some o → ∀ vs W, R w W → (∀ k ∈ B.getD (i + j) [], Φ k vs W) →
      OpV P ops o (actOf ops a0 vs (B.getD (i + j) [])) W fun v W' => S (i + j) W W' ∧ Φ (i + j) (upd vs (i + j) v) W' := by
  intro l
  induction l with
  | nil => intro i _ j o hj; simp at hj
  | cons x l ih =>
    intro i h j o hj
    cases j with
    | zero =>
      simp only [List.getElem?_cons_zero, Option.some.injEq] at hj
      subst hj
      exact h.1
    | succ j =>
      have := ih (i + 1) h.2 j o (by simpa using hj)
      rwa [show i + 1 + j = i + (j + 1) by omega] at this
theorem actOf_defers (ops : Array Oper) (vs : Nat → Value) (l : List Nat) : ∀ a0, (actOf ops a0 vs l).defers = a0.defers := by
  induction l with
  | nil => intro a0; rfl
  | cons k l ih => intro a0; show (actOf ops _ vs l).defers = _; rw [ih, put_defers]

theorem wpAny_of_inv {P : Program} {ops : Array Oper} {Q : Exit → Act → World → Prop} (J : Array Bool → Act → World → Prop)
    (hstep : ∀ listed a w, J listed a w → ∀ i ∈ Region.ready .any ops listed, wpOp P ops Q i (J (listed.setIfInBounds i true)) a w)
    (hend : ∀ listed a w, J listed a w → Region.ready .any ops listed = [] → Q .normal a w) :
    ∀ (fuel : Nat) (listed : Array Bool) (a : Act) (w : World), listed.size = ops.size → (listed.toList.filter (! ·)).length ≤ fuel → J listed a w → wpAny P .any ops Q fuel listed a w := by
  intro fuel
  induction fuel with
  | zero =>
    intro listed a w hs hc hJ
    have hr : Region.ready .any ops listed = [] := by
      apply List.eq_nil_iff_forall_not_mem.2
      intro i hi
      have h0 := (mem_ready.1 hi).1
      have hlt : i < listed.size := by
        rcases Nat.lt_or_ge i listed.size with h | h
        · exact h
        · simp [Array.getElem?_eq_none h] at h0
      have : (false : Bool) ∈ listed.toList.filter (! ·) := List.mem_filter.2 ⟨by
        have e : listed[i] = false := by simpa [hlt] using h0
        rw [← e]; exact Array.getElem_mem_toList hlt, rfl⟩
      have := List.length_pos_of_mem this
      omega
    exact ⟨hr, hend _ _ _ hJ hr⟩
  | succ fuel ih =>
    intro listed a w hs hc hJ
    refine ⟨hend _ _ _ hJ, fun i hi => ?_⟩
    refine wpOp_mono (fun a' w' hJ' => ih _ a' w' (by simpa using hs) ?_ hJ') (hstep _ _ _ hJ i hi)
    have h0 := (mem_ready.1 hi).1
    have hlt : i < listed.size := by
      rcases Nat.lt_or_ge i listed.size with h | h
      · exact h
      · simp [Array.getElem?_eq_none h] at h0
    have e : listed[i] = false := by simpa [hlt] using h0
    have hcount : ∀ (l : List Bool) (i : Nat) (h : i < l.length), l[i] = false → ((l.set i true).filter (! ·)).length + 1 = (l.filter (! ·)).length := by
      intro l
      induction l with
      | nil => intro i h; simp at h
      | cons x l ih =>
        intro i h hx
        cases i with
        | zero => simp at hx; subst hx; simp
        | succ i =>
          have := ih i (by simpa using h) (by simpa using hx)
          cases x <;> simp at this ⊢ <;> omega
    have := hcount listed.toList i (by simpa using hlt) (by simpa using e)
    rw [Array.toList_setIfInBounds]
    omega

def lst (listed : Array Bool) (k : Nat) : Bool := listed.getD k false
/-- What holds while the region runs. -/
structure RInv (ops : Array Oper) (a0 : Act) (w : World) (R : World → World → Prop) (B X : List (List Nat)) (Φ : Nat → (Nat → Value) → World → Prop) (listed : Array Bool) (a : Act) (W : World) : Prop where
  size : listed.size = ops.size
  closed : ∀ i, lst listed i = true → ∀ k ∈ B.getD i [], lst listed k = true
  rel : R w W
  all : ∃ vs, a = actOf ops a0 vs ((List.range ops.size).filter (lst listed)) ∧ ∀ k, lst listed k = true → (∀ i ∈ X.getD k [], lst listed i = false) → Φ k vs W

theorem lst_lt {listed : Array Bool} {k : Nat} (h : lst listed k = true) : k < listed.size := by
  rcases Nat.lt_or_ge k listed.size with h' | h'
  · exact h'
  · simp [lst, Array.getElem?_eq_none h'] at h
theorem lst_set {listed : Array Bool} {i : Nat} (hi : i < listed.size) (k : Nat) : lst (listed.setIfInBounds i true) k = (lst listed k || k == i) := by
  unfold lst
  by_cases h : i = k
  · subst h; simp [hi]
  · rw [getD_set_ne false h, show (k == i) = false from beq_eq_false_iff_ne.2 (Ne.symm h), Bool.or_false]

theorem region_core {P : Program} {ops : Array Oper} {Q : Exit → Act → World → Prop} {a0 : Act} {w w1 : World}
    (R : World → World → Prop) (S : Nat → World → World → Prop) (htrans : ∀ x y z, R x y → R y z → R x z) (hSR : ∀ i W W', R w W → S i W W' → R W W') (h0 : R w w1)
    (B X : List (List Nat)) (Φ : Nat → (Nat → Value) → World → Prop) (hchk : chkRegion ops B X = true)
    (hdep : ∀ k vs vs' W, (∀ j, j = k ∨ j ∈ B.getD k [] → vs j = vs' j) → Φ k vs W → Φ k vs' W)
    (hmono : ∀ i k vs W W', R w W → S i W W' → i ∉ X.getD k [] → k ≠ i → i ∉ B.getD k [] → Φ k vs W → Φ k vs W')
    (hob : Obs P ops a0 w R S B Φ ops.toList 0)
    (hfin : ∀ vs W, R w W → (∀ k, k < ops.size → X.getD k [] = [] → Φ k vs W) → Q .normal (actOf ops a0 vs (List.range ops.size)) W) :
    RInv ops a0 w R B X Φ (Array.replicate ops.size false) a0 w1 ∧
    (∀ listed a W, RInv ops a0 w R B X Φ listed a W → ∀ i ∈ Region.ready .any ops listed, wpOp P ops Q i (RInv ops a0 w R B X Φ (listed.setIfInBounds i true)) a W) ∧
    (∀ listed a W, RInv ops a0 w R B X Φ listed a W → Region.ready .any ops listed = [] → Q .normal a W) := by
  simp only [chkRegion, Bool.and_eq_true] at hchk
  obtain ⟨⟨⟨⟨⟨cX, cE⟩, cB⟩, cS⟩, cT⟩, cN⟩ := hchk
  have hE : ∀ i k, k ∈ B.getD i [] → i < ops.size → k < i ∧ ∃ o, ops[i]? = some o ∧ ∃ e ∈ o.after, Region.binds .any e = true ∧ (k = e.on ∨ k ∈ B.getD e.on []) := by
    intro i k hk hi
    have := List.all_eq_true.1 (List.all_eq_true.1 cE i (List.mem_range.2 hi)) k hk
    cases ho : ops[i]? with
    | none => rw [ho] at this; simp at this
    | some o =>
      rw [ho] at this
      simp only [Bool.and_eq_true, decide_eq_true_eq] at this
      obtain ⟨e, he, hb⟩ : ∃ e ∈ o.after, (Region.binds .any e && (k == e.on || (B.getD e.on []).contains k)) = true := by
        obtain ⟨j, hj, hb⟩ := Array.any_eq_true.1 this.2
        exact ⟨_, Array.getElem_mem hj, hb⟩
      simp only [Bool.and_eq_true, Bool.or_eq_true, beq_iff_eq, List.contains_iff_mem] at hb
      exact ⟨this.1, o, rfl, e, he, hb.1, hb.2⟩
  have hS : ∀ i k o, ops[i]? = some o → k < ops.size → k ≠ i → k ∉ B.getD i [] → i ∉ B.getD k [] → ∀ t, dstAt ops k = some t → t ∉ o.looksAt ops ∧ o.dst ≠ some t := by
    intro i k o ho hk hne h1 h2 t ht
    have hi : i < ops.size := (Array.getElem?_eq_some_iff.1 ho).1
    have := List.all_eq_true.1 cS i (List.mem_range.2 hi)
    rw [ho] at this
    have := List.all_eq_true.1 this k (List.mem_range.2 hk)
    rw [ht] at this
    simp only [Bool.or_eq_true, beq_iff_eq, List.contains_iff_mem, Bool.and_eq_true, Bool.not_eq_true', beq_eq_false_iff_ne] at this
    rcases this with ((h | h) | h) | h
    · exact absurd h hne
    · exact absurd h h1
    · exact absurd h h2
    · exact ⟨fun hm => by have := List.contains_iff_mem.2 hm; rw [this] at h; simp at h, h.2⟩
  refine ⟨⟨by simp, fun i hi => ?_, h0, fun _ => undef, ?_, fun k hk _ => ?_⟩, ?_, ?_⟩
  rotate_left 3
  · intro listed a W hJ i hi
    obtain ⟨hun, o, ho, hall⟩ := mem_ready.1 hi
    have hilt : i < ops.size := (Array.getElem?_eq_some_iff.1 ho).1
    have hils : i < listed.size := by rw [hJ.size]; exact hilt
    have hnl : lst listed i = false := by
      have : listed[i] = false := by simpa [hils] using hun
      simp [lst, hils, this]
    have hBi : ∀ k ∈ B.getD i [], lst listed k = true := by
      intro k hk
      obtain ⟨_, o', ho', e, he, hb, hor⟩ := hE i k hk hilt
      rw [ho] at ho'; cases ho'
      have hon := hall e he hb
      rcases hor with rfl | hk2
      · exact hon
      · exact hJ.closed _ hon k hk2
    obtain ⟨vs, ha, hΦ⟩ := hJ.all
    have hiB : ∀ k, lst listed k = true → i ∉ B.getD k [] := fun k hk hik => by
      have := hJ.closed k hk i hik; rw [hnl] at this; cases this
    have hobi := Obs.at ops.toList 0 hob i o (by simpa using ho) vs W hJ.rel (fun k hk => hΦ k (hBi k (by simpa using hk)) (fun x hx => by
      rw [Nat.zero_add] at hk
      cases hxl : lst listed x with
      | false => rfl
      | true =>
        exfalso
        have hklt : k < ops.size := by have := lst_lt (hBi k hk); rw [hJ.size] at this; exact this
        have := List.all_eq_true.1 (List.all_eq_true.1 (List.all_eq_true.1 cX k (List.mem_range.2 hklt)) x hx) i (List.mem_range.2 hilt)
        rw [List.contains_iff_mem.2 hk] at this
        simp only [Bool.not_true, Bool.false_or, Bool.or_eq_true, beq_iff_eq, List.contains_iff_mem] at this
        rcases this with h | h
        · rw [← h, hnl] at hxl; cases hxl
        · exact hiB x hxl h))
    rw [Nat.zero_add] at hobi
    have hsort : B.getD i [] = (List.range ops.size).filter fun k => (B.getD i []).contains k := by
      have := List.all_eq_true.1 cT i (List.mem_range.2 hilt)
      exact beq_iff_eq.1 this
    have hsame : ∀ t ∈ o.looksAt ops, a.tmps[t]? = (actOf ops a0 vs (B.getD i [])).tmps[t]? := by
      intro t ht
      rw [ha, hsort]
      refine actOf_at ops vs t _ _ _ (fun k hk hd => ?_) a0 a0 rfl rfl
      have hklt := List.mem_range.1 hk
      by_cases hkB : k ∈ B.getD i []
      · rw [hBi k hkB, List.contains_iff_mem.2 hkB]
      · rw [show (B.getD i []).contains k = false from by rw [Bool.eq_false_iff]; exact fun h => hkB (List.contains_iff_mem.1 h)]
        rw [Bool.eq_false_iff]
        intro hkl
        have hki : k ≠ i := fun e => by rw [e, hnl] at hkl; cases hkl
        exact (hS i k o ho hklt hki hkB (hiB k hkl) t hd).1 ht
    have hsz : a.tmps.size = (actOf ops a0 vs (B.getD i [])).tmps.size := by rw [ha, actOf_size, actOf_size]
    refine wpOp_of_list ho (fun a' w' h => by obtain ⟨v, rfl, _⟩ := h; rw [put_defers]) (exec_same (Region.noSelect_spec cN i o · · ho) hsame) (wanted_same hsame) hobi ?_
    rintro u W' ⟨v, hv, hRW, hΦi⟩
    rw [put_inj hsz hv]
    have hdst : dstAt ops i = o.dst := by simp [dstAt, ho]
    refine ⟨by simpa using hJ.size, fun j hj k hk => ?_, htrans _ _ _ hJ.rel (hSR i W W' hJ.rel hRW), upd vs i v, ?_, fun k hk hX => ?_⟩
    · rw [lst_set hils] at hj ⊢
      rcases Bool.or_eq_true_iff.1 hj with h | h
      · rw [hJ.closed j h k hk]; rfl
      · rw [beq_iff_eq.1 h] at hk; rw [hBi k hk]; rfl
    · rw [actOf_insert ops a0 vs ops.size i _ (lst listed) _ hilt hnl (lst_set hils), ← ha, hdst]
      · intro k hik hkn hkl t ht hkt
        rw [hdst] at ht
        refine (hS i k o ho hkn (by omega) (fun hkB => ?_) (hiB k hkl) t hkt).2 ht
        have := (hE i k hkB hilt).1
        omega
    · rw [lst_set hils] at hk
      by_cases hki : k = i
      · subst hki; exact hΦi
      · have hkl : lst listed k = true := by
          rcases Bool.or_eq_true_iff.1 hk with h | h
          · exact h
          · exact absurd (beq_iff_eq.1 h) hki
        refine hmono i k _ W W' hJ.rel hRW (fun hik => by have := hX i hik; rw [lst_set hils] at this; simp at this) hki (hiB k hkl) (hdep k vs _ W (fun j hj => ?_) (hΦ k hkl (fun x hx => by
          have := hX x hx
          rw [lst_set hils, Bool.or_eq_false_iff] at this
          exact this.1)))
        rw [upd_ne]
        rintro rfl
        rcases hj with h | h
        · exact hki h.symm
        · exact hiB k hkl h
  · intro listed a W hJ hr
    have hallL : ∀ n, n ≤ ops.size → ∀ k, k < n → lst listed k = true := by
      intro n
      induction n with
      | zero => intro _ k hk; omega
      | succ n ih =>
        intro hn k hk
        have ih := ih (by omega)
        by_cases hkn : k < n
        · exact ih k hkn
        · obtain rfl : k = n := by omega
          cases hl : lst listed k with
          | true => rfl
          | false =>
            have hks : k < listed.size := by rw [hJ.size]; omega
            obtain ⟨o, ho⟩ : ∃ o, ops[k]? = some o := ⟨_, Array.getElem?_eq_getElem (by omega)⟩
            have : k ∈ Region.ready .any ops listed := by
              refine mem_ready.2 ⟨?_, o, ho, fun e he hb => ?_⟩
              · have : listed[k] = false := by simpa [lst, hks] using hl
                simp [hks, this]
              · have := List.all_eq_true.1 cB k (List.mem_range.2 (by omega))
                rw [ho] at this
                have := Array.all_eq_true_iff_forall_mem.1 this e he
                rw [hb] at this
                simp at this
                exact ih e.on this
            rw [hr] at this; cases this
    have hallL := hallL ops.size (Nat.le_refl _)
    obtain ⟨vs, ha, hΦ⟩ := hJ.all
    have : (List.range ops.size).filter (lst listed) = List.range ops.size := List.filter_eq_self.2 fun k hk => hallL k (List.mem_range.1 hk)
    rw [ha, this]
    exact hfin vs W hJ.rel fun k hk hX => hΦ k (hallL k hk) (fun x hx => by rw [hX] at hx; cases hx)
  · exfalso
    have := lst_lt hi
    simp at this
    simp [lst, this] at hi
  · have : (List.range ops.size).filter (lst (Array.replicate ops.size false)) = [] := List.filter_eq_nil_iff.2 fun k hk => by
      simp [lst, List.mem_range.1 hk]
    rw [this]; rfl
  · exfalso
    have := lst_lt hk
    simp at this
    simp [lst, this] at hk

theorem region_stable {P : Program} {id : Nat} {ops : Array Oper} {Q : Exit → Act → World → Prop} {a0 : Act} {w : World} (hm : P.follows .mixedOrders = true)
    (R : World → World → Prop) (S : Nat → World → World → Prop) (htrans : ∀ x y z, R x y → R y z → R x z) (hSR : ∀ i W W', R w W → S i W W' → R W W') (h0 : R w { w with drawn := w.drawn + 1 })
    (B X : List (List Nat)) (Φ : Nat → (Nat → Value) → World → Prop) (hchk : chkRegion ops B X = true)
    (hdep : ∀ k vs vs' W, (∀ j, j = k ∨ j ∈ B.getD k [] → vs j = vs' j) → Φ k vs W → Φ k vs' W)
    (hmono : ∀ i k vs W W', R w W → S i W W' → i ∉ X.getD k [] → k ≠ i → i ∉ B.getD k [] → Φ k vs W → Φ k vs W')
    (hob : Obs P ops a0 w R S B Φ ops.toList 0)
    (hfin : ∀ vs W, R w W → (∀ k, k < ops.size → X.getD k [] = [] → Φ k vs W) → Q .normal (actOf ops a0 vs (List.range ops.size)) W) :
    (Code.region id ops true).wp P Q a0 w := by
  obtain ⟨h1, h2, h3⟩ := region_core R S htrans hSR h0 B X Φ hchk hdep hmono hob hfin
  exact wp_region_any hm (wpAny_of_inv (RInv ops a0 w R B X Φ) h2 h3 ops.size _ a0 _ (by simp) (by simp) h1)
theorem set_first (n i : Nat) (_h : i < n) : ((Array.range n).map (decide <| · < i)).setIfInBounds i true = (Array.range n).map (decide <| · < i + 1) := by
  apply Array.ext
  · simp
  · intro k h1 h2
    simp only [Array.size_map, Array.size_range] at h2
    rw [Array.getElem_setIfInBounds (by simpa using h2)]
    by_cases hk : i = k
    · subst hk; simp
    · simp [hk]; omega
/-- The same for a region that keeps the text's order. -/
theorem region_plain {P : Program} {id : Nat} {ops : Array Oper} {Q : Exit → Act → World → Prop} {a0 : Act} {w : World}
    (R : World → World → Prop) (S : Nat → World → World → Prop) (htrans : ∀ x y z, R x y → R y z → R x z) (hSR : ∀ i W W', R w W → S i W W' → R W W') (h0 : R w w)
    (B X : List (List Nat)) (Φ : Nat → (Nat → Value) → World → Prop) (hchk : chkRegion ops B X = true)
    (hdep : ∀ k vs vs' W, (∀ j, j = k ∨ j ∈ B.getD k [] → vs j = vs' j) → Φ k vs W → Φ k vs' W)
    (hmono : ∀ i k vs W W', R w W → S i W W' → i ∉ X.getD k [] → k ≠ i → i ∉ B.getD k [] → Φ k vs W → Φ k vs W')
    (hob : Obs P ops a0 w R S B Φ ops.toList 0)
    (hfin : ∀ vs W, R w W → (∀ k, k < ops.size → X.getD k [] = [] → Φ k vs W) → Q .normal (actOf ops a0 vs (List.range ops.size)) W) :
    (Code.region id ops false).wp P Q a0 w := by
  obtain ⟨h1, h2, h3⟩ := region_core (w1 := w) R S htrans hSR h0 B X Φ hchk hdep hmono hob hfin
  have hback : ∀ i o, ops[i]? = some o → ∀ e ∈ o.after, Region.binds .any e = true → e.on < i := by
    simp only [chkRegion, Bool.and_eq_true] at hchk
    intro i o ho e he hb
    have := List.all_eq_true.1 hchk.1.1.1.2 i (List.mem_range.2 (Array.getElem?_eq_some_iff.1 ho).1)
    rw [ho] at this
    have := Array.all_eq_true_iff_forall_mem.1 this e he
    rw [hb] at this
    simpa using this
  refine wp_region ?_
  have key : ∀ n i, i + n = ops.size → ∀ a W, RInv ops a0 w R B X Φ ((Array.range ops.size).map (decide <| · < i)) a W → wpOps P ops Q (List.range' i n) a W := by
    intro n
    induction n with
    | zero =>
      intro i hi a W hJ
      refine h3 _ a W hJ (List.eq_nil_iff_forall_not_mem.2 fun k hk => ?_)
      have h0 := mem_ready.1 hk
      obtain ⟨h4, o, ho, _⟩ := h0
      have hk2 := (Array.getElem?_eq_some_iff.1 ho).1
      simp [hk2] at h4
      omega
    | succ n ih =>
      intro i hi a W hJ
      rw [List.range'_succ, wpOps_cons]
      have hil : i < ops.size := by omega
      obtain ⟨o, ho⟩ : ∃ o, ops[i]? = some o := ⟨_, Array.getElem?_eq_getElem hil⟩
      refine wpOp_mono (fun a' W' hJ' => ih (i + 1) (by omega) a' W' (by rw [set_first _ _ hil] at hJ'; exact hJ')) (h2 _ a W hJ i (mem_ready.2 ⟨by simp [hil], o, ho, fun e he hb => ?_⟩))
      have := hback i o ho e he hb
      simp [show e.on < ops.size by omega, this]
  rw [List.range_eq_range']
  refine key ops.size 0 (by omega) a0 w ?_
  have e : (Array.range ops.size).map (decide <| · < 0) = Array.replicate ops.size false := by
    apply Array.ext
    · simp
    · intro k h1 h2; simp
  rw [e]; exact h1
end Go.Proofs.YtjkicmlelilcaaaDoor
