/- Part 4 of the proof: texts of the proof. -/
import Derived.Test.YtjgmpdklfcmelaaGreatDoorQA3
import Derived.Test.YtjgmpdklfcmelaaGreatDoorRows
import Derived.WalkKit
import Derived.Orders
namespace Go.Proofs.YtjgmpdklfcmelaaGreatDoor
open Go
def upd (vs : Nat → Value) (i : Nat) (v : Value) : Nat → Value := fun k => bif Nat.beq k i then v else vs k
theorem upd_self (vs : Nat → Value) (i : Nat) (v : Value) : upd vs i v i = v := by simp [upd]
theorem upd_ne (vs : Nat → Value) {i k : Nat} (v : Value) (h : k ≠ i) : upd vs i v k = vs k := by
  have : Nat.beq k i = false := by rw [Bool.eq_false_iff]; exact fun e => h (Nat.eq_of_beq_eq_true e)
  simp [upd, this]
def dstAt (ops : Array Oper) (k : Nat) : Option Tmp := (ops[k]?).bind (·.dst)
/-- The frame behind the listed operations. -/
def actOf (ops : Array Oper) (a0 : Act) (vs : Nat → Value) (l : List Nat) : Act := l.foldl (fun a k => a.put (dstAt ops k) (vs k)) a0
theorem put_size (a : Act) (d : Option Tmp) (v : Value) : (a.put d v).tmps.size = a.tmps.size := by cases d <;> simp [Act.put]
theorem put_defers (a : Act) (d : Option Tmp) (v : Value) : (a.put d v).defers = a.defers := by cases d <;> rfl
theorem actOf_size (ops : Array Oper) (vs : Nat → Value) (l : List Nat) : ∀ a0, (actOf ops a0 vs l).tmps.size = a0.tmps.size := by
  induction l with
  | nil => intro a0; rfl
  | cons k l ih => intro a0; show (actOf ops _ vs l).tmps.size = _; rw [ih, put_size]
theorem actOf_at (ops : Array Oper) (vs : Nat → Value) (t : Tmp) (p q : Nat → Bool) (l : List Nat) (h : ∀ k ∈ l, dstAt ops k = some t → p k = q k) :
    ∀ a b : Act, a.tmps.size = b.tmps.size → a.tmps[t]? = b.tmps[t]? → (actOf ops a vs (l.filter p)).tmps[t]? = (actOf ops b vs (l.filter q)).tmps[t]? := by
  induction l with
  | nil => intro a b _ he; exact he
  | cons k l ih =>
    intro a b hs he
    have ih' := ih (fun j hj => h j (List.mem_cons_of_mem _ hj))
    have keep : ∀ c : Act, dstAt ops k ≠ some t → (c.put (dstAt ops k) (vs k)).tmps[t]? = c.tmps[t]? := fun c hne => by
      cases hd : dstAt ops k with
      | none => rfl
      | some d =>
        have : d ≠ t := fun e => hne (by rw [hd, e])
        simp [Act.put, Array.getElem?_setIfInBounds_ne this]
    by_cases hd : dstAt ops k = some t
    · have hpq := h k List.mem_cons_self hd
      cases hp : p k with
      | true =>
        rw [List.filter_cons_of_pos hp, List.filter_cons_of_pos (by rw [← hpq]; exact hp)]
        refine ih' _ _ (by rw [put_size, put_size, hs]) ?_
        show (a.put (dstAt ops k) (vs k)).tmps[t]? = (b.put (dstAt ops k) (vs k)).tmps[t]?
        rw [hd]
        simp [Act.put, Array.getElem?_setIfInBounds, hs]
      | false =>
        rw [List.filter_cons_of_neg (by simp [hp]), List.filter_cons_of_neg (by rw [← hpq]; simp [hp])]
        exact ih' _ _ hs he
    · cases hp : p k <;> cases hq : q k <;> simp only [List.filter_cons, hp, hq, if_true, Bool.false_eq_true, if_false]
      · exact ih' _ _ hs he
      · exact ih' _ _ (by rw [put_size]; exact hs) (by rw [keep _ hd]; exact he)
      · exact ih' _ _ (by rw [put_size]; exact hs) (by rw [keep _ hd]; exact he)
      · exact ih' _ _ (by rw [put_size, put_size]; exact hs) (by rw [keep _ hd, keep _ hd]; exact he)
theorem actOf_upd (ops : Array Oper) (vs : Nat → Value) (i : Nat) (v : Value) (l : List Nat) (h : i ∉ l) : ∀ a, actOf ops a (upd vs i v) l = actOf ops a vs l := by
  induction l with
  | nil => intro a; rfl
  | cons k l ih =>
    intro a
    show actOf ops (a.put (dstAt ops k) (upd vs i v k)) (upd vs i v) l = actOf ops (a.put (dstAt ops k) (vs k)) vs l
    rw [upd_ne vs v (fun e => h (by rw [← e]; exact List.mem_cons_self)), ih (fun hm => h (List.mem_cons_of_mem _ hm))]
theorem actOf_put (ops : Array Oper) (vs : Nat → Value) (d : Option Tmp) (v : Value) (l : List Nat) (h : ∀ k ∈ l, ∀ t, d = some t → dstAt ops k ≠ some t) :
    ∀ a, actOf ops (a.put d v) vs l = (actOf ops a vs l).put d v := by
  induction l with
  | nil => intro a; rfl
  | cons k l ih =>
    intro a
    show actOf ops ((a.put d v).put (dstAt ops k) (vs k)) vs l = (actOf ops (a.put (dstAt ops k) (vs k)) vs l).put d v
    rw [Act.put_comm a v (vs k) (fun t ht => h k List.mem_cons_self t ht), ih (fun j hj => h j (List.mem_cons_of_mem _ hj))]
theorem actOf_insert (ops : Array Oper) (a0 : Act) (vs : Nat → Value) (n i : Nat) (v : Value) (p p' : Nat → Bool) (hi : i < n) (hpi : p i = false) (hp' : ∀ k, p' k = (p k || k == i))
    (h : ∀ k, i < k → k < n → p k = true → ∀ t, dstAt ops i = some t → dstAt ops k ≠ some t) :
    actOf ops a0 (upd vs i v) ((List.range n).filter p') = (actOf ops a0 vs ((List.range n).filter p)).put (dstAt ops i) v := by
  have hr : List.range n = List.range i ++ i :: (List.range' (i + 1) (n - (i + 1))) := by
    rw [List.range_eq_range', List.range_eq_range', ← List.range'_succ]
    have := @List.range'_append_1 0 i (n - (i + 1) + 1)
    rw [Nat.zero_add] at this
    rw [this]; congr 1; omega
  have e1 : (List.range i).filter p' = (List.range i).filter p := List.filter_congr fun k hk => by
    have := List.mem_range.1 hk
    rw [hp' k, show (k == i) = false from beq_eq_false_iff_ne.2 (by omega), Bool.or_false]
  have e2 : (List.range' (i + 1) (n - (i + 1))).filter p' = (List.range' (i + 1) (n - (i + 1))).filter p := List.filter_congr fun k hk => by
    have := (List.mem_range'_1.1 hk).1
    rw [hp' k, show (k == i) = false from beq_eq_false_iff_ne.2 (by omega), Bool.or_false]
  rw [hr, List.filter_append, List.filter_append, List.filter_cons_of_pos (by simp [hp']), List.filter_cons_of_neg (by simp [hpi]), e1, e2]
  show List.foldl _ _ _ = Act.put (List.foldl _ _ _) _ _
  rw [List.foldl_append, List.foldl_append, List.foldl_cons]
  have n1 : i ∉ (List.range i).filter p := fun hm => by have := List.mem_range.1 (List.mem_filter.1 hm).1; omega
  have n2 : i ∉ (List.range' (i + 1) (n - (i + 1))).filter p := fun hm => by have := (List.mem_range'_1.1 (List.mem_filter.1 hm).1).1; omega
  have := actOf_upd ops vs i v _ n1 a0
  unfold actOf at this
  rw [this, upd_self]
  have := actOf_upd ops vs i v _ n2 ((actOf ops a0 vs ((List.range i).filter p)).put (dstAt ops i) v)
  unfold actOf at this
  rw [this]
  exact actOf_put ops vs (dstAt ops i) v _ (fun k hk t ht => by
    have hm := List.mem_filter.1 hk
    have hm1 := List.mem_range'_1.1 hm.1
    exact h k (by omega) (by omega) hm.2 t ht) _
/-- What each operation comes behind, as a table: checked. -/
def chkEdges (ops : Array Oper) (B : List (List Nat)) : Bool :=
  (List.range ops.size).all fun i => (B.getD i []).all fun k => k < i && (match ops[i]? with
    | some o => o.after.any fun e => Region.binds .any e && (k == e.on || (B.getD e.on []).contains k)
    | none => false)
def chkBack (ops : Array Oper) : Bool :=
  (List.range ops.size).all fun i => match ops[i]? with
    | some o => o.after.all fun e => !Region.binds .any e || decide (e.on < i)
    | none => false
def chkSlots (ops : Array Oper) (B : List (List Nat)) : Bool :=
  (List.range ops.size).all fun i => match ops[i]? with
    | some o => (List.range ops.size).all fun k => k == i || (B.getD i []).contains k || (B.getD k []).contains i || (match dstAt ops k with
      | some t => !(o.looksAt ops).contains t && !(o.dst == some t)
      | none => true)
    | none => false
def chkSorted (ops : Array Oper) (B : List (List Nat)) : Bool :=
  (List.range ops.size).all fun i => (B.getD i []) == (List.range ops.size).filter fun k => (B.getD i []).contains k
/-- What an operation spoils: only what nobody asks for behind it. -/
def chkKills (ops : Array Oper) (B : List (List Nat)) (X : List (List Nat)) : Bool :=
  (List.range ops.size).all fun k => (X.getD k []).all fun i => (List.range ops.size).all fun j => !(B.getD j []).contains k || j == i || (B.getD i []).contains j
def chkRegion (ops : Array Oper) (B X : List (List Nat)) : Bool := chkKills ops B X && chkEdges ops B && chkBack ops && chkSlots ops B && chkSorted ops B && Region.noSelect ops
theorem actOf_defers (ops : Array Oper) (vs : Nat → Value) (l : List Nat) : ∀ a0, (actOf ops a0 vs l).defers = a0.defers := by
  induction l with
  | nil => intro a0; rfl
  | cons k l ih => intro a0; show (actOf ops _ vs l).defers = _; rw [ih, put_defers]
def lst (listed : Array Bool) (k : Nat) : Bool := listed.getD k false
theorem lst_set {listed : Array Bool} {i : Nat} (hi : i < listed.size) (k : Nat) : lst (listed.setIfInBounds i true) k = (lst listed k || k == i) := by
  unfold lst
  by_cases h : i = k
  · subst h; simp [hi]
  · rw [getD_set_ne false h, show (k == i) = false from beq_eq_false_iff_ne.2 (Ne.symm h), Bool.or_false]
end Go.Proofs.YtjgmpdklfcmelaaGreatDoor
namespace Go.Proofs.YtjgmpdklfcmelaaGreatDoor.V2
open Go
noncomputable section
inductive Kd where
  | P | A | L | S
  deriving DecidableEq
def kdA : AOp → Kd
  | .store _ _ _ => .S
  | .ext _ _ => .S
  | .alloc _ _ => .A
  | .box _ _ => .A
  | .mk _ _ => .A
  | .load1 _ => .L
  | .loadN _ _ => .L
  | .slArr _ _ _ _ _ _ => .L
  | .rd _ _ => .L
  | _ => .P
def kd (pu : FuncId → Bool) (r : CRow) : Kd := match r.op with
  | .aop a => match kdA a with
    | .A => match r.guard with
      | none => .A
      | some _ => .S
    | k => k
  | .call f _ => match f with
    | .lit (.fn (.func g) [] []) => bif pu g then .P else .S
    | _ => .S
  | _ => .S
/-- Functions that neither ask nor change the memory. -/
def PuOk (Γ : Gam) (pu : FuncId → Bool) : Prop := ∀ f, pu f = true → ∀ args σ σ', Γ f args σ = ((Γ f args σ').1, (Γ f args σ').2.1, σ)
theorem stepP {A : Ar} {ev : Ref → AV} {a : AOp} (h : kdA a = .P) (σ σ' : AH) : step A ev σ a = ((step A ev σ' a).1, (step A ev σ' a).2.1, σ) := by
  cases a <;> simp only [kdA, reduceCtorEq] at h
  case mov => rfl
  case pick c x y => simp only [step]; cases ev c <;> rfl
  case bin op x y =>
    simp only [step, oBin]
    cases ev x <;> try rfl
    all_goals cases ev y <;> rfl
  case un => rfl
  case conv k x => simp only [step]; cases ev x <;> rfl
  case fieldAddr o x => simp only [step]; cases ev x <;> rfl
  case idxArr l s x i =>
    simp only [step, oIdxArr]
    cases ev x <;> try rfl
    all_goals cases ev i <;> rfl
  case idxSl s x i =>
    simp only [step, oIdxSl]
    cases ev x <;> try rfl
    all_goals cases ev i <;> rfl
  case slStr x lo hi => simp only [step, oSlStr]; cases ev x <;> rfl
  case slSl s x lo hi mx => simp only [step, oSlSl]; cases ev x <;> rfl
  case extract x k => simp only [step]; cases ev x <;> rfl
  case mkIface => rfl
  case nilCheck x =>
    simp only [step]
    cases ev x <;> try rfl
    rename_i f _ _; cases f <;> rfl
  case lenStr x => simp only [step]; cases ev x <;> rfl
  case lenSl x => simp only [step]; cases ev x <;> rfl
  case pur x args => rfl
  case badop => rfl
theorem gstep_of_cstep {A : Ar} {Γ : Gam} {ev : Ref → AV} {r : CRow} {σ σ' : AH} (h : cstep A Γ ev σ r.op = ((cstep A Γ ev σ' r.op).1, (cstep A Γ ev σ' r.op).2.1, σ)) :
    gstep A Γ ev σ r = ((gstep A Γ ev σ' r).1, (gstep A Γ ev σ' r).2.1, σ) := by
  unfold gstep
  cases r.guard with
  | none => exact h
  | some g =>
    simp only
    cases ev g.1 <;> try rfl
    rename_i b
    cases hb : b == g.2
    · simp only [hb, cond_false]
    · simp only [hb, cond_true]; exact h
theorem kd_P {A : Ar} {Γ : Gam} {pu : FuncId → Bool} (hp : PuOk Γ pu) {ev : Ref → AV} (hl : ∀ v, ev (.lit v) = v) {r : CRow} (h : kd pu r = .P) (σ σ' : AH) : gstep A Γ ev σ r = ((gstep A Γ ev σ' r).1, (gstep A Γ ev σ' r).2.1, σ) := by
  refine gstep_of_cstep ?_
  unfold kd at h
  split at h
  · rename_i a ha
    rw [ha]
    refine stepP ?_ σ σ'
    split at h
    · split at h <;> cases h
    · exact h
  · rename_i f args hf
    rw [hf]
    split at h
    · rename_i g
      cases hg : pu g <;> rw [hg] at h
      · cases h
      · simp only [cstep, hl]; exact hp g hg _ _ _
    · cases h
  · cases h
theorem kd_L {Γ : Gam} {pu : FuncId → Bool} {ev : Ref → AV} {r : CRow} (h : kd pu r = .L) {σ σ' : AH} (hg : ∀ b o, σ.get b = some o → σ'.get b = some o) (hok : (gstep std Γ ev σ r).1 = true) :
    gstep std Γ ev σ' r = (true, (gstep std Γ ev σ r).2.1, σ') ∧ (gstep std Γ ev σ r).2.2 = σ := by
  have hc : (cstep std Γ ev σ r.op).1 = true → cstep std Γ ev σ' r.op = (true, (cstep std Γ ev σ r.op).2.1, σ') ∧ (cstep std Γ ev σ r.op).2.2 = σ := by
    intro hok
    unfold kd at h
    split at h
    · rename_i a ha
      rw [ha] at hok ⊢
      split at h
      · split at h <;> cases h
      · cases a <;> simp only [kdA, reduceCtorEq] at h
        · rename_i x _
          simp only [cstep, step, oLoad1] at hok ⊢
          cases hx : ev x <;> rw [hx] at hok <;> try (cases hok; done)
          rename_i b off
          simp only at hok ⊢
          cases ho : σ.get b with
          | none => rw [ho] at hok; cases hok
          | some o => rw [ho] at hok; simp only at hok; rw [hg _ _ ho]; exact ⟨by simp only [hok], rfl⟩
        · rename_i n x _
          simp only [cstep, step, oLoadN] at hok ⊢
          cases hx : ev x <;> rw [hx] at hok <;> try (cases hok; done)
          rename_i b off
          simp only at hok ⊢
          cases ho : σ.get b with
          | none => rw [ho] at hok; cases hok
          | some o => rw [ho] at hok; simp only at hok; rw [hg _ _ ho]; exact ⟨by simp only [hok], rfl⟩
        · rename_i n m x lo hi mx _
          simp only [cstep, step, oSlArr] at hok ⊢
          cases hx : ev x <;> rw [hx] at hok <;> try (cases hok; done)
          rename_i b off
          simp only at hok ⊢
          cases ho : σ.get b with
          | none => rw [ho] at hok; cases hok
          | some o => rw [ho] at hok; simp only at hok; rw [hg _ _ ho]; exact ⟨by rw [Prod.mk.injEq]; exact ⟨hok, rfl⟩, rfl⟩
        · rename_i x args _
          simp only [cstep, step] at hok ⊢
          rw [lstep_mono hg hok]
          exact ⟨by rw [hok], trivial⟩
    · rename_i f args hf
      split at h
      · rename_i g; cases hg : pu g <;> rw [hg] at h <;> cases h
      · cases h
    · cases h
  unfold gstep at hok ⊢
  cases hgd : r.guard with
  | none => rw [hgd] at hok; exact hc hok
  | some g =>
    rw [hgd] at hok
    simp only at hok ⊢
    cases hx : ev g.1 <;> rw [hx] at hok <;> try (cases hok; done)
    · rename_i b
      simp only at hok ⊢
      cases hb : b == g.2 <;> simp only [hb, cond_true, cond_false] at hok ⊢
      · simp
      · exact hc hok
    · simp
/-- The new block that an operation makes. -/
def objA (A : Ar) (ev : Ref → AV) (r : CRow) : AObj := match r.op with
  | .aop (.alloc e l) => AObj.of l e .exact
  | .aop (.box e x) => boxO (ev x) e
  | .aop (.mk x args) => (nstep A x (args.map ev)).2.2
  | _ => .dead
/-- What it yields, by the block's number. -/
def valA (A : Ar) (ev : Ref → AV) (r : CRow) (b : Nat) : AV := match r.op with
  | .aop (.mk x args) => (nstep A x (args.map ev)).2.1 b
  | _ => .ptr b 0
theorem kd_A {A : Ar} {Γ : Gam} {pu : FuncId → Bool} {ev : Ref → AV} {r : CRow} (h : kd pu r = .A) (σ : AH) (hok : (gstep A Γ ev σ r).1 = true) : gstep A Γ ev σ r = (true, valA A ev r σ.next, σ.new (objA A ev r)) ∧ Nat.blt σ.next 1000000 = true := by
  unfold kd at h
  split at h
  · rename_i a ha
    split at h
    · rename_i hk
      split at h
      · rename_i hg
        unfold gstep at hok ⊢
        rw [hg] at hok ⊢
        simp only [ha, cstep] at hok ⊢
        cases a <;> simp only [kdA, reduceCtorEq] at hk
        · simp only [step] at hok ⊢
          exact ⟨by rw [hok]; simp [objA, valA, ha], hok⟩
        · simp only [step] at hok ⊢
          exact ⟨by rw [hok]; simp [objA, valA, ha], hok⟩
        · simp only [step] at hok ⊢
          refine ⟨by rw [hok]; simp [objA, valA, ha], ?_⟩
          rw [Bool.and_eq_true] at hok; exact hok.2
      · cases h
    · rename_i hk; exact absurd h hk
  · rename_i f args hf
    split at h
    · rename_i g; cases hg : pu g <;> rw [hg] at h <;> cases h
    · cases h
  · cases h
theorem A_run {P : Program} {Γ : Gam} {pu : FuncId → Bool} {nt : Nat} {ops : Array Oper} {o : Oper} {r : CRow} {a : Act} {rf : Operand → Ref} {ev : Ref → AV} {ρ : Ren} {σ : AH} (hc : rowOf P nt rf ops o = some r) (hk : kd pu r = .A) (hev : ∀ x, VR ρ (ev (rf x)) (a.eval x))
    (hok : (gstep std Γ ev σ r).1 = true) (W : World) :
    Region.wanted o (yielded ops a.tmps) = true ∧ ∃ v x n s, (execOp a.eval o).run P W = .ok (.value v) { W with heap := W.heap.push x, drawn := n } ∧ OR ρ (0, s) (objA std ev r) (some x) ∧ ∀ ρ' b, ρ' b = some (W.heap.size, (0, s)) → VR ρ' (valA std ev r b) v := by
  obtain ⟨hg, hcop, _, _⟩ := rowOf_spec hc
  unfold kd at hk
  split at hk
  · rename_i ao hao
    split at hk
    · rename_i hka
      split at hk
      · rename_i hgn
        have hw : o.guard = none := by
          unfold guardOf at hg
          rw [hgn] at hg
          split at hg
          · rename_i h; exact h
          · split at hg <;> cases hg
        refine ⟨by simp [Region.wanted, hw], ?_⟩
        rw [hao] at hcop
        have h1 : comp1 P rf o.op = some ao := by
          unfold copOf at hcop
          split at hcop
          · cases hcop
          · cases hcop
          · cases hcop
          · cases hcop
          · split at hcop
            · rename_i h; cases hcop; exact h
            · cases hcop; cases hka
        unfold gstep at hok
        rw [hgn] at hok
        simp only [hao, cstep] at hok
        have hptr : ∀ ρ' b s, ρ' b = some (W.heap.size, (0, s)) → VR ρ' (.ptr b 0) (.pointer (some ⟨W.heap.size, 0, none⟩)) := fun ρ' b s h => by unfold VR; exact ⟨_, _, h, rfl⟩
        by_cases hmk : ∃ x args, ao = .mk x args
        · obtain ⟨x, args, rfl⟩ := hmk
          have := comp1_makes (W := W) h1 hev
          simp only [step, Bool.and_eq_true] at hok
          simp only [objA, valA, hao]
          exact this hok.1
        generalize hop : o.op = op at h1
        unfold comp1 at h1
        cases ao <;> simp only [kdA, reduceCtorEq] at hka
        · rename_i e0 l0
          cases op <;> simp only [reduceCtorEq, Option.some.injEq] at h1
          case alloc e =>
            split at h1
            · rename_i i hi
              split at h1
              · rename_i z hz
                cases h1
                refine ⟨.pointer (some ⟨W.heap.size, 0, none⟩), .cells z.cells e0, W.drawn, z.cells.size, ?_, ?_, ?_⟩
                · simp [execOp, hop, Instr.alloc, run_zero hi hz]; rfl
                · simp only [objA, hao]
                  simpa using OR.of (vrs_ofCell ρ z.cells.toList)
                · simp only [valA, hao]; exact fun ρ' b h => hptr ρ' b _ h
              · cases h1
            · cases h1
          all_goals (repeat' split at h1) <;> first | (cases h1; done) | (have := compEq_ab h1; cases this) | (have := compConv_ab h1; cases this) | (have := compBuild_ab h1; cases this) | (have := compBi_ab h1; cases this)
        · rename_i e0 x0
          cases op <;> simp only [reduceCtorEq, Option.some.injEq] at h1
          case box e x =>
            cases h1
            refine ⟨.pointer (some ⟨W.heap.size, 0, none⟩), .cells (a.eval x).cells e0, W.drawn, (a.eval x).cells.size, ?_, ?_, ?_⟩
            · simp [execOp, hop, Instr.box]; rfl
            · simp only [objA, hao]
              exact boxO_or (hev x)
            · simp only [valA, hao]; exact fun ρ' b h => hptr ρ' b _ h
          all_goals (repeat' split at h1) <;> first | (cases h1; done) | (have := compEq_ab h1; cases this) | (have := compConv_ab h1; cases this) | (have := compBuild_ab h1; cases this) | (have := compBi_ab h1; cases this)
        · exact absurd ⟨_, _, rfl⟩ hmk
      · cases hk
    · rename_i h; exact absurd hk h
  · rename_i f args hf
    split at hk
    · rename_i g; cases hg : pu g <;> rw [hg] at hk <;> cases hk
    · cases hk
  · cases hk
end
end Go.Proofs.YtjgmpdklfcmelaaGreatDoor.V2
namespace Go.Proofs.YtjgmpdklfcmelaaGreatDoor.V2
open Go
noncomputable section
def AOp.refs : AOp → List Ref
  | .mov x => [x]
  | .pick c a b => [c, a, b]
  | .bin _ x y => [x, y]
  | .un _ x => [x]
  | .conv _ x => [x]
  | .alloc _ _ => []
  | .box _ x => [x]
  | .load1 x => [x]
  | .loadN _ x => [x]
  | .store _ p x => [p, x]
  | .fieldAddr _ x => [x]
  | .idxArr _ _ x i => [x, i]
  | .idxSl _ x i => [x, i]
  | .slStr x lo hi => x :: (lo.toList ++ hi.toList)
  | .slSl _ x lo hi mx => x :: (lo.toList ++ hi.toList ++ mx.toList)
  | .slArr _ _ x lo hi mx => x :: (lo.toList ++ hi.toList ++ mx.toList)
  | .extract x _ => [x]
  | .mkIface _ x => [x]
  | .nilCheck x => [x]
  | .lenStr x => [x]
  | .lenSl x => [x]
  | .ext _ args => args
  | .pur _ args => args
  | .rd _ args => args
  | .mk _ args => args
  | .badop => []
def COp.refs : COp → List Ref
  | .aop a => a.refs
  | .call f args => f :: args
  | .rng x => [x]
  | .nxt x => [x]
  | .ent x => [x]
def CRow.refs (r : CRow) : List Ref := (match r.guard with | none => [] | some g => [g.1]) ++ r.op.refs
theorem map_congr_opt {ev ev' : Ref → AV} {x : Option Ref} (h : ∀ y ∈ x.toList, ev y = ev' y) : x.map ev = x.map ev' := by
  cases x with
  | none => rfl
  | some y => simp [h y (by simp)]
theorem step_congr {A : Ar} {ev ev' : Ref → AV} {σ : AH} {a : AOp} (h : ∀ x ∈ a.refs, ev x = ev' x) : step A ev σ a = step A ev' σ a := by
  cases a <;> simp only [AOp.refs, List.mem_cons, List.not_mem_nil, or_false, forall_eq_or_imp, forall_eq, List.mem_append] at h <;> simp only [step]
  case ext x args => rw [List.map_congr_left h]
  case pur x args => rw [List.map_congr_left h]
  case rd x args => rw [List.map_congr_left h]
  case mk x args => rw [List.map_congr_left h]
  case slStr x lo hi => rw [h.1, map_congr_opt fun y hy => h.2 y (.inl hy), map_congr_opt fun y hy => h.2 y (.inr hy)]
  case slSl n x lo hi mx => rw [h.1, map_congr_opt fun y hy => h.2 y (.inl (.inl hy)), map_congr_opt fun y hy => h.2 y (.inl (.inr hy)), map_congr_opt fun y hy => h.2 y (.inr hy)]
  case slArr n m x lo hi mx => rw [h.1, map_congr_opt fun y hy => h.2 y (.inl (.inl hy)), map_congr_opt fun y hy => h.2 y (.inl (.inr hy)), map_congr_opt fun y hy => h.2 y (.inr hy)]
  case pick c x y => rw [h.1, h.2.1, h.2.2]
  case bin op x y => rw [h.1, h.2]
  case store n p x => rw [h.1, h.2]
  case idxArr n m x i => rw [h.1, h.2]
  case idxSl n x i => rw [h.1, h.2]
  all_goals rw [h]
theorem cstep_congr {A : Ar} {Γ : Gam} {ev ev' : Ref → AV} {σ : AH} {c : COp} (h : ∀ x ∈ c.refs, ev x = ev' x) : cstep A Γ ev σ c = cstep A Γ ev' σ c := by
  cases c with
  | aop a => exact step_congr h
  | call f args =>
    simp only [cstep]
    rw [h f (by simp [COp.refs]), List.map_congr_left fun x hx => h x (by simp [COp.refs, hx])]
  | rng x => rfl
  | nxt x => rfl
  | ent x => rfl
theorem gstep_congr {A : Ar} {Γ : Gam} {ev ev' : Ref → AV} {σ : AH} {r : CRow} (h : ∀ x ∈ r.refs, ev x = ev' x) : gstep A Γ ev σ r = gstep A Γ ev' σ r := by
  have hc := cstep_congr (A := A) (Γ := Γ) (σ := σ) (c := r.op) fun x hx => h x (by simp [CRow.refs, hx])
  unfold gstep
  cases hg : r.guard with
  | none => exact hc
  | some g => simp only; rw [h g.1 (by simp [CRow.refs, hg]), hc]
theorem objA_congr {A : Ar} {ev ev' : Ref → AV} {r : CRow} (h : ∀ x ∈ r.refs, ev x = ev' x) : objA A ev r = objA A ev' r := by
  unfold objA
  split
  · rfl
  · rename_i e x hx; rw [h x (by simp [CRow.refs, hx, COp.refs, AOp.refs])]
  · rename_i x args hx; rw [List.map_congr_left fun y hy => h y (by simp [CRow.refs, hx, COp.refs, AOp.refs, hy])]
  · rfl
theorem valA_congr {A : Ar} {ev ev' : Ref → AV} {r : CRow} (h : ∀ x ∈ r.refs, ev x = ev' x) : valA A ev r = valA A ev' r := by
  funext b
  unfold valA
  split
  · rename_i x args hx; rw [List.map_congr_left fun y hy => h y (by simp [CRow.refs, hx, COp.refs, AOp.refs, hy])]
  · rfl
theorem compEq_refs {P : Program} {rf : Operand → Ref} {neg : Bool} {op : BinOp} {t : TypeId} {x y : Operand} {a : AOp} (h : compEq P rf neg op t x y = some a) : ∀ x ∈ a.refs, ∃ y, x = rf y := by
  unfold compEq at h
  repeat' split at h
  all_goals first | (cases h; done) | skip
  all_goals
    cases h
    intro x hx
    simp only [AOp.refs, List.mem_cons, List.not_mem_nil, or_false] at hx
    repeat' first
      | exact ⟨_, hx⟩
      | (obtain ⟨y, _, hy⟩ := hx; exact ⟨_, hy.symm⟩)
      | rcases hx with hx | hx
theorem compConv_refs {P : Program} {rf : Operand → Ref} {s d : TypeId} {x : Operand} {a : AOp} (h : compConv P rf s d x = some a) : ∀ x ∈ a.refs, ∃ y, x = rf y := by
  unfold compConv at h
  repeat' split at h
  all_goals first | (cases h; done) | skip
  all_goals
    cases h
    intro x hx
    simp only [AOp.refs, List.mem_cons, List.not_mem_nil, or_false] at hx
    repeat' first
      | exact ⟨_, hx⟩
      | (obtain ⟨y, _, hy⟩ := hx; exact ⟨_, hy.symm⟩)
      | rcases hx with hx | hx
theorem compBuild_refs {P : Program} {rf : Operand → Ref} {t : TypeId} {parts : List (Nat × Operand)} {a : AOp} (h : compBuild P rf t parts = some a) : ∀ x ∈ a.refs, ∃ y, x = rf y := by
  unfold compBuild at h
  repeat' split at h
  all_goals first | (cases h; done) | skip
  all_goals
    cases h
    intro x hx
    simp only [AOp.refs, List.mem_map] at hx
    repeat' first
      | exact ⟨_, hx⟩
      | (obtain ⟨y, _, hy⟩ := hx; exact ⟨_, hy.symm⟩)
      | rcases hx with hx | hx
theorem compBi_refs {P : Program} {rf : Operand → Ref} {b : Builtin} {args : List Operand} {ats : List TypeId} {a : AOp} (h : compBi P rf b args ats = some a) : ∀ x ∈ a.refs, ∃ y, x = rf y := by
  unfold compBi at h
  repeat' split at h
  all_goals first | (cases h; done) | skip
  all_goals
    cases h
    intro x hx
    simp only [AOp.refs, List.mem_map] at hx
    repeat' first
      | exact ⟨_, hx⟩
      | (obtain ⟨y, _, hy⟩ := hx; exact ⟨_, hy.symm⟩)
      | rcases hx with hx | hx
theorem comp1_refs {P : Program} {rf : Operand → Ref} {op : Op} {a : AOp} (h : comp1 P rf op = some a) : ∀ x ∈ a.refs, ∃ y, x = rf y := by
  have hopt : ∀ (z : Option Operand) x, x ∈ (z.map rf).toList → ∃ y, x = rf y := fun z x hx => by
    cases z with
    | none => simp at hx
    | some y => simp at hx; exact ⟨y, hx⟩
  unfold comp1 at h
  cases op <;> simp only [reduceCtorEq, Option.some.injEq] at h
  all_goals try (repeat' split at h)
  all_goals try (cases h; done)
  all_goals try exact compEq_refs h
  all_goals try exact compConv_refs h
  all_goals try exact compBuild_refs h
  all_goals try exact compBi_refs h
  all_goals
    cases h
    intro x hx
    simp only [AOp.refs, List.mem_cons, List.not_mem_nil, or_false, List.mem_append] at hx
    repeat' first
      | exact ⟨_, hx⟩
      | exact hopt _ _ hx
      | exact hx.elim
      | (obtain ⟨y, _, hy⟩ := List.mem_map.1 hx; exact ⟨_, hy.symm⟩)
      | rcases hx with hx | hx
theorem rowOf_refs {P : Program} {nt : Nat} {rf : Operand → Ref} {ops : Array Oper} {o : Oper} {r : CRow} (h : rowOf P nt rf ops o = some r) : ∀ x ∈ r.refs, ∃ y, x = rf y := by
  obtain ⟨hg, hc, _, _⟩ := rowOf_spec h
  intro x hx
  unfold CRow.refs at hx
  rcases List.mem_append.1 hx with hx | hx
  · unfold guardOf at hg
    cases hgd : r.guard with
    | none => rw [hgd] at hx; simp at hx
    | some g =>
      rw [hgd] at hx hg
      simp only [List.mem_cons, List.not_mem_nil, or_false] at hx
      split at hg
      · cases hg
      · split at hg
        · simp only [Option.some.injEq] at hg; rw [hx, ← hg]; exact ⟨_, rfl⟩
        · cases hg
  · unfold copOf at hc
    split at hc
    · simp only [Option.some.injEq] at hc
      rw [← hc] at hx
      simp only [COp.refs, List.mem_cons, List.mem_map] at hx
      rcases hx with hx | ⟨y, _, hy⟩
      · exact ⟨_, hx⟩
      · exact ⟨y, hy.symm⟩
    · rw [← Option.some.inj hc] at hx; simp only [COp.refs, List.mem_cons, List.not_mem_nil, or_false] at hx; exact ⟨_, hx⟩
    · rw [← Option.some.inj hc] at hx; simp only [COp.refs, List.mem_cons, List.not_mem_nil, or_false] at hx; exact ⟨_, hx⟩
    · rw [← Option.some.inj hc] at hx; simp only [COp.refs, List.mem_cons, List.not_mem_nil, or_false] at hx; exact ⟨_, hx⟩
    · split at hc
      · rename_i a ha
        simp only [Option.some.injEq] at hc
        rw [← hc] at hx
        exact comp1_refs ha x hx
      · simp only [Option.some.injEq] at hc
        rw [← hc] at hx; simp [COp.refs, AOp.refs] at hx
def valD (vals : T AV) (i : Nat) : AV := match vals.get i with
  | some v => v
  | none => .top
def evR (env vals : T AV) : Ref → AV
  | .op k => valD vals k
  | .slot t => match env.get t with
    | some v => v
    | none => .top
  | .lit v => v
mutual
/-- Alike for sure. -/
def same (A : Ar) : AV → AV → Bool
  | .bool a, .bool b => a == b
  | .int k a, .int k' b => decide (k = k') && A.eq a b
  | .str a, .str b => A.seq a b
  | .ptr b o, .ptr b' o' => Nat.beq b b' && A.eqN o o'
  | .nilptr, .nilptr => true
  | .sl b o n k e z, .sl b' o' n' k' e' z' => Nat.beq b b' && A.eqN o o' && A.eqN n n' && A.eqN k k' && (e == e') && Nat.beq z z'
  | .nilsl, .nilsl => true
  | .map b, .map b' => Nat.beq b b'
  | .nilmap, .nilmap => true
  | .yld b, .yld b' => Nat.beq b b'
  | .fn f xs ys, .fn f' xs' ys' => decide (f = f') && sames A xs xs' && sames A ys ys'
  | .nilfn, .nilfn => true
  | .ifc t a, .ifc t' b => Nat.beq t t' && same A a b
  | .nilifc, .nilifc => true
  | .agg l, .agg m => sames A l m
  | .ints k l, .ints k' m => decide (k = k') && A.ieq l m
  | .tup l, .tup m => sames A l m
  | _, _ => false
def sames (A : Ar) : List AV → List AV → Bool
  | [], [] => true
  | a :: l, b :: m => same A a b && sames A l m
  | _, _ => false
end
mutual
theorem same_eq : ∀ (a b : AV), same std a b = true → a = b
  | .bool a, .bool b, h => by simp [same] at h; rw [h]
  | .int k a, .int k' b, h => by simp [same, std] at h; rw [h.1, h.2]
  | .str a, .str b, h => by simp [same, std] at h; rw [h]
  | .ptr b o, .ptr b' o', h => by simp [same, std] at h; rw [h.1, h.2]
  | .nilptr, .nilptr, _ => rfl
  | .sl b o n k e z, .sl b' o' n' k' e' z', h => by
    simp [same, std] at h
    obtain ⟨⟨⟨⟨⟨h1, h2⟩, h3⟩, h4⟩, h5⟩, h6⟩ := h
    rw [h1, h2, h3, h4, h5, h6]
  | .nilsl, .nilsl, _ => rfl
  | .map b, .map b', h => by simp [same] at h; rw [h]
  | .nilmap, .nilmap, _ => rfl
  | .yld b, .yld b', h => by simp [same] at h; rw [h]
  | .fn f xs ys, .fn f' xs' ys', h => by
    simp only [same, Bool.and_eq_true, decide_eq_true_eq] at h
    rw [h.1.1, sames_eq xs xs' h.1.2, sames_eq ys ys' h.2]
  | .nilfn, .nilfn, _ => rfl
  | .ifc t a, .ifc t' b, h => by
    simp only [same, Bool.and_eq_true, Nat.beq_eq] at h
    rw [h.1, same_eq a b h.2]
  | .nilifc, .nilifc, _ => rfl
  | .agg l, .agg m, h => by
    simp only [same] at h
    rw [sames_eq l m h]
  | .ints k l, .ints k' m, h => by simp [same, std] at h; rw [h.1, h.2]
  | .tup l, .tup m, h => by
    simp only [same] at h
    rw [sames_eq l m h]
  | .top, b, h => by cases b <;> simp [same] at h
  | .bool _, .top, h => by simp [same] at h
theorem sames_eq : ∀ (a b : List AV), sames std a b = true → a = b
  | [], [], _ => rfl
  | a :: l, b :: m, h => by
    simp only [sames, Bool.and_eq_true] at h
    rw [same_eq a b h.1, sames_eq l m h.2]
  | [], _ :: _, h => by simp [sames] at h
  | _ :: _, [], h => by simp [sames] at h
end
/-- What was loaded is still there. -/
def rechk (A : Ar) (Γ : Gam) (env : T AV) (all : List (Nat × CRow)) (vals : T AV) (σ : AH) : List Nat → Bool
  | [] => true
  | k :: l => match all.find? fun p => Nat.beq p.1 k with
    | some q => match gstep A Γ (evR env vals) σ q.2 with
      | (ok, v, _) => ok && same A v (valD vals k) && rechk A Γ env all vals σ l
    | none => false
theorem rechk_mem {Γ : Gam} {env vals : T AV} {all : List (Nat × CRow)} {σ : AH} : ∀ {l : List Nat}, rechk std Γ env all vals σ l = true → ∀ k ∈ l, ∃ q ∈ all, q.1 = k ∧ (gstep std Γ (evR env vals) σ q.2).1 = true ∧ (gstep std Γ (evR env vals) σ q.2).2.1 = valD vals k
  | [], _, q, hq => by cases hq
  | j :: l, h, k, hk => by
    unfold rechk at h
    cases hf : all.find? fun p => Nat.beq p.1 j with
    | none => rw [hf] at h; cases h
    | some q =>
      rw [hf] at h
      simp only [Bool.and_eq_true] at h
      rcases List.mem_cons.1 hk with rfl | hk
      · have h1 := List.find?_some hf
        exact ⟨q, List.mem_of_find?_eq_some hf, Nat.eq_of_beq_eq_true h1, h.1.1, same_eq _ _ h.1.2⟩
      · exact rechk_mem h.2 k hk
def evD (A : Ar) (Γ : Gam) (env : T AV) (all : List (Nat × CRow)) (rc : Nat → List Nat) : List (Nat × CRow) → T AV → AH → Bool × T AV × AH
  | [], vals, σ => (true, vals, σ)
  | p :: l, vals, σ => match gstep A Γ (evR env vals) σ p.2 with
    | (ok, v, σ') => match evD A Γ env all rc l (vals.put p.1 v) σ' with
      | (ok', x) => (ok && rechk A Γ env all (vals.put p.1 v) σ' (rc p.1) && ok', x)
theorem evD_cons {A : Ar} {Γ : Gam} {env : T AV} {all : List (Nat × CRow)} {rc : Nat → List Nat} (p : Nat × CRow) (l : List (Nat × CRow)) (vals : T AV) (σ : AH) : evD A Γ env all rc (p :: l) vals σ = match gstep A Γ (evR env vals) σ p.2 with
    | (ok, v, σ') => match evD A Γ env all rc l (vals.put p.1 v) σ' with
      | (ok', x) => (ok && rechk A Γ env all (vals.put p.1 v) σ' (rc p.1) && ok', x) := rfl
theorem evD_append {A : Ar} {Γ : Gam} {env : T AV} {all : List (Nat × CRow)} {rc : Nat → List Nat} : ∀ (l m : List (Nat × CRow)) (vals vals' : T AV) (σ σ' : AH), evD A Γ env all rc l vals σ = (true, vals', σ') → evD A Γ env all rc (l ++ m) vals σ = evD A Γ env all rc m vals' σ'
  | [], m, vals, vals', σ, σ', h => by cases h; rfl
  | p :: l, m, vals, vals', σ, σ', h => by
    rw [evD_cons] at h
    rw [List.cons_append, evD_cons]
    generalize gstep A Γ (evR env vals) σ p.2 = g at h
    obtain ⟨ok, v, σ1⟩ := g
    simp only at h ⊢
    generalize rechk A Γ env all (vals.put p.1 v) σ1 (rc p.1) = k at h
    generalize hr : evD A Γ env all rc l (vals.put p.1 v) σ1 = r at h
    obtain ⟨ok', x⟩ := r
    simp only [Prod.mk.injEq, Bool.and_eq_true] at h
    obtain ⟨⟨⟨rfl, rfl⟩, rfl⟩, rfl⟩ := h
    rw [evD_append l m _ _ _ _ hr]
    generalize evD A Γ env all rc m vals' σ' = s
    obtain ⟨k, y⟩ := s
    simp
def lastW (ops : Array Oper) (t : Tmp) : List Nat → Option Nat
  | [] => none
  | k :: l => match lastW ops t l with
    | some j => some j
    | none => bif dstAt ops k == some t then some k else none
theorem lastW_cons (ops : Array Oper) (t : Tmp) (k : Nat) (l : List Nat) : lastW ops t (k :: l) = match lastW ops t l with
    | some j => some j
    | none => bif dstAt ops k == some t then some k else none := rfl
theorem lastW_mem {ops : Array Oper} {t : Tmp} : ∀ {l : List Nat} {k : Nat}, lastW ops t l = some k → k ∈ l
  | [], _, h => by cases h
  | j :: l, k, h => by
    unfold lastW at h
    split at h
    · rename_i i hi; cases h; exact List.mem_cons_of_mem _ (lastW_mem hi)
    · cases hd : dstAt ops j == some t <;> rw [hd] at h <;> cases h
      exact List.mem_cons_self
theorem actOf_last {ops : Array Oper} {vs : Nat → Value} {t : Tmp} : ∀ (l : List Nat) (a : Act), t < a.tmps.size → (actOf ops a vs l).tmps[t]? = match lastW ops t l with
    | some k => some (vs k)
    | none => a.tmps[t]?
  | [], a, _ => rfl
  | k :: l, a, h => by
    show (actOf ops (a.put (dstAt ops k) (vs k)) vs l).tmps[t]? = _
    rw [actOf_last l _ (by rw [put_size]; exact h), lastW_cons]
    cases lastW ops t l with
    | some j => rfl
    | none =>
      simp only
      cases hd : dstAt ops k == some t
      · simp only [cond_false]
        cases hk : dstAt ops k with
        | none => rfl
        | some d =>
          have : d ≠ t := fun e => by rw [hk, e] at hd; simp at hd
          simp [Act.put, Array.getElem?_setIfInBounds_ne this]
      · simp only [cond_true]
        rw [beq_iff_eq.1 hd]
        simp [Act.put, h]
def rfD (G : Nat) (ops : Array Oper) (Bi : List Nat) (o : Oper) : Operand → Ref
  | .tmp t => bif (o.looksAt ops).contains t then (match lastW ops t Bi with | some k => .op k | none => .slot t) else .lit .top
  | .const v => rfS G (.const v)
  | .global g => rfS G (.global g)
  | .func f => rfS G (.func f)
theorem rfD_op {G : Nat} {ops : Array Oper} {Bi : List Nat} {o : Oper} {x : Operand} {k : Nat} (h : rfD G ops Bi o x = .op k) : k ∈ Bi := by
  cases x with
  | tmp t =>
    simp only [rfD] at h
    cases hc : (o.looksAt ops).contains t <;> rw [hc] at h
    · cases h
    · simp only [cond_true] at h
      cases hl : lastW ops t Bi with
      | none => rw [hl] at h; cases h
      | some j => rw [hl] at h; cases h; exact lastW_mem hl
  | const v => cases h
  | global g => cases h
  | func f => cases h
/-- The rows, in the order in which they are reckoned. -/
def stepsOf (P : Program) (nt G : Nat) (ops : Array Oper) (B : List (List Nat)) : List Nat → Option (List (Nat × CRow))
  | [] => some []
  | i :: l => match ops[i]? with
    | none => none
    | some o => match rowOf P nt (rfD G ops (B.getD i []) o) ops o with
      | none => none
      | some r => match stepsOf P nt G ops B l with
        | none => none
        | some rs => some ((i, r) :: rs)
theorem stepsOf_spec {P : Program} {nt G : Nat} {ops : Array Oper} {B : List (List Nat)} : ∀ {l : List Nat} {st : List (Nat × CRow)}, stepsOf P nt G ops B l = some st →
    st.map (·.1) = l ∧ ∀ p ∈ st, ∃ o, ops[p.1]? = some o ∧ rowOf P nt (rfD G ops (B.getD p.1 []) o) ops o = some p.2
  | [], st, h => by cases h; exact ⟨rfl, fun p hp => by cases hp⟩
  | i :: l, st, h => by
    unfold stepsOf at h
    split at h
    · cases h
    · rename_i o ho
      split at h
      · cases h
      · rename_i r hr
        split at h
        · cases h
        · rename_i rs hrs
          cases h
          obtain ⟨h1, h2⟩ := stepsOf_spec hrs
          refine ⟨by simp [h1], fun p hp => ?_⟩
          rcases List.mem_cons.1 hp with rfl | hp
          · exact ⟨o, ho, hr⟩
          · exact h2 p hp
def hasId (l : List (Nat × CRow)) (k : Nat) : Bool := l.any fun p => p.1 == k
theorem hasId_iff {l : List (Nat × CRow)} {k : Nat} : hasId l k = true ↔ ∃ r, (k, r) ∈ l := by
  unfold hasId
  rw [List.any_eq_true]
  constructor
  · rintro ⟨p, hp, hk⟩; rw [beq_iff_eq] at hk; subst hk; exact ⟨p.2, hp⟩
  · rintro ⟨r, hr⟩; exact ⟨(k, r), hr, by simp⟩
/-- The order keeps the edges; what writes or calls is a bar: what stands behind it in the order comes behind it in every order, what loads ahead of it comes ahead. -/
def chkOrd (pu : FuncId → Bool) (B : List (List Nat)) (rc : Nat → List Nat) (done : List (Nat × CRow)) : List (Nat × CRow) → Bool
  | [] => true
  | p :: l => (B.getD p.1 []).all (hasId done) && !hasId done p.1 && done.all (fun q => !(kd pu q.2 == .S) || (B.getD p.1 []).contains q.1) &&
      (!(kd pu p.2 == .S) || done.all fun q => !(kd pu q.2 == .L) || (B.getD p.1 []).contains q.1 || (rc p.1).contains q.1) && chkOrd pu B rc (done ++ [p]) l
theorem chkOrd_spec {pu : FuncId → Bool} {B : List (List Nat)} {rc : Nat → List Nat} : ∀ (l done : List (Nat × CRow)), chkOrd pu B rc done l = true → ∀ mid p rest, l = mid ++ p :: rest →
    (∀ k ∈ B.getD p.1 [], ∃ r, (k, r) ∈ done ++ mid) ∧ (∀ q ∈ done ++ mid, q.1 ≠ p.1) ∧ (∀ q ∈ done ++ mid, kd pu q.2 = .S → q.1 ∈ B.getD p.1 []) ∧ (kd pu p.2 = .S → ∀ q ∈ done ++ mid, kd pu q.2 = .L → q.1 ∈ B.getD p.1 [] ∨ q.1 ∈ rc p.1)
  | [], done, _, mid, p, rest, e => by cases mid <;> cases e
  | x :: l, done, h, [], p, rest, e => by
    cases e
    simp only [chkOrd, Bool.and_eq_true, List.all_eq_true, Bool.not_eq_true', Bool.or_eq_true, beq_eq_false_iff_ne, List.contains_iff_mem] at h
    obtain ⟨⟨⟨⟨h1, h2⟩, h3⟩, h4⟩, _⟩ := h
    rw [List.append_nil]
    refine ⟨fun k hk => hasId_iff.1 (h1 k hk), fun q hq e => ?_, fun q hq hs => (h3 q hq).resolve_left (fun hn => hn hs), fun hp q hq hl => ?_⟩
    · have : hasId done x.1 = true := hasId_iff.2 ⟨q.2, by rw [← e]; exact hq⟩
      rw [this] at h2; cases h2
    · rcases (h4.resolve_left (fun hn => hn hp)) q hq with (h | h) | h
      · exact absurd hl h
      · exact .inl h
      · exact .inr h
  | x :: l, done, h, y :: mid, p, rest, e => by
    simp only [List.cons_append, List.cons.injEq] at e
    obtain ⟨rfl, rfl⟩ := e
    unfold chkOrd at h
    rw [Bool.and_eq_true] at h
    have := chkOrd_spec _ _ h.2 mid p rest rfl
    rwa [List.append_assoc, List.singleton_append] at this
end
end Go.Proofs.YtjgmpdklfcmelaaGreatDoor.V2
namespace Go.Proofs.YtjgmpdklfcmelaaGreatDoor.V2
open Go
noncomputable section
theorem HR.fill {ρ : Ren} {σ : AH} {W : World} (h : HR ρ σ W) {b : Nat} {o : AObj} {x : Obj} {s : Nat} (hn : ρ b = none) (hlt : b < σ.next) (hg : σ.get b = some o) (hO : OR ρ (0, s) o (some x)) :
    ∃ ρ', ρ' b = some (W.heap.size, (0, s)) ∧ (∀ m, m ≠ b → ρ' m = ρ m) ∧ Sub ρ ρ' ∧ HR ρ' σ { W with heap := W.heap.push x } := by
  have hsub : Sub ρ (fun m => if m = b then some (W.heap.size, (0, s)) else ρ m) := fun m y hy => by
    have hne : m ≠ b := by rintro rfl; rw [hn] at hy; cases hy
    simp only [if_neg hne]; exact hy
  refine ⟨fun m => if m = b then some (W.heap.size, (0, s)) else ρ m, if_pos rfl, fun m hm => if_neg hm, hsub, ⟨h.small, h.none_, fun m c d hc => ?_, fun m m' c d d' h1 h2 hne => ?_⟩⟩
  · by_cases hm : m = b
    · subst hm
      simp only [if_true, Option.some.injEq, Prod.mk.injEq] at hc
      obtain ⟨rfl, rfl⟩ := hc
      refine ⟨hlt, by simp, o, hg, ?_⟩
      have : (W.heap.push x)[W.heap.size]? = some x := by simp
      rw [this]
      exact hO.mono hsub
    · simp only [if_neg hm] at hc
      obtain ⟨h1, h2, o2, h3, h4⟩ := h.dom m c d hc
      refine ⟨h1, by simp; omega, o2, h3, ?_⟩
      have : (W.heap.push x)[c]? = W.heap[c]? := by rw [Array.getElem?_push, if_neg (by omega)]
      rw [this]
      exact h4.mono hsub
  · by_cases e1 : m = b
    · subst e1
      simp only [if_true, Option.some.injEq, Prod.mk.injEq] at h1
      obtain ⟨rfl, rfl⟩ := h1
      simp only [if_neg (Ne.symm hne)] at h2
      have := (h.dom _ _ _ h2).2.1
      omega
    · by_cases e2 : m' = b
      · subst e2
        simp only [if_true, Option.some.injEq, Prod.mk.injEq] at h2
        obtain ⟨rfl, rfl⟩ := h2
        simp only [if_neg e1] at h1
        have := (h.dom _ _ _ h1).2.1
        omega
      · simp only [if_neg e1, if_neg e2] at h1 h2
        exact h.inj m m' c d d' h1 h2 hne
theorem AH.get_new {σ : AH} {o : AObj} (h : σ.next < 1048576) (m : Nat) : (σ.new o).get m = if m = σ.next then some o else σ.get m := T.get_put _ _ _ _ h
theorem valD_put {vals : T AV} {i : Nat} {v : AV} (h : i < 1048576) (j : Nat) : valD (vals.put i v) j = if j = i then v else valD vals j := by
  unfold valD
  rw [T.get_put _ _ _ _ h]
  by_cases hj : j = i
  · rw [if_pos hj, if_pos hj]
  · rw [if_neg hj, if_neg hj]
section
variable (P : Program) (Γ : Gam) (pu : FuncId → Bool) (ops : Array Oper) (steps : List (Nat × CRow)) (env : T AV) (ρ0 : Ren) (σ0 : AH) (W0 : World) (a0 : Act) (rc : Nat → List Nat) (bl : Nat → Nat)
structure Pend (vals : T AV) (σ : AH) (ρ : Ren) (p : Nat × CRow) : Prop where
  val : kd pu p.2 = .P ∨ kd pu p.2 = .L → (gstep std Γ (evR env vals) σ p.2).1 = true ∧ (gstep std Γ (evR env vals) σ p.2).2.1 = valD vals p.1 ∧ (gstep std Γ (evR env vals) σ p.2).2.2 = σ
  new : kd pu p.2 = .A → ∃ σ', valD vals p.1 = valA std (evR env vals) p.2 (bl p.1) ∧ σ0.next ≤ bl p.1 ∧ bl p.1 < σ.next ∧ ρ (bl p.1) = none ∧ σ.get (bl p.1) = some (objA std (evR env vals) p.2) ∧ (gstep std Γ (evR env vals) σ' p.2).1 = true
structure DSt (listed : Array Bool) (a : Act) (W : World) (done rest : List (Nat × CRow)) (vals : T AV) (σ : AH) (ρ : Ren) (vs : Nat → Value) : Prop where
  split : steps = done ++ rest
  barS : ∀ p ∈ done, kd pu p.2 = .S → lst listed p.1 = true
  only : ∀ i, lst listed i = true → ∃ r, (i, r) ∈ done
  eval : evD std Γ env steps rc done .leaf σ0 = (true, vals, σ)
  ok : (evD std Γ env steps rc rest vals σ).1 = true
  hr : HR ρ σ W
  stp : Stp σ0.next ρ0 σ0 W0 ρ σ W
  vals_ : ∀ i, lst listed i = true → VR ρ (valD vals i) (vs i)
  act : a = actOf ops a0 vs ((List.range ops.size).filter (lst listed))
  pend : ∀ p ∈ done, lst listed p.1 = false → Pend Γ pu env σ0 bl vals σ ρ p
  apart : ∀ p ∈ done, ∀ q ∈ done, kd pu p.2 = .A → kd pu q.2 = .A → p.1 ≠ q.1 → lst listed p.1 = false → lst listed q.1 = false → bl p.1 ≠ bl q.1
end
section
variable {P : Program} {Γ : Gam} {pu : FuncId → Bool} {ops : Array Oper} {steps : List (Nat × CRow)} {env : T AV} {ρ0 : Ren} {σ0 : AH} {W0 : World} {a0 : Act}
variable {nt G : Nat} {B : List (List Nat)} {order : List Nat} {rc : Nat → List Nat}
theorem nstep_tail (x : NOp) (args : List AV) : (nstep std x args).2.2.tail = true → (nstep std x args).1 = false := by
  unfold nstep
  split
  · intro h; rw [show (AObj.of (args.flatMap AV.cells) _ .exact).tail = false from (AObj.of_spec _ _ _).2.2.2.1] at h; cases h
  · split
    · intro h; cases h
    · intro _; rfl
  · split
    · intro h
      exfalso
      simp only [newCells] at h
      split at h
      · rename_i z
        cases hz : std.eq z 0 <;> rw [hz] at h <;> cases h
      · cases h
    · intro _; rfl
  · split
    · intro h; cases h
    · intro h; cases h
    · intro _; rfl
theorem objA_tail {pu : FuncId → Bool} {ev : Ref → AV} {r : CRow} {Γ : Gam} {σ : AH} (hok : (gstep std Γ ev σ r).1 = true) (h : kd pu r = .A) : (objA std ev r).tail = false := by
  unfold kd at h
  unfold objA
  split at h
  · rename_i a ha
    split at h
    · rename_i hk
      rw [ha]
      cases a <;> simp only [kdA, reduceCtorEq] at hk
      · exact (AObj.of_spec _ _ _).2.2.2.1
      · exact boxO_tail
      · rename_i x args
        split at h
        · rename_i hg
          unfold gstep at hok
          rw [hg] at hok
          simp only [ha, cstep, step, Bool.and_eq_true] at hok
          cases ht : (nstep std x (args.map ev)).2.2.tail with
          | false => rfl
          | true => rw [nstep_tail _ _ ht] at hok; cases hok.1
        · cases h
    · rename_i hk; exact absurd h hk
  · rename_i f args hf
    split at h
    · rename_i g; cases hg : pu g <;> rw [hg] at h <;> cases h
    · cases h
  · cases h
theorem refs_B (hst : stepsOf P nt G ops B order = some steps) {p : Nat × CRow} (hp : p ∈ steps) {k : Nat} (hk : Ref.op k ∈ p.2.refs) : k ∈ B.getD p.1 [] := by
  obtain ⟨o, _, hrow⟩ := (stepsOf_spec hst).2 p hp
  obtain ⟨y, hy⟩ := rowOf_refs hrow _ hk
  exact rfD_op hy.symm
theorem evR_agree {vals : T AV} {i : Nat} {v : AV} (hi : i < 1048576) {r : CRow} (h : Ref.op i ∉ r.refs) : ∀ x ∈ r.refs, evR env (vals.put i v) x = evR env vals x := fun x hx => by
  cases x with
  | op k =>
    have : k ≠ i := by rintro rfl; exact h hx
    simp only [evR, valD_put hi, if_neg this]
  | slot t => rfl
  | lit v => rfl
/-- What comes behind an operation's row is apart from it. -/
theorem ord_spec (hord : chkOrd pu B rc [] steps = true) {done rest : List (Nat × CRow)} {p : Nat × CRow} (hs : steps = done ++ p :: rest) :
    (∀ k ∈ B.getD p.1 [], ∃ r, (k, r) ∈ done) ∧ (∀ q ∈ done, q.1 ≠ p.1) ∧ (∀ q ∈ done, kd pu q.2 = .S → q.1 ∈ B.getD p.1 []) ∧ (kd pu p.2 = .S → ∀ q ∈ done, kd pu q.2 = .L → q.1 ∈ B.getD p.1 [] ∨ q.1 ∈ rc p.1) := by
  have := chkOrd_spec steps [] hord done p rest hs
  simpa using this
theorem done_refs (hst : stepsOf P nt G ops B order = some steps) (hord : chkOrd pu B rc [] steps = true) {done rest : List (Nat × CRow)} {p : Nat × CRow} (hs : steps = done ++ p :: rest) {q : Nat × CRow} (hq : q ∈ done ++ [p]) : Ref.op p.1 ∉ q.2.refs := by
  intro hmem
  obtain ⟨h1, h2, _, _⟩ := ord_spec hord hs
  rcases List.mem_append.1 hq with hq | hq
  · have hqs : q ∈ steps := by rw [hs]; exact List.mem_append_left _ hq
    have hk := refs_B hst hqs hmem
    obtain ⟨l1, l2, e⟩ := List.append_of_mem hq
    have hs' : steps = l1 ++ q :: (l2 ++ p :: rest) := by rw [hs, e]; simp
    obtain ⟨r, hr⟩ := (ord_spec hord hs').1 _ hk
    exact h2 (p.1, r) (by rw [e]; exact List.mem_append_left _ hr) rfl
  · rw [List.mem_singleton] at hq
    subst hq
    have hk := refs_B hst (by rw [hs]; simp) hmem
    obtain ⟨r, hr⟩ := h1 _ hk
    exact h2 _ hr rfl
theorem id_small (hst : stepsOf P nt G ops B order = some steps) (hsm : ops.size ≤ 1000000) {p : Nat × CRow} (hp : p ∈ steps) : p.1 < ops.size ∧ p.1 < 1048576 := by
  obtain ⟨o, ho, _⟩ := (stepsOf_spec hst).2 p hp
  have := (Array.getElem?_eq_some_iff.1 ho).1
  exact ⟨this, by omega⟩
theorem lit_evR (vals : T AV) (v : AV) : evR env vals (.lit v) = v := rfl
theorem seg (hpu : PuOk Γ pu) (hst : stepsOf P nt G ops B order = some steps) (hord : chkOrd pu B rc [] steps = true) (hsm : ops.size ≤ 1000000) {listed : Array Bool} {a : Act} {W : World} {ρ : Ren} {vs : Nat → Value} :
    ∀ (rest done : List (Nat × CRow)) (vals : T AV) (σ : AH) (bl : Nat → Nat), DSt Γ pu ops steps env ρ0 σ0 W0 a0 rc bl listed a W done rest vals σ ρ vs →
    ∃ done' rest' vals' σ' bl', DSt Γ pu ops steps env ρ0 σ0 W0 a0 rc bl' listed a W done' rest' vals' σ' ρ vs ∧ ∀ p, rest'.head? = some p → kd pu p.2 = .S := by
  intro rest
  induction rest with
  | nil => intro done vals σ bl h; exact ⟨done, [], vals, σ, bl, h, fun p hp => by cases hp⟩
  | cons p rest ih =>
    intro done vals σ bl h
    by_cases hS : kd pu p.2 = .S
    · exact ⟨done, p :: rest, vals, σ, bl, h, fun q hq => by simp at hq; rw [← hq]; exact hS⟩
    obtain ⟨hB, hdis, hbar, _⟩ := ord_spec hord h.split
    have hps : p ∈ steps := by rw [h.split]; simp
    have hi := (id_small hst hsm hps).2
    have hun : lst listed p.1 = false := by
      cases hl : lst listed p.1 with
      | false => rfl
      | true => obtain ⟨r, hr⟩ := h.only _ hl; exact absurd rfl (hdis (p.1, r) hr)
    have hok := h.ok
    rw [evD_cons] at hok
    generalize hg : gstep std Γ (evR env vals) σ p.2 = g at hok
    obtain ⟨ok, v, σ1⟩ := g
    simp only at hok
    generalize hrk : rechk std Γ env steps (vals.put p.1 v) σ1 (rc p.1) = rk at hok
    generalize hrest : evD std Γ env steps rc rest (vals.put p.1 v) σ1 = rr at hok
    obtain ⟨ok', x⟩ := rr
    simp only [Bool.and_eq_true] at hok
    obtain ⟨⟨rfl, rfl⟩, rfl⟩ := hok
    have hgok : (gstep std Γ (evR env vals) σ p.2).1 = true := by rw [hg]
    have hs0 := h.stp.next
    have hsmall := h.hr.small
    -- the memory behind
    have hmem : (σ1 = σ ∨ (kd pu p.2 = .A ∧ σ1 = σ.new (objA std (evR env vals) p.2) ∧ v = valA std (evR env vals) p.2 σ.next ∧ σ.next < 1000000)) ∧ (kd pu p.2 ≠ .A → σ1 = σ) := by
      cases hk : kd pu p.2 with
      | S => exact absurd hk hS
      | P =>
        have := kd_P (A := std) hpu (fun v => lit_evR (env := env) vals v) hk σ σ
        rw [hg] at this
        simp only [Prod.mk.injEq] at this
        exact ⟨.inl this.2.2, fun _ => this.2.2⟩
      | L =>
        have := (kd_L (Γ := Γ) hk (σ := σ) (σ' := σ) (fun _ _ h => h) hgok).2
        rw [hg] at this
        exact ⟨.inl this, fun _ => this⟩
      | A =>
        obtain ⟨h1, h2⟩ := kd_A (Γ := Γ) (A := std) hk σ hgok
        rw [hg] at h1
        simp only [Prod.mk.injEq] at h1
        rw [Nat.blt_eq] at h2
        exact ⟨.inr ⟨rfl, h1.2.2, h1.2.1, h2⟩, fun h => absurd rfl h⟩
    have hnx : σ.next ≤ σ1.next := by
      rcases hmem.1 with rfl | ⟨_, rfl, _⟩
      · exact Nat.le_refl _
      · exact Nat.le_succ _
    have hget : ∀ b, b < σ.next → σ1.get b = σ.get b := fun b hb => by
      rcases hmem.1 with rfl | ⟨_, rfl, _⟩
      · rfl
      · rw [AH.get_new (by omega), if_neg (by omega)]
    have hget' : ∀ b o, σ.get b = some o → σ1.get b = some o := fun b o hb => by
      rw [hget b (Nat.lt_of_not_le fun hle => by rw [h.hr.none_ b hle] at hb; cases hb)]; exact hb
    have hr1 : HR ρ σ1 W := h.hr.more (by
        rcases hmem.1 with rfl | ⟨_, rfl, _, hlt⟩
        · exact hsmall
        · show σ.next + 1 ≤ _; omega) (fun b hb => by
        rcases hmem.1 with rfl | ⟨_, rfl, _⟩
        · exact h.hr.none_ b hb
        · have hb : σ.next + 1 ≤ b := hb
          rw [AH.get_new (by omega), if_neg (by omega)]; exact h.hr.none_ b (by omega)) hnx hget
    have hagree : ∀ q ∈ done ++ [p], ∀ x ∈ q.2.refs, evR env (vals.put p.1 v) x = evR env vals x := fun q hq => evR_agree hi (done_refs hst hord h.split hq)
    have hval : ∀ j, j ≠ p.1 → valD (vals.put p.1 v) j = valD vals j := fun j hj => by rw [valD_put hi, if_neg hj]
    refine ih (done ++ [p]) (vals.put p.1 v) σ1 (fun j => if j = p.1 then σ.next else bl j) ⟨by rw [h.split]; simp, fun q hq hk => ?_, fun j hj => ?_, ?_, by rw [hrest], hr1, ?_, fun j hj => ?_, h.act, fun q hq hl => ?_, fun q hq q' hq' hk hk' hne hl hl' => ?_⟩
    · rcases List.mem_append.1 hq with hq | hq
      · exact h.barS q hq hk
      · rw [List.mem_singleton] at hq; subst hq; exact absurd hk hS
    · obtain ⟨r, hr⟩ := h.only j hj; exact ⟨r, List.mem_append_left _ hr⟩
    · rw [evD_append _ _ _ _ _ _ h.eval, evD_cons, hg]; simp only [hrk]; rfl
    · exact ⟨h.stp.ext, h.stp.img, Nat.le_trans hs0 hnx, fun b ob hb hn ho ht => (hget b (by omega)).trans (h.stp.keep b ob hb hn ho ht), h.stp.frame, h.stp.tape, h.stp.os, h.stp.output, h.stp.size, fun b c d ob hb hρ hc ho hr => let ⟨e1, e2⟩ := h.stp.ro b c d ob hb hρ hc ho hr; ⟨(hget b (by omega)).trans e1, e2⟩⟩
    · have hne : j ≠ p.1 := by rintro rfl; rw [hun] at hj; cases hj
      rw [hval j hne]; exact h.vals_ j hj
    · have hag := hagree q hq
      rcases List.mem_append.1 hq with hqd | hqp
      · have hne : q.1 ≠ p.1 := hdis q hqd
        have hp0 := h.pend q hqd hl
        refine ⟨fun hk => ?_, fun hk => ?_⟩
        · obtain ⟨e1, e2, e3⟩ := hp0.val hk
          rw [gstep_congr hag, hval _ hne]
          rcases hk with hk | hk
          · rw [kd_P (A := std) hpu (fun v => lit_evR (env := env) vals v) hk σ1 σ]; exact ⟨e1, e2, rfl⟩
          · rw [(kd_L (Γ := Γ) hk hget' e1).1]; exact ⟨rfl, e2, rfl⟩
        · obtain ⟨σ', e1, e2, e3, e4, e5, e6⟩ := hp0.new hk
          rw [hval _ hne, objA_congr hag, valA_congr hag, if_neg hne]
          exact ⟨σ', e1, e2, by omega, e4, by rw [hget _ e3]; exact e5, by rw [gstep_congr hag]; exact e6⟩
      · rw [List.mem_singleton] at hqp
        subst hqp
        refine ⟨fun hk => ?_, fun hk => ?_⟩
        · have e := hmem.2 (by rcases hk with hk | hk <;> rw [hk] <;> simp)
          subst e
          rw [gstep_congr hag, hg, valD_put hi, if_pos rfl]
          exact ⟨rfl, rfl, rfl⟩
        · rcases hmem.1 with e | ⟨_, e, ev, hlt⟩
          · exfalso
            obtain ⟨h1, _⟩ := kd_A (Γ := Γ) (A := std) hk σ hgok
            rw [hg] at h1
            simp only [Prod.mk.injEq] at h1
            have : σ1.next = σ.next + 1 := by rw [h1.2.2]; rfl
            rw [e] at this; omega
          · subst e; subst ev
            rw [valD_put hi, if_pos rfl, objA_congr hag, valA_congr hag, if_pos rfl]
            refine ⟨σ, rfl, hs0, Nat.lt_succ_self _, ?_, by rw [AH.get_new (by omega), if_pos rfl], by rw [gstep_congr hag]; exact hgok⟩
            cases hc : ρ σ.next with
            | none => rfl
            | some c => have := (h.hr.dom _ c.1 c.2 hc).1; omega
    · have hcase : ∀ q ∈ done ++ [p], kd pu q.2 = .A → lst listed q.1 = false → (q ∈ done ∧ (if q.1 = p.1 then σ.next else bl q.1) = bl q.1 ∧ bl q.1 < σ.next) ∨ (q = p ∧ (if q.1 = p.1 then σ.next else bl q.1) = σ.next) := fun q hq hk hl => by
        rcases List.mem_append.1 hq with hqd | hqp
        · obtain ⟨_, _, _, e3, _⟩ := (h.pend q hqd hl).new hk
          exact .inl ⟨hqd, if_neg (hdis q hqd), e3⟩
        · rw [List.mem_singleton] at hqp
          subst hqp
          exact .inr ⟨rfl, if_pos rfl⟩
      rcases hcase q hq hk hl with ⟨hqd, e1, e2⟩ | ⟨rfl, e1⟩ <;> rcases hcase q' hq' hk' hl' with ⟨hqd', e1', e2'⟩ | ⟨rfl, e1'⟩
      · rw [e1, e1']; exact h.apart q hqd q' hqd' hk hk' hne hl hl'
      · rw [e1, e1']; omega
      · rw [e1, e1']; omega
      · exact absurd rfl hne
end
end
end Go.Proofs.YtjgmpdklfcmelaaGreatDoor.V2
namespace Go.Proofs.YtjgmpdklfcmelaaGreatDoor.V2
open Go
noncomputable section
/-- The frame behind a region: each operation's value in its slot. -/
def putAll (vals : T AV) : List (Option Nat) → Nat → T AV → T AV
  | [], _, env => env
  | d :: l, i, env => putAll vals l (i + 1) (putD env d (valD vals i))
section
variable {P : Program} {Γ : Gam} {pu : FuncId → Bool} {ops : Array Oper} {steps : List (Nat × CRow)} {env : T AV} {ρ0 : Ren} {σ0 : AH} {W0 : World} {a0 : Act}
variable {nt G : Nat} {B : List (List Nat)} {order : List Nat} {rc : Nat → List Nat}
theorem putAll_er {ρ : Ren} {vals : T AV} {vs : Nat → Value} (hd : ∀ k d, dstAt ops k = some d → d < nt) (hv : ∀ k, k < ops.size → VR ρ (valD vals k) (vs k)) : ∀ (n i : Nat) (env : T AV) (a : Act), i + n = ops.size → ER G nt ρ env a →
    ER G nt ρ (putAll vals ((List.range' i n).map (dstAt ops)) i env) (actOf ops a vs (List.range' i n))
  | 0, i, env, a, _, h => h
  | n + 1, i, env, a, he, h => by
    rw [List.range'_succ, List.map_cons]
    exact putAll_er hd hv n (i + 1) _ _ (by omega) (h.put (hd i) (hv i (by omega)))
structure DInv (Γ : Gam) (pu : FuncId → Bool) (ops : Array Oper) (steps : List (Nat × CRow)) (B : List (List Nat)) (env : T AV) (ρ0 : Ren) (σ0 : AH) (W0 : World) (a0 : Act) (rc : Nat → List Nat) (listed : Array Bool) (a : Act) (W : World) : Prop where
  size : listed.size = ops.size
  closed : ∀ i, lst listed i = true → ∀ k ∈ B.getD i [], lst listed k = true
  ex : ∃ done rest vals σ ρ vs bl, DSt Γ pu ops steps env ρ0 σ0 W0 a0 rc bl listed a W done rest vals σ ρ vs ∧ ∀ p, rest.head? = some p → kd pu p.2 = .S
theorem wpAnyIn_of_inv {F : Fence} {n : Nat} {P : Program} {ops : Array Oper} {Q : Exit → Act → World → Prop} (J : Array Bool → Act → World → Prop)
    (hstep : ∀ listed a w, J listed a w → ∀ i ∈ Region.ready .any ops listed, wpOpIn F n P ops Q i (J (listed.setIfInBounds i true)) a w)
    (hend : ∀ listed a w, J listed a w → Region.ready .any ops listed = [] → Q .normal a w) :
    ∀ (fuel : Nat) (listed : Array Bool) (a : Act) (w : World), listed.size = ops.size → (listed.toList.filter (! ·)).length ≤ fuel → J listed a w → wpAnyIn F n P .any ops Q fuel listed a w := by
  intro fuel
  induction fuel with
  | zero =>
    intro listed a w hs hc hJ
    have hr : Region.ready .any ops listed = [] := by
      apply List.eq_nil_iff_forall_not_mem.2
      intro i hi
      have h0 := (mem_ready.1 hi).1
      have hlt : i < listed.size := by
        rcases Nat.lt_or_ge i listed.size with h | h
        · exact h
        · simp [Array.getElem?_eq_none h] at h0
      have : (false : Bool) ∈ listed.toList.filter (! ·) := List.mem_filter.2 ⟨by
        have e : listed[i] = false := by simpa [hlt] using h0
        rw [← e]; exact Array.getElem_mem_toList hlt, rfl⟩
      have := List.length_pos_of_mem this
      omega
    exact ⟨hr, hend _ _ _ hJ hr⟩
  | succ fuel ih =>
    intro listed a w hs hc hJ
    refine ⟨hend _ _ _ hJ, fun i hi => ?_⟩
    refine wpOpIn_mono (fun a' w' hJ' => ih _ a' w' (by simpa using hs) ?_ hJ') (hstep _ _ _ hJ i hi)
    have h0 := (mem_ready.1 hi).1
    have hlt : i < listed.size := by
      rcases Nat.lt_or_ge i listed.size with h | h
      · exact h
      · simp [Array.getElem?_eq_none h] at h0
    have e : listed[i] = false := by simpa [hlt] using h0
    have hcount : ∀ (l : List Bool) (i : Nat) (h : i < l.length), l[i] = false → ((l.set i true).filter (! ·)).length + 1 = (l.filter (! ·)).length := by
      intro l
      induction l with
      | nil => intro i h; simp at h
      | cons x l ih =>
        intro i h hx
        cases i with
        | zero => simp at hx; subst hx; simp
        | succ i =>
          have := ih i (by simpa using h) (by simpa using hx)
          cases x <;> simp at this ⊢ <;> omega
    have := hcount listed.toList i (by simpa using hlt) (by simpa using e)
    rw [Array.toList_setIfInBounds]
    omega
theorem kd_nd {P : Program} {nt : Nat} {rf : Operand → Ref} {ops : Array Oper} {o : Oper} {r : CRow} {pu : FuncId → Bool} (hrow : rowOf P nt rf ops o = some r) (hk : kd pu r = .A) : ∀ c, o.op ≠ .defer c := fun c e => by
  obtain ⟨_, h2, _, _⟩ := rowOf_spec hrow
  rw [e] at h2
  have h3 : r.op = .aop .badop := (Option.some.inj (show some (COp.aop .badop) = some r.op from h2)).symm
  unfold kd at hk
  rw [h3] at hk
  revert hk
  simp only [kdA]
  repeat' split
  all_goals (intro h; cases h)
theorem drawn_any {Y : List Yl} {ro : Option Nat} (hΓ : GamOk P G Γ Y) (hY0 : YInv Y ρ0 σ0 W0) (hpu : PuOk Γ pu) (hst : stepsOf P nt G ops B order = some steps) (hord : chkOrd pu B rc [] steps = true) (hall : (List.range ops.size).all (hasId steps) = true) (hsm : ops.size ≤ 1000000)
    (hchk : chkRegion ops B [] = true) (hr0 : HR ρ0 σ0 W0) (he0 : ER G nt ρ0 env a0) (hok : (evD std Γ env steps rc steps .leaf σ0).1 = true) {Q : Exit → Act → World → Prop}
    (hQ : ∀ ρ' a' W', HR ρ' (evD std Γ env steps rc steps .leaf σ0).2.2 W' → ER G nt ρ' (putAll (evD std Γ env steps rc steps .leaf σ0).2.1 (ops.toList.map (·.dst)) 0 env) a' → Stp σ0.next ρ0 σ0 W0 ρ' (evD std Γ env steps rc steps .leaf σ0).2.2 W' → a'.defers = a0.defers → Q .normal a' W') :
    wpAnyIn (fen ro) 0 P .any ops Q ops.size (Array.replicate ops.size false) a0 W0 := by
  have hchk0 := hchk
  simp only [chkRegion, Bool.and_eq_true] at hchk
  obtain ⟨⟨⟨⟨⟨_, cE⟩, cB⟩, cS⟩, cT⟩, cN⟩ := hchk
  have hE : ∀ i k, k ∈ B.getD i [] → i < ops.size → k < i ∧ ∃ o, ops[i]? = some o ∧ ∃ e ∈ o.after, Region.binds .any e = true ∧ (k = e.on ∨ k ∈ B.getD e.on []) := by
    intro i k hk hi
    have := List.all_eq_true.1 (List.all_eq_true.1 cE i (List.mem_range.2 hi)) k hk
    cases ho : ops[i]? with
    | none => rw [ho] at this; simp at this
    | some o =>
      rw [ho] at this
      simp only [Bool.and_eq_true, decide_eq_true_eq] at this
      obtain ⟨e, he, hb⟩ : ∃ e ∈ o.after, (Region.binds .any e && (k == e.on || (B.getD e.on []).contains k)) = true := by
        obtain ⟨j, hj, hb⟩ := Array.any_eq_true.1 this.2
        exact ⟨_, Array.getElem_mem hj, hb⟩
      simp only [Bool.and_eq_true, Bool.or_eq_true, beq_iff_eq, List.contains_iff_mem] at hb
      exact ⟨this.1, o, rfl, e, he, hb.1, hb.2⟩
  have hS : ∀ i k o, ops[i]? = some o → k < ops.size → k ≠ i → k ∉ B.getD i [] → i ∉ B.getD k [] → ∀ t, dstAt ops k = some t → t ∉ o.looksAt ops ∧ o.dst ≠ some t := by
    intro i k o ho hk hne h1 h2 t ht
    have hi : i < ops.size := (Array.getElem?_eq_some_iff.1 ho).1
    have := List.all_eq_true.1 cS i (List.mem_range.2 hi)
    rw [ho] at this
    have := List.all_eq_true.1 this k (List.mem_range.2 hk)
    rw [ht] at this
    simp only [Bool.or_eq_true, beq_iff_eq, List.contains_iff_mem, Bool.and_eq_true, Bool.not_eq_true', beq_eq_false_iff_ne] at this
    rcases this with ((h | h) | h) | h
    · exact absurd h hne
    · exact absurd h h1
    · exact absurd h h2
    · exact ⟨fun hm => by have := List.contains_iff_mem.2 hm; rw [this] at h; simp at h, h.2⟩
  have hdl : ∀ k d, dstAt ops k = some d → d < nt := by
    intro k d hk
    unfold dstAt at hk
    cases ho : ops[k]? with
    | none => rw [ho] at hk; cases hk
    | some o =>
      rw [ho] at hk
      have hks : k < ops.size := (Array.getElem?_eq_some_iff.1 ho).1
      obtain ⟨r, hr⟩ := hasId_iff.1 (List.all_eq_true.1 hall k (List.mem_range.2 hks))
      obtain ⟨o', ho', hrow⟩ := (stepsOf_spec hst).2 _ hr
      rw [ho] at ho'; cases ho'
      exact (rowOf_spec hrow).2.2.2 d hk
  refine wpAnyIn_of_inv (DInv Γ pu ops steps B env ρ0 σ0 W0 a0 rc) ?_ ?_ ops.size _ a0 _ (by simp) (by simp) ?_
  · -- one operation more
    intro listed a W hJ i hi
    obtain ⟨hun, o, ho, hready⟩ := mem_ready.1 hi
    have hilt : i < ops.size := (Array.getElem?_eq_some_iff.1 ho).1
    have hils : i < listed.size := by rw [hJ.size]; exact hilt
    have hnl : lst listed i = false := by
      have : listed[i] = false := by simpa [hils] using hun
      simp [lst, hils, this]
    have hBi : ∀ k ∈ B.getD i [], lst listed k = true := by
      intro k hk
      obtain ⟨_, o', ho', e, he, hb, hor⟩ := hE i k hk hilt
      rw [ho] at ho'; cases ho'
      have hon := hready e he hb
      rcases hor with rfl | hk2
      · exact hon
      · exact hJ.closed _ hon k hk2
    obtain ⟨done, rest, vals, σ, ρ, vs, bl, hD, hhead⟩ := hJ.ex
    have hiB : ∀ k, lst listed k = true → i ∉ B.getD k [] := fun k hk hik => by
      have := hJ.closed k hk i hik; rw [hnl] at this; cases this
    have hsort : B.getD i [] = (List.range ops.size).filter fun k => (B.getD i []).contains k := by
      have := List.all_eq_true.1 cT i (List.mem_range.2 hilt)
      exact beq_iff_eq.1 this
    have hsame : ∀ t ∈ o.looksAt ops, a.tmps[t]? = (actOf ops a0 vs (B.getD i [])).tmps[t]? := by
      intro t ht
      rw [hD.act, hsort]
      refine actOf_at ops vs t _ _ _ (fun k hk hd => ?_) a0 a0 rfl rfl
      have hklt := List.mem_range.1 hk
      by_cases hkB : k ∈ B.getD i []
      · rw [hBi k hkB, List.contains_iff_mem.2 hkB]
      · rw [show (B.getD i []).contains k = false from by rw [Bool.eq_false_iff]; exact fun h => hkB (List.contains_iff_mem.1 h)]
        rw [Bool.eq_false_iff]
        intro hkl
        have hki : k ≠ i := fun e => by rw [e, hnl] at hkl; cases hkl
        exact (hS i k o ho hklt hki hkB (hiB k hkl) t hd).1 ht
    have he0' : ER G nt ρ env a0 := he0.sub (hD.stp.sub hr0)
    have hev : ∀ x, VR ρ (evR env vals (rfD G ops (B.getD i []) o x)) (a.eval x) := by
      intro x
      cases x with
      | const v => exact vr_ofVal ρ v
      | global g => exact he0'.ev (.global g)
      | func f => exact he0'.ev (.func f)
      | tmp t =>
        simp only [rfD]
        cases hc : (o.looksAt ops).contains t
        · trivial
        · simp only [cond_true, Act.eval]
          have hs := hsame t (List.contains_iff_mem.1 hc)
          rw [Array.getD_eq_getD_getElem?, hs]
          cases hl : lastW ops t (B.getD i []) with
          | some k =>
            simp only [evR]
            have hkB := lastW_mem hl
            have hdk : dstAt ops k = some t := by
              have : ∀ {l : List Nat} {k : Nat}, lastW ops t l = some k → dstAt ops k = some t := by
                intro l
                induction l with
                | nil => intro k h; cases h
                | cons j l ih =>
                  intro k h
                  rw [lastW_cons] at h
                  split at h
                  · rename_i i hi; cases h; exact ih hi
                  · cases hd : dstAt ops j == some t <;> rw [hd] at h <;> cases h
                    exact beq_iff_eq.1 hd
              exact this hl
            rw [actOf_last _ _ (by rw [he0.size]; exact hdl k t hdk), hl]
            exact hD.vals_ k (hBi k hkB)
          | none =>
            simp only [evR]
            have hkeep : (actOf ops a0 vs (B.getD i [])).tmps[t]? = a0.tmps[t]? := by
              by_cases hts : t < a0.tmps.size
              · rw [actOf_last _ _ hts, hl]
              · have h1 : (actOf ops a0 vs (B.getD i [])).tmps.size ≤ t := by rw [actOf_size]; exact Nat.le_of_not_lt hts
                rw [Array.getElem?_eq_none h1, Array.getElem?_eq_none (Nat.le_of_not_lt hts)]
            rw [hkeep, ← Array.getD_eq_getD_getElem?]
            cases ht : env.get t with
            | none => trivial
            | some v => exact he0'.at_ t v ht
    have hdst : dstAt ops i = o.dst := by simp [dstAt, ho]
    have hact : ∀ v, a.put o.dst v = actOf ops a0 (upd vs i v) ((List.range ops.size).filter (lst (listed.setIfInBounds i true))) := fun v => by
      rw [actOf_insert ops a0 vs ops.size i _ (lst listed) _ hilt hnl (lst_set hils), ← hD.act, hdst]
      intro k hik hkn hkl t ht hkt
      rw [hdst] at ht
      refine (hS i k o ho hkn (by omega) (fun hkB => ?_) (hiB k hkl) t hkt).2 ht
      have := (hE i k hkB hilt).1
      omega
    have hsz' : (listed.setIfInBounds i true).size = ops.size := by simpa using hJ.size
    have hcl' : ∀ j, lst (listed.setIfInBounds i true) j = true → ∀ k ∈ B.getD j [], lst (listed.setIfInBounds i true) k = true := by
      intro j hj k hk
      rw [lst_set hils] at hj ⊢
      rcases Bool.or_eq_true_iff.1 hj with h | h
      · rw [hJ.closed j h k hk]; rfl
      · rw [beq_iff_eq.1 h] at hk; rw [hBi k hk]; rfl
    have hlf : ∀ j, lst (listed.setIfInBounds i true) j = false → j ≠ i ∧ lst listed j = false := fun j hj => by
      rw [lst_set hils, Bool.or_eq_false_iff] at hj
      exact ⟨by have := hj.2; rwa [beq_eq_false_iff_ne] at this, hj.1⟩
    have hlt' : ∀ j, lst (listed.setIfInBounds i true) j = true → j = i ∨ lst listed j = true := fun j hj => by
      rw [lst_set hils] at hj
      rcases Bool.or_eq_true_iff.1 hj with h | h
      · exact .inr h
      · exact .inl (beq_iff_eq.1 h)
    obtain ⟨r, hrs⟩ := hasId_iff.1 (List.all_eq_true.1 hall i (List.mem_range.2 hilt))
    obtain ⟨o', ho', hrow⟩ := (stepsOf_spec hst).2 _ hrs
    simp only at ho' hrow
    rw [ho] at ho'; cases ho'
    unfold wpOpIn
    simp only [ho]
    have hs0 := hD.stp.next
    rw [hD.split] at hrs
    rcases List.mem_append.1 hrs with hdn | hre
    · -- one that waits
      have hpend := hD.pend _ hdn hnl
      have hvals : ∀ {ρ' : Ren} {v : Value}, Sub ρ ρ' → VR ρ' (valD vals i) v → ∀ j, lst (listed.setIfInBounds i true) j = true → VR ρ' (valD vals j) (upd vs i v j) := by
        intro ρ' v hsub hv j hj
        by_cases hji : j = i
        · subst hji; rw [upd_self]; exact hv
        · rw [upd_ne _ _ hji]; exact (hD.vals_ j ((hlt' j hj).resolve_left hji)).mono hsub
      have hnext : ∀ {ρ' : Ren} {W' : World} {v : Value}, HR ρ' σ W' → Stp σ0.next ρ0 σ0 W0 ρ' σ W' → Sub ρ ρ' → VR ρ' (valD vals i) v → (∀ p ∈ done, kd pu p.2 = .A → p.1 ≠ i → lst listed p.1 = false → ρ (bl p.1) = none → ρ' (bl p.1) = none) →
          DInv Γ pu ops steps B env ρ0 σ0 W0 a0 rc (listed.setIfInBounds i true) (a.put o.dst v) W' := by
        intro ρ' W' v h1 h2 h3 h4 h5
        refine ⟨hsz', hcl', done, rest, vals, σ, ρ', upd vs i v, bl, ⟨hD.split, fun p hp hk => by rw [lst_set hils, hD.barS p hp hk]; rfl, fun j hj => ?_, hD.eval, hD.ok, h1, h2, hvals h3 h4, hact v, fun p hp hl => ?_, fun p hp q hq hk hk' hne hl hl' => hD.apart p hp q hq hk hk' hne (hlf _ hl).2 (hlf _ hl').2⟩, hhead⟩
        · rcases hlt' j hj with rfl | h
          · exact ⟨r, hdn⟩
          · exact hD.only j h
        · obtain ⟨hne, hl⟩ := hlf _ hl
          have hp0 := hD.pend p hp hl
          refine ⟨hp0.val, fun hk => ?_⟩
          obtain ⟨σ', e1, e2, e3, e4, e5, e6⟩ := hp0.new hk
          exact ⟨σ', e1, e2, e3, h5 p hp hk hne hl e4, e5, e6⟩
      cases hk : kd pu r with
      | S => have := hD.barS _ hdn hk; rw [hnl] at this; cases this
      | A =>
        obtain ⟨σ', e1, e2, e3, e4, e5, e6⟩ := hpend.new hk
        simp only at e1 e2 e3 e4 e5
        obtain ⟨hw, v, x, n, s, hrun, hO, hval⟩ := A_run hrow hk hev e6 W
        rw [if_pos hw]
        refine ⟨fun _ _ => trivial, ?_⟩
        rw [Oper.semAt_eq _ _ _ (kd_nd hrow hk), hrun, Oper.uponIn_value]
        obtain ⟨ρ', f1, f2, f3, f4⟩ := (hD.hr.drew n).fill e4 e3 e5 hO
        refine hnext f4 ⟨fun m hm => (f2 m (by omega)).trans (hD.stp.ext m hm), fun m c d hc => ?_, hs0, fun m ob hm hn => hD.stp.keep m ob hm hn, fun c hc hn => ?_, hD.stp.tape, hD.stp.os, hD.stp.output, by have := hD.stp.size; simp; omega, fun m c d ob hm hρ hc ho hr => let ⟨q1, q2⟩ := hD.stp.ro m c d ob hm hρ hc ho hr; ⟨q1, by
          have hcW : c < W.heap.size := Nat.lt_of_lt_of_le hc hD.stp.size
          rw [← q2]
          show (W.heap.push x)[c]? = _
          rw [Array.getElem?_push, if_neg (by omega)]⟩⟩ f3 ?_ (fun p hp hkp hne hl hn => ?_)
        · by_cases hmb : m = bl i
          · subst hmb; rw [f1] at hc; cases hc; exact .inr hD.stp.size
          · rw [f2 m hmb] at hc; exact hD.stp.img m c d hc
        · have hcW : c < W.heap.size := Nat.lt_of_lt_of_le hc hD.stp.size
          have := hD.stp.frame c hc hn
          rw [← this]
          show (W.heap.push x)[c]? = _
          rw [Array.getElem?_push, if_neg (by omega)]
        · rw [e1]
          exact hval ρ' _ f1
        · rw [f2 _ (hD.apart p hp (i, r) hdn hkp hk hne hl hnl)]
          exact hn
      | P =>
        obtain ⟨e1, e2, e3⟩ := hpend.val (.inl hk)
        refine row_sound hΓ (hY0.step (fun y hy => (hY0 y hy).lt) hD.stp) he0'.glob hrow hev hD.hr e1 fun v W' ρ' h1 h2 h3 => ?_
        simp only at e2 e3
        rw [e3] at h1 h2
        rw [e2] at h3
        exact hnext h1 (hD.stp.trans h2 hs0) (h2.sub hD.hr) h3 fun p hp hkp _ hl hn => by
          obtain ⟨_, _, _, f3, _⟩ := (hD.pend p hp hl).new hkp
          rw [h2.ext _ f3]; exact hn
      | L =>
        obtain ⟨e1, e2, e3⟩ := hpend.val (.inr hk)
        refine row_sound hΓ (hY0.step (fun y hy => (hY0 y hy).lt) hD.stp) he0'.glob hrow hev hD.hr e1 fun v W' ρ' h1 h2 h3 => ?_
        simp only at e2 e3
        rw [e3] at h1 h2
        rw [e2] at h3
        exact hnext h1 (hD.stp.trans h2 hs0) (h2.sub hD.hr) h3 fun p hp hkp _ hl hn => by
          obtain ⟨_, _, _, f3, _⟩ := (hD.pend p hp hl).new hkp
          rw [h2.ext _ f3]; exact hn
    · -- the bar
      have hisHead : ∃ rest', rest = (i, r) :: rest' := by
        cases hrr : rest with
        | nil => rw [hrr] at hre; cases hre
        | cons s rest' =>
          rw [hrr] at hre
          rcases List.mem_cons.1 hre with h | h
          · exact ⟨rest', by rw [h]⟩
          · exfalso
            obtain ⟨l1, l2, e⟩ := List.append_of_mem h
            have hsS := hhead s (by rw [hrr]; rfl)
            have hs' : steps = (done ++ s :: l1) ++ (i, r) :: l2 := by rw [hD.split, hrr, e]; simp
            have hsB := (ord_spec hord hs').2.2.1 s (by simp) hsS
            have hsl := hBi _ hsB
            obtain ⟨r', hr'⟩ := hD.only _ hsl
            have hs2 : steps = done ++ s :: rest' := by rw [hD.split, hrr]
            exact (ord_spec hord hs2).2.1 _ hr' rfl
      obtain ⟨rest', rfl⟩ := hisHead
      have hkS : kd pu r = .S := hhead _ rfl
      obtain ⟨hB, hdis, hbar, hLs⟩ := ord_spec hord hD.split
      have hps : (i, r) ∈ steps := by rw [hD.split]; simp
      have hi20 := (id_small hst hsm hps).2
      simp only at hi20 hB hdis hbar hLs
      have hok' := hD.ok
      rw [evD_cons] at hok'
      generalize hg : gstep std Γ (evR env vals) σ r = g at hok'
      obtain ⟨ok, v0, σ1⟩ := g
      simp only at hok'
      generalize hrk : rechk std Γ env steps (vals.put i v0) σ1 (rc i) = rk at hok'
      generalize hrest : evD std Γ env steps rc rest' (vals.put i v0) σ1 = rr at hok'
      obtain ⟨okr, xr⟩ := rr
      simp only [Bool.and_eq_true] at hok'
      obtain ⟨⟨rfl, rfl⟩, rfl⟩ := hok'
      have hgok : (gstep std Γ (evR env vals) σ r).1 = true := by rw [hg]
      refine row_sound hΓ (hY0.step (fun y hy => (hY0 y hy).lt) hD.stp) he0'.glob hrow hev hD.hr hgok fun v W' ρ' h1 h2 h3 => ?_
      rw [hg] at h1 h2 h3
      simp only at h1 h2 h3
      have hsub := h2.sub hD.hr
      have hvalj : ∀ j, j ≠ i → valD (vals.put i v0) j = valD vals j := fun j hj => by rw [valD_put hi20, if_neg hj]
      have hagree : ∀ q ∈ done, ∀ x ∈ q.2.refs, evR env (vals.put i v0) x = evR env vals x := fun q hq => evR_agree hi20 (done_refs hst hord hD.split (List.mem_append_left _ hq))
      have hnew : DSt Γ pu ops steps env ρ0 σ0 W0 a0 rc bl (listed.setIfInBounds i true) (a.put o.dst v) W' (done ++ [(i, r)]) rest' (vals.put i v0) σ1 ρ' (upd vs i v) := by
        refine ⟨by rw [hD.split]; simp, fun p hp hk => ?_, fun j hj => ?_, ?_, by rw [hrest], h1, hD.stp.trans h2 hs0, fun j hj => ?_, hact v, fun q hq hl => ?_, fun p hp q hq hk hk' hne hl hl' => ?_⟩
        · rw [lst_set hils]
          rcases List.mem_append.1 hp with hp | hp
          · rw [hD.barS p hp hk]; rfl
          · rw [List.mem_singleton] at hp; subst hp; simp
        · rcases hlt' j hj with rfl | h
          · exact ⟨r, by simp⟩
          · obtain ⟨r', hr'⟩ := hD.only j h; exact ⟨r', List.mem_append_left _ hr'⟩
        · rw [evD_append _ _ _ _ _ _ hD.eval, evD_cons, hg]; simp only [hrk]; rfl
        · by_cases hji : j = i
          · subst hji; rw [upd_self, valD_put hi20, if_pos rfl]; exact h3
          · rw [upd_ne _ _ hji, hvalj j hji]; exact (hD.vals_ j ((hlt' j hj).resolve_left hji)).mono hsub
        · obtain ⟨hne, hl⟩ := hlf _ hl
          have hqd : q ∈ done := by
            rcases List.mem_append.1 hq with h | h
            · exact h
            · rw [List.mem_singleton] at h; subst h; exact absurd rfl hne
          have hp0 := hD.pend q hqd hl
          refine ⟨fun hk => ?_, fun hk => ?_⟩
          · rcases hk with hk | hk
            · obtain ⟨e1, e2, _⟩ := hp0.val (.inl hk)
              rw [gstep_congr (hagree q hqd), kd_P (A := std) hpu (fun v => lit_evR (env := env) vals v) hk σ1 σ, hvalj _ hne]
              exact ⟨e1, e2, rfl⟩
            · rcases hLs hkS q hqd hk with hin | hin
              · exfalso
                have := hBi _ hin
                rw [hl] at this; cases this
              · obtain ⟨q', hq', e1, e2, e3⟩ := rechk_mem hrk q.1 hin
                have hqs : q ∈ steps := by rw [hD.split]; exact List.mem_append_left _ hqd
                obtain ⟨oq, hoq, hrq⟩ := (stepsOf_spec hst).2 q hqs
                obtain ⟨oq', hoq', hrq'⟩ := (stepsOf_spec hst).2 q' hq'
                rw [e1, hoq] at hoq'
                cases hoq'
                rw [e1, hrq] at hrq'
                simp only [Option.some.injEq] at hrq'
                rw [← hrq'] at e2 e3
                exact ⟨e2, e3, (kd_L (Γ := Γ) hk (σ := σ1) (σ' := σ1) (fun _ _ h => h) e2).2⟩
          · obtain ⟨σ', e1, e2, e3, e4, e5, e6⟩ := hp0.new hk
            rw [hvalj _ hne, objA_congr (hagree q hqd), valA_congr (hagree q hqd)]
            refine ⟨σ', e1, e2, Nat.lt_of_lt_of_le e3 h2.next, by rw [h2.ext _ e3]; exact e4, h2.keep _ _ e3 e4 e5 (objA_tail e6 hk), by rw [gstep_congr (hagree q hqd)]; exact e6⟩
        · obtain ⟨hn1, hl⟩ := hlf _ hl
          obtain ⟨hn2, hl'⟩ := hlf _ hl'
          have hd : ∀ q ∈ done ++ [(i, r)], q.1 ≠ i → q ∈ done := fun q hq hne => by
            rcases List.mem_append.1 hq with h | h
            · exact h
            · rw [List.mem_singleton] at h; subst h; exact absurd rfl hne
          exact hD.apart p (hd p hp hn1) q (hd q hq hn2) hk hk' hne hl hl'
      obtain ⟨d', r', v', s', bl', k1, k2⟩ := seg hpu hst hord hsm rest' _ _ _ _ hnew
      exact ⟨hsz', hcl', d', r', v', s', ρ', _, bl', k1, k2⟩
  · -- the end
    intro listed a W hJ hr
    have hallL : ∀ n, n ≤ ops.size → ∀ k, k < n → lst listed k = true := by
      intro n
      induction n with
      | zero => intro _ k hk; omega
      | succ n ih =>
        intro hn k hk
        have ih := ih (by omega)
        by_cases hkn : k < n
        · exact ih k hkn
        · obtain rfl : k = n := by omega
          cases hl : lst listed k with
          | true => rfl
          | false =>
            have hks : k < listed.size := by rw [hJ.size]; omega
            obtain ⟨o, ho⟩ : ∃ o, ops[k]? = some o := ⟨_, Array.getElem?_eq_getElem (by omega)⟩
            have : k ∈ Region.ready .any ops listed := by
              refine mem_ready.2 ⟨?_, o, ho, fun e he hb => ?_⟩
              · have : listed[k] = false := by simpa [lst, hks] using hl
                simp [hks, this]
              · have := List.all_eq_true.1 cB k (List.mem_range.2 (by omega))
                rw [ho] at this
                have := Array.all_eq_true_iff_forall_mem.1 this e he
                rw [hb] at this
                simp at this
                exact ih e.on this
            rw [hr] at this; cases this
    have hallL := hallL ops.size (Nat.le_refl _)
    obtain ⟨done, rest, vals, σ, ρ, vs, bl, hD, hhead⟩ := hJ.ex
    have hrest : rest = [] := by
      cases hrr : rest with
      | nil => rfl
      | cons p rest' =>
        exfalso
        have hs' : steps = done ++ p :: rest' := by rw [hD.split, hrr]
        have hps : p ∈ steps := by rw [hs']; simp
        obtain ⟨r', hr'⟩ := hD.only _ (hallL _ (id_small hst hsm hps).1)
        exact (ord_spec hord hs').2.1 _ hr' rfl
    subst hrest
    have hsd : steps = done := by rw [hD.split]; simp
    have hev := hD.eval
    rw [← hsd] at hev
    have hfil : (List.range ops.size).filter (lst listed) = List.range ops.size := List.filter_eq_self.2 fun k hk => hallL k (List.mem_range.1 hk)
    have hact := hD.act
    rw [hfil] at hact
    have hdd : ops.toList.map (·.dst) = (List.range' 0 ops.size).map (dstAt ops) := by
      apply List.ext_getElem?
      intro j
      rw [List.getElem?_map, List.getElem?_map, Array.getElem?_toList]
      by_cases hj : j < ops.size
      · rw [List.getElem?_range' hj]
        simp [dstAt, hj]
      · rw [Array.getElem?_eq_none (by omega), List.getElem?_eq_none (by simp; omega)]; rfl
    refine hQ ρ a W (by rw [hev]; exact hD.hr) ?_ (by rw [hev]; exact hD.stp) (by rw [hact, actOf_defers])
    rw [hev, hdd, hact, List.range_eq_range']
    exact putAll_er hdl (fun k hk => hD.vals_ k (hallL k hk)) ops.size 0 env a0 (by omega) (he0.sub (hD.stp.sub hr0))
  · -- the begin
    have hf : ∀ i, lst (Array.replicate ops.size false) i = false := fun i => by
      unfold lst; rw [Array.getD_eq_getD_getElem?, Array.getElem?_replicate]; split <;> rfl
    have hstart : DSt Γ pu ops steps env ρ0 σ0 W0 a0 rc (fun _ => 0) (Array.replicate ops.size false) a0 W0 [] steps .leaf σ0 ρ0 (fun _ => undef) := by
      refine ⟨rfl, fun p hp => (by cases hp), fun i hi => (by rw [hf] at hi; cases hi), rfl, hok, hr0, Stp.refl (Nat.le_refl _), fun i hi => (by rw [hf] at hi; cases hi), ?_, fun p hp => (by cases hp), fun p hp => (by cases hp)⟩
      have : (List.range ops.size).filter (lst (Array.replicate ops.size false)) = [] := List.filter_eq_nil_iff.2 fun k hk => by rw [hf]; simp
      rw [this]; rfl
    obtain ⟨d', r', v', s', bl', k1, k2⟩ := seg hpu hst hord hsm steps [] _ _ _ hstart
    exact ⟨by simp, fun i hi => (by rw [hf] at hi; cases hi), d', r', v', s', ρ0, _, bl', k1, k2⟩
end
end
end Go.Proofs.YtjgmpdklfcmelaaGreatDoor.V2
namespace Go.Proofs.YtjgmpdklfcmelaaGreatDoor.V2
open Go
noncomputable section
def sameTl : Tl → Tl → Bool
  | .exact, .exact => true
  | .more, .more => true
  | .ro, .ro => true
  | _, _ => false
theorem sameTl_eq {a b : Tl} (h : sameTl a b = true) : a = b := by cases a <;> cases b <;> first | rfl | cases h
def samesP (A : Ar) : List (AV × AV) → List (AV × AV) → Bool
  | [], [] => true
  | p :: l, q :: m => same A p.1 q.1 && same A p.2 q.2 && samesP A l m
  | _, _ => false
theorem samesP_eq : ∀ {a b : List (AV × AV)}, samesP std a b = true → a = b
  | [], [], _ => rfl
  | (p1, p2) :: l, (q1, q2) :: m, h => by
    simp only [samesP, Bool.and_eq_true] at h
    rw [same_eq _ _ h.1.1, same_eq _ _ h.1.2, samesP_eq h.2]
  | [], _ :: _, h => by cases h
  | _ :: _, [], h => by cases h
def sameO (A : Ar) : AObj → AObj → Bool
  | .dead, .dead => true
  | .cells l e t, .cells l' e' t' => sames A l l' && Nat.beq e e' && sameTl t t'
  | .ints k l e t, .ints k' l' e' t' => decide (k = k') && A.ieq l l' && Nat.beq e e' && sameTl t t'
  | .map l, .map l' => samesP A l l'
  | .hid, .hid => true
  | _, _ => false
theorem sameO_eq {a b : AObj} (h : sameO std a b = true) : a = b := by
  cases a <;> cases b <;> try (cases h; done)
  · rfl
  · simp only [sameO, Bool.and_eq_true, Nat.beq_eq] at h
    rw [sames_eq _ _ h.1.1, h.1.2, sameTl_eq h.2]
  · simp only [sameO, Bool.and_eq_true, Nat.beq_eq, std, decide_eq_true_eq] at h
    rw [h.1.1.1, h.1.1.2, h.1.2, sameTl_eq h.2]
  · rw [samesP_eq h]
  · rfl
def eqT (A : Ar) : T AObj → T AObj → Bool
  | .leaf, .leaf => true
  | .node v l r, .node v' l' r' => (match v, v' with
    | none, none => true
    | some a, some b => sameO A a b
    | _, _ => false) && eqT A l l' && eqT A r r'
  | _, _ => false
theorem eqT_eq : ∀ {a b : T AObj}, eqT std a b = true → a = b
  | .leaf, .leaf, _ => rfl
  | .node v l r, .node v' l' r', h => by
    simp only [eqT, Bool.and_eq_true] at h
    obtain ⟨⟨h1, h2⟩, h3⟩ := h
    have e : v = v' := by
      cases v <;> cases v' <;> try (cases h1; done)
      · rfl
      · rw [sameO_eq h1]
    rw [e, eqT_eq h2, eqT_eq h3]
  | .leaf, .node _ _ _, h => by cases h
  | .node _ _ _, .leaf, h => by cases h
def meetO (A : Ar) : Option AV → Option AV → Option AV
  | some a, some b => bif same A a b then some a else none
  | _, _ => none
/-- What both frames say. -/
def meetT (A : Ar) : T AV → T AV → T AV
  | .node v l r, .node v' l' r' => .node (meetO A v v') (meetT A l l') (meetT A r r')
  | .leaf, _ => .leaf
  | .node _ _ _, .leaf => .leaf
theorem meetT_get : ∀ (a b : T AV) (n : Nat) (v : AV), (meetT std a b).get n = some v → a.get n = some v ∧ b.get n = some v
  | .leaf, b, n, v, h => by
    have h : (T.leaf : T AV).get n = some v := h
    rw [T.get_leaf] at h; cases h
  | .node x l r, .leaf, n, v, h => by
    have h : (T.leaf : T AV).get n = some v := h
    rw [T.get_leaf] at h; cases h
  | .node x l r, .node x' l' r', n, v, h => by
    have e : meetT std (.node x l r) (.node x' l' r') = .node (meetO std x x') (meetT std l l') (meetT std r r') := rfl
    rw [e, T.get_eq] at h
    rw [T.get_eq, T.get_eq (.node x' l' r')]
    cases hn : Nat.beq n 0 with
    | true =>
      rw [hn] at h
      have h : meetO std x x' = some v := h
      show x = some v ∧ x' = some v
      cases x with
      | none => cases h
      | some a =>
        cases x' with
        | none => cases h
        | some b =>
          have h : (bif same std a b then some a else none) = some v := h
          cases hs : same std a b with
          | false => rw [hs] at h; cases h
          | true => rw [hs] at h; cases h; exact ⟨rfl, by rw [same_eq _ _ hs]⟩
    | false =>
      rw [hn] at h
      cases ho : Nat.beq (n % 2) 1 with
      | true => rw [ho] at h; exact meetT_get l l' (n / 2) v h
      | false => rw [ho] at h; exact meetT_get r r' (n / 2 - 1) v h
end
end Go.Proofs.YtjgmpdklfcmelaaGreatDoor.V2
