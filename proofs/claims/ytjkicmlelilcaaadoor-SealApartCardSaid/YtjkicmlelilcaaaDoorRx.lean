/- A region that draws its order and only makes memory: each operation met once. -/
import Derived.Test.YtjkicmlelilcaaaDoorRg
import Derived.Below
namespace Go.Proofs.YtjkicmlelilcaaaDoor
open Go Go.RowKit

/-- All that was there is as it was. -/
def Ext (x y : World) : Prop := Below x.heap.size x y
theorem Ext.refl (x : World) : Ext x x := Below.refl _ _
theorem Ext.trans {x y z : World} (h : Ext x y) (h' : Ext y z) : Ext x z := Below.trans h (h'.mono h.size)
def actD (ds : List (Option Tmp)) (a0 : Act) (vs : Nat → Value) (l : List Nat) : Act := l.foldl (fun a k => a.put (ds.getD k none) (vs k)) a0
/-- A fact on a value; 'true': whatever the world. -/
abbrev Phi := Bool × (Value → World → Prop)
def phi (φs : List Phi) (k : Nat) : Value → World → Prop := (φs.getD k (true, fun _ _ => True)).2
/-- Of which operation's value fact k speaks: its own, or the listed one's. -/
def tgOf (T : List (Nat × Nat)) (k : Nat) : Nat := (T.lookup k).getD k
def PreX (T : List (Nat × Nat)) (φs : List Phi) (vs : Nat → Value) (W : World) : List Nat → Prop
  | [] => True
  | k :: l => phi φs k (vs (tgOf T k)) W ∧ PreX T φs vs W l
/-- What stands at the end: what nobody has spoilt. -/
def EndX (T : List (Nat × Nat)) (φs : List Phi) (X : List (List Nat)) (vs : Nat → Value) (W : World) : List Nat → Prop
  | [] => True
  | k :: l => (X.getD k [] = [] → phi φs k (vs (tgOf T k)) W) ∧ EndX T φs X vs W l
def Keeps (φ : Phi) : Prop := match φ.1 with
  | true => ∀ v W W', φ.2 v W → φ.2 v W'
  | false => ∀ v W W', Ext W W' → φ.2 v W → φ.2 v W'
def StX : List Phi → Prop
  | [] => True
  | φ :: l => Keeps φ ∧ StX l
/-- What operation i does to the world, in a region that began at w: ws: those that write what the region made. -/
def Does (w : World) (ws : List Nat) (i : Nat) (W W' : World) : Prop := if ws.contains i = true then Below w.heap.size W W' else Ext W W'
/-- Whatever values the listed operations have left. -/
def ForV (T : List (Nat × Nat)) (φs : List Phi) (ds : List (Option Tmp)) (W : World) (G : (Nat → Value) → Act → Prop) : List Nat → (Nat → Value) → Act → Prop
  | [], vs, a => G vs a
  | k :: l, vs, a => ∀ v, (tgOf T k = k → phi φs k v W) → ForV T φs ds W G l (upd vs k v) (a.put (ds.getD k none) v)
def ForE (T : List (Nat × Nat)) (φs : List Phi) (X : List (List Nat)) (ds : List (Option Tmp)) (W : World) (G : Act → Prop) : List Nat → (Nat → Value) → Act → Prop
  | [], _, a => G a
  | k :: l, vs, a => ∀ v, (X.getD k [] = [] → phi φs k (upd vs k v (tgOf T k)) W) → ForE T φs X ds W G l (upd vs k v) (a.put (ds.getD k none) v)
def ObX (P : Program) (ops : Array Oper) (ds : List (Option Tmp)) (a0 : Act) (w : World) (ws : List Nat) (B : List (List Nat)) (T : List (Nat × Nat)) (φs : List Phi) : List Oper → Nat → Prop
  | [], _ => True
  | o :: l, i => (∀ W, Below w.heap.size w W → ForV T φs ds W (fun vs a => OpV P ops o a W fun v W' => Does w ws i W W' ∧ phi φs i (upd vs i v (tgOf T i)) W') (B.getD i []) (fun _ => undef) a0) ∧ ObX P ops ds a0 w ws B T φs l (i + 1)
theorem actD_eq {ops : Array Oper} {ds : List (Option Tmp)} (h : ops.toList.map (·.dst) = ds) (vs : Nat → Value) (l : List Nat) : ∀ a0, actOf ops a0 vs l = actD ds a0 vs l := by
  have hd : ∀ k, dstAt ops k = ds.getD k none := fun k => by
    subst h
    unfold dstAt
    rw [List.getD_eq_getElem?_getD, List.getElem?_map, Array.getElem?_toList]
    cases ops[k]? <;> rfl
  induction l with
  | nil => intro a0; rfl
  | cons k l ih =>
    intro a0
    show actOf ops (a0.put (dstAt ops k) (vs k)) vs l = actD ds (a0.put (ds.getD k none) (vs k)) vs l
    rw [hd, ih]
theorem PreX.of {T : List (Nat × Nat)} {φs : List Phi} {vs : Nat → Value} {W : World} : ∀ (l : List Nat), (∀ k ∈ l, phi φs k (vs (tgOf T k)) W) → PreX T φs vs W l := by
  intro l
  induction l with
  | nil => intro _; trivial
  | cons k l ih => intro h; exact ⟨h k List.mem_cons_self, ih fun j hj => h j (List.mem_cons_of_mem _ hj)⟩
theorem OpV.mono {P : Program} {ops : Array Oper} {o : Oper} {a : Act} {w : World} {K K' : Value → World → Prop} (h : OpV P ops o a w K) (hk : ∀ v w', K v w' → K' v w') : OpV P ops o a w K' := by
  unfold OpV at *
  simp only [wpList] at *
  split
  · rename_i hw
    rw [if_pos hw] at h
    have h := h.resolve_right (fun hh => letsOut_QK hh.2)
    refine .inl ?_
    unfold Oper.wp at *
    generalize (execOp a.eval o).run P w = r at *
    cases r with
    | ok n w' =>
      cases n <;> simp only [Oper.upon] at h ⊢
      case value v => obtain ⟨u, hu, h⟩ := h; exact ⟨u, hu, hk _ _ h⟩
      case skip => obtain ⟨u, hu, h⟩ := h; exact ⟨u, hu, hk _ _ h⟩
      case defer d => obtain ⟨u, hu, h⟩ := h; exact ⟨u, hu, hk _ _ h⟩
      case enter f args =>
        refine Calls.mono h fun e w'' he => ?_
        cases e with
        | returned u => obtain ⟨u', hu, h⟩ := he; exact ⟨u', hu, hk _ _ h⟩
        | panicked c => exact he.elim
        | outgrown => exact (letsOut_QK he).elim
      case row row args => exact Rows.mono h fun u w'' he => by obtain ⟨u', hu, h⟩ := he; exact ⟨u', hu, hk _ _ h⟩
    | halt x w' => cases x <;> simp only [Oper.upon] at h <;> exact h.elim
  · rename_i hw
    rw [if_neg hw] at h
    obtain ⟨u, hu, h⟩ := h
    exact ⟨u, hu, hk _ _ h⟩
theorem ForV.at {T : List (Nat × Nat)} {φs : List Phi} {ds : List (Option Tmp)} {W : World} {G : (Nat → Value) → Act → Prop} {us : Nat → Value} : ∀ (l : List Nat) (vs : Nat → Value) (a : Act), ForV T φs ds W G l vs a → PreX T φs us W l →
    ∃ vs', (∀ k ∈ l, vs' k = us k) ∧ (∀ k, k ∉ l → vs' k = vs k) ∧ G vs' (actD ds a us l) := by
  intro l
  induction l with
  | nil => intro vs a h _; exact ⟨vs, fun _ h => (by cases h), fun _ _ => rfl, h⟩
  | cons k l ih =>
    intro vs a h hp
    obtain ⟨vs', h1, h2, h3⟩ := ih _ _ (h (us k) (fun e => by have := hp.1; rwa [e] at this)) hp.2
    refine ⟨vs', fun j hj => ?_, fun j hj => ?_, h3⟩
    · by_cases hjl : j ∈ l
      · exact h1 j hjl
      · have hjk : j = k := (List.mem_cons.1 hj).resolve_right hjl
        subst hjk
        rw [h2 j hjl, upd_self]
    · rw [h2 j (fun hm => hj (List.mem_cons_of_mem _ hm)), upd_ne]
      exact fun e => hj (by rw [e]; exact List.mem_cons_self)
theorem EndX.of {T : List (Nat × Nat)} {φs : List Phi} {X : List (List Nat)} {vs : Nat → Value} {W : World} : ∀ (l : List Nat), (∀ k ∈ l, X.getD k [] = [] → phi φs k (vs (tgOf T k)) W) → EndX T φs X vs W l := by
  intro l
  induction l with
  | nil => intro _; trivial
  | cons k l ih => intro h; exact ⟨h k List.mem_cons_self, ih fun j hj => h j (List.mem_cons_of_mem _ hj)⟩
theorem ForE.at {T : List (Nat × Nat)} {φs : List Phi} {X : List (List Nat)} {ds : List (Option Tmp)} {W : World} {G : Act → Prop} {us : Nat → Value} (hT : ∀ k, tgOf T k ≤ k) : ∀ (n m : Nat) (vs : Nat → Value) (a : Act), (∀ j, j < m → vs j = us j) →
    ForE T φs X ds W G (List.range' m n) vs a → EndX T φs X us W (List.range' m n) → G (actD ds a us (List.range' m n)) := by
  intro n
  induction n with
  | zero => intro m vs a _ h _; exact h
  | succ n ih =>
    intro m vs a hv h hp
    rw [List.range'_succ] at h hp ⊢
    have e1 : ∀ j, j < m + 1 → upd vs m (us m) j = us j := fun j hj => by
      by_cases hjm : j = m
      · subst hjm; rw [upd_self]
      · rw [upd_ne _ _ hjm]; exact hv j (by omega)
    exact ih (m + 1) (upd vs m (us m)) _ e1 (h (us m) (fun hX => by rw [e1 _ (by have := hT m; omega)]; exact hp.1 hX)) hp.2
theorem Keeps.ext {φ : Phi} (h : Keeps φ) : ∀ v W W', Ext W W' → φ.2 v W → φ.2 v W' := by
  intro v W W' he hp
  unfold Keeps at h
  cases hb : φ.1 with
  | true => rw [hb] at h; exact h v W W' hp
  | false => rw [hb] at h; exact h v W W' he hp
theorem StX.at {φs : List Phi} (h : StX φs) : ∀ k, Keeps (φs.getD k (true, fun _ _ => True)) := by
  induction φs with
  | nil => intro k; exact fun _ _ _ h => h
  | cons φ l ih =>
    intro k
    cases k with
    | zero => exact h.1
    | succ k => exact ih h.2 k
def chkT (B : List (List Nat)) (T : List (Nat × Nat)) : Bool := T.all fun p => (B.getD p.1 []).contains p.2 && decide (p.2 ≤ p.1) && (T.lookup p.1 == some p.2)
theorem lookup_mem : ∀ (T : List (Nat × Nat)) (k j : Nat), T.lookup k = some j → (k, j) ∈ T
  | [], _, _, h => by simp at h
  | (a, b) :: T, k, j, h => by
    rw [List.lookup_cons] at h
    by_cases hk : (k == a) = true
    · rw [hk] at h; cases h; rw [beq_iff_eq.1 hk]; exact List.mem_cons_self
    · rw [Bool.not_eq_true] at hk
      rw [hk] at h; exact List.mem_cons_of_mem _ (lookup_mem T k j h)
theorem tg_spec {B : List (List Nat)} {T : List (Nat × Nat)} (h : chkT B T = true) (k : Nat) : (tgOf T k = k ∨ tgOf T k ∈ B.getD k []) ∧ tgOf T k ≤ k := by
  unfold tgOf
  cases hl : T.lookup k with
  | none => exact ⟨.inl rfl, Nat.le_refl _⟩
  | some j =>
    have := List.all_eq_true.1 h _ (lookup_mem T k j hl)
    simp only [Bool.and_eq_true, decide_eq_true_eq, List.contains_iff_mem] at this
    exact ⟨.inr this.1.1, this.1.2⟩
theorem ObX.obs {P : Program} {ops : Array Oper} {ds : List (Option Tmp)} {a0 : Act} {w : World} {ws : List Nat} {B : List (List Nat)} {T : List (Nat × Nat)} {φs : List Phi} (hd : ops.toList.map (·.dst) = ds) (hT : chkT B T = true) :
    ∀ (l : List Oper) (i : Nat), ObX P ops ds a0 w ws B T φs l i → Obs P ops a0 w (Below w.heap.size) (Does w ws) B (fun k vs W => phi φs k (vs (tgOf T k)) W) l i := by
  intro l
  induction l with
  | nil => intro i _; trivial
  | cons o l ih =>
    intro i h
    refine ⟨fun vs W hW hk => ?_, ih _ h.2⟩
    obtain ⟨vs', h1, _, h3⟩ := ForV.at _ _ _ (h.1 W hW) (PreX.of _ hk)
    rw [← actD_eq hd] at h3
    refine h3.mono fun v W' ⟨hd, hp⟩ => ⟨hd, ?_⟩
    rcases (tg_spec hT i).1 with e | e
    · rw [e, upd_self] at hp ⊢; exact hp
    · by_cases hi : tgOf T i = i
      · rw [hi, upd_self] at hp ⊢; exact hp
      · rw [upd_ne _ _ hi] at hp ⊢; rw [← h1 _ e]; exact hp
/-- The writers spoil all but what does not hang on the world. -/
def chkWs (n : Nat) (ws : List Nat) (B X : List (List Nat)) (bs : List Bool) : Bool := ws.all fun i => (List.range n).all fun k => (X.getD k []).contains i || (k == i || (B.getD k []).contains i) || bs.getD k true
theorem region_ext {P : Program} {id : Nat} {ops : Array Oper} {Q : Exit → Act → World → Prop} {a0 : Act} {w : World} (hm : P.follows .mixedOrders = true)
    (ds : List (Option Tmp)) (hds : ops.toList.map (·.dst) = ds) (ws : List Nat) (B X : List (List Nat)) (T : List (Nat × Nat)) (φs : List Phi) (hchk : chkRegion ops B X = true) (hT : chkT B T = true) (hws : chkWs φs.length ws B X (φs.map (·.1)) = true) (hst : StX φs)
    (hob : ObX P ops ds a0 w ws B T φs ops.toList 0)
    (hfin : ∀ W, Below w.heap.size w W → ForE T φs X ds W (fun a => Q .normal a W) (List.range' 0 ds.length) (fun _ => undef) a0) :
    (Code.region id ops true).wp P Q a0 w := by
  have hl : ds.length = ops.size := by rw [← hds]; simp
  refine region_stable hm (Below w.heap.size) (Does w ws) (fun _ _ _ => Below.trans) (fun i W W' hW hS => ?_) ⟨rfl, rfl, rfl, Nat.le_refl _, fun _ _ => rfl⟩ B X (fun k vs W => phi φs k (vs (tgOf T k)) W) hchk
    (fun k vs vs' W h hp => by rw [← h _ (tg_spec hT k).1]; exact hp) (fun i k vs W W' _ he hX hki hiB hp => ?_) (hob.obs hds hT) (fun vs W hW hk => ?_)
  · unfold Does at hS
    split at hS
    · exact hS
    · exact Below.mono hS hW.size
  · unfold Does at he
    split at he
    · rename_i hi
      have hK := hst.at k
      by_cases hkl : k < φs.length
      · have := List.all_eq_true.1 (List.all_eq_true.1 hws i (List.contains_iff_mem.1 hi)) k (List.mem_range.2 hkl)
        rcases Bool.or_eq_true_iff.1 this with h | h
        · exfalso
          rcases Bool.or_eq_true_iff.1 h with h | h
          · exact hX (List.contains_iff_mem.1 h)
          · rcases Bool.or_eq_true_iff.1 h with h | h
            · exact hki (beq_iff_eq.1 h)
            · exact hiB (List.contains_iff_mem.1 h)
        · have hb : (φs.getD k (true, fun _ _ => True)).1 = true := by
            rw [List.getD_eq_getElem?_getD] at h ⊢
            rw [List.getElem?_map] at h
            rw [List.getElem?_eq_getElem hkl] at h ⊢
            exact h
          unfold Keeps at hK
          rw [hb] at hK
          exact hK _ _ _ hp
      · unfold phi
        rw [List.getD_eq_getElem?_getD, List.getElem?_eq_none (by omega)]
        trivial
    · exact (hst.at k).ext _ _ _ he hp
  · rw [actD_eq hds, ← hl, List.range_eq_range']
    exact ForE.at (fun k => (tg_spec hT k).2) _ _ _ _ (fun j hj => by omega) (hfin W hW) (EndX.of _ fun k hk' hX => hk k (by rw [← hl]; have := (List.mem_range'_1.1 hk').2; omega) hX)
/-- The same for a region that keeps the text's order. -/
theorem region_txt {P : Program} {id : Nat} {ops : Array Oper} {Q : Exit → Act → World → Prop} {a0 : Act} {w : World}
    (ds : List (Option Tmp)) (hds : ops.toList.map (·.dst) = ds) (ws : List Nat) (B X : List (List Nat)) (T : List (Nat × Nat)) (φs : List Phi) (hchk : chkRegion ops B X = true) (hT : chkT B T = true) (hws : chkWs φs.length ws B X (φs.map (·.1)) = true) (hst : StX φs)
    (hob : ObX P ops ds a0 w ws B T φs ops.toList 0)
    (hfin : ∀ W, Below w.heap.size w W → ForE T φs X ds W (fun a => Q .normal a W) (List.range' 0 ds.length) (fun _ => undef) a0) :
    (Code.region id ops false).wp P Q a0 w := by
  have hl : ds.length = ops.size := by rw [← hds]; simp
  refine region_plain (Below w.heap.size) (Does w ws) (fun _ _ _ => Below.trans) (fun i W W' hW hS => ?_) (Below.refl _ _) B X (fun k vs W => phi φs k (vs (tgOf T k)) W) hchk
    (fun k vs vs' W h hp => by rw [← h _ (tg_spec hT k).1]; exact hp) (fun i k vs W W' _ he hX hki hiB hp => ?_) (hob.obs hds hT) (fun vs W hW hk => ?_)
  · unfold Does at hS
    split at hS
    · exact hS
    · exact Below.mono hS hW.size
  · unfold Does at he
    split at he
    · rename_i hi
      have hK := hst.at k
      by_cases hkl : k < φs.length
      · have := List.all_eq_true.1 (List.all_eq_true.1 hws i (List.contains_iff_mem.1 hi)) k (List.mem_range.2 hkl)
        rcases Bool.or_eq_true_iff.1 this with h | h
        · exfalso
          rcases Bool.or_eq_true_iff.1 h with h | h
          · exact hX (List.contains_iff_mem.1 h)
          · rcases Bool.or_eq_true_iff.1 h with h | h
            · exact hki (beq_iff_eq.1 h)
            · exact hiB (List.contains_iff_mem.1 h)
        · have hb : (φs.getD k (true, fun _ _ => True)).1 = true := by
            rw [List.getD_eq_getElem?_getD] at h ⊢
            rw [List.getElem?_map] at h
            rw [List.getElem?_eq_getElem hkl] at h ⊢
            exact h
          unfold Keeps at hK
          rw [hb] at hK
          exact hK _ _ _ hp
      · unfold phi
        rw [List.getD_eq_getElem?_getD, List.getElem?_eq_none (by omega)]
        trivial
    · exact (hst.at k).ext _ _ _ he hp
  · rw [actD_eq hds, ← hl, List.range_eq_range']
    exact ForE.at (fun k => (tg_spec hT k).2) _ _ _ _ (fun j hj => by omega) (hfin W hW) (EndX.of _ fun k hk' hX => hk k (by rw [← hl]; have := (List.mem_range'_1.1 hk').2; omega) hX)
/-- What a thing that is one value keeps. -/
def Is (c : Value) : Phi := (true, fun v _ => v = c)
def Any1 : Phi := (true, fun _ _ => True)
theorem Is.keeps (c : Value) : Keeps (Is c) := fun _ _ _ h => h
theorem Any1.keeps : Keeps Any1 := fun _ _ _ h => h
theorem opv_run {P : Program} {ops : Array Oper} {K : Value → World → Prop} {o : Oper} {a : Act} {W W' : World} (v : Value) (hg : Region.wanted o (yielded ops a.tmps) = true) (hr : (execOp a.eval o).run P W = .ok (.value v) W') (h : K v W') : OpV P ops o a W K := by
  unfold OpV
  simp only [wpList]
  rw [if_pos hg]
  exact .inl (by unfold Oper.wp; rw [hr]; exact ⟨v, rfl, h⟩)
theorem opv_unit {P : Program} {ops : Array Oper} {K : Value → World → Prop} {o : Oper} {a : Act} {W W' : World} (hg : Region.wanted o (yielded ops a.tmps) = true) (hr : (execOp a.eval o).run P W = .ok .skip W') (h : K undef W') : OpV P ops o a W K := by
  unfold OpV
  simp only [wpList]
  rw [if_pos hg]
  exact .inl (by unfold Oper.wp; rw [hr]; exact ⟨_, rfl, h⟩)
theorem opv_skip {P : Program} {ops : Array Oper} {K : Value → World → Prop} {o : Oper} {a : Act} {W : World} (hg : Region.wanted o (yielded ops a.tmps) = false) (h : K undef W) : OpV P ops o a W K := by
  unfold OpV
  simp only [wpList]
  rw [hg]
  exact ⟨_, rfl, h⟩
/-- A call of a function of the program. -/
theorem opv_call {P : Program} {ops : Array Oper} {K : Value → World → Prop} {o : Oper} {a : Act} {W : World} (f : FuncId) (args : Array Value) (hg : Region.wanted o (yielded ops a.tmps) = true)
    (hr : (execOp a.eval o).run P W = .ok (.enter f args) W) (h : Calls P f args W fun e w' => ∃ v, e = .returned v ∧ K v w') : OpV P ops o a W K := by
  unfold OpV
  simp only [wpList]
  rw [if_pos hg]
  refine .inl ?_
  unfold Oper.wp
  rw [hr]
  refine Calls.mono h fun e w' he => ?_
  obtain ⟨v, rfl, hk⟩ := he
  exact ⟨v, rfl, hk⟩
theorem forV_nil {T : List (Nat × Nat)} {φs : List Phi} {ds : List (Option Tmp)} {W : World} {G : (Nat → Value) → Act → Prop} {vs : Nat → Value} {a : Act} (h : G vs a) : ForV T φs ds W G [] vs a := h
theorem forE_end {T : List (Nat × Nat)} {φs : List Phi} {X : List (List Nat)} {ds : List (Option Tmp)} {W : World} {G : Act → Prop} {m : Nat} {vs : Nat → Value} {a : Act} (h : G a) : ForE T φs X ds W G (List.range' m 0) vs a := h
/-- A load of one cell. -/
theorem run_load1 {P : Program} {o : Oper} {t : TypeId} {x : Operand} {a : Act} {W : World} {p : Addr} {v : Value} {d : TypeDesc} (hop : o.op = .load t x) (hx : a.eval x = .pointer (some p)) (hd : P.underlying t = some d)
    (hna : (match d with | .struct _ | .array _ _ => true | _ => false) = false) (hc : W.cell? p = some v) : (execOp a.eval o).run P W = .ok (.value v) W := by
  have hag : (isAgg t).run P W = .ok false W := by
    unfold isAgg
    cases d <;> simp_all [run_underlying hd]
  simp [execOp, hop, hx, Instr.loadAt, Instr.sureAddr, loadVar, hag, load, Sem.run, hc]
theorem does_refl (w : World) (ws : List Nat) (i : Nat) (W : World) : Does w ws i W W := by unfold Does; split; exact Below.refl _ _; exact Ext.refl _
theorem does_ext {w : World} {ws : List Nat} {i : Nat} {W W' : World} (hW : Below w.heap.size w W) (h : Below W.heap.size W W') : Does w ws i W W' := by
  unfold Does; split
  · exact h.mono hW.size
  · exact h
theorem does_wr {w : World} {ws : List Nat} {i : Nat} {W W' : World} (hi : ws.contains i = true) (h : Below w.heap.size W W') : Does w ws i W W' := by
  unfold Does; rw [if_pos hi]; exact h
theorem does_pure {w : World} {ws : List Nat} {i : Nat} {W : World} {φs : List Phi} {v : Value} (h : phi φs i v W) : Does w ws i W W ∧ phi φs i v W := ⟨does_refl _ _ _ _, h⟩
end Go.Proofs.YtjkicmlelilcaaaDoor
