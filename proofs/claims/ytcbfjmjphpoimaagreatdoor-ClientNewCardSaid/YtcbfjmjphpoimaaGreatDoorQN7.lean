/- Part 7 of the proof: texts of the proof. -/
import Derived.Test.YtcbfjmjphpoimaaGreatDoorQN6
import Derived.Test.YtcbfjmjphpoimaaGreatDoorRows
import Derived.WalkKit
import Derived.Deep.Draws
import Derived.WalkSpells
import Derived.WalkLawsBesides
import Derived.Deep.QuietTactic
import Derived.BigQuiet
import Derived.Lib.Hide
import Derived.Deep.RegionHeld3
import Derived.Deep.RegionLaw
import Derived.Laws.CopyOwn
import Derived.OwnWalk
import Derived.Laws.AppendOwnNone
import Derived.Lib.AppendZeros
namespace Go.Proofs.YtcbfjmjphpoimaaGreatDoor.V2
open Go
noncomputable section
abbrev HF := List FV → FH → KV → FR
inductive Phi where
  | no
  | mk (fn : FuncId → HF) (yl : Nat → HF) (up : Nat → HF → Phi)
def Phi.fn (Φ : Phi) : FuncId → HF := Phi.rec (motive := fun _ => FuncId → HF) (fun _ _ _ _ => .bad) (fun f _ _ _ => f) Φ
def Phi.yl (Φ : Phi) : Nat → HF := Phi.rec (motive := fun _ => Nat → HF) (fun _ _ _ _ => .bad) (fun _ y _ _ => y) Φ
def Phi.up (Φ : Phi) : Nat → HF → Phi := Phi.rec (motive := fun _ => Nat → HF → Phi) (fun _ _ => .no) (fun _ _ u _ => u) Φ
def Phi.bare (Φ : Phi) : Phi := Phi.rec (motive := fun _ => Phi) .no (fun f y _ _ => .mk f y (fun _ _ => .no)) Φ
def HOk (H : HF) (h : List AV → AH → Out) : Prop := ∀ l σ k, Sm (H l σ k) k (h (αL l) (αH σ))
inductive PhiOk : Phi → Gam → Prop where
  | no {Γ : Gam} : PhiOk .no Γ
  | mk {Γ : Gam} {fn : FuncId → HF} {yl : Nat → HF} {up : Nat → HF → Phi} (hf : ∀ f, HOk (fn f) (Γ.fn f)) (hy : ∀ b, HOk (yl b) (Γ.yl b)) (hu : ∀ l h H, HOk H h → PhiOk (up l H) (Γ.up l h)) : PhiOk (.mk fn yl up) Γ
theorem PhiOk.fn {Φ : Phi} {Γ : Gam} (h : PhiOk Φ Γ) (f : FuncId) : HOk (Φ.fn f) (Γ.fn f) := by
  cases h with
  | no => exact fun l σ k => Sm.bad
  | mk hf => exact hf f
theorem PhiOk.yl {Φ : Phi} {Γ : Gam} (h : PhiOk Φ Γ) (b : Nat) : HOk (Φ.yl b) (Γ.yl b) := by
  cases h with
  | no => exact fun l σ k => Sm.bad
  | mk _ hy => exact hy b
theorem PhiOk.up {Φ : Phi} {Γ : Gam} (h : PhiOk Φ Γ) {l : Nat} {g : List AV → AH → Out} {H : HF} (hH : HOk H g) : PhiOk (Φ.up l H) (Γ.up l g) := by
  cases h with
  | no => exact .no
  | mk _ _ hu => exact hu l g H hH
theorem PhiOk.bare {Φ : Phi} {Γ : Gam} (h : PhiOk Φ Γ) : PhiOk Φ.bare Γ.bare := by
  cases h with
  | no => exact .no
  | mk hf hy hu =>
    refine .mk (fun f => ?_) (fun b => ?_) (fun _ _ _ _ => .no)
    · rw [Gam.bare_fn]; exact hf f
    · rw [Gam.bare_yl]; exact hy b
abbrev Opc := Phi → E → FH → KV → FR
def RdOk (rd : Ref → Rd) (e : E) (ev : Ref → AV) : Prop := ∀ r k, rd r e k ≠ .bad → ∃ v, ev r = αV v ∧ rd r e k = k v
def rdsK (l : List Rd) (e : E) (k : List FV → FR) : FR := List.rec (motive := fun _ => (List FV → FR) → FR) (fun k => k []) (fun r _ ih k => r e fun v => ih fun l => k (v :: l)) l k
def rdO (x : Option Rd) (e : E) (k : Option FV → FR) : FR := Option.rec (k none) (fun r => r e fun v => k (some v)) x
theorem RdOk.list {rd : Ref → Rd} {e : E} {ev : Ref → AV} (h : RdOk rd e ev) : ∀ (l : List Ref) (k : List FV → FR), rdsK (l.map rd) e k ≠ .bad → ∃ vs, l.map ev = αL vs ∧ rdsK (l.map rd) e k = k vs
  | [], k, _ => ⟨[], rfl, rfl⟩
  | r :: l, k, hk => by
    have hk : (rd r e fun v => rdsK (l.map rd) e fun l => k (v :: l)) ≠ .bad := hk
    obtain ⟨v, h1, h2⟩ := h r _ hk
    rw [h2] at hk
    obtain ⟨vs, h3, h4⟩ := h.list l _ hk
    exact ⟨v :: vs, by rw [List.map_cons, h1, h3]; rfl, by show (rd r e fun v => rdsK (l.map rd) e fun l => k (v :: l)) = _; rw [h2]; exact h4⟩
theorem RdOk.opt {rd : Ref → Rd} {e : E} {ev : Ref → AV} (h : RdOk rd e ev) (x : Option Ref) (k : Option FV → FR) (hk : rdO (x.map rd) e k ≠ .bad) : ∃ v, x.map ev = v.map αV ∧ rdO (x.map rd) e k = k v := by
  cases x with
  | none => exact ⟨none, rfl, rfl⟩
  | some r =>
    have hk : (rd r e fun v => k (some v)) ≠ .bad := hk
    obtain ⟨v, h1, h2⟩ := h r _ hk
    exact ⟨some v, by rw [Option.map_some, h1]; rfl, h2⟩
/-! How operations are put together. -/
def oV (x : Rd) : Opc := fun _ e σ k => x e fun v => k v σ
def o1 (f : FV → (FV → FR) → FR) (x : Rd) : Opc := fun _ e σ k => x e fun a => f a fun v => k v σ
def o2 (f : FV → FV → (FV → FR) → FR) (x y : Rd) : Opc := fun _ e σ k => x e fun a => y e fun b => f a b fun v => k v σ
def o3 (f : FV → FV → FV → (FV → FR) → FR) (x y z : Rd) : Opc := fun _ e σ k => x e fun a => y e fun b => z e fun c => f a b c fun v => k v σ
def m1 (f : FV → FH → (FV → FR) → FR) (x : Rd) : Opc := fun _ e σ k => x e fun a => f a σ fun v => k v σ
def n0 (o : FObj) : Opc := fun _ _ σ k => alF o σ k
def n1 (f : FV → FH → KV → FR) (x : Rd) : Opc := fun _ e σ k => x e fun a => f a σ k
def n2 (f : FV → FV → FH → KV → FR) (x y : Rd) : Opc := fun _ e σ k => x e fun a => y e fun b => f a b σ k
def nL (f : List FV → FH → KV → FR) (l : List Rd) : Opc := fun _ e σ k => rdsK l e fun l => f l σ k
def oSs (x : Rd) (lo hi : Option Rd) : Opc := fun _ e σ k => x e fun x => rdO lo e fun lo => rdO hi e fun hi => ssF x lo hi fun v => k v σ
def oSv (size : Nat) (x : Rd) (lo hi mx : Option Rd) : Opc := fun _ e σ k => x e fun x => rdO lo e fun lo => rdO hi e fun hi => rdO mx e fun mx => svF size x lo hi mx fun v => k v σ
def oSa (len size : Nat) (x : Rd) (lo hi mx : Option Rd) : Opc := fun _ e σ k => x e fun x => rdO lo e fun lo => rdO hi e fun hi => rdO mx e fun mx => saF len size x lo hi mx σ fun v => k v σ
def oBad : Opc := fun _ _ _ _ => .bad
def miF (t : TypeId) (x : FV) (c : FV → FR) : FR := c (.ifc t x)
def exG (n : Nat) (x : FV) (c : FV → FR) : FR := exF x n c
def unG (op : UnOp) (x : FV) (c : FV → FR) : FR := slV (unI std op (αV x)) c
def bop : BinOp → FV → FV → (FV → FR) → FR
  | .add => bAdd
  | .sub => bSub
  | .mul => bMul
  | .quo => bQuo
  | .rem => bRem
  | .and => bAnd
  | .or => bOr
  | .xor => bXor
  | .shl => bShl
  | .shr => bShr
  | .andNot => bAndNot
  | .eql => bEql
  | .neq => bNeq
  | .lss => bLss
  | .leq => bLeq
  | .gtr => bGtr
  | .geq => bGeq
theorem bop_sv (op : BinOp) (x y : FV) (c : FV → FR) (σ : AH) : Sv (bop op x y c) c ((oBin std op (αV x) (αV y) σ).1, (oBin std op (αV x) (αV y) σ).2.1) := by
  cases op
  · exact bAdd_sv x y c σ
  · exact bSub_sv x y c σ
  · exact bMul_sv x y c σ
  · exact bQuo_sv x y c σ
  · exact bRem_sv x y c σ
  · exact bAnd_sv x y c σ
  · exact bOr_sv x y c σ
  · exact bXor_sv x y c σ
  · exact bShl_sv x y c σ
  · exact bShr_sv x y c σ
  · exact bAndNot_sv x y c σ
  · exact bEql_sv x y c σ
  · exact bNeq_sv x y c σ
  · exact bLss_sv x y c σ
  · exact bLeq_sv x y c σ
  · exact bGtr_sv x y c σ
  · exact bGeq_sv x y c σ
theorem oBin_mem (op : BinOp) (x y : AV) (σ : AH) : oBin std op x y σ = ((oBin std op x y σ).1, (oBin std op x y σ).2.1, σ) := by
  unfold oBin
  cases x <;> try rfl
  · cases y <;> rfl
  · cases y <;> rfl
theorem oLoad1_mem (x : AV) (σ : AH) : oLoad1 std x σ = ((oLoad1 std x σ).1, (oLoad1 std x σ).2.1, σ) := by
  unfold oLoad1
  cases x <;> try rfl
  dsimp only
  split <;> rfl
theorem oLoadN_mem (n : Nat) (x : AV) (σ : AH) : oLoadN std n x σ = ((oLoadN std n x σ).1, (oLoadN std n x σ).2.1, σ) := by
  unfold oLoadN
  cases x <;> try rfl
  dsimp only
  split <;> rfl
def thrA (rd : Ref → Rd) : AOp → Opc
  | .mov x => oV (rd x)
  | .pick c a b => o3 pkF (rd c) (rd a) (rd b)
  | .bin op x y => o2 (bop op) (rd x) (rd y)
  | .un op x => match op with
    | .not => o1 notF (rd x)
    | op => o1 (unG op) (rd x)
  | .conv k x => o1 (cvF k) (rd x)
  | .alloc e l => n0 (βO (AObj.of l e .exact))
  | .box e x => n1 (bxF e) (rd x)
  | .load1 x => m1 ldF (rd x)
  | .loadN n x => m1 (lnF n) (rd x)
  | .store n p x => n2 (stF n) (rd p) (rd x)
  | .fieldAddr off x => o1 (faF off) (rd x)
  | .idxArr len size x i => o2 (iaF len size) (rd x) (rd i)
  | .idxSl size x i => o2 (isF size) (rd x) (rd i)
  | .slStr x lo hi => oSs (rd x) (lo.map rd) (hi.map rd)
  | .slSl size x lo hi mx => oSv size (rd x) (lo.map rd) (hi.map rd) (mx.map rd)
  | .slArr len size x lo hi mx => oSa len size (rd x) (lo.map rd) (hi.map rd) (mx.map rd)
  | .extract x k => o1 (exG k) (rd x)
  | .mkIface t x => o1 (miF t) (rd x)
  | .nilCheck x => o1 ncF (rd x)
  | .lenStr x => o1 lsF (rd x)
  | .lenSl x => o1 lvF (rd x)
  | .ext x args => nL (xQ x) (args.map rd)
  | .pur x args => nL (pQ x) (args.map rd)
  | .rd x args => nL (lQ x) (args.map rd)
  | .mk x args => nL (nQ x) (args.map rd)
  | .badop => oBad
theorem o1_ok {rd : Ref → Rd} {e : E} {ev : Ref → AV} (hr : RdOk rd e ev) {f : FV → (FV → FR) → FR} {x : Ref} {g : AV → AH → Out} (hf : ∀ v σ k, Sm (f v fun w => k w σ) k (g (αV v) (αH σ))) (Φ : Phi) (σ : FH) (k : KV) : Sm (o1 f (rd x) Φ e σ k) k (g (ev x) (αH σ)) := by
  intro h
  obtain ⟨v, h1, h2⟩ := hr x _ h
  rw [h1]
  have h' : (f v fun w => k w σ) ≠ .bad := by rw [← h2]; exact h
  obtain ⟨w, σ', h3, h4⟩ := hf v σ k h'
  exact ⟨w, σ', h3, h2.trans h4⟩
theorem n1_ok {rd : Ref → Rd} {e : E} {ev : Ref → AV} (hr : RdOk rd e ev) {f : FV → FH → KV → FR} {x : Ref} {g : AV → AH → Out} (hf : ∀ v σ k, Sm (f v σ k) k (g (αV v) (αH σ))) (Φ : Phi) (σ : FH) (k : KV) : Sm (n1 f (rd x) Φ e σ k) k (g (ev x) (αH σ)) := by
  intro h
  obtain ⟨v, h1, h2⟩ := hr x _ h
  rw [h1]
  have h' : f v σ k ≠ .bad := by rw [← h2]; exact h
  obtain ⟨w, σ', h3, h4⟩ := hf v σ k h'
  exact ⟨w, σ', h3, h2.trans h4⟩
theorem n2_ok {rd : Ref → Rd} {e : E} {ev : Ref → AV} (hr : RdOk rd e ev) {f : FV → FV → FH → KV → FR} {x y : Ref} {g : AV → AV → AH → Out} (hf : ∀ v w σ k, Sm (f v w σ k) k (g (αV v) (αV w) (αH σ))) (Φ : Phi) (σ : FH) (k : KV) : Sm (n2 f (rd x) (rd y) Φ e σ k) k (g (ev x) (ev y) (αH σ)) := by
  intro h
  obtain ⟨v, h1, h2⟩ := hr x _ h
  have hy : (rd y e fun b => f v b σ k) ≠ .bad := by rw [← h2]; exact h
  obtain ⟨w, h3, h4⟩ := hr y _ hy
  rw [h1, h3]
  have h' : f v w σ k ≠ .bad := by rw [← h4]; exact hy
  obtain ⟨u, σ', h5, h6⟩ := hf v w σ k h'
  exact ⟨u, σ', h5, (h2.trans h4).trans h6⟩
theorem nL_ok {rd : Ref → Rd} {e : E} {ev : Ref → AV} (hr : RdOk rd e ev) {f : List FV → FH → KV → FR} {l : List Ref} {g : List AV → AH → Out} (hf : ∀ l σ k, Sm (f l σ k) k (g (αL l) (αH σ))) (Φ : Phi) (σ : FH) (k : KV) : Sm (nL f (l.map rd) Φ e σ k) k (g (l.map ev) (αH σ)) := by
  intro h
  obtain ⟨vs, h1, h2⟩ := hr.list l _ h
  rw [h1]
  have h' : f vs σ k ≠ .bad := by rw [← h2]; exact h
  obtain ⟨w, σ', h3, h4⟩ := hf vs σ k h'
  exact ⟨w, σ', h3, h2.trans h4⟩
theorem thrA_ok {rd : Ref → Rd} {e : E} {ev : Ref → AV} (hr : RdOk rd e ev) (a : AOp) (Φ : Phi) (σ : FH) (k : KV) : Sm (thrA rd a Φ e σ k) k (step std ev (αH σ) a) := by
  cases a with
  | mov x => exact o1_ok (f := fun v c => c v) (g := fun v s => (true, v, s)) hr (fun v σ k _ => ⟨v, σ, rfl, rfl⟩) Φ σ k
  | pick c a b =>
    intro h
    have h : (rd c e fun x => rd a e fun y => rd b e fun z => pkF x y z fun v => k v σ) ≠ .bad := h
    show ∃ v σ', _ ∧ (rd c e fun x => rd a e fun y => rd b e fun z => pkF x y z fun v => k v σ) = _
    obtain ⟨x, h1, h2⟩ := hr c _ h
    rw [h2] at h ⊢
    obtain ⟨y, h3, h4⟩ := hr a _ h
    rw [h4] at h ⊢
    obtain ⟨z, h5, h6⟩ := hr b _ h
    rw [h6] at h ⊢
    simp only [step]
    rw [h1, h3, h5]
    exact pkF_sm x y z σ k h
  | bin op x y => exact n2_ok (f := fun a b σ k => bop op a b fun v => k v σ) (g := fun a b s => oBin std op a b s) hr (fun v w σ k => by rw [oBin_mem]; exact Sm.ofv (bop_sv op v w (fun v => k v σ) (αH σ))) Φ σ k
  | un op x =>
    have slow : ∀ op, Sm (o1 (unG op) (rd x) Φ e σ k) k (step std ev (αH σ) (.un op x)) := fun op => o1_ok (g := fun v s => ((unI std op v).1, (unI std op v).2, s)) hr (fun v σ k => Sm.ofv (slV_sv _ _)) Φ σ k
    cases op with
    | not => exact o1_ok (g := fun v s => ((unI std .not v).1, (unI std .not v).2, s)) hr (fun v σ k => notF_sm v σ k) Φ σ k
    | neg => exact slow _
    | xor => exact slow _
    | plus => exact slow _
  | conv kk x => exact o1_ok (f := cvF kk) (g := fun v s => match v with | .int _ n => (true, .int kk (wr kk n), s) | _ => bad s) hr (fun v σ k => cvF_sm kk v σ k) Φ σ k
  | alloc e' l =>
    have h := alF_sm (βO (AObj.of l e' .exact)) σ k
    rw [αβO] at h; exact h
  | box e' x => exact n1_ok (f := bxF e') (g := fun v s => (Nat.blt s.next 1000000, .ptr s.next 0, s.new (boxO v e'))) hr (fun v σ k => bxF_sm e' v σ k) Φ σ k
  | load1 x => exact n1_ok (f := fun v σ k => ldF v σ fun w => k w σ) (g := fun v s => oLoad1 std v s) hr (fun v σ k => by rw [oLoad1_mem]; exact Sm.ofv (ldF_sv v σ fun w => k w σ)) Φ σ k
  | loadN n x => exact n1_ok (f := fun v σ k => lnF n v σ fun w => k w σ) (g := fun v s => oLoadN std n v s) hr (fun v σ k => by rw [oLoadN_mem]; exact Sm.ofv (lnF_sv n v σ fun w => k w σ)) Φ σ k
  | store n p x => exact n2_ok (f := stF n) (g := fun a b s => oStore std n a b s) hr (fun v w σ k => stF_sm n v w σ k) Φ σ k
  | fieldAddr off x => exact o1_ok (f := faF off) (g := fun v s => match v with | .ptr b o => (true, .ptr b (o + off), s) | _ => bad s) hr (fun v σ k => faF_sm off v σ k) Φ σ k
  | idxArr len size x i => exact n2_ok (f := fun a b σ k => iaF len size a b fun v => k v σ) (g := fun a b s => oIdxArr std len size a b s) hr (fun v w σ k => iaF_sm len size v w σ k) Φ σ k
  | idxSl size x i => exact n2_ok (f := fun a b σ k => isF size a b fun v => k v σ) (g := fun a b s => oIdxSl std size a b s) hr (fun v w σ k => isF_sm size v w σ k) Φ σ k
  | slStr x lo hi =>
    intro h
    have h : (rd x e fun x => rdO (lo.map rd) e fun lo => rdO (hi.map rd) e fun hi => ssF x lo hi fun v => k v σ) ≠ .bad := h
    show ∃ v σ', _ ∧ (rd x e fun x => rdO (lo.map rd) e fun lo => rdO (hi.map rd) e fun hi => ssF x lo hi fun v => k v σ) = _
    obtain ⟨x', h1, h2⟩ := hr x _ h
    rw [h2] at h ⊢
    obtain ⟨y, h3, h4⟩ := hr.opt lo _ h
    rw [h4] at h ⊢
    obtain ⟨z, h5, h6⟩ := hr.opt hi _ h
    rw [h6] at h ⊢
    simp only [step]
    rw [h1, h3, h5]
    exact ssF_sm x' y z σ k h
  | slSl size x lo hi mx =>
    intro h
    have h : (rd x e fun x => rdO (lo.map rd) e fun lo => rdO (hi.map rd) e fun hi => rdO (mx.map rd) e fun mx => svF size x lo hi mx fun v => k v σ) ≠ .bad := h
    show ∃ v σ', _ ∧ (rd x e fun x => rdO (lo.map rd) e fun lo => rdO (hi.map rd) e fun hi => rdO (mx.map rd) e fun mx => svF size x lo hi mx fun v => k v σ) = _
    obtain ⟨x', h1, h2⟩ := hr x _ h
    rw [h2] at h ⊢
    obtain ⟨y, h3, h4⟩ := hr.opt lo _ h
    rw [h4] at h ⊢
    obtain ⟨z, h5, h6⟩ := hr.opt hi _ h
    rw [h6] at h ⊢
    obtain ⟨w, h7, h8⟩ := hr.opt mx _ h
    rw [h8] at h ⊢
    simp only [step]
    rw [h1, h3, h5, h7]
    exact svF_sm size x' y z w σ k h
  | slArr len size x lo hi mx =>
    intro h
    have h : (rd x e fun x => rdO (lo.map rd) e fun lo => rdO (hi.map rd) e fun hi => rdO (mx.map rd) e fun mx => saF len size x lo hi mx σ fun v => k v σ) ≠ .bad := h
    show ∃ v σ', _ ∧ (rd x e fun x => rdO (lo.map rd) e fun lo => rdO (hi.map rd) e fun hi => rdO (mx.map rd) e fun mx => saF len size x lo hi mx σ fun v => k v σ) = _
    obtain ⟨x', h1, h2⟩ := hr x _ h
    rw [h2] at h ⊢
    obtain ⟨y, h3, h4⟩ := hr.opt lo _ h
    rw [h4] at h ⊢
    obtain ⟨z, h5, h6⟩ := hr.opt hi _ h
    rw [h6] at h ⊢
    obtain ⟨w, h7, h8⟩ := hr.opt mx _ h
    rw [h8] at h ⊢
    simp only [step]
    rw [h1, h3, h5, h7]
    exact saF_sm len size x' y z w σ k h
  | extract x n => exact o1_ok (f := exG n) (g := fun v s => match v with | .tup l => (Nat.blt n l.length, l.getD n .top, s) | _ => bad s) hr (fun v σ k => exF_sm v n σ k) Φ σ k
  | mkIface t x => exact o1_ok (f := miF t) (g := fun v s => (true, .ifc t v, s)) hr (fun v σ k _ => ⟨.ifc t v, σ, rfl, rfl⟩) Φ σ k
  | nilCheck x => exact o1_ok (f := ncF) (g := fun v s => match v with | .ptr b o => (true, .ptr b o, s) | .fn (.func f) first cap => (true, .fn (.func f) first cap, s) | _ => bad s) hr (fun v σ k => ncF_sm v σ k) Φ σ k
  | lenStr x => exact o1_ok (f := lsF) (g := fun v s => match v with | .str l => (true, .int .i64 (std.slen l), s) | _ => bad s) hr (fun v σ k => lsF_sm v σ k) Φ σ k
  | lenSl x => exact o1_ok (f := lvF) (g := fun v s => match v with | .sl _ _ n _ _ _ => (true, .int .i64 n, s) | .nilsl => (true, .int .i64 0, s) | _ => bad s) hr (fun v σ k => lvF_sm v σ k) Φ σ k
  | ext x args => exact nL_ok (f := xQ x) (g := fun l s => xstep std s x l) hr (fun l σ k => xQ_sm x l σ k) Φ σ k
  | pur x args => exact nL_ok (f := pQ x) (g := fun l s => match pstep std x l with | (ok, v) => (ok, v, s)) hr (fun l σ k => pQ_sm x l σ k) Φ σ k
  | rd x args => exact nL_ok (f := lQ x) (g := fun l s => match lstep std s x l with | (ok, v) => (ok, v, s)) hr (fun l σ k => lQ_sm x l σ k) Φ σ k
  | mk x args => exact nL_ok (f := nQ x) (g := fun l s => match nstep std x l with | (ok, v, o) => (ok && Nat.blt s.next 1000000, v s.next, s.new o)) hr (fun l σ k => nQ_sm x l σ k) Φ σ k
  | badop => exact Sm.bad
end
end Go.Proofs.YtcbfjmjphpoimaaGreatDoor.V2
namespace Go.Proofs.YtcbfjmjphpoimaaGreatDoor.V2
open Go
noncomputable section
abbrev K2 := E → FH → FR
def caF (vf : FV) (l : List FV) (Φ : Phi) (σ : FH) (k : KV) : FR := FV.rec (motive_1 := fun _ => FR) (motive_2 := fun _ => FR) (fun _ _ => .bad) (fun _ _ => .bad) (fun _ => .bad) (fun _ => .bad) (fun _ _ => .bad) (fun _ _ _ _ _ _ => .bad) (fun _ => .bad) (fun b => Φ.yl b l σ k) (fun f x y _ _ => Fn.rec (motive := fun _ => FR) (fun n => appK l y fun l => appK x l fun l => Φ.fn n l σ k) (fun _ => .bad) (fun _ _ => .bad) (fun _ _ _ _ => .bad) (fun _ => .bad) f) (fun _ _ _ => .bad) (fun _ _ => .bad) (fun _ => .bad) (fun _ _ => .bad) (fun _ _ => .bad) (fun _ => .bad) .bad (fun _ _ _ _ => .bad) vf
def oCall (f : Rd) (l : List Rd) : Opc := fun Φ e σ k => f e fun vf => rdsK l e fun l => caF vf l Φ σ k
def oCallS (n : Nat) (l : List Rd) : Opc := fun Φ e σ k => rdsK l e fun l => Φ.fn n l σ k
def statF : Ref → Option Nat
  | .lit v => match v with
    | .fn f x y => match f with
      | .func n => match x, y with
        | [], [] => some n
        | _, _ => none
      | _ => none
    | _ => none
  | _ => none
theorem statF_eq {r : Ref} {n : Nat} (h : statF r = some n) : r = .lit (.fn (.func n) [] []) := by
  unfold statF at h
  split at h
  · split at h
    · split at h
      · split at h
        · cases h; rfl
        · cases h
      · cases h
    · cases h
  · cases h
def thrO (rd : Ref → Rd) : COp → Opc
  | .aop a => thrA rd a
  | .call f args => match statF f with
    | some n => oCallS n (args.map rd)
    | none => oCall (rd f) (args.map rd)
  | _ => oBad
theorem thrO_ok {rd : Ref → Rd} {e : E} {ev : Ref → AV} (hr : RdOk rd e ev) (hl : ∀ v, ev (.lit v) = v) {Φ : Phi} {Γ : Gam} (hΦ : PhiOk Φ Γ) (c : COp) (σ : FH) (k : KV) : Sm (thrO rd c Φ e σ k) k (cstep std Γ ev (αH σ) c) := by
  cases c with
  | aop a => exact thrA_ok hr a Φ σ k
  | rng _ => exact Sm.bad
  | nxt _ => exact Sm.bad
  | ent _ => exact Sm.bad
  | call f args =>
    simp only [thrO]
    cases hs : statF f with
    | some n =>
      have e1 := statF_eq hs
      subst e1
      intro h
      have h : (rdsK (args.map rd) e fun l => Φ.fn n l σ k) ≠ .bad := h
      show ∃ v σ', _ ∧ (rdsK (args.map rd) e fun l => Φ.fn n l σ k) = _
      obtain ⟨l, h1, h2⟩ := hr.list args _ h
      rw [h2] at h ⊢
      simp only [cstep]
      rw [hl]
      dsimp only
      rw [h1, List.nil_append, List.append_nil]
      exact hΦ.fn n l σ k h
    | none =>
      intro h
      have h : ((rd f) e fun vf => rdsK (args.map rd) e fun l => caF vf l Φ σ k) ≠ .bad := h
      show ∃ v σ', _ ∧ ((rd f) e fun vf => rdsK (args.map rd) e fun l => caF vf l Φ σ k) = _
      obtain ⟨vf, h1, h2⟩ := hr f _ h
      rw [h2] at h ⊢
      obtain ⟨l, h3, h4⟩ := hr.list args _ h
      rw [h4] at h ⊢
      simp only [cstep]
      rw [h1, h3]
      cases vf with
      | fn g x y =>
        cases g with
        | func n =>
          have h : (appK l y fun l => appK x l fun l => Φ.fn n l σ k) ≠ .bad := h
          show ∃ v σ', _ ∧ (appK l y fun l => appK x l fun l => Φ.fn n l σ k) = _
          rw [appK_eq, appK_eq] at h ⊢
          have := hΦ.fn n (x ++ (l ++ y)) σ k h
          rw [αL_append, αL_append] at this
          exact this
        | _ => exact absurd rfl h
      | y b => exact hΦ.yl b l σ k h
      | _ => exact absurd rfl h
def oG (want : Bool) (r : Rd) (op : Opc) : Opc := fun Φ e σ k => r e fun g => FV.rec (motive_1 := fun _ => FR) (motive_2 := fun _ => FR) (fun _ _ => .bad) (fun _ _ => .bad) (fun t => Bool.rec (Bool.rec (op Φ e σ k) (k (.tup []) σ) want) (Bool.rec (k (.tup []) σ) (op Φ e σ k) want) t) (fun _ => .bad) (fun _ _ => .bad) (fun _ _ _ _ _ _ => .bad) (fun _ => .bad) (fun _ => .bad) (fun _ _ _ _ _ => .bad) (fun _ _ _ => .bad) (fun _ _ => .bad) (fun _ => .bad) (fun _ _ => .bad) (fun l _ => k (.tup []) σ) (fun _ => .bad) .bad (fun _ _ _ _ => .bad) g
def thrR (rd : Ref → Rd) (r : CRow) : Opc := match r.guard with
  | none => thrO rd r.op
  | some g => oG g.2 (rd g.1) (thrO rd r.op)
theorem thrR_ok {rd : Ref → Rd} {e : E} {ev : Ref → AV} (hr : RdOk rd e ev) (hl : ∀ v, ev (.lit v) = v) {Φ : Phi} {Γ : Gam} (hΦ : PhiOk Φ Γ) (r : CRow) (σ : FH) (k : KV) : Sm (thrR rd r Φ e σ k) k (gstep std Γ ev (αH σ) r) := by
  unfold thrR gstep
  cases r.guard with
  | none => exact thrO_ok hr hl hΦ _ σ k
  | some g =>
    obtain ⟨g, want⟩ := g
    dsimp only
    intro h
    have hop := thrO_ok hr hl hΦ r.op σ k
    unfold oG at h ⊢
    obtain ⟨v, h1, h2⟩ := hr g _ h
    rw [h2] at h ⊢
    rw [h1]
    cases v with
    | b t =>
      cases t <;> cases want
      · exact hop h
      · exact ⟨.tup [], σ, rfl, rfl⟩
      · exact ⟨.tup [], σ, rfl, rfl⟩
      · exact hop h
    | tup l => exact ⟨.tup [], σ, rfl, rfl⟩
    | _ => exact absurd rfl h
/-! Slots: those whose value is at hand, those of the frame; dr: slots that the frame does not hold. -/
abbrev M := List (Nat × FV)
abbrev bsel {α : Type} (c : Bool) (a b : α) : α := Bool.rec b a c
def rdV (v : FV) : Rd := fun _ k => k v
def rdX : Rd := fun _ _ => .bad
def wrX : Wr := fun _ _ _ => .bad
def lkM : M → Nat → Option FV
  | [], _ => none
  | p :: l, t => bif Nat.beq p.1 t then some p.2 else lkM l t
def hasN (k : Nat) : List Nat → Bool
  | [] => false
  | j :: l => bif Nat.beq j k then true else hasN k l
theorem hasN_append (k : Nat) : ∀ l m : List Nat, hasN k (l ++ m) = (hasN k l || hasN k m)
  | [], m => rfl
  | j :: l, m => by
    show (bif Nat.beq j k then true else hasN k (l ++ m)) = ((bif Nat.beq j k then true else hasN k l) || hasN k m)
    rw [hasN_append k l m]
    cases Nat.beq j k <;> rfl
def inE (nt : Nat) (dr : List Nat) (t : Nat) : Bool := Nat.blt t nt && Nat.blt t 1024 && !hasN t dr
def rdM (nt : Nat) (dr : List Nat) (m : M) : Ref → Rd
  | .op _ => rdX
  | .slot t => match lkM m t with
    | some v => rdV v
    | none => bsel (inE nt dr t) (rdE t) rdX
  | .lit v => rdV (βV v)
def Ee (nt : Nat) (dr : List Nat) (e : E) (env : T AV) : Prop := ∀ t, inE nt dr t = true → evS env (.slot t) = αV (e.at t)
structure Em (nt : Nat) (dr : List Nat) (m : M) (e : E) (env : T AV) : Prop where
  e : Ee nt dr e env
  m : ∀ t v, lkM m t = some v → evS env (.slot t) = αV v
theorem inE_lt {nt : Nat} {dr : List Nat} {t : Nat} (h : inE nt dr t = true) : t < nt ∧ t < 1024 := by
  unfold inE at h
  rw [Bool.and_eq_true, Bool.and_eq_true, Nat.blt_eq, Nat.blt_eq] at h
  exact h.1
theorem rdM_ok {nt : Nat} {dr : List Nat} {m : M} {e : E} {env : T AV} (h : Em nt dr m e env) : RdOk (rdM nt dr m) e (evS env) := fun r k hk => by
  cases r with
  | op j => exact absurd rfl hk
  | slot t =>
    simp only [rdM] at hk ⊢
    cases hm : lkM m t with
    | some v => exact ⟨v, h.m t v hm, rfl⟩
    | none =>
      rw [hm] at hk
      dsimp only at hk ⊢
      cases hb : inE nt dr t
      · rw [hb] at hk; exact absurd rfl hk
      · dsimp only [bsel]
        exact ⟨e.at t, h.e t hb, rdE_eq (inE_lt hb).2 e k⟩
  | lit v => exact ⟨βV v, (αβ v).symm, rfl⟩
theorem evS_put {env : T AV} {d t : Nat} (hd : d < 1024) (v : AV) : evS (env.put d v) (.slot t) = if t = d then v else evS env (.slot t) := by
  simp only [evS, T.get_put _ _ _ _ (show d < 1048576 by omega)]
  by_cases h : t = d
  · rw [if_pos h, if_pos h]
  · rw [if_neg h, if_neg h]
def Fr (S : List Nat) (env env' : T AV) : Prop := ∀ t, hasN t S = false → evS env' (.slot t) = evS env (.slot t)
theorem Fr.refl (S : List Nat) (env : T AV) : Fr S env env := fun _ _ => rfl
theorem Fr.trans {S T' : List Nat} {a b c : T AV} (h : Fr S a b) (h' : Fr T' b c) : Fr (S ++ T') a c := fun t ht => by
  rw [hasN_append, Bool.or_eq_false_iff] at ht
  exact (h' t ht.2).trans (h t ht.1)
theorem Fr.left {S T' : List Nat} {a b : T AV} (h : Fr S a b) : Fr (S ++ T') a b := fun t ht => by
  rw [hasN_append, Bool.or_eq_false_iff] at ht
  exact h t ht.1
theorem Fr.right {S T' : List Nat} {a b : T AV} (h : Fr T' a b) : Fr (S ++ T') a b := fun t ht => by
  rw [hasN_append, Bool.or_eq_false_iff] at ht
  exact h t ht.2
def filt (S : List Nat) : M → M
  | [] => []
  | p :: l => bif hasN p.1 S then filt S l else p :: filt S l
theorem filt_lk {S : List Nat} {t : Nat} {v : FV} : ∀ {m : M}, lkM (filt S m) t = some v → hasN t S = false ∧ lkM m t = some v
  | [], h => by cases h
  | p :: l, h => by
    unfold filt at h
    unfold lkM
    cases hp : hasN p.1 S with
    | true =>
      rw [hp] at h
      obtain ⟨h1, h2⟩ := filt_lk (m := l) h
      refine ⟨h1, ?_⟩
      cases hb : Nat.beq p.1 t
      · exact h2
      · rw [← Nat.eq_of_beq_eq_true hb, hp] at h1; cases h1
    | false =>
      rw [hp] at h
      have h : (bif Nat.beq p.1 t then some p.2 else lkM (filt S l) t) = some v := h
      cases hb : Nat.beq p.1 t
      · rw [hb] at h; exact filt_lk (m := l) h
      · rw [hb] at h; exact ⟨by rw [← Nat.eq_of_beq_eq_true hb]; exact hp, h⟩
theorem Em.filt {nt : Nat} {dr S : List Nat} {m : M} {e e' : E} {env env' : T AV} (h : Em nt dr m e env) (hf : Fr S env env') (he : Ee nt dr e' env') : Em nt dr (filt S m) e' env' := ⟨he, fun t v ht => by
  obtain ⟨h1, h2⟩ := filt_lk ht
  rw [hf t h1]; exact h.m t v h2⟩
/-! Code. -/
abbrev Cd := Phi → Nat → K2 → K2 → (Nat → K2) → K2
def cSkip : Cd := fun _ _ kn _ _ => kn
def cRet : Cd := fun _ _ _ kr _ => kr
def cExit (i : Nat) : Cd := fun _ _ _ _ ke => ke i
def cSeq (a b : Cd) : Cd := fun Φ N kn kr ke => a Φ N (b Φ N kn kr ke) kr ke
def cCond (c : Rd) (a b : Cd) : Cd := fun Φ N kn kr ke e σ => c e fun v => kB (fun t => Bool.rec (b Φ N kn kr ke e σ) (a Φ N kn kr ke e σ) t) v
def cBlk (id : Nat) (c : Cd) : Cd := fun Φ N kn kr ke => c Φ N kn kr fun i e σ => Bool.rec (ke i e σ) (kn e σ) (Nat.beq i id)
def cLoop (fuel : Nat) (c : Cd) : Cd := fun Φ N _ kr ke e σ => Nat.rec (motive := fun _ => K2) (fun _ _ => .bad) (fun _ ih e σ => FH.rec (motive := fun _ => FR) (fun n m => gT (Nat.ble N n) (c Φ N ih kr ke e ⟨n, m⟩)) σ) fuel e σ
def cBad : Cd := fun _ _ _ _ _ _ _ => .bad
def cLet (op : Opc) (f : FV → Cd) : Cd := fun Φ N kn kr ke e σ => op Φ e σ fun v σ => f v Φ N kn kr ke e σ
def cLetW (op : Opc) (w : Wr) (f : FV → Cd) : Cd := fun Φ N kn kr ke e σ => op Φ e σ fun v σ => w e v fun e => f v Φ N kn kr ke e σ
def cDo (op : Opc) (c : Cd) : Cd := fun Φ N kn kr ke e σ => op Φ e σ fun _ σ => c Φ N kn kr ke e σ
def cWr (w : Wr) (v : FV) (c : Cd) : Cd := fun Φ N kn kr ke e σ => w e v fun e => c Φ N kn kr ke e σ
def stM (nt : Nat) (dr : List Nat) (d : Nat) (op : Opc) (f : FV → Cd) : Cd := bsel (Nat.blt d nt && Nat.blt d 1024) (bsel (hasN d dr) (cLet op f) (cLetW op (wrE d) f)) cBad
def wvM (nt : Nat) (dr : List Nat) (d : Nat) (v : FV) (c : Cd) : Cd := bsel (Nat.blt d nt && Nat.blt d 1024) (bsel (hasN d dr) c (cWr (wrE d) v c)) cBad
theorem wr_ok {nt : Nat} {dr : List Nat} {d : Nat} {m : M} {e : E} {env : T AV} {v : FV} {k : E → FR} (he : Em nt dr m e env) (hd : d < 1024) : ∃ e', Em nt dr ((d, v) :: m) e' (env.put d (αV v)) ∧ wrE d e v k = k e' := by
  obtain ⟨e', h1, h2⟩ := wrE_eq hd e v k
  refine ⟨e', ⟨fun t ht => ?_, fun t u ht => ?_⟩, h1⟩
  · rw [evS_put hd, h2 t (inE_lt ht).2]
    by_cases h : t = d
    · rw [if_pos h, if_pos h]
    · rw [if_neg h, if_neg h]; exact he.e t ht
  · rw [evS_put hd]
    have ht : (bif Nat.beq d t then some v else lkM m t) = some u := ht
    cases hb : Nat.beq d t
    · rw [hb] at ht
      rw [if_neg (fun e => by rw [e, Nat.beq_refl] at hb; cases hb)]; exact he.m t u ht
    · rw [hb] at ht; cases ht
      rw [if_pos (Nat.eq_of_beq_eq_true hb).symm]
theorem nowr_ok {nt : Nat} {dr : List Nat} {d : Nat} {m : M} {e : E} {env : T AV} {v : FV} (he : Em nt dr m e env) (hd : d < 1024) (hn : hasN d dr = true) : Em nt dr ((d, v) :: m) e (env.put d (αV v)) := by
  refine ⟨fun t ht => ?_, fun t u ht => ?_⟩
  · rw [evS_put hd]
    have : t ≠ d := fun e => by
      rw [e] at ht; unfold inE at ht; rw [hn] at ht; simp at ht
    rw [if_neg this]; exact he.e t ht
  · rw [evS_put hd]
    have ht : (bif Nat.beq d t then some v else lkM m t) = some u := ht
    cases hb : Nat.beq d t
    · rw [hb] at ht
      rw [if_neg (fun e => by rw [e, Nat.beq_refl] at hb; cases hb)]; exact he.m t u ht
    · rw [hb] at ht; cases ht
      rw [if_pos (Nat.eq_of_beq_eq_true hb).symm]
theorem put_fr {d : Nat} {env : T AV} {v : AV} (hd : d < 1024) : Fr [d] env (env.put d v) := fun t ht => by
  rw [evS_put hd, if_neg]
  rintro rfl
  have ht : (bif Nat.beq t t then true else false) = false := ht
  rw [Nat.beq_refl] at ht; cases ht
def asgR : List CRow → List Nat
  | [] => []
  | r :: l => match r.dst with
    | some d => [d] ++ asgR l
    | none => asgR l
def movV (m : M) (r : CRow) : Option FV := match r.guard with
  | some _ => none
  | none => match r.op with
    | .aop a => match a with
      | .mov x => match x with
        | .slot t => lkM m t
        | .lit v => some (βV v)
        | _ => none
      | _ => none
    | _ => none
theorem movV_ok {nt : Nat} {dr : List Nat} {m : M} {e : E} {env : T AV} {r : CRow} {v : FV} (h : Em nt dr m e env) (hv : movV m r = some v) (Γ : Gam) (σ : AH) : gstep std Γ (evS env) σ r = (true, αV v, σ) := by
  unfold movV at hv
  unfold gstep
  split at hv
  · cases hv
  · rename_i hg
    rw [hg]
    split at hv
    · rename_i a ha
      split at hv
      · rename_i x
        split at hv
        · rename_i t
          dsimp only
          rw [ha]
          show (true, evS env (.slot t), σ) = _
          rw [h.m t v hv]
        · rename_i w
          cases hv
          dsimp only
          rw [ha]
          show (true, w, σ) = _
          rw [αβ w]
        · cases hv
      · cases hv
    · cases hv
def rowsK (nt : Nat) (dr : List Nat) (rest : M → Cd) : List CRow → M → Cd
  | [], m => rest m
  | r :: l, m => match r.dst with
    | some d => match movV m r with
      | some v => wvM nt dr d v (rowsK nt dr rest l ((d, v) :: m))
      | none => stM nt dr d (thrR (rdM nt dr m) r) fun v => rowsK nt dr rest l ((d, v) :: m)
    | none => cDo (thrR (rdM nt dr m) r) (rowsK nt dr rest l m)
theorem rowsK_ok {nt : Nat} {dr : List Nat} {rest : M → Cd} {Φ : Phi} {Γ : Gam} (hΦ : PhiOk Φ Γ) {N : Nat} {kn kr : K2} {ke : Nat → K2} : ∀ (l : List CRow) (m : M) (e : E) (env : T AV) (σ : FH), Em nt dr m e env → rowsK nt dr rest l m Φ N kn kr ke e σ ≠ .bad →
    ∃ m' e' env' σ', evP std Γ l env (αH σ) = (true, env', αH σ') ∧ Fr (asgR l) env env' ∧ Em nt dr m' e' env' ∧ rowsK nt dr rest l m Φ N kn kr ke e σ = rest m' Φ N kn kr ke e' σ'
  | [], m, e, env, σ, he, _ => ⟨m, e, env, σ, rfl, Fr.refl _ _, he, rfl⟩
  | r :: l, m, e, env, σ, he, h => by
    have key := fun k => thrR_ok (rdM_ok he) (fun v => rfl) hΦ r σ k
    unfold rowsK at h ⊢
    unfold evP asgR
    cases hd : r.dst with
    | none =>
      rw [hd] at h
      have h : (thrR (rdM nt dr m) r Φ e σ fun _ σ => rowsK nt dr rest l m Φ N kn kr ke e σ) ≠ .bad := h
      show ∃ m' e' env' σ', _ ∧ _ ∧ _ ∧ (thrR (rdM nt dr m) r Φ e σ fun _ σ => rowsK nt dr rest l m Φ N kn kr ke e σ) = _
      obtain ⟨v, σ1, h1, h2⟩ := key _ h
      rw [h2] at h ⊢
      try dsimp only at h ⊢
      rw [h1]
      dsimp only
      obtain ⟨m', e', env', σ', h3, h4, h5, h6⟩ := rowsK_ok hΦ l m e env σ1 he h
      exact ⟨m', e', env', σ', by simp only [putD]; rw [h3]; rfl, h4, h5, h6⟩
    | some d =>
      rw [hd] at h
      dsimp only at h ⊢
      have go : d < 1024 → ∀ (e1 : E) (v : FV) (σ1 : FH), gstep std Γ (evS env) (αH σ) r = (true, αV v, αH σ1) → Em nt dr ((d, v) :: m) e1 (env.put d (αV v)) → rowsK nt dr rest l ((d, v) :: m) Φ N kn kr ke e1 σ1 ≠ .bad →
          ∃ m' e' env' σ', (match gstep std Γ (evS env) (αH σ) r with | (ok, v, σ') => match evP std Γ l (putD env (some d) v) σ' with | (ok', x) => (ok && ok', x)) = (true, env', αH σ') ∧ Fr ([d] ++ asgR l) env env' ∧ Em nt dr m' e' env' ∧ rowsK nt dr rest l ((d, v) :: m) Φ N kn kr ke e1 σ1 = rest m' Φ N kn kr ke e' σ' := fun hd1 e1 v σ1 h1 h2 h => by
        obtain ⟨m', e', env', σ', h3, h4, h5, h6⟩ := rowsK_ok hΦ l _ e1 _ σ1 h2 h
        refine ⟨m', e', env', σ', ?_, (put_fr hd1).trans h4, h5, h6⟩
        rw [h1]
        dsimp only [putD]
        rw [h3]; rfl
      cases hmv : movV m r with
      | some v =>
        rw [hmv] at h
        have hgs := movV_ok he hmv Γ (αH σ)
        dsimp only at h ⊢
        unfold wvM at h ⊢
        cases hb : Nat.blt d nt && Nat.blt d 1024 with
        | false => rw [hb] at h; exact absurd rfl h
        | true =>
          rw [hb] at h
          rw [Bool.and_eq_true, Nat.blt_eq, Nat.blt_eq] at hb
          dsimp only [bsel] at h ⊢
          cases hn : hasN d dr with
          | true =>
            rw [hn] at h
            exact go hb.2 e v σ hgs (nowr_ok he hb.2 hn) h
          | false =>
            rw [hn] at h
            have h : (wrE d e v fun e => rowsK nt dr rest l ((d, v) :: m) Φ N kn kr ke e σ) ≠ .bad := h
            show ∃ m' e' env' σ', _ ∧ _ ∧ _ ∧ (wrE d e v fun e => rowsK nt dr rest l ((d, v) :: m) Φ N kn kr ke e σ) = _
            obtain ⟨e1, h3, h4⟩ := wr_ok (v := v) (k := fun e => rowsK nt dr rest l ((d, v) :: m) Φ N kn kr ke e σ) he hb.2
            rw [h4] at h ⊢
            exact go hb.2 e1 v σ hgs h3 h
      | none =>
      rw [hmv] at h
      dsimp only at h ⊢
      unfold stM at h ⊢
      cases hb : Nat.blt d nt && Nat.blt d 1024 with
      | false => rw [hb] at h; exact absurd rfl h
      | true =>
        rw [hb] at h
        rw [Bool.and_eq_true, Nat.blt_eq, Nat.blt_eq] at hb
        dsimp only [bsel] at h ⊢
        cases hn : hasN d dr with
        | true =>
          rw [hn] at h
          have h : (thrR (rdM nt dr m) r Φ e σ fun v σ => rowsK nt dr rest l ((d, v) :: m) Φ N kn kr ke e σ) ≠ .bad := h
          show ∃ m' e' env' σ', _ ∧ _ ∧ _ ∧ (thrR (rdM nt dr m) r Φ e σ fun v σ => rowsK nt dr rest l ((d, v) :: m) Φ N kn kr ke e σ) = _
          obtain ⟨v, σ1, h1, h2⟩ := key _ h
          rw [h2] at h ⊢
          exact go hb.2 e v σ1 h1 (nowr_ok he hb.2 hn) h
        | false =>
          rw [hn] at h
          have h : (thrR (rdM nt dr m) r Φ e σ fun v σ => wrE d e v fun e => rowsK nt dr rest l ((d, v) :: m) Φ N kn kr ke e σ) ≠ .bad := h
          show ∃ m' e' env' σ', _ ∧ _ ∧ _ ∧ (thrR (rdM nt dr m) r Φ e σ fun v σ => wrE d e v fun e => rowsK nt dr rest l ((d, v) :: m) Φ N kn kr ke e σ) = _
          obtain ⟨v, σ1, h1, h2⟩ := key _ h
          rw [h2] at h ⊢
          try dsimp only at h ⊢
          obtain ⟨e1, h3, h4⟩ := wr_ok (v := v) (k := fun e => rowsK nt dr rest l ((d, v) :: m) Φ N kn kr ke e σ1) he hb.2
          rw [h4] at h ⊢
          exact go hb.2 e1 v σ1 h1 h3 h
/-! Regions that draw their order. -/
def rdD (nt : Nat) (dr : List Nat) (m vo : M) : Ref → Rd
  | .op k => match lkM vo k with
    | some v => rdV v
    | none => rdX
  | r => rdM nt dr m r
def Vo (vo : M) (vals : T AV) : Prop := ∀ k v, lkM vo k = some v → valD vals k = αV v
theorem rdD_ok {nt : Nat} {dr : List Nat} {m vo : M} {e : E} {env vals : T AV} (h : Em nt dr m e env) (hv : Vo vo vals) : RdOk (rdD nt dr m vo) e (evR env vals) := fun r k hk => by
  cases r with
  | op j =>
    simp only [rdD] at hk ⊢
    cases hm : lkM vo j with
    | some v => exact ⟨v, hv j v hm, rfl⟩
    | none => rw [hm] at hk; exact absurd rfl hk
  | slot t => exact rdM_ok h (.slot t) k hk
  | lit v => exact ⟨βV v, (αβ v).symm, rfl⟩
theorem Vo.put {vo : M} {vals : T AV} {p : Nat} {v : FV} (h : Vo vo vals) (hp : p < 1048576) : Vo ((p, v) :: vo) (vals.put p (αV v)) := fun k u hk => by
  have hk : (bif Nat.beq p k then some v else lkM vo k) = some u := hk
  simp only [valD, T.get_put _ _ _ _ hp]
  cases hb : Nat.beq p k
  · rw [hb] at hk
    rw [if_neg (fun e => by rw [e, Nat.beq_refl] at hb; cases hb)]; exact h k u hk
  · rw [hb] at hk; cases hk
    rw [if_pos (Nat.eq_of_beq_eq_true hb).symm]
def eqQ (v w : FV) (r : FR) : FR := gT (same std (αV v) (αV w)) r
def cRck (op : Opc) (w : FV) (c : Cd) : Cd := fun Φ N kn kr ke e σ => op Φ e σ fun v _ => eqQ v w (c Φ N kn kr ke e σ)
def rckK (nt : Nat) (dr : List Nat) (m vo : M) (all : List (Nat × CRow)) : List Nat → Cd → Cd
  | [], c => c
  | j :: l, c => match all.find? fun p => Nat.beq p.1 j with
    | some q => match lkM vo j with
      | some w => cRck (thrR (rdD nt dr m vo) q.2) w (rckK nt dr m vo all l c)
      | none => cBad
    | none => cBad
theorem rckK_ok {nt : Nat} {dr : List Nat} {m vo : M} {all : List (Nat × CRow)} {Φ : Phi} {Γ : Gam} (hΦ : PhiOk Φ Γ) {e : E} {env vals : T AV} (he : Em nt dr m e env) (hv : Vo vo vals) {σ : FH} {c : Cd} {N : Nat} {kn kr : K2} {ke : Nat → K2} : ∀ (l : List Nat), rckK nt dr m vo all l c Φ N kn kr ke e σ ≠ .bad → rechk std Γ env all vals (αH σ) l = true ∧ rckK nt dr m vo all l c Φ N kn kr ke e σ = c Φ N kn kr ke e σ
  | [], _ => ⟨rfl, rfl⟩
  | j :: l, h => by
    unfold rckK at h ⊢
    unfold rechk
    cases hf : all.find? fun p => Nat.beq p.1 j with
    | none => rw [hf] at h; exact absurd rfl h
    | some q =>
      rw [hf] at h
      dsimp only at h ⊢
      cases hl : lkM vo j with
      | none => rw [hl] at h; exact absurd rfl h
      | some w =>
        rw [hl] at h
        have h : (thrR (rdD nt dr m vo) q.2 Φ e σ fun v _ => eqQ v w (rckK nt dr m vo all l c Φ N kn kr ke e σ)) ≠ .bad := h
        show _ ∧ (thrR (rdD nt dr m vo) q.2 Φ e σ fun v _ => eqQ v w (rckK nt dr m vo all l c Φ N kn kr ke e σ)) = _
        obtain ⟨v, σ1, h1, h2⟩ := thrR_ok (rdD_ok he hv) (fun v => rfl) hΦ q.2 σ _ h
        rw [h2] at h ⊢
        try dsimp only at h ⊢
        obtain ⟨h5, h6⟩ := gT_cases (show gT (same std (αV v) (αV w)) (rckK nt dr m vo all l c Φ N kn kr ke e σ) ≠ .bad from h)
        unfold eqQ at h ⊢
        rw [h6] at h ⊢
        obtain ⟨h7, h8⟩ := rckK_ok hΦ he hv l h
        refine ⟨?_, h8⟩
        try dsimp only
        rw [h1]
        simp only [Bool.true_and]
        rw [hv j w hl, h5, h7]; rfl
def movD1 (m vo : M) (r : CRow) : Option FV := match r.guard with
  | some _ => none
  | none => match r.op with
    | .aop a => match a with
      | .mov x => match x with
        | .slot t => lkM m t
        | .op j => lkM vo j
        | .lit v => some (βV v)
      | _ => none
    | _ => none
theorem movD1_ok {nt : Nat} {dr : List Nat} {m vo : M} {e : E} {env vals : T AV} {r : CRow} {v : FV} (h : Em nt dr m e env) (hV : Vo vo vals) (hv : movD1 m vo r = some v) (Γ : Gam) (σ : AH) : gstep std Γ (evR env vals) σ r = (true, αV v, σ) := by
  unfold movD1 at hv
  unfold gstep
  split at hv
  · cases hv
  · rename_i hg
    rw [hg]
    split at hv
    · rename_i a ha
      split at hv
      · rename_i x
        split at hv
        · rename_i t
          dsimp only
          rw [ha]
          show (true, evR env vals (.slot t), σ) = _
          rw [show evR env vals (.slot t) = αV v from h.m t v hv]
        · rename_i j
          dsimp only
          rw [ha]
          show (true, valD vals j, σ) = _
          rw [hV j v hv]
        · rename_i w
          cases hv
          dsimp only
          rw [ha]
          show (true, w, σ) = _
          rw [αβ w]
      · cases hv
    · cases hv
def rowsD (nt : Nat) (dr : List Nat) (m : M) (all : List (Nat × CRow)) (rc : Nat → List Nat) (fin : M → Cd) : List (Nat × CRow) → M → Cd
  | [], vo => fin vo
  | p :: l, vo => bsel (Nat.blt p.1 1024) (match movD1 m vo p.2 with
    | some v => rckK nt dr m ((p.1, v) :: vo) all (rc p.1) (rowsD nt dr m all rc fin l ((p.1, v) :: vo))
    | none => cLet (thrR (rdD nt dr m vo) p.2) fun v => rckK nt dr m ((p.1, v) :: vo) all (rc p.1) (rowsD nt dr m all rc fin l ((p.1, v) :: vo))) cBad
theorem rowsD_ok {nt : Nat} {dr : List Nat} {m : M} {all : List (Nat × CRow)} {rc : Nat → List Nat} {fin : M → Cd} {Φ : Phi} {Γ : Gam} (hΦ : PhiOk Φ Γ) {e : E} {env : T AV} (he : Em nt dr m e env) {N : Nat} {kn kr : K2} {ke : Nat → K2} : ∀ (l : List (Nat × CRow)) (vo : M) (vals : T AV) (σ : FH), Vo vo vals → rowsD nt dr m all rc fin l vo Φ N kn kr ke e σ ≠ .bad →
    ∃ vo' vals' σ', evD std Γ env all rc l vals (αH σ) = (true, vals', αH σ') ∧ Vo vo' vals' ∧ rowsD nt dr m all rc fin l vo Φ N kn kr ke e σ = fin vo' Φ N kn kr ke e σ'
  | [], vo, vals, σ, hv, _ => ⟨vo, vals, σ, rfl, hv, rfl⟩
  | p :: l, vo, vals, σ, hv, h => by
    rw [evD_cons]
    unfold rowsD at h ⊢
    cases hp : Nat.blt p.1 1024 with
    | false => rw [hp] at h; exact absurd rfl h
    | true =>
      rw [hp] at h
      rw [Nat.blt_eq] at hp
      cases hmv : movD1 m vo p.2 with
      | some v =>
        rw [hmv] at h
        have h : rckK nt dr m ((p.1, v) :: vo) all (rc p.1) (rowsD nt dr m all rc fin l ((p.1, v) :: vo)) Φ N kn kr ke e σ ≠ .bad := h
        show ∃ vo' vals' σ', _ ∧ _ ∧ rckK nt dr m ((p.1, v) :: vo) all (rc p.1) (rowsD nt dr m all rc fin l ((p.1, v) :: vo)) Φ N kn kr ke e σ = _
        rw [movD1_ok he hv hmv Γ (αH σ)]
        dsimp only
        have g2 : Vo ((p.1, v) :: vo) (vals.put p.1 (αV v)) := hv.put (by omega)
        obtain ⟨g4, g5⟩ := rckK_ok hΦ he g2 _ h
        rw [g5] at h ⊢
        obtain ⟨vo', vals', σ', h3, h4, h5⟩ := rowsD_ok hΦ he l _ _ σ g2 h
        refine ⟨vo', vals', σ', ?_, h4, h5⟩
        rw [h3, g4]; rfl
      | none =>
      rw [hmv] at h
      have h : (thrR (rdD nt dr m vo) p.2 Φ e σ fun v σ => rckK nt dr m ((p.1, v) :: vo) all (rc p.1) (rowsD nt dr m all rc fin l ((p.1, v) :: vo)) Φ N kn kr ke e σ) ≠ .bad := h
      show ∃ vo' vals' σ', _ ∧ _ ∧ (thrR (rdD nt dr m vo) p.2 Φ e σ fun v σ => rckK nt dr m ((p.1, v) :: vo) all (rc p.1) (rowsD nt dr m all rc fin l ((p.1, v) :: vo)) Φ N kn kr ke e σ) = _
      obtain ⟨v, σ1, h1, h2⟩ := thrR_ok (rdD_ok he hv) (fun v => rfl) hΦ p.2 σ _ h
      rw [h2] at h ⊢
      try dsimp only at h ⊢
      rw [h1]
      dsimp only
      have g2 : Vo ((p.1, v) :: vo) (vals.put p.1 (αV v)) := hv.put (by omega)
      obtain ⟨g4, g5⟩ := rckK_ok hΦ he g2 _ h
      rw [g5] at h ⊢
      obtain ⟨vo', vals', σ', h3, h4, h5⟩ := rowsD_ok hΦ he l _ _ σ1 g2 h
      refine ⟨vo', vals', σ', ?_, h4, h5⟩
      rw [h3, g4]; rfl
def movD (nt : Nat) (dr : List Nat) (vo : M) (rest : M → Cd) : List (Option Nat) → Nat → M → Cd
  | [], _, m => rest m
  | d :: l, i, m => match d with
    | none => movD nt dr vo rest l (i + 1) m
    | some d => match lkM vo i with
      | some v => wvM nt dr d v (movD nt dr vo rest l (i + 1) ((d, v) :: m))
      | none => cBad
def asgD : List (Option Nat) → List Nat
  | [] => []
  | d :: l => match d with
    | none => asgD l
    | some d => [d] ++ asgD l
theorem movD_ok {nt : Nat} {dr : List Nat} {vo : M} {rest : M → Cd} {Φ : Phi} {vals : T AV} (hv : Vo vo vals) {σ : FH} {N : Nat} {kn kr : K2} {ke : Nat → K2} : ∀ (l : List (Option Nat)) (i : Nat) (m : M) (e : E) (env : T AV), Em nt dr m e env → movD nt dr vo rest l i m Φ N kn kr ke e σ ≠ .bad → ∃ m' e', Fr (asgD l) env (putAll vals l i env) ∧ Em nt dr m' e' (putAll vals l i env) ∧ movD nt dr vo rest l i m Φ N kn kr ke e σ = rest m' Φ N kn kr ke e' σ
  | [], i, m, e, env, he, _ => ⟨m, e, Fr.refl _ _, he, rfl⟩
  | d :: l, i, m, e, env, he, h => by
    unfold movD at h ⊢
    unfold putAll asgD
    cases d with
    | none => exact movD_ok hv l (i + 1) m e env he h
    | some d =>
      dsimp only at h ⊢
      cases hl : lkM vo i with
      | none => rw [hl] at h; exact absurd rfl h
      | some v =>
        rw [hl] at h
        dsimp only at h ⊢
        unfold wvM at h ⊢
        cases hb : Nat.blt d nt && Nat.blt d 1024 with
        | false => rw [hb] at h; exact absurd rfl h
        | true =>
          rw [hb] at h
          rw [Bool.and_eq_true, Nat.blt_eq, Nat.blt_eq] at hb
          dsimp only [bsel] at h ⊢
          have h1 : valD vals i = αV v := hv i v hl
          simp only [putD]
          rw [h1]
          cases hn : hasN d dr with
          | true =>
            rw [hn] at h
            dsimp only [bsel] at h ⊢
            obtain ⟨m', e', h3, h4, h5⟩ := movD_ok hv l (i + 1) _ e _ (nowr_ok he hb.2 hn) h
            exact ⟨m', e', (put_fr hb.2).trans h3, h4, h5⟩
          | false =>
            rw [hn] at h
            have h : (wrE d e v fun e => movD nt dr vo rest l (i + 1) ((d, v) :: m) Φ N kn kr ke e σ) ≠ .bad := h
            show ∃ m' e', _ ∧ _ ∧ (wrE d e v fun e => movD nt dr vo rest l (i + 1) ((d, v) :: m) Φ N kn kr ke e σ) = _
            obtain ⟨e1, h3, h4⟩ := wr_ok (v := v) (k := fun e => movD nt dr vo rest l (i + 1) ((d, v) :: m) Φ N kn kr ke e σ) he hb.2
            rw [h4] at h ⊢
            obtain ⟨m', e', h5, h6, h7⟩ := movD_ok hv l (i + 1) _ e1 _ h3 h
            exact ⟨m', e', (put_fr hb.2).trans h5, h6, h7⟩
/-! Code. -/
def bdK (ws : List Wr) : List FV → E → (E → FR) → FR := List.rec (motive := fun _ => List FV → E → (E → FR) → FR) (fun l e k => List.rec (motive := fun _ => FR) (k e) (fun _ _ _ => .bad) l) (fun w _ ih l e k => List.rec (motive := fun _ => FR) .bad (fun v l _ => w e v fun e => ih l e k) l) ws
def kX : K2 := fun _ _ => .bad
def kXe : Nat → K2 := fun _ _ _ => .bad
def rnQ (ws : List Wr) (a b : Cd) (Φ : Phi) (e : E) : HF := fun l σ k => bdK ws l e fun e => FH.rec (motive := fun _ => FR) (fun N m => a Φ N (b Φ N (fun _ σ => k (.b true) σ) kX kXe) kX kXe e ⟨N, m⟩) σ
def shO : FObj := .cells [] 0 .ro
def cRf (f : Rd) (ws : List Wr) (a b : Cd) : Cd := fun Φ _ kn _ _ e σ => f e fun v => FV.rec (motive_1 := fun _ => FR) (motive_2 := fun _ => FR) (fun _ _ => .bad) (fun _ _ => .bad) (fun _ => .bad) (fun _ => .bad) (fun _ _ => .bad) (fun _ _ _ _ _ _ => .bad) (fun _ => .bad) (fun _ => .bad) (fun g x y _ _ => Fn.rec (motive := fun _ => FR) (fun n => nM σ shO fun bl σ => appK x (FV.y bl :: y) fun l => (Φ.up bl (rnQ ws a b Φ.bare e)).fn n l σ fun _ σ => kn e σ) (fun _ => .bad) (fun _ _ => .bad) (fun _ _ _ _ => .bad) (fun _ => .bad) g) (fun _ _ _ => .bad) (fun _ _ => .bad) (fun _ => .bad) (fun _ _ => .bad) (fun _ _ => .bad) (fun _ => .bad) .bad (fun _ _ _ _ => .bad) v
def wrB (nt : Nat) (dr : List Nat) (t : Nat) : Wr := bsel (inE nt dr t) (wrE t) wrX
def asg : ACode → List Nat
  | .seq a b => asg a ++ asg b
  | .cond _ a b => asg a ++ asg b
  | .block _ c => asg c
  | .loop c => asg c
  | .reg rows => asgR rows
  | .regd _ _ ds => asgD ds
  | _ => []
def cS : M → Cd := fun _ => cSkip
def thrK (fuel nt : Nat) (dr : List Nat) : ACode → M → (M → Cd) → Cd
  | .skip, m, rest => rest m
  | .ret, _, _ => cRet
  | .exit id, _, _ => cExit id
  | .seq a b, m, rest => thrK fuel nt dr a m fun m => thrK fuel nt dr b m rest
  | .cond c a b, m, rest => cSeq (cCond (rdM nt dr m c) (thrK fuel nt dr a m cS) (thrK fuel nt dr b m cS)) (rest (filt (asg a ++ asg b) m))
  | .block id c, m, rest => cSeq (cBlk id (thrK fuel nt dr c m cS)) (rest (filt (asg c) m))
  | .loop c, m, _ => cLoop fuel (thrK fuel nt dr c (filt (asg c) m) cS)
  | .reg rows, m, rest => rowsK nt dr rest rows m
  | .regd st rcs ds, m, rest => rowsD nt dr m st (rcGet rcs) (fun vo => movD nt dr vo rest ds 0 m) st []
  | .bad, _, _ => cBad
  | .rfun f ps a b, m, rest => cSeq (cRf (rdM nt dr m f) (ps.map (wrB nt dr)) (thrK fuel nt dr a (filt ps m) cS) (thrK fuel nt dr b (filt (asg a) (filt ps m)) cS)) (rest m)
  | .mfor _ _ _ _ _, _, _ => cBad
def KEnd (nt : Nat) (dr : List Nat) (rest : M → Cd) (Φ : Phi) (N : Nat) (kn kr : K2) (ke : Nat → K2) (fr : FR) (e' : E) (env' : T AV) (σ' : FH) : AX → Prop
  | .normal => ∃ m', Em nt dr m' e' env' ∧ fr = rest m' Φ N kn kr ke e' σ'
  | .ret => Ee nt dr e' env' ∧ fr = kr e' σ'
  | .exit i => Ee nt dr e' env' ∧ fr = ke i e' σ'
def KOk (fuel nt : Nat) (dr : List Nat) (c : ACode) : Prop := ∀ m rest Φ Γ, PhiOk Φ Γ → ∀ N kn kr ke e σ env, Em nt dr m e env → thrK fuel nt dr c m rest Φ N kn kr ke e σ ≠ .bad →
  ∃ x env' e' σ', run std Γ N fuel c env (αH σ) = .ok x env' (αH σ') ∧ Fr (asg c) env env' ∧ KEnd nt dr rest Φ N kn kr ke (thrK fuel nt dr c m rest Φ N kn kr ke e σ) e' env' σ' x
theorem bindP_fr : ∀ (ps : List Nat) (l : List AV) (env : T AV), (∀ p ∈ ps, p < 1024) → Fr ps env (bindP env ps l)
  | [], l, env, _ => by cases l <;> exact Fr.refl _ _
  | p :: ps, [], env, _ => Fr.refl _ _
  | p :: ps, v :: l, env, h => (put_fr (h p List.mem_cons_self)).trans (bindP_fr ps l _ fun q hq => h q (List.mem_cons_of_mem _ hq))
theorem bdK_ok {nt : Nat} {dr : List Nat} : ∀ (ps : List Nat) (l : List FV) (e : E) (env : T AV) (k : E → FR), Ee nt dr e env → bdK (ps.map (wrB nt dr)) l e k ≠ .bad → (∀ p ∈ ps, p < 1024) ∧ Nat.beq ps.length (αL l).length = true ∧ ∃ e', Ee nt dr e' (bindP env ps (αL l)) ∧ bdK (ps.map (wrB nt dr)) l e k = k e'
  | [], [], e, env, k, he, _ => ⟨fun p hp => (by cases hp), rfl, e, he, rfl⟩
  | [], _ :: _, e, env, k, he, h => absurd rfl h
  | _ :: _, [], e, env, k, he, h => absurd rfl h
  | p :: ps, v :: l, e, env, k, he, h => by
    have h : (wrB nt dr p e v fun e => bdK (ps.map (wrB nt dr)) l e k) ≠ .bad := h
    show _ ∧ _ ∧ ∃ e', _ ∧ (wrB nt dr p e v fun e => bdK (ps.map (wrB nt dr)) l e k) = _
    unfold wrB at h ⊢
    cases hb : inE nt dr p with
    | false => rw [hb] at h; exact absurd rfl h
    | true =>
      rw [hb] at h
      have hp := inE_lt hb
      dsimp only [bsel] at h ⊢
      obtain ⟨e1, h3, h4⟩ := wr_ok (m := []) (v := v) (k := fun e => bdK (ps.map (wrB nt dr)) l e k) ⟨he, fun t u hu => by cases hu⟩ hp.2
      have h4' : (wrE p e v fun e => bdK (ps.map (fun t => bsel (inE nt dr t) (wrE t) wrX)) l e k) = bdK (ps.map (wrB nt dr)) l e1 k := h4
      rw [h4'] at h ⊢
      obtain ⟨h0, h1, e', h2, h5⟩ := bdK_ok ps l e1 _ k h3.e h
      refine ⟨fun q hq => ?_, ?_, e', h2, h5⟩
      · rcases List.mem_cons.1 hq with rfl | hq
        · exact hp.2
        · exact h0 q hq
      · show Nat.beq (ps.length + 1) ((αL l).length + 1) = true
        exact h1
theorem rnQ_ok {fuel nt : Nat} {dr : List Nat} {a b : ACode} (ha : KOk fuel nt dr a) (hb : KOk fuel nt dr b) {Φ : Phi} {Γ : Gam} (hΦ : PhiOk Φ Γ) (ps : List Nat) {m : M} {e : E} {env : T AV} (he : Em nt dr m e env) :
    HOk (rnQ (ps.map (wrB nt dr)) (thrK fuel nt dr a (filt ps m) cS) (thrK fuel nt dr b (filt (asg a) (filt ps m)) cS) Φ.bare e) (rnd (both std Γ.bare fuel a b) env ps) := fun l σ k h => by
  unfold rnQ at h ⊢
  obtain ⟨h0, h1, e1, h2, h3⟩ := bdK_ok ps l e env _ he.e h
  rw [h3] at h ⊢
  obtain ⟨N, mm⟩ := σ
  have h : thrK fuel nt dr a (filt ps m) cS Φ.bare N (thrK fuel nt dr b (filt (asg a) (filt ps m)) cS Φ.bare N (fun _ σ => k (.b true) σ) kX kXe) kX kXe e1 ⟨N, mm⟩ ≠ .bad := h
  show ∃ v σ', _ ∧ thrK fuel nt dr a (filt ps m) cS Φ.bare N (thrK fuel nt dr b (filt (asg a) (filt ps m)) cS Φ.bare N (fun _ σ => k (.b true) σ) kX kXe) kX kXe e1 ⟨N, mm⟩ = _
  have hm1 := he.filt (bindP_fr ps (αL l) env h0) h2
  obtain ⟨x, env1, e2, σ1, g1, g2, g3⟩ := ha _ _ _ _ hΦ.bare N _ _ _ e1 _ _ hm1 h
  cases x with
  | ret => rw [g3.2] at h; exact absurd rfl h
  | exit i => rw [g3.2] at h; exact absurd rfl h
  | normal =>
    obtain ⟨m', g4, g5⟩ := g3
    rw [g5] at h ⊢
    have h : thrK fuel nt dr b (filt (asg a) (filt ps m)) cS Φ.bare N (fun _ σ => k (.b true) σ) kX kXe e2 σ1 ≠ .bad := h
    show ∃ v σ', _ ∧ thrK fuel nt dr b (filt (asg a) (filt ps m)) cS Φ.bare N (fun _ σ => k (.b true) σ) kX kXe e2 σ1 = _
    obtain ⟨y, env2, e3, σ2, g6, _, g7⟩ := hb _ _ _ _ hΦ.bare N _ _ _ e2 σ1 env1 (hm1.filt g2 g4.e) h
    cases y with
    | ret => rw [g7.2] at h; exact absurd rfl h
    | exit i => rw [g7.2] at h; exact absurd rfl h
    | normal =>
      obtain ⟨m'', _, g8⟩ := g7
      rw [g8]
      refine ⟨.b true, σ2, ?_, rfl⟩
      unfold rnd
      rw [h1]
      dsimp only [cond_true]
      have e4 : both std Γ.bare fuel a b (bindP env ps (αL l)) (αH ⟨N, mm⟩) = .ok .normal env2 (αH σ2) := by
        unfold both
        rw [show (αH ⟨N, mm⟩).next = N from rfl, g1]
        exact g6
      rw [e4]; rfl
theorem thrK_ok {fuel nt : Nat} {dr : List Nat} : ∀ c : ACode, KOk fuel nt dr c := by
  intro c
  induction c with
  | skip => intro m rest Φ Γ hΦ N kn kr ke e σ env he _; exact ⟨.normal, env, e, σ, rfl, Fr.refl _ _, m, he, rfl⟩
  | ret => intro m rest Φ Γ hΦ N kn kr ke e σ env he _; exact ⟨.ret, env, e, σ, rfl, Fr.refl _ _, he.e, rfl⟩
  | exit i => intro m rest Φ Γ hΦ N kn kr ke e σ env he _; exact ⟨.exit i, env, e, σ, rfl, Fr.refl _ _, he.e, rfl⟩
  | bad => intro m rest Φ Γ hΦ N kn kr ke e σ env he h; exact absurd rfl h
  | mfor => intro m rest Φ Γ hΦ N kn kr ke e σ env he h; exact absurd rfl h
  | seq a b ia ib =>
    intro m rest Φ Γ hΦ N kn kr ke e σ env he h
    have h : thrK fuel nt dr a m (fun m => thrK fuel nt dr b m rest) Φ N kn kr ke e σ ≠ .bad := h
    show ∃ x env' e' σ', (run std Γ N fuel a env (αH σ)).next (run std Γ N fuel b) = _ ∧ Fr (asg a ++ asg b) env env' ∧ KEnd nt dr rest Φ N kn kr ke (thrK fuel nt dr a m (fun m => thrK fuel nt dr b m rest) Φ N kn kr ke e σ) e' env' σ' x
    obtain ⟨x, env1, e1, σ1, h1, h2, h3⟩ := ia m _ Φ Γ hΦ N kn kr ke e σ env he h
    rw [h1]
    cases x with
    | normal =>
      obtain ⟨m', g1, g2⟩ := h3
      rw [g2] at h ⊢
      obtain ⟨y, env2, e2, σ2, h4, h5, h6⟩ := ib m' rest Φ Γ hΦ N kn kr ke e1 σ1 env1 g1 h
      exact ⟨y, env2, e2, σ2, h4, h2.trans h5, h6⟩
    | ret => exact ⟨.ret, env1, e1, σ1, rfl, h2.left, h3⟩
    | exit i => exact ⟨.exit i, env1, e1, σ1, rfl, h2.left, h3⟩
  | cond c a b ia ib =>
    intro m rest Φ Γ hΦ N kn kr ke e σ env he h
    have h : cCond (rdM nt dr m c) (thrK fuel nt dr a m cS) (thrK fuel nt dr b m cS) Φ N (rest (filt (asg a ++ asg b) m) Φ N kn kr ke) kr ke e σ ≠ .bad := h
    show ∃ x env' e' σ', (match evS env c with | .bool t => bif t then run std Γ N fuel a env (αH σ) else run std Γ N fuel b env (αH σ) | _ => .bad) = _ ∧ Fr (asg a ++ asg b) env env' ∧ KEnd nt dr rest Φ N kn kr ke (cCond (rdM nt dr m c) (thrK fuel nt dr a m cS) (thrK fuel nt dr b m cS) Φ N (rest (filt (asg a ++ asg b) m) Φ N kn kr ke) kr ke e σ) e' env' σ' x
    unfold cCond at h ⊢
    obtain ⟨v, h1, h2⟩ := rdM_ok he c _ h
    rw [h2] at h ⊢
    rw [h1]
    obtain ⟨t, rfl, h3⟩ := kB_cases h
    rw [h3] at h ⊢
    have fin : ∀ (q : ACode), KOk fuel nt dr q → (∀ e1, Fr (asg q) env e1 → Fr (asg a ++ asg b) env e1) → thrK fuel nt dr q m cS Φ N (rest (filt (asg a ++ asg b) m) Φ N kn kr ke) kr ke e σ ≠ .bad →
        ∃ x env' e' σ', run std Γ N fuel q env (αH σ) = .ok x env' (αH σ') ∧ Fr (asg a ++ asg b) env env' ∧ KEnd nt dr rest Φ N kn kr ke (thrK fuel nt dr q m cS Φ N (rest (filt (asg a ++ asg b) m) Φ N kn kr ke) kr ke e σ) e' env' σ' x := fun q iq hf h => by
      obtain ⟨x, env1, e1, σ1, g1, g2, g3⟩ := iq m _ Φ Γ hΦ N _ kr ke e σ env he h
      refine ⟨x, env1, e1, σ1, g1, hf _ g2, ?_⟩
      cases x with
      | normal => obtain ⟨m', g4, g5⟩ := g3; exact ⟨_, he.filt (hf _ g2) g4.e, g5⟩
      | ret => exact g3
      | exit i => exact g3
    cases t with
    | true => exact fin a ia (fun _ h => h.left) h
    | false => exact fin b ib (fun _ h => h.right) h
  | block id c ic =>
    intro m rest Φ Γ hΦ N kn kr ke e σ env he h
    have h : thrK fuel nt dr c m cS Φ N (rest (filt (asg c) m) Φ N kn kr ke) kr (fun i e σ => Bool.rec (ke i e σ) (rest (filt (asg c) m) Φ N kn kr ke e σ) (Nat.beq i id)) e σ ≠ .bad := h
    show ∃ x env' e' σ', (run std Γ N fuel c env (αH σ)).block id = _ ∧ Fr (asg c) env env' ∧ KEnd nt dr rest Φ N kn kr ke (thrK fuel nt dr c m cS Φ N (rest (filt (asg c) m) Φ N kn kr ke) kr (fun i e σ => Bool.rec (ke i e σ) (rest (filt (asg c) m) Φ N kn kr ke e σ) (Nat.beq i id)) e σ) e' env' σ' x
    obtain ⟨x, env1, e1, σ1, h1, h2, h3⟩ := ic m _ Φ Γ hΦ N _ kr _ e σ env he h
    rw [h1]
    cases x with
    | normal => obtain ⟨m', g4, g5⟩ := h3; exact ⟨.normal, env1, e1, σ1, rfl, h2, _, he.filt h2 g4.e, g5⟩
    | ret => exact ⟨.ret, env1, e1, σ1, rfl, h2, h3⟩
    | exit i =>
      obtain ⟨g4, g5⟩ := h3
      rw [g5]
      show ∃ x env' e' σ', (bif Nat.beq i id then RR.ok .normal env1 (αH σ1) else .ok (.exit i) env1 (αH σ1)) = _ ∧ _ ∧ KEnd nt dr rest Φ N kn kr ke (Bool.rec (ke i e1 σ1) (rest (filt (asg c) m) Φ N kn kr ke e1 σ1) (Nat.beq i id) : FR) e' env' σ' x
      cases hb : Nat.beq i id with
      | true => exact ⟨.normal, env1, e1, σ1, rfl, h2, _, he.filt h2 g4, rfl⟩
      | false => exact ⟨.exit i, env1, e1, σ1, rfl, h2, g4, rfl⟩
  | loop c ic =>
    intro m rest Φ Γ hΦ N kn kr ke e σ env he h
    have key : ∀ (n : Nat) (e1 : E) (σ : FH) (env1 : T AV), Fr (asg c) env env1 → Ee nt dr e1 env1 → (Nat.rec (motive := fun _ => K2) (fun _ _ => .bad) (fun _ ih e σ => FH.rec (motive := fun _ => FR) (fun n mm => gT (Nat.ble N n) (thrK fuel nt dr c (filt (asg c) m) cS Φ N ih kr ke e ⟨n, mm⟩)) σ) n e1 σ : FR) ≠ .bad →
        ∃ x env' e' σ', runLoop N (run std Γ N fuel c) n env1 (αH σ) = .ok x env' (αH σ') ∧ Fr (asg c) env env' ∧ KEnd nt dr rest Φ N kn kr ke (Nat.rec (motive := fun _ => K2) (fun _ _ => .bad) (fun _ ih e σ => FH.rec (motive := fun _ => FR) (fun n mm => gT (Nat.ble N n) (thrK fuel nt dr c (filt (asg c) m) cS Φ N ih kr ke e ⟨n, mm⟩)) σ) n e1 σ : FR) e' env' σ' x := by
      intro n
      induction n with
      | zero => intro e1 σ env1 _ _ h; exact absurd rfl h
      | succ n ih =>
        intro e1 σ env1 hf he1 h
        obtain ⟨q, mm⟩ := σ
        have h : gT (Nat.ble N q) (thrK fuel nt dr c (filt (asg c) m) cS Φ N (Nat.rec (motive := fun _ => K2) (fun _ _ => .bad) (fun _ ih e σ => FH.rec (motive := fun _ => FR) (fun n mm => gT (Nat.ble N n) (thrK fuel nt dr c (filt (asg c) m) cS Φ N ih kr ke e ⟨n, mm⟩)) σ) n) kr ke e1 ⟨q, mm⟩) ≠ .bad := h
        show ∃ x env' e' σ', (bif Nat.ble N q then (run std Γ N fuel c env1 (αH ⟨q, mm⟩)).next (runLoop N (run std Γ N fuel c) n) else .bad) = _ ∧ _ ∧ KEnd nt dr rest Φ N kn kr ke (gT (Nat.ble N q) (thrK fuel nt dr c (filt (asg c) m) cS Φ N (Nat.rec (motive := fun _ => K2) (fun _ _ => .bad) (fun _ ih e σ => FH.rec (motive := fun _ => FR) (fun n mm => gT (Nat.ble N n) (thrK fuel nt dr c (filt (asg c) m) cS Φ N ih kr ke e ⟨n, mm⟩)) σ) n) kr ke e1 ⟨q, mm⟩)) e' env' σ' x
        obtain ⟨g1, g2⟩ := gT_cases h
        rw [g2] at h ⊢
        rw [g1]
        dsimp only [cond_true]
        obtain ⟨x, env2, e2, σ2, h1, h2, h3⟩ := ic _ _ Φ Γ hΦ N _ kr ke e1 ⟨q, mm⟩ env1 (he.filt hf he1) h
        have h2' : Fr (asg c) env env2 := fun t ht => (h2 t ht).trans (hf t ht)
        rw [h1]
        cases x with
        | normal =>
          obtain ⟨m', g4, g5⟩ := h3
          rw [g5] at h ⊢
          exact ih e2 σ2 env2 h2' g4.e h
        | ret => exact ⟨.ret, env2, e2, σ2, rfl, h2', h3⟩
        | exit i => exact ⟨.exit i, env2, e2, σ2, rfl, h2', h3⟩
    exact key fuel e σ env (Fr.refl _ _) he.e h
  | reg rows =>
    intro m rest Φ Γ hΦ N kn kr ke e σ env he h
    obtain ⟨m', e', env', σ', h1, h2, h3, h4⟩ := rowsK_ok hΦ rows m e env σ he h
    refine ⟨.normal, env', e', σ', ?_, h2, m', h3, h4⟩
    show (match evP std Γ rows env (αH σ) with | (ok, env', σ') => bif ok then RR.ok .normal env' σ' else .bad) = _
    rw [h1]; rfl
  | regd st rcs ds =>
    intro m rest Φ Γ hΦ N kn kr ke e σ env he h
    have h : rowsD nt dr m st (rcGet rcs) (fun vo => movD nt dr vo rest ds 0 m) st [] Φ N kn kr ke e σ ≠ .bad := h
    show ∃ x env' e' σ', (match evDr std Γ st rcs ds env (αH σ) with | (ok, env', σ') => bif ok then RR.ok .normal env' σ' else .bad) = _ ∧ Fr (asgD ds) env env' ∧ KEnd nt dr rest Φ N kn kr ke (rowsD nt dr m st (rcGet rcs) (fun vo => movD nt dr vo rest ds 0 m) st [] Φ N kn kr ke e σ) e' env' σ' x
    obtain ⟨vo, vals, σ1, h1, h2, h3⟩ := rowsD_ok hΦ he st [] .leaf σ (fun k v hk => by cases hk) h
    rw [h3] at h ⊢
    obtain ⟨m', e2, h4, h5, h6⟩ := movD_ok h2 ds 0 m e env he h
    refine ⟨.normal, _, e2, σ1, ?_, h4, m', h5, h6⟩
    unfold evDr
    rw [h1]; rfl
  | rfun f ps a b ia ib =>
    intro m rest Φ Γ hΦ N kn kr ke e σ env he h
    have h : cRf (rdM nt dr m f) (ps.map (wrB nt dr)) (thrK fuel nt dr a (filt ps m) cS) (thrK fuel nt dr b (filt (asg a) (filt ps m)) cS) Φ N (rest m Φ N kn kr ke) kr ke e σ ≠ .bad := h
    show ∃ x env' e' σ', (match evS env f with
      | .fn g first cap => (match g with
        | .func n => (match (Γ.up (αH σ).next (rnd (both std Γ.bare fuel a b) env ps)).fn n (first ++ (AV.yld (αH σ).next :: cap)) ((αH σ).new AObj.shut) with
          | (ok, _, σ') => bif Nat.blt (αH σ).next 1000000 && ok then RR.ok .normal env σ' else .bad)
        | _ => .bad)
      | _ => .bad) = _ ∧ Fr [] env env' ∧ KEnd nt dr rest Φ N kn kr ke (cRf (rdM nt dr m f) (ps.map (wrB nt dr)) (thrK fuel nt dr a (filt ps m) cS) (thrK fuel nt dr b (filt (asg a) (filt ps m)) cS) Φ N (rest m Φ N kn kr ke) kr ke e σ) e' env' σ' x
    unfold cRf at h ⊢
    obtain ⟨v, h1, h2⟩ := rdM_ok he f _ h
    rw [h2] at h ⊢
    rw [h1]
    cases v with
    | fn g x y =>
      cases g with
      | func n =>
        have h : (nM σ shO fun bl σ => appK x (FV.y bl :: y) fun l => (Φ.up bl (rnQ (ps.map (wrB nt dr)) (thrK fuel nt dr a (filt ps m) cS) (thrK fuel nt dr b (filt (asg a) (filt ps m)) cS) Φ.bare e)).fn n l σ fun _ σ => rest m Φ N kn kr ke e σ) ≠ .bad := h
        show ∃ x' env' e' σ', _ ∧ _ ∧ KEnd nt dr rest Φ N kn kr ke (nM σ shO fun bl σ => appK x (FV.y bl :: y) fun l => (Φ.up bl (rnQ (ps.map (wrB nt dr)) (thrK fuel nt dr a (filt ps m) cS) (thrK fuel nt dr b (filt (asg a) (filt ps m)) cS) Φ.bare e)).fn n l σ fun _ σ => rest m Φ N kn kr ke e σ) e' env' σ' x'
        obtain ⟨h3, σ1, h4, h5⟩ := nM_cases h
        rw [h5, appK_eq] at h ⊢
        obtain ⟨w, σ2, h6, h7⟩ := (hΦ.up (l := σ.next) (rnQ_ok ia ib hΦ ps he)).fn n _ σ1 _ h
        rw [h7]
        refine ⟨.normal, env, e, σ2, ?_, Fr.refl _ _, m, he, rfl⟩
        rw [αL_append, h4] at h6
        simp only [αV]
        have h6 : (Γ.up (αH σ).next (rnd (both std Γ.bare fuel a b) env ps)).fn n (αL x ++ (AV.yld (αH σ).next :: αL y)) ((αH σ).new AObj.shut) = (true, αV w, αH σ2) := h6
        rw [h6]
        dsimp only
        rw [h3]; rfl
      | _ => exact absurd rfl h
    | _ => exact absurd rfl h
end
end Go.Proofs.YtcbfjmjphpoimaaGreatDoor.V2
namespace Go.Proofs.YtcbfjmjphpoimaaGreatDoor.V2
open Go
noncomputable section
abbrev Rs := E → FH → (FV → FR) → FR
def vT (r : Rd) : Rs := fun e _ k => r e k
def v1 (r : Rd) : Rs := fun e σ k => r e fun p => ldF p σ k
def vN (n : Nat) (r : Rd) : Rs := fun e σ k => r e fun p => lnF n p σ k
def thrV (nt : Nat) (dr : List Nat) : ARes → Rs
  | .tmp t => vT (rdM nt dr [] (.slot t))
  | .cell1 a => v1 (rdM nt dr [] (.slot a))
  | .cellN a n => vN n (rdM nt dr [] (.slot a))
theorem Ee.m {nt : Nat} {dr : List Nat} {e : E} {env : T AV} (h : Ee nt dr e env) : Em nt dr [] e env := ⟨h, fun t v ht => by cases ht⟩
theorem thrV_ok {nt : Nat} {dr : List Nat} {e : E} {env : T AV} (he : Ee nt dr e env) (x : ARes) (σ : FH) (c : FV → FR) : Sv (thrV nt dr x e σ c) c (resV std env (αH σ) x) := by
  intro h
  cases x with
  | tmp t =>
    obtain ⟨v, h1, h2⟩ := rdM_ok he.m (.slot t) _ h
    exact ⟨v, by simp only [resV]; rw [h1], h2⟩
  | cell1 a =>
    have h : (rdM nt dr [] (.slot a) e fun p => ldF p σ c) ≠ .bad := h
    show ∃ v, _ ∧ (rdM nt dr [] (.slot a) e fun p => ldF p σ c) = _
    obtain ⟨p, h1, h2⟩ := rdM_ok he.m (.slot a) _ h
    rw [h2] at h ⊢
    obtain ⟨v, h3, h4⟩ := ldF_sv p σ c h
    refine ⟨v, ?_, h4⟩
    simp only [resV]
    rw [h1, oLoad1_mem]
    exact h3
  | cellN a n =>
    have h : (rdM nt dr [] (.slot a) e fun p => lnF n p σ c) ≠ .bad := h
    show ∃ v, _ ∧ (rdM nt dr [] (.slot a) e fun p => lnF n p σ c) = _
    obtain ⟨p, h1, h2⟩ := rdM_ok he.m (.slot a) _ h
    rw [h2] at h ⊢
    obtain ⟨v, h3, h4⟩ := lnF_sv n p σ c h
    refine ⟨v, ?_, h4⟩
    simp only [resV]
    rw [h1, oLoadN_mem]
    exact h3
def rsQ (l : List Rs) (e : E) (σ : FH) (k : List FV → FR) : FR := List.rec (motive := fun _ => (List FV → FR) → FR) (fun k => k []) (fun r _ ih k => r e σ fun v => ih fun l => k (v :: l)) l k
theorem rsQ_ok {nt : Nat} {dr : List Nat} {e : E} {env : T AV} (he : Ee nt dr e env) (σ : FH) : ∀ (l : List ARes) (k : List FV → FR), rsQ (l.map (thrV nt dr)) e σ k ≠ .bad → ∃ vs, resL std env (αH σ) l = (true, αL vs) ∧ rsQ (l.map (thrV nt dr)) e σ k = k vs
  | [], k, _ => ⟨[], rfl, rfl⟩
  | x :: l, k, h => by
    have h : (thrV nt dr x e σ fun v => rsQ (l.map (thrV nt dr)) e σ fun l => k (v :: l)) ≠ .bad := h
    show ∃ vs, _ ∧ (thrV nt dr x e σ fun v => rsQ (l.map (thrV nt dr)) e σ fun l => k (v :: l)) = _
    obtain ⟨v, h1, h2⟩ := thrV_ok he x σ _ h
    rw [h2] at h ⊢
    obtain ⟨vs, h3, h4⟩ := rsQ_ok he σ l _ h
    refine ⟨v :: vs, ?_, h4⟩
    simp only [resL]
    rw [h1, h3]; rfl
def rtQ (l : List FV) (k : FV → FR) : FR := List.rec (motive := fun _ => FR) (k (.tup [])) (fun x m _ => List.rec (motive := fun _ => FR) (k x) (fun _ _ _ => k (.tup l)) m) l
theorem rtQ_of (l : List FV) (k : FV → FR) : ∃ v, αV v = retV (αL l) ∧ rtQ l k = k v := by
  match l with
  | [] => exact ⟨.tup [], rfl, rfl⟩
  | [x] => exact ⟨x, rfl, rfl⟩
  | x :: y :: l => exact ⟨.tup (x :: y :: l), rfl, rfl⟩
/-! Arguments. -/
abbrev Ag := Phi → List FV → E → FH → KV → FR
def aEnd (c : Cd) (res : List Rs) : Ag := fun Φ l e σ k => List.rec (motive := fun _ => FR) (FH.rec (motive := fun _ => FR) (fun N m => c Φ N (fun e σ => rsQ res e σ fun vs => rtQ vs fun v => k v σ) (fun e σ => rsQ res e σ fun vs => rtQ vs fun v => k v σ) kXe e ⟨N, m⟩) σ) (fun _ _ _ => .bad) l
def aLet (f : FV → Ag) : Ag := fun Φ l e σ k => List.rec (motive := fun _ => FR) .bad (fun v l _ => f v Φ l e σ k) l
def aLetW (w : Wr) (f : FV → Ag) : Ag := fun Φ l e σ k => List.rec (motive := fun _ => FR) .bad (fun v l _ => w e v fun e => f v Φ l e σ k) l
def aBad : Ag := fun _ _ _ _ _ => .bad
def agH (nt : Nat) (dr : List Nat) (fin : M → Ag) : Nat → Nat → M → Ag
  | 0, _, m => fin m
  | n + 1, i, m => bsel (Nat.blt i nt && Nat.blt i 1024) (bsel (hasN i dr) (aLet fun v => agH nt dr fin n (i + 1) ((i, v) :: m)) (aLetW (wrE i) fun v => agH nt dr fin n (i + 1) ((i, v) :: m))) aBad
theorem agH_ok {nt : Nat} {dr : List Nat} {fin : M → Ag} {Φ : Phi} {σ : FH} {k : KV} : ∀ (n i : Nat) (m : M) (l : List FV) (e : E) (env : T AV), Em nt dr m e env → agH nt dr fin n i m Φ l e σ k ≠ .bad → ∃ l1 l2 m' e', l = l1 ++ l2 ∧ (l1 = [] ∨ i + l1.length ≤ nt) ∧ Em nt dr m' e' (envOf (αL l1) i env) ∧ agH nt dr fin n i m Φ l e σ k = fin m' Φ l2 e' σ k
  | 0, i, m, l, e, env, he, _ => ⟨[], l, m, e, rfl, .inl rfl, he, rfl⟩
  | n + 1, i, m, l, e, env, he, h => by
    unfold agH at h ⊢
    cases hb : Nat.blt i nt && Nat.blt i 1024 with
    | false => rw [hb] at h; exact absurd rfl h
    | true =>
      rw [hb] at h
      rw [Bool.and_eq_true, Nat.blt_eq, Nat.blt_eq] at hb
      dsimp only [bsel] at h ⊢
      cases l with
      | nil => cases hn : hasN i dr <;> rw [hn] at h <;> exact absurd rfl h
      | cons v l =>
        have go : ∀ e1, Em nt dr ((i, v) :: m) e1 (env.put i (αV v)) → agH nt dr fin n (i + 1) ((i, v) :: m) Φ l e1 σ k ≠ .bad → ∃ l1 l2 m' e', v :: l = l1 ++ l2 ∧ (l1 = [] ∨ i + l1.length ≤ nt) ∧ Em nt dr m' e' (envOf (αL l1) i env) ∧ agH nt dr fin n (i + 1) ((i, v) :: m) Φ l e1 σ k = fin m' Φ l2 e' σ k := fun e1 g1 g2 => by
          obtain ⟨l1, l2, m', e', h1, h2, h3, h4⟩ := agH_ok n (i + 1) _ l e1 _ g1 g2
          refine ⟨v :: l1, l2, m', e', by rw [h1]; rfl, .inr ?_, h3, h4⟩
          rw [List.length_cons]
          rcases h2 with rfl | h2
          · simp; omega
          · omega
        cases hn : hasN i dr with
        | true => rw [hn] at h; exact go e (nowr_ok he hb.2 hn) h
        | false =>
          rw [hn] at h
          have h : (wrE i e v fun e => agH nt dr fin n (i + 1) ((i, v) :: m) Φ l e σ k) ≠ .bad := h
          show ∃ l1 l2 m' e', _ ∧ _ ∧ _ ∧ (wrE i e v fun e => agH nt dr fin n (i + 1) ((i, v) :: m) Φ l e σ k) = _
          obtain ⟨e1, h3, h4⟩ := wr_ok (v := v) (k := fun e => agH nt dr fin n (i + 1) ((i, v) :: m) Φ l e σ k) he hb.2
          rw [h4] at h ⊢
          exact go e1 h3 h
def drOf (nt : Nat) (kp : List Nat) : List Nat := Nat.rec [] (fun t ih => bif hasN t kp then ih else t :: ih) nt
def fnQ (a : Ag) (Φ : Phi) : HF := fun l σ k => a Φ l e0 σ k
def thrF (fuel : Nat) (dr : List Nat) (np : Nat) (x : Ent) : Phi → HF := fnQ (agH x.nt dr (fun m => aEnd (thrK fuel x.nt dr x.code m cS) (x.res.map (thrV x.nt dr))) np 0 [])
theorem thrF_ok {fuel : Nat} (dr : List Nat) (np : Nat) (x : Ent) {Φ : Phi} {Γ : Gam} (hΦ : PhiOk Φ Γ) : HOk (thrF fuel dr np x Φ) (runF std Γ fuel x) := fun l σ k h => by
  unfold thrF fnQ at h ⊢
  obtain ⟨l1, l2, m', e, h1, h2, he, h4⟩ := agH_ok np 0 [] l e0 .leaf ⟨fun t _ => by rw [e0_at]; rfl, fun t v ht => by cases ht⟩ h
  rw [h4] at h ⊢
  cases l2 with
  | cons _ _ => exact absurd rfl h
  | nil =>
  rw [List.append_nil] at h1
  subst h1
  obtain ⟨N, m⟩ := σ
  have h : thrK fuel x.nt dr x.code m' cS Φ N (fun e σ => rsQ (x.res.map (thrV x.nt dr)) e σ fun vs => rtQ vs fun v => k v σ) (fun e σ => rsQ (x.res.map (thrV x.nt dr)) e σ fun vs => rtQ vs fun v => k v σ) kXe e ⟨N, m⟩ ≠ .bad := h
  show ∃ v σ', _ ∧ thrK fuel x.nt dr x.code m' cS Φ N (fun e σ => rsQ (x.res.map (thrV x.nt dr)) e σ fun vs => rtQ vs fun v => k v σ) (fun e σ => rsQ (x.res.map (thrV x.nt dr)) e σ fun vs => rtQ vs fun v => k v σ) kXe e ⟨N, m⟩ = _
  obtain ⟨ex, env', e', σ', g1, _, g3⟩ := thrK_ok x.code m' cS Φ Γ hΦ N _ _ _ e ⟨N, m⟩ _ he h
  have hlen : Nat.ble (αL l).length x.nt = true := by
    rw [αL_length, Nat.ble_eq]
    rcases h2 with rfl | h2
    · exact Nat.zero_le _
    · omega
  have fin : ∀ fr : FR, Ee x.nt dr e' env' → fr = (rsQ (x.res.map (thrV x.nt dr)) e' σ' fun vs => rtQ vs fun v => k v σ') → fr ≠ .bad → isRet ex = true → ∃ v σ'', runF std Γ fuel x (αL l) (αH ⟨N, m⟩) = (true, αV v, αH σ'') ∧ fr = k v σ'' := fun fr g2 hfr h hx => by
    rw [hfr] at h ⊢
    obtain ⟨vs, a1, a2⟩ := rsQ_ok g2 σ' x.res _ h
    obtain ⟨v, a3, a4⟩ := rtQ_of vs fun v => k v σ'
    refine ⟨v, σ', ?_, a2.trans a4⟩
    unfold runF
    rw [show (αH ⟨N, m⟩).next = N from rfl, g1]
    dsimp only
    rw [a1]
    dsimp only
    rw [hx, hlen, a3]; rfl
  cases ex with
  | normal => obtain ⟨m'', g4, g5⟩ := g3; exact fin _ g4.e g5 h rfl
  | ret => exact fin _ g3.1 g3.2 h rfl
  | exit i => rw [g3.2] at h; exact absurd rfl h
def PhiG (tab : T (Phi → HF)) (n : Nat) : (FuncId → HF) → (Nat → HF) → Phi := Nat.rec (motive := fun _ => (FuncId → HF) → (Nat → HF) → Phi) (fun b y => .mk b y fun _ _ => .no)
  (fun _ ih b y => .mk (fun f l σ k => tg tab f (b f l σ k) fun q => q (ih b y) l σ k) y fun l H => ih b fun j => Bool.rec (y j) H (Nat.beq j l)) n
def TabQ (fuel : Nat) (tab : T Ent) (tq : T (Phi → HF)) : Prop := (∀ f, tab.get f = none → tq.get f = none) ∧ ∀ f x, tab.get f = some x → ∃ q, tq.get f = some q ∧ ∀ Φ Γ, PhiOk Φ Γ → HOk (q Φ) (runF std Γ fuel x)
theorem PhiG_ok {fuel : Nat} {tab : T Ent} {tq : T (Phi → HF)} (ht : TabQ fuel tab tq) : ∀ (n : Nat) {Γ0 : Gam} {b : FuncId → HF} {y : Nat → HF}, (∀ f, HOk (b f) (Γ0.fn f)) → (∀ j, HOk (y j) (Γ0.yl j)) → PhiOk (PhiG tq n b y) (Gam.grow std fuel tab Sp.none Γ0 n)
  | 0, Γ0, b, y, hb, hy => .mk hb hy fun _ _ _ _ => .no
  | n + 1, Γ0, b, y, hb, hy => by
    have ih := fun {Γ0 : Gam} {b : FuncId → HF} {y : Nat → HF} => PhiG_ok ht n (Γ0 := Γ0) (b := b) (y := y)
    refine .mk (fun f l σ k => ?_) hy (fun l h H hH => ih hb fun j => ?_)
    · show Sm (tg tq f (b f l σ k) fun q => q (PhiG tq n b y) l σ k) k ((match tab.get f with | none => bif Sp.none.is f then Sp.none.fn (Gam.grow std fuel tab Sp.none Γ0 n) f (αL l) (αH σ) else Γ0.fn f (αL l) (αH σ) | some x => runF std (Gam.grow std fuel tab Sp.none Γ0 n) fuel x (αL l) (αH σ)) : Out)
      rw [tg_eq]
      cases hx : tab.get f with
      | none => rw [ht.1 f hx]; exact hb f l σ k
      | some x =>
        obtain ⟨q, h1, h2⟩ := ht.2 f x hx
        rw [h1]
        exact h2 _ _ (ih hb hy) l σ k
    · show HOk (Bool.rec (y j) H (Nat.beq j l)) fun args σ => bif Nat.beq j l then h args σ else Γ0.yl j args σ
      cases Nat.beq j l with
      | true => exact hH
      | false => exact hy j
end
end Go.Proofs.YtcbfjmjphpoimaaGreatDoor.V2
namespace Go.Proofs.YtcbfjmjphpoimaaGreatDoor.V2
open Go
noncomputable section
mutual
def mapV (r : Nat → Nat) : AV → AV
  | .top => .top
  | .bool b => .bool b
  | .int k n => .int k n
  | .str l => .str l
  | .ptr b o => .ptr (r b) o
  | .nilptr => .nilptr
  | .sl b o n k e z => .sl (r b) o n k e z
  | .nilsl => .nilsl
  | .map b => .map (r b)
  | .nilmap => .nilmap
  | .yld b => .yld (r b)
  | .fn f xs ys => .fn f (mapVs r xs) (mapVs r ys)
  | .nilfn => .nilfn
  | .ifc t a => .ifc t (mapV r a)
  | .nilifc => .nilifc
  | .agg l => .agg (mapVs r l)
  | .ints k l => .ints k l
  | .tup l => .tup (mapVs r l)
def mapVs (r : Nat → Nat) : List AV → List AV
  | [] => []
  | a :: l => mapV r a :: mapVs r l
end
def mapO (r : Nat → Nat) : AObj → AObj
  | .dead => .dead
  | .cells l e t => .cells (mapVs r l) e t
  | .ints k l e t => .ints k l e t
  | .map l => .map (l.map fun p => (mapV r p.1, mapV r p.2))
  | .hid => .hid
theorem mapVs_at (r : Nat → Nat) : ∀ (l : List AV) (i : Nat), (mapVs r l)[i]? = (l[i]?).map (mapV r)
  | [], i => by simp [mapVs]
  | a :: l, 0 => by simp [mapVs]
  | a :: l, i + 1 => by simp [mapVs, mapVs_at r l i]
theorem mapVs_length (r : Nat → Nat) : ∀ (l : List AV), (mapVs r l).length = l.length
  | [] => rfl
  | a :: l => by simp [mapVs, mapVs_length r l]
mutual
def below (n : Nat) : AV → Bool
  | .ptr b _ => Nat.blt b n
  | .sl b _ _ _ _ _ => Nat.blt b n
  | .map b => Nat.blt b n
  | .fn _ xs ys => belows n xs && belows n ys
  | .ifc _ a => below n a
  | .agg l => belows n l
  | .tup l => belows n l
  | .top => true
  | .bool _ => true
  | .int _ _ => true
  | .str _ => true
  | .nilptr => true
  | .nilsl => true
  | .nilmap => true
  | .yld b => Nat.blt b n
  | .nilfn => true
  | .nilifc => true
  | .ints _ _ => true
def belows (n : Nat) : List AV → Bool
  | [] => true
  | a :: l => below n a && belows n l
end
def belowO (n : Nat) : AObj → Bool
  | .dead => true
  | .cells l _ _ => belows n l
  | .ints _ _ _ _ => true
  | .map l => l.all fun p => below n p.1 && below n p.2
  | .hid => true
theorem belows_at {n : Nat} : ∀ {l : List AV}, belows n l = true → ∀ (i : Nat) a, l[i]? = some a → below n a = true
  | [], _, i, a, h => by simp at h
  | x :: l, hb, 0, a, h => by
    unfold belows at hb; rw [Bool.and_eq_true] at hb
    simp only [List.getElem?_cons_zero, Option.some.injEq] at h; subst h; exact hb.1
  | x :: l, hb, i + 1, a, h => by
    unfold belows at hb; rw [Bool.and_eq_true] at hb
    exact belows_at hb.2 i a (by simpa using h)
theorem lt_of_blt {a b : Nat} (h : Nat.blt a b = true) : a < b := by rwa [Nat.blt_eq] at h
mutual
theorem VR.unmap {ρ ρ' : Ren} {r : Nat → Nat} {n : Nat} (h : ∀ b x, b < n → ρ (r b) = some x → ρ' b = some x) : ∀ (a : AV) (v : Value), below n a = true → VR ρ (mapV r a) v → VR ρ' a v
  | .top, _, _, _ => trivial
  | .bool _, _, _, e => e
  | .int _ _, _, _, e => e
  | .str _, _, _, e => e
  | .ptr _ _, _, hb, ⟨c, d, hc, e⟩ => ⟨c, d, h _ _ (lt_of_blt hb) hc, e⟩
  | .nilptr, _, _, e => e
  | .sl _ _ _ _ _ _, _, hb, .inl ⟨c, d, o, k, hc, e⟩ => .inl ⟨c, d, o, k, h _ _ (lt_of_blt hb) hc, e⟩
  | .sl _ _ _ _ _ _, _, hb, .inr ⟨h1, h2, h3, ⟨x, hx⟩, e⟩ => .inr ⟨h1, h2, h3, ⟨x, h _ _ (lt_of_blt hb) hx⟩, e⟩
  | .nilsl, _, _, e => e
  | .map _, _, hb, ⟨c, d, hc, e⟩ => ⟨c, d, h _ _ (lt_of_blt hb) hc, e⟩
  | .nilmap, _, _, e => e
  | .yld _, _, hb, ⟨c, d, hc, e⟩ => ⟨c, d, h _ _ (lt_of_blt hb) hc, e⟩
  | .fn _ xs ys, _, hb, ⟨us, vs, e, h1, h2⟩ => ⟨us, vs, e, VRs.unmap h xs us ((Bool.and_eq_true _ _).mp hb).1 h1, VRs.unmap h ys vs ((Bool.and_eq_true _ _).mp hb).2 h2⟩
  | .nilfn, _, _, e => e
  | .ifc _ a, _, hb, ⟨u, e, hu⟩ => ⟨u, e, VR.unmap h a u hb hu⟩
  | .nilifc, _, _, e => e
  | .agg l, _, hb, ⟨us, e, hu⟩ => ⟨us, e, VRs.unmap h l us hb hu⟩
  | .ints _ _, _, _, e => e
  | .tup l, _, hb, ⟨us, e, hu⟩ => ⟨us, e, VRs.unmap h l us hb hu⟩
theorem VRs.unmap {ρ ρ' : Ren} {r : Nat → Nat} {n : Nat} (h : ∀ b x, b < n → ρ (r b) = some x → ρ' b = some x) : ∀ (l : List AV) (vs : List Value), belows n l = true → VRs ρ (mapVs r l) vs → VRs ρ' l vs
  | [], _, _, e => e
  | a :: l, _, hb, ⟨v, m, e, hv, hm⟩ => ⟨v, m, e, VR.unmap h a v ((Bool.and_eq_true _ _).mp hb).1 hv, VRs.unmap h l m ((Bool.and_eq_true _ _).mp hb).2 hm⟩
end
theorem MapL.unmap {ρ ρ' : Ren} {r : Nat → Nat} {n : Nat} (h : ∀ b x, b < n → ρ (r b) = some x → ρ' b = some x) : ∀ {l : List (AV × AV)} {es : List MapEntry}, (l.all fun p => below n p.1 && below n p.2) = true → MapL ρ (l.map fun p => (mapV r p.1, mapV r p.2)) es → MapL ρ' l es
  | [], _, _, e => e
  | p :: l, _, hb, ⟨e, m, h0, h1, h2, h3⟩ => by
    rw [List.all_cons, Bool.and_eq_true, Bool.and_eq_true] at hb
    exact ⟨e, m, h0, VR.unmap h _ _ hb.1.1 h1, VR.unmap h _ _ hb.1.2 h2, MapL.unmap h hb.2 h3⟩
def ofM : List (Nat × AObj) → T AObj
  | [] => .leaf
  | p :: l => (ofM l).put p.1 p.2
def Had (r : Nat → Nat) (σ : AH) (n : Nat) : List (Nat × AObj) → Prop
  | [] => True
  | p :: l => (Nat.blt p.1 n = true ∧ σ.get (r p.1) = some (mapO r p.2)) ∧ Had r σ n l
theorem Had.mem {r : Nat → Nat} {σ : AH} {n : Nat} : ∀ {l : List (Nat × AObj)}, Had r σ n l → ∀ p ∈ l, p.1 < n ∧ σ.get (r p.1) = some (mapO r p.2)
  | [], _, p, hp => by cases hp
  | q :: l, h, p, hp => by
    rcases List.mem_cons.1 hp with rfl | hp
    · exact ⟨by have := h.1.1; rwa [Nat.blt_eq] at this, h.1.2⟩
    · exact Had.mem h.2 p hp
theorem ofM_get : ∀ (l : List (Nat × AObj)) (t : Nat) (v : AObj), (∀ p ∈ l, p.1 < 1048576) → (ofM l).get t = some v → (t, v) ∈ l
  | [], t, v, _, h => by cases h
  | p :: l, t, v, hs, h => by
    simp only [ofM, T.get_put _ _ _ _ (hs p List.mem_cons_self)] at h
    by_cases ht : t = p.1
    · rw [if_pos ht] at h; cases h; rw [ht]; exact List.mem_cons_self
    · rw [if_neg ht] at h; exact List.mem_cons_of_mem _ (ofM_get l t v (fun q hq => hs q (List.mem_cons_of_mem _ hq)) h)
theorem mapO_spec (r : Nat → Nat) (o : AObj) : (mapO r o).cellsy = o.cellsy ∧ (mapO r o).isRo = o.isRo ∧ (mapO r o).len = o.len ∧ (mapO r o).elem = o.elem ∧ ∀ i a, o.at i = some a → (mapO r o).at i = some (mapV r a) := by
  cases o with
  | dead => exact ⟨rfl, rfl, rfl, rfl, fun i a h => by cases h⟩
  | map l => exact ⟨rfl, rfl, rfl, rfl, fun i a h => by cases h⟩
  | hid => exact ⟨rfl, rfl, rfl, rfl, fun i a h => by cases h⟩
  | cells l e t => exact ⟨rfl, rfl, mapVs_length r l, rfl, fun i a h => by simp only [AObj.at, mapO] at h ⊢; rw [mapVs_at, h]; rfl⟩
  | ints k l e t => exact ⟨rfl, rfl, rfl, rfl, fun i a h => by
      simp only [AObj.at, mapO] at h ⊢
      rw [h]
      cases hl : l[i]? with
      | none => rw [hl] at h; cases h
      | some m => rw [hl] at h; cases h; rfl⟩
def keepN (r : Nat → Nat) (keys : List Nat) (N : Nat) : Bool := (List.range N).all fun b => Nat.beq (r b) b && keys.contains b
def injR (r : Nat → Nat) : List Nat → Bool
  | [] => true
  | b :: l => l.all (fun c => Nat.beq b c || !Nat.beq (r b) (r c)) && injR r l
theorem injR_spec {r : Nat → Nat} : ∀ {l : List Nat}, injR r l = true → ∀ b ∈ l, ∀ c ∈ l, r b = r c → b = c
  | [], _, b, hb, _, _, _ => by cases hb
  | x :: l, h, b, hb, c, hc, e => by
    unfold injR at h
    rw [Bool.and_eq_true, List.all_eq_true] at h
    have key : ∀ c ∈ l, r x = r c → x = c := fun c hc e => by
      have := h.1 c hc
      rw [Bool.or_eq_true, Nat.beq_eq] at this
      rcases this with h | h
      · exact h
      · rw [e, Nat.beq_refl] at h; cases h
    rcases List.mem_cons.1 hb with h1 | h1 <;> rcases List.mem_cons.1 hc with h2 | h2
    · rw [h1, h2]
    · rw [h1] at e ⊢; exact key c h2 e
    · rw [h2] at e ⊢; exact (key b h1 e.symm).symm
    · exact injR_spec h.2 b h1 c h2 e
theorem Wk.lay {G nt N : Nat} {env : T AV} {σ : AH} (r : Nat → Nat) {l : List (Nat × AV)} {L : List (Nat × AObj)} {n : Nat} (hn : Nat.ble n 1000000 = true) (hNn : Nat.ble N n = true) (hG : Nat.ble G N = true)
    (hk : keepN r (L.map (·.1)) N = true) (hi : injR r (L.map (·.1)) = true) (hM : Had r σ n L) (hlow : ∀ b, b < N → (ofM L).get b = σ.get b)
    (hd : (List.range n).all (L.map (·.1)).contains = true) (hbe : (l.all fun p => below n p.2) = true) (hbM : (L.all fun p => belowO n p.2) = true) (he : Has env (l.map fun p => (p.1, mapV r p.2))) : Wk G nt N env σ (ofL l) ⟨n, ofM L⟩ := fun ρ W hr => by
  rw [Nat.ble_eq] at hn hNn hG
  have hMs := hM.mem
  have hLs : ∀ p ∈ L, p.1 < 1048576 := fun p hp => by have := (hMs p hp).1; omega
  have hkey : ∀ b, b < N → r b = b ∧ b ∈ L.map (·.1) := fun b hb => by
    have := List.all_eq_true.1 hk b (List.mem_range.2 hb)
    rw [Bool.and_eq_true, Nat.beq_eq, List.contains_iff_mem] at this
    exact this
  have hget : ∀ b o, (ofM L).get b = some o → b ∈ L.map (·.1) ∧ b < n ∧ σ.get (r b) = some (mapO r o) := fun b o h => by
    have := ofM_get L b o hLs h
    exact ⟨List.mem_map.2 ⟨_, this, rfl⟩, (hMs _ this).1, (hMs _ this).2⟩
  let ρ' : Ren := fun b => if b < n then ρ (r b) else none
  have hin : ∀ b, b ∈ L.map (·.1) → (ofM L).get b ≠ none := by
    have : ∀ (M : List (Nat × AObj)), (∀ p ∈ M, p.1 < 1048576) → ∀ b, b ∈ M.map (·.1) → (ofM M).get b ≠ none := by
      intro M
      induction M with
      | nil => intro _ b hb; cases hb
      | cons p M ih =>
        intro hs b hb
        simp only [ofM, T.get_put _ _ _ _ (hs p List.mem_cons_self)]
        by_cases hbp : b = p.1
        · rw [if_pos hbp]; simp
        · rw [if_neg hbp]
          refine ih (fun q hq => hs q (List.mem_cons_of_mem _ hq)) b ?_
          simp only [List.map_cons, List.mem_cons] at hb
          exact hb.resolve_left hbp
    exact this L hLs
  have hsome : ∀ b x, ρ' b = some x → ∃ o, (ofM L).get b = some o ∧ ρ (r b) = some x := fun b x h => by
    simp only [ρ'] at h
    split at h
    · rename_i hlt
      have := List.all_eq_true.1 hd b (List.mem_range.2 hlt)
      rw [List.contains_iff_mem] at this
      cases ho : (ofM L).get b with
      | none => exact absurd ho (hin b this)
      | some o => exact ⟨o, rfl, h⟩
    · cases h
  have hup : ∀ b x, b < n → ρ (r b) = some x → ρ' b = some x := fun b x hb h => by simp only [ρ']; rw [if_pos hb]; exact h
  have hlowρ : ∀ b, b < N → ρ' b = ρ b := fun b hb => by
    simp only [ρ']
    rw [if_pos (by omega), (hkey b hb).1]
  refine ⟨ρ', ⟨hn, fun b hb => ?_, fun b c d hb => ?_, fun b b' c d d' h1 h2 hne => ?_⟩, fun a ha => ?_, hlowρ, fun b c d hb => ?_, hNn, fun b hb => hlow b hb⟩
  · cases ho : (ofM L).get b with
    | none => exact ho
    | some o => have := (hget b o ho).2.1; have hb : n ≤ b := hb; omega
  · obtain ⟨o, ho, hρ⟩ := hsome b _ hb
    obtain ⟨h1, h2, h3⟩ := hget b o ho
    obtain ⟨_, hc, o2, ho2, hO⟩ := hr.dom _ _ _ hρ
    rw [h3] at ho2; cases ho2
    have hbo := List.all_eq_true.1 hbM _ (ofM_get L b o hLs ho)
    refine ⟨h2, hc, o, ho, fun hal => ?_, fun l e => ?_⟩
    rotate_left
    · subst e
      obtain ⟨es, ck, k1, k2, k3⟩ := hO.2 _ rfl
      exact ⟨es, ck, k1, MapL.unmap hup hbo k2, k3⟩
    obtain ⟨m1, m2, m3, m4, m5⟩ := mapO_spec r o
    refine ⟨by have := (hO.1 (by rw [m1]; exact hal)).1; rwa [m3] at this, fun hro => ?_⟩
    obtain ⟨cs, e, fr, k1, k2, k3, k4, k5⟩ := (hO.1 (by rw [m1]; exact hal)).2 (by rw [m2, m3]; exact hro)
    rw [m2, m4] at k2
    rw [m3] at k3 k4
    refine ⟨cs, e, fr, k1, k2, k3, k4, fun i a hi => ?_⟩
    obtain ⟨v, hv, hvr⟩ := k5 i _ (m5 i a hi)
    refine ⟨v, hv, VR.unmap hup a v ?_ hvr⟩
    cases o with
    | dead => cases hi
    | map l => cases hi
    | hid => cases hi
    | cells l e t => exact belows_at hbo i a hi
    | ints k l e t => simp only [AObj.at, Option.map_eq_some_iff] at hi; obtain ⟨_, _, rfl⟩ := hi; rfl
  · obtain ⟨o1, ho1, hρ1⟩ := hsome b _ h1
    obtain ⟨o2, ho2, hρ2⟩ := hsome b' _ h2
    obtain ⟨q1, _, q3⟩ := hget b o1 ho1
    obtain ⟨q1', _, q3'⟩ := hget b' o2 ho2
    have hrne : r b ≠ r b' := fun e => hne (injR_spec hi b q1 b' q1' e)
    have hdeadof : ∀ o, mapO r o = .dead → o = .dead := fun o h => by cases o <;> first | rfl | cases h
    rcases hr.inj _ _ _ _ _ hρ1 hρ2 hrne with e | e | ⟨x, y, e1, e2, e3, e4⟩
    · rw [q3] at e
      exact .inl (by show (ofM L).get b = _; rw [ho1, hdeadof o1 (Option.some.inj e)])
    · rw [q3'] at e
      exact .inr (.inl (by show (ofM L).get b' = _; rw [ho2, hdeadof o2 (Option.some.inj e)]))
    · rw [q3] at e1; rw [q3'] at e2
      cases e1; cases e2
      have hsh : ∀ o, (mapO r o).isSh = o.isSh := fun o => by unfold AObj.isSh; rw [(mapO_spec r o).1, (mapO_spec r o).2.1]
      rw [hsh] at e3 e4
      exact .inr (.inr ⟨o1, o2, ho1, ho2, e3, e4⟩)
  · refine ⟨ha.small, ha.size, fun g hg => ?_, fun t v ht => ?_⟩
    · obtain ⟨s, hs⟩ := ha.glob g hg
      exact ⟨s, by rw [hlowρ g (by omega)]; exact hs⟩
    · have hsm : ∀ p ∈ l, Nat.blt p.1 1048576 = true := fun p hp => (he.mem (p.1, mapV r p.2) (List.mem_map.2 ⟨p, hp, rfl⟩)).2
      have hm := ofL_get l t v hsm ht
      have := (he.mem (t, mapV r v) (List.mem_map.2 ⟨_, hm, rfl⟩)).1
      exact VR.unmap hup v _ (List.all_eq_true.1 hbe _ hm) (ha.at_ t _ this)
  · obtain ⟨_, _, hρ⟩ := hsome b _ hb
    exact ⟨_, _, hρ⟩
end
end Go.Proofs.YtcbfjmjphpoimaaGreatDoor.V2
namespace Go.Proofs.YtcbfjmjphpoimaaGreatDoor
open Go
def N32 (x : UInt32) : Int := (x.toNat : Int)
def N8 (x : UInt8) : Int := (x.toNat : Int)
theorem N8_bd (x : UInt8) : 0 ≤ N8 x ∧ N8 x ≤ 255 := by have := x.toNat_lt; unfold N8; omega
theorem wrap_u32 (n : Nat) : IntKind.u32.wrap (n : Int) = ((n % 4294967296 : Nat) : Int) := by
  simp [IntKind.wrap, IntKind.bits, IntKind.signed]
theorem wrap_u8 (n : Nat) : IntKind.u8.wrap (n : Int) = ((n % 256 : Nat) : Int) := by
  simp [IntKind.wrap, IntKind.bits, IntKind.signed]
theorem wrap_u64 (n : Nat) : IntKind.u64.wrap (n : Int) = ((n % 18446744073709551616 : Nat) : Int) := by
  simp [IntKind.wrap, IntKind.bits, IntKind.signed]
theorem u32_add (x y : UInt32) : IntKind.u32.wrap (N32 x + N32 y) = N32 (x + y) := by
  unfold N32; rw [← Int.natCast_add, wrap_u32, UInt32.toNat_add]
theorem u32_id (x : UInt32) : IntKind.u32.wrap (N32 x) = N32 x := by
  unfold N32; rw [wrap_u32, Nat.mod_eq_of_lt x.toNat_lt]
theorem u8_id (x : UInt8) : IntKind.u8.wrap (N8 x) = N8 x := by
  unfold N8; rw [wrap_u8, Nat.mod_eq_of_lt x.toNat_lt]
theorem bv32 (x : UInt32) : BitVec.ofNat 32 x.toNat = x.toBitVec := by rw [← UInt32.toNat_toBitVec, BitVec.ofNat_toNat, BitVec.setWidth_eq]
theorem bv8 (x : UInt8) : BitVec.ofNat 8 x.toNat = x.toBitVec := by rw [← UInt8.toNat_toBitVec, BitVec.ofNat_toNat, BitVec.setWidth_eq]
theorem u32_bits_xor (x y : UInt32) : bits .xor .u32 (N32 x) (N32 y) = N32 (x ^^^ y) := by
  have e : bits .xor .u32 (N32 x) (N32 y) = IntKind.u32.wrap (N32 (x ^^^ y)) := by
    unfold bits N32
    simp only [IntKind.bits, BitVec.ofInt_natCast, bv32]
    rfl
  rw [e, u32_id]
theorem u32_bits_and (x y : UInt32) : bits .and .u32 (N32 x) (N32 y) = N32 (x &&& y) := by
  have e : bits .and .u32 (N32 x) (N32 y) = IntKind.u32.wrap (N32 (x &&& y)) := by
    unfold bits N32
    simp only [IntKind.bits, BitVec.ofInt_natCast, bv32]
    rfl
  rw [e, u32_id]
theorem u32_bits_or (x y : UInt32) : bits .or .u32 (N32 x) (N32 y) = N32 (x ||| y) := by
  have e : bits .or .u32 (N32 x) (N32 y) = IntKind.u32.wrap (N32 (x ||| y)) := by
    unfold bits N32
    simp only [IntKind.bits, BitVec.ofInt_natCast, bv32]
    rfl
  rw [e, u32_id]
theorem u32_bits_not (x : UInt32) : bits .xor .u32 4294967295 (N32 x) = N32 (~~~ x) := by
  have h : (4294967295 : Int) = N32 (4294967295 : UInt32) := rfl
  rw [h, u32_bits_xor]
  have : (4294967295 : UInt32) ^^^ x = ~~~ x := by
    apply UInt32.toBitVec_inj.1
    simp [← BitVec.allOnes_xor]
  rw [this]
theorem u32_bits_not2 (x : UInt32) : bits .xor .u32 IntKind.u32.max (N32 x) = N32 (~~~ x) := u32_bits_not x
theorem u8_bits_xor (x y : UInt8) : bits .xor .u8 (N8 x) (N8 y) = N8 (x ^^^ y) := by
  have e : bits .xor .u8 (N8 x) (N8 y) = IntKind.u8.wrap (N8 (x ^^^ y)) := by
    unfold bits N8
    simp only [IntKind.bits, BitVec.ofInt_natCast, bv8]
    rfl
  rw [e, u8_id]
def ror (n : UInt32) (x : Nat) : UInt32 := UInt32.ofNat (n.toNat * 2 ^ (32 - x)) ||| UInt32.ofNat (n.toNat / 2 ^ x)
def sror (n : UInt32) (x : Nat) : UInt32 := UInt32.ofNat (n.toNat / 2 ^ x)
theorem sror_eq (n : UInt32) (x : Nat) : N32 n / 2 ^ x = N32 (sror n x) := by
  unfold sror N32
  rw [UInt32.toNat_ofNat']
  have : n.toNat / 2 ^ x < 4294967296 := Nat.lt_of_le_of_lt (Nat.div_le_self _ _) n.toNat_lt
  rw [show (2:Nat) ^ 32 = 4294967296 from rfl, Nat.mod_eq_of_lt this]; simp
theorem ror_eq (n : UInt32) (x : Nat) : bits .or .u32 (N32 n * 2 ^ (32 - x) % 4294967296) (N32 n / 2 ^ x) = N32 (ror n x) := by
  have h1 : N32 n * 2 ^ (32 - x) % 4294967296 = N32 (UInt32.ofNat (n.toNat * 2 ^ (32 - x))) := by
    unfold N32
    rw [UInt32.toNat_ofNat']
    have : ((n.toNat : Int) * 2 ^ (32 - x)) = ((n.toNat * 2 ^ (32 - x) : Nat) : Int) := by simp
    rw [this]; omega
  rw [h1, sror_eq, u32_bits_or]; rfl
theorem ret_int {k : IntKind} {a b : Int} (h : a = b) : Ending.returned (.int k a) = .returned (.int k b) := by rw [h]
def turnW (n : UInt32) (x y z : Nat) : UInt32 := ror n x ^^^ ror n y ^^^ ror n z
def slideW (n : UInt32) (x y z : Nat) : UInt32 := ror n x ^^^ ror n y ^^^ sror n z
end Go.Proofs.YtcbfjmjphpoimaaGreatDoor
namespace Go.Proofs.YtcbfjmjphpoimaaGreatDoor
open Go.RowKit
theorem and31 (x : Nat) (h0 : 0 < x) (h1 : x < 32) : bits .and .u64 (IntKind.u64.wrap (-(x : Int))) 31 = (32 : Int) - (x : Int) := by
  have : ∀ y : Fin 32, 0 < y.val → bits .and .u64 (IntKind.u64.wrap (-(y.val : Int))) 31 = (32 : Int) - (y.val : Int) := by decide +kernel
  exact this ⟨x, h1⟩ h0
theorem sub32 (x : Nat) (h1 : x < 32) : IntKind.u64.wrap ((32 : Int) - ((32 : Int) - (x : Int))) = (x : Int) := by
  have : (32 : Int) - ((32 : Int) - (x : Int)) = (x : Int) := by omega
  rw [this, wrap_u64]; omega
set_option maxHeartbeats 400000 in
theorem rot_any (n : UInt32) (x : Nat) (w : World) (h0 : 0 < x) (h1 : x < 32) :
    Calls Tryz.prog 214 #[.int .u32 (N32 n), .int .i64 (-(x : Int))] w fun e w' => e = .returned (.int .u32 (N32 (ror n x))) ∧ w = w' := by
  have h31 := and31 x h0 h1
  have h32 := sub32 x h1
  have HR := Lib.hid (ror_eq n x)
  go_enter Tryz.func214, Tryz.ntmps214
  go_wp2
  go_ret
  exact ⟨ret_int HR.out, rfl⟩
theorem q_two {P : Program} {f : FuncId} {args : Array Value} {w : World} {k n : Nat} {v : Value}
    (h : Calls P f args (w.drewN (k + n)) fun e w' => e = .returned v ∧ w.drewN (k + n) = w') : Calls P f args (w.drewN (k + n)) fun e w'' => e = .returned v ∧ ∃ m, w'' = w.drewN (k + m) :=
  h.mono fun _ _ x => ⟨x.1, n, x.2.symm⟩
attribute [local go_sem] u32_bits_xor u32_bits_and u32_bits_or
set_option maxHeartbeats 400000 in
theorem turn_any (n : UInt32) (x y z : Nat) (w : World) (h0 : 0 < x) (h1 : x < 32) (h2 : 0 < y) (h3 : y < 32) (h4 : 0 < z) (h5 : z < 32) :
    Calls Tryz.prog 205 #[.int .u32 (N32 n), .int .i64 x, .int .i64 y, .int .i64 z] w fun e w' => e = .returned (.int .u32 (N32 (turnW n x y z))) ∧ w = w' := by
  go_enter Tryz.func205, Tryz.ntmps205
  go_wp2_with (go_at_call 214; refine (rot_any _ _ _ (by omega) (by omega)).mono ?_; rintro e w' ⟨rfl, rfl⟩)
  go_ret
  exact ⟨rfl, rfl⟩
set_option maxHeartbeats 400000 in
theorem slide_any (n : UInt32) (x y z : Nat) (w : World) (h0 : 0 < x) (h1 : x < 32) (h2 : 0 < y) (h3 : y < 32) (h4 : 0 < z) (h5 : z < 32) :
    Calls Tryz.prog 213 #[.int .u32 (N32 n), .int .i64 x, .int .i64 y, .int .i64 z] w fun e w' => e = .returned (.int .u32 (N32 (slideW n x y z))) ∧ ∃ k, w' = w.drewN k := by
  have hs := sror_eq n z
  have hm : min z 32 = z := by omega
  go_enter Tryz.func213, Tryz.ntmps213
  go_wp2
  go_quiet ((go_at_call 214; exact Calls.quiet_of_same ((rot_any _ _ _ (by omega) (by omega)).mono fun _ _ h => ⟨h.1, h.2.symm⟩)))
  go_wp2
  go_ret
  exact ⟨rfl, _, rfl⟩
end Go.Proofs.YtcbfjmjphpoimaaGreatDoor
namespace Go.Proofs.YtcbfjmjphpoimaaGreatDoor
open Go
def at8 (l : List UInt8) (i : Nat) : UInt8 := l.getD i 0
def at32 (l : List UInt32) (i : Nat) : UInt32 := l.getD i 0
theorem at32_set_self {l : List UInt32} {i : Nat} {x : UInt32} (h : i < l.length) : at32 (l.set i x) i = x := by
  unfold at32; rw [List.getD_eq_getElem?_getD, List.getElem?_set_self h]; rfl
theorem at32_set_ne {l : List UInt32} {i j : Nat} {x : UInt32} (h : i ≠ j) : at32 (l.set i x) j = at32 l j := by
  unfold at32; rw [List.getD_eq_getElem?_getD, List.getElem?_set_ne h, List.getD_eq_getElem?_getD]
def cwl (l : List UInt32) : List Value := l.map fun x => Value.int .u32 (N32 x)
def cw (l : List UInt32) : Array Value := (cwl l).toArray
theorem cw_size (l : List UInt32) : (cw l).size = l.length := by simp [cw, cwl]
theorem cw_at (l : List UInt32) (i : Nat) (h : i < l.length) : (cw l)[i]? = some (.int .u32 (N32 (at32 l i))) := by
  simp [cw, cwl, h, at32]
theorem cw_set (l : List UInt32) (i : Nat) (x : UInt32) : (cw l).setIfInBounds i (.int .u32 (N32 x)) = cw (l.set i x) := by
  apply Array.ext'
  simp [cw, cwl, List.map_set]
theorem cw_one (l : List UInt32) : (cw l).all (·.oneCell') = true := by
  rw [Array.all_eq_true_iff_forall_mem]
  intro v hv
  simp only [cw, cwl, List.mem_toArray, List.mem_map] at hv
  obtain ⟨x, _, rfl⟩ := hv
  rfl
def putB (x : UInt32) (c : UInt8) : UInt32 := UInt32.ofNat (x.toNat * 256) ||| UInt32.ofNat c.toNat
theorem putB_eq (x : UInt32) (c : UInt8) : bits .or .u32 (N32 x * 256 % 4294967296) (N8 c) = N32 (putB x c) := by
  have h1 : N32 x * 256 % 4294967296 = N32 (UInt32.ofNat (x.toNat * 256)) := by
    unfold N32; rw [UInt32.toNat_ofNat']; omega
  have h2 : N8 c = N32 (UInt32.ofNat c.toNat) := by
    unfold N32 N8; rw [UInt32.toNat_ofNat']
    have := c.toNat_lt
    rw [Nat.mod_eq_of_lt (by omega)]
  rw [h1, h2, u32_bits_or]; rfl
def wordTo (bs : List UInt8) (t : Nat) : Nat → UInt32
  | 0 => 0
  | j + 1 => putB (wordTo bs t j) (at8 bs (4 * t + j))
def nextW (l : List UInt32) (t : Nat) : UInt32 :=
  at32 l (t - 16) + at32 l (t - 7) + slideW (at32 l (t - 15)) 7 18 3 + slideW (at32 l (t - 2)) 17 19 10
def schedTo (bs : List UInt8) : Nat → List UInt32
  | 0 => List.replicate 64 0
  | t + 1 => (schedTo bs t).set t (if t < 16 then wordTo bs t 4 else nextW (schedTo bs t) t)
theorem schedTo_length (bs : List UInt8) (t : Nat) : (schedTo bs t).length = 64 := by
  induction t with
  | zero => simp [schedTo]
  | succ t ih => simp [schedTo, ih]
theorem schedTo_zero_at (bs : List UInt8) (t i : Nat) (h : t ≤ i) : at32 (schedTo bs t) i = 0 := by
  induction t with
  | zero =>
    simp only [schedTo, at32]
    rw [List.getD_eq_getElem?_getD, List.getElem?_replicate]; split <;> rfl
  | succ t ih =>
    have := ih (by omega)
    simp only [schedTo]
    rw [at32_set_ne (by omega)]; exact this
def KK : List UInt32 := [1116352408, 1899447441, 3049323471, 3921009573, 961987163, 1508970993, 2453635748, 2870763221, 3624381080, 310598401, 607225278, 1426881987, 1925078388, 2162078206, 2614888103, 3248222580, 3835390401, 4022224774, 264347078, 604807628, 770255983, 1249150122, 1555081692, 1996064986, 2554220882, 2821834349, 2952996808, 3210313671, 3336571891, 3584528711, 113926993, 338241895, 666307205, 773529912, 1294757372, 1396182291, 1695183700, 1986661051, 2177026350, 2456956037, 2730485921, 2820302411, 3259730800, 3345764771, 3516065817, 3600352804, 4094571909, 275423344, 430227734, 506948616, 659060556, 883997877, 958139571, 1322822218, 1537002063, 1747873779, 1955562222, 2024104815, 2227730452, 2361852424, 2428436474, 2756734187, 3204031479, 3329325298]
def S0 : List UInt32 := [1779033703, 3144134277, 1013904242, 2773480762, 1359893119, 2600822924, 528734635, 1541459225]
def oneW (x : List UInt32) (k v : UInt32) : UInt32 := at32 x 7 + turnW (at32 x 4) 6 11 25 + (at32 x 4 &&& at32 x 5 ^^^ ~~~ at32 x 4 &&& at32 x 6) + k + v
def twoW (x : List UInt32) : UInt32 := turnW (at32 x 0) 2 13 22 + (at32 x 0 &&& at32 x 1 ^^^ at32 x 0 &&& at32 x 2 ^^^ at32 x 1 &&& at32 x 2)
def rndW (x : List UInt32) (k v : UInt32) : List UInt32 :=
  [oneW x k v + twoW x, at32 x 0, at32 x 1, at32 x 2, at32 x 3 + oneW x k v, at32 x 4, at32 x 5, at32 x 6]
def rndTo (s W : List UInt32) : Nat → List UInt32
  | 0 => s
  | t + 1 => rndW (rndTo s W t) (at32 KK t) (at32 W t)
def sumTo (s x : List UInt32) : Nat → List UInt32
  | 0 => s
  | k + 1 => (sumTo s x k).set k (at32 (sumTo s x k) k + at32 x k)
def compW (s : List UInt32) (bs : List UInt8) : List UInt32 := sumTo s (rndTo s (schedTo bs 64) 64) 8
theorem rndTo_length (s W : List UInt32) (t : Nat) (h : s.length = 8) : (rndTo s W t).length = 8 := by
  cases t with
  | zero => exact h
  | succ t => rfl
theorem sumTo_length (s x : List UInt32) (k : Nat) : (sumTo s x k).length = s.length := by
  induction k with
  | zero => rfl
  | succ k ih => simp [sumTo, ih]
theorem compW_length (s : List UInt32) (bs : List UInt8) : (compW s bs).length = s.length := sumTo_length _ _ _
structure But (b : Nat) (w w' : World) : Prop where
  os : w'.os = w.os
  tape : w'.tape = w.tape
  output : w'.output = w.output
  size : w.heap.size ≤ w'.heap.size
  block : ∀ k, k < w.heap.size → k ≠ b → w'.heap[k]? = w.heap[k]?
theorem But.of_below {b : Nat} {w w' : World} (h : RowKit.Below w.heap.size w w') : But b w w' := ⟨h.os, h.tape, h.output, h.size, fun k hk _ => h.block k hk⟩
theorem But.setCell {b i : Nat} {w w' : World} (h : But b w w') (v : Value) : But b w (w'.setCell ⟨b, i, none⟩ v) :=
  ⟨h.os, h.tape, h.output, by simpa [World.setCell] using h.size, fun k hk hb => (heap_setCell_other _ _ _ _ (by simpa using hb)).trans (h.block k hk hb)⟩
theorem But.drewN {b n : Nat} {w w' : World} (h : But b w w') : But b w (w'.drewN n) := ⟨h.os, h.tape, h.output, h.size, h.block⟩
/-! A block of words in the world. -/
theorem row_new (w : World) (C : Array Value) (T : Nat) : (w.alloc (.cells C T)).heap[w.heap.size]? = some (.cells C T (0, 0)) := by
  unfold World.alloc; simp
theorem set_self {l : List UInt32} {t : Nat} (h : t < l.length) : l.set t (at32 l t) = l := by
  unfold at32; rw [List.getD_eq_getElem?_getD, List.getElem?_eq_getElem h]; simp
theorem sch_start (bs : List UInt8) (t : Nat) (h : t < 64) : (schedTo bs t).set t (wordTo bs t 0) = schedTo bs t := by
  have := schedTo_zero_at bs t t (Nat.le_refl _)
  show (schedTo bs t).set t 0 = _
  rw [← this]; exact set_self (by rw [schedTo_length]; exact h)
theorem row_cell {w : World} {B T : Nat} {l : List UInt32} (h : w.heap[B]? = some (.cells (cw l) T (0, 0))) (i : Nat) (hi : i < l.length) :
    w.cell? ⟨B, i, none⟩ = some (.int .u32 (N32 (at32 l i))) := by
  unfold World.cell?; rw [h]; simp only [Option.isSome_none, Bool.false_eq_true, if_false]; exact cw_at l i hi
theorem off_ne {B i j : Nat} (h : i ≠ j) (W : World) (v : Value) : (W.setCell ⟨B, i, none⟩ v).cell? ⟨B, j, none⟩ = W.cell? ⟨B, j, none⟩ := by
  unfold World.cell? World.setCell
  simp only [Array.getElem?_modify, if_true]
  cases h2 : W.heap[B]? with
  | none => rfl
  | some o => cases o <;> simp [h]
theorem below_setRow {B : Nat} {a w : World} (h : RowKit.Below B a w) {g : Nat} (hg : B ≤ g) (cs : Array Value) : RowKit.Below B a (w.setRow g cs) :=
  h.trans ⟨rfl, rfl, rfl, by simp, fun k hk => setRow_other _ _ _ _ (by omega)⟩
theorem row_free {w : World} {B T : Nat} {C : Array Value} (h : w.heap[B]? = some (.cells C T (0, 0))) (i : Nat) : w.frozen? ⟨B, i, none⟩ = false := by
  unfold World.frozen?; rw [h]; simp
theorem row_set {w : World} {B T : Nat} {l : List UInt32} (h : w.heap[B]? = some (.cells (cw l) T (0, 0))) (i : Nat) (x : UInt32) :
    (w.setCell ⟨B, i, none⟩ (.int .u32 (N32 x))).heap[B]? = some (.cells (cw (l.set i x)) T (0, 0)) := by
  unfold World.setCell; simp only [Array.getElem?_modify, h, if_true, Option.map_some, Option.isSome_none, Bool.false_eq_true, if_false, cw_set]
end Go.Proofs.YtcbfjmjphpoimaaGreatDoor
namespace Go.Proofs.YtcbfjmjphpoimaaGreatDoor
open Go.RowKit
attribute [local go_sem] u32_bits_xor u32_bits_and u32_bits_or u32_add putB_eq
theorem info119 : (Tryz.prog.info? 359).map (·.size) = some 64 := by kernel_rfl
def SchR (bs : List UInt8) (w : World) (i : Value) (wr : World) : Prop :=
  ∃ t : Nat, t ≤ 64 ∧ i = .int .i64 t ∧ wr.heap[w.heap.size]? = some (.cells (cw (schedTo bs t)) 359 (0, 0)) ∧ Below w.heap.size w wr
def SchI (bs : List UInt8) (w : World) (t : Nat) (i : Value) (wr : World) : Prop :=
  ∃ j : Nat, j ≤ 4 ∧ i = .int .i64 j ∧ wr.heap[w.heap.size]? = some (.cells (cw ((schedTo bs t).set t (wordTo bs t j))) 359 (0, 0)) ∧ Below w.heap.size w wr
set_option maxHeartbeats 1000000 in
theorem schedule_any (bb off cap : Nat) (bs : List UInt8) (w : World) (hb : bb < w.heap.size)
    (hc : ∀ i, i < 64 → w.cell? ⟨bb, off + i, none⟩ = some (.int .u8 (N8 (at8 bs i)))) (hcap : 64 ≤ cap) :
    Calls Tryz.prog 204 #[.slice (some ⟨bb, off, none⟩) 64 cap] w fun e w' => e = .returned (.agg (cw (schedTo bs 64))) ∧ Below w.heap.size w w' := by
  have HC := Lib.hid hc
  clear hc
  go_enter Tryz.func204, Tryz.ntmps204
  go_wp2
  go_loopw [6] (SchR bs w) (fun i _ => 64 - (intOf i).toNat)
  case atStart => exact ⟨0, by omega, rfl, row_new _ _ _, (Below.refl _ _).alloc (Nat.le_refl _) _⟩
  case round =>
    obtain ⟨t, ht, rfl, hB, hbel⟩ := hrel
    have HB := Lib.hid hB
    clear hB
    by_cases h64 : t < 64
    · have d64 : decide ((t : Int) < 64) = true := by simp; omega
      by_cases h16 : t < 16
      · have d16 : decide ((t : Int) < 16) = true := by simp; omega
        go_wp2
        obtain ⟨wo, rfl⟩ : ∃ wo : World, wo = wr := ⟨_, rfl⟩
        go_loopw [19] (SchI bs w t) (fun i _ => 4 - (intOf i).toNat)
        case atStart => exact ⟨0, by omega, rfl, by rw [sch_start bs t h64]; exact HB.out, hbel⟩
        case round =>
          obtain ⟨j, hj, rfl, hB2, hbel2⟩ := hrel
          have HB2 := Lib.hid hB2
          clear hB2
          by_cases h4 : j < 4
          · have d4 : decide ((j : Int) < 4) = true := by simp; omega
            have c1 : wr.cell? ⟨bb, off + 4 * t + j, none⟩ = some (.int .u8 (N8 (at8 bs (4 * t + j)))) := by
              rw [hbel2.cell (p := ⟨bb, off + 4 * t + j, none⟩) hb, Nat.add_assoc]; exact HC.out _ (by omega)
            have c2 : wr.cell? ⟨w.heap.size, t, none⟩ = some (.int .u32 (N32 (wordTo bs t j))) := by
              rw [row_cell HB2.out t (by simp [schedTo_length]; omega), at32_set_self (by rw [schedTo_length]; omega)]
            have c3 : wr.frozen? ⟨w.heap.size, t, none⟩ = false := row_free HB2.out t
            have n1 := N8_bd (at8 bs (4 * t + j))
            have HS := Lib.hid (row_set HB2.out t (wordTo bs t (j + 1)))
            go_wp2
            go_roundw
            case rel => exact ⟨j + 1, by omega, by go_num, by rw [wordTo]; rw [wordTo, List.set_set] at HS; exact HS.out, hbel2.setCell (Nat.le_refl _) _⟩
            case measure => simp [intOf]; omega
          · have d4 : decide ((j : Int) < 4) = false := by simp; omega
            obtain rfl : j = 4 := by omega
            go_wp2
            go_roundw
            case rel => exact ⟨t + 1, by omega, by go_num, by rw [schedTo, if_pos h16]; exact HB2.out, hbel2⟩
            case measure => simp [intOf]; omega
      · have d16 : decide ((t : Int) < 16) = false := by simp; omega
        have c16 : wr.cell? ⟨w.heap.size, t - 16, none⟩ = some (.int .u32 (N32 (at32 (schedTo bs t) (t - 16)))) := row_cell HB.out _ (by rw [schedTo_length]; omega)
        have c15 : wr.cell? ⟨w.heap.size, t - 15, none⟩ = some (.int .u32 (N32 (at32 (schedTo bs t) (t - 15)))) := row_cell HB.out _ (by rw [schedTo_length]; omega)
        have c7 : wr.cell? ⟨w.heap.size, t - 7, none⟩ = some (.int .u32 (N32 (at32 (schedTo bs t) (t - 7)))) := row_cell HB.out _ (by rw [schedTo_length]; omega)
        have c2 : wr.cell? ⟨w.heap.size, t - 2, none⟩ = some (.int .u32 (N32 (at32 (schedTo bs t) (t - 2)))) := row_cell HB.out _ (by rw [schedTo_length]; omega)
        have c0 : wr.cell? ⟨w.heap.size, t, none⟩ = some (.int .u32 (N32 (at32 (schedTo bs t) t))) := row_cell HB.out _ (by rw [schedTo_length]; omega)
        have cf : wr.frozen? ⟨w.heap.size, t, none⟩ = false := row_free HB.out t
        have e16 : IntKind.i64.wrap ((t : Int) - 16) = (t : Int) - 16 := IntWalk.i64_in _ (by omega)
        have e15 : IntKind.i64.wrap ((t : Int) - 15) = (t : Int) - 15 := IntWalk.i64_in _ (by omega)
        have e7 : IntKind.i64.wrap ((t : Int) - 7) = (t : Int) - 7 := IntWalk.i64_in _ (by omega)
        have e2 : IntKind.i64.wrap ((t : Int) - 2) = (t : Int) - 2 := IntWalk.i64_in _ (by omega)
        have a16 : (0 : Int) ≤ (t : Int) - 16 := by omega
        have a15 : (0 : Int) ≤ (t : Int) - 15 := by omega
        have a7 : (0 : Int) ≤ (t : Int) - 7 := by omega
        have a2 : (0 : Int) ≤ (t : Int) - 2 := by omega
        have z16 : (16 : Int) ≤ (t : Int) := by omega
        have z15 : (15 : Int) ≤ (t : Int) := by omega
        have z7 : (7 : Int) ≤ (t : Int) := by omega
        have z2 : (2 : Int) ≤ (t : Int) := by omega
        have z0 : (0 : Int) ≤ (t : Int) := by omega
        have b0 : (t : Int) < 64 := by omega
        have k16 := off_ne (B := w.heap.size) (i := t) (j := t - 16) (by omega)
        have k15 := off_ne (B := w.heap.size) (i := t) (j := t - 15) (by omega)
        have k7 := off_ne (B := w.heap.size) (i := t) (j := t - 7) (by omega)
        have k2 := off_ne (B := w.heap.size) (i := t) (j := t - 2) (by omega)
        have HS := Lib.hid (row_set HB.out t (nextW (schedTo bs t) t))
        have b16 : (t : Int) - 16 < 64 := by omega
        have b15 : (t : Int) - 15 < 64 := by omega
        have b7 : (t : Int) - 7 < 64 := by omega
        have b2 : (t : Int) - 2 < 64 := by omega
        have t16 : ((t : Int) - 16).toNat = t - 16 := by omega
        have t15 : ((t : Int) - 15).toNat = t - 15 := by omega
        have t7 : ((t : Int) - 7).toNat = t - 7 := by omega
        have t2 : ((t : Int) - 2).toNat = t - 2 := by omega
        go_wp2
        go_region_held3 (fun w' => w'.cell? ⟨w.heap.size, t - 16, none⟩ = some (.int .u32 (N32 (at32 (schedTo bs t) (t - 16)))) ∧ w'.cell? ⟨w.heap.size, t - 15, none⟩ = some (.int .u32 (N32 (at32 (schedTo bs t) (t - 15)))) ∧ w'.cell? ⟨w.heap.size, t - 7, none⟩ = some (.int .u32 (N32 (at32 (schedTo bs t) (t - 7)))) ∧ w'.cell? ⟨w.heap.size, t - 2, none⟩ = some (.int .u32 (N32 (at32 (schedTo bs t) (t - 2))))) (go_keep)
          (first | (go_at_call 213; refine (slide_any _ _ _ _ _ (by decide) (by decide) (by decide) (by decide) (by decide) (by decide)).mono ?_; rintro e w' ⟨rfl, k, rfl⟩))
        go_wp2
        go_roundw
        case rel => exact ⟨t + 1, by omega, by go_num, by rw [schedTo, if_neg h16]; exact HS.out, (below_drewN hbel _).setCell (Nat.le_refl _) _⟩
        case measure => simp [intOf]; omega
    · have d64 : decide ((t : Int) < 64) = false := by simp; omega
      obtain rfl : t = 64 := by omega
      have i119 : (Tryz.prog.info? 359).map (·.size) = some (cw (schedTo bs 64)).size := by rw [cw_size, schedTo_length]; exact info119
      have HI := Lib.hid i119
      clear i119
      go_wp2_with (first | (refine wpList_load_row rfl 359 (.tmp 2) rfl w.heap.size rfl 359 _ (0, 0) _ HB.out Tryz.underlying359 rfl HI.out ?_) | (refine wpList_store_row rfl 359 (.tmp 2) (.tmp 57) rfl w.heap.size (cw (schedTo bs 64)) rfl rfl 359 _ HB.out HI.out rfl (cw_one _) ?_))
      exact bodyPost_ret (v := .agg (cw (schedTo bs 64))) (results_cell_row (p := 2) (ty := 359) rfl _ _ w.heap.size 359 _ (0, 0) _ rfl (setRow_heap _ _ _ _ _ _ HB.out) Tryz.underlying359 rfl HI.out) rfl ⟨rfl, below_setRow hbel (Nat.le_refl _) _⟩
end Go.Proofs.YtcbfjmjphpoimaaGreatDoor
namespace Go.Proofs.YtcbfjmjphpoimaaGreatDoor
open Go.RowKit
attribute [local go_sem] u32_bits_xor u32_bits_and u32_bits_or u32_add u32_bits_not2
theorem info88 : (Tryz.prog.info? 341).map (·.size) = some 8 := by kernel_rfl
theorem info62 : (Tryz.prog.info? 23).map (·.size) = some 1 := by kernel_rfl
def GlobK (w : World) : Prop := ∀ i, i < 64 → w.cell? ⟨4, i, none⟩ = some (.int .u32 (N32 (at32 KK i)))
theorem index_cw (l : List UInt32) (t : Nat) (hl : l.length = 64) (ht : t < 64) (w : World) :
    (Instr.index 359 (.agg (cw l)) (.int .i64 (t : Int))).run Tryz.prog w = .ok (.int .u32 (N32 (at32 l t))) w := by
  have h1 : (0 : Int) ≤ (t : Int) ∧ (t : Int) < 64 := by omega
  have hi := info62
  cases hq : Tryz.prog.info? 23 with
  | none => simp [hq] at hi
  | some i =>
    simp [hq] at hi
    have hc := cw_at l t (by omega)
    simp [ht, hc, Instr.index, asIntOf, underlying, Tryz.underlying359, part, sizeOf, typeInfo, hq, hi, h1, go_sem]
theorem sum5 (a b c d e : UInt32) : (N32 a + N32 b + N32 c + N32 d + N32 e) % 4294967296 = N32 (a + b + c + d + e) := by
  unfold N32; simp only [UInt32.toNat_add]; omega
theorem sum14 (x a b c d : UInt32) : (N32 x + (N32 a + N32 b + N32 c + N32 d)) % 4294967296 = N32 (x + (a + b + c + d)) := by
  unfold N32; simp only [UInt32.toNat_add]; omega
theorem cp_len {xs : List UInt32} (hl : xs.length = 8) : (cwl (xs.take 7)).length = 7 := by simp [cwl, hl]
theorem cp_pos {w' : World} {X : Nat} {xs : List UInt32} (hX : w'.heap[X]? = some (.cells (cw xs) 341 (0, 0))) (hl : xs.length = 8) :
    0 < (cwl (xs.take 7)).length → (some ⟨X, 1, none⟩ : Option Addr) = some ⟨X, 1, none⟩ ∧ ∃ ad, (some ⟨X, 0, none⟩ : Option Addr) = some ad ∧ ∀ j v, (cwl (xs.take 7))[j]? = some v → w'.cell? (ad.add j) = some v := by
  refine fun _ => ⟨rfl, _, rfl, fun j v hv => ?_⟩
  have hj : j < 7 := by
    have := (List.getElem?_eq_some_iff.1 hv).1
    rw [cp_len hl] at this; exact this
  rw [Addr.add_mid, Nat.zero_add, row_cell hX j (by omega), ← hv]
  simp [cwl, at32, hj, show j < xs.length by omega]
theorem cp_splice {xs : List UInt32} (hl : xs.length = 8) :
    splice (cwl xs) 1 (cwl (xs.take 7)) = cwl [at32 xs 0, at32 xs 0, at32 xs 1, at32 xs 2, at32 xs 3, at32 xs 4, at32 xs 5, at32 xs 6] := by
  match xs, hl with
  | [a, b, c, d, e, f, g, h], _ => rfl
def TakR (s : List UInt32) (bs : List UInt8) (w : World) (i : Value) (wr : World) : Prop :=
  ∃ t : Nat, t ≤ 64 ∧ i = .int .i64 t ∧ wr.heap[w.heap.size]? = some (.cells (cw (rndTo s (schedTo bs 64) t)) 341 (0, 0)) ∧ Below w.heap.size w wr
def TakS (s x : List UInt32) (sb : Nat) (w : World) (i : Value) (wr : World) : Prop :=
  ∃ k : Nat, k ≤ 8 ∧ i = .int .i64 k ∧ wr.heap[w.heap.size]? = some (.cells (cw x) 341 (0, 0)) ∧ wr.heap[sb]? = some (.cells (cw (sumTo s x k)) 341 (0, 0)) ∧ But sb w wr
set_option maxHeartbeats 1000000 in
set_option maxRecDepth 100000 in
theorem take_any (sb bb off cap : Nat) (s : List UInt32) (bs : List UInt8) (w : World) (hb : bb < w.heap.size) (hsb : sb < w.heap.size) (h8 : s.length = 8)
    (hs : w.heap[sb]? = some (.cells (cw s) 341 (0, 0)))
    (hc : ∀ i, i < 64 → w.cell? ⟨bb, off + i, none⟩ = some (.int .u8 (N8 (at8 bs i)))) (hcap : 64 ≤ cap) (hK : GlobK w) (h3 : 4 < w.heap.size) :
    Calls Tryz.prog 185 #[.pointer (some ⟨sb, 0, none⟩), .slice (some ⟨bb, off, none⟩) 64 cap] w fun e w' => e = .returned (.tuple #[]) ∧ w'.heap[sb]? = some (.cells (cw (compW s bs)) 341 (0, 0)) ∧ But sb w w' := by
  have HC := Lib.hid hc
  clear hc
  have HSB := Lib.hid hs
  clear hs
  have HI : Hid ((Tryz.prog.info? 341).map (·.size) = some (cw s).size) := by rw [cw_size, h8]; exact info88
  have HN := Lib.hid (row_new w #[.int .u32 0, .int .u32 0, .int .u32 0, .int .u32 0, .int .u32 0, .int .u32 0, .int .u32 0, .int .u32 0] 341)
  have HZ : Hid ((#[.int .u32 0, .int .u32 0, .int .u32 0, .int .u32 0, .int .u32 0, .int .u32 0, .int .u32 0, .int .u32 0] : Array Value).size = (cw s).size) := by rw [cw_size, h8]; rfl
  have H8 := Lib.hid h8
  clear h8
  obtain ⟨w1, hw1⟩ : ∃ w1, w1 = (w.alloc (.cells #[.int .u32 0, .int .u32 0, .int .u32 0, .int .u32 0, .int .u32 0, .int .u32 0, .int .u32 0, .int .u32 0] 341)).setRow w.heap.size (cw s) := ⟨_, rfl⟩
  have hb1 : Below w.heap.size w w1 := by rw [hw1]; exact below_setRow ((Below.refl _ _).alloc (Nat.le_refl _) _) (Nat.le_refl _) _
  have hx1 : w1.heap[w.heap.size]? = some (.cells (cw s) 341 (0, 0)) := by rw [hw1]; exact setRow_heap _ _ _ _ _ _ HN.out
  have hz1 : w1.heap.size = w.heap.size + 1 := by rw [hw1]; simp
  have HW1 := Lib.hid hw1
  clear hw1
  have HX1 := Lib.hid hx1
  clear hx1
  have HZ1 := Lib.hid hz1
  clear hz1
  go_enter Tryz.func185, Tryz.ntmps185
  go_wp2_with (first | (refine wpList_load_row rfl 341 (.tmp 13) rfl sb rfl 341 _ (0, 0) _ HSB.out Tryz.underlying341 rfl HI.out ?_) | (refine wpList_store_row rfl 341 (.tmp 4) (.tmp 14) rfl w.heap.size (cw s) rfl rfl 341 _ HN.out HI.out HZ.out (cw_one _) ?_))
  rw [← HW1.out]
  refine (schedule_any bb off cap bs w1 (by have := HZ1.out; omega) (fun i hi => by rw [hb1.cell (p := ⟨bb, off + i, none⟩) hb]; exact HC.out i hi) hcap).mono ?_
  rintro e w2 ⟨rfl, hb2⟩
  have hb3 : Below w.heap.size w w2 := hb1.trans (hb2.mono (by have := HZ1.out; omega))
  have HX2 : Hid (w2.heap[w.heap.size]? = some (.cells (cw s) 341 (0, 0))) := by rw [hb2.block _ (by have := HZ1.out; omega)]; exact HX1.out
  have HK : Hid (GlobK w) := hK
  clear hK hb1 hb2
  go_wp2
  go_loopw [17] (TakR s bs w) (fun i _ => 64 - (intOf i).toNat)
  case atStart => exact ⟨0, by omega, rfl, HX2.out, hb3⟩
  case round =>
    obtain ⟨t, ht, rfl, hX, hbel⟩ := hrel
    have HX := Lib.hid hX
    clear hX
    by_cases h64 : t < 64
    · have d64 : decide ((t : Int) < 64) = true := by simp; omega
      have hix : ∀ w : World, (Instr.index 359 (.agg (cw (schedTo bs 64))) (.int .i64 (t : Int))).run Tryz.prog w = .ok (.int .u32 (N32 (at32 (schedTo bs 64) t))) w := by
        exact index_cw _ _ (schedTo_length _ _) h64
      obtain ⟨xs, hxs⟩ : ∃ xs, xs = rndTo s (schedTo bs 64) t := ⟨_, rfl⟩
      have hl : xs.length = 8 := by rw [hxs]; exact rndTo_length _ _ _ H8.out
      rw [← hxs] at HX
      have HXS := Lib.hid hxs
      clear hxs
      have c0 := row_cell HX.out 0 (by omega)
      have c1 := row_cell HX.out 1 (by omega)
      have c2 := row_cell HX.out 2 (by omega)
      have c3 := row_cell HX.out 3 (by omega)
      have c4 := row_cell HX.out 4 (by omega)
      have c5 := row_cell HX.out 5 (by omega)
      have c6 := row_cell HX.out 6 (by omega)
      have c7 := row_cell HX.out 7 (by omega)
      have cK : wr.cell? ⟨4, t, none⟩ = some (.int .u32 (N32 (at32 KK t))) := by rw [hbel.cell (p := ⟨4, t, none⟩) h3]; exact HK.out t h64
      have HL := Lib.hid hl
      clear hl
      have z0 : (0 : Int) ≤ (t : Int) := by omega
      have b0 : (t : Int) < 64 := by omega
      go_wp2
      go_quiet (fail)
      go_wp2
      go_quiet ((go_at_call 205; exact q_two (turn_any _ _ _ _ _ (by decide) (by decide) (by decide) (by decide) (by decide) (by decide))))
      go_wp2
      go_quiet ((go_at_call 205; exact q_two (turn_any _ _ _ _ _ (by decide) (by decide) (by decide) (by decide) (by decide) (by decide))))
      go_wp2
      go_region_law (refine step_copy_splice rfl (.tmp 65) (.tmp 66) 80 80 rfl 23 Tryz.underlying80 info62 (some ⟨w.heap.size, 1, none⟩) (some ⟨w.heap.size, 0, none⟩) 7 7 7 8 rfl rfl w.heap.size 1 (cwl xs) 341 HX.out (cwl (xs.take 7)) (cp_len HL.out) (cp_pos HX.out HL.out) (by rw [cp_len HL.out]; simp [cwl, HL.out]) (fun v hv => (Array.all_eq_true_iff_forall_mem.1 (cw_one (xs.take 7))) v (by simpa [cw] using hv)) w.heap.size w ⟨hbel.os, hbel.tape, hbel.output, hbel.size, hbel.block⟩ (Nat.le_refl _) ?_; intro w4 HG4 hb4)
      rw [cp_splice HL.out] at HG4
      have HG5 : Hid (w4.heap[w.heap.size]? = some (.cells (cw [at32 xs 0, at32 xs 0, at32 xs 1, at32 xs 2, at32 xs 3, at32 xs 4, at32 xs 5, at32 xs 6]) 341 (0, 0))) := HG4.out
      clear HG4 c0 c1 c2 c3 c4 c5 c6 c7 cK
      have c0 : w4.cell? ⟨w.heap.size, 0, none⟩ = some (.int .u32 (N32 (at32 xs 0))) := row_cell HG5.out 0 (by simp)
      have c4 : w4.cell? ⟨w.heap.size, 4, none⟩ = some (.int .u32 (N32 (at32 xs 3))) := row_cell HG5.out 4 (by simp)
      have f0 : w4.frozen? ⟨w.heap.size, 0, none⟩ = false := row_free HG5.out 0
      have f4 : w4.frozen? ⟨w.heap.size, 4, none⟩ = false := row_free HG5.out 4
      have HF := Lib.hid (row_set (row_set HG5.out 0 (oneW xs (at32 KK t) (at32 (schedTo bs 64) t) + twoW xs)) 4 (at32 xs 3 + oneW xs (at32 KK t) (at32 (schedTo bs 64) t)))
      go_wp2
      go_roundw
      case rel =>
        rw [sum5, sum14]
        exact ⟨t + 1, by omega, by go_num, by rw [rndTo, ← HXS.out]; exact HF.out, (hb4.setCell (Nat.le_refl _) _).setCell (Nat.le_refl _) _⟩
      case measure => simp [intOf]; omega
    · have d64 : decide ((t : Int) < 64) = false := by simp; omega
      obtain rfl : t = 64 := by omega
      obtain ⟨xs, hxs⟩ : ∃ xs, xs = rndTo s (schedTo bs 64) 64 := ⟨_, rfl⟩
      have hl : xs.length = 8 := by rw [hxs]; exact rndTo_length _ _ _ H8.out
      rw [← hxs] at HX
      have HXS := Lib.hid hxs
      clear hxs
      have HL := Lib.hid hl
      clear hl
      have HS0 : Hid (wr.heap[sb]? = some (.cells (cw s) 341 (0, 0))) := by rw [hbel.block sb hsb]; exact HSB.out
      have hbut : But sb w wr := But.of_below hbel
      obtain ⟨wo, rfl⟩ : ∃ wo : World, wo = wr := ⟨_, rfl⟩
      go_wp2
      go_loopw [78] (TakS s xs sb w) (fun i _ => 8 - (intOf i).toNat)
      case atStart => exact ⟨0, by omega, rfl, HX.out, HS0.out, hbut⟩
      case round =>
        obtain ⟨k, hk, rfl, hx, hs, hbut2⟩ := hrel
        have HX2 := Lib.hid hx
        have HS2 := Lib.hid hs
        clear hx hs
        by_cases h8 : k < 8
        · have d8 : decide ((k : Int) < 8) = true := by simp; omega
          have z0 : (0 : Int) ≤ (k : Int) := by omega
          have b0 : (k : Int) < 8 := by omega
          have cx := row_cell HX2.out k (by rw [HL.out]; exact h8)
          have cs := row_cell HS2.out k (by rw [sumTo_length, H8.out]; exact h8)
          have fs := row_free HS2.out k
          have HF := Lib.hid (row_set HS2.out k (at32 (sumTo s xs k) k + at32 xs k))
          go_wp2
          go_region
          go_wp2
          go_roundw
          case rel =>
            refine ⟨k + 1, by omega, by go_num, ?_, HF.out, ?_⟩
            · exact (heap_setCell_other _ _ _ _ (by simp; omega)).trans HX2.out
            · exact (hbut2.setCell _).drewN (n := 1)
          case measure => simp [intOf]; omega
        · have d8 : decide ((k : Int) < 8) = false := by simp; omega
          obtain rfl : k = 8 := by omega
          go_wp2
          go_end0
          exact ⟨rfl, by rw [compW, ← HXS.out]; exact HS2.out, hbut2⟩
end Go.Proofs.YtcbfjmjphpoimaaGreatDoor
namespace Go.Proofs.YtcbfjmjphpoimaaGreatDoor
open Go Go.RowKit
def c8l (l : List UInt8) : List Value := l.map fun x => Value.int .u8 (N8 x)
def c8 (l : List UInt8) : Array Value := (c8l l).toArray
theorem c8l_length (l : List UInt8) : (c8l l).length = l.length := by simp [c8l]
theorem c8l_append (a b : List UInt8) : c8l (a ++ b) = c8l a ++ c8l b := by simp [c8l]
theorem c8_size (l : List UInt8) : (c8 l).size = l.length := by simp [c8, c8l]
theorem c8l_at (l : List UInt8) (i : Nat) (h : i < l.length) : (c8l l)[i]? = some (.int .u8 (N8 (at8 l i))) := by
  simp [c8l, h, at8]
theorem c8_at (l : List UInt8) (i : Nat) (h : i < l.length) : (c8 l)[i]? = some (.int .u8 (N8 (at8 l i))) := by
  simp [c8, c8l, h, at8]
theorem c8_set (l : List UInt8) (i : Nat) (x : UInt8) : (c8 l).setIfInBounds i (.int .u8 (N8 x)) = c8 (l.set i x) := by
  apply Array.ext'
  simp [c8, c8l, List.map_set]
theorem c8l_one (l : List UInt8) : ∀ v ∈ c8l l, v.oneCell' = true := by
  intro v hv
  simp only [c8l, List.mem_map] at hv
  obtain ⟨x, _, rfl⟩ := hv
  rfl
theorem c8_one (l : List UInt8) : (c8 l).all (·.oneCell') = true := by
  rw [Array.all_eq_true_iff_forall_mem]
  intro v hv
  exact c8l_one l v (by simpa [c8] using hv)
def BSl (w : World) (v : Value) (bs : List UInt8) : Prop :=
  (v = .slice none 0 0 ∧ bs = []) ∨
  (∃ b off c, v = .slice (some ⟨b, off, none⟩) bs.length c ∧ bs.length ≤ c ∧ b < w.heap.size ∧ ∀ j, j < bs.length → w.cell? ⟨b, off + j, none⟩ = some (.int .u8 (N8 (at8 bs j)))) ∨
  ∃ a, v = .slice (some a) 0 0 ∧ bs = []
theorem BSl.below {B : Nat} {w w' : World} {v : Value} {bs : List UInt8} (h : BSl w v bs) (hb : Below B w w') (hB : w.heap.size ≤ B) : BSl w' v bs := by
  rcases h with h | ⟨b, off, c, e, hc, hlt, hcell⟩ | h
  · exact .inl h
  · exact .inr (.inl ⟨b, off, c, e, hc, Nat.lt_of_lt_of_le hlt hb.size, fun j hj => (hb.cell (p := ⟨b, off + j, none⟩) (Nat.lt_of_lt_of_le hlt hB)).trans (hcell j hj)⟩)
  · exact .inr (.inr h)
theorem BSl.len {w : World} {v : Value} {bs : List UInt8} (h : BSl w v bs) : ∃ a c, v = .slice a bs.length c := by
  rcases h with ⟨rfl, rfl⟩ | ⟨b, off, c, e, _⟩ | ⟨a, rfl, rfl⟩
  · exact ⟨_, _, rfl⟩
  · exact ⟨_, _, e⟩
  · exact ⟨_, _, rfl⟩
theorem BSl.of_owns {w : World} {base : Nat} {v : Value} {bs : List UInt8} (h : w.ownsRow base 5 1 v bs.length (c8l bs)) : BSl w v bs := by
  obtain ⟨h1, h2⟩ := h
  rcases h2 with ⟨rfl, h3⟩ | ⟨g, cap, cur, rfl, hg, hh, hn, hm, hs, ht⟩
  · exact .inl ⟨rfl, List.eq_nil_of_length_eq_zero h3⟩
  · refine .inr (.inl ⟨g, 0, cap, rfl, hn, (Array.getElem?_eq_some_iff.1 hh).1, fun j hj => ?_⟩)
    rw [Nat.zero_add, cell_of_row w g j cur 5 (0, 0) hh, ← c8l_at bs j hj, ← ht, List.getElem?_take, if_pos (by omega)]
    simp
theorem news_of {w : World} {b o : Nat} {bs : List UInt8} (h : ∀ j, j < bs.length → w.cell? ⟨b, o + j, none⟩ = some (.int .u8 (N8 (at8 bs j)))) :
    ∀ j u, (c8l bs)[j]? = some u → w.cell? ((⟨b, o, none⟩ : Addr).add j) = some u := by
  intro j u hu
  have hj : j < bs.length := by have := (List.getElem?_eq_some_iff.1 hu).1; rwa [c8l_length] at this
  rw [show (⟨b, o, none⟩ : Addr).add j = ⟨b, o + j, none⟩ by unfold Addr.add; split <;> simp_all, h j hj, ← hu, c8l_at bs j hj]
theorem owns_block {w : World} {base e size : Nat} {v : Value} {n : Nat} {xs : List Value} (h : w.ownsRow base e size v n xs) {g : Nat} (hg : v.ownBlock = some g) : base ≤ g := by
  rcases h.2 with ⟨rfl, _⟩ | ⟨g', cap, cur, rfl, hb, _⟩
  · cases hg
  · cases hg; exact hb
/-! Slices of slices of bytes. -/
def atV (vs : List Value) (j : Nat) : Value := vs.getD j undef
def atP (ps : List (List UInt8)) (j : Nat) : List UInt8 := ps.getD j []
def catTo (ps : List (List UInt8)) (k : Nat) : List UInt8 := (ps.take k).flatten
theorem catTo_succ (ps : List (List UInt8)) (k : Nat) (h : k < ps.length) : catTo ps (k + 1) = catTo ps k ++ atP ps k := by
  unfold catTo atP
  rw [List.take_succ_eq_append_getElem h, List.flatten_append, List.getD_eq_getElem?_getD, List.getElem?_eq_getElem h]; simp
theorem catTo_all (ps : List (List UInt8)) : catTo ps ps.length = ps.flatten := by simp [catTo]
theorem catTo_le (ps : List (List UInt8)) (k : Nat) : (catTo ps k).length ≤ ps.flatten.length := by
  unfold catTo
  have : ps.flatten = (ps.take k).flatten ++ (ps.drop k).flatten := by rw [← List.flatten_append, List.take_append_drop]
  rw [this, List.length_append]; omega
theorem catTo_part (ps : List (List UInt8)) (k : Nat) (h : k < ps.length) : (catTo ps k).length + (atP ps k).length ≤ ps.flatten.length := by
  have := catTo_le ps (k + 1)
  rw [catTo_succ ps k h, List.length_append] at this; exact this
structure PSl (w : World) (pv : Value) (vs : List Value) (ps : List (List UInt8)) : Prop where
  len : vs.length = ps.length
  lies : (pv = .slice none 0 0 ∧ ps = []) ∨
    ∃ b off c, pv = .slice (some ⟨b, off, none⟩) ps.length c ∧ ps.length ≤ c ∧ b < w.heap.size ∧ ∀ j, j < ps.length → w.cell? ⟨b, off + j, none⟩ = some (atV vs j)
  each : ∀ j, j < ps.length → BSl w (atV vs j) (atP ps j)
theorem PSl.below {B : Nat} {w w' : World} {pv : Value} {vs : List Value} {ps : List (List UInt8)} (h : PSl w pv vs ps) (hb : Below B w w') (hB : w.heap.size ≤ B) : PSl w' pv vs ps := by
  refine ⟨h.len, ?_, fun j hj => (h.each j hj).below hb hB⟩
  rcases h.lies with h | ⟨b, off, c, e, hc, hlt, hcell⟩
  · exact .inl h
  · exact .inr ⟨b, off, c, e, hc, Nat.lt_of_lt_of_le hlt hb.size, fun j hj => (hb.cell (p := ⟨b, off + j, none⟩) (Nat.lt_of_lt_of_le hlt hB)).trans (hcell j hj)⟩
end Go.Proofs.YtcbfjmjphpoimaaGreatDoor
namespace Go.Proofs.YtcbfjmjphpoimaaGreatDoor
open Go.RowKit
theorem info5 : (Tryz.prog.info? 5).map (fun i => (i.zero, i.size, i.bytes)) = some (some (.int .u8 0), 1, 1) := by kernel_rfl
def Owned (w : World) (n : Nat) (xs : List UInt8) (e : Ending) (w' : World) : Prop :=
  ∃ v, e = .returned v ∧ w'.ownsRow w.heap.size 5 1 v n (c8l xs) ∧ Below w.heap.size w w'
set_option maxHeartbeats 400000 in
theorem grow_any (n : Nat) (w : World) (h : n ≤ 1000000000000) : Calls Tryz.prog 138 #[.slice none 0 0, .int .i64 n] w (Owned w 0 []) := by
  obtain ⟨i0, hi, hz0, hz1, hz2⟩ := info_parts info5
  have HI := Lib.hid hi
  have HZ := Lib.hid hz0
  have H1 := Lib.hid hz1
  have H2 := Lib.hid hz2
  clear hi hz0 hz1 hz2
  have d0 : decide ((n : Int) < 0) = false := decide_eq_false (by omega)
  by_cases hn : 0 < n
  · have hr := Lib.run_append_nil_zeros (P := Tryz.prog) w 22 3 22 5 i0 (.int .u8 0) .i64 .i64 Tryz.underlying22 Tryz.underlying3 HI.out HZ.out n hn (by rw [H1.out]; decide) (by omega) (by rw [H2.out]; omega)
    have HR := Lib.hid hr
    clear hr
    have d1 : decide ((0 : Int) < (n : Int)) = true := decide_eq_true (by omega)
    go_enter Tryz.func138, Tryz.ntmps138
    go_wp2_with (at_builtin; refine Lib.wpList_append_run w rfl (.tmp 20) (.tmp 21) 22 3 rfl (.slice none 0 0) (.int .i64 n) rfl rfl _ _ HR.out ?_)
    go_ret
    refine ⟨_, rfl, ⟨by simp [c8l], .inr ⟨w.heap.size, _, _, rfl, Nat.le_refl _, row_new _ _ _, by omega, grownCap_le_maxLen _ _ _ _ (by unfold maxLen; omega), ?_, by simp [c8l]⟩⟩, ?_⟩
    · have := grownCap_ge w n 0 5
      simp [size_zeroCells]; omega
    · exact (Below.refl _ _).drew.alloc (by simp) _
  · obtain rfl : n = 0 := by omega
    go_enter Tryz.func138, Tryz.ntmps138
    go_wp2
    go_ret
    exact ⟨_, rfl, ⟨by simp [c8l], .inl ⟨rfl, rfl⟩⟩, Below.refl _ _⟩
def CatR (ps : List (List UInt8)) (s i : Value) : Prop := ∃ k : Nat, k ≤ ps.length ∧ i = .int .i64 k ∧ s = .int .i64 (catTo ps k).length
def CatS (ps : List (List UInt8)) (w : World) (v i : Value) (wr : World) : Prop :=
  ∃ k : Nat, k ≤ ps.length ∧ i = .int .i64 k ∧ wr.ownsRow w.heap.size 5 1 v (catTo ps k).length (c8l (catTo ps k)) ∧ Below w.heap.size w wr
set_option maxHeartbeats 1000000 in
theorem concat_some (b off c : Nat) (vs : List Value) (ps : List (List UInt8)) (w : World) (hlt : b < w.heap.size) (_hcap : ps.length ≤ c) (hc0 : ps.length ≤ 1000000000)
    (hcell : ∀ j, j < ps.length → w.cell? ⟨b, off + j, none⟩ = some (atV vs j)) (hbs : ∀ j, j < ps.length → BSl w (atV vs j) (atP ps j)) (ht : ps.flatten.length ≤ 1000000000000) :
    Calls Tryz.prog 102 #[.slice (some ⟨b, off, none⟩) ps.length c] w (Owned w ps.flatten.length ps.flatten) := by
  obtain ⟨i0, hi, hz0, hz1, hz2⟩ := info_parts info5
  have HI := Lib.hid hi
  have HZ := Lib.hid hz0
  have H1 := Lib.hid hz1
  have H2 := Lib.hid hz2
  clear hi hz0 hz1 hz2
  have HC := Lib.hid hcell
  have HB := Lib.hid hbs
  clear hcell hbs
  go_enter Tryz.func102, Tryz.ntmps102
  go_wp2
  go_loop [3, 11] (CatR ps) (fun _ i => ps.length - (intOf i).toNat)
  case atStart => exact ⟨0, by omega, rfl, by simp [catTo]⟩
  case round =>
    obtain ⟨k, hk, rfl, rfl⟩ := hrel
    have hle := catTo_le ps k
    by_cases hlt2 : k < ps.length
    · have d1 : decide ((k : Int) < (ps.length : Int)) = true := decide_eq_true (by omega)
      have hp := catTo_part ps k hlt2
      obtain ⟨a1, c1, hv⟩ := (HB.out k hlt2).len
      have g1 : w.cell? ⟨b, off + k, none⟩ = some (.slice a1 (atP ps k).length c1) := by rw [← hv]; exact HC.out k hlt2
      clear hv
      have d2 : decide (((catTo ps k).length : Int) + ((atP ps k).length : Int) < 0) = false := decide_eq_false (by omega)
      have HS := Lib.hid (catTo_succ ps k hlt2)
      go_wp2
      go_round
      case rel => exact ⟨k + 1, by omega, by go_num, by rw [HS.out, List.length_append]; go_num⟩
      case measure => simp [intOf]; omega
    · have d1 : decide ((k : Int) < (ps.length : Int)) = false := decide_eq_false (by omega)
      obtain rfl : k = ps.length := by omega
      go_wp2_with fail
      refine (grow_any (catTo ps ps.length).length w (by omega)).mono ?_
      rintro e w1 ⟨v, rfl, hown, hb1⟩
      go_wp2
      go_loopw [6, 27] (CatS ps w) (fun _ i _ => ps.length - (intOf i).toNat)
      case atStart => exact ⟨0, by omega, rfl, by simpa [catTo] using hown, hb1⟩
      case round =>
        obtain ⟨k, hk, rfl, hown2, hb2⟩ := hrel
        have hle2 := catTo_le ps k
        by_cases hlt2 : k < ps.length
        · have d3 : decide ((k : Int) < (ps.length : Int)) = true := decide_eq_true (by omega)
          have hp := catTo_part ps k hlt2
          have HS := Lib.hid (catTo_succ ps k hlt2)
          have g0 : wr.cell? ⟨b, off + k, none⟩ = some (atV vs k) := (hb2.cell (p := ⟨b, off + k, none⟩) hlt).trans (HC.out k hlt2)
          have hz := hb2.size
          rcases (HB.out k hlt2).below hb2 (Nat.le_refl _) with ⟨hv, hn⟩ | ⟨b1, o1, c1, hv, hc1, hl1, hx1⟩ | ⟨a1, hv, hn⟩
          · rw [hv] at g0
            have HN := Lib.hid hn
            clear hv hn
            go_wp2_with (at_builtin; refine wpList_append_own_none rfl (.tmp 31) (.tmp 32) 22 rfl w.heap.size 5 i0 1 Tryz.underlying22 HI.out _ _ _ rfl hown2 rfl ?_)
            go_roundw
            case rel => exact ⟨k + 1, by omega, by go_num, by rw [HS.out, HN.out, List.append_nil]; exact hown2, hb2⟩
            case measure => simp [intOf]; omega
          · rw [hv] at g0
            have HX1 := Lib.hid hx1
            clear hv hx1
            go_wp2_with (at_builtin; refine wpList_append_own _ rfl (.tmp 31) (.tmp 32) 22 rfl w.heap.size 5 i0 (.int .u8 0) 1 1 Tryz.underlying22 HI.out HZ.out H1.out H2.out rfl (by decide) _ _ _ rfl hown2 ⟨b1, o1, none⟩ (atP ps k).length c1 (c8l (atP ps k)) rfl (by rw [c8l_length]; omega) (news_of HX1.out) (c8l_one _) (by unfold maxLen; omega) (by omega) hz ?_)
            intro v' w2 hown3 hg3 _
            have hb3 := hb2.grown hg3 hz (fun g hg => owns_block hown2 hg)
            go_wp2
            go_roundw
            case rel => exact ⟨k + 1, by omega, by go_num, by rw [HS.out, List.length_append, c8l_append]; exact hown3, hb3⟩
            case measure => simp [intOf]; omega
          · rw [hv] at g0
            have HN := Lib.hid hn
            clear hv hn
            go_wp2_with (at_builtin; refine wpList_append_own _ rfl (.tmp 31) (.tmp 32) 22 rfl w.heap.size 5 i0 (.int .u8 0) 1 1 Tryz.underlying22 HI.out HZ.out H1.out H2.out rfl (by decide) _ _ _ rfl hown2 a1 0 0 [] rfl rfl (fun j u hu => by simp at hu) (fun u hu => by simp at hu) (by unfold maxLen; omega) (by omega) hz ?_)
            intro v' w2 hown3 hg3 _
            have hb3 := hb2.grown hg3 hz (fun g hg => owns_block hown2 hg)
            go_wp2
            go_roundw
            case rel => exact ⟨k + 1, by omega, by go_num, by rw [HS.out, HN.out, List.append_nil]; exact hown3, hb3⟩
            case measure => simp [intOf]; omega
        · have d3 : decide ((k : Int) < (ps.length : Int)) = false := decide_eq_false (by omega)
          obtain rfl : k = ps.length := by omega
          go_wp2
          go_ret
          exact ⟨_, rfl, by rw [← catTo_all]; exact hown2, hb2⟩
set_option maxHeartbeats 400000 in
theorem concat_nil (w : World) : Calls Tryz.prog 102 #[.slice none 0 0] w (Owned w 0 []) := by
  go_enter Tryz.func102, Tryz.ntmps102
  go_wp2
  go_loop [3, 11] (fun s i => s = .int .i64 0 ∧ i = .int .i64 0) (fun _ _ => 0)
  case atStart => exact ⟨rfl, rfl⟩
  case round =>
    obtain ⟨rfl, rfl⟩ := hrel
    go_wp2_with fail
    refine (grow_any 0 w (by omega)).mono ?_
    rintro e w1 ⟨v, rfl, hown, hb1⟩
    go_wp2
    go_loopw [6, 27] (fun v i wr => i = .int .i64 0 ∧ wr.ownsRow w.heap.size 5 1 v 0 (c8l []) ∧ Below w.heap.size w wr) (fun _ _ _ => 0)
    case atStart => exact ⟨rfl, hown, hb1⟩
    case round =>
      obtain ⟨rfl, hown2, hb2⟩ := hrel
      go_wp2
      go_ret
      exact ⟨_, rfl, hown2, hb2⟩
theorem concat_any (pv : Value) (vs : List Value) (ps : List (List UInt8)) (w : World) (h : PSl w pv vs ps) (hc0 : ps.length ≤ 1000000000) (ht : ps.flatten.length ≤ 1000000000000) :
    Calls Tryz.prog 102 #[pv] w (Owned w ps.flatten.length ps.flatten) := by
  rcases h.lies with ⟨rfl, rfl⟩ | ⟨b, off, c, rfl, hc, hlt, hcell⟩
  · exact concat_nil w
  · exact concat_some b off c vs ps w hlt hc hc0 hcell h.each ht
end Go.Proofs.YtcbfjmjphpoimaaGreatDoor
