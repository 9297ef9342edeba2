/- Part 5 of the proof: texts of the proof. -/
import Derived.Test.YtljmigbpmcacnaaDoorQS4
import Derived.Test.YtljmigbpmcacnaaDoorRows
import Derived.WalkKit
import Derived.Deep.Draws
import Derived.WalkSpells
import Derived.WalkLawsBesides
import Derived.Deep.QuietTactic
import Derived.BigQuiet
import Derived.Lib.Hide
import Derived.Deep.RegionHeld3
import Derived.Deep.RegionLaw
import Derived.Laws.CopyOwn
import Derived.OwnWalk
import Derived.Laws.AppendOwnNone
import Derived.Lib.AppendZeros
import Derived.RangeFuncBox
import Derived.RangeFuncLeaves
import Derived.OwnWalkIn
import Derived.TacticsInMore
import Derived.LoopNIn
import Derived.LoopIn
import Derived.RangeFuncWrites
import Derived.Lib.AppendZerosOnto
import Derived.Shelf.Abstract
import Derived.RangeFuncCalls
import Derived.Lib.Overlaps
import Derived.Deep.MidRow
import Derived.StillTailTactics
namespace Go.Proofs.YtljmigbpmcacnaaDoor.V2
open Go
noncomputable section
inductive AX where
  | normal
  | exit (id : Nat)
  | ret
def AX.out : AX → Exit
  | .normal => .normal
  | .exit id => .exit id
  | .ret => .ret
inductive RR where
  | bad
  | ok (e : AX) (env : T AV) (σ : AH)
def RR.next (r : RR) (f : T AV → AH → RR) : RR := RR.rec (motive := fun _ => RR) .bad (fun e env σ => AX.rec (motive := fun _ => RR) (f env σ) (fun i => .ok (.exit i) env σ) (.ok .ret env σ) e) r
def RR.block (id : Nat) (r : RR) : RR := RR.rec (motive := fun _ => RR) .bad (fun e env σ => AX.rec (motive := fun _ => RR) (.ok .normal env σ) (fun i => bif Nat.beq i id then .ok .normal env σ else .ok (.exit i) env σ) (.ok .ret env σ) e) r
def runLoop (N : Nat) (f : T AV → AH → RR) (n : Nat) : T AV → AH → RR := Nat.rec (motive := fun _ => T AV → AH → RR) (fun _ _ => .bad) (fun _ ih env σ => bif Nat.ble N σ.next then (f env σ).next ih else .bad) n
def run (A : Ar) (Γ : Gam) (N fuel : Nat) (c : ACode) : T AV → AH → RR :=
  ACode.rec (motive := fun _ => T AV → AH → RR)
    (fun env σ => .ok .normal env σ)
    (fun env σ => .ok .ret env σ)
    (fun id env σ => .ok (.exit id) env σ)
    (fun _ _ ia ib env σ => (ia env σ).next ib)
    (fun c _ _ ia ib env σ => match evS env c with | .bool t => bif t then ia env σ else ib env σ | _ => .bad)
    (fun id _ ih env σ => (ih env σ).block id)
    (fun _ ih env σ => runLoop N ih fuel env σ)
    (fun rows env σ => match evP A Γ rows env σ with | (ok, env', σ') => bif ok then .ok .normal env' σ' else .bad)
    (fun st rcs ds env σ => match evDr A Γ st rcs ds env σ with | (ok, env', σ') => bif ok then .ok .normal env' σ' else .bad)
    (fun _ _ => .bad)
    (fun f _ _ _ _ _ env σ => match evS env f with
      | .fn g first cap => match g with
        | .func n => match Γ n (first ++ (.top :: cap)) σ with
          | (ok, _, σ') => bif ok then .ok .normal env σ' else .bad
        | _ => .bad
      | _ => .bad)
    c
theorem Wk.refl {G nt N : Nat} {env : T AV} {σ : AH} (hN : N ≤ σ.next) : Wk G nt N env σ env σ := fun ρ _ hr =>
  ⟨ρ, hr, fun _ he => he, fun _ _ => rfl, fun b _ d hb => ⟨b, d, hb⟩, hN, fun _ _ => rfl⟩
theorem RR.next_ok {r : RR} {f : T AV → AH → RR} {e : AX} {env : T AV} {σ : AH} (h : r.next f = .ok e env σ) :
    (∃ env1 σ1, r = .ok .normal env1 σ1 ∧ f env1 σ1 = .ok e env σ) ∨ (e ≠ .normal ∧ r = .ok e env σ) := by
  cases r with
  | bad => cases h
  | ok e1 env1 σ1 =>
    cases e1 with
    | normal => exact .inl ⟨env1, σ1, rfl, h⟩
    | exit i => cases h; exact .inr ⟨by simp, rfl⟩
    | ret => cases h; exact .inr ⟨by simp, rfl⟩
theorem least {p : Nat → Prop} (h : ∃ k, p k) : ∃ k, p k ∧ ∀ j, p j → k ≤ j := by
  obtain ⟨k, hk⟩ := h
  induction k using Nat.strongRecOn with
  | _ k ih =>
    by_cases hj : ∃ j, j < k ∧ p j
    · obtain ⟨j, h1, h2⟩ := hj; exact ih j h1 h2
    · exact ⟨k, hk, fun j hp => Nat.le_of_not_lt fun hlt => hj ⟨j, hlt, hp⟩⟩
open Classical in
def leastD (p : Nat → Prop) : Nat := if h : ∃ k, p k then (least h).choose else 0
theorem leastD_le {p : Nat → Prop} {k : Nat} (h : p k) : leastD p ≤ k := by
  unfold leastD
  rw [dif_pos ⟨k, h⟩]
  exact (least ⟨k, h⟩).choose_spec.2 k h
theorem leastD_mem {p : Nat → Prop} {k : Nat} (h : p k) : p (leastD p) := by
  unfold leastD
  rw [dif_pos ⟨k, h⟩]
  exact (least ⟨k, h⟩).choose_spec.1
theorem run_avc {A : Ar} {Γ : Gam} {G nt N fuel : Nat} : ∀ (c : ACode) (K : AK) (env : T AV) (σ : AH) (e : AX) (env' : T AV) (σ' : AH), run A Γ N fuel c env σ = .ok e env' σ' → K e.out env' σ' → avc A Γ G nt N c K env σ := by
  intro c
  induction c with
  | skip => intro K env σ e env' σ' h hK; cases h; exact hK
  | ret => intro K env σ e env' σ' h hK; cases h; exact hK
  | exit id => intro K env σ e env' σ' h hK; cases h; exact hK
  | seq a b ia ib =>
    intro K env σ e env' σ' h hK
    rcases RR.next_ok (r := run A Γ N fuel a env σ) (f := run A Γ N fuel b) h with ⟨env1, σ1, h1, h2⟩ | ⟨h1, h2⟩
    · exact ia _ _ _ _ _ _ h1 (ib K _ _ _ _ _ h2 hK)
    · refine ia _ _ _ _ _ _ h2 ?_
      cases e with
      | normal => exact absurd rfl h1
      | exit i => exact hK
      | ret => exact hK
  | cond c a b ia ib =>
    intro K env σ e env' σ' h hK
    have h : (match evS env c with | .bool t => bif t then run A Γ N fuel a env σ else run A Γ N fuel b env σ | _ => RR.bad) = .ok e env' σ' := h
    show (match evS env c with | .bool t => (t = true → avc A Γ G nt N a K env σ) ∧ (t = false → avc A Γ G nt N b K env σ) | _ => False)
    cases hc : evS env c <;> rw [hc] at h <;> try (cases h; done)
    rename_i t
    cases t
    · exact ⟨fun h => (by cases h), fun _ => ib K _ _ _ _ _ h hK⟩
    · exact ⟨fun _ => ia K _ _ _ _ _ h hK, fun h => (by cases h)⟩
  | block id c ih =>
    intro K env σ e env' σ' h hK
    have h : (run A Γ N fuel c env σ).block id = .ok e env' σ' := h
    show avc A Γ G nt N c (AK.block id K) env σ
    cases hr : run A Γ N fuel c env σ with
    | bad => rw [hr] at h; cases h
    | ok e1 env1 σ1 =>
      rw [hr] at h
      refine ih _ _ _ _ _ _ hr ?_
      cases e1 with
      | normal => cases h; exact hK
      | ret => cases h; exact hK
      | exit i =>
        have h : (bif Nat.beq i id then RR.ok .normal env1 σ1 else .ok (.exit i) env1 σ1) = .ok e env' σ' := h
        show (if i = id then K .normal env1 σ1 else K (.exit i) env1 σ1)
        by_cases hi : i = id
        · rw [if_pos hi]
          rw [hi, Nat.beq_refl] at h
          cases h; exact hK
        · rw [if_neg hi]
          rw [T.beq_f hi] at h
          cases h; exact hK
  | loop c ih =>
    intro K env σ e env' σ' h hK
    have h : runLoop N (run A Γ N fuel c) fuel env σ = .ok e env' σ' := h
    let p : T AV → AH → Nat → Prop := fun env σ k => runLoop N (run A Γ N fuel c) k env σ = .ok e env' σ'
    have hN : ∀ k env σ, p env σ k → N ≤ σ.next := by
      intro k env σ hp
      cases k with
      | zero => cases hp
      | succ k =>
        have hp : (bif Nat.ble N σ.next then (run A Γ N fuel c env σ).next (runLoop N (run A Γ N fuel c) k) else RR.bad) = .ok e env' σ' := hp
        cases hb : Nat.ble N σ.next with
        | false => rw [hb] at hp; cases hp
        | true => exact Nat.le_of_ble_eq_true hb
    refine avc_loop (fun env σ => ∃ k, p env σ k) (fun env σ => leastD (p env σ)) (Wk.refl (hN _ _ _ h)) ⟨fuel, h⟩ ?_
    rintro env σ ⟨k, hk⟩
    have hl := leastD_mem hk
    generalize hm : leastD (p env σ) = m at hl
    cases m with
    | zero => cases hl
    | succ m =>
      have hb := hN _ _ _ hl
      have hl : (bif Nat.ble N σ.next then (run A Γ N fuel c env σ).next (runLoop N (run A Γ N fuel c) m) else RR.bad) = .ok e env' σ' := hl
      rw [show Nat.ble N σ.next = true from Nat.ble_eq_true_of_le hb, cond_true] at hl
      rcases RR.next_ok hl with ⟨env1, σ1, h1, h2⟩ | ⟨h1, h2⟩
      · refine ih _ _ _ _ _ _ h1 ?_
        have h2 : p env1 σ1 m := h2
        exact ⟨env1, σ1, Wk.refl (hN _ _ _ h2), ⟨m, h2⟩, Nat.lt_of_le_of_lt (leastD_le h2) (Nat.lt_succ_self m)⟩
      · refine ih _ _ _ _ _ _ h2 ?_
        cases e with
        | normal => exact absurd rfl h1
        | exit i => exact hK
        | ret => exact hK
  | reg rows =>
    intro K env σ e env' σ' h hK
    have h : (match evP A Γ rows env σ with | (ok, env', σ') => bif ok then RR.ok .normal env' σ' else .bad) = .ok e env' σ' := h
    cases hr : evP A Γ rows env σ with
    | mk ok p =>
      obtain ⟨env1, σ1⟩ := p
      rw [hr] at h
      cases ok
      · cases h
      · cases h; exact avc_reg hr rfl hK
  | bad => intro K env σ e env' σ' h hK; cases h
  | rfun f ps a b _ _ =>
    intro K env σ e env' σ' h hK
    have h : (match evS env f with
      | .fn g first cap => match g with
        | .func n => match Γ n (first ++ (AV.top :: cap)) σ with
          | (ok, _, σ') => bif ok then RR.ok .normal env σ' else .bad
        | _ => .bad
      | _ => .bad) = .ok e env' σ' := h
    unfold avc
    cases hc : evS env f <;> rw [hc] at h <;> try (cases h; done)
    rename_i g first cap
    cases g <;> try (cases h; done)
    rename_i n
    dsimp only at h ⊢
    cases hx : Γ n (first ++ (AV.top :: cap)) σ with
    | mk ok p =>
      obtain ⟨v, σ1⟩ := p
      rw [hx] at h
      cases ok
      · cases h
      · cases h; exact ⟨rfl, hK⟩
  | regd st rcs ds =>
    intro K env σ e env' σ' h hK
    have h : (match evDr A Γ st rcs ds env σ with | (ok, env', σ') => bif ok then RR.ok .normal env' σ' else .bad) = .ok e env' σ' := h
    cases hr : evDr A Γ st rcs ds env σ with
    | mk ok p =>
      obtain ⟨env1, σ1⟩ := p
      rw [hr] at h
      cases ok
      · cases h
      · cases h; exact avc_regd hr rfl hK
/-- A function's code and results. -/
structure Ent where
  nt : Nat
  code : ACode
  res : List ARes
def isRet : AX → Bool
  | .exit _ => false
  | _ => true
def runF (A : Ar) (Γ : Gam) (fuel : Nat) (x : Ent) (args : List AV) (σ : AH) : Out :=
  match run A Γ σ.next fuel x.code (envOf args 0 .leaf) σ with
  | .bad => bad σ
  | .ok e env σ' => match resL A env σ' x.res with
    | (ok, vs) => (ok && isRet e && Nat.ble args.length x.nt, retV vs, σ')
def Gam.grow (A : Ar) (fuel : Nat) (tab : T Ent) (Γ0 : Gam) (n : Nat) : Gam :=
  Nat.rec (motive := fun _ => Gam) Γ0 (fun _ Γ f args σ => match tab.get f with
    | none => Γ0 f args σ
    | some x => runF A Γ fuel x args σ) n
def TabOk (P : Program) (G : Nat) (pu : FuncId → Bool) (tab : T Ent) : Prop := ∀ f x, tab.get f = some x → ∃ fn c, P.funcs[f]? = some fn ∧ fn.body = some c ∧ (fn.name == "runtime.NumGoroutine") = false ∧ fn.ntmps = x.nt ∧ compC P G fn.ntmps pu c = some x.code ∧ compR P fn.results.toList = some x.res ∧ Nat.ble fn.ntmps 1048576 = true
theorem grow_ok {P : Program} {G fuel : Nat} {pu : FuncId → Bool} {tab : T Ent} {Γ0 : Gam} (hm : P.follows .mixedOrders = true) (h0 : GamOk P G Γ0) (ht : TabOk P G pu tab) (hpu : PuOk Γ0 pu) (hpt : ∀ f, pu f = true → tab.get f = none) (n : Nat) :
    GamOk P G (Gam.grow std fuel tab Γ0 n) ∧ PuOk (Gam.grow std fuel tab Γ0 n) pu := by
  induction n with
  | zero => exact ⟨h0, hpu⟩
  | succ n ih =>
    refine ⟨?_, fun f hf args σ σ' => ?_⟩
    · intro f args σ hok
      have e : Gam.grow std fuel tab Γ0 (n + 1) f args σ = (match tab.get f with | none => Γ0 f args σ | some x => runF std (Gam.grow std fuel tab Γ0 n) fuel x args σ) := rfl
      rw [e] at hok ⊢
      cases hx : tab.get f with
      | none => rw [hx] at hok; exact h0 f args σ hok
      | some x =>
        rw [hx] at hok
        dsimp only at hok ⊢
        obtain ⟨fn, c, e1, e2, e3, e4, e5, e6, e7⟩ := ht f x hx
        refine ⟨⟨fn, e1, by rw [e2]; rfl, e3⟩, fun ρ W vs hG hr hvs => ?_⟩
        unfold runF at hok ⊢
        cases hrun : run std (Gam.grow std fuel tab Γ0 n) σ.next fuel x.code (envOf args 0 .leaf) σ with
        | bad => rw [hrun] at hok; cases hok
        | ok ex env σ' =>
          rw [hrun] at hok
          dsimp only at hok ⊢
          cases hres : resL std env σ' x.res with
          | mk ok vs' =>
            rw [hres] at hok
            dsimp only at hok ⊢
            simp only [Bool.and_eq_true] at hok
            obtain ⟨⟨k1, k2⟩, k3⟩ := hok
            refine (call_sound (K := fun av σ1 => av = retV vs' ∧ σ1 = σ') hm ih.1 ih.2 e1 e2 e5 e6 e7 (by rw [e4]; exact k3) (run_avc x.code _ _ _ _ _ _ hrun ⟨?_, by rw [hres]; exact k1, by rw [hres], rfl⟩) hG hr hvs).mono ?_
            · cases ex with
              | normal => trivial
              | ret => trivial
              | exit i => cases k2
            · rintro e' W' ⟨v, av, σ1, ρ', h1, ⟨rfl, rfl⟩, h3, h4, h5⟩
              exact ⟨v, ρ', h1, h3, h4, h5⟩
    · have e : ∀ σ, Gam.grow std fuel tab Γ0 (n + 1) f args σ = (match tab.get f with | none => Γ0 f args σ | some x => runF std (Gam.grow std fuel tab Γ0 n) fuel x args σ) := fun _ => rfl
      rw [e, e, hpt f hf]
      exact hpu f hf args σ σ'
end
end Go.Proofs.YtljmigbpmcacnaaDoor.V2
namespace Go.Proofs.YtljmigbpmcacnaaDoor
open Go
/-- A word, a byte, a long word, as the integer that the model holds: closed to the walk. -/
def N32 (x : UInt32) : Int := (x.toNat : Int)
def N8 (x : UInt8) : Int := (x.toNat : Int)
theorem N8_bd (x : UInt8) : 0 ≤ N8 x ∧ N8 x ≤ 255 := by have := x.toNat_lt; unfold N8; omega
theorem wrap_u32 (n : Nat) : IntKind.u32.wrap (n : Int) = ((n % 4294967296 : Nat) : Int) := by
  simp [IntKind.wrap, IntKind.bits, IntKind.signed]
theorem wrap_u8 (n : Nat) : IntKind.u8.wrap (n : Int) = ((n % 256 : Nat) : Int) := by
  simp [IntKind.wrap, IntKind.bits, IntKind.signed]
theorem wrap_u64 (n : Nat) : IntKind.u64.wrap (n : Int) = ((n % 18446744073709551616 : Nat) : Int) := by
  simp [IntKind.wrap, IntKind.bits, IntKind.signed]
theorem u32_add (x y : UInt32) : IntKind.u32.wrap (N32 x + N32 y) = N32 (x + y) := by
  unfold N32; rw [← Int.natCast_add, wrap_u32, UInt32.toNat_add]
theorem u32_id (x : UInt32) : IntKind.u32.wrap (N32 x) = N32 x := by
  unfold N32; rw [wrap_u32, Nat.mod_eq_of_lt x.toNat_lt]
theorem u8_id (x : UInt8) : IntKind.u8.wrap (N8 x) = N8 x := by
  unfold N8; rw [wrap_u8, Nat.mod_eq_of_lt x.toNat_lt]
theorem bv32 (x : UInt32) : BitVec.ofNat 32 x.toNat = x.toBitVec := by rw [← UInt32.toNat_toBitVec, BitVec.ofNat_toNat, BitVec.setWidth_eq]
theorem bv8 (x : UInt8) : BitVec.ofNat 8 x.toNat = x.toBitVec := by rw [← UInt8.toNat_toBitVec, BitVec.ofNat_toNat, BitVec.setWidth_eq]
theorem u32_bits_xor (x y : UInt32) : bits .xor .u32 (N32 x) (N32 y) = N32 (x ^^^ y) := by
  have e : bits .xor .u32 (N32 x) (N32 y) = IntKind.u32.wrap (N32 (x ^^^ y)) := by
    unfold bits N32
    simp only [IntKind.bits, BitVec.ofInt_natCast, bv32]
    rfl
  rw [e, u32_id]
theorem u32_bits_and (x y : UInt32) : bits .and .u32 (N32 x) (N32 y) = N32 (x &&& y) := by
  have e : bits .and .u32 (N32 x) (N32 y) = IntKind.u32.wrap (N32 (x &&& y)) := by
    unfold bits N32
    simp only [IntKind.bits, BitVec.ofInt_natCast, bv32]
    rfl
  rw [e, u32_id]
theorem u32_bits_or (x y : UInt32) : bits .or .u32 (N32 x) (N32 y) = N32 (x ||| y) := by
  have e : bits .or .u32 (N32 x) (N32 y) = IntKind.u32.wrap (N32 (x ||| y)) := by
    unfold bits N32
    simp only [IntKind.bits, BitVec.ofInt_natCast, bv32]
    rfl
  rw [e, u32_id]
theorem u32_bits_not (x : UInt32) : bits .xor .u32 4294967295 (N32 x) = N32 (~~~ x) := by
  have h : (4294967295 : Int) = N32 (4294967295 : UInt32) := rfl
  rw [h, u32_bits_xor]
  have : (4294967295 : UInt32) ^^^ x = ~~~ x := by
    apply UInt32.toBitVec_inj.1
    simp [← BitVec.allOnes_xor]
  rw [this]
theorem u32_bits_not2 (x : UInt32) : bits .xor .u32 IntKind.u32.max (N32 x) = N32 (~~~ x) := u32_bits_not x
theorem u8_bits_xor (x y : UInt8) : bits .xor .u8 (N8 x) (N8 y) = N8 (x ^^^ y) := by
  have e : bits .xor .u8 (N8 x) (N8 y) = IntKind.u8.wrap (N8 (x ^^^ y)) := by
    unfold bits N8
    simp only [IntKind.bits, BitVec.ofInt_natCast, bv8]
    rfl
  rw [e, u8_id]
/-- A word turned right. -/
def ror (n : UInt32) (x : Nat) : UInt32 := UInt32.ofNat (n.toNat * 2 ^ (32 - x)) ||| UInt32.ofNat (n.toNat / 2 ^ x)
/-- A word shifted right. -/
def sror (n : UInt32) (x : Nat) : UInt32 := UInt32.ofNat (n.toNat / 2 ^ x)
theorem sror_eq (n : UInt32) (x : Nat) : N32 n / 2 ^ x = N32 (sror n x) := by
  unfold sror N32
  rw [UInt32.toNat_ofNat']
  have : n.toNat / 2 ^ x < 4294967296 := Nat.lt_of_le_of_lt (Nat.div_le_self _ _) n.toNat_lt
  rw [show (2:Nat) ^ 32 = 4294967296 from rfl, Nat.mod_eq_of_lt this]; simp
theorem ror_eq (n : UInt32) (x : Nat) : bits .or .u32 (N32 n * 2 ^ (32 - x) % 4294967296) (N32 n / 2 ^ x) = N32 (ror n x) := by
  have h1 : N32 n * 2 ^ (32 - x) % 4294967296 = N32 (UInt32.ofNat (n.toNat * 2 ^ (32 - x))) := by
    unfold N32
    rw [UInt32.toNat_ofNat']
    have : ((n.toNat : Int) * 2 ^ (32 - x)) = ((n.toNat * 2 ^ (32 - x) : Nat) : Int) := by simp
    rw [this]; omega
  rw [h1, sror_eq, u32_bits_or]; rfl
theorem ret_int {k : IntKind} {a b : Int} (h : a = b) : Ending.returned (.int k a) = .returned (.int k b) := by rw [h]
/-- What 'turn' gives. -/
def turnW (n : UInt32) (x y z : Nat) : UInt32 := ror n x ^^^ ror n y ^^^ ror n z
/-- What 'slide' gives. -/
def slideW (n : UInt32) (x y z : Nat) : UInt32 := ror n x ^^^ ror n y ^^^ sror n z
end Go.Proofs.YtljmigbpmcacnaaDoor
namespace Go.Proofs.YtljmigbpmcacnaaDoor
open Go.RowKit
theorem and31 (x : Nat) (h0 : 0 < x) (h1 : x < 32) : bits .and .u64 (IntKind.u64.wrap (-(x : Int))) 31 = (32 : Int) - (x : Int) := by
  have : ∀ y : Fin 32, 0 < y.val → bits .and .u64 (IntKind.u64.wrap (-(y.val : Int))) 31 = (32 : Int) - (y.val : Int) := by decide +kernel
  exact this ⟨x, h1⟩ h0
theorem sub32 (x : Nat) (h1 : x < 32) : IntKind.u64.wrap ((32 : Int) - ((32 : Int) - (x : Int))) = (x : Int) := by
  have : (32 : Int) - ((32 : Int) - (x : Int)) = (x : Int) := by omega
  rw [this, wrap_u64]; omega
set_option maxHeartbeats 400000 in
theorem rot_any (n : UInt32) (x : Nat) (w : World) (h0 : 0 < x) (h1 : x < 32) :
    Calls Tryd.prog 102 #[.int .u32 (N32 n), .int .i64 (-(x : Int))] w fun e w' => e = .returned (.int .u32 (N32 (ror n x))) ∧ w = w' := by
  have h31 := and31 x h0 h1
  have h32 := sub32 x h1
  have HR := Lib.hid (ror_eq n x)
  go_enter Tryd.func102, Tryd.ntmps102
  go_wp2
  go_ret
  exact ⟨ret_int HR.out, rfl⟩
theorem q_two {P : Program} {f : FuncId} {args : Array Value} {w : World} {k n : Nat} {v : Value}
    (h : Calls P f args (w.drewN (k + n)) fun e w' => e = .returned v ∧ w.drewN (k + n) = w') : Calls P f args (w.drewN (k + n)) fun e w'' => e = .returned v ∧ ∃ m, w'' = w.drewN (k + m) :=
  h.mono fun _ _ x => ⟨x.1, n, x.2.symm⟩
attribute [local go_sem] u32_bits_xor u32_bits_and u32_bits_or
set_option maxHeartbeats 400000 in
theorem turn_any (n : UInt32) (x y z : Nat) (w : World) (h0 : 0 < x) (h1 : x < 32) (h2 : 0 < y) (h3 : y < 32) (h4 : 0 < z) (h5 : z < 32) :
    Calls Tryd.prog 99 #[.int .u32 (N32 n), .int .i64 x, .int .i64 y, .int .i64 z] w fun e w' => e = .returned (.int .u32 (N32 (turnW n x y z))) ∧ w = w' := by
  go_enter Tryd.func99, Tryd.ntmps99
  go_wp2_with (go_at_call 102; refine (rot_any _ _ _ (by omega) (by omega)).mono ?_; rintro e w' ⟨rfl, rfl⟩)
  go_ret
  exact ⟨rfl, rfl⟩
set_option maxHeartbeats 400000 in
theorem slide_any (n : UInt32) (x y z : Nat) (w : World) (h0 : 0 < x) (h1 : x < 32) (h2 : 0 < y) (h3 : y < 32) (h4 : 0 < z) (h5 : z < 32) :
    Calls Tryd.prog 101 #[.int .u32 (N32 n), .int .i64 x, .int .i64 y, .int .i64 z] w fun e w' => e = .returned (.int .u32 (N32 (slideW n x y z))) ∧ ∃ k, w' = w.drewN k := by
  have hs := sror_eq n z
  have hm : min z 32 = z := by omega
  go_enter Tryd.func101, Tryd.ntmps101
  go_wp2
  go_quiet ((go_at_call 102; exact Calls.quiet_of_same ((rot_any _ _ _ (by omega) (by omega)).mono fun _ _ h => ⟨h.1, h.2.symm⟩)))
  go_wp2
  go_ret
  exact ⟨rfl, _, rfl⟩
end Go.Proofs.YtljmigbpmcacnaaDoor
namespace Go.Proofs.YtljmigbpmcacnaaDoor
open Go
/-- A byte, a word of a list, closed to the walk. -/
def at8 (l : List UInt8) (i : Nat) : UInt8 := l.getD i 0
def at32 (l : List UInt32) (i : Nat) : UInt32 := l.getD i 0
theorem at32_set_self {l : List UInt32} {i : Nat} {x : UInt32} (h : i < l.length) : at32 (l.set i x) i = x := by
  unfold at32; rw [List.getD_eq_getElem?_getD, List.getElem?_set_self h]; rfl
theorem at32_set_ne {l : List UInt32} {i j : Nat} {x : UInt32} (h : i ≠ j) : at32 (l.set i x) j = at32 l j := by
  unfold at32; rw [List.getD_eq_getElem?_getD, List.getElem?_set_ne h, List.getD_eq_getElem?_getD]
/-- A row of words, as cells. -/
def cwl (l : List UInt32) : List Value := l.map fun x => Value.int .u32 (N32 x)
def cw (l : List UInt32) : Array Value := (cwl l).toArray
theorem cw_size (l : List UInt32) : (cw l).size = l.length := by simp [cw, cwl]
theorem cw_at (l : List UInt32) (i : Nat) (h : i < l.length) : (cw l)[i]? = some (.int .u32 (N32 (at32 l i))) := by
  simp [cw, cwl, h, at32]
theorem cw_set (l : List UInt32) (i : Nat) (x : UInt32) : (cw l).setIfInBounds i (.int .u32 (N32 x)) = cw (l.set i x) := by
  apply Array.ext'
  simp [cw, cwl, List.map_set]
theorem cw_one (l : List UInt32) : (cw l).all (·.oneCell') = true := by
  rw [Array.all_eq_true_iff_forall_mem]
  intro v hv
  simp only [cw, cwl, List.mem_toArray, List.mem_map] at hv
  obtain ⟨x, _, rfl⟩ := hv
  rfl
/-- A byte put behind a word. -/
def putB (x : UInt32) (c : UInt8) : UInt32 := UInt32.ofNat (x.toNat * 256) ||| UInt32.ofNat c.toNat
theorem putB_eq (x : UInt32) (c : UInt8) : bits .or .u32 (N32 x * 256 % 4294967296) (N8 c) = N32 (putB x c) := by
  have h1 : N32 x * 256 % 4294967296 = N32 (UInt32.ofNat (x.toNat * 256)) := by
    unfold N32; rw [UInt32.toNat_ofNat']; omega
  have h2 : N8 c = N32 (UInt32.ofNat c.toNat) := by
    unfold N32 N8; rw [UInt32.toNat_ofNat']
    have := c.toNat_lt
    rw [Nat.mod_eq_of_lt (by omega)]
  rw [h1, h2, u32_bits_or]; rfl
/-- Word t's first j bytes. -/
def wordTo (bs : List UInt8) (t : Nat) : Nat → UInt32
  | 0 => 0
  | j + 1 => putB (wordTo bs t j) (at8 bs (4 * t + j))
def nextW (l : List UInt32) (t : Nat) : UInt32 :=
  at32 l (t - 16) + at32 l (t - 7) + slideW (at32 l (t - 15)) 7 18 3 + slideW (at32 l (t - 2)) 17 19 10
/-- The schedule's array behind t rounds. -/
def schedTo (bs : List UInt8) : Nat → List UInt32
  | 0 => List.replicate 64 0
  | t + 1 => (schedTo bs t).set t (if t < 16 then wordTo bs t 4 else nextW (schedTo bs t) t)
theorem schedTo_length (bs : List UInt8) (t : Nat) : (schedTo bs t).length = 64 := by
  induction t with
  | zero => simp [schedTo]
  | succ t ih => simp [schedTo, ih]
theorem schedTo_zero_at (bs : List UInt8) (t i : Nat) (h : t ≤ i) : at32 (schedTo bs t) i = 0 := by
  induction t with
  | zero =>
    simp only [schedTo, at32]
    rw [List.getD_eq_getElem?_getD, List.getElem?_replicate]; split <;> rfl
  | succ t ih =>
    have := ih (by omega)
    simp only [schedTo]
    rw [at32_set_ne (by omega)]; exact this
/-- The constants of the rounds; the state ahead of any block. -/
def KK : List UInt32 := [1116352408, 1899447441, 3049323471, 3921009573, 961987163, 1508970993, 2453635748, 2870763221, 3624381080, 310598401, 607225278, 1426881987, 1925078388, 2162078206, 2614888103, 3248222580, 3835390401, 4022224774, 264347078, 604807628, 770255983, 1249150122, 1555081692, 1996064986, 2554220882, 2821834349, 2952996808, 3210313671, 3336571891, 3584528711, 113926993, 338241895, 666307205, 773529912, 1294757372, 1396182291, 1695183700, 1986661051, 2177026350, 2456956037, 2730485921, 2820302411, 3259730800, 3345764771, 3516065817, 3600352804, 4094571909, 275423344, 430227734, 506948616, 659060556, 883997877, 958139571, 1322822218, 1537002063, 1747873779, 1955562222, 2024104815, 2227730452, 2361852424, 2428436474, 2756734187, 3204031479, 3329325298]
def S0 : List UInt32 := [1779033703, 3144134277, 1013904242, 2773480762, 1359893119, 2600822924, 528734635, 1541459225]
/-- One round. -/
def oneW (x : List UInt32) (k v : UInt32) : UInt32 := at32 x 7 + turnW (at32 x 4) 6 11 25 + (at32 x 4 &&& at32 x 5 ^^^ ~~~ at32 x 4 &&& at32 x 6) + k + v
def twoW (x : List UInt32) : UInt32 := turnW (at32 x 0) 2 13 22 + (at32 x 0 &&& at32 x 1 ^^^ at32 x 0 &&& at32 x 2 ^^^ at32 x 1 &&& at32 x 2)
def rndW (x : List UInt32) (k v : UInt32) : List UInt32 :=
  [oneW x k v + twoW x, at32 x 0, at32 x 1, at32 x 2, at32 x 3 + oneW x k v, at32 x 4, at32 x 5, at32 x 6]
def rndTo (s W : List UInt32) : Nat → List UInt32
  | 0 => s
  | t + 1 => rndW (rndTo s W t) (at32 KK t) (at32 W t)
def sumTo (s x : List UInt32) : Nat → List UInt32
  | 0 => s
  | k + 1 => (sumTo s x k).set k (at32 (sumTo s x k) k + at32 x k)
/-- A block taken in. -/
def compW (s : List UInt32) (bs : List UInt8) : List UInt32 := sumTo s (rndTo s (schedTo bs 64) 64) 8
theorem rndTo_length (s W : List UInt32) (t : Nat) (h : s.length = 8) : (rndTo s W t).length = 8 := by
  cases t with
  | zero => exact h
  | succ t => rfl
theorem sumTo_length (s x : List UInt32) (k : Nat) : (sumTo s x k).length = s.length := by
  induction k with
  | zero => rfl
  | succ k ih => simp [sumTo, ih]
theorem compW_length (s : List UInt32) (bs : List UInt8) : (compW s bs).length = s.length := sumTo_length _ _ _
/-- w' is w but for block b and new blocks. -/
structure But (b : Nat) (w w' : World) : Prop where
  os : w'.os = w.os
  tape : w'.tape = w.tape
  output : w'.output = w.output
  size : w.heap.size ≤ w'.heap.size
  block : ∀ k, k < w.heap.size → k ≠ b → w'.heap[k]? = w.heap[k]?
theorem But.of_below {b : Nat} {w w' : World} (h : RowKit.Below w.heap.size w w') : But b w w' := ⟨h.os, h.tape, h.output, h.size, fun k hk _ => h.block k hk⟩
theorem But.setCell {b i : Nat} {w w' : World} (h : But b w w') (v : Value) : But b w (w'.setCell ⟨b, i, none⟩ v) :=
  ⟨h.os, h.tape, h.output, by simpa [World.setCell] using h.size, fun k hk hb => (heap_setCell_other _ _ _ _ (by simpa using hb)).trans (h.block k hk hb)⟩
theorem But.drewN {b n : Nat} {w w' : World} (h : But b w w') : But b w (w'.drewN n) := ⟨h.os, h.tape, h.output, h.size, h.block⟩
/-! A block of words in the world. -/
theorem row_new (w : World) (C : Array Value) (T : Nat) : (w.alloc (.cells C T)).heap[w.heap.size]? = some (.cells C T (0, 0)) := by
  unfold World.alloc; simp
theorem set_self {l : List UInt32} {t : Nat} (h : t < l.length) : l.set t (at32 l t) = l := by
  unfold at32; rw [List.getD_eq_getElem?_getD, List.getElem?_eq_getElem h]; simp
theorem sch_start (bs : List UInt8) (t : Nat) (h : t < 64) : (schedTo bs t).set t (wordTo bs t 0) = schedTo bs t := by
  have := schedTo_zero_at bs t t (Nat.le_refl _)
  show (schedTo bs t).set t 0 = _
  rw [← this]; exact set_self (by rw [schedTo_length]; exact h)
theorem row_cell {w : World} {B T : Nat} {l : List UInt32} (h : w.heap[B]? = some (.cells (cw l) T (0, 0))) (i : Nat) (hi : i < l.length) :
    w.cell? ⟨B, i, none⟩ = some (.int .u32 (N32 (at32 l i))) := by
  unfold World.cell?; rw [h]; simp only [Option.isSome_none, Bool.false_eq_true, if_false]; exact cw_at l i hi
theorem off_ne {B i j : Nat} (h : i ≠ j) (W : World) (v : Value) : (W.setCell ⟨B, i, none⟩ v).cell? ⟨B, j, none⟩ = W.cell? ⟨B, j, none⟩ := by
  unfold World.cell? World.setCell
  simp only [Array.getElem?_modify, if_true]
  cases h2 : W.heap[B]? with
  | none => rfl
  | some o => cases o <;> simp [h]
theorem below_setRow {B : Nat} {a w : World} (h : RowKit.Below B a w) {g : Nat} (hg : B ≤ g) (cs : Array Value) : RowKit.Below B a (w.setRow g cs) :=
  h.trans ⟨rfl, rfl, rfl, by simp, fun k hk => setRow_other _ _ _ _ (by omega)⟩
theorem row_free {w : World} {B T : Nat} {C : Array Value} (h : w.heap[B]? = some (.cells C T (0, 0))) (i : Nat) : w.frozen? ⟨B, i, none⟩ = false := by
  unfold World.frozen?; rw [h]; simp
theorem row_set {w : World} {B T : Nat} {l : List UInt32} (h : w.heap[B]? = some (.cells (cw l) T (0, 0))) (i : Nat) (x : UInt32) :
    (w.setCell ⟨B, i, none⟩ (.int .u32 (N32 x))).heap[B]? = some (.cells (cw (l.set i x)) T (0, 0)) := by
  unfold World.setCell; simp only [Array.getElem?_modify, h, if_true, Option.map_some, Option.isSome_none, Bool.false_eq_true, if_false, cw_set]
end Go.Proofs.YtljmigbpmcacnaaDoor
namespace Go.Proofs.YtljmigbpmcacnaaDoor
open Go.RowKit
attribute [local go_sem] u32_bits_xor u32_bits_and u32_bits_or u32_add putB_eq
theorem info119 : (Tryd.prog.info? 171).map (·.size) = some 64 := by kernel_rfl
def SchR (bs : List UInt8) (w : World) (i : Value) (wr : World) : Prop :=
  ∃ t : Nat, t ≤ 64 ∧ i = .int .i64 t ∧ wr.heap[w.heap.size]? = some (.cells (cw (schedTo bs t)) 171 (0, 0)) ∧ Below w.heap.size w wr
def SchI (bs : List UInt8) (w : World) (t : Nat) (i : Value) (wr : World) : Prop :=
  ∃ j : Nat, j ≤ 4 ∧ i = .int .i64 j ∧ wr.heap[w.heap.size]? = some (.cells (cw ((schedTo bs t).set t (wordTo bs t j))) 171 (0, 0)) ∧ Below w.heap.size w wr
set_option maxHeartbeats 1000000 in
theorem schedule_any (bb off cap : Nat) (bs : List UInt8) (w : World) (hb : bb < w.heap.size)
    (hc : ∀ i, i < 64 → w.cell? ⟨bb, off + i, none⟩ = some (.int .u8 (N8 (at8 bs i)))) (hcap : 64 ≤ cap) :
    Calls Tryd.prog 98 #[.slice (some ⟨bb, off, none⟩) 64 cap] w fun e w' => e = .returned (.agg (cw (schedTo bs 64))) ∧ Below w.heap.size w w' := by
  have HC := Lib.hid hc
  clear hc
  go_enter Tryd.func98, Tryd.ntmps98
  go_wp2
  go_loopw [6] (SchR bs w) (fun i _ => 64 - (intOf i).toNat)
  case atStart => exact ⟨0, by omega, rfl, row_new _ _ _, (Below.refl _ _).alloc (Nat.le_refl _) _⟩
  case round =>
    obtain ⟨t, ht, rfl, hB, hbel⟩ := hrel
    have HB := Lib.hid hB
    clear hB
    by_cases h64 : t < 64
    · have d64 : decide ((t : Int) < 64) = true := by simp; omega
      by_cases h16 : t < 16
      · have d16 : decide ((t : Int) < 16) = true := by simp; omega
        go_wp2
        obtain ⟨wo, rfl⟩ : ∃ wo : World, wo = wr := ⟨_, rfl⟩
        go_loopw [19] (SchI bs w t) (fun i _ => 4 - (intOf i).toNat)
        case atStart => exact ⟨0, by omega, rfl, by rw [sch_start bs t h64]; exact HB.out, hbel⟩
        case round =>
          obtain ⟨j, hj, rfl, hB2, hbel2⟩ := hrel
          have HB2 := Lib.hid hB2
          clear hB2
          by_cases h4 : j < 4
          · have d4 : decide ((j : Int) < 4) = true := by simp; omega
            have c1 : wr.cell? ⟨bb, off + 4 * t + j, none⟩ = some (.int .u8 (N8 (at8 bs (4 * t + j)))) := by
              rw [hbel2.cell (p := ⟨bb, off + 4 * t + j, none⟩) hb, Nat.add_assoc]; exact HC.out _ (by omega)
            have c2 : wr.cell? ⟨w.heap.size, t, none⟩ = some (.int .u32 (N32 (wordTo bs t j))) := by
              rw [row_cell HB2.out t (by simp [schedTo_length]; omega), at32_set_self (by rw [schedTo_length]; omega)]
            have c3 : wr.frozen? ⟨w.heap.size, t, none⟩ = false := row_free HB2.out t
            have n1 := N8_bd (at8 bs (4 * t + j))
            have HS := Lib.hid (row_set HB2.out t (wordTo bs t (j + 1)))
            go_wp2
            go_roundw
            case rel => exact ⟨j + 1, by omega, by go_num, by rw [wordTo]; rw [wordTo, List.set_set] at HS; exact HS.out, hbel2.setCell (Nat.le_refl _) _⟩
            case measure => simp [intOf]; omega
          · have d4 : decide ((j : Int) < 4) = false := by simp; omega
            obtain rfl : j = 4 := by omega
            go_wp2
            go_roundw
            case rel => exact ⟨t + 1, by omega, by go_num, by rw [schedTo, if_pos h16]; exact HB2.out, hbel2⟩
            case measure => simp [intOf]; omega
      · have d16 : decide ((t : Int) < 16) = false := by simp; omega
        have c16 : wr.cell? ⟨w.heap.size, t - 16, none⟩ = some (.int .u32 (N32 (at32 (schedTo bs t) (t - 16)))) := row_cell HB.out _ (by rw [schedTo_length]; omega)
        have c15 : wr.cell? ⟨w.heap.size, t - 15, none⟩ = some (.int .u32 (N32 (at32 (schedTo bs t) (t - 15)))) := row_cell HB.out _ (by rw [schedTo_length]; omega)
        have c7 : wr.cell? ⟨w.heap.size, t - 7, none⟩ = some (.int .u32 (N32 (at32 (schedTo bs t) (t - 7)))) := row_cell HB.out _ (by rw [schedTo_length]; omega)
        have c2 : wr.cell? ⟨w.heap.size, t - 2, none⟩ = some (.int .u32 (N32 (at32 (schedTo bs t) (t - 2)))) := row_cell HB.out _ (by rw [schedTo_length]; omega)
        have c0 : wr.cell? ⟨w.heap.size, t, none⟩ = some (.int .u32 (N32 (at32 (schedTo bs t) t))) := row_cell HB.out _ (by rw [schedTo_length]; omega)
        have cf : wr.frozen? ⟨w.heap.size, t, none⟩ = false := row_free HB.out t
        have e16 : IntKind.i64.wrap ((t : Int) - 16) = (t : Int) - 16 := IntWalk.i64_in _ (by omega)
        have e15 : IntKind.i64.wrap ((t : Int) - 15) = (t : Int) - 15 := IntWalk.i64_in _ (by omega)
        have e7 : IntKind.i64.wrap ((t : Int) - 7) = (t : Int) - 7 := IntWalk.i64_in _ (by omega)
        have e2 : IntKind.i64.wrap ((t : Int) - 2) = (t : Int) - 2 := IntWalk.i64_in _ (by omega)
        have a16 : (0 : Int) ≤ (t : Int) - 16 := by omega
        have a15 : (0 : Int) ≤ (t : Int) - 15 := by omega
        have a7 : (0 : Int) ≤ (t : Int) - 7 := by omega
        have a2 : (0 : Int) ≤ (t : Int) - 2 := by omega
        have z16 : (16 : Int) ≤ (t : Int) := by omega
        have z15 : (15 : Int) ≤ (t : Int) := by omega
        have z7 : (7 : Int) ≤ (t : Int) := by omega
        have z2 : (2 : Int) ≤ (t : Int) := by omega
        have z0 : (0 : Int) ≤ (t : Int) := by omega
        have b0 : (t : Int) < 64 := by omega
        have k16 := off_ne (B := w.heap.size) (i := t) (j := t - 16) (by omega)
        have k15 := off_ne (B := w.heap.size) (i := t) (j := t - 15) (by omega)
        have k7 := off_ne (B := w.heap.size) (i := t) (j := t - 7) (by omega)
        have k2 := off_ne (B := w.heap.size) (i := t) (j := t - 2) (by omega)
        have HS := Lib.hid (row_set HB.out t (nextW (schedTo bs t) t))
        have b16 : (t : Int) - 16 < 64 := by omega
        have b15 : (t : Int) - 15 < 64 := by omega
        have b7 : (t : Int) - 7 < 64 := by omega
        have b2 : (t : Int) - 2 < 64 := by omega
        have t16 : ((t : Int) - 16).toNat = t - 16 := by omega
        have t15 : ((t : Int) - 15).toNat = t - 15 := by omega
        have t7 : ((t : Int) - 7).toNat = t - 7 := by omega
        have t2 : ((t : Int) - 2).toNat = t - 2 := by omega
        go_wp2
        go_region_held3 (fun w' => w'.cell? ⟨w.heap.size, t - 16, none⟩ = some (.int .u32 (N32 (at32 (schedTo bs t) (t - 16)))) ∧ w'.cell? ⟨w.heap.size, t - 15, none⟩ = some (.int .u32 (N32 (at32 (schedTo bs t) (t - 15)))) ∧ w'.cell? ⟨w.heap.size, t - 7, none⟩ = some (.int .u32 (N32 (at32 (schedTo bs t) (t - 7)))) ∧ w'.cell? ⟨w.heap.size, t - 2, none⟩ = some (.int .u32 (N32 (at32 (schedTo bs t) (t - 2))))) (go_keep)
          (first | (go_at_call 101; refine (slide_any _ _ _ _ _ (by decide) (by decide) (by decide) (by decide) (by decide) (by decide)).mono ?_; rintro e w' ⟨rfl, k, rfl⟩))
        go_wp2
        go_roundw
        case rel => exact ⟨t + 1, by omega, by go_num, by rw [schedTo, if_neg h16]; exact HS.out, (below_drewN hbel _).setCell (Nat.le_refl _) _⟩
        case measure => simp [intOf]; omega
    · have d64 : decide ((t : Int) < 64) = false := by simp; omega
      obtain rfl : t = 64 := by omega
      have i119 : (Tryd.prog.info? 171).map (·.size) = some (cw (schedTo bs 64)).size := by rw [cw_size, schedTo_length]; exact info119
      have HI := Lib.hid i119
      clear i119
      go_wp2_with (first | (refine wpList_load_row rfl 171 (.tmp 2) rfl w.heap.size rfl 171 _ (0, 0) _ HB.out Tryd.underlying171 rfl HI.out ?_) | (refine wpList_store_row rfl 171 (.tmp 2) (.tmp 57) rfl w.heap.size (cw (schedTo bs 64)) rfl rfl 171 _ HB.out HI.out rfl (cw_one _) ?_))
      exact bodyPost_ret (v := .agg (cw (schedTo bs 64))) (results_cell_row (p := 2) (ty := 171) rfl _ _ w.heap.size 171 _ (0, 0) _ rfl (setRow_heap _ _ _ _ _ _ HB.out) Tryd.underlying171 rfl HI.out) rfl ⟨rfl, below_setRow hbel (Nat.le_refl _) _⟩
end Go.Proofs.YtljmigbpmcacnaaDoor
namespace Go.Proofs.YtljmigbpmcacnaaDoor
open Go.RowKit
attribute [local go_sem] u32_bits_xor u32_bits_and u32_bits_or u32_add u32_bits_not2
theorem info88 : (Tryd.prog.info? 161).map (·.size) = some 8 := by kernel_rfl
theorem info62 : (Tryd.prog.info? 32).map (·.size) = some 1 := by kernel_rfl
/-- The rounds' constants, as they lie. -/
def GlobK (w : World) : Prop := ∀ i, i < 64 → w.cell? ⟨3, i, none⟩ = some (.int .u32 (N32 (at32 KK i)))
theorem index_cw (l : List UInt32) (t : Nat) (hl : l.length = 64) (ht : t < 64) (w : World) :
    (Instr.index 171 (.agg (cw l)) (.int .i64 (t : Int))).run Tryd.prog w = .ok (.int .u32 (N32 (at32 l t))) w := by
  have h1 : (0 : Int) ≤ (t : Int) ∧ (t : Int) < 64 := by omega
  have hi := info62
  cases hq : Tryd.prog.info? 32 with
  | none => simp [hq] at hi
  | some i =>
    simp [hq] at hi
    have hc := cw_at l t (by omega)
    simp [ht, hc, Instr.index, asIntOf, underlying, Tryd.underlying171, part, sizeOf, typeInfo, hq, hi, h1, go_sem]
theorem sum5 (a b c d e : UInt32) : (N32 a + N32 b + N32 c + N32 d + N32 e) % 4294967296 = N32 (a + b + c + d + e) := by
  unfold N32; simp only [UInt32.toNat_add]; omega
theorem sum14 (x a b c d : UInt32) : (N32 x + (N32 a + N32 b + N32 c + N32 d)) % 4294967296 = N32 (x + (a + b + c + d)) := by
  unfold N32; simp only [UInt32.toNat_add]; omega
theorem cp_len {xs : List UInt32} (hl : xs.length = 8) : (cwl (xs.take 7)).length = 7 := by simp [cwl, hl]
theorem cp_pos {w' : World} {X : Nat} {xs : List UInt32} (hX : w'.heap[X]? = some (.cells (cw xs) 161 (0, 0))) (hl : xs.length = 8) :
    0 < (cwl (xs.take 7)).length → (some ⟨X, 1, none⟩ : Option Addr) = some ⟨X, 1, none⟩ ∧ ∃ ad, (some ⟨X, 0, none⟩ : Option Addr) = some ad ∧ ∀ j v, (cwl (xs.take 7))[j]? = some v → w'.cell? (ad.add j) = some v := by
  refine fun _ => ⟨rfl, _, rfl, fun j v hv => ?_⟩
  have hj : j < 7 := by
    have := (List.getElem?_eq_some_iff.1 hv).1
    rw [cp_len hl] at this; exact this
  rw [Addr.add_mid, Nat.zero_add, row_cell hX j (by omega), ← hv]
  simp [cwl, at32, hj, show j < xs.length by omega]
theorem cp_splice {xs : List UInt32} (hl : xs.length = 8) :
    splice (cwl xs) 1 (cwl (xs.take 7)) = cwl [at32 xs 0, at32 xs 0, at32 xs 1, at32 xs 2, at32 xs 3, at32 xs 4, at32 xs 5, at32 xs 6] := by
  match xs, hl with
  | [a, b, c, d, e, f, g, h], _ => rfl
def TakR (s : List UInt32) (bs : List UInt8) (w : World) (i : Value) (wr : World) : Prop :=
  ∃ t : Nat, t ≤ 64 ∧ i = .int .i64 t ∧ wr.heap[w.heap.size]? = some (.cells (cw (rndTo s (schedTo bs 64) t)) 161 (0, 0)) ∧ Below w.heap.size w wr
def TakS (s x : List UInt32) (sb : Nat) (w : World) (i : Value) (wr : World) : Prop :=
  ∃ k : Nat, k ≤ 8 ∧ i = .int .i64 k ∧ wr.heap[w.heap.size]? = some (.cells (cw x) 161 (0, 0)) ∧ wr.heap[sb]? = some (.cells (cw (sumTo s x k)) 161 (0, 0)) ∧ But sb w wr
set_option maxHeartbeats 1000000 in
set_option maxRecDepth 100000 in
theorem take_any (sb bb off cap : Nat) (s : List UInt32) (bs : List UInt8) (w : World) (hb : bb < w.heap.size) (hsb : sb < w.heap.size) (h8 : s.length = 8)
    (hs : w.heap[sb]? = some (.cells (cw s) 161 (0, 0)))
    (hc : ∀ i, i < 64 → w.cell? ⟨bb, off + i, none⟩ = some (.int .u8 (N8 (at8 bs i)))) (hcap : 64 ≤ cap) (hK : GlobK w) (h3 : 3 < w.heap.size) :
    Calls Tryd.prog 90 #[.pointer (some ⟨sb, 0, none⟩), .slice (some ⟨bb, off, none⟩) 64 cap] w fun e w' => e = .returned (.tuple #[]) ∧ w'.heap[sb]? = some (.cells (cw (compW s bs)) 161 (0, 0)) ∧ But sb w w' := by
  have HC := Lib.hid hc
  clear hc
  have HSB := Lib.hid hs
  clear hs
  have HI : Hid ((Tryd.prog.info? 161).map (·.size) = some (cw s).size) := by rw [cw_size, h8]; exact info88
  have HN := Lib.hid (row_new w #[.int .u32 0, .int .u32 0, .int .u32 0, .int .u32 0, .int .u32 0, .int .u32 0, .int .u32 0, .int .u32 0] 161)
  have HZ : Hid ((#[.int .u32 0, .int .u32 0, .int .u32 0, .int .u32 0, .int .u32 0, .int .u32 0, .int .u32 0, .int .u32 0] : Array Value).size = (cw s).size) := by rw [cw_size, h8]; rfl
  have H8 := Lib.hid h8
  clear h8
  obtain ⟨w1, hw1⟩ : ∃ w1, w1 = (w.alloc (.cells #[.int .u32 0, .int .u32 0, .int .u32 0, .int .u32 0, .int .u32 0, .int .u32 0, .int .u32 0, .int .u32 0] 161)).setRow w.heap.size (cw s) := ⟨_, rfl⟩
  have hb1 : Below w.heap.size w w1 := by rw [hw1]; exact below_setRow ((Below.refl _ _).alloc (Nat.le_refl _) _) (Nat.le_refl _) _
  have hx1 : w1.heap[w.heap.size]? = some (.cells (cw s) 161 (0, 0)) := by rw [hw1]; exact setRow_heap _ _ _ _ _ _ HN.out
  have hz1 : w1.heap.size = w.heap.size + 1 := by rw [hw1]; simp
  have HW1 := Lib.hid hw1
  clear hw1
  have HX1 := Lib.hid hx1
  clear hx1
  have HZ1 := Lib.hid hz1
  clear hz1
  go_enter Tryd.func90, Tryd.ntmps90
  go_wp2_with (first | (refine wpList_load_row rfl 161 (.tmp 13) rfl sb rfl 161 _ (0, 0) _ HSB.out Tryd.underlying161 rfl HI.out ?_) | (refine wpList_store_row rfl 161 (.tmp 4) (.tmp 14) rfl w.heap.size (cw s) rfl rfl 161 _ HN.out HI.out HZ.out (cw_one _) ?_))
  rw [← HW1.out]
  refine (schedule_any bb off cap bs w1 (by have := HZ1.out; omega) (fun i hi => by rw [hb1.cell (p := ⟨bb, off + i, none⟩) hb]; exact HC.out i hi) hcap).mono ?_
  rintro e w2 ⟨rfl, hb2⟩
  have hb3 : Below w.heap.size w w2 := hb1.trans (hb2.mono (by have := HZ1.out; omega))
  have HX2 : Hid (w2.heap[w.heap.size]? = some (.cells (cw s) 161 (0, 0))) := by rw [hb2.block _ (by have := HZ1.out; omega)]; exact HX1.out
  have HK : Hid (GlobK w) := hK
  clear hK hb1 hb2
  go_wp2
  go_loopw [17] (TakR s bs w) (fun i _ => 64 - (intOf i).toNat)
  case atStart => exact ⟨0, by omega, rfl, HX2.out, hb3⟩
  case round =>
    obtain ⟨t, ht, rfl, hX, hbel⟩ := hrel
    have HX := Lib.hid hX
    clear hX
    by_cases h64 : t < 64
    · have d64 : decide ((t : Int) < 64) = true := by simp; omega
      have hix : ∀ w : World, (Instr.index 171 (.agg (cw (schedTo bs 64))) (.int .i64 (t : Int))).run Tryd.prog w = .ok (.int .u32 (N32 (at32 (schedTo bs 64) t))) w := by
        exact index_cw _ _ (schedTo_length _ _) h64
      obtain ⟨xs, hxs⟩ : ∃ xs, xs = rndTo s (schedTo bs 64) t := ⟨_, rfl⟩
      have hl : xs.length = 8 := by rw [hxs]; exact rndTo_length _ _ _ H8.out
      rw [← hxs] at HX
      have HXS := Lib.hid hxs
      clear hxs
      have c0 := row_cell HX.out 0 (by omega)
      have c1 := row_cell HX.out 1 (by omega)
      have c2 := row_cell HX.out 2 (by omega)
      have c3 := row_cell HX.out 3 (by omega)
      have c4 := row_cell HX.out 4 (by omega)
      have c5 := row_cell HX.out 5 (by omega)
      have c6 := row_cell HX.out 6 (by omega)
      have c7 := row_cell HX.out 7 (by omega)
      have cK : wr.cell? ⟨3, t, none⟩ = some (.int .u32 (N32 (at32 KK t))) := by rw [hbel.cell (p := ⟨3, t, none⟩) h3]; exact HK.out t h64
      have HL := Lib.hid hl
      clear hl
      have z0 : (0 : Int) ≤ (t : Int) := by omega
      have b0 : (t : Int) < 64 := by omega
      go_wp2
      go_quiet (fail)
      go_wp2
      go_quiet ((go_at_call 99; exact q_two (turn_any _ _ _ _ _ (by decide) (by decide) (by decide) (by decide) (by decide) (by decide))))
      go_wp2
      go_quiet ((go_at_call 99; exact q_two (turn_any _ _ _ _ _ (by decide) (by decide) (by decide) (by decide) (by decide) (by decide))))
      go_wp2
      go_region_law (refine step_copy_splice rfl (.tmp 65) (.tmp 66) 174 174 rfl 32 Tryd.underlying174 info62 (some ⟨w.heap.size, 1, none⟩) (some ⟨w.heap.size, 0, none⟩) 7 7 7 8 rfl rfl w.heap.size 1 (cwl xs) 161 HX.out (cwl (xs.take 7)) (cp_len HL.out) (cp_pos HX.out HL.out) (by rw [cp_len HL.out]; simp [cwl, HL.out]) (fun v hv => (Array.all_eq_true_iff_forall_mem.1 (cw_one (xs.take 7))) v (by simpa [cw] using hv)) w.heap.size w ⟨hbel.os, hbel.tape, hbel.output, hbel.size, hbel.block⟩ (Nat.le_refl _) ?_; intro w4 HG4 hb4)
      rw [cp_splice HL.out] at HG4
      have HG5 : Hid (w4.heap[w.heap.size]? = some (.cells (cw [at32 xs 0, at32 xs 0, at32 xs 1, at32 xs 2, at32 xs 3, at32 xs 4, at32 xs 5, at32 xs 6]) 161 (0, 0))) := HG4.out
      clear HG4 c0 c1 c2 c3 c4 c5 c6 c7 cK
      have c0 : w4.cell? ⟨w.heap.size, 0, none⟩ = some (.int .u32 (N32 (at32 xs 0))) := row_cell HG5.out 0 (by simp)
      have c4 : w4.cell? ⟨w.heap.size, 4, none⟩ = some (.int .u32 (N32 (at32 xs 3))) := row_cell HG5.out 4 (by simp)
      have f0 : w4.frozen? ⟨w.heap.size, 0, none⟩ = false := row_free HG5.out 0
      have f4 : w4.frozen? ⟨w.heap.size, 4, none⟩ = false := row_free HG5.out 4
      have HF := Lib.hid (row_set (row_set HG5.out 0 (oneW xs (at32 KK t) (at32 (schedTo bs 64) t) + twoW xs)) 4 (at32 xs 3 + oneW xs (at32 KK t) (at32 (schedTo bs 64) t)))
      go_wp2
      go_roundw
      case rel =>
        rw [sum5, sum14]
        exact ⟨t + 1, by omega, by go_num, by rw [rndTo, ← HXS.out]; exact HF.out, (hb4.setCell (Nat.le_refl _) _).setCell (Nat.le_refl _) _⟩
      case measure => simp [intOf]; omega
    · have d64 : decide ((t : Int) < 64) = false := by simp; omega
      obtain rfl : t = 64 := by omega
      obtain ⟨xs, hxs⟩ : ∃ xs, xs = rndTo s (schedTo bs 64) 64 := ⟨_, rfl⟩
      have hl : xs.length = 8 := by rw [hxs]; exact rndTo_length _ _ _ H8.out
      rw [← hxs] at HX
      have HXS := Lib.hid hxs
      clear hxs
      have HL := Lib.hid hl
      clear hl
      have HS0 : Hid (wr.heap[sb]? = some (.cells (cw s) 161 (0, 0))) := by rw [hbel.block sb hsb]; exact HSB.out
      have hbut : But sb w wr := But.of_below hbel
      obtain ⟨wo, rfl⟩ : ∃ wo : World, wo = wr := ⟨_, rfl⟩
      go_wp2
      go_loopw [78] (TakS s xs sb w) (fun i _ => 8 - (intOf i).toNat)
      case atStart => exact ⟨0, by omega, rfl, HX.out, HS0.out, hbut⟩
      case round =>
        obtain ⟨k, hk, rfl, hx, hs, hbut2⟩ := hrel
        have HX2 := Lib.hid hx
        have HS2 := Lib.hid hs
        clear hx hs
        by_cases h8 : k < 8
        · have d8 : decide ((k : Int) < 8) = true := by simp; omega
          have z0 : (0 : Int) ≤ (k : Int) := by omega
          have b0 : (k : Int) < 8 := by omega
          have cx := row_cell HX2.out k (by rw [HL.out]; exact h8)
          have cs := row_cell HS2.out k (by rw [sumTo_length, H8.out]; exact h8)
          have fs := row_free HS2.out k
          have HF := Lib.hid (row_set HS2.out k (at32 (sumTo s xs k) k + at32 xs k))
          go_wp2
          go_region
          go_wp2
          go_roundw
          case rel =>
            refine ⟨k + 1, by omega, by go_num, ?_, HF.out, ?_⟩
            · exact (heap_setCell_other _ _ _ _ (by simp; omega)).trans HX2.out
            · exact (hbut2.setCell _).drewN (n := 1)
          case measure => simp [intOf]; omega
        · have d8 : decide ((k : Int) < 8) = false := by simp; omega
          obtain rfl : k = 8 := by omega
          go_wp2
          go_end0
          exact ⟨rfl, by rw [compW, ← HXS.out]; exact HS2.out, hbut2⟩
end Go.Proofs.YtljmigbpmcacnaaDoor
namespace Go.Proofs.YtljmigbpmcacnaaDoor
open Go Go.RowKit
def c8l (l : List UInt8) : List Value := l.map fun x => Value.int .u8 (N8 x)
def c8 (l : List UInt8) : Array Value := (c8l l).toArray
theorem c8l_length (l : List UInt8) : (c8l l).length = l.length := by simp [c8l]
theorem c8l_append (a b : List UInt8) : c8l (a ++ b) = c8l a ++ c8l b := by simp [c8l]
theorem c8_size (l : List UInt8) : (c8 l).size = l.length := by simp [c8, c8l]
theorem c8l_at (l : List UInt8) (i : Nat) (h : i < l.length) : (c8l l)[i]? = some (.int .u8 (N8 (at8 l i))) := by
  simp [c8l, h, at8]
theorem c8_at (l : List UInt8) (i : Nat) (h : i < l.length) : (c8 l)[i]? = some (.int .u8 (N8 (at8 l i))) := by
  simp [c8, c8l, h, at8]
theorem c8_set (l : List UInt8) (i : Nat) (x : UInt8) : (c8 l).setIfInBounds i (.int .u8 (N8 x)) = c8 (l.set i x) := by
  apply Array.ext'
  simp [c8, c8l, List.map_set]
theorem c8l_one (l : List UInt8) : ∀ v ∈ c8l l, v.oneCell' = true := by
  intro v hv
  simp only [c8l, List.mem_map] at hv
  obtain ⟨x, _, rfl⟩ := hv
  rfl
theorem c8_one (l : List UInt8) : (c8 l).all (·.oneCell') = true := by
  rw [Array.all_eq_true_iff_forall_mem]
  intro v hv
  exact c8l_one l v (by simpa [c8] using hv)
/-- The slice v reads as the bytes bs. -/
def BSl (w : World) (v : Value) (bs : List UInt8) : Prop :=
  (v = .slice none 0 0 ∧ bs = []) ∨
  (∃ b off c, v = .slice (some ⟨b, off, none⟩) bs.length c ∧ bs.length ≤ c ∧ b < w.heap.size ∧ ∀ j, j < bs.length → w.cell? ⟨b, off + j, none⟩ = some (.int .u8 (N8 (at8 bs j)))) ∨
  ∃ a, v = .slice (some a) 0 0 ∧ bs = []
theorem BSl.below {B : Nat} {w w' : World} {v : Value} {bs : List UInt8} (h : BSl w v bs) (hb : Below B w w') (hB : w.heap.size ≤ B) : BSl w' v bs := by
  rcases h with h | ⟨b, off, c, e, hc, hlt, hcell⟩ | h
  · exact .inl h
  · exact .inr (.inl ⟨b, off, c, e, hc, Nat.lt_of_lt_of_le hlt hb.size, fun j hj => (hb.cell (p := ⟨b, off + j, none⟩) (Nat.lt_of_lt_of_le hlt hB)).trans (hcell j hj)⟩)
  · exact .inr (.inr h)
theorem BSl.len {w : World} {v : Value} {bs : List UInt8} (h : BSl w v bs) : ∃ a c, v = .slice a bs.length c := by
  rcases h with ⟨rfl, rfl⟩ | ⟨b, off, c, e, _⟩ | ⟨a, rfl, rfl⟩
  · exact ⟨_, _, rfl⟩
  · exact ⟨_, _, e⟩
  · exact ⟨_, _, rfl⟩
/-- What the call owns reads as its bytes. -/
theorem BSl.of_owns {w : World} {base : Nat} {v : Value} {bs : List UInt8} (h : w.ownsRow base 5 1 v bs.length (c8l bs)) : BSl w v bs := by
  obtain ⟨h1, h2⟩ := h
  rcases h2 with ⟨rfl, h3⟩ | ⟨g, cap, cur, rfl, hg, hh, hn, hm, hs, ht⟩
  · exact .inl ⟨rfl, List.eq_nil_of_length_eq_zero h3⟩
  · refine .inr (.inl ⟨g, 0, cap, rfl, hn, (Array.getElem?_eq_some_iff.1 hh).1, fun j hj => ?_⟩)
    rw [Nat.zero_add, cell_of_row w g j cur 5 (0, 0) hh, ← c8l_at bs j hj, ← ht, List.getElem?_take, if_pos (by omega)]
    simp
theorem news_of {w : World} {b o : Nat} {bs : List UInt8} (h : ∀ j, j < bs.length → w.cell? ⟨b, o + j, none⟩ = some (.int .u8 (N8 (at8 bs j)))) :
    ∀ j u, (c8l bs)[j]? = some u → w.cell? ((⟨b, o, none⟩ : Addr).add j) = some u := by
  intro j u hu
  have hj : j < bs.length := by have := (List.getElem?_eq_some_iff.1 hu).1; rwa [c8l_length] at this
  rw [show (⟨b, o, none⟩ : Addr).add j = ⟨b, o + j, none⟩ by unfold Addr.add; split <;> simp_all, h j hj, ← hu, c8l_at bs j hj]
theorem owns_block {w : World} {base e size : Nat} {v : Value} {n : Nat} {xs : List Value} (h : w.ownsRow base e size v n xs) {g : Nat} (hg : v.ownBlock = some g) : base ≤ g := by
  rcases h.2 with ⟨rfl, _⟩ | ⟨g', cap, cur, rfl, hb, _⟩
  · cases hg
  · cases hg; exact hb
/-! Slices of slices of bytes. -/
def atV (vs : List Value) (j : Nat) : Value := vs.getD j undef
def atP (ps : List (List UInt8)) (j : Nat) : List UInt8 := ps.getD j []
def catTo (ps : List (List UInt8)) (k : Nat) : List UInt8 := (ps.take k).flatten
theorem catTo_succ (ps : List (List UInt8)) (k : Nat) (h : k < ps.length) : catTo ps (k + 1) = catTo ps k ++ atP ps k := by
  unfold catTo atP
  rw [List.take_succ_eq_append_getElem h, List.flatten_append, List.getD_eq_getElem?_getD, List.getElem?_eq_getElem h]; simp
theorem catTo_all (ps : List (List UInt8)) : catTo ps ps.length = ps.flatten := by simp [catTo]
theorem catTo_le (ps : List (List UInt8)) (k : Nat) : (catTo ps k).length ≤ ps.flatten.length := by
  unfold catTo
  have : ps.flatten = (ps.take k).flatten ++ (ps.drop k).flatten := by rw [← List.flatten_append, List.take_append_drop]
  rw [this, List.length_append]; omega
theorem catTo_part (ps : List (List UInt8)) (k : Nat) (h : k < ps.length) : (catTo ps k).length + (atP ps k).length ≤ ps.flatten.length := by
  have := catTo_le ps (k + 1)
  rw [catTo_succ ps k h, List.length_append] at this; exact this
/-- The slice pv holds the slices vs, which read as ps. -/
structure PSl (w : World) (pv : Value) (vs : List Value) (ps : List (List UInt8)) : Prop where
  len : vs.length = ps.length
  lies : (pv = .slice none 0 0 ∧ ps = []) ∨
    ∃ b off c, pv = .slice (some ⟨b, off, none⟩) ps.length c ∧ ps.length ≤ c ∧ b < w.heap.size ∧ ∀ j, j < ps.length → w.cell? ⟨b, off + j, none⟩ = some (atV vs j)
  each : ∀ j, j < ps.length → BSl w (atV vs j) (atP ps j)
theorem PSl.below {B : Nat} {w w' : World} {pv : Value} {vs : List Value} {ps : List (List UInt8)} (h : PSl w pv vs ps) (hb : Below B w w') (hB : w.heap.size ≤ B) : PSl w' pv vs ps := by
  refine ⟨h.len, ?_, fun j hj => (h.each j hj).below hb hB⟩
  rcases h.lies with h | ⟨b, off, c, e, hc, hlt, hcell⟩
  · exact .inl h
  · exact .inr ⟨b, off, c, e, hc, Nat.lt_of_lt_of_le hlt hb.size, fun j hj => (hb.cell (p := ⟨b, off + j, none⟩) (Nat.lt_of_lt_of_le hlt hB)).trans (hcell j hj)⟩
end Go.Proofs.YtljmigbpmcacnaaDoor
namespace Go.Proofs.YtljmigbpmcacnaaDoor
open Go.RowKit
theorem info5 : (Tryd.prog.info? 5).map (fun i => (i.zero, i.size, i.bytes)) = some (some (.int .u8 0), 1, 1) := by kernel_rfl
def Owned (w : World) (n : Nat) (xs : List UInt8) (e : Ending) (w' : World) : Prop :=
  ∃ v, e = .returned v ∧ w'.ownsRow w.heap.size 5 1 v n (c8l xs) ∧ Below w.heap.size w w'
set_option maxHeartbeats 400000 in
theorem grow_any (n : Nat) (w : World) (h : n ≤ 1000000000000) : Calls Tryd.prog 96 #[.slice none 0 0, .int .i64 n] w (Owned w 0 []) := by
  obtain ⟨i0, hi, hz0, hz1, hz2⟩ := info_parts info5
  have HI := Lib.hid hi
  have HZ := Lib.hid hz0
  have H1 := Lib.hid hz1
  have H2 := Lib.hid hz2
  clear hi hz0 hz1 hz2
  have d0 : decide ((n : Int) < 0) = false := decide_eq_false (by omega)
  by_cases hn : 0 < n
  · have hr := Lib.run_append_nil_zeros (P := Tryd.prog) w 28 3 28 5 i0 (.int .u8 0) .i64 .i64 Tryd.underlying28 Tryd.underlying3 HI.out HZ.out n hn (by rw [H1.out]; decide) (by omega) (by rw [H2.out]; omega)
    have HR := Lib.hid hr
    clear hr
    have d1 : decide ((0 : Int) < (n : Int)) = true := decide_eq_true (by omega)
    go_enter Tryd.func96, Tryd.ntmps96
    go_wp2_with (at_builtin; refine Lib.wpList_append_run w rfl (.tmp 20) (.tmp 21) 28 3 rfl (.slice none 0 0) (.int .i64 n) rfl rfl _ _ HR.out ?_)
    go_ret
    refine ⟨_, rfl, ⟨by simp [c8l], .inr ⟨w.heap.size, _, _, rfl, Nat.le_refl _, row_new _ _ _, by omega, grownCap_le_maxLen _ _ _ _ (by unfold maxLen; omega), ?_, by simp [c8l]⟩⟩, ?_⟩
    · have := grownCap_ge w n 0 5
      simp [size_zeroCells]; omega
    · exact (Below.refl _ _).drew.alloc (by simp) _
  · obtain rfl : n = 0 := by omega
    go_enter Tryd.func96, Tryd.ntmps96
    go_wp2
    go_ret
    exact ⟨_, rfl, ⟨by simp [c8l], .inl ⟨rfl, rfl⟩⟩, Below.refl _ _⟩
def CatR (ps : List (List UInt8)) (s i : Value) : Prop := ∃ k : Nat, k ≤ ps.length ∧ i = .int .i64 k ∧ s = .int .i64 (catTo ps k).length
def CatS (ps : List (List UInt8)) (w : World) (v i : Value) (wr : World) : Prop :=
  ∃ k : Nat, k ≤ ps.length ∧ i = .int .i64 k ∧ wr.ownsRow w.heap.size 5 1 v (catTo ps k).length (c8l (catTo ps k)) ∧ Below w.heap.size w wr
set_option maxHeartbeats 1000000 in
theorem concat_some (b off c : Nat) (vs : List Value) (ps : List (List UInt8)) (w : World) (hlt : b < w.heap.size) (_hcap : ps.length ≤ c) (hc0 : ps.length ≤ 1000000000)
    (hcell : ∀ j, j < ps.length → w.cell? ⟨b, off + j, none⟩ = some (atV vs j)) (hbs : ∀ j, j < ps.length → BSl w (atV vs j) (atP ps j)) (ht : ps.flatten.length ≤ 1000000000000) :
    Calls Tryd.prog 88 #[.slice (some ⟨b, off, none⟩) ps.length c] w (Owned w ps.flatten.length ps.flatten) := by
  obtain ⟨i0, hi, hz0, hz1, hz2⟩ := info_parts info5
  have HI := Lib.hid hi
  have HZ := Lib.hid hz0
  have H1 := Lib.hid hz1
  have H2 := Lib.hid hz2
  clear hi hz0 hz1 hz2
  have HC := Lib.hid hcell
  have HB := Lib.hid hbs
  clear hcell hbs
  go_enter Tryd.func88, Tryd.ntmps88
  go_wp2
  go_loop [3, 11] (CatR ps) (fun _ i => ps.length - (intOf i).toNat)
  case atStart => exact ⟨0, by omega, rfl, by simp [catTo]⟩
  case round =>
    obtain ⟨k, hk, rfl, rfl⟩ := hrel
    have hle := catTo_le ps k
    by_cases hlt2 : k < ps.length
    · have d1 : decide ((k : Int) < (ps.length : Int)) = true := decide_eq_true (by omega)
      have hp := catTo_part ps k hlt2
      obtain ⟨a1, c1, hv⟩ := (HB.out k hlt2).len
      have g1 : w.cell? ⟨b, off + k, none⟩ = some (.slice a1 (atP ps k).length c1) := by rw [← hv]; exact HC.out k hlt2
      clear hv
      have d2 : decide (((catTo ps k).length : Int) + ((atP ps k).length : Int) < 0) = false := decide_eq_false (by omega)
      have HS := Lib.hid (catTo_succ ps k hlt2)
      go_wp2
      go_round
      case rel => exact ⟨k + 1, by omega, by go_num, by rw [HS.out, List.length_append]; go_num⟩
      case measure => simp [intOf]; omega
    · have d1 : decide ((k : Int) < (ps.length : Int)) = false := decide_eq_false (by omega)
      obtain rfl : k = ps.length := by omega
      go_wp2_with fail
      refine (grow_any (catTo ps ps.length).length w (by omega)).mono ?_
      rintro e w1 ⟨v, rfl, hown, hb1⟩
      go_wp2
      go_loopw [6, 27] (CatS ps w) (fun _ i _ => ps.length - (intOf i).toNat)
      case atStart => exact ⟨0, by omega, rfl, by simpa [catTo] using hown, hb1⟩
      case round =>
        obtain ⟨k, hk, rfl, hown2, hb2⟩ := hrel
        have hle2 := catTo_le ps k
        by_cases hlt2 : k < ps.length
        · have d3 : decide ((k : Int) < (ps.length : Int)) = true := decide_eq_true (by omega)
          have hp := catTo_part ps k hlt2
          have HS := Lib.hid (catTo_succ ps k hlt2)
          have g0 : wr.cell? ⟨b, off + k, none⟩ = some (atV vs k) := (hb2.cell (p := ⟨b, off + k, none⟩) hlt).trans (HC.out k hlt2)
          have hz := hb2.size
          rcases (HB.out k hlt2).below hb2 (Nat.le_refl _) with ⟨hv, hn⟩ | ⟨b1, o1, c1, hv, hc1, hl1, hx1⟩ | ⟨a1, hv, hn⟩
          · rw [hv] at g0
            have HN := Lib.hid hn
            clear hv hn
            go_wp2_with (at_builtin; refine wpList_append_own_none rfl (.tmp 31) (.tmp 32) 28 rfl w.heap.size 5 i0 1 Tryd.underlying28 HI.out _ _ _ rfl hown2 rfl ?_)
            go_roundw
            case rel => exact ⟨k + 1, by omega, by go_num, by rw [HS.out, HN.out, List.append_nil]; exact hown2, hb2⟩
            case measure => simp [intOf]; omega
          · rw [hv] at g0
            have HX1 := Lib.hid hx1
            clear hv hx1
            go_wp2_with (at_builtin; refine wpList_append_own _ rfl (.tmp 31) (.tmp 32) 28 rfl w.heap.size 5 i0 (.int .u8 0) 1 1 Tryd.underlying28 HI.out HZ.out H1.out H2.out rfl (by decide) _ _ _ rfl hown2 ⟨b1, o1, none⟩ (atP ps k).length c1 (c8l (atP ps k)) rfl (by rw [c8l_length]; omega) (news_of HX1.out) (c8l_one _) (by unfold maxLen; omega) (by omega) hz ?_)
            intro v' w2 hown3 hg3 _
            have hb3 := hb2.grown hg3 hz (fun g hg => owns_block hown2 hg)
            go_wp2
            go_roundw
            case rel => exact ⟨k + 1, by omega, by go_num, by rw [HS.out, List.length_append, c8l_append]; exact hown3, hb3⟩
            case measure => simp [intOf]; omega
          · rw [hv] at g0
            have HN := Lib.hid hn
            clear hv hn
            go_wp2_with (at_builtin; refine wpList_append_own _ rfl (.tmp 31) (.tmp 32) 28 rfl w.heap.size 5 i0 (.int .u8 0) 1 1 Tryd.underlying28 HI.out HZ.out H1.out H2.out rfl (by decide) _ _ _ rfl hown2 a1 0 0 [] rfl rfl (fun j u hu => by simp at hu) (fun u hu => by simp at hu) (by unfold maxLen; omega) (by omega) hz ?_)
            intro v' w2 hown3 hg3 _
            have hb3 := hb2.grown hg3 hz (fun g hg => owns_block hown2 hg)
            go_wp2
            go_roundw
            case rel => exact ⟨k + 1, by omega, by go_num, by rw [HS.out, HN.out, List.append_nil]; exact hown3, hb3⟩
            case measure => simp [intOf]; omega
        · have d3 : decide ((k : Int) < (ps.length : Int)) = false := decide_eq_false (by omega)
          obtain rfl : k = ps.length := by omega
          go_wp2
          go_ret
          exact ⟨_, rfl, by rw [← catTo_all]; exact hown2, hb2⟩
set_option maxHeartbeats 400000 in
theorem concat_nil (w : World) : Calls Tryd.prog 88 #[.slice none 0 0] w (Owned w 0 []) := by
  go_enter Tryd.func88, Tryd.ntmps88
  go_wp2
  go_loop [3, 11] (fun s i => s = .int .i64 0 ∧ i = .int .i64 0) (fun _ _ => 0)
  case atStart => exact ⟨rfl, rfl⟩
  case round =>
    obtain ⟨rfl, rfl⟩ := hrel
    go_wp2_with fail
    refine (grow_any 0 w (by omega)).mono ?_
    rintro e w1 ⟨v, rfl, hown, hb1⟩
    go_wp2
    go_loopw [6, 27] (fun v i wr => i = .int .i64 0 ∧ wr.ownsRow w.heap.size 5 1 v 0 (c8l []) ∧ Below w.heap.size w wr) (fun _ _ _ => 0)
    case atStart => exact ⟨rfl, hown, hb1⟩
    case round =>
      obtain ⟨rfl, hown2, hb2⟩ := hrel
      go_wp2
      go_ret
      exact ⟨_, rfl, hown2, hb2⟩
/-- slices.Concat at slices of bytes. -/
theorem concat_any (pv : Value) (vs : List Value) (ps : List (List UInt8)) (w : World) (h : PSl w pv vs ps) (hc0 : ps.length ≤ 1000000000) (ht : ps.flatten.length ≤ 1000000000000) :
    Calls Tryd.prog 88 #[pv] w (Owned w ps.flatten.length ps.flatten) := by
  rcases h.lies with ⟨rfl, rfl⟩ | ⟨b, off, c, rfl, hc, hlt, hcell⟩
  · exact concat_nil w
  · exact concat_some b off c vs ps w hlt hc hc0 hcell h.each ht
end Go.Proofs.YtljmigbpmcacnaaDoor
namespace Go.Proofs.YtljmigbpmcacnaaDoor
open Go.RowKit
set_option maxHeartbeats 400000 in
theorem chunk_any (a : Option Addr) (n c : Nat) (w : World) :
    Calls Tryd.prog 89 #[.slice a n c, .int .i64 64] w fun e w' => e = .returned (.func (.func 97) #[] #[.pointer (some ⟨w.heap.size, 0, none⟩), .pointer (some ⟨w.heap.size + 1, 0, none⟩)]) ∧ (w.alloc (.cells #[.slice a n c] 28)).alloc (.cells #[.int .i64 64] 3) = w' := by
  go_enter Tryd.func89, Tryd.ntmps89
  go_wp2
  go_ret
  exact ⟨rfl, rfl⟩
attribute [local go_sem] Oper.semAt_some
/-- The chunks of a row of m times 64 bytes, by their numbers. -/
def chunkV (g : Nat) (k : Nat) : Value := .slice (some ⟨g, 64 * k, none⟩) 64 64
/-- The two boxes that the iterator reads are as they were. -/
def KB (Bs : Nat) (W W' : World) : Prop := W'.heap[Bs]? = W.heap[Bs]? ∧ W'.heap[Bs + 1]? = W.heap[Bs + 1]?
theorem KB.refl (Bs : Nat) (W : World) : KB Bs W W := ⟨rfl, rfl⟩
theorem KB.trans {Bs : Nat} {A B C : World} (h : KB Bs A B) (k : KB Bs B C) : KB Bs A C := ⟨k.1.trans h.1, k.2.trans h.2⟩
theorem KB.drewN {Bs n : Nat} {A B : World} (h : KB Bs A B) : KB Bs A (B.drewN n) := h
theorem KB.c0 {Bs : Nat} {A B : World} (h : KB Bs A B) : B.cell? ⟨Bs, 0, none⟩ = A.cell? ⟨Bs, 0, none⟩ := World.cell?_of_block h.1
theorem KB.c1 {Bs : Nat} {A B : World} (h : KB Bs A B) : B.cell? ⟨Bs + 1, 0, none⟩ = A.cell? ⟨Bs + 1, 0, none⟩ := World.cell?_of_block h.2
set_option maxRecDepth 100000 in
set_option maxHeartbeats 2000000 in
theorem chunk1_in (l Bs g m cap : Nat) (hm : m ≤ 100000000000) (hcap : 64 * m ≤ cap) (J Jx : List Nat → World → Prop) (hJ : ∀ s W n, J s W → J s (W.drewN n))
    (hY : ∀ pre x W, J pre W → pre.length < m → YieldAt Fence.wide 5 Tryd.prog l #[chunkV g (x % m)] W fun e W' =>
      (e = .returned (.bool true) ∧ J (pre ++ [x]) W' ∧ KB Bs W W') ∨ (e = .returned (.bool false) ∧ Jx (pre ++ [x]) W'))
    (W : World) (h1 : W.cell? ⟨Bs, 0, none⟩ = some (.slice (some ⟨g, 0, none⟩) (64 * m) cap)) (h2 : W.cell? ⟨Bs + 1, 0, none⟩ = some (.int .i64 64)) (h0 : J [] W) :
    CallsIn Fence.wide 6 Tryd.prog 97 #[.func (.yield l) #[] #[], .pointer (some ⟨Bs, 0, none⟩), .pointer (some ⟨Bs + 1, 0, none⟩)] W fun e W' => (∃ v, e = .returned v) ∧
      ((∃ ys, ys = List.range m ∧ J ys W') ∨ (∃ pre, (∃ k, k ≤ m ∧ pre = List.range k) ∧ Jx pre W')) := by
  refine callsIn_of_wp Tryd.func97 rfl trivial ?_ rfl
  simp only [Tryd.ntmps97, List.size_toArray, List.length_cons, List.length_nil, Nat.reduceAdd, Nat.reduceSub, Array.replicate_succ, Array.replicate_zero, List.push_toArray, List.append_toArray, List.nil_append, List.cons_append]
  have HY := Lib.hid hY
  have HJ := Lib.hid hJ
  clear hY hJ
  gi_wp2
  gi_loopw [4] (fun i wr => ∃ k : Nat, k ≤ m ∧ i = .int .i64 (64 * k : Nat) ∧ J (List.range k) wr ∧ KB Bs W wr)
    (fun i _ => 64 * m + 1 - (intOf i).toNat)
  case atStart => exact ⟨0, Nat.zero_le _, rfl, by simpa using h0, KB.refl _ _⟩
  case round =>
    obtain ⟨k, hk, rfl, hJs, hnx⟩ := hrel
    have g1 : wr.cell? ⟨Bs, 0, none⟩ = some (.slice (some ⟨g, 0, none⟩) (64 * m) cap) := hnx.c0.trans h1
    have g2 : wr.cell? ⟨Bs + 1, 0, none⟩ = some (.int .i64 64) := hnx.c1.trans h2
    by_cases hlt : k < m
    · have d1 : decide (((64 * k : Nat) : Int) < ((64 * m : Nat) : Int)) = true := decide_eq_true (by omega)
      have z0 : (0 : Int) ≤ ((64 * k : Nat) : Int) := by omega
      have z1 : ((64 * k : Nat) : Int) ≤ ((64 * m : Nat) : Int) := by omega
      have z2 : ((64 * k : Nat) : Int) ≤ (cap : Int) := by omega
      have z3 : ((64 * k : Nat) : Int) < (cap : Int) := by omega
      gi_wp2
      refine wpIn_wide.2 ?_
      go_quiet (fail)
      have hJ2 := HJ.out _ _ nq hJs
      have hnx2 := hnx.drewN (n := nq)
      obtain ⟨fn, tmps, assign, body, hy, hR⟩ := HY.out _ k _ hJ2 (by simpa using hlt)
      have HR := Lib.hid hR
      clear hR
      rw [Nat.mod_eq_of_lt hlt] at hy
      unfold chunkV at hy
      have e1 : IntKind.i64.wrap (((64 * k : Nat) : Int) + 64) = ((64 * k : Nat) : Int) + 64 := IntWalk.i64_in _ (by omega)
      gi_wp2
      refine HR.out.mono ?_
      rintro e W3 (⟨rfl, hJ3, hk3⟩ | ⟨rfl, hJx3⟩)
      · have g3 : W3.cell? ⟨Bs + 1, 0, none⟩ = some (.int .i64 64) := hk3.c1.trans g2
        gi_wp2
        go_roundw
        case rel => exact ⟨k + 1, by omega, by simp; omega, by rw [List.range_succ]; exact hJ3, hnx2.trans hk3⟩
        case measure => simp [intOf]; omega
      · gi_wp2
        refine bodyPost_ret (results_none rfl _ _ _) rfl ?_
        exact ⟨⟨_, rfl⟩, .inr ⟨_, ⟨k + 1, by omega, List.range_succ.symm⟩, hJx3⟩⟩
    · obtain rfl : k = m := by omega
      have d1 : decide (((64 * k : Nat) : Int) < ((64 * k : Nat) : Int)) = false := decide_eq_false (by omega)
      gi_wp2
      go_end0
      exact ⟨⟨_, rfl⟩, .inl ⟨_, rfl, hJs⟩⟩
theorem chunk_stops (Bs g m cap : Nat) (hm : m ≤ 100000000000) (hcap : 64 * m ≤ cap) (w : World) (hB : Bs + 1 < w.heap.size)
    (h1 : w.cell? ⟨Bs, 0, none⟩ = some (.slice (some ⟨g, 0, none⟩) (64 * m) cap)) (h2 : w.cell? ⟨Bs + 1, 0, none⟩ = some (.int .i64 64)) :
    SeqStopsK Fence.wide 6 Tryd.prog 97 #[.pointer (some ⟨Bs, 0, none⟩), .pointer (some ⟨Bs + 1, 0, none⟩)] (fun x : Nat => #[chunkV g (x % m)]) (KB Bs)
      (fun ys => ys = List.range m) (fun pre => ∃ k, k ≤ m ∧ pre = List.range k) m w := fun l J Jx W hW hA _ hY h0 =>
  chunk1_in l Bs g m cap hm hcap J Jx (fun s W n hs => hA s W _ none hs ⟨rfl, rfl, rfl, Nat.le_refl _, fun _ _ _ => rfl⟩ (fun r e => by cases e)) hY W
    ((hW.cell (p := ⟨Bs, 0, none⟩) (by simp; omega)).trans h1) ((hW.cell (p := ⟨Bs + 1, 0, none⟩) (by simp; omega)).trans h2) h0
end Go.Proofs.YtljmigbpmcacnaaDoor
namespace Go.Proofs.YtljmigbpmcacnaaDoor
open Go.RowKit
theorem zeroCells_u8 (k : Nat) : Builtin.zeroCells (Value.int .u8 0).cells k = c8 (List.replicate k 0) := by
  apply Array.ext'
  simp only [Builtin.zeroCells, Value.cells, c8, c8l]
  apply List.ext_getElem
  · simp
  · intro i h1 h2
    simp [N8, Nat.mod_one]
theorem run_zeros_ne (w : World) (base n k : Nat) (v : Value) (bs : List UInt8) (ty : TypeId) (hown : w.ownsRow base 5 1 v n (c8l bs)) (hne : v ≠ .slice none 0 0) (hnk : n + k ≤ 1000000000000) (hbase : base ≤ w.heap.size) :
    ∃ v' w', (Builtin.append_ #[28, 3] ty #[v, .int .i64 k]).run Tryd.prog w = .ok v' w' ∧ w'.ownsRow base 5 1 v' (n + k) (c8l (bs ++ List.replicate k 0)) ∧ w.grownBy w' v.ownBlock := by
  obtain ⟨i0, hi, hz0, hz1, hz2⟩ := info_parts info5
  have hbl : bs.length = n := by have := hown.1; rw [c8l_length] at this; omega
  rcases hown.2 with ⟨rfl, h0⟩ | ⟨g, cap, cur, rfl, hbg, hg, hnc, hcm, hcs, htake⟩
  · exact absurd rfl hne
  have hlen : (c8l (bs ++ List.replicate k 0)).length = (n + k) * 1 := by rw [c8l_length]; simp [hbl]
  have hw : IntKind.i64.wrap (k : Int) = k := by rw [IntKind.wrap_i64]; omega
  have hneg : ¬ ((k : Int) < 0) := by omega
  by_cases hroom : n + k ≤ cap
  · have hst := run_storeCells_at Tryd.prog g n 5 (c8l (List.replicate k 0)) 0 cur w hg (by rw [c8l_length]; simp; omega) (c8l_one _)
    simp only [Nat.add_zero] at hst
    have h48 : ¬ (281474976710656 < (k : Int)) := by omega
    refine ⟨.slice (some ⟨g, 0, none⟩) (n + k) cap, w.setRow g (cur.toList.take n ++ c8l (List.replicate k 0) ++ cur.toList.drop (n + (c8l (List.replicate k 0)).length)).toArray, ?_, ⟨hlen, .inr ⟨g, cap, _, rfl, hbg, setRow_heap w g cur _ 5 _ hg, hroom, hcm, ?_, ?_⟩⟩, ⟨rfl, rfl, rfl, by simp, fun j _ hj => setRow_other w g j _ (fun e => hj (by simp [Value.ownBlock, e]))⟩⟩
    · by_cases hk : k = 0
      · subst hk
        have hw0 : IntKind.i64.wrap 0 = 0 := by decide
        have hst' : (storeCells ⟨g, n, none⟩ [] 0).run Tryd.prog w = .ok () (w.setRow g (cur.toList.take n ++ c8l (List.replicate 0 0) ++ cur.toList.drop (n + (c8l (List.replicate 0 0)).length)).toArray) := hst
        simp [Builtin.append_, run_underlying Tryd.underlying28, run_underlying Tryd.underlying3, sizeOf, typeInfo, hi, hz1, hz2, asInt, asIntOf, hw0, hnc, Addr.add_lit, hst']
      · have hzc := zeroCells_u8 k
        have hst' : (storeCells ⟨g, n, none⟩ (c8 (List.replicate k 0)).toList 0).run Tryd.prog w = .ok () (w.setRow g (cur.toList.take n ++ c8l (List.replicate k 0) ++ cur.toList.drop (n + (c8l (List.replicate k 0)).length)).toArray) := hst
        simp [Builtin.append_, run_underlying Tryd.underlying28, run_underlying Tryd.underlying3, sizeOf, typeInfo, zeroValue, hi, hz0, hz1, hz2, asInt, asIntOf, hw, hneg, h48, hroom, hk, hzc, Addr.add_lit, hst']
    · simp only [List.size_toArray, List.length_append, List.length_take, List.length_drop, Array.length_toList, c8l_length, List.length_replicate]
      omega
    · have ht : cur.toList.take n = c8l bs := by rw [← htake]; simp
      rw [ht, ← hlen, c8l_append]
      exact List.take_left
  · have hk : 0 < k := by omega
    have holds : ∀ j u, (c8l bs)[j]? = some u → w.drew.cell? ((⟨g, 0, none⟩ : Addr).add j) = some u := fun j u hu => hown.cells (g := g) rfl j u hu
    have hold := run_firstCells_some (P := Tryd.prog) w.drew i0.size n ⟨g, 0, none⟩ n cap (c8l bs) (by rw [c8l_length, hz1]; omega) holds
    have hr := Lib.run_append_grow_zeros (P := Tryd.prog) w 28 3 ty 5 i0 (.int .u8 0) .i64 .i64 Tryd.underlying28 Tryd.underlying3 hi hz0 (some ⟨g, 0, none⟩) n cap (c8l bs) hold k hk (by rw [hz1]; decide) (by omega) (by omega) (by rw [hz2]; omega) (growslice_fits (by omega) (by rw [hz2]; omega))
    have hge := grownCap_ge w (n + k) cap 5
    refine ⟨_, _, hr, ⟨hlen, .inr ⟨w.heap.size, _, _, rfl, hbase, heap_alloc_new w.drew _, hge, grownCap_le_maxLen w (n + k) cap 5 (by unfold maxLen; omega), ?_, ?_⟩⟩, ⟨rfl, rfl, rfl, by simp, fun j hj _ => Below.heap_alloc w.drew _ j hj⟩⟩
    · simp only [Array.size_append, List.size_toArray, size_zeroCells, c8l_length, Value.cells]; simp; omega
    · rw [zeroCells_u8 k]
      simp only [Array.toList_append, List.append_assoc, c8]
      rw [← List.append_assoc, ← c8l_append, ← hlen]
      exact List.take_left
theorem run_zeros_own (w : World) (base n k : Nat) (v : Value) (bs : List UInt8) (ty : TypeId) (hown : w.ownsRow base 5 1 v n (c8l bs)) (hn : 0 < n) (hnk : n + k ≤ 1000000000000) (hbase : base ≤ w.heap.size) :
    ∃ v' w', (Builtin.append_ #[28, 3] ty #[v, .int .i64 k]).run Tryd.prog w = .ok v' w' ∧ w'.ownsRow base 5 1 v' (n + k) (c8l (bs ++ List.replicate k 0)) ∧ w.grownBy w' v.ownBlock := by
  refine run_zeros_ne w base n k v bs ty hown (fun e => ?_) hnk hbase
  rcases hown.2 with ⟨_, h0⟩ | ⟨g, cap, cur, e2, _⟩
  · omega
  · rw [e] at e2; cases e2
theorem wpList_zeros_own {w : World} {ops : Array Oper} {rest : List Oper} {o : Oper} {a : Act} {Q : Exit → Act → World → Prop} (hgd : o.guard = none) (s x : Operand)
    (ho : o.op = .call { callee := .builtin .append, args := #[s, x], argTypes := #[28, 3] }) (base n k : Nat) (v : Value) (bs : List UInt8) (hs : a.eval s = v) (hx : a.eval x = .int .i64 k)
    (hown : w.ownsRow base 5 1 v n (c8l bs)) (hn : 0 < n) (hnk : n + k ≤ 1000000000000) (hbase : base ≤ w.heap.size)
    (h : ∀ v' w', w'.ownsRow base 5 1 v' (n + k) (c8l (bs ++ List.replicate k 0)) → w.grownBy w' v.ownBlock → wpList Tryd.prog ops Q rest (a.put o.dst v') w') : wpList Tryd.prog ops Q (o :: rest) a w := by
  obtain ⟨v', w', hr, h1, h2⟩ := run_zeros_own w base n k v bs o.type hown hn hnk hbase
  exact Lib.wpList_append_run w hgd s x 28 3 ho v (.int .i64 k) hs hx v' w' hr (h v' w' h1 h2)
end Go.Proofs.YtljmigbpmcacnaaDoor
namespace Go.Proofs.YtljmigbpmcacnaaDoor
open Go
def padZ (n : Nat) : Nat := (120 - (n + 1) % 64) % 64
def pad0 (bs : List UInt8) : List UInt8 := bs ++ [128] ++ List.replicate (padZ bs.length) 0
def lenB (n k : Nat) : UInt8 := UInt8.ofNat (8 * n / 2 ^ (56 - 8 * k))
def padTo (bs : List UInt8) (k : Nat) : List UInt8 := pad0 bs ++ (List.range k).map (lenB bs.length)
theorem padTo_succ (bs : List UInt8) (k : Nat) : padTo bs (k + 1) = padTo bs k ++ [lenB bs.length k] := by
  unfold padTo; rw [List.range_succ, List.map_append, List.append_assoc]; rfl
theorem padTo_length (bs : List UInt8) (k : Nat) : (padTo bs k).length = bs.length + 1 + padZ bs.length + k := by
  unfold padTo pad0; simp; omega
/-- How many blocks there are. -/
def blocks (bs : List UInt8) : Nat := (bs.length + 9 + padZ bs.length) / 64
theorem pad_length (bs : List UInt8) : (padTo bs 8).length = 64 * blocks bs := by
  rw [padTo_length]; unfold blocks padZ; omega
theorem blocks_le (bs : List UInt8) : 64 * blocks bs ≤ bs.length + 73 := by
  unfold blocks padZ; omega
/-- Block k. -/
def blk (l : List UInt8) (k : Nat) : List UInt8 := (l.drop (64 * k)).take 64
theorem at8_blk (l : List UInt8) (k i : Nat) (h : i < 64) : at8 (blk l k) i = at8 l (64 * k + i) := by
  unfold at8 blk
  rw [List.getD_eq_getElem?_getD, List.getD_eq_getElem?_getD, List.getElem?_take, if_pos h, List.getElem?_drop]
/-- The state behind k blocks. -/
def stTo (bs : List UInt8) : Nat → List UInt32
  | 0 => S0
  | k + 1 => compW (stTo bs k) (blk (padTo bs 8) k)
theorem stTo_length (bs : List UInt8) (k : Nat) : (stTo bs k).length = 8 := by
  induction k with
  | zero => rfl
  | succ k ih => simp only [stTo]; rw [compW_length, ih]
/-- The state behind the blocks of a list of numbers. -/
def stL (bs : List UInt8) (l : List Nat) : List UInt32 := l.foldl (fun s x => compW s (blk (padTo bs 8) (x % blocks bs))) S0
theorem stL_snoc (bs : List UInt8) (l : List Nat) (x : Nat) : stL bs (l ++ [x]) = compW (stL bs l) (blk (padTo bs 8) (x % blocks bs)) := by
  unfold stL; rw [List.foldl_append]; rfl
theorem stL_length (bs : List UInt8) (l : List Nat) : (stL bs l).length = 8 := by
  unfold stL
  suffices ∀ (l : List Nat) (s : List UInt32), s.length = 8 → (l.foldl (fun s x => compW s (blk (padTo bs 8) (x % blocks bs))) s).length = 8 from this l S0 rfl
  intro l
  induction l with
  | nil => exact fun s h => h
  | cons x l ih => exact fun s h => ih _ (by rw [compW_length, h])
theorem stL_range (bs : List UInt8) (k : Nat) (hk : k ≤ blocks bs) : stL bs (List.range k) = stTo bs k := by
  induction k with
  | zero => rfl
  | succ k ih => rw [List.range_succ, stL_snoc, ih (by omega), stTo, Nat.mod_eq_of_lt (by omega)]
def outB (s : List UInt32) (k : Nat) : UInt8 := UInt8.ofNat ((at32 s (k / 4)).toNat / 2 ^ (24 - k % 4 * 8))
/-- The first k bytes of the hash, the rest 0. -/
def outTo (s : List UInt32) : Nat → List UInt8
  | 0 => List.replicate 32 0
  | k + 1 => (outTo s k).set k (outB s k)
theorem outTo_length (s : List UInt32) (k : Nat) : (outTo s k).length = 32 := by
  induction k with
  | zero => simp [outTo]
  | succ k ih => simp [outTo, ih]
/-- The hash. -/
def shaB (bs : List UInt8) : List UInt8 := outTo (stTo bs (blocks bs)) 32
theorem shaB_length (bs : List UInt8) : (shaB bs).length = 32 := outTo_length _ _
theorem lenB_eq (n k : Nat) : (((n : Int) * 8) / 2 ^ (56 - 8 * k)) % 256 = N8 (lenB n k) := by
  unfold N8 lenB
  rw [UInt8.toNat_ofNat']
  have : ((n : Int) * 8) / 2 ^ (56 - 8 * k) = ((8 * n / 2 ^ (56 - 8 * k) : Nat) : Int) := by simp [Int.mul_comm]
  rw [this]; omega
theorem outB_eq (s : List UInt32) (k : Nat) : (N32 (at32 s (k / 4)) / 2 ^ (24 - k % 4 * 8)) % 256 = N8 (outB s k) := by
  unfold N8 outB N32
  rw [UInt8.toNat_ofNat']
  have : ((at32 s (k / 4)).toNat : Int) / 2 ^ (24 - k % 4 * 8) = (((at32 s (k / 4)).toNat / 2 ^ (24 - k % 4 * 8) : Nat) : Int) := by simp
  rw [this]; omega
theorem row_new8 (w : World) : (w.alloc (.cells #[.int .u8 0, .int .u8 0, .int .u8 0, .int .u8 0, .int .u8 0, .int .u8 0, .int .u8 0, .int .u8 0, .int .u8 0, .int .u8 0, .int .u8 0, .int .u8 0, .int .u8 0, .int .u8 0, .int .u8 0, .int .u8 0, .int .u8 0, .int .u8 0, .int .u8 0, .int .u8 0, .int .u8 0, .int .u8 0, .int .u8 0, .int .u8 0, .int .u8 0, .int .u8 0, .int .u8 0, .int .u8 0, .int .u8 0, .int .u8 0, .int .u8 0, .int .u8 0] 130)).heap[w.heap.size]? = some (.cells (c8 (List.replicate 32 0)) 130 (0, 0)) := row_new _ _ _
theorem row8_cell {w : World} {B T : Nat} {l : List UInt8} (h : w.heap[B]? = some (.cells (c8 l) T (0, 0))) (i : Nat) (hi : i < l.length) :
    w.cell? ⟨B, i, none⟩ = some (.int .u8 (N8 (at8 l i))) := by
  unfold World.cell?; rw [h]; simp only [Option.isSome_none, Bool.false_eq_true, if_false]; exact c8_at l i hi
theorem row8_set {w : World} {B T : Nat} {l : List UInt8} (h : w.heap[B]? = some (.cells (c8 l) T (0, 0))) (i : Nat) (x : UInt8) :
    (w.setCell ⟨B, i, none⟩ (.int .u8 (N8 x))).heap[B]? = some (.cells (c8 (l.set i x)) T (0, 0)) := by
  unfold World.setCell; simp only [Array.getElem?_modify, h, if_true, Option.map_some, Option.isSome_none, Bool.false_eq_true, if_false, c8_set]
end Go.Proofs.YtljmigbpmcacnaaDoor
namespace Go.Proofs.YtljmigbpmcacnaaDoor
open Go.RowKit Go.Shelf
attribute [local go_sem] Oper.semAt_some
/-- The start's words, as they lie. -/
def GlobS (w : World) : Prop := ∀ i, i < 8 → w.cell? ⟨2, i, none⟩ = some (.int .u32 (N32 (at32 S0 i)))
theorem padZ_eq (n : Nat) : ((120 : Int) - ((n : Int) + 1) % 64) % 64 = (padZ n : Int) := by unfold padZ; omega
theorem info24 : (Tryd.prog.info? 130).map (·.size) = some 32 := by kernel_rfl
def ShaO (st : List UInt32) (W : World) (i : Value) (W2 : World) : Prop :=
  ∃ k : Nat, k ≤ 32 ∧ i = .int .i64 k ∧ W2.heap[W.heap.size]? = some (.cells (c8 (outTo st k)) 130 (0, 0)) ∧ Below W.heap.size W W2
def ShaL (bs : List UInt8) (w1 : World) (v i : Value) (wr : World) : Prop :=
  ∃ k : Nat, k ≤ 8 ∧ i = .int .i64 k ∧ wr.ownsRow w1.heap.size 5 1 v (padTo bs k).length (c8l (padTo bs k)) ∧ Below w1.heap.size w1 wr
theorem kb_put {Bs n : Nat} (hB : Bs + 1 < n) (W : World) (l : Nat) (o o' : Obj) (hl : n ≤ l) (_ : W.heap[l]? = some o) (_ : o.isCells = false) (_ : o.isWalk = false) : KB Bs W (W.putObj l o') := by
  have hg := grownBy_putObj' W l o'
  have h1 : ∀ k, k < l → (W.putObj l o').heap[k]? = W.heap[k]? := fun k hk => by
    by_cases hs : k < W.heap.size
    · exact hg.block k hs (fun e => by cases e; omega)
    · have : (W.putObj l o').heap.size = W.heap.size := by simp [World.putObj]
      rw [Array.getElem?_eq_none (by omega), Array.getElem?_eq_none (by omega)]
  exact ⟨h1 _ (by omega), h1 _ (by omega)⟩
theorem own_st {sb n : Nat} {bs : List UInt8} {w6 : World} (hn : sb < n) (hw : w6.heap.size = n := by rfl) : OwnFrom n (fun (pre : List Nat) W => W.heap[sb]? = some (.cells (cw (stL bs pre)) 161 (0, 0)) ∧ But sb w6 W) := by
  intro pre W W' row ⟨h1, h2⟩ hg hr
  have hs : sb < W.heap.size := (Array.getElem?_eq_some_iff.1 h1).1
  have hb : ∀ k, k < n → k < W.heap.size → W'.heap[k]? = W.heap[k]? := fun k hk hk2 => hg.block k hk2 (fun e => by have := (hr k e.symm).1; omega)
  exact ⟨(hb sb hn hs).trans h1, ⟨hg.os.trans h2.os, hg.tape.trans h2.tape, hg.output.trans h2.output, Nat.le_trans h2.size hg.size, fun k hk hne => (hb k (by omega) (Nat.lt_of_lt_of_le hk h2.size)).trans (h2.block k hk hne)⟩⟩
set_option maxRecDepth 100000 in
set_option maxHeartbeats 2000000 in
theorem sha_any (pv : Value) (vs : List Value) (ps : List (List UInt8)) (w : World) (hP : PSl w pv vs ps) (hc0 : ps.length ≤ 1000000000) (ht : ps.flatten.length ≤ 100000000000)
    (hK : GlobK w) (hS : GlobS w) (h3 : 3 < w.heap.size) :
    Calls Tryd.prog 78 #[pv] w fun e w' => e = .returned (.agg (c8 (shaB ps.flatten))) ∧ Below w.heap.size w w' := by
  obtain ⟨i0, hi, hz0, hz1, hz2⟩ := info_parts info5
  have HI := Lib.hid hi
  have HZ := Lib.hid hz0
  have H1 := Lib.hid hz1
  have H2 := Lib.hid hz2
  clear hi hz0 hz1 hz2
  have HK : Hid (GlobK w) := hK
  have HS : Hid (GlobS w) := hS
  clear hK hS
  obtain ⟨bs, hbs⟩ : ∃ bs, bs = ps.flatten := ⟨_, rfl⟩
  have HBS := Lib.hid hbs
  rw [← hbs] at ht
  clear hbs
  have HR1 := Lib.hid (row_new8 w)
  refine callsIn_wide.1 (callsIn_of_wp_marks (n := 7) Tryd.func78 rfl trivial (wpIn_wide.2 ?_) rfl)
  simp only [Tryd.ntmps78, List.size_toArray, List.length_cons, List.length_nil, Nat.reduceAdd, Nat.reduceSub, Array.replicate_succ, Array.replicate_zero, List.push_toArray, List.append_toArray, List.nil_append, List.cons_append]
  go_wp2_with fail
  generalize hw1 : w.alloc _ = w1 at HR1 ⊢
  have hb1 : Below w.heap.size w w1 := by rw [← hw1]; exact (Below.refl _ _).alloc (Nat.le_refl _) _
  have hz1 : w1.heap.size = w.heap.size + 1 := by rw [← hw1]; simp
  clear hw1
  have HZ1 := Lib.hid hz1
  clear hz1
  refine (concat_any pv vs ps w1 (hP.below hb1 (Nat.le_refl _)) hc0 (by rw [← HBS.out]; omega)).mono ?_
  rw [← HBS.out]
  rintro e w2 ⟨v, rfl, hown, hb2⟩
  obtain ⟨a2, c2, hv2⟩ := (BSl.of_owns hown).len
  rw [hv2] at hown ⊢
  clear hv2
  have hz2 := hb2.size
  go_wp2_with (at_builtin; refine wpList_append_own _ rfl (.tmp 16) (.tmp 17) 28 rfl w1.heap.size 5 i0 (.int .u8 0) 1 1 Tryd.underlying28 HI.out HZ.out H1.out H2.out rfl (by decide) _ _ _ rfl (hown.alloc _) ⟨w2.heap.size, 0, none⟩ 1 1 (c8l [128]) rfl rfl (cell_one_new _ _ _) (c8l_one _) (by unfold maxLen; omega) (by omega) (by simp; omega) ?_)
  intro v3 w3 hown3 hg3 _
  rw [← c8l_append] at hown3
  have hb3 : Below w1.heap.size w1 w3 := (hb2.alloc hz2 _).grown hg3 (by simp; omega) (fun g hg => owns_block hown hg)
  have hz3 := hb3.size
  have hl3 : (bs ++ [128]).length = bs.length + 1 := by simp
  rw [← hl3] at hown3
  obtain ⟨a3, c3, hv3⟩ := (BSl.of_owns hown3).len
  rw [hv3] at hown3 ⊢
  rw [hl3] at hown3 ⊢
  clear hv3 hown hl3 hg3 hb2 hz2
  have HPZ := Lib.hid (padZ_eq bs.length)
  have hpl : padZ bs.length ≤ 64 := by unfold padZ; omega
  go_wp2_with (at_builtin; refine wpList_zeros_own rfl (.tmp 19) (.tmp 24) rfl w1.heap.size (bs.length + 1) (padZ bs.length) _ (bs ++ [128]) rfl (congrArg (Value.int IntKind.i64) HPZ.out) hown3 (by omega) (by omega) hz3 ?_)
  intro v4 w4 hown4 hg4
  have hb4 : Below w1.heap.size w1 w4 := hb3.grown hg4 hz3 (fun g hg => owns_block hown3 hg)
  clear hown3 hg4 hb3 hz3
  have hown5 : w4.ownsRow w1.heap.size 5 1 v4 (padTo bs 0).length (c8l (padTo bs 0)) := by
    rw [padTo_length]; simpa [padTo, pad0] using hown4
  clear hown4
  go_wp2
  go_loopw [3, 26] (ShaL bs w1) (fun _ i _ => 8 - (intOf i).toNat)
  case atStart => exact ⟨0, by omega, rfl, hown5, hb4⟩
  case round =>
    obtain ⟨k, hk, rfl, hown6, hb6⟩ := hrel
    have hl6 := padTo_length bs k
    have hz6 := hb6.size
    by_cases h8 : k < 8
    · have d8 : decide ((k : Int) < 8) = true := decide_eq_true (by omega)
      have hle : (padTo bs k).length ≤ 200000000000 := by omega
      have HE := Lib.hid (lenB_eq bs.length k)
      have HL6 := Lib.hid hl6
      clear hl6
      go_wp2_with (at_builtin; refine wpList_append_own _ rfl (.tmp 29) (.tmp 36) 28 rfl w1.heap.size 5 i0 (.int .u8 0) 1 1 Tryd.underlying28 HI.out HZ.out H1.out H2.out rfl (by decide) _ _ _ rfl (hown6.alloc _) ⟨wr.heap.size, 0, none⟩ 1 1 [.int .u8 ((bs.length : Int) * 8 / 2 ^ (56 - 8 * k) % 256)] rfl rfl (cell_one_new _ _ _) (by simp [Value.oneCell']) (by unfold maxLen; omega) (by omega) (by simp; omega) ?_)
      intro v7 w7 hown7 hg7 _
      rw [HE.out] at hown7
      have hb7 : Below w1.heap.size w1 w7 := (hb6.alloc hz6 _).grown hg7 (by simp; omega) (fun g hg => owns_block hown6 hg)
      have hown8 : w7.ownsRow w1.heap.size 5 1 v7 (padTo bs (k + 1)).length (c8l (padTo bs (k + 1))) := by
        rw [padTo_succ, List.length_append, c8l_append]; exact hown7
      clear hown7 hown6 hg7
      go_wp2
      go_roundw
      case rel => exact ⟨k + 1, by omega, by go_num, hown8, hb7⟩
      case measure => simp [intOf]; omega
    · obtain rfl : k = 8 := by omega
      have d8 : decide (((8 : Nat) : Int) < 8) = false := by decide
      have d8' : decide ((8 : Int) < 8) = false := by decide
      rcases hown6.2 with ⟨rfl, h0⟩ | ⟨g, cap, cur, rfl, hbg, hg, hnc, hcm, hcs, htake⟩
      · omega
      have hpl8 := pad_length bs
      have hbl8 := blocks_le bs
      have HRD : Hid (∀ j, j < 64 * blocks bs → wr.cell? ⟨g, j, none⟩ = some (.int .u8 (N8 (at8 (padTo bs 8) j)))) := by
        intro j hj
        rcases BSl.of_owns hown6 with ⟨h, _⟩ | ⟨b', o', c', e', _, _, hx⟩ | ⟨_, _, h⟩
        rotate_right
        · rw [h] at hpl8; simp only [List.length_nil] at hpl8; omega
        · cases h
        · cases e'
          have := hx j (by rw [hpl8]; exact hj)
          rwa [Nat.zero_add] at this
      have hgl : g < wr.heap.size := (Array.getElem?_eq_some_iff.1 hg).1
      rw [hpl8] at hnc ⊢
      clear hown6 hg hcs htake hl6 hpl8
      have HRS : Hid (wr.rangeAt 2 0 (cwl S0)) := by
        intro j v hj
        have hj8 : j < 8 := by have := (List.getElem?_eq_some_iff.1 hj).1; simpa [cwl, S0] using this
        rw [Nat.zero_add, hb6.cell (p := ⟨2, j, none⟩) (by have := HZ1.out; simp; omega), hb1.cell (p := ⟨2, j, none⟩) (by simp; omega), HS.out j hj8, ← hj]
        have := cw_at S0 j hj8
        rw [cw, List.getElem?_toArray] at this
        exact this.symm
      go_wp2_with (first | (refine wpList_load_mid rfl 161 (.global 2) rfl 2 0 rfl (cwl S0) _ HRS.out Tryd.underlying161 rfl info88 ?_) | (refine wpList_store_row rfl 161 (.tmp 6) (.tmp 39) rfl wr.heap.size (cw S0) rfl rfl 161 _ (row_new _ _ _) info88 rfl (cw_one _) ?_))
      obtain ⟨w5, hw5⟩ : ∃ w5, w5 = (wr.alloc (.cells #[.int .u32 0, .int .u32 0, .int .u32 0, .int .u32 0, .int .u32 0, .int .u32 0, .int .u32 0, .int .u32 0] 161)).setRow wr.heap.size (cw S0) := ⟨_, rfl⟩
      rw [← hw5]
      have hb5 : Below wr.heap.size wr w5 := by rw [hw5]; exact below_setRow ((Below.refl _ _).alloc (Nat.le_refl _) _) (Nat.le_refl _) _
      have HX5 : Hid (w5.heap[wr.heap.size]? = some (.cells (cw S0) 161 (0, 0))) := by rw [hw5]; exact setRow_heap _ _ _ _ _ _ (row_new _ _ _)
      have HZ5 : Hid (w5.heap.size = wr.heap.size + 1) := by rw [hw5]; simp [Hid]
      clear hw5
      refine (chunk_any _ _ _ _).mono ?_
      rintro e w6 ⟨rfl, hw6⟩
      have hb56 : Below w5.heap.size w5 w6 := by rw [← hw6]; exact ((Below.refl _ _).alloc (Nat.le_refl _) _).alloc (by simp) _
      have hz6' : w6.heap.size = w5.heap.size + 2 := by rw [← hw6]; simp
      have hx1 : w6.cell? ⟨w5.heap.size, 0, none⟩ = some (.slice (some ⟨g, 0, none⟩) (64 * blocks bs) cap) := by rw [← hw6]; simp
      have hx2 : w6.cell? ⟨w5.heap.size + 1, 0, none⟩ = some (.int .i64 64) := by
        rw [← hw6]
        have := World.cell?_alloc_new (w5.alloc (.cells #[.slice (some ⟨g, 0, none⟩) (64 * blocks bs) cap] 28)) #[.int .i64 64] 3 0
        simp
      clear hw6
      have HX1 := Lib.hid hx1
      have HX2 := Lib.hid hx2
      have HZ6 := Lib.hid hz6'
      clear hx1 hx2 hz6'
      go_wp2
      have hbm : 1 ≤ blocks bs := by unfold blocks padZ; omega
      refine wpIn_wide.1 (wpIn_rangeFunc_ownG (F := Fence.wide) (n := 7) rfl (by decide) (gf := 97) (lb := #[.pointer (some ⟨w5.heap.size, 0, none⟩), .pointer (some ⟨w5.heap.size + 1, 0, none⟩)]) rfl trivial (enters_of Tryd.func97 (by kernel_rfl) rfl)
        (chunk_stops w5.heap.size g (blocks bs) cap (by omega) hnc w6 (by have := HZ6.out; omega) HX1.out HX2.out) KB.trans (kb_put (by have := HZ6.out; omega)) (Below.refl _ _) (fun _ => rfl)
        (fun pre W => W.heap[wr.heap.size]? = some (.cells (cw (stL bs pre)) 161 (0, 0)) ∧ But wr.heap.size w6 W) (fun _ _ _ => False)
        (own_st (by have := HZ6.out; have := HZ5.out; omega)) (fun _ _ _ _ _ h _ _ => h.elim)
        ⟨by rw [hb56.block _ (by have := HZ5.out; omega)]; exact HX5.out, But.of_below (Below.refl _ _)⟩
        (fun x => { tmps := #[pv, undef, .pointer (some ⟨w.heap.size, 0, none⟩), .slice (some ⟨g, 0, none⟩) (64 * blocks bs) cap, .int .u64 ((bs.length : Int) * 8), u5, .pointer (some ⟨wr.heap.size, 0, none⟩), chunkV g (x % blocks bs), undef, undef, pv, .slice a2 bs.length c2, .slice a2 bs.length c2, .int .i64 bs.length, .int .u64 bs.length, .int .u64 ((bs.length : Int) * 8), .slice a2 bs.length c2, .slice (some ⟨w2.heap.size, 0, none⟩) 1 1, .slice a3 (bs.length + 1) c3, .slice a3 (bs.length + 1) c3, .slice a3 (bs.length + 1) c3, .int .i64 ((bs.length : Int) + 1), .int .i64 (((bs.length : Int) + 1) % 64), .int .i64 (120 - ((bs.length : Int) + 1) % 64), .int .i64 ((120 - ((bs.length : Int) + 1)) % 64), v4, .int .i64 8, .bool false, u28, u29, u30, u31, u32, u33, u34, u35, u36, u37, u38, .agg (cwl S0).toArray, .slice (some ⟨g, 0, none⟩) (64 * blocks bs) cap, .func (.func 97) #[] #[.pointer (some ⟨w5.heap.size, 0, none⟩), .pointer (some ⟨w5.heap.size + 1, 0, none⟩)], chunkV g (x % blocks bs), undef, undef, undef, undef, undef, undef, undef, undef, undef, undef, undef, undef, undef, undef, undef, undef, undef, undef, undef], defers := [] }) ?assign ?body ?done ?stop)
      case assign =>
        intro l x W K hK
        gi_wp2
        exact hK
      case body =>
        rintro l pre x W ⟨hst, hbut⟩ _
        have hxm : x % blocks bs < blocks bs := Nat.mod_lt _ (by omega)
        have hgW : W.heap[g]? = wr.heap[g]? := (hbut.block g (by have := HZ6.out; have := HZ5.out; omega) (by omega)).trans ((hb56.block g (by have := HZ5.out; omega)).trans (hb5.block g hgl))
        have h3W : W.heap[3]? = w.heap[3]? := (hbut.block 3 (by have := HZ6.out; have := HZ5.out; have := HZ1.out; omega) (by have := HZ1.out; omega)).trans ((hb56.block 3 (by have := HZ5.out; have := HZ1.out; omega)).trans ((hb5.block 3 (by have := HZ1.out; omega)).trans ((hb6.block 3 (by have := HZ1.out; omega)).trans (hb1.block 3 h3))))
        have hWs := hbut.size
        have HCW : Hid (∀ i, i < 64 → W.cell? ⟨g, 64 * (x % blocks bs) + i, none⟩ = some (.int .u8 (N8 (at8 (blk (padTo bs 8) (x % blocks bs)) i)))) := fun i hi => by
          rw [World.cell?_of_block (w := wr) (a := ⟨g, 64 * (x % blocks bs) + i, none⟩) hgW, HRD.out _ (by omega), at8_blk _ _ _ hi]
        have HKW : Hid (GlobK W) := fun i hi => by rw [World.cell?_of_block (w := w) (a := ⟨3, i, none⟩) h3W]; exact HK.out i hi
        have HST := Lib.hid hst
        clear hst hgW h3W
        gi_wp2
        unfold chunkV
        refine ⟨trivial, (CallsIn.inRound l (callsIn_wide.2 (take_any wr.heap.size g (64 * (x % blocks bs)) 64 (stL bs pre) (blk (padTo bs 8) (x % blocks bs)) W (by have := HZ6.out; have := HZ5.out; omega) (by have := HZ6.out; have := HZ5.out; omega) (stL_length _ _) HST.out HCW.out (by decide) HKW.out (by have := HZ6.out; have := HZ5.out; have := HZ1.out; omega)))).mono ?_⟩
        rintro e W2 ⟨rfl, hst2, hbut2⟩
        have HST2 := Lib.hid hst2
        clear hst2
        gi_wp2
        refine ⟨⟨hbut2.size, fun k o hk ho _ => (hbut2.block k (Array.getElem?_eq_some_iff.1 ho).1 (by have := HZ6.out; have := HZ5.out; omega)).trans ho⟩, ⟨hbut2.block _ (by have := HZ6.out; omega) (by have := HZ5.out; omega), hbut2.block _ (by have := HZ6.out; omega) (by have := HZ5.out; omega)⟩, by rw [stL_snoc]; exact HST2.out, ?_⟩
        exact ⟨hbut2.os.trans hbut.os, hbut2.tape.trans hbut.tape, hbut2.output.trans hbut.output, Nat.le_trans hbut.size hbut2.size, fun k hk hne => (hbut2.block k (Nat.lt_of_lt_of_le hk hbut.size) hne).trans (hbut.block k hk hne)⟩
      case done =>
        rintro D ys W hD rfl ⟨hst, hbut⟩ hKD
        rw [stL_range bs _ (Nat.le_refl _)] at hst
        have HST := Lib.hid hst
        have HKD := Lib.hid hKD
        clear hst hKD
        have HRW : Hid (W.heap[w.heap.size]? = some (.cells (c8 (List.replicate 32 0)) 130 (0, 0))) := by
          show _ = _
          rw [hbut.block _ (by have := HZ6.out; have := HZ5.out; have := HZ1.out; omega) (by have := HZ1.out; omega), hb56.block _ (by have := HZ5.out; have := HZ1.out; omega), hb5.block _ (by have := HZ1.out; omega), hb6.block _ (by have := HZ1.out; omega)]
          exact HR1.out
        have HBW : Hid (Below w.heap.size w W) := by
          have a1 := hb1.trans ((hb6.mono (by have := HZ1.out; omega)).trans ((hb5.mono (by have := HZ1.out; omega)).trans (hb56.mono (by have := HZ5.out; have := HZ1.out; omega))))
          exact a1.trans ⟨hbut.os, hbut.tape, hbut.output, hbut.size, fun k hk => hbut.block k (by have := HZ6.out; have := HZ5.out; have := HZ1.out; omega) (by have := HZ1.out; omega)⟩
        have hWz : wr.heap.size < W.heap.size := by have := hbut.size; have := HZ6.out; have := HZ5.out; omega
        have hRz : w.heap.size < wr.heap.size := by have := HZ1.out; omega
        go_wp2
        obtain ⟨wo, rfl⟩ : ∃ wo : World, wo = wr := ⟨_, rfl⟩
        go_loopw [45] (ShaO (stTo bs (blocks bs)) W) (fun i _ => 32 - (intOf i).toNat)
        case atStart => exact ⟨0, by omega, rfl, row_new8 W, (Below.refl _ _).alloc (Nat.le_refl _) _⟩
        case round =>
          obtain ⟨k, hk, rfl, ho, hb9⟩ := hrel
          have HO := Lib.hid ho
          clear ho
          by_cases h32 : k < 32
          · have d32 : decide ((k : Int) < 32) = true := decide_eq_true (by omega)
            have cs : wr.cell? ⟨wo.heap.size, k / 4, none⟩ = some (.int .u32 (N32 (at32 (stTo bs (blocks bs)) (k / 4)))) := by
              rw [hb9.cell (p := ⟨wo.heap.size, k / 4, none⟩) hWz]; exact row_cell HST.out _ (by rw [stTo_length]; omega)
            have co := row8_cell HO.out k (by rw [outTo_length]; exact h32)
            have fo := row_free HO.out k
            have HE := Lib.hid (outB_eq (stTo bs (blocks bs)) k)
            have HF := Lib.hid (row8_set HO.out k (outB (stTo bs (blocks bs)) k))
            go_wp2
            go_roundw
            case rel =>
              rw [HE.out]
              exact ⟨k + 1, by omega, by go_num, HF.out, hb9.setCell (Nat.le_refl _) _⟩
            case measure => simp [intOf]; omega
          · have d32 : decide ((k : Int) < 32) = false := decide_eq_false (by omega)
            obtain rfl : k = 32 := by omega
            have HI24 : Hid ((Tryd.prog.info? 130).map (·.size) = some (c8 (outTo (stTo bs (blocks bs)) 32)).size) := by rw [c8_size, outTo_length]; exact info24
            have HR9 : Hid (wr.heap[w.heap.size]? = some (.cells (c8 (List.replicate 32 0)) 130 (0, 0))) := by
              show _ = _
              rw [hb9.block _ (by omega)]; exact HRW.out
            have HQ : Hid ((c8 (List.replicate 32 0)).size = (c8 (outTo (stTo bs (blocks bs)) 32)).size) := by rw [c8_size, c8_size, outTo_length]; simp [Hid]
            go_wp2_with (first | (refine wpList_load_row rfl 130 (.tmp 8) rfl W.heap.size rfl 130 _ (0, 0) _ HO.out Tryd.underlying130 rfl HI24.out ?_) | (refine wpList_store_row rfl 130 (.tmp 2) (.tmp 61) rfl w.heap.size (c8 (outTo (stTo bs (blocks bs)) 32)) rfl rfl 130 _ HR9.out HI24.out HQ.out (c8_one _) ?_))
            have hD1 : wr.heap[D]? = some (.deferred (some [])) := (hb9.block D (Array.getElem?_eq_some_iff.1 HKD.out).1).trans HKD.out
            have hDR : D ≠ w.heap.size := by have := HZ6.out; have := HZ5.out; omega
            have hD2 : (wr.setRow w.heap.size (c8 (outTo (stTo bs (blocks bs)) 32))).heap[D]? = some (.deferred (some [])) := (setRow_other _ _ _ _ hDR).trans hD1
            refine ⟨by simp, .inl ⟨_, _, rfl, run_takeDeferred hD2, ?_⟩⟩
            have hR1 : (wr.setRow w.heap.size (c8 (outTo (stTo bs (blocks bs)) 32))).heap[w.heap.size]? = some (.cells (c8 (outTo (stTo bs (blocks bs)) 32)) 130 (0, 0)) := setRow_heap _ _ _ _ _ _ HR9.out
            have hR2 : ((wr.setRow w.heap.size (c8 (outTo (stTo bs (blocks bs)) 32))).putObj D (.deferred none)).heap[w.heap.size]? = some (.cells (c8 (outTo (stTo bs (blocks bs)) 32)) 130 (0, 0)) :=
              ((grownBy_putObj' _ D (.deferred none)).block _ (Array.getElem?_eq_some_iff.1 hR1).1 (fun e => by cases e; exact hDR rfl)).trans hR1
            refine ⟨.agg (c8 (shaB bs)), results_cell_row (p := 2) (ty := 130) rfl _ _ w.heap.size 130 _ (0, 0) _ rfl hR2 Tryd.underlying130 rfl HI24.out, by rw [← HBS.out], ?_⟩
            have hfin : Below w.heap.size w (wr.setRow w.heap.size (c8 (outTo (stTo bs (blocks bs)) 32))) := below_setRow (HBW.out.trans (hb9.mono (by omega))) (Nat.le_refl _) _
            exact hfin.trans (belowK_b (w := w) (Nat.le_refl _) _ D _ _ (by have := HZ6.out; have := HZ5.out; omega) hD2 rfl rfl)
      case stop =>
        rintro D c pre W _ _ h _
        exact h.elim
end Go.Proofs.YtljmigbpmcacnaaDoor
namespace Go.Proofs.YtljmigbpmcacnaaDoor
open Go.RowKit
attribute [local go_sem] u8_bits_xor
/-- A key, brought to 64 bytes, the first k of them changed. -/
def keyW (key : List UInt8) : List UInt8 := key ++ List.replicate (64 - key.length) 0
def chgTo (key : List UInt8) (c : UInt8) : Nat → List UInt8
  | 0 => keyW key
  | k + 1 => (chgTo key c k).set k (at8 (chgTo key c k) k ^^^ c)
theorem keyW_length (key : List UInt8) (h : key.length ≤ 64) : (keyW key).length = 64 := by simp [keyW]; omega
theorem chgTo_length (key : List UInt8) (c : UInt8) (k : Nat) (h : key.length ≤ 64) : (chgTo key c k).length = 64 := by
  induction k with
  | zero => exact keyW_length key h
  | succ k ih => simp [chgTo, ih]
def chg (key : List UInt8) (c : UInt8) : List UInt8 := chgTo key c 64
theorem chg_length (key : List UInt8) (c : UInt8) (h : key.length ≤ 64) : (chg key c).length = 64 := chgTo_length key c 64 h
theorem info5s : (Tryd.prog.info? 5).map (·.size) = some 1 := by kernel_rfl
theorem make64 (w : World) : (Instr.makeSlice 28 (.int .i64 64) (.int .i64 64)).run Tryd.prog w = .ok (.slice (some ⟨w.heap.size, 0, none⟩) 64 64) (w.alloc (.cells (c8l (List.replicate 64 0)).toArray 5)) := by kernel_rfl
theorem splice_key (key : List UInt8) (_h : key.length ≤ 64) : splice (c8l (List.replicate 64 0)) 0 (c8l key) = c8l (keyW key) := by
  unfold splice keyW
  rw [List.take_zero, List.nil_append, c8l_append, Nat.zero_add, c8l_length]
  congr 1
  unfold c8l
  rw [← List.map_drop, List.drop_replicate]
def ChgR (key : List UInt8) (c : UInt8) (w : World) (i : Value) (wr : World) : Prop :=
  ∃ k : Nat, k ≤ 64 ∧ i = .int .i64 k ∧ wr.heap[w.heap.size]? = some (.cells (c8 (chgTo key c k)) 5 (0, 0)) ∧ Below w.heap.size w wr
def ChgP (key : List UInt8) (c : UInt8) (w : World) (e : Ending) (w' : World) : Prop :=
  e = .returned (.slice (some ⟨w.heap.size, 0, none⟩) 64 64) ∧ w'.heap[w.heap.size]? = some (.cells (c8 (chg key c)) 5 (0, 0)) ∧ Below w.heap.size w w'
set_option maxHeartbeats 1000000 in
theorem changed_at (a : Option Addr) (n cp : Nat) (key : List UInt8) (c : UInt8) (w : World) (hn : n = key.length) (h : BSl w (.slice a n cp) key) (hl : key.length ≤ 64) :
    Calls Tryd.prog 81 #[.slice a n cp, .int .u8 (N8 c)] w (ChgP key c w) := by
  have hb0 : Below w.heap.size w (w.alloc (.cells (c8l (List.replicate 64 0)).toArray 5)) := (Below.refl _ _).alloc (Nat.le_refl _) _
  have h0 := h.below hb0 (Nat.le_refl _)
  have HN := Lib.hid hn
  have HMK := Lib.hid make64
  have hpos : 0 < (c8l key).length → (some ⟨w.heap.size, 0, none⟩ : Option Addr) = some ⟨w.heap.size, 0, none⟩ ∧ ∃ ad, a = some ad ∧ ∀ j v, (c8l key)[j]? = some v → (w.alloc (.cells (c8l (List.replicate 64 0)).toArray 5)).cell? (ad.add j) = some v := by
    intro hp
    rw [c8l_length] at hp
    rcases h0 with ⟨e, hk⟩ | ⟨b, off, c1, e, hc1, hlt, hcell⟩ | ⟨_, e, hk⟩
    rotate_right
    · subst hk; simp at hp
    · subst hk; simp at hp
    · cases e
      exact ⟨rfl, _, rfl, news_of hcell⟩
  have HP := Lib.hid hpos
  clear hpos h0 h
  have hmk : ∀ w : World, (Instr.makeSlice 28 (.int .i64 64) (.int .i64 64)).run Tryd.prog w = .ok (.slice (some ⟨w.heap.size, 0, none⟩) 64 64) (w.alloc (.cells (c8l (List.replicate 64 0)).toArray 5)) := make64
  clear hn
  have hn64 : n ≤ 64 := by have := HN.out; omega
  go_enter Tryd.func81, Tryd.ntmps81
  go_wp2_with (refine wpList_copy_splice rfl (.tmp 8) (.tmp 9) 28 28 rfl 5 Tryd.underlying28 info5s (some ⟨w.heap.size, 0, none⟩) a 64 64 n cp rfl rfl w.heap.size 0 (c8l (List.replicate 64 0)) 5 (row_new _ _ _) (c8l key) (by rw [c8l_length, HN.out]; exact (Nat.min_eq_left (by omega)).symm) HP.out (by rw [c8l_length, c8l_length]; simp; omega) (c8l_one _) w.heap.size w hb0 (Nat.le_refl _) ?_; intro w2 HG2 hb2)
  rw [splice_key key hl] at HG2
  clear hmk
  go_wp2
  go_loopw [13] (ChgR key c w) (fun i _ => 64 - (intOf i).toNat)
  case atStart => exact ⟨0, by omega, rfl, HG2.out, hb2⟩
  case round =>
    obtain ⟨k, hk, rfl, hG, hb3⟩ := hrel
    have HG := Lib.hid hG
    clear hG
    by_cases h64 : k < 64
    · have d64 : decide ((k : Int) < 64) = true := decide_eq_true (by omega)
      have ck := row8_cell HG.out k (by rw [chgTo_length _ _ _ hl]; exact h64)
      have fk := row_free HG.out k
      have HF := Lib.hid (row8_set HG.out k (at8 (chgTo key c k) k ^^^ c))
      go_wp2
      go_roundw
      case rel => exact ⟨k + 1, by omega, by go_num, HF.out, hb3.setCell (Nat.le_refl _) _⟩
      case measure => simp [intOf]; omega
    · have d64 : decide ((k : Int) < 64) = false := decide_eq_false (by omega)
      obtain rfl : k = 64 := by omega
      go_wp2
      go_ret
      exact ⟨rfl, HG.out, hb3⟩
end Go.Proofs.YtljmigbpmcacnaaDoor
namespace Go.Proofs.YtljmigbpmcacnaaDoor
open Go.RowKit
theorem info22 : (Tryd.prog.info? 28).map (fun i => (i.zero, i.size, i.bytes)) = some (some (.slice none 0 0), 1, 24) := by kernel_rfl
def OwnedV (w : World) (n : Nat) (xs : List Value) (e : Ending) (w' : World) : Prop :=
  ∃ v, e = .returned v ∧ w'.ownsRow w.heap.size 28 1 v n xs ∧ Below w.heap.size w w'
set_option maxHeartbeats 400000 in
theorem clone_nil (w : World) : Calls Tryd.prog 80 #[.slice none 0 0] w (OwnedV w 0 []) := by
  have he := fun w : World => Lib.run_eql_slice_nil (P := Tryd.prog) w 27 28 none 0 0 0 0 Tryd.underlying27
  go_enter Tryd.func80, Tryd.ntmps80
  go_wp2
  go_ret
  exact ⟨_, rfl, ⟨rfl, .inl ⟨rfl, rfl⟩⟩, Below.refl _ _⟩
set_option maxHeartbeats 400000 in
theorem clone_some (b off c : Nat) (vs : List Value) (w : World) (hlt : b < w.heap.size) (hn : vs.length ≤ 1000000000)
    (hcell : ∀ j u, vs[j]? = some u → w.cell? ((⟨b, off, none⟩ : Addr).add j) = some u) (h1 : ∀ u ∈ vs, u.oneCell' = true) :
    Calls Tryd.prog 80 #[.slice (some ⟨b, off, none⟩) vs.length c] w (OwnedV w vs.length vs) := by
  obtain ⟨i0, hi, hz0, hz1, hz2⟩ := info_parts info22
  have HI := Lib.hid hi
  have HZ := Lib.hid hz0
  have H1 := Lib.hid hz1
  have H2 := Lib.hid hz2
  clear hi hz0 hz1 hz2
  have he := fun w : World => Lib.run_eql_slice_nil (P := Tryd.prog) w 27 28 (some ⟨b, off, none⟩) vs.length c 0 0 Tryd.underlying27
  have hb0 : Below w.heap.size w (w.alloc (.cells #[] 28)) := (Below.refl _ _).alloc (Nat.le_refl _) _
  have hown : (w.alloc (.cells #[] 28)).ownsRow w.heap.size 28 1 (.slice (some ⟨w.heap.size, 0, none⟩) 0 0) 0 [] := ⟨rfl, .inr ⟨w.heap.size, 0, #[], rfl, Nat.le_refl _, row_new _ _ _, Nat.le_refl _, by unfold maxLen; omega, rfl, rfl⟩⟩
  have HC : Hid (∀ j u, vs[j]? = some u → (w.alloc (.cells #[] 28)).cell? ((⟨b, off, none⟩ : Addr).add j) = some u) := fun j u hu => by
    have := hcell j u hu
    rw [Addr.add_mid] at this ⊢
    rw [hb0.cell (p := ⟨b, off + j, none⟩) hlt]; exact this
  clear hcell
  go_enter Tryd.func80, Tryd.ntmps80
  go_wp2_with (at_builtin; refine wpList_append_own _ rfl (.tmp 5) (.tmp 6) 27 rfl w.heap.size 28 i0 (.slice none 0 0) 1 24 Tryd.underlying27 HI.out HZ.out H1.out H2.out rfl (by decide) _ _ _ rfl hown ⟨b, off, none⟩ vs.length c vs rfl (by omega) HC.out h1 (by unfold maxLen; omega) (by omega) (by simp) ?_)
  intro v' w2 hown2 hg2 _
  have hb2 : Below w.heap.size w w2 := hb0.grown hg2 (by simp) (fun g hg => owns_block hown hg)
  go_wp2
  go_ret
  exact ⟨_, rfl, hown2, hb2⟩
/-- What a slice of slices, with one put ahead, is. -/
def InsP (base : Nat) (row : Option Nat) (w : World) (cv : Value) (n : Nat) (vs : List Value) (e : Ending) (w' : World) : Prop :=
  ∃ v, e = .returned v ∧ w'.ownsRow base 28 1 v (n + 1) (cv :: vs) ∧ w.grownBy w' row
theorem grown_of_below {w w' : World} (h : Below w.heap.size w w') (row : Option Nat) : w.grownBy w' row := ⟨h.os, h.tape, h.output, h.size, fun k hk _ => h.block k hk⟩
set_option maxHeartbeats 400000 in
theorem insert_empty (base vb : Nat) (sv cv : Value) (w : World) (hown : w.ownsRow base 28 1 sv 0 []) (hbase : base ≤ w.heap.size) (hcell : w.cell? ⟨vb, 0, none⟩ = some cv) (h1 : cv.oneCell' = true) :
    Calls Tryd.prog 79 #[sv, .int .i64 0, .slice (some ⟨vb, 0, none⟩) 1 1] w (InsP base sv.ownBlock w cv 0 []) := by
  obtain ⟨i0, hi, hz0, hz1, hz2⟩ := info_parts info22
  have HI := Lib.hid hi
  have HZ := Lib.hid hz0
  have H1 := Lib.hid hz1
  have H2 := Lib.hid hz2
  clear hi hz0 hz1 hz2
  have HC : Hid (∀ j u, [cv][j]? = some u → w.cell? ((⟨vb, 0, none⟩ : Addr).add j) = some u) := fun j u hu => by
    have hj : j = 0 := by have := (List.getElem?_eq_some_iff.1 hu).1; simpa using this
    subst hj
    rw [Addr.add_mid, hcell, ← hu]; rfl
  clear hcell
  rcases hown.2 with ⟨rfl, _⟩ | ⟨g, cap, cur, rfl, hg, hh, _⟩
  all_goals
    go_enter Tryd.func79, Tryd.ntmps79
    go_wp2_with (at_builtin; refine wpList_append_own _ rfl (.tmp 23) (.tmp 24) 27 rfl base 28 i0 (.slice none 0 0) 1 24 Tryd.underlying27 HI.out HZ.out H1.out H2.out rfl (by decide) _ _ _ rfl hown ⟨vb, 0, none⟩ 1 1 [cv] rfl rfl HC.out (by simpa using h1) (by unfold maxLen; omega) (by omega) hbase ?_)
    intro v' w2 hown2 hg2 _
    go_wp2
    go_ret
    exact ⟨_, rfl, hown2, hg2⟩
theorem zeroCells_nil (k : Nat) : Builtin.zeroCells (Value.slice none 0 0).cells k = (List.replicate k (Value.slice none 0 0)).toArray := by
  apply Array.ext'
  simp only [Builtin.zeroCells, Value.cells]
  apply List.ext_getElem
  · simp
  · intro i h1 h2
    simp [Nat.mod_one]
theorem info22s : (Tryd.prog.info? 28).map (·.size) = some 1 := by kernel_rfl
theorem one_pos {w : World} {g b off : Nat} {cv : Value} (hcell : w.cell? ⟨b, 0, none⟩ = some cv) :
    0 < [cv].length → (some ⟨g, off, none⟩ : Option Addr) = some ⟨g, off, none⟩ ∧ ∃ ad, (some ⟨b, 0, none⟩ : Option Addr) = some ad ∧ ∀ j v, [cv][j]? = some v → w.cell? (ad.add j) = some v := by
  refine fun _ => ⟨rfl, _, rfl, fun j v hv => ?_⟩
  have hj : j = 0 := by have := (List.getElem?_eq_some_iff.1 hv).1; simpa using this
  subst hj
  rw [Addr.add_mid, hcell, ← hv]; rfl
theorem one_src {w : World} {b : Nat} {cv : Value} (hcell : w.cell? ⟨b, 0, none⟩ = some cv) : ∀ j v, [cv][j]? = some v → w.cell? ((⟨b, 0, none⟩ : Addr).add j) = some v := by
  intro j v hv
  have hj : j = 0 := by have := (List.getElem?_eq_some_iff.1 hv).1; simpa using this
  subst hj
  rw [Addr.add_mid, hcell, ← hv]; rfl
theorem row_pos {w : World} {g b off : Nat} {vs : List Value} (h : ∀ j v, vs[j]? = some v → w.cell? ((⟨b, 0, none⟩ : Addr).add j) = some v) :
    0 < vs.length → (some ⟨g, off, none⟩ : Option Addr) = some ⟨g, off, none⟩ ∧ ∃ ad, (some ⟨b, 0, none⟩ : Option Addr) = some ad ∧ ∀ j v, vs[j]? = some v → w.cell? (ad.add j) = some v :=
  fun _ => ⟨rfl, _, rfl, h⟩
theorem spl_a (nc : Nat) (cv : Value) (vs : List Value) (h : vs.length + 1 ≤ nc) :
    (splice (splice (List.replicate nc (Value.slice none 0 0)) 0 [cv]) 1 vs).length = nc ∧ (splice (splice (List.replicate nc (Value.slice none 0 0)) 0 [cv]) 1 vs).take (vs.length + 1) = cv :: vs := by
  have hl : (splice (List.replicate nc (Value.slice none 0 0)) 0 [cv]).length = nc := by rw [length_splice _ _ _ (by simp; omega)]; simp
  refine ⟨by rw [length_splice _ _ _ (by rw [hl]; omega), hl], ?_⟩
  have e : splice (List.replicate nc (Value.slice none 0 0)) 0 [cv] = cv :: List.replicate (nc - 1) (Value.slice none 0 0) := by simp [splice]
  rw [e]
  simp [splice]
theorem spl_b (cur : List Value) (cv : Value) (vs : List Value) (h : vs.length + 1 ≤ cur.length) :
    (splice (splice cur 1 vs) 0 [cv]).length = cur.length ∧ (splice (splice cur 1 vs) 0 [cv]).take (vs.length + 1) = cv :: vs := by
  have hl : (splice cur 1 vs).length = cur.length := length_splice _ _ _ (by omega)
  refine ⟨by rw [length_splice _ _ _ (by rw [hl]; simp; omega), hl], ?_⟩
  cases cur with
  | nil => simp at h
  | cons x xs => simp [splice]
set_option maxRecDepth 100000 in
set_option maxHeartbeats 400000 in
theorem insert_grow (base vb g n cap : Nat) (cv : Value) (vs : List Value) (w : World) (hown : w.ownsRow base 28 1 (.slice (some ⟨g, 0, none⟩) n cap) n vs) (hbase : base ≤ w.heap.size) (hn : 0 < n) (hn2 : n ≤ 1000000000)
    (hcap : cap < n + 1) (hcell : w.cell? ⟨vb, 0, none⟩ = some cv) (h1 : cv.oneCell' = true) (h2 : ∀ u ∈ vs, u.oneCell' = true) (hvb : vb < w.heap.size) (hgw : g < w.heap.size) :
    Calls Tryd.prog 79 #[.slice (some ⟨g, 0, none⟩) n cap, .int .i64 0, .slice (some ⟨vb, 0, none⟩) 1 1] w (InsP base (some g) w cv n vs) := by
  obtain ⟨i0, hi, hz0, hz1, hz2⟩ := info_parts info22
  have hvl : vs.length = n := by have := hown.1; omega
  have hnc : n ≤ cap := by
    rcases hown.2 with ⟨e, _⟩ | ⟨g', cap', cur', e, _, _, h, _⟩
    · cases e
    · cases e; exact h
  have hvs : ∀ j u, vs[j]? = some u → w.cell? ((⟨g, 0, none⟩ : Addr).add j) = some u := hown.cells (g := g) rfl
  have hold := run_firstCells_some (P := Tryd.prog) w.drew i0.size 0 ⟨g, 0, none⟩ 0 cap [] (by simp) (fun j u hu => by simp at hu)
  have hr := Lib.run_append_grow_zeros (P := Tryd.prog) w 27 3 27 28 i0 (.slice none 0 0) .i64 .i64 Tryd.underlying27 Tryd.underlying3 hi hz0 (some ⟨g, 0, none⟩) 0 cap [] hold (n + 1) (by omega) (by rw [hz1]; decide) (by omega) (by omega) (by rw [hz2]; omega) (growslice_fits (by omega) (by rw [hz2]; omega))
  rw [Nat.zero_add, zeroCells_nil, zeroCells_nil] at hr
  obtain ⟨nc, hnc2⟩ : ∃ nc, nc = grownCap w (n + 1) cap 28 := ⟨_, rfl⟩
  have hge := grownCap_ge w (n + 1) cap 28
  have hle := grownCap_le_maxLen w (n + 1) cap 28 (by unfold maxLen; omega)
  rw [← hnc2] at hr hge hle
  clear hnc2
  have hcat : ([] : List Value).toArray ++ (List.replicate (n + 1) (Value.slice none 0 0)).toArray ++ (List.replicate (nc - (n + 1)) (Value.slice none 0 0)).toArray = (List.replicate nc (Value.slice none 0 0)).toArray := by
    apply Array.ext'; simp; omega
  rw [hcat] at hr
  have HR := Lib.hid hr
  clear hr hcat hold hi hz0 hz1 hz2
  obtain ⟨w1, hw1⟩ : ∃ w1, w1 = w.drew.alloc (.cells (List.replicate nc (Value.slice none 0 0)).toArray 28) := ⟨_, rfl⟩
  rw [← hw1] at HR
  have hb1 : Below w.heap.size w w1 := by rw [hw1]; exact (Below.refl _ _).drew.alloc (by simp) _
  have HG1 : Hid (w1.heap[w.heap.size]? = some (.cells (List.replicate nc (Value.slice none 0 0)).toArray 28 (0, 0))) := by rw [hw1]; exact row_new w.drew _ _
  clear hw1
  have c1 : w1.cell? ⟨vb, 0, none⟩ = some cv := (hb1.cell (p := ⟨vb, 0, none⟩) hvb).trans hcell
  have dn : (((n : Int)) == 0) = false := by simp; omega
  have dn' : ((0 : Int) == (n : Int)) = false := by simp; omega
  have dc : decide ((cap : Int) < (n : Int) + 1) = true := decide_eq_true (by omega)
  have z1 : (0 : Int) ≤ (n : Int) := by omega
  go_enter Tryd.func79, Tryd.ntmps79
  go_wp2_with (first | (at_builtin; refine Lib.wpList_append_run w rfl (.tmp 34) (.tmp 39) 27 3 rfl (.slice (some ⟨g, 0, none⟩) 0 cap) (.int .i64 ((n + 1 : Nat) : Int)) rfl rfl _ _ HR.out ?_) | (refine wpList_copy_splice rfl (.tmp 43) (.tmp 44) 27 27 rfl 28 Tryd.underlying27 info22s (some ⟨w.heap.size, 0, none⟩) (some ⟨vb, 0, none⟩) (n + 1) nc 1 1 rfl rfl w.heap.size 0 _ 28 HG1.out [cv] (by simp) (one_pos c1) (by simp; omega) (by simpa using h1) w.heap.size w hb1 (Nat.le_refl _) ?_; intro w2 HG2 hb2))
  go_frame
  have hz2 := hb2.size
  have HV2 : Hid (∀ j u, vs[j]? = some u → w2.drew.cell? ((⟨g, 0, none⟩ : Addr).add j) = some u) := fun j u hu => by
    have := hvs j u hu
    rw [Addr.add_mid] at this ⊢
    rw [hb2.drew.cell (p := ⟨g, 0 + j, none⟩) hgw]; exact this
  clear hvs
  have HG2d : Hid (w2.drew.heap[w.heap.size]? = some (.cells (splice (List.replicate nc (Value.slice none 0 0)) 0 [cv]).toArray 28 (0, 0))) := HG2.out
  have e1 : IntKind.i64.wrap 1 = 1 := by decide
  have ne1 : ¬ nc = 1 := by omega
  have q1 : (1 : Int) ≤ (n : Int) + 1 := by omega
  have q2 : (1 : Int) ≤ (nc : Int) := by omega
  have q3 : (1 : Int) < (nc : Int) := by omega
  go_still_tail 8, (by kernel_rfl)
  change wpList _ _ _ _ _ w2.drew
  refine wpList_copy_splice rfl (.tmp 50) (.tmp 53) 27 27 rfl 28 Tryd.underlying27 info22s (some ⟨w.heap.size, 1, none⟩) (some ⟨g, 0, none⟩) n (nc - 1) n cap rfl rfl w.heap.size 1 _ 28 HG2d.out vs (by simp; omega) (row_pos HV2.out) (by rw [length_splice _ _ _ (by simp; omega)]; simp; omega) h2 w.heap.size w hb2.drew (Nat.le_refl _) ?_
  intro w3 HG3 hb3
  go_wp2
  go_ret
  obtain ⟨t1, t2⟩ := spl_a nc cv vs (by omega)
  exact ⟨_, rfl, ⟨by simp [hvl], .inr ⟨w.heap.size, nc, _, rfl, hbase, HG3.out, hge, hle, by simp [t1], by simp only [Nat.mul_one]; rw [← hvl]; exact t2⟩⟩, grown_of_below hb3 _⟩
theorem size22 (w : World) : (Go.sizeOf 28).run Tryd.prog w = .ok 1 w := by
  obtain ⟨i0, hi, hz0, hz1, hz2⟩ := info_parts info22
  simp [sizeOf, typeInfo, hi, hz1]
set_option maxRecDepth 100000 in
set_option maxHeartbeats 400000 in
theorem insert_room (base vb g n cap : Nat) (cv : Value) (vs : List Value) (w : World) (hown : w.ownsRow base 28 1 (.slice (some ⟨g, 0, none⟩) n cap) n vs) (_hbase : base ≤ w.heap.size) (hn : 0 < n) (hn2 : n ≤ 1000000000)
    (hcap : n + 1 ≤ cap) (hcell : w.cell? ⟨vb, 0, none⟩ = some cv) (h1 : cv.oneCell' = true) (h2 : ∀ u ∈ vs, u.oneCell' = true) (hvg : vb ≠ g) (hvr : ∃ C, w.heap[vb]? = some (.cells C 28 (0, 0))) :
    Calls Tryd.prog 79 #[.slice (some ⟨g, 0, none⟩) n cap, .int .i64 0, .slice (some ⟨vb, 0, none⟩) 1 1] w (InsP base (some g) w cv n vs) := by
  have hvl : vs.length = n := by have := hown.1; omega
  have hvs : ∀ j u, vs[j]? = some u → w.drew.cell? ((⟨g, 0, none⟩ : Addr).add j) = some u := hown.cells (g := g) rfl
  obtain ⟨cur, hbg, hg, hcm, hcs, htake⟩ : ∃ cur : Array Value, base ≤ g ∧ w.heap[g]? = some (.cells cur 28 (0, 0)) ∧ cap ≤ maxLen ∧ cur.size = cap ∧ cur.toList.take n = vs := by
    rcases hown.2 with ⟨e, _⟩ | ⟨g', cap', cur', e, h1, h2, _, h3, h4, h5⟩
    · cases e
    · cases e; exact ⟨cur', h1, h2, h3, by simpa using h4, by simpa using h5⟩
  have HG := Lib.hid hg
  have HV := Lib.hid hvs
  clear hg hvs
  have hcmx : cap ≤ 9223372036854775807 := hcm
  have dn : (((n : Int)) == 0) = false := by simp; omega
  have dn' : ((0 : Int) == (n : Int)) = false := by simp; omega
  have dc : decide ((cap : Int) < (n : Int) + 1) = false := decide_eq_false (by omega)
  have z1 : (0 : Int) ≤ (n : Int) := by omega
  have e1 : IntKind.i64.wrap 1 = 1 := by decide
  have ne1 : ¬ cap = 1 := by omega
  have hov : (callFunc 91 #[.slice (some ⟨vb, 0, none⟩) 1 1, .slice (some ⟨g, 1, none⟩) n (cap - 1)]).run Tryd.prog w = .ok (.value (.bool false)) w := by
    obtain ⟨C, hC⟩ := hvr
    rw [run_callFunc_extern Tryd.func91 (by kernel_rfl) (by kernel_rfl) (by kernel_rfl) (e := Extern.SlicesOverlaps.overlaps #[27, 27] #[4]) (by kernel_rfl),
      Lib.run_overlaps_apart w 27 4 28 Tryd.underlying27 1 size22 ⟨vb, 0, none⟩ ⟨g, 1, none⟩ 1 1 n (cap - 1) hvg 28 28 C.size cur.size (by simp [World.shape?, hC]) (by have := HG.out; simp [World.shape?, this]) (by omega) (row_free hC 0) (row_free hC C.size)]
    rfl
  have HGd : Hid (w.drew.heap[g]? = some (.cells cur.toList.toArray 28 (0, 0))) := by rw [Array.toArray_toList]; exact HG.out
  have q1 : (1 : Int) ≤ (n : Int) + 1 := by omega
  have q2 : (1 : Int) ≤ (cap : Int) := by omega
  have q3 : (1 : Int) < (cap : Int) := by omega
  have z2 : (0 : Int) ≤ (n : Int) + 1 := by omega
  have ne0 : ¬ cap = 0 := by omega
  go_enter Tryd.func79, Tryd.ntmps79
  go_wp2
  go_still_tail 8, (by kernel_rfl)
  change wpList _ _ _ _ _ w.drew
  refine wpList_copy_own rfl (.tmp 73) (.tmp 76) 27 27 rfl 28 Tryd.underlying27 info22s g 1 n (cap - 1) ⟨g, 0, none⟩ (n + 1) cap rfl rfl cur.toList.toArray 28 HGd.out vs (by simp; omega) (fun j v hv => HV.out j v hv) (by simp; omega) h2 ?_
  have HG3 : Hid ((w.drew.setRow g (splice cur.toList 1 vs).toArray).heap[g]? = some (.cells (splice cur.toList 1 vs).toArray 28 (0, 0))) := setRow_heap _ _ _ _ _ _ HGd.out
  have hg3 : w.grownBy (w.drew.setRow g (splice cur.toList 1 vs).toArray) (some g) := ⟨rfl, rfl, rfl, by simp, fun k hk hne => setRow_other _ _ _ _ (fun e => hne (by rw [e]))⟩
  have c3 : (w.drew.setRow g (splice cur.toList 1 vs).toArray).cell? ⟨vb, 0, none⟩ = some cv := (World.cell?_of_block (setRow_other _ _ _ _ hvg)).trans hcell
  change wpList _ _ _ _ _ (w.drew.setRow g (splice cur.toList 1 vs).toArray)
  generalize w.drew.setRow g (splice cur.toList 1 vs).toArray = w3 at *
  go_wp2_with (refine wpList_copy_own rfl (.tmp 80) (.tmp 81) 27 27 rfl 28 Tryd.underlying27 info22s g 0 (n + 1) cap ⟨vb, 0, none⟩ 1 1 rfl rfl (splice cur.toList 1 vs).toArray 28 HG3.out [cv] (by simp) (one_src c3) (by simp; rw [length_splice _ _ _ (by simp; omega)]; simp; omega) (by simpa using h1) ?_)
  have e4 : splice (splice cur.toList 1 vs) 0 [cv] = cv :: (splice cur.toList 1 vs).tail := by
    have : ∀ L : List Value, splice L 0 [cv] = cv :: L.tail := fun L => by simp [splice]
    exact this _
  obtain ⟨t1, t2⟩ := spl_b cur.toList cv vs (by simp; omega)
  rw [e4] at t1 t2
  go_ret
  exact ⟨_, rfl, ⟨by simp [hvl], .inr ⟨g, cap, _, rfl, hbg, setRow_heap _ _ _ _ _ _ HG3.out, hcap, hcm, by rw [List.size_toArray, t1]; simp [hcs], by simp only [Nat.mul_one]; rw [← hvl]; exact t2⟩⟩,
    ⟨hg3.os, hg3.tape, hg3.output, by simpa using hg3.size, fun k hk hne => (setRow_other _ _ _ _ (fun e => hne (by rw [e]))).trans (hg3.block k hk hne)⟩⟩
end Go.Proofs.YtljmigbpmcacnaaDoor
