/- Part 10 of the proof: texts of the proof. -/
import Derived.Test.YtjgmpdklfcmelaaGreatDoorQJ9
import Derived.Shelf.Strings.Repeat
import Derived.Shelf.Strings.Count
import Derived.Shelf.Strings.Search3
import Derived.WalkSpells
import Derived.WalkLawsBesides
import Derived.Deep.QuietTactic
import Derived.BigQuiet
import Derived.Lib.Hide
import Derived.Deep.LoopGhost
import Derived.Test.YtjgmpdklfcmelaaGreatDoorCards
import Derived.Test.YtjgmpdklfcmelaaGreatDoorTie
import Derived.LaidMore
import Derived.ProofKit
import Derived.OpenShut
import Derived.Carry
import Derived.Deep.DeepHandedRow
import Derived.Deep.Matrix
import Derived.Lib.LaidTab
import Derived.Stop.LaidErr
namespace Go.Proofs.YtjgmpdklfcmelaaGreatDoor.V2
open Go
noncomputable section
def ltK (n : Nat) : Nat → Nat → Nat → FR → FR → FR := Nat.rec (motive := fun _ => Nat → Nat → Nat → FR → FR → FR) (fun m _ _ y s => Nat.rec s (fun _ _ => y) m)
  (fun _ ih m a b y s => Nat.rec (motive := fun _ => FR) s (fun m _ => Bool.rec (Bool.rec s (fN (Nat.div a 256) fun a => fN (Nat.div b 256) fun b => ih m a b y s) (Nat.beq (Nat.mod a 256) (Nat.mod b 256))) y (Nat.blt (Nat.mod a 256) (Nat.mod b 256))) m) n
theorem u8_lt {x y : Nat} : UInt8.ofNat (x % 256) < UInt8.ofNat (y % 256) ↔ x % 256 < y % 256 := by
  rw [UInt8.lt_iff_toNat_lt, UInt8.toNat_ofNat', UInt8.toNat_ofNat']; simp
theorem u8_eq {x y : Nat} : UInt8.ofNat (x % 256) = UInt8.ofNat (y % 256) ↔ x % 256 = y % 256 := by
  rw [← UInt8.toNat_inj, UInt8.toNat_ofNat', UInt8.toNat_ofNat']; simp
theorem ltK_eq : ∀ (n m a b : Nat) (y s : FR), ltK n m a b y s = bif decide (unpN n a < unpN m b) then y else s
  | 0, 0, a, b, y, s => by show s = _; simp [unpN]
  | 0, m + 1, a, b, y, s => by show y = _; simp [unpN]
  | n + 1, 0, a, b, y, s => by show s = _; simp [unpN]
  | n + 1, m + 1, a, b, y, s => by
    show (Bool.rec (Bool.rec s (fN (Nat.div a 256) fun a => fN (Nat.div b 256) fun b => ltK n m a b y s) (Nat.beq (Nat.mod a 256) (Nat.mod b 256))) y (Nat.blt (Nat.mod a 256) (Nat.mod b 256)) : FR) = _
    rw [fN_eq, fN_eq, ltK_eq n m]
    have h : decide (unpN (n + 1) a < unpN (m + 1) b) = (Nat.blt (Nat.mod a 256) (Nat.mod b 256) || (Nat.beq (Nat.mod a 256) (Nat.mod b 256) && decide (unpN n (Nat.div a 256) < unpN m (Nat.div b 256)))) := by
      rw [Bool.eq_iff_iff]
      simp only [unpN, List.cons_lt_cons_iff, decide_eq_true_eq, Bool.or_eq_true, Bool.and_eq_true, Nat.blt_eq, Nat.beq_eq, u8_lt, u8_eq]
      rfl
    rw [h]
    cases Nat.blt (Nat.mod a 256) (Nat.mod b 256)
    · cases Nat.beq (Nat.mod a 256) (Nat.mod b 256) <;> rfl
    · rfl
def ltC (x y : Nat) (t s : FR) : FR := ltK (bl x) (bl y) x y t s
theorem ltC_eq (x y : Nat) (t s : FR) : ltC x y t s = bif decide (unp x < unp y) then t else s := ltK_eq _ _ _ _ _ _
def insK (x : Nat) (l : List Nat) (k : List Nat → FR) : FR := List.rec (motive := fun _ => (List Nat → FR) → FR) (fun k => k [x]) (fun y m ih k => ltC y x (ih fun r => k (y :: r)) (k (x :: y :: m))) l k
def insN (x : Nat) : List Nat → List Nat
  | [] => [x]
  | y :: l => bif decide (unp y < unp x) then y :: insN x l else x :: y :: l
theorem insK_eq (x : Nat) : ∀ (l : List Nat) (k : List Nat → FR), insK x l k = k (insN x l)
  | [], _ => rfl
  | y :: l, k => by
    show ltC y x (insK x l fun r => k (y :: r)) (k (x :: y :: l)) = _
    rw [ltC_eq, insK_eq x l, insN]
    cases decide (unp y < unp x) <;> rfl
theorem insN_unp (x : Nat) : ∀ l : List Nat, (insN x l).map unp = insS (unp x) (l.map unp)
  | [] => rfl
  | y :: l => by
    rw [List.map_cons, insN, insS, ← insN_unp x l]
    cases decide (unp y < unp x) <;> rfl
def srtK (l : List Nat) (k : List Nat → FR) : FR := List.rec (motive := fun _ => (List Nat → FR) → FR) (fun k => k []) (fun x _ ih k => ih fun r => insK x r k) l k
theorem srtK_eq : ∀ (l : List Nat) (k : List Nat → FR), ∃ r, r.map unp = sortS (l.map unp) ∧ srtK l k = k r
  | [], _ => ⟨[], rfl, rfl⟩
  | x :: l, k => by
    obtain ⟨r, h1, h2⟩ := srtK_eq l fun r => insK x r k
    refine ⟨insN x r, ?_, ?_⟩
    · rw [insN_unp, h1]; rfl
    · show srtK l (fun r => insK x r k) = _
      rw [h2, insK_eq]
def risK (l : List Nat) (s : FR) : FR := List.rec (motive := fun _ => FR → FR) (fun s => s) (fun x m ih s => List.rec (motive := fun _ => FR) (ih s) (fun y _ _ => ltC x y (ih s) .bad) m) l s
theorem risK_cases : ∀ {l : List Nat} {s : FR}, risK l s ≠ .bad → risS (l.map unp) = true ∧ risK l s = s
  | [], _, _ => ⟨rfl, rfl⟩
  | [x], s, _ => ⟨rfl, rfl⟩
  | x :: y :: l, s, h => by
    have h : ltC x y (risK (y :: l) s) .bad ≠ .bad := h
    show _ ∧ ltC x y (risK (y :: l) s) .bad = s
    rw [ltC_eq] at h ⊢
    cases hd : decide (unp x < unp y) <;> rw [hd] at h
    · exact absurd rfl h
    · obtain ⟨h1, h2⟩ := risK_cases (l := y :: l) (s := s) h
      refine ⟨?_, h2⟩
      rw [List.map_cons, List.map_cons]
      unfold risS
      rw [List.map_cons] at h1
      rw [h1]
      simp [hd]
def shK (l : List Nat) (s : FR) : FR := List.rec (motive := fun _ => FR) s (fun x _ ih => gB (Nat.ble (bl x) 1000000) ih) l
theorem shK_cases : ∀ {l : List Nat} {s : FR}, shK l s ≠ .bad → shS (l.map unp) = true ∧ shK l s = s
  | [], _, _ => ⟨rfl, rfl⟩
  | x :: l, s, h => by
    have h : gB (Nat.ble (bl x) 1000000) (shK l s) ≠ .bad := h
    show _ ∧ gB (Nat.ble (bl x) 1000000) (shK l s) = s
    rw [gB_eq] at h ⊢
    cases hd : Nat.ble (bl x) 1000000 <;> rw [hd] at h
    · exact absurd rfl h
    · obtain ⟨h1, h2⟩ := shK_cases (l := l) (s := s) h
      refine ⟨?_, h2⟩
      unfold shS at h1 ⊢
      rw [List.map_cons, List.all_cons, h1, unp_length, hd]; rfl
def keysK (l : List (FV × FV)) (k : List Nat → FR) : FR := List.rec (motive := fun _ => (List Nat → FR) → FR) (fun k => k []) (fun p _ ih k => Prod.rec (fun x _ => kS (fun c => ih fun r => k (c :: r)) x) p) l k
theorem keysK_cases : ∀ {l : List (FV × FV)} {k : List Nat → FR}, keysK l k ≠ .bad → ∃ cs, keysS (αP l) = some (cs.map unp) ∧ keysK l k = k cs
  | [], _, _ => ⟨[], rfl, rfl⟩
  | (x, y) :: l, k, h => by
    have h : kS (fun c => keysK l fun r => k (c :: r)) x ≠ .bad := h
    show ∃ cs, _ ∧ kS (fun c => keysK l fun r => k (c :: r)) x = k cs
    obtain ⟨c, rfl, h1⟩ := kS_cases h
    rw [h1] at h ⊢
    obtain ⟨cs, h2, h3⟩ := keysK_cases h
    refine ⟨c :: cs, ?_, h3⟩
    simp only [αP, keysS, αV, h2, List.map_cons]
def txK (l : List Nat) (k : List FV → FR) : FR := List.rec (motive := fun _ => (List FV → FR) → FR) (fun k => k []) (fun c _ ih k => ih fun r => k (.s c :: r)) l k
theorem txK_eq : ∀ (l : List Nat) (k : List FV → FR), ∃ r, αL r = (l.map unp).map AV.str ∧ txK l k = k r
  | [], _ => ⟨[], rfl, rfl⟩
  | c :: l, k => by
    obtain ⟨r, h1, h2⟩ := txK_eq l fun r => k (.s c :: r)
    exact ⟨.s c :: r, by rw [αL, h1]; rfl, h2⟩
def lnK (l : List Nat) (k : Nat → FR) : FR := List.rec (motive := fun _ => (Nat → FR) → FR) (fun k => k 0) (fun _ _ ih k => ih fun n => fN (Nat.succ n) k) l k
theorem lnK_eq : ∀ (l : List Nat) (k : Nat → FR), lnK l k = k l.length
  | [], _ => rfl
  | c :: l, k => by
    show lnK l (fun n => fN (Nat.succ n) k) = _
    rw [lnK_eq l, fN_eq]; rfl
def srtQ (ks : List Nat) (σ : FH) (k : KV) : FR := shK ks (srtK ks fun r => List.rec (motive := fun _ => FR) (k (.o .sl) σ) (fun _ _ _ => risK r (lnK r fun n => gB (Nat.ble n 1000000) (txK r fun l => nM σ (.cells l 9 .more) fun b σ => k (.sl b 0 n n false 1) σ))) r)
theorem srtQ_sm (ks : List Nat) (σ : FH) (k : KV) : Sm (srtQ ks σ k) k (srtO (αH σ) (ks.map unp)) := by
  intro h
  unfold srtQ at h ⊢
  obtain ⟨h1, h2⟩ := shK_cases h
  rw [h2] at h ⊢
  obtain ⟨r, h3, h4⟩ := srtK_eq ks (fun r => List.rec (motive := fun _ => FR) (k (.o .sl) σ) (fun _ _ _ => risK r (lnK r fun n => gB (Nat.ble n 1000000) (txK r fun l => nM σ (.cells l 9 .more) fun b σ => k (.sl b 0 n n false 1) σ))) r)
  rw [h4] at h ⊢
  cases r with
  | nil =>
    refine ⟨.o .sl, σ, ?_, rfl⟩
    unfold srtO
    rw [← h3]; rfl
  | cons x t =>
    have h : risK (x :: t) (lnK (x :: t) fun n => gB (Nat.ble n 1000000) (txK (x :: t) fun l => nM σ (.cells l 9 .more) fun b σ => k (.sl b 0 n n false 1) σ)) ≠ .bad := h
    show ∃ v σ', _ ∧ risK (x :: t) (lnK (x :: t) fun n => gB (Nat.ble n 1000000) (txK (x :: t) fun l => nM σ (.cells l 9 .more) fun b σ => k (.sl b 0 n n false 1) σ)) = k v σ'
    obtain ⟨g1, g2⟩ := risK_cases h
    rw [g2] at h ⊢
    rw [lnK_eq, gB_eq] at h ⊢
    cases hb : Nat.ble (x :: t).length 1000000 <;> rw [hb] at h
    · exact absurd rfl h
    rw [cond_true] at h ⊢
    obtain ⟨l, g3, g4⟩ := txK_eq (x :: t) fun l => nM σ (.cells l 9 .more) fun b σ => k (.sl b 0 (x :: t).length (x :: t).length false 1) σ
    rw [g4] at h ⊢
    obtain ⟨g5, σ', g6, g7⟩ := nM_cases h
    refine ⟨.sl σ.next 0 (x :: t).length (x :: t).length false 1, σ', ?_, g7⟩
    have hlen : (ks.map unp).length = (x :: t).length := by
      have := (sortS_perm (ks.map unp)).length_eq
      rw [← h3, List.length_map] at this; exact this.symm
    unfold srtO
    rw [← h3, List.map_cons]
    simp only
    rw [List.map_cons] at g1 g3
    rw [g1, h1, hlen, hb, g5, g6]
    simp only [αO, αV, g3, List.length_cons, List.length_map]
    rfl
def kFn (f : Fn → List FV → List FV → FR) (v : FV) : FR := FV.rec (motive_1 := fun _ => FR) (motive_2 := fun _ => FR) (fun _ _ => .bad) (fun _ _ => .bad) (fun _ => .bad) (fun _ => .bad) (fun _ _ => .bad) (fun _ _ _ _ _ _ => .bad) (fun _ => .bad) (fun _ => .bad) (fun g a b _ _ => f g a b) (fun _ _ _ => .bad) (fun _ _ => .bad) (fun _ => .bad) (fun _ _ => .bad) (fun _ _ => .bad) (fun _ => .bad) .bad (fun _ _ _ _ => .bad) v
theorem kFn_cases {f : Fn → List FV → List FV → FR} {v : FV} (h : kFn f v ≠ .bad) : ∃ g a b, v = .fn g a b ∧ kFn f v = f g a b := by
  cases v <;> first | exact ⟨_, _, _, rfl, rfl⟩ | exact absurd rfl h
def kFu (f : Nat → FR) (g : Fn) : FR := Fn.rec (motive := fun _ => FR) f (fun _ => .bad) (fun _ _ => .bad) (fun _ _ _ _ => .bad) (fun _ => .bad) g
theorem kFu_cases {f : Nat → FR} {g : Fn} (h : kFu f g ≠ .bad) : ∃ n, g = .func n ∧ kFu f g = f n := by
  cases g <;> first | exact ⟨_, rfl, rfl⟩ | exact absurd rfl h
def kNi (l : List FV) (s : FR) : FR := List.rec (motive := fun _ => FR) s (fun _ _ _ => .bad) l
theorem kNi_cases {l : List FV} {s : FR} (h : kNi l s ≠ .bad) : l = [] ∧ kNi l s = s := by
  cases l
  · exact ⟨rfl, rfl⟩
  · exact absurd rfl h
def kCe (f : List FV → FR) (ob : FObj) : FR := FObj.rec (motive := fun _ => FR) .bad (fun l _ _ => f l) (fun _ _ _ => .bad) (fun _ _ _ _ => .bad) (fun _ => .bad) .bad ob
theorem kCe_cases {f : List FV → FR} {ob : FObj} (h : kCe f ob ≠ .bad) : ∃ l e t, ob = .cells l e t ∧ kCe f ob = f l := by
  cases ob <;> first | exact ⟨_, _, _, rfl, rfl⟩ | exact absurd rfl h
def srMQ (σ : FH) (m : Nat) (k : KV) : FR := gM σ m (kMp fun l => keysK l fun cs => srtQ cs σ k)
def srQ (l : List FV) (σ : FH) (k : KV) : FR := k1L l (kFn fun g a c => kFu (fun q => gB (Nat.beq q 250 || Nat.beq q 319) (kNi a (k1L c (kP fun b o => gM σ b (kCe fun l => nthK l o (kM fun m => srMQ σ m k)))))) g)
theorem srMQ_sm (σ : FH) (m : Nat) (k : KV) : Sm (srMQ σ m k) k (srtM (αH σ) m) := by
  intro h
  unfold srMQ at h ⊢
  obtain ⟨ob, _, h3, h4⟩ := gM_cases h
  rw [h4] at h ⊢
  obtain ⟨l, rfl, h5⟩ := kMp_cases h
  rw [h5] at h ⊢
  obtain ⟨cs, h6, h7⟩ := keysK_cases h
  rw [h7] at h ⊢
  obtain ⟨v, σ', h8, h9⟩ := srtQ_sm cs σ k h
  refine ⟨v, σ', ?_, h9⟩
  unfold srtM
  rw [h3]
  simp only [αO, h6]
  exact h8
theorem srQ_sm (l : List FV) (σ : FH) (k : KV) : Sm (srQ l σ k) k (srtA (αL l) (αH σ)) := by
  intro h
  unfold srQ at h ⊢
  obtain ⟨x, rfl, h1⟩ := k1L_cases h
  rw [h1] at h ⊢
  obtain ⟨g, a, c, rfl, h2⟩ := kFn_cases h
  rw [h2] at h ⊢
  obtain ⟨q, rfl, h3⟩ := kFu_cases h
  rw [h3] at h ⊢
  rw [gB_eq] at h ⊢
  cases hq : Nat.beq q 250 || Nat.beq q 319 <;> rw [hq] at h
  · exact absurd rfl h
  rw [cond_true] at h ⊢
  obtain ⟨rfl, h4⟩ := kNi_cases h
  rw [h4] at h ⊢
  obtain ⟨y, rfl, h5⟩ := k1L_cases h
  rw [h5] at h ⊢
  obtain ⟨b, o, rfl, h6⟩ := kP_cases h
  rw [h6] at h ⊢
  obtain ⟨ob, _, h7, h8⟩ := gM_cases h
  rw [h8] at h ⊢
  obtain ⟨l, e, t, rfl, h9⟩ := kCe_cases h
  rw [h9] at h ⊢
  rw [nthK_eq] at h ⊢
  cases hl : l[o]? <;> rw [hl] at h
  · exact absurd rfl h
  rename_i v
  have h : kM (fun m => srMQ σ m k) v ≠ .bad := h
  show ∃ w σ', _ ∧ kM (fun m => srMQ σ m k) v = k w σ'
  obtain ⟨m, rfl, h10⟩ := kM_cases h
  rw [h10] at h ⊢
  obtain ⟨v, σ', h11, h12⟩ := srMQ_sm σ m k h
  refine ⟨v, σ', ?_, h12⟩
  rw [← h11]
  simp only [αL, αV, srtA, hq, h7, Option.bind_some, αO, AObj.at, αL_map, List.getElem?_map, hl, Option.map_some, cond_true]
end
end Go.Proofs.YtjgmpdklfcmelaaGreatDoor.V2
namespace Go.Proofs.YtjgmpdklfcmelaaGreatDoor.V2
open Go
open Go.RowKit Go.Maps Go.Sort
theorem srtO_of {ρ : Ren} {σ : AH} {W : World} (hr : HR ρ σ W) {os : List (List UInt8)} (h : (srtO σ os).1 = true) {f : FuncId} {vs : Array Value}
    (hC : Calls Tryz.prog f vs W fun e w' => ∃ (v : Value) (ss : List (List UInt8)), e = .returned v ∧ ss.Perm os ∧
      w'.ownsRow W.heap.size 9 1 v ss.length ((ss.mergeSort (fun x y => decide (x ≤ y))).map encStr) ∧ (v = .slice none 0 0 ↔ ss = []) ∧ Below W.heap.size W w') :
    Calls Tryz.prog f vs W fun e W' => ∃ v ρ', e = .returned v ∧ HR ρ' (srtO σ os).2.2 W' ∧ Stp σ.next ρ σ W ρ' (srtO σ os).2.2 W' ∧ VR ρ' (srtO σ os).2.1 v := by
  unfold srtO at h ⊢
  have hso := sortS_perm os
  cases hS : sortS os with
  | nil =>
    rw [hS] at hso
    refine hC.mono ?_
    rintro e W' ⟨v, ss, rfl, g1, g2, g3, g4⟩
    have : ss = [] := by have := (g1.trans hso.symm).length_eq; simpa using this
    refine ⟨v, ρ, rfl, hr.below g4, .below (Nat.le_refl _) g4, ?_⟩
    unfold VR
    exact g3.2 this
  | cons x t =>
    rw [hS] at h
    simp only [Bool.and_eq_true, Nat.ble_eq, Nat.blt_eq] at h
    obtain ⟨⟨⟨h1, h2⟩, h3⟩, h4⟩ := h
    rw [← hS] at h1
    obtain ⟨i1, i2⟩ := risS_sort h1
    refine hC.mono ?_
    rintro e W' ⟨v, ss, rfl, g1, g2, g3, g4⟩
    have e1 : ss.mergeSort (fun x y => decide (x ≤ y)) = x :: t := by
      rw [← hS, ← i2]
      exact mergeSort_of_perm g1
    have e2 : ss.length = (x :: t).length := by rw [← hS, hso.length_eq, g1.length_eq]
    rw [e1, e2] at g2
    obtain ⟨ρ', k1, k2, k3⟩ := adopt_strs hr g4 h4 (by simp) g2
    exact ⟨v, ρ', rfl, k1, k2, k3⟩
def wiS (dir : List UInt8) (ks : List (List UInt8)) : Bool := Nat.ble dir.length 1000000 && ks.all fun x => !x.isEmpty && (!decide (parB x = dir) || Nat.ble (joinB dir []).length x.length)
noncomputable def wiO (σ : AH) (dir : List UInt8) (ks : List (List UInt8)) : Out := bif wiS dir ks && (risS (sortS ks) && shS ks && Nat.ble ks.length 1000000) then srtO σ (outS dir ks) else bad σ
noncomputable def wiM (σ : AH) (dir : List UInt8) (m : Nat) : Out := match σ.get m with
  | some (.map l) => match keysS l with
    | some ks => wiO σ dir ks
    | none => bad σ
  | _ => bad σ
noncomputable def wiA (args : List AV) (σ : AH) : Out := match args with
  | [.ptr b o, .str dir] => match (σ.get b).bind fun ob => ob.at o with
    | some (.map m) => wiM σ dir m
    | _ => bad σ
  | _ => bad σ
noncomputable def wnF (g : FuncId → List AV → AH → Out) (f : FuncId) (args : List AV) (σ : AH) : Out := bif Nat.beq f 94 then wiA args σ else g f args σ
theorem wnF_ok {Y : List Yl} {g : FuncId → List AV → AH → Out} (hg : FnOk Tryz.prog 6 g Y) : FnOk Tryz.prog 6 (wnF g) Y := by
  intro f args σ h
  unfold wnF at h ⊢
  cases hf : Nat.beq f 94
  case false => rw [hf] at h; rw [cond_false] at h ⊢; exact hg f args σ h
  rw [hf] at h
  simp only [cond_true] at h ⊢
  have e := Nat.eq_of_beq_eq_true hf
  subst e
  refine ⟨⟨_, Tryz.func94, by kernel_rfl, by kernel_rfl⟩, fun ρ W vs _ hG hr hvs => ?_⟩
  unfold wiA at h ⊢
  split at h
  case h_2 => cases h
  rename_i b o dir
  split at h
  case h_2 => cases h
  rename_i m hm
  obtain ⟨ob, hob, hat⟩ := Option.bind_eq_some_iff.1 hm
  obtain ⟨v, mm, rfl, hv, u, mmm, rfl, hu, hmm⟩ := hvs
  have hmm : mmm = [] := hmm
  subst hmm
  unfold VR at hv hu
  subst hu
  obtain ⟨c, d, hc, rfl⟩ := hv
  obtain ⟨_, hcl, ob', ho', hO⟩ := hr.dom b c d hc
  rw [hob] at ho'
  cases ho'
  have hcy : ob.cellsy = true := by cases ob <;> first | rfl | (exact absurd hat (by simp [AObj.at]))
  have hpos : 0 < ob.len := by
    cases ob <;> simp only [AObj.at] at hat
    · cases hat
    · exact Nat.lt_of_le_of_lt (Nat.zero_le _) (List.getElem?_eq_some_iff.1 hat).1
    · obtain ⟨_, h5, _⟩ := Option.map_eq_some_iff.1 hat; exact Nat.lt_of_le_of_lt (Nat.zero_le _) (List.getElem?_eq_some_iff.1 h5).1
    · cases hat
    · cases hat
  obtain ⟨cs, el, fr, hx, _, _, _, hall⟩ := (hO.1 hcy).2 fun _ => hpos
  obtain ⟨u, hu, huv⟩ := hall o _ hat
  unfold VR at huv
  obtain ⟨c2, d2, hc2, rfl⟩ := huv
  have hcell : W.cell? ⟨c, o + d.1, none⟩ = some (.map (some c2)) := by simp [World.cell?, hx, hu]
  obtain ⟨_, _, ob2, ho2, hO2⟩ := hr.dom m c2 d2 hc2
  unfold wiM at h ⊢
  split at h
  case h_2 => cases h
  rename_i l hl
  rw [hl] at ho2
  cases ho2
  cases hk : keysS l <;> simp only [hk] at h ⊢
  · cases h
  rename_i ks
  unfold wiO at h ⊢
  cases hb : wiS dir ks && (risS (sortS ks) && shS ks && Nat.ble ks.length 1000000) <;> rw [hb] at h
  · cases h
  rw [cond_true] at h ⊢
  simp only [Bool.and_eq_true, Nat.ble_eq] at hb
  obtain ⟨hw, ⟨h1, h2⟩, h3⟩ := hb
  obtain ⟨i1, _⟩ := risS_sort h1
  obtain ⟨D, j1, j2, j3⟩ := own_of (hO2.2 l rfl) hk i1 h2 h3
  unfold wiS at hw
  rw [Bool.and_eq_true, Nat.ble_eq] at hw
  refine srtO_of hr h ((within94 c (o + d.1) c2 ks.length D dir W hcl hcell j1 (by rw [j3]; exact h3) hw.1 fun x hx => ?_).mono ?_)
  · have hx := j2.subset hx
    have a1 := List.all_eq_true.1 hw.2 x hx
    have a2 := List.all_eq_true.1 h2 x hx
    rw [Nat.ble_eq] at a2
    rw [Bool.and_eq_true, Bool.or_eq_true, Nat.ble_eq] at a1
    refine ⟨fun e => (by rw [e] at a1; exact absurd a1.1 (by simp)), a2, fun e => ?_⟩
    rcases a1.2 with h | h
    · rw [decide_eq_true e] at h; cases h
    · exact h
  · rintro e W' ⟨v, ss, rfl, g1, g2, g3, g4⟩
    exact ⟨v, ss, rfl, g1.trans ((j2.filter _).map _), g2, g3, g4⟩
noncomputable section
def pkK (l : List (List UInt8)) (k : List Nat → FR) : FR := List.rec (motive := fun _ => (List Nat → FR) → FR) (fun k => k []) (fun x _ ih k => fN (pack x) fun c => ih fun r => k (c :: r)) l k
theorem pkK_eq : ∀ (l : List (List UInt8)) (k : List Nat → FR), pkK l k = k (l.map pack)
  | [], _ => rfl
  | x :: l, k => by
    show (fN (pack x) fun c => pkK l fun r => k (c :: r)) = _
    rw [fN_eq, pkK_eq l]; rfl
theorem unp_packs (l : List (List UInt8)) : (l.map pack).map unp = l := by
  rw [List.map_map]
  conv => rhs; rw [← List.map_id l]
  exact List.map_congr_left fun x _ => unp_pack x
def wiOQ (cs : List Nat) (d : Nat) (σ : FH) (k : KV) : FR := gB (wiS (unp d) (cs.map unp)) (shK cs (gB (Nat.ble cs.length 1000000) (srtK cs fun r => risK r (pkK (outS (unp d) (cs.map unp)) fun os => srtQ os σ k))))
def wiMQ (σ : FH) (d m : Nat) (k : KV) : FR := gM σ m (kMp fun l => keysK l fun cs => wiOQ cs d σ k)
def wiQ (l : List FV) (σ : FH) (k : KV) : FR := k2L l fun x y => kP (fun b o => kS (fun d => gM σ b (kCe fun l => nthK l o (kM fun m => wiMQ σ d m k))) y) x
theorem wiOQ_sm (cs : List Nat) (d : Nat) (σ : FH) (k : KV) : Sm (wiOQ cs d σ k) k (wiO (αH σ) (unp d) (cs.map unp)) := by
  intro h
  unfold wiOQ at h ⊢
  rw [gB_eq] at h ⊢
  cases hw : wiS (unp d) (cs.map unp) <;> rw [hw] at h
  · exact absurd rfl h
  rw [cond_true] at h ⊢
  obtain ⟨h1, h2⟩ := shK_cases h
  rw [h2] at h ⊢
  rw [gB_eq] at h ⊢
  cases hl : Nat.ble cs.length 1000000 <;> rw [hl] at h
  · exact absurd rfl h
  rw [cond_true] at h ⊢
  obtain ⟨r, h3, h4⟩ := srtK_eq cs fun r => risK r (pkK (outS (unp d) (cs.map unp)) fun os => srtQ os σ k)
  rw [h4] at h ⊢
  obtain ⟨h5, h6⟩ := risK_cases h
  rw [h6] at h ⊢
  rw [pkK_eq] at h ⊢
  obtain ⟨v, σ', h7, h8⟩ := srtQ_sm _ σ k h
  refine ⟨v, σ', ?_, h8⟩
  unfold wiO
  rw [hw, ← h3, h5, h1, List.length_map, hl]
  rw [unp_packs] at h7
  exact h7
theorem wiQ_sm (l : List FV) (σ : FH) (k : KV) : Sm (wiQ l σ k) k (wiA (αL l) (αH σ)) := by
  intro h
  unfold wiQ at h ⊢
  obtain ⟨x, y, rfl, h1⟩ := k2L_cases h
  rw [h1] at h ⊢
  obtain ⟨b, o, rfl, h6⟩ := kP_cases h
  rw [h6] at h ⊢
  obtain ⟨d, rfl, h5⟩ := kS_cases h
  rw [h5] at h ⊢
  obtain ⟨ob, _, h7, h8⟩ := gM_cases h
  rw [h8] at h ⊢
  obtain ⟨l, e, t, rfl, h9⟩ := kCe_cases h
  rw [h9] at h ⊢
  rw [nthK_eq] at h ⊢
  cases hl : l[o]? <;> rw [hl] at h
  · exact absurd rfl h
  rename_i v
  have h : kM (fun m => wiMQ σ d m k) v ≠ .bad := h
  show ∃ w σ', _ ∧ kM (fun m => wiMQ σ d m k) v = k w σ'
  obtain ⟨m, rfl, h10⟩ := kM_cases h
  rw [h10] at h ⊢
  unfold wiMQ at h ⊢
  obtain ⟨ob2, _, g3, g4⟩ := gM_cases h
  rw [g4] at h ⊢
  obtain ⟨l2, rfl, g5⟩ := kMp_cases h
  rw [g5] at h ⊢
  obtain ⟨cs, g6, g7⟩ := keysK_cases h
  rw [g7] at h ⊢
  obtain ⟨v, σ', g8, g9⟩ := wiOQ_sm cs d σ k h
  refine ⟨v, σ', ?_, g9⟩
  rw [← g8]
  simp only [αL, αV, wiA, h7, Option.bind_some, αO, AObj.at, αL_map, List.getElem?_map, hl, Option.map_some, wiM, g3, g6]
end
end Go.Proofs.YtjgmpdklfcmelaaGreatDoor.V2
namespace Go.Proofs.YtjgmpdklfcmelaaGreatDoor.V2
open Go Go.Shelf Go.Proofs Go.RowKit
def rep28_lay_ren : Go.Shelf.Ren := ⟨fun | 105 => 28 | 212 => 100 | 99 => 87 | 165 => 101 | 166 => 102 | 170 => 103 | 169 => 104 | 263 => 188 | 264 => 189 | 206 => 177 | 240 => 190 | 241 => 191 | 276 => 251 | 277 => 252 | n => n, fun | 9 => 9 | 3 => 3 | 4 => 4 | 20 => 20 | 0 => 0 | 46 => 170 | 109 => 171 | 5 => 5 | 72 => 175 | 76 => 179 | 51 => 23 | 146 => 271 | 53 => 135 | 148 => 293 | 70 => 173 | 37 => 49 | 75 => 178 | 127 => 295 | 164 => 345 | 80 => 60 | n => n, fun | n => n⟩
theorem rep28_lay : Go.Proofs.Lays.n105 Tryz.prog rep28_lay_ren := {
  mixed := by kernel_rfl
  f99 := Tryz.func87.trans (congrArg some (by kernel_rfl))
  f105 := Tryz.func28.trans (congrArg some (by kernel_rfl))
  f165 := Tryz.func101.trans (congrArg some (by kernel_rfl))
  f166 := Tryz.func102.trans (congrArg some (by kernel_rfl))
  f169 := Tryz.func104.trans (congrArg some (by kernel_rfl))
  f170 := Tryz.func103.trans (congrArg some (by kernel_rfl))
  f206 := Tryz.func177.trans (congrArg some (by kernel_rfl))
  f212 := Tryz.func100.trans (congrArg some (by kernel_rfl))
  f240 := Tryz.func190.trans (congrArg some (by kernel_rfl))
  f241 := Tryz.func191.trans (congrArg some (by kernel_rfl))
  f263 := Tryz.func188.trans (congrArg some (by kernel_rfl))
  f264 := Tryz.func189.trans (congrArg some (by kernel_rfl))
  f276 := Tryz.func251.trans (congrArg some (by kernel_rfl))
  f277 := Tryz.func252.trans (congrArg some (by kernel_rfl))
  t0 := Tryz.underlying0
  a0 := Tryz.isAgg0
  z0 := Tryz.sizeOf0
  v0 := Tryz.zeroValue0
  t3 := Tryz.underlying3
  a3 := Tryz.isAgg3
  z3 := Tryz.sizeOf3
  v3 := Tryz.zeroValue3
  t4 := Tryz.underlying4
  a4 := Tryz.isAgg4
  z4 := Tryz.sizeOf4
  v4 := Tryz.zeroValue4
  t5 := Tryz.underlying5
  a5 := Tryz.isAgg5
  z5 := Tryz.sizeOf5
  v5 := Tryz.zeroValue5
  t9 := Tryz.underlying9
  a9 := Tryz.isAgg9
  z9 := Tryz.sizeOf9
  v9 := Tryz.zeroValue9
  t20 := Tryz.underlying20
  a20 := Tryz.isAgg20
  z20 := Tryz.sizeOf20
  v20 := Tryz.zeroValue20
  t37 := Tryz.underlying49
  a37 := Tryz.isAgg49
  z37 := Tryz.sizeOf49
  v37 := Tryz.zeroValue49
  t46 := Tryz.underlying170
  a46 := Tryz.isAgg170
  z46 := Tryz.sizeOf170
  v46 := Tryz.zeroValue170
  t51 := Tryz.underlying23
  a51 := Tryz.isAgg23
  z51 := Tryz.sizeOf23
  v51 := Tryz.zeroValue23
  t53 := Tryz.underlying135
  a53 := Tryz.isAgg135
  z53 := Tryz.sizeOf135
  v53 := Tryz.zeroValue135
  t70 := Tryz.underlying173
  a70 := Tryz.isAgg173
  z70 := Tryz.sizeOf173
  v70 := Tryz.zeroValue173
  t72 := Tryz.underlying175
  a72 := Tryz.isAgg175
  z72 := Tryz.sizeOf175
  v72 := Tryz.zeroValue175
  t75 := Tryz.underlying178
  a75 := Tryz.isAgg178
  z75 := Tryz.sizeOf178
  v75 := Tryz.zeroValue178
  t76 := Tryz.underlying179
  a76 := Tryz.isAgg179
  z76 := Tryz.sizeOf179
  v76 := Tryz.zeroValue179
  t109 := Tryz.underlying171
  a109 := Tryz.isAgg171
  z109 := Tryz.sizeOf171
  v109 := Tryz.zeroValue171
  t127 := Tryz.underlying295
  a127 := Tryz.isAgg295
  z127 := Tryz.sizeOf295
  v127 := Tryz.zeroValue295
  t146 := Tryz.underlying271
  a146 := Tryz.isAgg271
  z146 := Tryz.sizeOf271
  v146 := Tryz.zeroValue271
  t148 := Tryz.underlying293
  a148 := Tryz.isAgg293
  z148 := Tryz.sizeOf293
  v148 := Tryz.zeroValue293
  t164 := Tryz.underlying345
  a164 := Tryz.isAgg345
  z164 := Tryz.sizeOf345
  v164 := Tryz.zeroValue345 }
theorem rep28_extra : Builder.Extra Tryz.prog rep28_lay_ren := {
  sizeBuilder := by kernel_rfl
  liesBuilder := by kernel_rfl
  t5 := Tryz.underlying5
  a5 := Tryz.isAgg5
  z5 := Tryz.sizeOf5
  v5 := Tryz.zeroValue5
  infoByte := by kernel_rfl
  cellsByte := by kernel_rfl
  sizeByte := by kernel_rfl
  neB5 := by decide }
theorem repeat28 (s : List UInt8) (c : Nat) (w : World) (h : s.length * c ≤ 1000000) (hc : c ≤ 1000000) : Calls Tryz.prog 28 #[.string ⟨s.toArray⟩, .int .i64 c] w fun e w' => e = .returned (.string ⟨(Lib.repeatL s c).toArray⟩) ∧ Below w.heap.size w w' :=
  Any.strings_Repeat rep28_lay rep28_extra ⟨s.toArray⟩ c w (by omega) (by show s.toArray.size * c ≤ _; simp; omega)
def rpA (args : List AV) (σ : AH) : Out := match args with
  | [.str s, .int .i64 (.ofNat c)] => (Nat.ble (s.length * c) 1000000 && Nat.ble c 1000000, .str (Lib.repeatL s c), σ)
  | _ => bad σ
noncomputable def rpF (g : FuncId → List AV → AH → Out) (f : FuncId) (args : List AV) (σ : AH) : Out := bif Nat.beq f 28 then rpA args σ else g f args σ
theorem rpF_ok {Y : List Yl} {g : FuncId → List AV → AH → Out} (hg : FnOk Tryz.prog 6 g Y) : FnOk Tryz.prog 6 (rpF g) Y := by
  intro f args σ h
  unfold rpF at h ⊢
  cases hf : Nat.beq f 28
  case false => rw [hf] at h; rw [cond_false] at h ⊢; exact hg f args σ h
  rw [hf] at h
  simp only [cond_true] at h ⊢
  have e := Nat.eq_of_beq_eq_true hf
  subst e
  refine ⟨⟨_, Tryz.func28, by kernel_rfl, by kernel_rfl⟩, fun ρ W vs _ hG hr hvs => ?_⟩
  unfold rpA at h ⊢
  split at h
  case h_2 => cases h
  rename_i s c
  obtain ⟨v, mm, rfl, hv, u, mmm, rfl, hu, hmm⟩ := hvs
  have hmm : mmm = [] := hmm
  subst hmm
  unfold VR at hv hu
  subst hu hv
  rw [Bool.and_eq_true, Nat.ble_eq, Nat.ble_eq] at h
  refine (repeat28 s c W h.1 h.2).mono ?_
  rintro e W' ⟨rfl, g⟩
  exact ⟨_, ρ, rfl, hr.below g, .below (Nat.le_refl _) g, by unfold VR; rfl⟩
noncomputable section
theorem repL_add (l : List UInt8) : ∀ (a b : Nat), Lib.repeatL l (a + b) = Lib.repeatL l a ++ Lib.repeatL l b
  | 0, b => by rw [Nat.zero_add]; rfl
  | a + 1, b => by rw [Nat.succ_add, Lib.repeatL, repL_add l a b, Lib.repeatL, List.append_assoc]
def repD (f : Nat) : Nat → Nat → Nat → (Nat → FR) → FR := Nat.rec (motive := fun _ => Nat → Nat → Nat → (Nat → FR) → FR) (fun m _ acc k => gB (Nat.beq m 0) (k acc))
  (fun _ ih m b acc k => Bool.rec (fN (bapp b b) fun b2 => fN (Nat.div m 2) fun m2 => Bool.rec (ih m2 b2 acc k) (fN (bapp acc b) fun a2 => ih m2 b2 a2 k) (Nat.beq (Nat.mod m 2) 1)) (k acc) (Nat.beq m 0)) f
theorem repD_eq (l : List UInt8) : ∀ (f m b acc x y : Nat) (k : Nat → FR), unp b = Lib.repeatL l x → unp acc = Lib.repeatL l y → repD f m b acc k ≠ .bad → ∃ r, unp r = Lib.repeatL l (y + x * m) ∧ repD f m b acc k = k r
  | 0, m, b, acc, x, y, k, h1, h2, h => by
    have h : gB (Nat.beq m 0) (k acc) ≠ .bad := h
    show ∃ r, _ ∧ gB (Nat.beq m 0) (k acc) = _
    rw [gB_eq] at h ⊢
    cases hm : Nat.beq m 0 <;> rw [hm] at h
    · exact absurd rfl h
    · have := Nat.eq_of_beq_eq_true hm
      subst this
      exact ⟨acc, by rw [h2]; simp, rfl⟩
  | f + 1, m, b, acc, x, y, k, h1, h2, h => by
    have h : (Bool.rec (fN (bapp b b) fun b2 => fN (Nat.div m 2) fun m2 => Bool.rec (repD f m2 b2 acc k) (fN (bapp acc b) fun a2 => repD f m2 b2 a2 k) (Nat.beq (Nat.mod m 2) 1)) (k acc) (Nat.beq m 0) : FR) ≠ .bad := h
    show ∃ r, _ ∧ (Bool.rec (fN (bapp b b) fun b2 => fN (Nat.div m 2) fun m2 => Bool.rec (repD f m2 b2 acc k) (fN (bapp acc b) fun a2 => repD f m2 b2 a2 k) (Nat.beq (Nat.mod m 2) 1)) (k acc) (Nat.beq m 0) : FR) = _
    rw [fN_eq, fN_eq, fN_eq] at h ⊢
    have hb : unp (bapp b b) = Lib.repeatL l (x + x) := by rw [bapp_unp, h1, repL_add]
    have hd : m = 2 * (m / 2) + m % 2 := by omega
    cases hm : Nat.beq m 0 with
    | true =>
      have := Nat.eq_of_beq_eq_true hm
      subst this
      exact ⟨acc, by rw [h2]; simp, rfl⟩
    | false =>
      rw [hm] at h
      cases ho : Nat.beq (Nat.mod m 2) 1 with
      | true =>
        rw [ho] at h
        have hm1 : m % 2 = 1 := Nat.eq_of_beq_eq_true ho
        obtain ⟨r, g1, g2⟩ := repD_eq l f (m / 2) (bapp b b) (bapp acc b) (x + x) (y + x) k hb (by rw [bapp_unp, h1, h2, repL_add]) h
        refine ⟨r, ?_, g2⟩
        rw [g1]
        congr 1
        have : x * m = x * (2 * (m / 2)) + x := by conv => lhs; rw [hd, hm1, Nat.mul_add, Nat.mul_one]
        rw [this, Nat.add_mul, Nat.two_mul, Nat.mul_add]
        omega
      | false =>
        rw [ho] at h
        have hm1 : m % 2 = 0 := by
          have : m % 2 ≠ 1 := fun e => by
            have : Nat.beq (Nat.mod m 2) 1 = true := by rw [show Nat.mod m 2 = 1 from e]; rfl
            rw [ho] at this; cases this
          omega
        obtain ⟨r, g1, g2⟩ := repD_eq l f (m / 2) (bapp b b) acc (x + x) y k hb h2 h
        refine ⟨r, ?_, g2⟩
        rw [g1]
        congr 1
        have : x * m = x * (2 * (m / 2)) := by conv => lhs; rw [hd, hm1, Nat.add_zero]
        rw [this, Nat.add_mul, Nat.two_mul, Nat.mul_add]
def kI64 (f : Nat → FR) (v : FV) : FR := kNn (fun q m => gK .i64 q (f m)) v
theorem kI64_cases {f : Nat → FR} {v : FV} (h : kI64 f v ≠ .bad) : ∃ m, v = .n .i64 m ∧ kI64 f v = f m := by
  cases v <;> try exact absurd rfl h
  rename_i q m
  have h : gK .i64 q (f m) ≠ .bad := h
  show ∃ m', FV.n q m = .n .i64 m' ∧ gK .i64 q (f m) = f m'
  unfold gK at h ⊢
  cases hb : Nat.beq (ix .i64) (ix q) <;> rw [hb] at h
  · exact absurd rfl h
  · have := ix_inj hb
    subst this
    exact ⟨m, rfl, rfl⟩
def rpQ (l : List FV) (σ : FH) (k : KV) : FR := k2L l fun x y => kS (fun c => kI64 (fun m => gB (Nat.ble (Nat.mul (bl c) m) 1000000) (gB (Nat.ble m 1000000) (repD 21 m c 1 fun x => k (.s x) σ))) y) x
theorem rpQ_sm (l : List FV) (σ : FH) (k : KV) : Sm (rpQ l σ k) k (rpA (αL l) (αH σ)) := by
  intro h
  unfold rpQ at h ⊢
  obtain ⟨x, y, rfl, h1⟩ := k2L_cases h
  rw [h1] at h ⊢
  obtain ⟨c, rfl, h2⟩ := kS_cases h
  rw [h2] at h ⊢
  obtain ⟨m, rfl, h3⟩ := kI64_cases h
  rw [h3] at h ⊢
  rw [gB_eq, gB_eq] at h ⊢
  cases ha : Nat.ble (Nat.mul (bl c) m) 1000000 <;> rw [ha] at h
  · exact absurd rfl h
  cases hb : Nat.ble m 1000000 <;> rw [hb] at h
  · exact absurd rfl h
  simp only [cond_true]
  simp only [cond_true] at h
  obtain ⟨x, h4, h5⟩ := repD_eq (unp c) 21 m c 1 1 0 (fun x => k (.s x) σ) (by simp [Lib.repeatL]) rfl h
  refine ⟨.s x, σ, ?_, h5⟩
  rw [Nat.zero_add, Nat.one_mul] at h4
  show (Nat.ble ((unp c).length * m) 1000000 && Nat.ble m 1000000, AV.str (Lib.repeatL (unp c) m), αH σ) = (true, AV.str (unp x), αH σ)
  rw [h4, unp_length, hb]
  have ha : Nat.ble (bl c * m) 1000000 = true := ha
  rw [ha]; rfl
end
end Go.Proofs.YtjgmpdklfcmelaaGreatDoor.V2
namespace Go.Proofs.YtjgmpdklfcmelaaGreatDoor.V2
open Go Go.Shelf Go.Proofs Go.RowKit
def count241_lay_ren : Go.Shelf.Ren := ⟨fun | 138 => 241 | 195 => 265 | 218 => 267 | 143 => 242 | 219 => 268 | 217 => 298 | 225 => 299 | 224 => 300 | 267 => 301 | 266 => 316 | 314 => 317 | n => n, fun | 9 => 9 | 3 => 3 | 4 => 4 | 5 => 5 | 0 => 0 | 46 => 170 | 146 => 271 | 51 => 23 | n => n, fun | 1 => 4 | n => n⟩
theorem count241_lay : Go.Proofs.Lays.n138 Tryz.prog count241_lay_ren := {
  mixed := by kernel_rfl
  f138 := Tryz.func241.trans (congrArg some (by kernel_rfl))
  f143 := Tryz.func242.trans (congrArg some (by kernel_rfl))
  f195 := Tryz.func265.trans (congrArg some (by kernel_rfl))
  f217 := Tryz.func298.trans (congrArg some (by kernel_rfl))
  f218 := Tryz.func267.trans (congrArg some (by kernel_rfl))
  f219 := Tryz.func268.trans (congrArg some (by kernel_rfl))
  f224 := Tryz.func300.trans (congrArg some (by kernel_rfl))
  f225 := Tryz.func299.trans (congrArg some (by kernel_rfl))
  f266 := Tryz.func316.trans (congrArg some (by kernel_rfl))
  f267 := Tryz.func301.trans (congrArg some (by kernel_rfl))
  f314 := Tryz.func317.trans (congrArg some (by kernel_rfl))
  t0 := Tryz.underlying0
  a0 := Tryz.isAgg0
  z0 := Tryz.sizeOf0
  v0 := Tryz.zeroValue0
  t3 := Tryz.underlying3
  a3 := Tryz.isAgg3
  z3 := Tryz.sizeOf3
  v3 := Tryz.zeroValue3
  t4 := Tryz.underlying4
  a4 := Tryz.isAgg4
  z4 := Tryz.sizeOf4
  v4 := Tryz.zeroValue4
  t5 := Tryz.underlying5
  a5 := Tryz.isAgg5
  z5 := Tryz.sizeOf5
  v5 := Tryz.zeroValue5
  t9 := Tryz.underlying9
  a9 := Tryz.isAgg9
  z9 := Tryz.sizeOf9
  v9 := Tryz.zeroValue9
  t46 := Tryz.underlying170
  a46 := Tryz.isAgg170
  z46 := Tryz.sizeOf170
  v46 := Tryz.zeroValue170
  t51 := Tryz.underlying23
  a51 := Tryz.isAgg23
  z51 := Tryz.sizeOf23
  v51 := Tryz.zeroValue23
  t146 := Tryz.underlying271
  a146 := Tryz.isAgg271
  z146 := Tryz.sizeOf271
  v146 := Tryz.zeroValue271
  g1 := by kernel_rfl }
def index242_lay_ren : Go.Shelf.Ren := ⟨fun | 143 => 242 | 219 => 268 | 217 => 298 | 225 => 299 | 224 => 300 | 267 => 301 | 266 => 316 | 314 => 317 | n => n, fun | 9 => 9 | 3 => 3 | 4 => 4 | 5 => 5 | 46 => 170 | 146 => 271 | 51 => 23 | n => n, fun | 1 => 4 | n => n⟩
theorem index242_lay : Go.Proofs.Lays.n143 Tryz.prog index242_lay_ren := {
  mixed := by kernel_rfl
  f143 := Tryz.func242.trans (congrArg some (by kernel_rfl))
  f217 := Tryz.func298.trans (congrArg some (by kernel_rfl))
  f219 := Tryz.func268.trans (congrArg some (by kernel_rfl))
  f224 := Tryz.func300.trans (congrArg some (by kernel_rfl))
  f225 := Tryz.func299.trans (congrArg some (by kernel_rfl))
  f266 := Tryz.func316.trans (congrArg some (by kernel_rfl))
  f267 := Tryz.func301.trans (congrArg some (by kernel_rfl))
  f314 := Tryz.func317.trans (congrArg some (by kernel_rfl))
  t3 := Tryz.underlying3
  a3 := Tryz.isAgg3
  z3 := Tryz.sizeOf3
  v3 := Tryz.zeroValue3
  t4 := Tryz.underlying4
  a4 := Tryz.isAgg4
  z4 := Tryz.sizeOf4
  v4 := Tryz.zeroValue4
  t5 := Tryz.underlying5
  a5 := Tryz.isAgg5
  z5 := Tryz.sizeOf5
  v5 := Tryz.zeroValue5
  t9 := Tryz.underlying9
  a9 := Tryz.isAgg9
  z9 := Tryz.sizeOf9
  v9 := Tryz.zeroValue9
  t46 := Tryz.underlying170
  a46 := Tryz.isAgg170
  z46 := Tryz.sizeOf170
  v46 := Tryz.zeroValue170
  t51 := Tryz.underlying23
  a51 := Tryz.isAgg23
  z51 := Tryz.sizeOf23
  v51 := Tryz.zeroValue23
  t146 := Tryz.underlying271
  a146 := Tryz.isAgg271
  z146 := Tryz.sizeOf271
  v146 := Tryz.zeroValue271
  g1 := by kernel_rfl }
def ixS : List UInt8 → UInt8 → Nat → Int
  | [], _, _ => -1
  | b :: l, c, i => bif b == c then (i : Int) else ixS l c (i + 1)
theorem ixS_eq : ∀ (l : List UInt8) (c : UInt8) (i : Nat), ixS l c i = if Lib.indexByte l c = -1 then -1 else i + Lib.indexByte l c
  | [], _, _ => rfl
  | b :: l, c, i => by
    have ih := ixS_eq l c (i + 1)
    have hge := Lib.indexByte_ge l c
    unfold ixS Lib.indexByte
    cases hb : b == c
    · rw [cond_false, ih]
      simp only [Bool.false_eq_true, if_false, beq_iff_eq]
      by_cases h : Lib.indexByte l c = -1
      · simp [h]
      · simp only [h, if_false]
        rw [if_neg (by omega)]
        omega
    · simp
theorem ixS_zero (l : List UInt8) (c : UInt8) : ixS l c 0 = Lib.indexByte l c := by
  rw [ixS_eq]
  by_cases h : Lib.indexByte l c = -1
  · simp [h]
  · simp [h]
theorem count241 (s : List UInt8) (c : UInt8) (w : World) : Calls Tryz.prog 241 #[.string ⟨s.toArray⟩, .string ⟨#[c]⟩] w fun e w' => e = .returned (.int .i64 (s.count c)) ∧ w' = w :=
  Any.strings_Count_one count241_lay ⟨s.toArray⟩ c w
theorem index242 (s : List UInt8) (c : UInt8) (w : World) : Calls Tryz.prog 242 #[.string ⟨s.toArray⟩, .string ⟨#[c]⟩] w fun e w' => e = .returned (.int .i64 (ixS s c 0)) ∧ w' = w := by
  rw [ixS_zero]
  exact Any.strings_Index_one index242_lay ⟨s.toArray⟩ c w
def ctA (args : List AV) (σ : AH) : Out := match args with
  | [.str s, .str [c]] => (true, .int .i64 (s.count c), σ)
  | _ => bad σ
def ixA (args : List AV) (σ : AH) : Out := match args with
  | [.str s, .str [c]] => (true, .int .i64 (ixS s c 0), σ)
  | _ => bad σ
noncomputable def ciF (g : FuncId → List AV → AH → Out) (f : FuncId) (args : List AV) (σ : AH) : Out := bif Nat.beq f 241 then ctA args σ else bif Nat.beq f 242 then ixA args σ else g f args σ
theorem ciF_ok {Y : List Yl} {g : FuncId → List AV → AH → Out} (hg : FnOk Tryz.prog 6 g Y) : FnOk Tryz.prog 6 (ciF g) Y := by
  intro f args σ h
  unfold ciF at h ⊢
  cases hf : Nat.beq f 241
  case true =>
    rw [hf] at h
    simp only [cond_true] at h ⊢
    have e := Nat.eq_of_beq_eq_true hf
    subst e
    refine ⟨⟨_, Tryz.func241, by kernel_rfl, by kernel_rfl⟩, fun ρ W vs _ hG hr hvs => ?_⟩
    unfold ctA at h ⊢
    split at h
    case h_2 => cases h
    rename_i s c
    obtain ⟨v, mm, rfl, hv, u, mmm, rfl, hu, hmm⟩ := hvs
    have hmm : mmm = [] := hmm
    subst hmm
    unfold VR at hv hu
    subst hu hv
    refine (count241 s c W).mono ?_
    rintro e W' ⟨rfl, hw⟩
    subst hw
    exact ⟨_, ρ, rfl, hr, .refl (Nat.le_refl _), by unfold VR; rfl⟩
  case false =>
    rw [hf] at h
    rw [cond_false] at h ⊢
    cases hf2 : Nat.beq f 242
    case false => rw [hf2] at h; rw [cond_false] at h ⊢; exact hg f args σ h
    rw [hf2] at h
    simp only [cond_true] at h ⊢
    have e := Nat.eq_of_beq_eq_true hf2
    subst e
    refine ⟨⟨_, Tryz.func242, by kernel_rfl, by kernel_rfl⟩, fun ρ W vs _ hG hr hvs => ?_⟩
    unfold ixA at h ⊢
    split at h
    case h_2 => cases h
    rename_i s c
    obtain ⟨v, mm, rfl, hv, u, mmm, rfl, hu, hmm⟩ := hvs
    have hmm : mmm = [] := hmm
    subst hmm
    unfold VR at hv hu
    subst hu hv
    refine (index242 s c W).mono ?_
    rintro e W' ⟨rfl, hw⟩
    subst hw
    exact ⟨_, ρ, rfl, hr, .refl (Nat.le_refl _), by unfold VR; rfl⟩
noncomputable section
def k1S (l : List UInt8) (f : UInt8 → FR) : FR := List.rec (motive := fun _ => FR) .bad (fun c m _ => List.rec (motive := fun _ => FR) (f c) (fun _ _ _ => .bad) m) l
theorem k1S_cases {l : List UInt8} {f : UInt8 → FR} (h : k1S l f ≠ .bad) : ∃ c, l = [c] ∧ k1S l f = f c := by
  cases l with
  | nil => exact absurd rfl h
  | cons c m =>
    cases m with
    | nil => exact ⟨c, rfl, rfl⟩
    | cons _ _ => exact absurd rfl h
def ctQ (l : List FV) (σ : FH) (k : KV) : FR := k2L l fun x y => kS (fun s => kS (fun c => k1S (unp c) fun c => fN ((unp s).count c) fun m => k (.n .i64 m) σ) y) x
def ixQ (l : List FV) (σ : FH) (k : KV) : FR := k2L l fun x y => kS (fun s => kS (fun c => k1S (unp c) fun c => vI .i64 (ixS (unp s) c 0) fun v => k v σ) y) x
theorem ctQ_sm (l : List FV) (σ : FH) (k : KV) : Sm (ctQ l σ k) k (ctA (αL l) (αH σ)) := by
  intro h
  unfold ctQ at h ⊢
  obtain ⟨x, y, rfl, h1⟩ := k2L_cases h
  rw [h1] at h ⊢
  obtain ⟨s, rfl, h2⟩ := kS_cases h
  rw [h2] at h ⊢
  obtain ⟨c, rfl, h3⟩ := kS_cases h
  rw [h3] at h ⊢
  obtain ⟨u, h4, h5⟩ := k1S_cases h
  rw [h5] at h ⊢
  rw [fN_eq]
  refine ⟨_, σ, ?_, rfl⟩
  simp only [αL, αV, ctA, h4]
  rfl
theorem ixQ_sm (l : List FV) (σ : FH) (k : KV) : Sm (ixQ l σ k) k (ixA (αL l) (αH σ)) := by
  intro h
  unfold ixQ at h ⊢
  obtain ⟨x, y, rfl, h1⟩ := k2L_cases h
  rw [h1] at h ⊢
  obtain ⟨s, rfl, h2⟩ := kS_cases h
  rw [h2] at h ⊢
  obtain ⟨c, rfl, h3⟩ := kS_cases h
  rw [h3] at h ⊢
  obtain ⟨u, h4, h5⟩ := k1S_cases h
  rw [h5] at h ⊢
  obtain ⟨v, h6, h7⟩ := vI_of .i64 (ixS (unp s) u 0) fun v => k v σ
  refine ⟨v, σ, ?_, h7⟩
  simp only [αL, αV, ixA, h4, h6]
end
end Go.Proofs.YtjgmpdklfcmelaaGreatDoor.V2
namespace Go.Proofs.YtjgmpdklfcmelaaGreatDoor
open Go.RowKit
def TC : List UInt32 := [0, 498536548, 997073096, 651767980, 1994146192, 1802195444, 1303535960, 1342533948, 3988292384, 4027552580, 3604390888, 3412177804, 2607071920, 2262029012, 2685067896, 3183342108]
def halfW (n : UInt32) : UInt32 := sror n 4 ^^^ TC.getD (n &&& 15).toNat 0
def stepW (n : UInt32) (c : UInt8) : UInt32 := halfW (halfW (n ^^^ c.toUInt32))
def crcW (bs : List UInt8) : UInt32 := bs.foldl stepW 4294967295
def TabC (w : World) : Prop := ∀ i, i < 16 → w.cell? ⟨2, i, none⟩ = some (.int .u32 (N32 (TC.getD i 0)))
attribute [local go_sem] u32_bits_xor u32_bits_and
theorem and15 (n : UInt32) : (n &&& 15).toNat < 16 := by
  have : (n &&& 15).toNat = n.toNat &&& 15 := rfl
  rw [this]
  exact Nat.lt_of_le_of_lt Nat.and_le_right (by omega)
set_option maxHeartbeats 400000 in
theorem half_any (n : UInt32) (w : World) (hT : TabC w) : Calls Tryz.prog 223 #[.int .u32 (N32 n)] w fun e w' => e = .returned (.int .u32 (N32 (halfW n))) ∧ w' = w := by
  have hs : N32 n / 16 = N32 (sror n 4) := sror_eq n 4
  have h15 : (15 : Int) = N32 15 := rfl
  have hlt := and15 n
  have hcell : w.cell? ⟨2, (N32 (n &&& 15)).toNat, none⟩ = some (.int .u32 (N32 (TC.getD (n &&& 15).toNat 0))) := hT (n &&& 15).toNat hlt
  have hb : 0 ≤ N32 (n &&& 15) ∧ N32 (n &&& 15) < 16 := by
    have : N32 (n &&& 15) = ((n &&& 15).toNat : Int) := rfl
    omega
  go_enter Tryz.func223, Tryz.ntmps223
  go_wp2
  go_ret
  exact ⟨rfl, rfl⟩
theorem u8_u32 (c : UInt8) : IntKind.u32.wrap (N8 c) = N32 c.toUInt32 := by
  have h := c.toNat_lt
  have e : N8 c = ((c.toNat : Nat) : Int) := rfl
  rw [e, wrap_u32, Nat.mod_eq_of_lt (by omega)]
  unfold N32
  rw [UInt8.toNat_toUInt32]
theorem crc_step (n : UInt32) (bs : List UInt8) (k : Nat) (h : k < bs.length) : (bs.take (k + 1)).foldl stepW n = stepW ((bs.take k).foldl stepW n) (at8 bs k) := by
  rw [List.take_succ_eq_append_getElem h, List.foldl_append]
  simp [at8, List.getD_eq_getElem?_getD, h]
def CrcR (bs : List UInt8) (n _c i : Value) : Prop := ∃ k : Nat, k ≤ bs.length ∧ i = .int .i64 k ∧ n = .int .u32 (N32 ((bs.take k).foldl stepW 4294967295))
set_option maxHeartbeats 1000000 in
theorem crc_some (b off c : Nat) (bs : List UInt8) (w : World) (hT : TabC w) (hcell : ∀ j, j < bs.length → w.cell? ⟨b, off + j, none⟩ = some (.int .u8 (N8 (at8 bs j)))) (hl : bs.length ≤ 1000000000) :
    Calls Tryz.prog 155 #[.slice (some ⟨b, off, none⟩) bs.length c] w fun e w' => e = .returned (.int .u32 (N32 (~~~ crcW bs))) ∧ w' = w := by
  have HC := Lib.hid hcell
  clear hcell
  go_enter Tryz.func155, Tryz.ntmps155
  go_wp2
  go_loop [3, 5, 8] (CrcR bs) (fun _ _ i => bs.length - (intOf i).toNat)
  case atStart => exact ⟨0, by omega, rfl, rfl⟩
  case round =>
    obtain ⟨k, hk, rfl, rfl⟩ := hrel
    by_cases hlt : k < bs.length
    · have d1 : decide ((k : Int) < (bs.length : Int)) = true := decide_eq_true (by omega)
      have g1 : w.cell? ⟨b, off + k, none⟩ = some (.int .u8 (N8 (at8 bs k))) := HC.out k hlt
      have hu := u8_u32 (at8 bs k)
      have HS := Lib.hid (crc_step 4294967295 bs k hlt)
      go_wp2_with (go_at_call 223; refine (half_any _ _ hT).mono ?_; rintro e w' ⟨rfl, hw⟩; rw [hw]; clear hw w')
      go_round
      case rel => exact ⟨k + 1, by omega, by go_num, by rw [HS.out]; rfl⟩
      case measure => simp [intOf]; omega
    · have d1 : decide ((k : Int) < (bs.length : Int)) = false := decide_eq_false (by omega)
      obtain rfl : k = bs.length := by omega
      go_wp2
      go_ret
      exact ⟨ret_int (u32_bits_not2 _), rfl⟩
set_option maxHeartbeats 1000000 in
theorem crc_none (a : Option Addr) (w : World) : Calls Tryz.prog 155 #[.slice a 0 0] w fun e w' => e = .returned (.int .u32 (N32 (~~~ crcW []))) ∧ w' = w := by
  go_enter Tryz.func155, Tryz.ntmps155
  go_wp2
  go_loop [3, 5, 8] (fun n _ i => n = .int .u32 (N32 4294967295) ∧ i = .int .i64 0) (fun _ _ _ => 0)
  case atStart => exact ⟨rfl, rfl⟩
  case round =>
    obtain ⟨rfl, rfl⟩ := hrel
    go_wp2
    go_ret
    exact ⟨ret_int (u32_bits_not2 _), rfl⟩
theorem crc_any (v : Value) (bs : List UInt8) (w : World) (hT : TabC w) (h : BSl w v bs) (hl : bs.length ≤ 1000000000) :
    Calls Tryz.prog 155 #[v] w fun e w' => e = .returned (.int .u32 (N32 (~~~ crcW bs))) ∧ w' = w := by
  rcases h with ⟨rfl, rfl⟩ | ⟨b, off, c, rfl, _, _, hc⟩ | ⟨a, rfl, rfl⟩
  · exact crc_none none w
  · exact crc_some b off c bs w hT hc hl
  · exact crc_none (some a) w
end Go.Proofs.YtjgmpdklfcmelaaGreatDoor
namespace Go.Proofs.YtjgmpdklfcmelaaGreatDoor.V2
open Go
open Go.RowKit
def isTC (l : List Int) : Bool := decide (l = wI TC)
noncomputable def crA (args : List AV) (σ : AH) : Out := match args with
  | [s] => ((bytesA std byI σ s).1 && globA σ 2 isTC && Nat.ble (bytesA std byI σ s).2.length 1000000000, .int .u32 (N32 (~~~ crcW (toBs (bytesA std byI σ s).2))), σ)
  | _ => bad σ
noncomputable def crF (g : FuncId → List AV → AH → Out) (f : FuncId) (args : List AV) (σ : AH) : Out := bif Nat.beq f 155 then crA args σ else g f args σ
theorem crF_ok {Y : List Yl} {g : FuncId → List AV → AH → Out} (hg : FnOk Tryz.prog 6 g Y) : FnOk Tryz.prog 6 (crF g) Y := by
  intro f args σ h
  unfold crF at h ⊢
  cases hf : Nat.beq f 155
  case false => rw [hf] at h; rw [cond_false] at h ⊢; exact hg f args σ h
  rw [hf] at h
  simp only [cond_true] at h ⊢
  have e := Nat.eq_of_beq_eq_true hf
  subst e
  refine ⟨⟨_, Tryz.func155, by kernel_rfl, by kernel_rfl⟩, fun ρ W vs _ hG hr hvs => ?_⟩
  unfold crA at h ⊢
  split at h
  case h_2 => cases h
  rename_i s
  obtain ⟨v, mm, rfl, hv, hmm⟩ := hvs
  have hmm : mm = [] := hmm
  subst hmm
  simp only [Bool.and_eq_true, Nat.ble_eq] at h
  obtain ⟨⟨h1, h2⟩, h3⟩ := h
  have hB := (bytes_of hr hv h1).1
  have hlen : (toBs (bytesA std byI σ s).2).length ≤ 1000000000 := by unfold toBs; rw [List.length_map]; exact h3
  have hT : TabC W := glob_of hr (fun l h => by simpa [isTC] using h) rfl (hG 2 (by decide)) h2
  refine (crc_any v _ W hT hB hlen).mono ?_
  rintro e W' ⟨rfl, hw⟩
  subst hw
  exact ⟨_, ρ, rfl, hr, .refl (Nat.le_refl _), by unfold VR; rfl⟩
noncomputable section
def tcN : Nat := 9937593612760466100516450665319420528403982636753068485404800763335476026940182181175496972418787619281442302519629725716261212251300561153615832085954560
def hfN (y : Nat) : Nat := Nat.xor (Nat.shiftRight y 4) (Nat.land (Nat.shiftRight tcN (Nat.shiftLeft (Nat.land y 15) 5)) 4294967295)
theorem tc_at : ∀ i, i < 16 → Nat.land (Nat.shiftRight tcN (Nat.shiftLeft i 5)) 4294967295 = (TC.getD i 0).toNat := by
  intro i hi
  match i, hi with
  | 0, _ => rfl
  | 1, _ => rfl
  | 2, _ => rfl
  | 3, _ => rfl
  | 4, _ => rfl
  | 5, _ => rfl
  | 6, _ => rfl
  | 7, _ => rfl
  | 8, _ => rfl
  | 9, _ => rfl
  | 10, _ => rfl
  | 11, _ => rfl
  | 12, _ => rfl
  | 13, _ => rfl
  | 14, _ => rfl
  | 15, _ => rfl
  | n + 16, h => exact absurd h (by omega)
theorem hfN_eq (n : UInt32) : hfN n.toNat = (halfW n).toNat := by
  unfold hfN halfW
  have e1 : Nat.land n.toNat 15 = (n &&& 15).toNat := rfl
  rw [e1, tc_at _ (and15 n), UInt32.toNat_xor]
  congr 1
  unfold sror
  rw [UInt32.toNat_ofNat']
  have h1 : n.toNat / 2 ^ 4 < 2 ^ 32 := Nat.lt_of_le_of_lt (Nat.div_le_self _ _) n.toNat_lt
  rw [Nat.mod_eq_of_lt h1]
  exact Nat.shiftRight_eq_div_pow _ _
def crcK (n : Nat) (k : Nat → FR) : Nat → Nat → FR := Nat.rec (motive := fun _ => Nat → Nat → FR) (fun _ x => k x)
  (fun _ ih c x => fN (Nat.div c 256) fun c' => fN (hfN (Nat.xor x (Nat.mod c 256))) fun y => fN (hfN y) fun y => ih c' y) n
theorem crcK_eq : ∀ (n : Nat) (k : Nat → FR) (c : Nat) (x : UInt32), crcK n k c x.toNat = k ((unpN n c).foldl stepW x).toNat
  | 0, _, _, _ => rfl
  | n + 1, k, c, x => by
    show (fN (Nat.div c 256) fun c' => fN (hfN (Nat.xor x.toNat (Nat.mod c 256))) fun y => fN (hfN y) fun y => crcK n k c' y) = _
    rw [fN_eq, fN_eq, fN_eq]
    have e : Nat.xor x.toNat (Nat.mod c 256) = (x ^^^ (UInt8.ofNat (c % 256)).toUInt32).toNat := by
      rw [UInt32.toNat_xor, UInt8.toNat_toUInt32, UInt8.toNat_ofNat']
      show x.toNat ^^^ (c % 256) = _
      rw [Nat.mod_mod]
    rw [e, hfN_eq, hfN_eq]
    exact crcK_eq n k (c / 256) _
theorem unpN_add : ∀ (a b c : Nat), unpN (a + b) c = unpN a c ++ unpN b (c / 256 ^ a)
  | 0, b, c => by rw [Nat.zero_add, Nat.pow_zero, Nat.div_one]; rfl
  | a + 1, b, c => by
    rw [Nat.succ_add]
    show UInt8.ofNat (c % 256) :: unpN (a + b) (c / 256) = UInt8.ofNat (c % 256) :: (unpN a (c / 256) ++ unpN b (c / 256 ^ (a + 1)))
    rw [unpN_add a b, Nat.div_div_eq_div_mul, Nat.pow_succ, Nat.mul_comm 256]
theorem unpN_mod (a c : Nat) : unpN a (c % 256 ^ a) = unpN a c := by
  refine ext_unp (unpN_length a c) fun i hi => ?_
  rw [unpN_at a c i hi, mod_div_mod c a i hi]
def crcG (q : Nat) (k : Nat → Nat → FR) : Nat → Nat → FR := Nat.rec (motive := fun _ => Nat → Nat → FR) k
  (fun _ ih c x => fN (Nat.land c 115792089237316195423570985008687907853269984665640564039457584007913129639935) fun d => fN (Nat.shiftRight c 256) fun c' => crcK 32 (fun y => ih c' y) d x) q
theorem crcG_eq : ∀ (q r : Nat) (k : Nat → FR) (c : Nat) (x : UInt32), crcG q (fun c x => crcK r k c x) c x.toNat = k ((unpN (32 * q + r) c).foldl stepW x).toNat
  | 0, r, k, c, x => by
    show crcK r k c x.toNat = _
    rw [crcK_eq, Nat.mul_zero, Nat.zero_add]
  | q + 1, r, k, c, x => by
    show (fN (Nat.land c 115792089237316195423570985008687907853269984665640564039457584007913129639935) fun d => fN (Nat.shiftRight c 256) fun c' => crcK 32 (fun y => crcG q (fun c x => crcK r k c x) c' y) d x.toNat) = _
    rw [fN_eq, fN_eq]
    have e1 : Nat.land c 115792089237316195423570985008687907853269984665640564039457584007913129639935 = c % 256 ^ 32 := by
      have := Nat.and_two_pow_sub_one_eq_mod c 256
      rw [show (2 : Nat) ^ 256 = 256 ^ 32 by rw [show (256 : Nat) = 2 ^ 8 by rfl, ← Nat.pow_mul]] at this
      exact this
    have e2 : Nat.shiftRight c 256 = c / 256 ^ 32 := by
      have := Nat.shiftRight_eq_div_pow c 256
      rw [show (2 : Nat) ^ 256 = 256 ^ 32 by rw [show (256 : Nat) = 2 ^ 8 by rfl, ← Nat.pow_mul]] at this
      exact this
    rw [e1, e2, crcK_eq 32 (fun y => crcG q (fun c x => crcK r k c x) (c / 256 ^ 32) y)]
    show crcG q (fun c x => crcK r k c x) (c / 256 ^ 32) _ = _
    rw [crcG_eq q r k, unpN_mod, ← List.foldl_append, ← unpN_add, show 32 + (32 * q + r) = 32 * (q + 1) + r by omega]
def crB (c : Nat) (σ : FH) (k : KV) : FR := fN (bl c) fun n => gB (Nat.ble n 1000000000) (crcG (Nat.div n 32) (fun c x => crcK (Nat.mod n 32) (fun x => fN (Nat.xor 4294967295 x) fun x => k (.n .u32 x) σ) c x) c 4294967295)
def crQ (l : List FV) (σ : FH) (k : KV) : FR := k1L l fun x => gB (globA (αH σ) 2 isTC) (rowQ false 1 σ x fun _ R => kR (fun c => crB c σ k) (fun l => List.rec (motive := fun _ => FR) (crB 1 σ k) (fun _ _ _ => .bad) l) (fun _ _ => .bad) R)
theorem not32 (x : UInt32) : Nat.xor 4294967295 x.toNat = (~~~ x).toNat := by
  have h : (4294967295 : UInt32) ^^^ x = ~~~ x := by
    apply UInt32.toBitVec_inj.1
    simp [← BitVec.allOnes_xor]
  rw [← h, UInt32.toNat_xor]; rfl
theorem crB_ok {c : Nat} {σ : FH} {k : KV} (h : crB c σ k ≠ .bad) : Nat.ble (unp c).length 1000000000 = true ∧ crB c σ k = k (.n .u32 (~~~ crcW (unp c)).toNat) σ := by
  unfold crB at h ⊢
  rw [fN_eq] at h ⊢
  rw [gB_eq] at h ⊢
  cases hb : Nat.ble (bl c) 1000000000 <;> rw [hb] at h
  · exact absurd rfl h
  refine ⟨by rw [unp_length]; exact hb, ?_⟩
  rw [cond_true]
  have := crcG_eq (Nat.div (bl c) 32) (Nat.mod (bl c) 32) (fun x => fN (Nat.xor 4294967295 x) fun x => k (.n .u32 x) σ) c 4294967295
  have e : (4294967295 : UInt32).toNat = 4294967295 := rfl
  rw [e] at this
  have hd : 32 * Nat.div (bl c) 32 + Nat.mod (bl c) 32 = bl c := Nat.div_add_mod (bl c) 32
  rw [hd] at this
  rw [this, fN_eq, not32]
  rfl
theorem toBs_unpI (c : Nat) : toBs (unpI c) = unp c := by
  unfold toBs unpI
  rw [List.map_map]
  conv => rhs; rw [← List.map_id (unp c)]
  exact List.map_congr_left fun b _ => by simp
theorem byI_unpI (c : Nat) : byI (unpI c) = true := by
  unfold byI unpI
  rw [List.all_map, List.all_eq_true]
  intro b _
  have := b.toNat_lt
  simp; omega
theorem crQ_sm (l : List FV) (σ : FH) (k : KV) : Sm (crQ l σ k) k (crA (αL l) (αH σ)) := by
  intro h
  unfold crQ at h ⊢
  obtain ⟨x, rfl, h1⟩ := k1L_cases h
  rw [h1] at h ⊢
  rw [gB_eq] at h ⊢
  cases hg : globA (αH σ) 2 isTC <;> rw [hg] at h
  · exact absurd rfl h
  rw [cond_true] at h ⊢
  obtain ⟨m, R, h2, h3⟩ := rowQ_cases h
  rw [h3] at h ⊢
  have fin : ∀ (c : Nat) (L : List Int), rowB (αR R) = some L → L = unpI c → crB c σ k ≠ .bad → ∃ v σ', crA (αL [x]) (αH σ) = (true, αV v, αH σ') ∧ crB c σ k = k v σ' := fun c L e1 e2 hc => by
    obtain ⟨g1, g2⟩ := crB_ok hc
    refine ⟨_, σ, ?_, g2⟩
    have hbA : bytesA std byI (αH σ) (αV x) = (true, unpI c) := by
      unfold bytesA
      rw [h2]
      simp only [e1]
      rw [e2, byI_unpI]; rfl
    show ((bytesA std byI (αH σ) (αV x)).1 && globA (αH σ) 2 isTC && Nat.ble (bytesA std byI (αH σ) (αV x)).2.length 1000000000, AV.int .u32 (N32 (~~~ crcW (toBs (bytesA std byI (αH σ) (αV x)).2))), αH σ) = _
    rw [hbA, hg, toBs_unpI]
    have hl : (unpI c).length = (unp c).length := by unfold unpI; rw [List.length_map]
    simp only [hl, g1]
    rfl
  cases R with
  | bs c => exact fin c _ rfl rfl h
  | cells l =>
    cases l with
    | nil => exact fin 1 [] rfl rfl h
    | cons _ _ => exact absurd rfl h
  | ints k l => exact absurd rfl h
end
end Go.Proofs.YtjgmpdklfcmelaaGreatDoor.V2
namespace Go.Proofs.YtjgmpdklfcmelaaGreatDoor.V2
open Go
open Go.RowKit
set_option maxRecDepth 100000 in
set_option maxHeartbeats 2000000 in
theorem clone99 (b : Nat) (es : Array MapEntry) (clock : Nat) (w : World) (hb : w.heap[b]? = some (.map es clock)) :
    Calls Tryz.prog 99 #[.map (some b)] w fun e w' => e = .returned (.map (some w.heap.size)) ∧ w' = w.alloc (.map es clock) := by
  have hq := fun w => eql_map (Pr := Tryz.prog) w 51 _ _ (some b) Tryz.underlying51
  go_enter Tryz.func99, Tryz.ntmps99
  go_wp2
  rw [run_callFunc_extern Tryz.func187 (by kernel_rfl) (by kernel_rfl) (by kernel_rfl) (e := Extern.MapsClone.clone) (by kernel_rfl), clone_map w 51 hb]
  simp only [Result.andThen]
  rw [Oper.upon_value]
  go_wp2
  rw [assert_map _ 51 _ _ _ _ Tryz.underlying51]
  simp only [Result.andThen]
  rw [Oper.upon_value]
  go_wp2
  go_ret
  exact ⟨rfl, rfl⟩
set_option maxRecDepth 100000 in
set_option maxHeartbeats 2000000 in
theorem clone212 (b : Nat) (es : Array MapEntry) (clock : Nat) (w : World) (hb : w.heap[b]? = some (.map es clock)) :
    Calls Tryz.prog 212 #[.map (some b)] w fun e w' => e = .returned (.map (some w.heap.size)) ∧ w' = w.alloc (.map es clock) := by
  have hq := fun w => eql_map (Pr := Tryz.prog) w 127 _ _ (some b) Tryz.underlying127
  go_enter Tryz.func212, Tryz.ntmps212
  go_wp2
  rw [run_callFunc_extern Tryz.func187 (by kernel_rfl) (by kernel_rfl) (by kernel_rfl) (e := Extern.MapsClone.clone) (by kernel_rfl), clone_map w 127 hb]
  simp only [Result.andThen]
  rw [Oper.upon_value]
  go_wp2
  rw [assert_map _ 127 _ _ _ _ Tryz.underlying127]
  simp only [Result.andThen]
  rw [Oper.upon_value]
  go_wp2
  go_ret
  exact ⟨rfl, rfl⟩
noncomputable def mdF (g : FuncId → List AV → AH → Out) (f : FuncId) (args : List AV) (σ : AH) : Out :=
  bif Nat.beq f 99 || Nat.beq f 212 then (match args with
    | [.map b] => match σ.get b with
      | some (.map l) => (Nat.blt σ.next 1000000, .map σ.next, σ.new (.map l))
      | _ => bad σ
    | _ => bad σ)
  else g f args σ
theorem mdF_ok {Y : List Yl} {g : FuncId → List AV → AH → Out} (hg : FnOk Tryz.prog 6 g Y) : FnOk Tryz.prog 6 (mdF g) Y := by
  intro f args σ h
  unfold mdF at h ⊢
  cases hf : Nat.beq f 99 || Nat.beq f 212
  case false => rw [hf] at h; rw [cond_false] at h ⊢; exact hg f args σ h
  rw [hf] at h
  simp only [cond_true] at h ⊢
  split at h
  case h_2 => cases h
  rename_i b
  split at h
  case h_2 => cases h
  rename_i l hl
  have hfn : (∃ fn, Tryz.prog.funcs[f]? = some fn ∧ fn.body.isSome = true ∧ (fn.name == "runtime.NumGoroutine") = false) ∧ ∀ (c : Nat) (es : Array MapEntry) (clock : Nat) (w : World), w.heap[c]? = some (.map es clock) → Calls Tryz.prog f #[.map (some c)] w fun e w' => e = .returned (.map (some w.heap.size)) ∧ w' = w.alloc (.map es clock) := by
    rw [Bool.or_eq_true] at hf
    rcases hf with hf | hf
    · have e := Nat.eq_of_beq_eq_true hf; subst e
      exact ⟨⟨_, Tryz.func99, by kernel_rfl, by kernel_rfl⟩, fun c es ck w hw => clone99 c es ck w hw⟩
    · have e := Nat.eq_of_beq_eq_true hf; subst e
      exact ⟨⟨_, Tryz.func212, by kernel_rfl, by kernel_rfl⟩, fun c es ck w hw => clone212 c es ck w hw⟩
  refine ⟨hfn.1, fun ρ W vs _ hG hr hvs => ?_⟩
  obtain ⟨v, m, rfl, hv, hm⟩ := hvs
  have hm : m = [] := hm
  subst hm
  unfold VR at hv
  obtain ⟨c, d, hb, rfl⟩ := hv
  obtain ⟨_, hc, ob, ho, hO⟩ := hr.dom b c d hb
  rw [hl] at ho
  cases ho
  obtain ⟨es, ck, hx, h1, h2, h3⟩ := hO.2 l rfl
  refine (hfn.2 c es ck W hx).mono fun e W' ⟨e1, e2⟩ => ?_
  subst e1 e2
  have hOR : OR ρ (0, 0) (.map l) (some (.map es ck)) := ⟨fun h => (by cases h), fun l' hl' => (by cases hl'; exact ⟨es, ck, rfl, h1, h2, h3⟩)⟩
  obtain ⟨ρ', g1, g2, g3, g4⟩ := hr.new (s := 0) h hOR
  refine ⟨_, ρ', rfl, g3, g4, ?_⟩
  unfold VR
  exact ⟨_, _, g1, rfl⟩
noncomputable def cmA (args : List AV) (σ : AH) : Out := match args with
  | [.map b] => match σ.get b with
    | some (.map l) => (Nat.blt σ.next 1000000, .map σ.next, σ.new (.map l))
    | _ => bad σ
  | _ => bad σ
noncomputable def cmQ (l : List FV) (σ : FH) (k : KV) : FR := k1L l fun x => kM (fun b => gM σ b (kMp fun m => nM σ (.map m) fun b σ => k (.m b) σ)) x
theorem cmQ_sm (l : List FV) (σ : FH) (k : KV) : Sm (cmQ l σ k) k (cmA (αL l) (αH σ)) := by
  intro h
  unfold cmQ at h ⊢
  obtain ⟨x, rfl, h1⟩ := k1L_cases h
  rw [h1] at h ⊢
  obtain ⟨b, rfl, h2⟩ := kM_cases h
  rw [h2] at h ⊢
  obtain ⟨ob, _, h3, h4⟩ := gM_cases h
  rw [h4] at h ⊢
  obtain ⟨m, rfl, h5⟩ := kMp_cases h
  rw [h5] at h ⊢
  obtain ⟨h6, σ', h7, h8⟩ := nM_cases h
  rw [h8]
  refine ⟨.m σ.next, σ', ?_, rfl⟩
  unfold cmA
  simp only [αL, αV, h3, αO]
  rw [h6, h7]; rfl
end Go.Proofs.YtjgmpdklfcmelaaGreatDoor.V2
namespace Go.Proofs.YtjgmpdklfcmelaaGreatDoor.V2
open Go
open Go.RowKit
def gnd1 : AV → Bool
  | .bool _ => true
  | .int _ _ => true
  | .str _ => true
  | _ => false
def gnd : AV → Bool
  | .agg l => l.all gnd1
  | a => gnd1 a
theorem gnd1_vr {ρ ρ' : Ren} : ∀ {a : AV} {v : Value}, gnd1 a = true → VR ρ a v → VR ρ' a v := fun {a v} h hv => by
  cases a <;> first | (cases h; done) | (unfold VR at hv ⊢; exact hv)
theorem gnd1_vrs {ρ ρ' : Ren} : ∀ {l : List AV} {vs : List Value}, l.all gnd1 = true → VRs ρ l vs → VRs ρ' l vs
  | [], _, _, e => e
  | a :: l, _, h, ⟨v, m, e, hv, hm⟩ => by
    rw [List.all_cons, Bool.and_eq_true] at h
    exact ⟨v, m, e, gnd1_vr h.1 hv, gnd1_vrs h.2 hm⟩
theorem gnd_vr {ρ ρ' : Ren} {a : AV} {v : Value} (h : gnd a = true) (hv : VR ρ a v) : VR ρ' a v := by
  cases a
  case agg l =>
    unfold VR at hv ⊢
    obtain ⟨us, e, hu⟩ := hv
    exact ⟨us, e, gnd1_vrs h hu⟩
  all_goals exact gnd1_vr h hv
def gndM (L : List (AV × AV)) : Bool := L.all fun p => gnd p.1 && gnd p.2
theorem gnd_mapL {ρ ρ' : Ren} : ∀ {L : List (AV × AV)} {es : List MapEntry}, gndM L = true → MapL ρ L es → MapL ρ' L es
  | [], _, _, e => e
  | p :: L, _, h, ⟨e, m, h1, h2, h3, h4⟩ => by
    unfold gndM at h
    rw [List.all_cons, Bool.and_eq_true, Bool.and_eq_true] at h
    exact ⟨e, m, h1, gnd_vr h.1.1 h2, gnd_vr h.1.2 h3, gnd_mapL h.2 h4⟩
theorem gnd_mr {ρ ρ' : Ren} {L : List (AV × AV)} {x : Option Obj} (h : gndM L = true) (hm : MR ρ L x) : MR ρ' L x := by
  obtain ⟨es, ck, h1, h2, h3⟩ := hm
  exact ⟨es, ck, h1, gnd_mapL h h2, h3⟩
noncomputable def smH (e : TypeId) (L : List (AV × AV)) : AH := ⟨8, ((((((((T.leaf.put 0 .shut).put 1 .shut).put 2 .shut).put 3 .shut).put 4 .shut).put 5 .shut).put 6 (.cells [.top, .top, .map 7] e .ro)).put 7 (.map L))⟩
theorem smH_get (e : TypeId) (L : List (AV × AV)) (x : Nat) : (smH e L).get x = if x = 7 then some (.map L) else if x = 6 then some (.cells [.top, .top, .map 7] e .ro) else if x < 6 then some .shut else none := by
  show T.get _ x = _
  simp only [smH, T.get_put _ _ _ _ (show (7 : Nat) < 1048576 by decide), T.get_put _ _ _ _ (show (6 : Nat) < 1048576 by decide), T.get_put _ _ _ _ (show (5 : Nat) < 1048576 by decide), T.get_put _ _ _ _ (show (4 : Nat) < 1048576 by decide), T.get_put _ _ _ _ (show (3 : Nat) < 1048576 by decide), T.get_put _ _ _ _ (show (2 : Nat) < 1048576 by decide), T.get_put _ _ _ _ (show (1 : Nat) < 1048576 by decide), T.get_put _ _ _ _ (show (0 : Nat) < 1048576 by decide), T.get_leaf]
  by_cases h7 : x = 7
  · simp [h7]
  by_cases h6 : x = 6
  · simp [h6]
  simp only [h7, h6, if_false]
  by_cases hx : x < 6
  · rw [if_pos hx]
    have : x = 0 ∨ x = 1 ∨ x = 2 ∨ x = 3 ∨ x = 4 ∨ x = 5 := by omega
    rcases this with h | h | h | h | h | h <;> subst h <;> simp
  · rw [if_neg hx]
    simp only [show ¬x = 5 by omega, show ¬x = 4 by omega, show ¬x = 3 by omega, show ¬x = 2 by omega, show ¬x = 1 by omega, show ¬x = 0 by omega, if_false]
def smR (ρ : Ren) (b m : Nat) : Ren := fun x => if x < 6 then ρ x else if x = 6 then ρ b else if x = 7 then ρ m else none
theorem sm_hr {ρ : Ren} {σ : AH} {W : World} (hr : HR ρ σ W) (hG : ∀ g, g < 6 → ∃ s, ρ g = some (g, (0, s))) (hS : ∀ g, g < 6 → ∃ o, σ.get g = some o ∧ o.isSh = true) {b m : Nat} {l : List AV} {e : TypeId} {tl : Tl} {L : List (AV × AV)}
    (hb : σ.get b = some (.cells l e tl)) (hl : l[2]? = some (.map m)) (hm : σ.get m = some (.map L)) (hg : gndM L = true) (h1 : ∃ x, ρ b = some x) : HR (smR ρ b m) (smH e L) W := by
  obtain ⟨⟨cb, db⟩, h1⟩ := h1
  have mapNo : ∀ {y c d d'}, ρ y = some (c, d) → ρ m = some (c, d') → y ≠ m → ∀ o, σ.get y = some o → o.alive = true → False := fun {y c d d'} k1 k2 hne o ho hal => by
    rcases hr.inj y m c d d' k1 k2 hne with e1 | e1 | ⟨o1, o2, _, e2, _, e3⟩
    · rw [ho] at e1; cases e1; cases hal
    · rw [hm] at e1; cases e1
    · rw [hm] at e2; cases e2; cases e3
  obtain ⟨hb1, hb2, ob, hob, hO⟩ := hr.dom b cb db h1
  rw [hb] at hob
  cases hob
  have hlen : 2 < l.length := (List.getElem?_eq_some_iff.1 hl).1
  obtain ⟨hA, hB⟩ := hO.1 rfl
  obtain ⟨cs, el, fr, hx, _, hlc, _, hall⟩ := hB fun _ => (by show 0 < l.length; omega)
  have hl2 : l.length + db.1 ≤ cs.size := hlc
  have hl3 : l.length + db.1 ≤ db.2 := hA
  have hneq : b ≠ m := fun h => by rw [h, hm] at hb; cases hb
  refine ⟨by show 8 ≤ _; omega, fun x hx => ?_, fun x c d hc => ?_, fun x y c d d' k1 k2 hne => ?_⟩
  · have hx : 8 ≤ x := hx
    rw [smH_get, if_neg (by omega), if_neg (by omega), if_neg (by omega)]
  · rw [smH_get]
    unfold smR at hc
    by_cases hx6 : x < 6
    · rw [if_pos hx6] at hc
      obtain ⟨s, hs⟩ := hG x hx6
      rw [hs] at hc
      cases hc
      obtain ⟨_, k2, _⟩ := hr.dom x _ _ hs
      rw [if_neg (by omega), if_neg (by omega), if_pos hx6]
      exact ⟨by show x < 8; omega, k2, _, rfl, OR.shut (Nat.zero_le _)⟩
    · rw [if_neg hx6] at hc
      by_cases hx7 : x = 6
      · subst hx7
        rw [if_pos rfl, h1] at hc
        cases hc
        rw [if_neg (by omega), if_pos rfl]
        refine ⟨by show 6 < 8; omega, hb2, _, rfl, OR.mk' rfl ⟨cs, el, fr, hx, (fun h => by cases h), by show 3 + db.1 ≤ _; omega, by show 3 + db.1 ≤ _; omega, fun i a hi => ?_⟩⟩
        match i, hi with
        | 0, hi => cases hi; obtain ⟨v, k1, _⟩ := hall 0 l[0] (List.getElem?_eq_getElem (by omega)); exact ⟨v, k1, trivial⟩
        | 1, hi => cases hi; obtain ⟨v, k1, _⟩ := hall 1 l[1] (List.getElem?_eq_getElem (by omega)); exact ⟨v, k1, trivial⟩
        | 2, hi =>
          cases hi
          obtain ⟨v, k1, k2⟩ := hall 2 _ hl
          unfold VR at k2
          obtain ⟨c2, d2, k3, k4⟩ := k2
          refine ⟨v, k1, ?_⟩
          unfold VR
          exact ⟨c2, d2, by unfold smR; rw [if_neg (by omega), if_neg (by omega), if_pos rfl]; exact k3, k4⟩
        | n + 3, hi => cases hi
      · rw [if_neg hx7] at hc
        by_cases hx8 : x = 7
        · subst hx8
          rw [if_pos rfl] at hc
          obtain ⟨k1, k2, o, k3, k4⟩ := hr.dom m c d hc
          rw [hm] at k3
          cases k3
          rw [if_pos rfl]
          exact ⟨by show 7 < 8; omega, k2, _, rfl, (fun h => by cases h), fun l' hl' => by cases hl'; exact gnd_mr hg (k4.2 L rfl)⟩
        · rw [if_neg hx8] at hc; cases hc
  · have g1 := smH_get e L x
    have g2 := smH_get e L y
    have key : ∀ z c d, smR ρ b m z = some (c, d) → z ≠ 7 → ∃ o, (smH e L).get z = some o ∧ o.isSh = true := fun z c d hz hz7 => by
      rw [smH_get, if_neg hz7]
      unfold smR at hz
      by_cases h6 : z < 6
      · rw [if_neg (by omega), if_pos h6]; exact ⟨_, rfl, rfl⟩
      · by_cases h66 : z = 6
        · rw [if_pos h66]; exact ⟨_, rfl, rfl⟩
        · rw [if_neg h6, if_neg h66, if_neg hz7] at hz; cases hz
    have seven : ∀ z c d d', smR ρ b m z = some (c, d) → smR ρ b m 7 = some (c, d') → z ≠ 7 → False := fun z c d d' hz h7 hz7 => by
      have h7 : ρ m = some (c, d') := h7
      unfold smR at hz
      by_cases h6 : z < 6
      · rw [if_pos h6] at hz
        obtain ⟨o, ho, hs⟩ := hS z h6
        have hzm : z ≠ m := fun h => by rw [h, hm] at ho; cases ho; cases hs
        refine mapNo hz h7 hzm o ho ?_
        have : o.cellsy = true := by unfold AObj.isSh at hs; rw [Bool.and_eq_true] at hs; exact hs.2
        exact AObj.alive_of this
      · by_cases h66 : z = 6
        · rw [if_neg h6, if_pos h66] at hz
          exact mapNo hz h7 hneq _ hb rfl
        · rw [if_neg h6, if_neg h66, if_neg hz7] at hz; cases hz
    by_cases hx7 : x = 7
    · subst hx7
      exact (seven y c d' d k2 k1 (Ne.symm hne)).elim
    · by_cases hy7 : y = 7
      · subst hy7
        exact (seven x c d d' k1 k2 hne).elim
      · obtain ⟨o1, e1, e2⟩ := key x c d k1 hx7
        obtain ⟨o2, e3, e4⟩ := key y c d' k2 hy7
        exact .inr (.inr ⟨o1, o2, e1, e3, e2, e4⟩)
theorem sm_back {ρ ρ' : Ren} {σ σ' : AH} {W W' : World} (hr : HR ρ σ W) (hG : ∀ g, g < 6 → ∃ s, ρ g = some (g, (0, s))) {b m : Nat} {e : TypeId} {L L' : List (AV × AV)} {lb : List AV} {tl : Tl}
    (_hb : σ.get b = some (.cells lb e tl)) (hm : σ.get m = some (.map L)) (hg : gndM L' = true) (h1 : ∃ x, ρ b = some x) (h2 : ∃ x, ρ m = some x)
    (hs : HR ρ' σ' W') (hst : Stp 8 (smR ρ b m) (smH e L) W ρ' σ' W') (h7 : σ'.get 7 = some (.map L')) :
    HR ρ (σ.put m (.map L')) W' ∧ Stp σ.next ρ σ W ρ (σ.put m (.map L')) W' := by
  obtain ⟨⟨cb, db⟩, h1⟩ := h1
  obtain ⟨⟨cm, dm⟩, h2⟩ := h2
  have hmn : m < 1048576 := by have := (hr.dom m cm dm h2).1; have := hr.small; omega
  have hput : ∀ x, (σ.put m (.map L')).get x = if x = m then some (.map L') else σ.get x := fun x => T.get_put _ _ _ _ hmn
  have mapNo : ∀ {y d}, ρ y = some (cm, d) → y ≠ m → ∀ o, σ.get y = some o → o.alive = true → False := fun {y d} k1 hne o ho hal => by
    rcases hr.inj y m cm d dm k1 h2 hne with e1 | e1 | ⟨o1, o2, _, e2, _, e3⟩
    · rw [ho] at e1; cases e1; cases hal
    · rw [hm] at e1; cases e1
    · rw [hm] at e2; cases e2; cases e3
  have same : ∀ y c d o, ρ y = some (c, d) → y ≠ m → σ.get y = some o → o.alive = true → W'.heap[c]? = W.heap[c]? := fun y c d o hy hne ho hal => by
    by_cases e1 : c = cm
    · subst e1; exact (mapNo hy hne o ho hal).elim
    by_cases e2 : c = cb
    · subst e2
      exact (hst.ro 6 c db (.cells [.top, .top, .map 7] e .ro) (by omega) (by unfold smR; rw [if_neg (by omega), if_pos rfl]; exact h1) (hr.dom b _ _ h1).2.1 (by rw [smH_get, if_neg (by omega), if_pos rfl]) rfl).2
    by_cases e3 : c < 6
    · obtain ⟨s, hs'⟩ := hG c e3
      exact (hst.ro c c (0, s) .shut (by omega) (by unfold smR; rw [if_pos e3]; exact hs') (hr.dom c _ _ hs').2.1 (by rw [smH_get, if_neg (by omega), if_neg (by omega), if_pos e3]) rfl).2
    · refine hst.frame c (hr.dom y c d hy).2.1 fun x d' hx => ?_
      unfold smR at hx
      by_cases k1 : x < 6
      · rw [if_pos k1] at hx
        obtain ⟨s, hs'⟩ := hG x k1
        rw [hs'] at hx; cases hx; exact e3 k1
      · rw [if_neg k1] at hx
        by_cases k2 : x = 6
        · rw [if_pos k2, h1] at hx; cases hx; exact e2 rfl
        · rw [if_neg k2] at hx
          by_cases k3 : x = 7
          · rw [if_pos k3, h2] at hx; cases hx; exact e1 rfl
          · rw [if_neg k3] at hx; cases hx
  refine ⟨⟨hr.small, fun x hx => ?_, fun x c d hx => ?_, fun x y c d d' k1 k2 hne => ?_⟩, ⟨fun _ _ => rfl, fun x c d hx => .inl ⟨x, d, hx⟩, Nat.le_refl _, fun x o hx hn ho _ => ?_, fun c hc hn => ?_, hst.tape, hst.os, hst.output, hst.size, fun x c d o hx hρ hc ho hro => ?_⟩⟩
  · have := (hr.dom m cm dm h2).1
    have hx : σ.next ≤ x := hx
    rw [hput, if_neg (by omega)]
    exact hr.none_ x hx
  · obtain ⟨k1, k2, o, k3, k4⟩ := hr.dom x c d hx
    refine ⟨k1, Nat.lt_of_lt_of_le k2 hst.size, ?_⟩
    rw [hput]
    by_cases hxm : x = m
    · subst hxm
      rw [if_pos rfl]
      rw [h2] at hx
      cases hx
      have e7 : ρ' 7 = some (cm, dm) := by
        rw [hst.ext 7 (by omega)]
        unfold smR
        rw [if_neg (by omega), if_neg (by omega), if_pos rfl]
        exact h2
      obtain ⟨_, _, o', q1, q2⟩ := hs.dom 7 cm dm e7
      rw [h7] at q1
      cases q1
      exact ⟨_, rfl, (fun h => by cases h), fun l' hl' => by cases hl'; exact gnd_mr hg (q2.2 L' rfl)⟩
    · rw [if_neg hxm]
      refine ⟨o, k3, ?_⟩
      cases hal : o.alive with
      | false => cases o <;> first | exact OR.dead | cases hal
      | true => rw [same x c d o hx hxm k3 hal]; exact k4
  · have hsh := hr.inj x y c d d' k1 k2 hne
    by_cases hxm : x = m
    · subst hxm
      rcases hsh with e1 | e1 | ⟨o1, _, e1, _, e2, _⟩
      · rw [hm] at e1; cases e1
      · exact .inr (.inl (by rw [hput, if_neg (Ne.symm hne)]; exact e1))
      · rw [hm] at e1; cases e1; cases e2
    · by_cases hym : y = m
      · subst hym
        rcases hsh with e1 | e1 | ⟨_, o1, _, e1, _, e2⟩
        · exact .inl (by rw [hput, if_neg hxm]; exact e1)
        · rw [hm] at e1; cases e1
        · rw [hm] at e1; cases e1; cases e2
      · exact hsh.congr (by rw [hput, if_neg hxm]) (by rw [hput, if_neg hym])
  · have hxm : x ≠ m := fun h => by rw [h, h2] at hn; cases hn
    rw [hput, if_neg hxm]; exact ho
  · refine hst.frame c hc fun x d' hx => ?_
    unfold smR at hx
    by_cases k1 : x < 6
    · rw [if_pos k1] at hx; exact hn x d' hx
    · rw [if_neg k1] at hx
      by_cases k2 : x = 6
      · rw [if_pos k2] at hx; exact hn b d' hx
      · rw [if_neg k2] at hx
        by_cases k3 : x = 7
        · rw [if_pos k3] at hx; exact hn m d' hx
        · rw [if_neg k3] at hx; cases hx
  · have hxm : x ≠ m := fun h => by rw [h, hm] at ho; cases ho; cases hro
    refine ⟨by rw [hput, if_neg hxm]; exact ho, same x c d o hρ hxm ho ?_⟩
    cases o <;> first | rfl | cases hro
def cT64 : ACode := (.seq (.reg [⟨(.aop (.mov (.lit (.int .i64 (0))))), (some 6), none⟩]) (.seq (.block 0 (.seq (.reg [⟨(.aop (.mov (.slot 0))), (some 12), none⟩, ⟨(.call (.lit (.fn (.func 146) [] [])) [(.slot 12)]), (some 13), none⟩, ⟨(.aop (.mov (.slot 13))), (some 11), none⟩]) (.cond (.slot 11) (.seq (.reg [⟨(.aop (.mov (.lit (.int .i64 (2))))), (some 6), none⟩]) .ret) (.seq (.reg [⟨(.aop (.mov (.slot 1))), (some 15), none⟩, ⟨(.call (.lit (.fn (.func 147) [] [])) [(.slot 15)]), (some 16), none⟩, ⟨(.aop (.un .not (.slot 16))), (some 17), none⟩, ⟨(.aop (.mov (.slot 17))), (some 14), none⟩]) (.cond (.slot 14) (.seq (.reg [⟨(.aop (.mov (.lit (.int .i64 (23))))), (some 6), none⟩]) .ret) (.seq (.reg [⟨(.aop (.mov (.slot 2))), (some 19), none⟩, ⟨(.aop (.lenStr (.slot 19))), (some 20), none⟩, ⟨(.aop (.bin .gtr (.slot 20) (.lit (.int .i64 (4096))))), (some 21), none⟩, ⟨(.aop (.mov (.slot 21))), (some 18), none⟩]) (.cond (.slot 18) (.seq (.reg [⟨(.aop (.mov (.lit (.int .i64 (3))))), (some 6), none⟩]) .ret) .skip))))))) (.seq (.reg [⟨(.aop (.mov (.slot 1))), (some 22), none⟩, ⟨(.aop (.lenStr (.slot 22))), (some 23), none⟩, ⟨(.aop (.mov (.slot 2))), (some 24), none⟩, ⟨(.aop (.lenStr (.slot 24))), (some 25), none⟩, ⟨(.aop (.bin .add (.slot 23) (.slot 25))), (some 26), none⟩, ⟨(.aop (.mov (.lit (.int .i64 (1))))), (some 7), none⟩, ⟨(.aop (.mov (.slot 26))), (some 8), none⟩]) (.seq (.mfor [⟨(.aop (.mov (.slot 0))), (some 27), none⟩, ⟨(.aop (.nilCheck (.slot 27))), (some 28), none⟩, ⟨(.aop (.fieldAddr 2 (.slot 28))), (some 29), none⟩, ⟨(.aop (.load1 (.slot 29))), (some 30), none⟩] (.slot 30) ⟨31, 32, 33, 34, 2, [⟨(.aop (.extract (.slot 32) 0)), (some 33), none⟩], [⟨(.aop (.extract (.slot 34) 0)), (some 35), none⟩, ⟨(.aop (.extract (.slot 34) 1)), (some 36), none⟩, ⟨(.aop (.alloc 236 [(.str []), (.bool false)])), (some 10), none⟩, ⟨(.aop (.mov (.slot 35))), (some 9), none⟩, ⟨(.aop (.store 2 (.slot 10) (.slot 36))), none, none⟩]⟩ (.seq (.reg [⟨(.aop (.mov (.slot 9))), (some 37), none⟩, ⟨(.aop (.mov (.slot 1))), (some 38), none⟩, ⟨(.aop (.bin .neq (.slot 37) (.slot 38))), (some 39), none⟩]) (.cond (.slot 39) (.regd [(0, ⟨(.aop (.mov (.slot 7))), (some 40), none⟩), (1, ⟨(.aop (.bin .add (.op 0) (.lit (.int .i64 (1))))), (some 41), none⟩), (2, ⟨(.aop (.mov (.slot 8))), (some 42), none⟩), (3, ⟨(.aop (.mov (.slot 9))), (some 43), none⟩), (4, ⟨(.aop (.lenStr (.op 3))), (some 44), none⟩), (5, ⟨(.aop (.bin .add (.op 2) (.op 4))), (some 45), none⟩), (6, ⟨(.aop (.fieldAddr 0 (.slot 10))), (some 46), none⟩), (7, ⟨(.aop (.load1 (.op 6))), (some 47), none⟩), (8, ⟨(.aop (.lenStr (.op 7))), (some 48), none⟩), (9, ⟨(.aop (.bin .add (.op 5) (.op 8))), (some 49), none⟩), (10, ⟨(.aop (.mov (.op 1))), (some 7), none⟩), (11, ⟨(.aop (.mov (.op 9))), (some 8), none⟩)] [] [(some 40), (some 41), (some 42), (some 43), (some 44), (some 45), (some 46), (some 47), (some 48), (some 49), (some 7), (some 8)]) .skip)) none) (.seq (.seq (.reg [⟨(.aop (.mov (.slot 7))), (some 50), none⟩, ⟨(.aop (.bin .gtr (.slot 50) (.lit (.int .i64 (64))))), (some 51), none⟩, ⟨(.aop (.mov (.slot 51))), (some 52), none⟩, ⟨(.aop (.mov (.slot 8))), (some 53), (some ((.slot 52), false))⟩, ⟨(.aop (.bin .gtr (.slot 53) (.lit (.int .i64 (8192))))), (some 54), (some ((.slot 52), false))⟩, ⟨(.aop (.pick (.slot 52) (.lit (.bool true)) (.slot 54))), (some 55), none⟩]) (.cond (.slot 55) (.seq (.reg [⟨(.aop (.mov (.lit (.int .i64 (7))))), (some 6), none⟩]) .ret) .skip)) (.seq (.regd [(0, ⟨(.aop (.mov (.slot 0))), (some 56), none⟩), (1, ⟨(.aop (.nilCheck (.op 0))), (some 57), none⟩), (2, ⟨(.aop (.fieldAddr 2 (.op 1))), (some 58), none⟩), (3, ⟨(.aop (.load1 (.op 2))), (some 59), none⟩), (4, ⟨(.aop (.mov (.slot 1))), (some 60), none⟩), (5, ⟨(.aop (.mov (.slot 2))), (some 61), none⟩), (6, ⟨(.aop (.mov (.slot 0))), (some 62), none⟩), (7, ⟨(.aop (.nilCheck (.op 6))), (some 63), none⟩), (8, ⟨(.aop (.fieldAddr 2 (.op 7))), (some 64), none⟩), (9, ⟨(.aop (.load1 (.op 8))), (some 65), none⟩), (10, ⟨(.aop (.mov (.slot 1))), (some 66), none⟩), (11, ⟨(.aop (.rd (.lookup true [.str] false (.agg [(.str []), (.bool false)])) [(.op 9), (.op 10)])), (some 67), none⟩), (12, ⟨(.aop (.pur (.field1 1) [(.op 11)])), (some 68), none⟩), (13, ⟨(.aop (.pur (.build [(.str []), (.bool false)] [(0, 1), (1, 1)]) [(.op 5), (.op 12)])), (some 69), none⟩), (14, ⟨(.aop (.ext (.mapUpd true [.str]) [(.op 3), (.op 4), (.op 13)])), none, none⟩)] [] [(some 56), (some 57), (some 58), (some 59), (some 60), (some 61), (some 62), (some 63), (some 64), (some 65), (some 66), (some 67), (some 68), (some 69), none]) (.seq (.reg [⟨(.aop (.mov (.lit (.int .i64 (0))))), (some 6), none⟩]) .ret)))))))
theorem compT64 : (V2.compC Tryz.prog 6 Tryz.f64.ntmps (fun _ => false) (Tryz.f64.body.getD .skip), V2.compR Tryz.prog Tryz.f64.results.toList) = (some cT64, some [(.tmp 6)]) := by kernel_rfl
theorem bodyT64 : Tryz.f64.body = some (Tryz.f64.body.getD .skip) := by kernel_rfl
noncomputable def enT64 : Ent := ⟨70, cT64, [(.tmp 6)]⟩
def cT146 : ACode := (.seq (.reg [⟨(.aop (.mov (.lit (.bool false)))), (some 2), none⟩]) (.seq (.reg [⟨(.aop (.mov (.slot 0))), (some 3), none⟩, ⟨(.aop (.pur (.eqv false .ptr) [(.slot 3), (.lit .nilptr)])), (some 4), none⟩, ⟨(.aop (.mov (.slot 4))), (some 5), none⟩, ⟨(.aop (.mov (.slot 0))), (some 6), (some ((.slot 5), false))⟩, ⟨(.aop (.nilCheck (.slot 6))), (some 7), (some ((.slot 5), false))⟩, ⟨(.aop (.fieldAddr 2 (.slot 7))), (some 8), (some ((.slot 5), false))⟩, ⟨(.aop (.load1 (.slot 8))), (some 9), (some ((.slot 5), false))⟩, ⟨(.aop (.pur (.eqv false .map) [(.slot 9), (.lit .nilmap)])), (some 10), (some ((.slot 5), false))⟩, ⟨(.aop (.pick (.slot 5) (.lit (.bool true)) (.slot 10))), (some 11), none⟩, ⟨(.aop (.mov (.slot 11))), (some 2), none⟩]) .ret))
theorem compT146 : (V2.compC Tryz.prog 6 Tryz.f146.ntmps (fun _ => false) (Tryz.f146.body.getD .skip), V2.compR Tryz.prog Tryz.f146.results.toList) = (some cT146, some [(.tmp 2)]) := by kernel_rfl
theorem bodyT146 : Tryz.f146.body = some (Tryz.f146.body.getD .skip) := by kernel_rfl
noncomputable def enT146 : Ent := ⟨12, cT146, [(.tmp 2)]⟩
def cT147 : ACode := (.seq (.reg [⟨(.aop (.mov (.lit (.bool false)))), (some 2), none⟩]) (.seq (.seq (.reg [⟨(.aop (.mov (.slot 0))), (some 4), none⟩, ⟨(.aop (.lenStr (.slot 4))), (some 5), none⟩, ⟨(.aop (.mov (.lit (.int .i64 (0))))), (some 6), none⟩]) (.block 0 (.loop (.seq (.reg [⟨(.aop (.bin .lss (.slot 6) (.slot 5))), (some 7), none⟩]) (.seq (.cond (.slot 7) .skip (.exit 0)) (.seq (.block 1 (.seq (.reg [⟨(.aop (.mov (.slot 6))), (some 8), none⟩, ⟨(.aop (.mov (.slot 8))), (some 3), none⟩]) (.seq (.reg [⟨(.aop (.mov (.slot 0))), (some 9), none⟩, ⟨(.aop (.mov (.slot 3))), (some 10), none⟩, ⟨(.aop (.pur .idxStr [(.slot 9), (.slot 10)])), (some 11), none⟩, ⟨(.aop (.mov (.slot 3))), (some 12), none⟩, ⟨(.aop (.bin .eql (.slot 12) (.lit (.int .i64 (0))))), (some 13), none⟩, ⟨(.call (.lit (.fn (.func 221) [] [])) [(.slot 11), (.slot 13)]), (some 14), none⟩, ⟨(.aop (.un .not (.slot 14))), (some 15), none⟩]) (.cond (.slot 15) (.seq (.reg [⟨(.aop (.mov (.lit (.bool false)))), (some 2), none⟩]) .ret) .skip)))) (.reg [⟨(.aop (.bin .add (.slot 6) (.lit (.int .i64 (1))))), (some 16), none⟩, ⟨(.aop (.mov (.slot 16))), (some 6), none⟩]))))))) (.seq (.reg [⟨(.aop (.mov (.slot 0))), (some 17), none⟩, ⟨(.aop (.bin .neq (.slot 17) (.lit (.str [])))), (some 18), none⟩, ⟨(.aop (.mov (.slot 18))), (some 19), none⟩, ⟨(.aop (.mov (.slot 0))), (some 20), (some ((.slot 19), true))⟩, ⟨(.aop (.lenStr (.slot 20))), (some 21), (some ((.slot 19), true))⟩, ⟨(.aop (.bin .leq (.slot 21) (.lit (.int .i64 (32))))), (some 22), (some ((.slot 19), true))⟩, ⟨(.aop (.pick (.slot 19) (.slot 22) (.lit (.bool false)))), (some 23), none⟩, ⟨(.aop (.mov (.slot 23))), (some 2), none⟩]) .ret)))
theorem compT147 : (V2.compC Tryz.prog 6 Tryz.f147.ntmps (fun _ => false) (Tryz.f147.body.getD .skip), V2.compR Tryz.prog Tryz.f147.results.toList) = (some cT147, some [(.tmp 2)]) := by kernel_rfl
theorem bodyT147 : Tryz.f147.body = some (Tryz.f147.body.getD .skip) := by kernel_rfl
noncomputable def enT147 : Ent := ⟨24, cT147, [(.tmp 2)]⟩
def cT221 : ACode := (.seq (.reg [⟨(.aop (.mov (.lit (.bool false)))), (some 4), none⟩]) (.seq (.reg [⟨(.aop (.mov (.slot 0))), (some 5), none⟩, ⟨(.aop (.bin .geq (.slot 5) (.lit (.int .u8 (97))))), (some 6), none⟩, ⟨(.aop (.mov (.slot 6))), (some 7), none⟩, ⟨(.aop (.mov (.slot 0))), (some 8), (some ((.slot 7), true))⟩, ⟨(.aop (.bin .leq (.slot 8) (.lit (.int .u8 (122))))), (some 9), (some ((.slot 7), true))⟩, ⟨(.aop (.pick (.slot 7) (.slot 9) (.lit (.bool false)))), (some 10), none⟩, ⟨(.aop (.mov (.slot 10))), (some 11), none⟩, ⟨(.aop (.mov (.slot 0))), (some 12), (some ((.slot 11), false))⟩, ⟨(.aop (.bin .geq (.slot 12) (.lit (.int .u8 (65))))), (some 13), (some ((.slot 11), false))⟩, ⟨(.aop (.mov (.slot 13))), (some 14), (some ((.slot 11), false))⟩, ⟨(.aop (.mov (.slot 0))), (some 15), (some ((.slot 14), true))⟩, ⟨(.aop (.bin .leq (.slot 15) (.lit (.int .u8 (90))))), (some 16), (some ((.slot 14), true))⟩, ⟨(.aop (.pick (.slot 14) (.slot 16) (.lit (.bool false)))), (some 17), (some ((.slot 11), false))⟩, ⟨(.aop (.pick (.slot 11) (.lit (.bool true)) (.slot 17))), (some 18), none⟩, ⟨(.aop (.mov (.slot 18))), (some 19), none⟩, ⟨(.aop (.mov (.slot 0))), (some 20), (some ((.slot 19), false))⟩, ⟨(.aop (.bin .eql (.slot 20) (.lit (.int .u8 (95))))), (some 21), (some ((.slot 19), false))⟩, ⟨(.aop (.pick (.slot 19) (.lit (.bool true)) (.slot 21))), (some 22), none⟩, ⟨(.aop (.mov (.slot 22))), (some 23), none⟩, ⟨(.aop (.mov (.slot 1))), (some 24), (some ((.slot 23), false))⟩, ⟨(.aop (.un .not (.slot 24))), (some 25), (some ((.slot 23), false))⟩, ⟨(.aop (.mov (.slot 25))), (some 26), (some ((.slot 23), false))⟩, ⟨(.aop (.mov (.slot 0))), (some 27), (some ((.slot 26), true))⟩, ⟨(.aop (.bin .geq (.slot 27) (.lit (.int .u8 (48))))), (some 28), (some ((.slot 26), true))⟩, ⟨(.aop (.pick (.slot 26) (.slot 28) (.lit (.bool false)))), (some 29), (some ((.slot 23), false))⟩, ⟨(.aop (.mov (.slot 29))), (some 30), (some ((.slot 23), false))⟩, ⟨(.aop (.mov (.slot 0))), (some 31), (some ((.slot 30), true))⟩, ⟨(.aop (.bin .leq (.slot 31) (.lit (.int .u8 (57))))), (some 32), (some ((.slot 30), true))⟩, ⟨(.aop (.pick (.slot 30) (.slot 32) (.lit (.bool false)))), (some 33), (some ((.slot 23), false))⟩, ⟨(.aop (.pick (.slot 23) (.lit (.bool true)) (.slot 33))), (some 34), none⟩, ⟨(.aop (.mov (.slot 34))), (some 4), none⟩]) .ret))
theorem compT221 : (V2.compC Tryz.prog 6 Tryz.f221.ntmps (fun _ => false) (Tryz.f221.body.getD .skip), V2.compR Tryz.prog Tryz.f221.results.toList) = (some cT221, some [(.tmp 4)]) := by kernel_rfl
theorem bodyT221 : Tryz.f221.body = some (Tryz.f221.body.getD .skip) := by kernel_rfl
noncomputable def enT221 : Ent := ⟨35, cT221, [(.tmp 4)]⟩
theorem eokT64 : EntOk (64, enT64) := ⟨_, _, Tryz.func64, bodyT64, by kernel_rfl, by kernel_rfl, (Prod.mk.inj compT64).1, (Prod.mk.inj compT64).2, by kernel_rfl⟩
theorem eokT146 : EntOk (146, enT146) := ⟨_, _, Tryz.func146, bodyT146, by kernel_rfl, by kernel_rfl, (Prod.mk.inj compT146).1, (Prod.mk.inj compT146).2, by kernel_rfl⟩
theorem eokT147 : EntOk (147, enT147) := ⟨_, _, Tryz.func147, bodyT147, by kernel_rfl, by kernel_rfl, (Prod.mk.inj compT147).1, (Prod.mk.inj compT147).2, by kernel_rfl⟩
theorem eokT221 : EntOk (221, enT221) := ⟨_, _, Tryz.func221, bodyT221, by kernel_rfl, by kernel_rfl, (Prod.mk.inj compT221).1, (Prod.mk.inj compT221).2, by kernel_rfl⟩
noncomputable def entsT : List (Nat × Ent) := [(64, enT64), (146, enT146), (147, enT147), (221, enT221)]
theorem entsT_ok : ∀ p ∈ entsT, EntOk p := by
  unfold entsT
  refine List.forall_mem_cons.2 ⟨eokT64, ?_⟩
  refine List.forall_mem_cons.2 ⟨eokT146, ?_⟩
  refine List.forall_mem_cons.2 ⟨eokT147, ?_⟩
  refine List.forall_mem_cons.2 ⟨eokT221, ?_⟩
  exact fun p hp => absurd hp List.not_mem_nil
theorem entsT_lt : ∀ p ∈ entsT, Nat.blt p.1 1048576 = true := by
  unfold entsT
  refine List.forall_mem_cons.2 ⟨rfl, ?_⟩
  refine List.forall_mem_cons.2 ⟨rfl, ?_⟩
  refine List.forall_mem_cons.2 ⟨rfl, ?_⟩
  refine List.forall_mem_cons.2 ⟨rfl, ?_⟩
  exact fun p hp => absurd hp List.not_mem_nil
noncomputable def tabT : T Ent := tabL entsT
theorem tabT_ok : TabOk Tryz.prog 6 (fun _ => false) tabT := fun f x h => by
  have hm := tabL_get entsT_lt f x h
  have he : EntOk (f, x) := entsT_ok (f, x) hm
  exact he
def noT (_ : FuncId) (_ : List AV) (σ : AH) : Out := bad σ
theorem noT_ok {Y : List Yl} : FnOk Tryz.prog 6 noT Y := fun _ _ _ h => by cases h
noncomputable def Γt : Gam := Gam.grow std 1000 tabT Sp.none (.of noT) 6
theorem gamt_ok : GamOk Tryz.prog 6 Γt [] := (grow_ok mixed tabT_ok Sp.none_ok (fun f h => by cases h) 6 (.of noT_ok) fun f h => by cases h).1
noncomputable def seR (e : TypeId) (L : List (AV × AV)) (n t : List UInt8) : Option (AV × List (AV × AV)) := match Γt.fn 64 [.ptr 6 0, .str n, .str t] (smH e L) with
  | (ok, v, σ') => bif ok && gnd1 v then match σ'.get 7 with
    | some ob => match ob with
      | .map L' => bif gndM L' then some (v, L') else none
      | _ => none
    | none => none else none
noncomputable def shG (σ : AH) : Bool := (List.range 6).all fun g => match σ.get g with
  | some o => o.isSh
  | none => false
noncomputable def seM (σ : AH) (e : TypeId) (m : Nat) (n t : List UInt8) : Out := match σ.get m with
  | some ob => match ob with
    | .map L => bif gndM L && shG σ then match seR e L n t with
      | some p => (true, p.1, σ.put m (.map p.2))
      | none => bad σ else bad σ
    | _ => bad σ
  | none => bad σ
noncomputable def seA (args : List AV) (σ : AH) : Out := match args with
  | [.ptr b 0, .str n, .str t] => match σ.get b with
    | some ob => match ob with
      | .cells l e _ => match (l[2]? : Option AV) with
        | some (AV.map m) => seM σ e m n t
        | _ => bad σ
      | _ => bad σ
    | none => bad σ
  | _ => bad σ
noncomputable def seF (g : FuncId → List AV → AH → Out) (f : FuncId) (args : List AV) (σ : AH) : Out := bif Nat.beq f 64 then seA args σ else g f args σ
set_option maxRecDepth 100000 in
set_option linter.constructorNameAsVariable false in
theorem seF_ok {g : FuncId → List AV → AH → Out} (hg : FnOk Tryz.prog 6 g []) : FnOk Tryz.prog 6 (seF g) [] := by
  intro f args σ h
  unfold seF at h ⊢
  cases hf : Nat.beq f 64
  case false => rw [hf] at h; rw [cond_false] at h ⊢; exact hg f args σ h
  rw [hf] at h
  simp only [cond_true] at h ⊢
  have e := Nat.eq_of_beq_eq_true hf
  subst e
  refine ⟨⟨_, Tryz.func64, by kernel_rfl, by kernel_rfl⟩, fun ρ W vs hY hG hr hvs => ?_⟩
  unfold seA at h ⊢
  split at h
  case h_2 => cases h
  rename_i b n t
  split at h
  case h_2 => cases h
  rename_i ob hb
  split at h
  case h_2 => cases h
  rename_i l e tl
  split at h
  case h_2 => cases h
  rename_i m hl
  unfold seM at h ⊢
  split at h
  case h_2 => cases h
  rename_i om hm
  split at h
  case h_2 => cases h
  rename_i L
  cases hgs : gndM L && shG σ <;> rw [hgs] at h
  · cases h
  simp only [cond_true] at h ⊢
  split at h
  case h_2 => cases h
  rename_i p hp
  rw [Bool.and_eq_true] at hgs
  obtain ⟨hgL, hsh⟩ := hgs
  have hS : ∀ g, g < 6 → ∃ o, σ.get g = some o ∧ o.isSh = true := fun g hg => by
    have := List.all_eq_true.1 hsh g (List.mem_range.2 hg)
    cases ho : σ.get g with
    | none => rw [ho] at this; cases this
    | some o => rw [ho] at this; exact ⟨o, rfl, this⟩
  obtain ⟨v0, m0, rfl, hv0, v1, m1, rfl, hv1, v2, m2, rfl, hv2, hm2⟩ := hvs
  have hm2 : m2 = [] := hm2
  subst hm2
  unfold VR at hv0 hv1 hv2
  subst hv1 hv2
  obtain ⟨cb, db, hρb, rfl⟩ := hv0
  have hρm : ∃ x, ρ m = some x := by
    obtain ⟨_, _, ob', k1, hO⟩ := hr.dom b cb db hρb
    rw [hb] at k1
    cases k1
    have hlen : 2 < l.length := (List.getElem?_eq_some_iff.1 hl).1
    obtain ⟨cs, el, fr, _, _, _, _, hall⟩ := (hO.1 rfl).2 fun _ => (by show 0 < l.length; omega)
    obtain ⟨u, _, hu⟩ := hall 2 _ hl
    unfold VR at hu
    obtain ⟨c2, d2, k3, _⟩ := hu
    exact ⟨_, k3⟩
  have hsm := sm_hr hr hG hS hb hl hm hgL ⟨_, hρb⟩
  unfold seR at hp
  split at hp
  rename_i ok v σ' hrun
  cases hok : ok && gnd1 v <;> rw [hok] at hp
  · cases hp
  rw [cond_true] at hp
  split at hp
  case h_2 => cases hp
  rename_i o7 h7
  split at hp
  case h_2 => cases hp
  rename_i L'
  cases hgL' : gndM L' <;> rw [hgL'] at hp
  · cases hp
  rw [cond_true] at hp
  cases hp
  rw [Bool.and_eq_true] at hok
  have hF := gamt_ok.fn 64 [.ptr 6 0, .str n, .str t] (smH e L) (by rw [hrun]; exact hok.1)
  refine (hF.2 (smR ρ b m) W _ (fun y hy => absurd hy List.not_mem_nil) (fun g hg => by unfold smR; rw [if_pos hg]; exact hG g hg) hsm ⟨_, _, rfl, by unfold VR; exact ⟨cb, db, by unfold smR; rw [if_neg (by omega), if_pos rfl]; exact hρb, rfl⟩, _, _, rfl, by unfold VR; rfl, _, _, rfl, by unfold VR; rfl, rfl⟩).mono ?_
  rintro e' W' ⟨u, ρ', rfl, g1, g2, g3⟩
  rw [hrun] at g1 g2 g3
  obtain ⟨k1, k2⟩ := sm_back hr hG hb hm hgL' ⟨_, hρb⟩ hρm g1 g2 h7
  exact ⟨u, ρ, rfl, k1, k2, gnd1_vr hok.2 g3⟩
end Go.Proofs.YtjgmpdklfcmelaaGreatDoor.V2
namespace Go.Proofs.YtjgmpdklfcmelaaGreatDoor.V2
open Go
noncomputable section
def kCf (f : List FV → TypeId → FR) (ob : FObj) : FR := FObj.rec (motive := fun _ => FR) .bad (fun l e _ => f l e) (fun _ _ _ => .bad) (fun _ _ _ _ => .bad) (fun _ => .bad) .bad ob
theorem kCf_cases {f : List FV → TypeId → FR} {ob : FObj} (h : kCf f ob ≠ .bad) : ∃ l e t, ob = .cells l e t ∧ kCf f ob = f l e := by
  cases ob <;> first | exact ⟨_, _, _, rfl, rfl⟩ | exact absurd rfl h
def seK (r : Option (AV × List (AV × AV))) (σ : FH) (m : Nat) (k : KV) : FR := Option.rec .bad (fun p => Prod.rec (fun v L => fV (βV v) fun v => fO (βO (.map L)) fun o => pM σ m o fun σ => k v σ) p) r
def seMQ (σ : FH) (e : TypeId) (m n t : Nat) (k : KV) : FR := gM σ m (kMp fun L => gB (gndM (αP L) && shG (αH σ)) (seK (seR e (αP L) (unp n) (unp t)) σ m k))
def seQ (l : List FV) (σ : FH) (k : KV) : FR := k3L l fun x y z => kP (fun b o => gB (Nat.beq o 0) (kS (fun n => kS (fun t => gM σ b (kCf fun l e => nthK l 2 (kM fun m => seMQ σ e m n t k))) z) y)) x
theorem seMQ_sm (σ : FH) (e : TypeId) (m n t : Nat) (k : KV) : Sm (seMQ σ e m n t k) k (seM (αH σ) e m (unp n) (unp t)) := by
  intro h
  unfold seMQ at h ⊢
  obtain ⟨ob, _, h3, h4⟩ := gM_cases h
  rw [h4] at h ⊢
  obtain ⟨L, rfl, h5⟩ := kMp_cases h
  rw [h5] at h ⊢
  rw [gB_eq] at h ⊢
  cases hg : gndM (αP L) && shG (αH σ) <;> rw [hg] at h
  · exact absurd rfl h
  rw [cond_true] at h ⊢
  cases hr : seR e (αP L) (unp n) (unp t) with
  | none => rw [hr] at h; exact absurd rfl h
  | some p =>
    obtain ⟨v, L'⟩ := p
    have e1 : seK (some (v, L')) σ m k = k (βV v) ⟨σ.next, σ.mem.put m (βO (.map L'))⟩ := by
      show (fV (βV v) fun v => fO (βO (.map L')) fun o => pM σ m o fun σ => k v σ) = _
      rw [fV_eq, fO_eq, pM_eq]
    refine ⟨_, _, ?_, e1⟩
    unfold seM
    rw [h3]
    simp only [αO, hg, cond_true, hr]
    rw [pM_α, αβ, αβO]
theorem seQ_sm (l : List FV) (σ : FH) (k : KV) : Sm (seQ l σ k) k (seA (αL l) (αH σ)) := by
  intro h
  unfold seQ at h ⊢
  obtain ⟨x, y, z, rfl, h1⟩ := k3L_cases h
  rw [h1] at h ⊢
  obtain ⟨b, o, rfl, h2⟩ := kP_cases h
  rw [h2] at h ⊢
  rw [gB_eq] at h ⊢
  cases ho : Nat.beq o 0 <;> rw [ho] at h
  · exact absurd rfl h
  have ho := Nat.eq_of_beq_eq_true ho
  subst ho
  rw [cond_true] at h ⊢
  obtain ⟨n, rfl, h3⟩ := kS_cases h
  rw [h3] at h ⊢
  obtain ⟨t, rfl, h4⟩ := kS_cases h
  rw [h4] at h ⊢
  obtain ⟨ob, _, h7, h8⟩ := gM_cases h
  rw [h8] at h ⊢
  obtain ⟨l, e, tl, rfl, h9⟩ := kCf_cases h
  rw [h9] at h ⊢
  rw [nthK_eq] at h ⊢
  cases hl : l[2]? <;> rw [hl] at h
  · exact absurd rfl h
  rename_i v
  have h : kM (fun m => seMQ σ e m n t k) v ≠ .bad := h
  show ∃ w σ', _ ∧ kM (fun m => seMQ σ e m n t k) v = k w σ'
  obtain ⟨m, rfl, h10⟩ := kM_cases h
  rw [h10] at h ⊢
  obtain ⟨v, σ', h11, h12⟩ := seMQ_sm σ e m n t k h
  refine ⟨v, σ', ?_, h12⟩
  rw [← h11]
  simp only [αL, αV, seA, h7, αO, αL_map, List.getElem?_map, hl, Option.map_some]
end
end Go.Proofs.YtjgmpdklfcmelaaGreatDoor.V2
namespace Go.Proofs.YtjgmpdklfcmelaaGreatDoor.V2
open Go
set_option linter.unusedVariables false
noncomputable def qeJ : List Qe := [⟨18, en18, q18⟩, ⟨23, en23, q23⟩, ⟨25, en25, q25⟩, ⟨26, en26, q26⟩, ⟨27, en27, q27⟩, ⟨32, en32, q32⟩, ⟨46, en46, q46⟩, ⟨47, en47, q47⟩, ⟨48, en48, q48⟩, ⟨49, en49, q49⟩, ⟨50, en50, q50⟩, ⟨51, en51, q51⟩, ⟨52, en52, q52⟩, ⟨53, en53, q53⟩, ⟨54, en54, q54⟩, ⟨55, en55, q55⟩, ⟨56, en56, q56⟩, ⟨57, en57, q57⟩, ⟨58, en58, q58⟩, ⟨59, en59, q59⟩, ⟨60, en60, q60⟩, ⟨61, en61, q61⟩, ⟨62, en62, q62⟩, ⟨63, en63, q63⟩, ⟨65, en65, q65⟩, ⟨66, en66, q66⟩, ⟨67, en67, q67⟩, ⟨86, en86, q86⟩, ⟨87, en87, q87⟩, ⟨88, en88, q88⟩, ⟨89, en89, q89⟩, ⟨95, en95, q95⟩, ⟨96, en96, q96⟩, ⟨97, en97, q97⟩, ⟨98, en98, q98⟩, ⟨105, en105, q105⟩, ⟨106, en106, q106⟩, ⟨107, en107, q107⟩, ⟨108, en108, q108⟩, ⟨119, eZ Tryz.f119, q119⟩, ⟨121, eZ Tryz.f121, q121⟩, ⟨126, en126, q126⟩, ⟨127, en127, q127⟩, ⟨128, en128, q128⟩, ⟨129, en129, q129⟩, ⟨130, en130, q130⟩, ⟨131, en131, q131⟩, ⟨132, en132, q132⟩, ⟨133, en133, q133⟩, ⟨134, en134, q134⟩, ⟨135, en135, q135⟩, ⟨136, en136, q136⟩, ⟨137, en137, q137⟩, ⟨138, en138, q138⟩, ⟨139, en139, q139⟩, ⟨140, en140, q140⟩, ⟨141, en141, q141⟩, ⟨142, eZ Tryz.f142, q142⟩, ⟨144, en144, q144⟩, ⟨145, en145, q145⟩, ⟨146, en146, q146⟩, ⟨147, en147, q147⟩, ⟨148, eZ Tryz.f148, q148⟩, ⟨149, eZ Tryz.f149, q149⟩, ⟨150, eZ Tryz.f150, q150⟩, ⟨151, eZ Tryz.f151, q151⟩, ⟨153, eZ Tryz.f153, q153⟩, ⟨154, eZ Tryz.f154, q154⟩, ⟨177, en177, q177⟩, ⟨178, en178, q178⟩, ⟨186, en186, q186⟩, ⟨198, eZ Tryz.f198, q198⟩, ⟨200, en200, q200⟩, ⟨201, en201, q201⟩, ⟨202, en202, q202⟩, ⟨203, en203, q203⟩, ⟨204, en204, q204⟩, ⟨205, en205, q205⟩, ⟨206, en206, q206⟩, ⟨207, en207, q207⟩, ⟨208, en208, q208⟩, ⟨209, en209, q209⟩, ⟨210, en210, q210⟩, ⟨211, en211, q211⟩, ⟨214, en214, q214⟩, ⟨216, en216, q216⟩, ⟨217, eZ Tryz.f217, q217⟩, ⟨218, eZ Tryz.f218, q218⟩, ⟨219, en219, q219⟩, ⟨220, en220, q220⟩, ⟨221, en221, q221⟩, ⟨222, eZ Tryz.f222, q222⟩, ⟨228, eZ Tryz.f228, q228⟩, ⟨253, eZ Tryz.f253, q253⟩, ⟨254, en254, q254⟩, ⟨255, en255, q255⟩, ⟨283, en283, q283⟩, ⟨308, en308, q308⟩]
theorem qeJ_ok : ∀ p ∈ qeJ, QeOk p := by
  unfold qeJ
  refine List.forall_mem_cons.2 ⟨qe_of eok18 q18_eq rfl, ?_⟩
  refine List.forall_mem_cons.2 ⟨qe_of eok23 q23_eq rfl, ?_⟩
  refine List.forall_mem_cons.2 ⟨qe_of eok25 q25_eq rfl, ?_⟩
  refine List.forall_mem_cons.2 ⟨qe_of eok26 q26_eq rfl, ?_⟩
  refine List.forall_mem_cons.2 ⟨qe_of eok27 q27_eq rfl, ?_⟩
  refine List.forall_mem_cons.2 ⟨qe_of eok32 q32_eq rfl, ?_⟩
  refine List.forall_mem_cons.2 ⟨qe_of eok46 q46_eq rfl, ?_⟩
  refine List.forall_mem_cons.2 ⟨qe_of eok47 q47_eq rfl, ?_⟩
  refine List.forall_mem_cons.2 ⟨qe_of eok48 q48_eq rfl, ?_⟩
  refine List.forall_mem_cons.2 ⟨qe_of eok49 q49_eq rfl, ?_⟩
  refine List.forall_mem_cons.2 ⟨qe_of eok50 q50_eq rfl, ?_⟩
  refine List.forall_mem_cons.2 ⟨qe_of eok51 q51_eq rfl, ?_⟩
  refine List.forall_mem_cons.2 ⟨qe_of eok52 q52_eq rfl, ?_⟩
  refine List.forall_mem_cons.2 ⟨qe_of eok53 q53_eq rfl, ?_⟩
  refine List.forall_mem_cons.2 ⟨qe_of eok54 q54_eq rfl, ?_⟩
  refine List.forall_mem_cons.2 ⟨qe_of eok55 q55_eq rfl, ?_⟩
  refine List.forall_mem_cons.2 ⟨qe_of eok56 q56_eq rfl, ?_⟩
  refine List.forall_mem_cons.2 ⟨qe_of eok57 q57_eq rfl, ?_⟩
  refine List.forall_mem_cons.2 ⟨qe_of eok58 q58_eq rfl, ?_⟩
  refine List.forall_mem_cons.2 ⟨qe_of eok59 q59_eq rfl, ?_⟩
  refine List.forall_mem_cons.2 ⟨qe_of eok60 q60_eq rfl, ?_⟩
  refine List.forall_mem_cons.2 ⟨qe_of eok61 q61_eq rfl, ?_⟩
  refine List.forall_mem_cons.2 ⟨qe_of eok62 q62_eq rfl, ?_⟩
  refine List.forall_mem_cons.2 ⟨qe_of eok63 q63_eq rfl, ?_⟩
  refine List.forall_mem_cons.2 ⟨qe_of eok65 q65_eq rfl, ?_⟩
  refine List.forall_mem_cons.2 ⟨qe_of eok66 q66_eq rfl, ?_⟩
  refine List.forall_mem_cons.2 ⟨qe_of eok67 q67_eq rfl, ?_⟩
  refine List.forall_mem_cons.2 ⟨qe_of eok86 q86_eq rfl, ?_⟩
  refine List.forall_mem_cons.2 ⟨qe_of eok87 q87_eq rfl, ?_⟩
  refine List.forall_mem_cons.2 ⟨qe_of eok88 q88_eq rfl, ?_⟩
  refine List.forall_mem_cons.2 ⟨qe_of eok89 q89_eq rfl, ?_⟩
  refine List.forall_mem_cons.2 ⟨qe_of eok95 q95_eq rfl, ?_⟩
  refine List.forall_mem_cons.2 ⟨qe_of eok96 q96_eq rfl, ?_⟩
  refine List.forall_mem_cons.2 ⟨qe_of eok97 q97_eq rfl, ?_⟩
  refine List.forall_mem_cons.2 ⟨qe_of eok98 q98_eq rfl, ?_⟩
  refine List.forall_mem_cons.2 ⟨qe_of eok105 q105_eq rfl, ?_⟩
  refine List.forall_mem_cons.2 ⟨qe_of eok106 q106_eq rfl, ?_⟩
  refine List.forall_mem_cons.2 ⟨qe_of eok107 q107_eq rfl, ?_⟩
  refine List.forall_mem_cons.2 ⟨qe_of eok108 q108_eq rfl, ?_⟩
  refine List.forall_mem_cons.2 ⟨qe_of (eokZ Tryz.func119 (by kernel_rfl)) q119_eq rfl, ?_⟩
  refine List.forall_mem_cons.2 ⟨qe_of (eokZ Tryz.func121 (by kernel_rfl)) q121_eq rfl, ?_⟩
  refine List.forall_mem_cons.2 ⟨qe_of eok126 q126_eq rfl, ?_⟩
  refine List.forall_mem_cons.2 ⟨qe_of eok127 q127_eq rfl, ?_⟩
  refine List.forall_mem_cons.2 ⟨qe_of eok128 q128_eq rfl, ?_⟩
  refine List.forall_mem_cons.2 ⟨qe_of eok129 q129_eq rfl, ?_⟩
  refine List.forall_mem_cons.2 ⟨qe_of eok130 q130_eq rfl, ?_⟩
  refine List.forall_mem_cons.2 ⟨qe_of eok131 q131_eq rfl, ?_⟩
  refine List.forall_mem_cons.2 ⟨qe_of eok132 q132_eq rfl, ?_⟩
  refine List.forall_mem_cons.2 ⟨qe_of eok133 q133_eq rfl, ?_⟩
  refine List.forall_mem_cons.2 ⟨qe_of eok134 q134_eq rfl, ?_⟩
  refine List.forall_mem_cons.2 ⟨qe_of eok135 q135_eq rfl, ?_⟩
  refine List.forall_mem_cons.2 ⟨qe_of eok136 q136_eq rfl, ?_⟩
  refine List.forall_mem_cons.2 ⟨qe_of eok137 q137_eq rfl, ?_⟩
  refine List.forall_mem_cons.2 ⟨qe_of eok138 q138_eq rfl, ?_⟩
  refine List.forall_mem_cons.2 ⟨qe_of eok139 q139_eq rfl, ?_⟩
  refine List.forall_mem_cons.2 ⟨qe_of eok140 q140_eq rfl, ?_⟩
  refine List.forall_mem_cons.2 ⟨qe_of eok141 q141_eq rfl, ?_⟩
  refine List.forall_mem_cons.2 ⟨qe_of (eokZ Tryz.func142 (by kernel_rfl)) q142_eq rfl, ?_⟩
  refine List.forall_mem_cons.2 ⟨qe_of eok144 q144_eq rfl, ?_⟩
  refine List.forall_mem_cons.2 ⟨qe_of eok145 q145_eq rfl, ?_⟩
  refine List.forall_mem_cons.2 ⟨qe_of eok146 q146_eq rfl, ?_⟩
  refine List.forall_mem_cons.2 ⟨qe_of eok147 q147_eq rfl, ?_⟩
  refine List.forall_mem_cons.2 ⟨qe_of (eokZ Tryz.func148 (by kernel_rfl)) q148_eq rfl, ?_⟩
  refine List.forall_mem_cons.2 ⟨qe_of (eokZ Tryz.func149 (by kernel_rfl)) q149_eq rfl, ?_⟩
  refine List.forall_mem_cons.2 ⟨qe_of (eokZ Tryz.func150 (by kernel_rfl)) q150_eq rfl, ?_⟩
  refine List.forall_mem_cons.2 ⟨qe_of (eokZ Tryz.func151 (by kernel_rfl)) q151_eq rfl, ?_⟩
  refine List.forall_mem_cons.2 ⟨qe_of (eokZ Tryz.func153 (by kernel_rfl)) q153_eq rfl, ?_⟩
  refine List.forall_mem_cons.2 ⟨qe_of (eokZ Tryz.func154 (by kernel_rfl)) q154_eq rfl, ?_⟩
  refine List.forall_mem_cons.2 ⟨qe_of eok177 q177_eq rfl, ?_⟩
  refine List.forall_mem_cons.2 ⟨qe_of eok178 q178_eq rfl, ?_⟩
  refine List.forall_mem_cons.2 ⟨qe_of eok186 q186_eq rfl, ?_⟩
  refine List.forall_mem_cons.2 ⟨qe_of (eokZ Tryz.func198 (by kernel_rfl)) q198_eq rfl, ?_⟩
  refine List.forall_mem_cons.2 ⟨qe_of eok200 q200_eq rfl, ?_⟩
  refine List.forall_mem_cons.2 ⟨qe_of eok201 q201_eq rfl, ?_⟩
  refine List.forall_mem_cons.2 ⟨qe_of eok202 q202_eq rfl, ?_⟩
  refine List.forall_mem_cons.2 ⟨qe_of eok203 q203_eq rfl, ?_⟩
  refine List.forall_mem_cons.2 ⟨qe_of eok204 q204_eq rfl, ?_⟩
  refine List.forall_mem_cons.2 ⟨qe_of eok205 q205_eq rfl, ?_⟩
  refine List.forall_mem_cons.2 ⟨qe_of eok206 q206_eq rfl, ?_⟩
  refine List.forall_mem_cons.2 ⟨qe_of eok207 q207_eq rfl, ?_⟩
  refine List.forall_mem_cons.2 ⟨qe_of eok208 q208_eq rfl, ?_⟩
  refine List.forall_mem_cons.2 ⟨qe_of eok209 q209_eq rfl, ?_⟩
  refine List.forall_mem_cons.2 ⟨qe_of eok210 q210_eq rfl, ?_⟩
  refine List.forall_mem_cons.2 ⟨qe_of eok211 q211_eq rfl, ?_⟩
  refine List.forall_mem_cons.2 ⟨qe_of eok214 q214_eq rfl, ?_⟩
  refine List.forall_mem_cons.2 ⟨qe_of eok216 q216_eq rfl, ?_⟩
  refine List.forall_mem_cons.2 ⟨qe_of (eokZ Tryz.func217 (by kernel_rfl)) q217_eq rfl, ?_⟩
  refine List.forall_mem_cons.2 ⟨qe_of (eokZ Tryz.func218 (by kernel_rfl)) q218_eq rfl, ?_⟩
  refine List.forall_mem_cons.2 ⟨qe_of eok219 q219_eq rfl, ?_⟩
  refine List.forall_mem_cons.2 ⟨qe_of eok220 q220_eq rfl, ?_⟩
  refine List.forall_mem_cons.2 ⟨qe_of eok221 q221_eq rfl, ?_⟩
  refine List.forall_mem_cons.2 ⟨qe_of (eokZ Tryz.func222 (by kernel_rfl)) q222_eq rfl, ?_⟩
  refine List.forall_mem_cons.2 ⟨qe_of (eokZ Tryz.func228 (by kernel_rfl)) q228_eq rfl, ?_⟩
  refine List.forall_mem_cons.2 ⟨qe_of (eokZ Tryz.func253 (by kernel_rfl)) q253_eq rfl, ?_⟩
  refine List.forall_mem_cons.2 ⟨qe_of eok254 q254_eq rfl, ?_⟩
  refine List.forall_mem_cons.2 ⟨qe_of eok255 q255_eq rfl, ?_⟩
  refine List.forall_mem_cons.2 ⟨qe_of eok283 q283_eq rfl, ?_⟩
  refine List.forall_mem_cons.2 ⟨qe_of eok308 q308_eq rfl, ?_⟩
  exact fun p hp => absurd hp List.not_mem_nil
noncomputable def tEJ : T Ent := tabE qeJ
noncomputable def tQJ : T (Phi → HF) := tabP qeJ
theorem tQJ_ok : TabQ 1000000 tEJ tQJ := ⟨fun f => (tabE_get qeJ_ok f).2, fun f x hx => by
  obtain ⟨q, h1, h2, _⟩ := (tabE_get qeJ_ok f).1 x hx
  exact ⟨q, h1, h2⟩⟩
theorem tEJ_ok : TabOk Tryz.prog 6 (fun _ => false) tEJ := fun f x h => by
  obtain ⟨_, _, _, h3⟩ := (tabE_get qeJ_ok f).1 x h
  exact h3
def noF (_ : FuncId) (_ : List AV) (σ : AH) : Out := bad σ
theorem noF_ok {Y : List Yl} : FnOk Tryz.prog 6 noF Y := fun _ _ _ h => by cases h
noncomputable def gQJ : FuncId → List AV → AH → Out := crF (seF (mdF (ciF (rpF (wnF (srF noF))))))
theorem gQJ_ok : FnOk Tryz.prog 6 gQJ [] := crF_ok (seF_ok (mdF_ok (ciF_ok (rpF_ok (wnF_ok (srF_ok noF_ok))))))
theorem gamJ_ok : GamOk Tryz.prog 6 (Gam.grow std 1000000 tEJ Sp.none (.of gQJ) 40) [] := (grow_ok mixed tEJ_ok Sp.none_ok (fun f h => by cases h) 40 (.of gQJ_ok) hpu0').1
noncomputable def bQJ : FuncId → HF := fun f l σ k => Bool.rec (Bool.rec (Bool.rec (Bool.rec (Bool.rec (Bool.rec (Bool.rec (Bool.rec .bad (srQ l σ k) (Nat.beq f 185)) (wiQ l σ k) (Nat.beq f 94)) (rpQ l σ k) (Nat.beq f 28)) (ixQ l σ k) (Nat.beq f 242)) (ctQ l σ k) (Nat.beq f 241)) (cmQ l σ k) (Nat.beq f 99 || Nat.beq f 212)) (seQ l σ k) (Nat.beq f 64)) (crQ l σ k) (Nat.beq f 155)
theorem gQJ_at (f : FuncId) (l : List FV) (σ : FH) : gQJ f (αL l) (αH σ) = bif Nat.beq f 155 then crA (αL l) (αH σ) else bif Nat.beq f 64 then seA (αL l) (αH σ) else bif Nat.beq f 99 || Nat.beq f 212 then cmA (αL l) (αH σ) else bif Nat.beq f 241 then ctA (αL l) (αH σ) else bif Nat.beq f 242 then ixA (αL l) (αH σ) else bif Nat.beq f 28 then rpA (αL l) (αH σ) else bif Nat.beq f 94 then wiA (αL l) (αH σ) else bif Nat.beq f 185 then srtA (αL l) (αH σ) else bad (αH σ) := by
  unfold gQJ crF seF mdF ciF rpF wnF srF noF
  rfl
theorem bQJ_ok (f : FuncId) : HOk (bQJ f) ((Gam.of gQJ).fn f) := fun l σ k => by
  show Sm (Bool.rec (Bool.rec (Bool.rec (Bool.rec (Bool.rec (Bool.rec (Bool.rec (Bool.rec .bad (srQ l σ k) (Nat.beq f 185)) (wiQ l σ k) (Nat.beq f 94)) (rpQ l σ k) (Nat.beq f 28)) (ixQ l σ k) (Nat.beq f 242)) (ctQ l σ k) (Nat.beq f 241)) (cmQ l σ k) (Nat.beq f 99 || Nat.beq f 212)) (seQ l σ k) (Nat.beq f 64)) (crQ l σ k) (Nat.beq f 155)) k (gQJ f (αL l) (αH σ))
  rw [gQJ_at]
  cases Nat.beq f 155 with
  | true => exact crQ_sm l σ k
  | false =>
  cases Nat.beq f 64 with
  | true => exact seQ_sm l σ k
  | false =>
  cases Nat.beq f 99 || Nat.beq f 212 with
  | true => exact cmQ_sm l σ k
  | false =>
  cases Nat.beq f 241 with
  | true => exact ctQ_sm l σ k
  | false =>
  cases Nat.beq f 242 with
  | true => exact ixQ_sm l σ k
  | false =>
  cases Nat.beq f 28 with
  | true => exact rpQ_sm l σ k
  | false =>
  cases Nat.beq f 94 with
  | true => exact wiQ_sm l σ k
  | false =>
  cases Nat.beq f 185 with
  | true => exact srQ_sm l σ k
  | false =>
  exact Sm.bad
end Go.Proofs.YtjgmpdklfcmelaaGreatDoor.V2
namespace Go.Proofs.YtjgmpdklfcmelaaGreatDoor.V2
open Go
set_option linter.unusedVariables false
open Go.RowKit
def l6_0 : List (Nat × FV) := []
def m6_0 : List (Nat × FObj) := [(0, .cells [] 0 .ro), (1, .cells [] 0 .ro), (2, .ints .u32 [Int.ofNat 0, Int.ofNat 498536548, Int.ofNat 997073096, Int.ofNat 651767980, Int.ofNat 1994146192, Int.ofNat 1802195444, Int.ofNat 1303535960, Int.ofNat 1342533948, Int.ofNat 3988292384, Int.ofNat 4027552580, Int.ofNat 3604390888, Int.ofNat 3412177804, Int.ofNat 2607071920, Int.ofNat 2262029012, Int.ofNat 2685067896, Int.ofNat 3183342108] 349 .ro), (3, .cells [] 0 .ro), (4, .cells [] 0 .ro), (5, .cells [] 0 .ro)]
theorem u6_0_lt : (l6_0.all fun p => Nat.blt p.1 1024) = true := by kernel_rfl
noncomputable def c6_0 : ACode := c6
end Go.Proofs.YtjgmpdklfcmelaaGreatDoor.V2
namespace Go.Proofs.YtjgmpdklfcmelaaGreatDoor.V2
open Go
set_option linter.unusedVariables false
open Go.RowKit
set_option maxRecDepth 100000
noncomputable def z6_0 : Cd := (cWr X0 (.b false) (cLet (nL (buN [.o .ptr, .o .sl, .o .ptr, .n .u32 0, .n .u32 0, .n .u32 0] [.nilptr, .nilsl, .nilptr, (.int .u32 0), (.int .u32 0), (.int .u32 0)] []) []) fun v1 => (cLet (n1 (bxF 101) (rdV v1)) fun v2 => (cLet (oCallS 46 [(rdV (.o .ptr)), (rdV (.s 353))]) fun v3 => (cLet (o1 (exG 0) (rdV v3)) fun v4 => (cLet (o1 (exG 1) (rdV v3)) fun v5 => (cLet (oCallS 47 [(rdV (.o .ptr))]) fun v6 => (cLet (o1 (exG 0) (rdV v6)) fun v7 => (cLet (o1 (exG 1) (rdV v6)) fun v8 => (cLet (oCallS 48 [(rdV (.o .ptr)), (rdV (.n .u32 1))]) fun v9 => (cLet (o1 (exG 0) (rdV v9)) fun v10 => (cLet (o1 (exG 1) (rdV v9)) fun v11 => (cLet (n0 (.cells [.n .u32 0, .s 1, .s 1, .s 1, .n .i64 0, .n .i64 0, .b false, .b false] 107 .exact)) fun v12 => (cDo (n2 (stF 8) (rdV v12) (rdV v10)) (cLet (o2 bNeq (rdV v5) (rdV (.n .i64 2))) fun v13 => (cLet (oG false (rdV v13) (oV (rdV v8))) fun v14 => (cLet (oG false (rdV v13) (o2 bNeq (rdV v14) (rdV (.n .i64 2)))) fun v15 => (cLet (o3 pkF (rdV v13) (rdV (.b true)) (rdV v15)) fun v16 => (cLet (oG false (rdV v16) (oV (rdV v11))) fun v17 => (cLet (o3 pkF (rdV v16) (rdV (.b true)) (rdV v17)) fun v18 => (cLet (oG false (rdV v18) (oV (rdV v2))) fun v19 => (cLet (oG false (rdV v18) (oCallS 49 [(rdV v19), (rdV (.n .i64 2)), (rdV (.s 376))])) fun v20 => (cLet (oG false (rdV v18) (o2 bNeq (rdV v20) (rdV (.n .i64 2)))) fun v21 => (cLet (o3 pkF (rdV v18) (rdV (.b true)) (rdV v21)) fun v22 => (cLet (oG false (rdV v22) (oV (rdV (.o .ptr)))) fun v23 => (cLet (oG false (rdV v22) (oCallS 50 [(rdV v23)])) fun v24 => (cLet (oG false (rdV v22) (o2 bNeq (rdV v24) (rdV (.n .u32 0)))) fun v25 => (cLet (o3 pkF (rdV v22) (rdV (.b true)) (rdV v25)) fun v26 => (cLet (oG false (rdV v26) (oV (rdV v2))) fun v27 => (cLet (oG false (rdV v26) (oCallS 51 [(rdV v27)])) fun v28 => (cLet (o3 pkF (rdV v26) (rdV (.b true)) (rdV v28)) fun v29 => (cLet (oG false (rdV v29) (oV (rdV (.o .ptr)))) fun v30 => (cLet (oG false (rdV v29) (oCallS 52 [(rdV v30)])) fun v31 => (cLet (oG false (rdV v29) (o2 (eqQ1 true .ptr) (rdV v31) (rdV (.o .ptr)))) fun v32 => (cLet (o3 pkF (rdV v29) (rdV (.b true)) (rdV v32)) fun v33 => (cLet (oG false (rdV v33) (oV (rdV v2))) fun v34 => (cLet (oG false (rdV v33) (oCallS 53 [(rdV v34)])) fun v35 => (cLet (oG false (rdV v33) (o1 lvF (rdV v35))) fun v36 => (cLet (oG false (rdV v33) (o2 bNeq (rdV v36) (rdV (.n .i64 0)))) fun v37 => (cLet (o3 pkF (rdV v33) (rdV (.b true)) (rdV v37)) fun v38 => (cSeq (cCond (rdV v38) (cWr X0 (.b false) cRet) cSkip) (cLet (oCallS 54 [(rdV (.n .i64 262144))]) fun v39 => (cLet (o1 (exG 0) (rdV v39)) fun v40 => (cLet (o1 (exG 1) (rdV v39)) fun v41 => (cLet (oCallS 47 [(rdV v40)]) fun v42 => (cLet (o1 (exG 0) (rdV v42)) fun v43 => (cLet (o1 (exG 1) (rdV v42)) fun v44 => (cLet (nL (buN [.n .u32 0, .n .u32 0, .n .u32 0] [(.int .u32 0), (.int .u32 0), (.int .u32 0)] [(0, 1), (1, 1), (2, 1)]) [(rdV (.n .u32 1)), (rdV (.n .u32 2)), (rdV (.n .u32 3))]) fun v45 => (cLet (oCallS 55 [(rdV v43), (rdV v45)]) fun v46 => (cLet (oCallS 46 [(rdV v43), (rdV (.s 90721))]) fun v47 => (cLet (oCallS 49 [(rdV v43), (rdV (.n .i64 2)), (rdV (.s 355))]) fun v48 => (cLet (oCallS 56 [(rdV v43), (rdV (.n .i64 5))]) fun v49 => (cLet (oCallS 58 [(rdV v40)]) fun v50 => (cLet (oCallS 57 [(rdV v50)]) fun v51 => (cLet (o1 (exG 0) (rdV v51)) fun v52 => (cLet (o1 (exG 1) (rdV v51)) fun v53 => (cLet (nL (bsQ 5 1 0) []) fun v54 => (cLet (n0 (.cells [.o .sl] 49 .exact)) fun v55 => (cDo (n2 (stF 1) (rdV v55) (rdV v54)) (cLet (oCallS 60 [(rdV v52)]) fun v56 => (cLet (oCallS 59 [(rdV v56)]) fun v57 => (cSeq (cBlk 0 (cSeq (cRf (rdV v57) [X121, X122] (cLetW (oV R122) X17 fun v58 => cSkip) (cSeq (cBlk 1 (cLet (m1 ldF (rdV v55)) fun v59 => (cLet (oV R17) fun v60 => (cLet (n2 (apQ 5 false 1) (rdV v59) (rdV v60)) fun v61 => (cLet (nL (bsQ 5 1 1) [(rdV (.n .u8 124))]) fun v62 => (cLet (n2 (apQ 5 false 1) (rdV v61) (rdV v62)) fun v63 => (cDo (n2 (stF 1) (rdV v55) (rdV v63)) cSkip))))))) cSkip)) cSkip)) (cLet (nL (bsQ 5 1 48) [(rdV (.n .u8 6)), (rdV (.n .u8 0)), (rdV (.n .u8 0)), (rdV (.n .u8 0)), (rdV (.n .u8 1)), (rdV (.n .u8 0)), (rdV (.n .u8 0)), (rdV (.n .u8 0)), (rdV (.n .u8 2)), (rdV (.n .u8 0)), (rdV (.n .u8 0)), (rdV (.n .u8 0)), (rdV (.n .u8 3)), (rdV (.n .u8 124)), (rdV (.n .u8 1)), (rdV (.n .u8 0)), (rdV (.n .u8 0)), (rdV (.n .u8 0)), (rdV (.n .u8 1)), (rdV (.n .u8 0)), (rdV (.n .u8 2)), (rdV (.n .u8 97)), (rdV (.n .u8 98)), (rdV (.n .u8 124)), (rdV (.n .u8 2)), (rdV (.n .u8 0)), (rdV (.n .u8 0)), (rdV (.n .u8 0)), (rdV (.n .u8 1)), (rdV (.n .u8 2)), (rdV (.n .u8 0)), (rdV (.n .u8 0)), (rdV (.n .u8 0)), (rdV (.n .u8 0)), (rdV (.n .u8 0)), (rdV (.n .u8 1)), (rdV (.n .u8 99)), (rdV (.n .u8 124)), (rdV (.n .u8 3)), (rdV (.n .u8 0)), (rdV (.n .u8 0)), (rdV (.n .u8 0)), (rdV (.n .u8 1)), (rdV (.n .u8 0)), (rdV (.n .u8 0)), (rdV (.n .u8 0)), (rdV (.n .u8 5)), (rdV (.n .u8 124))]) fun v64 => (cLet (m1 ldF (rdV v55)) fun v65 => (cLet (oCallS 61 [(rdV v65), (rdV v64)]) fun v66 => (cLet (o1 notF (rdV v66)) fun v67 => (cSeq (cCond (rdV v67) (cWr X0 (.b false) cRet) cSkip) (cLet (oCallS 46 [(rdV v43), (rdV (.s 376))]) fun v68 => (cLet (o1 (exG 0) (rdV v68)) fun v69 => (cLet (o1 (exG 1) (rdV v68)) fun v70 => (cLet (oCallS 56 [(rdV v43), (rdV (.n .i64 6))]) fun v71 => (cLet (oCallS 49 [(rdV v43), (rdV (.n .i64 1)), (rdV (.s 376))]) fun v72 => (cLet (oCallS 49 [(rdV v43), (rdV (.n .i64 2)), (rdV (.s 1))]) fun v73 => (cLet (oCallS 28 [(rdV (.s 376)), (rdV (.n .i64 4097))]) fun v74 => (cLet (oCallS 49 [(rdV v43), (rdV (.n .i64 2)), (rdV v74)]) fun v75 => (cLet (oCallS 63 []) fun v76 => (cLet (oCallS 62 [(rdV v43), (rdV (.n .i64 256)), (rdV v76)]) fun v77 => (cLet (oCallS 62 [(rdV v43), (rdV (.n .i64 0)), (rdV (.o .ptr))]) fun v78 => (cLet (o2 bNeq (rdV v70) (rdV (.n .i64 10))) fun v79 => (cLet (oG false (rdV v79) (oV (rdV v71))) fun v80 => (cLet (oG false (rdV v79) (o2 bNeq (rdV v80) (rdV (.n .i64 10)))) fun v81 => (cLet (o3 pkF (rdV v79) (rdV (.b true)) (rdV v81)) fun v82 => (cLet (oG false (rdV v82) (oV (rdV v72))) fun v83 => (cLet (oG false (rdV v82) (o2 bNeq (rdV v83) (rdV (.n .i64 1)))) fun v84 => (cLet (o3 pkF (rdV v82) (rdV (.b true)) (rdV v84)) fun v85 => (cLet (oG false (rdV v85) (oV (rdV v73))) fun v86 => (cLet (oG false (rdV v85) (o2 bNeq (rdV v86) (rdV (.n .i64 3)))) fun v87 => (cLet (o3 pkF (rdV v85) (rdV (.b true)) (rdV v87)) fun v88 => (cLet (oG false (rdV v88) (oV (rdV v75))) fun v89 => (cLet (oG false (rdV v88) (o2 bNeq (rdV v89) (rdV (.n .i64 3)))) fun v90 => (cLet (o3 pkF (rdV v88) (rdV (.b true)) (rdV v90)) fun v91 => (cLet (oG false (rdV v91) (oV (rdV v77))) fun v92 => (cLet (oG false (rdV v91) (o2 bNeq (rdV v92) (rdV (.n .i64 1)))) fun v93 => (cLet (o3 pkF (rdV v91) (rdV (.b true)) (rdV v93)) fun v94 => (cLet (oG false (rdV v94) (oV (rdV v78))) fun v95 => (cLet (oG false (rdV v94) (o2 bNeq (rdV v95) (rdV (.n .i64 2)))) fun v96 => (cLet (o3 pkF (rdV v94) (rdV (.b true)) (rdV v96)) fun v97 => (cLet (oG false (rdV v97) (oV (rdV v43))) fun v98 => (cLet (oG false (rdV v97) (oCallS 56 [(rdV v98), (rdV (.z .i64 0))])) fun v99 => (cLet (oG false (rdV v97) (o2 bNeq (rdV v99) (rdV (.n .i64 1)))) fun v100 => (cLet (o3 pkF (rdV v97) (rdV (.b true)) (rdV v100)) fun v101 => (cSeq (cCond (rdV v101) (cWr X0 (.b false) cRet) cSkip) (cWr X183 (.n .i64 0) (cSeq (cBlk 2 (cLoop 1000000 (cLet (o2 bLss R183 (rdV (.n .i64 16))) fun v102 => (cSeq (cCond (rdV v102) cSkip (cExit 2)) (cSeq (cBlk 3 (cLet (oCallS 28 [(rdV (.s 377)), (rdV (.n .i64 4090))]) fun v103 => (cLet (oCallS 49 [(rdV v43), (rdV (.n .i64 3)), (rdV v103)]) fun v104 => (cLet (o2 bNeq (rdV v104) (rdV (.n .i64 0))) fun v105 => (cSeq (cCond (rdV v105) (cWr X0 (.b false) cRet) cSkip) cSkip))))) (cLet (o2 bAdd R183 (rdV (.n .i64 1))) fun v106 => (cWr X183 v106 cSkip))))))) (cLet (oCallS 28 [(rdV (.s 377)), (rdV (.n .i64 96))]) fun v107 => (cLet (oCallS 49 [(rdV v43), (rdV (.n .i64 3)), (rdV v107)]) fun v108 => (cLet (o2 bNeq (rdV v108) (rdV (.n .i64 3))) fun v109 => (cLet (oG false (rdV v109) (oV (rdV v43))) fun v110 => (cLet (oG false (rdV v109) (oCallS 28 [(rdV (.s 377)), (rdV (.n .i64 95))])) fun v111 => (cLet (oG false (rdV v109) (oCallS 49 [(rdV v110), (rdV (.n .i64 3)), (rdV v111)])) fun v112 => (cLet (oG false (rdV v109) (o2 bNeq (rdV v112) (rdV (.n .i64 0)))) fun v113 => (cLet (o3 pkF (rdV v109) (rdV (.b true)) (rdV v113)) fun v114 => (cLet (oG false (rdV v114) (oV (rdV v43))) fun v115 => (cLet (oG false (rdV v114) (oCallS 49 [(rdV v115), (rdV (.n .i64 2)), (rdV (.s 378))])) fun v116 => (cLet (oG false (rdV v114) (o2 bNeq (rdV v116) (rdV (.n .i64 3)))) fun v117 => (cLet (o3 pkF (rdV v114) (rdV (.b true)) (rdV v117)) fun v118 => (cSeq (cCond (rdV v118) (cWr X0 (.b false) cRet) cSkip) (cLet (oCallS 63 []) fun v119 => (cLet (oCallS 64 [(rdV v119), (rdV (.s 376)), (rdV (.s 305))]) fun v120 => (cLet (o1 ncF (rdV v119)) fun v121 => (cLet (o1 (faF 0) (rdV v121)) fun v122 => (cDo (n2 (stF 1) (rdV v122) (rdV (.n .i64 9))) (cLet (oCallS 62 [(rdV v43), (rdV (.n .i64 3)), (rdV v119)]) fun v123 => (cLet (oCallS 64 [(rdV v119), (rdV (.s 376)), (rdV (.s 306))]) fun v124 => (cLet (oCallS 52 [(rdV v43)]) fun v125 => (cLet (oCallS 65 [(rdV v125), (rdV (.s 376))]) fun v126 => (cLet (o1 (exG 0) (rdV v126)) fun v127 => (cLet (o1 (exG 1) (rdV v126)) fun v128 => (cLet (oCallS 56 [(rdV v43), (rdV (.n .i64 1))]) fun v129 => (cLet (oCallS 62 [(rdV v43), (rdV (.n .i64 0)), (rdV v119)]) fun v130 => (cLet (oCallS 48 [(rdV v43), (rdV (.n .u32 1))]) fun v131 => (cLet (o1 (exG 0) (rdV v131)) fun v132 => (cLet (o1 (exG 1) (rdV v131)) fun v133 => (cLet (n0 (.cells [.n .u32 0, .s 1, .s 1, .s 1, .n .i64 0, .n .i64 0, .b false, .b false] 107 .exact)) fun v134 => (cDo (n2 (stF 8) (rdV v134) (rdV v132)) (cLet (oCallS 28 [(rdV (.s 372)), (rdV (.n .i64 2049))]) fun v135 => (cLet (oCallS 46 [(rdV v43), (rdV v135)]) fun v136 => (cLet (o1 (exG 0) (rdV v136)) fun v137 => (cLet (o1 (exG 1) (rdV v136)) fun v138 => (cLet (oCallS 28 [(rdV (.s 372)), (rdV (.n .i64 2048))]) fun v139 => (cLet (oCallS 46 [(rdV v43), (rdV v139)]) fun v140 => (cLet (o1 (exG 0) (rdV v140)) fun v141 => (cLet (o1 (exG 1) (rdV v140)) fun v142 => (cLet (oCallS 47 [(rdV v40)]) fun v143 => (cLet (o1 (exG 0) (rdV v143)) fun v144 => (cLet (o1 (exG 1) (rdV v143)) fun v145 => (cLet (oCallS 48 [(rdV v144), (rdV (.n .u32 2))]) fun v146 => (cLet (o1 (exG 0) (rdV v146)) fun v147 => (cLet (o1 (exG 1) (rdV v146)) fun v148 => (cLet (n0 (.cells [.n .u32 0, .s 1, .s 1, .s 1, .n .i64 0, .n .i64 0, .b false, .b false] 107 .exact)) fun v149 => (cDo (n2 (stF 8) (rdV v149) (rdV v147)) (cLet (o2 bEql (rdV v123) (rdV (.n .i64 0))) fun v150 => (cLet (oG true (rdV v150) (oV (rdV v127))) fun v151 => (cLet (oG true (rdV v150) (o2 bEql (rdV v151) (rdV (.s 305)))) fun v152 => (cLet (o3 pkF (rdV v150) (rdV v152) (rdV (.b false))) fun v153 => (cLet (oG true (rdV v153) (oV (rdV v43))) fun v154 => (cLet (oG true (rdV v153) (oCallS 52 [(rdV v154)])) fun v155 => (cLet (oG true (rdV v153) (o1 ncF (rdV v155))) fun v156 => (cLet (oG true (rdV v153) (o1 (faF 0) (rdV v156))) fun v157 => (cLet (oG true (rdV v153) (m1 ldF (rdV v157))) fun v158 => (cLet (oG true (rdV v153) (o2 bEql (rdV v158) (rdV (.n .i64 3)))) fun v159 => (cLet (o3 pkF (rdV v153) (rdV v159) (rdV (.b false))) fun v160 => (cLet (oG true (rdV v160) (oV (rdV v129))) fun v161 => (cLet (oG true (rdV v160) (o2 bEql (rdV v161) (rdV (.n .i64 10)))) fun v162 => (cLet (o3 pkF (rdV v160) (rdV v162) (rdV (.b false))) fun v163 => (cLet (oG true (rdV v163) (oV (rdV v130))) fun v164 => (cLet (oG true (rdV v163) (o2 bEql (rdV v164) (rdV (.n .i64 10)))) fun v165 => (cLet (o3 pkF (rdV v163) (rdV v165) (rdV (.b false))) fun v166 => (cLet (oG true (rdV v166) (oV (rdV v133))) fun v167 => (cLet (o3 pkF (rdV v166) (rdV v167) (rdV (.b false))) fun v168 => (cLet (oG true (rdV v168) (o1 (faF 6) (rdV v134))) fun v169 => (cLet (oG true (rdV v168) (m1 ldF (rdV v169))) fun v170 => (cLet (o3 pkF (rdV v168) (rdV v170) (rdV (.b false))) fun v171 => (cLet (oG true (rdV v171) (o1 (faF 7) (rdV v134))) fun v172 => (cLet (oG true (rdV v171) (m1 ldF (rdV v172))) fun v173 => (cLet (oG true (rdV v171) (o1 notF (rdV v173))) fun v174 => (cLet (o3 pkF (rdV v171) (rdV v174) (rdV (.b false))) fun v175 => (cLet (oG true (rdV v175) (o1 (faF 5) (rdV v134))) fun v176 => (cLet (oG true (rdV v175) (m1 ldF (rdV v176))) fun v177 => (cLet (oG true (rdV v175) (o2 bEql (rdV v177) (rdV (.n .i64 3)))) fun v178 => (cLet (o3 pkF (rdV v175) (rdV v178) (rdV (.b false))) fun v179 => (cLet (oG true (rdV v179) (o1 (faF 2) (rdV v134))) fun v180 => (cLet (oG true (rdV v179) (m1 ldF (rdV v180))) fun v181 => (cLet (oG true (rdV v179) (o2 bEql (rdV v181) (rdV (.s 355)))) fun v182 => (cLet (o3 pkF (rdV v179) (rdV v182) (rdV (.b false))) fun v183 => (cLet (oG true (rdV v183) (o1 (faF 3) (rdV v134))) fun v184 => (cLet (oG true (rdV v183) (m1 ldF (rdV v184))) fun v185 => (cLet (oG true (rdV v183) (o1 lsF (rdV v185))) fun v186 => (cLet (oG true (rdV v183) (o2 bEql (rdV v186) (rdV (.n .i64 65535)))) fun v187 => (cLet (o3 pkF (rdV v183) (rdV v187) (rdV (.b false))) fun v188 => (cLet (oG true (rdV v188) (o1 (faF 4) (rdV v134))) fun v189 => (cLet (oG true (rdV v188) (m1 ldF (rdV v189))) fun v190 => (cLet (oG true (rdV v188) (o2 bEql (rdV v190) (rdV (.n .i64 5)))) fun v191 => (cLet (o3 pkF (rdV v188) (rdV v191) (rdV (.b false))) fun v192 => (cLet (oG true (rdV v192) (oV (rdV v138))) fun v193 => (cLet (oG true (rdV v192) (o2 bEql (rdV v193) (rdV (.n .i64 3)))) fun v194 => (cLet (o3 pkF (rdV v192) (rdV v194) (rdV (.b false))) fun v195 => (cLet (oG true (rdV v195) (oV (rdV v141))) fun v196 => (cLet (oG true (rdV v195) (o2 bEql (rdV v196) (rdV (.n .u32 2)))) fun v197 => (cLet (o3 pkF (rdV v195) (rdV v197) (rdV (.b false))) fun v198 => (cLet (oG true (rdV v198) (oV (rdV v142))) fun v199 => (cLet (oG true (rdV v198) (o2 bEql (rdV v199) (rdV (.n .i64 0)))) fun v200 => (cLet (o3 pkF (rdV v198) (rdV v200) (rdV (.b false))) fun v201 => (cLet (oG true (rdV v201) (oV (rdV v145))) fun v202 => (cLet (oG true (rdV v201) (o2 bEql (rdV v202) (rdV (.n .i64 0)))) fun v203 => (cLet (o3 pkF (rdV v201) (rdV v203) (rdV (.b false))) fun v204 => (cLet (oG true (rdV v204) (oV (rdV v148))) fun v205 => (cLet (o3 pkF (rdV v204) (rdV v205) (rdV (.b false))) fun v206 => (cLet (oG true (rdV v206) (o1 (faF 7) (rdV v149))) fun v207 => (cLet (oG true (rdV v206) (m1 ldF (rdV v207))) fun v208 => (cLet (o3 pkF (rdV v206) (rdV v208) (rdV (.b false))) fun v209 => (cLet (oG true (rdV v209) (o1 (faF 5) (rdV v149))) fun v210 => (cLet (oG true (rdV v209) (m1 ldF (rdV v210))) fun v211 => (cLet (oG true (rdV v209) (o2 bEql (rdV v211) (rdV (.n .i64 125)))) fun v212 => (cLet (o3 pkF (rdV v209) (rdV v212) (rdV (.b false))) fun v213 => (cLet (oG true (rdV v213) (oV (rdV v144))) fun v214 => (cLet (oG true (rdV v213) (oCallS 66 [(rdV v214)])) fun v215 => (cLet (oG true (rdV v213) (nL (buN [.n .u32 0, .n .u32 0, .n .u32 0] [(.int .u32 0), (.int .u32 0), (.int .u32 0)] [(0, 1), (1, 1), (2, 1)]) [(rdV (.n .u32 1)), (rdV (.n .u32 2)), (rdV (.n .u32 3))])) fun v216 => (cLet (oG true (rdV v213) (nL (pQ (.eqF false [.int, .int, .int])) [(rdV v215), (rdV v216)])) fun v217 => (cLet (o3 pkF (rdV v213) (rdV v217) (rdV (.b false))) fun v218 => (cLet (oG true (rdV v218) (oV (rdV v144))) fun v219 => (cLet (oG true (rdV v218) (oCallS 50 [(rdV v219)])) fun v220 => (cLet (oG true (rdV v218) (o2 bEql (rdV v220) (rdV (.n .u32 2)))) fun v221 => (cLet (o3 pkF (rdV v218) (rdV v221) (rdV (.b false))) fun v222 => (cLet (oG true (rdV v222) (oCallS 67 [])) fun v223 => (cLet (o3 pkF (rdV v222) (rdV v223) (rdV (.b false))) fun v224 => (cWr X0 v224 cRet)))))))))))))))))))))))))))))))))))))))))))))))))))))))))))))))))))))))))))))))))))))))))))))))))))))))))))))))))))))))))))))))))))))))))))))))))))))))))))))))))))))))))))))))))))))))))))))))))))))))))))))))))))))))))))))))))))
theorem z6_0_eq : thrK 1000000 351 (drOf 351 [0, 17, 121, 122, 183]) c6_0 [] cS = z6_0 := by kernel_rfl
theorem t6_0 : runQ tQJ bQJ z6_0 l6_0 m6_0 6 kX (fun e σ => rsQ [vT R0] e σ fun vs => .ok (.tup vs) ⟨0, .leaf⟩) = .ok (.tup [.b true]) ⟨0, .leaf⟩ := by kernel_rfl
end Go.Proofs.YtjgmpdklfcmelaaGreatDoor.V2
namespace Go.Proofs.YtjgmpdklfcmelaaGreatDoor.V2
open Go
set_option linter.unusedVariables false
open Go.RowKit
theorem row_ofJ {w : World} {b n k : Nat} {T : List UInt32} {l : List Int} {e : TypeId} (hn : T.length = n) (hl : l = wI T) (h : ∀ i, i < n → w.cell? ⟨b, i, none⟩ = some (.int .u32 (N32 (at32 T i)))) (hk : n = k) : ∀ ρ, OR ρ (0, k) (.ints .u32 l e .ro) w.heap[b]? := fun ρ => by
  subst hl hk
  refine or_ro (by rw [wI_length]; omega) fun i hi => ?_
  rw [wI_getD, Nat.zero_add]; exact h i (by rw [wI_length] at hi; omega)
def rSJ : Ren := rL [some (0, (0, 0)), some (1, (0, 0)), some (2, (0, 16)), some (3, (0, 0)), some (4, (0, 0)), some (5, (0, 0))]
def memSJ : List AObj := [AObj.shut, AObj.shut, .ints .u32 (wI TC) 349 .ro, AObj.shut, AObj.shut, AObj.shut]
theorem rSJ_glob : ∀ g, g < 6 → ∃ s, rSJ g = some (g, (0, s)) := fun g hg => by
  match g, hg with
  | 0, _ => exact ⟨0, rfl⟩
  | 1, _ => exact ⟨0, rfl⟩
  | 2, _ => exact ⟨16, rfl⟩
  | 3, _ => exact ⟨0, rfl⟩
  | 4, _ => exact ⟨0, rfl⟩
  | 5, _ => exact ⟨0, rfl⟩
  | n + 6, h => exact absurd h (by omega)
theorem memSJ_sh : ∀ o ∈ memSJ, o.isSh = true := fun o ho => by
  simp only [memSJ, List.mem_cons, List.not_mem_nil, or_false] at ho
  rcases ho with h | h | h | h | h | h <;> (subst h; rfl)
theorem memSJ_ro : ∀ o ∈ memSJ, o.isRo = true := fun o ho => AObj.isSh_ro (memSJ_sh o ho)
def shTJ : T AObj := .node (some AObj.shut) (.node (some (AObj.shut)) (.node (some AObj.shut) .leaf .leaf) (.node (some AObj.shut) .leaf .leaf)) (.node (some (.ints .u32 (wI TC) 349 .ro)) (.node (some AObj.shut) .leaf .leaf) .leaf)
theorem hrSJ {w : World} (h : 6 ≤ w.heap.size) (hT : TabC w) : HR rSJ (hL memSJ) w := by
  refine hr_ro (by show 6 ≤ _; omega) rfl memSJ_sh fun b c d o hb ho => ?_
  match b with
  | 0 => cases hb; cases ho; exact ⟨by omega, OR.shut (Nat.zero_le _)⟩
  | 1 => cases hb; cases ho; exact ⟨by omega, OR.shut (Nat.zero_le _)⟩
  | 2 => cases hb; cases ho; exact ⟨by omega, row_ofJ (T := TC) (n := 16) rfl (by decide +kernel) hT rfl _⟩
  | 3 => cases hb; cases ho; exact ⟨by omega, OR.shut (Nat.zero_le _)⟩
  | 4 => cases hb; cases ho; exact ⟨by omega, OR.shut (Nat.zero_le _)⟩
  | 5 => cases hb; cases ho; exact ⟨by omega, OR.shut (Nat.zero_le _)⟩
  | n + 6 => cases hb
theorem journalKnown (w : World) (hG : 6 ≤ w.heap.size) (hT : TabC w) : Calls Tryz.prog 6 #[] w fun e w' => e = .returned (.bool true) ∧ Below w.heap.size w w' := by
  have hr0 := hrSJ hG hT
  refine (calls_of_aq (G := 6) (σ := hL memSJ) (ρ := rSJ) (xs := [.tmp 0]) (vs := []) (K := fun av _ => av = .bool true) Tryz.func6 body6 (Prod.mk.inj comp6).2 ?_).mono fun e W' ⟨v, av, σ', ρ', e1, e2, e3, e4, e5⟩ => ?_
  rotate_left
  · subst e1 e2
    unfold VR at e5
    exact ⟨by rw [e5], Below.ofStp (by show 6 ≤ _; omega) hr0 memSJ_ro e4⟩
  have st : Start [] 6 w.heap.size rSJ (hL memSJ) w := ⟨Nat.le_refl _, (fun y hy => absurd hy List.not_mem_nil), (fun y hy => absurd hy List.not_mem_nil), hr0⟩
  have h1 : (⟨6, ofM (αm m6_0)⟩ : AH) = ⟨6, shTJ⟩ := by kernel_rfl
  have h2 : hL memSJ = ⟨6, shTJ⟩ := by kernel_rfl
  have h0 : (⟨6, ofM (αm m6_0)⟩ : AH) = hL memSJ := h1.trans h2.symm
  have main : Good Tryz.prog 6 Tryz.f6.ntmps 6 w.heap.size rSJ (hL memSJ) w (AQ 6 Tryz.f6.ntmps 6 w.heap.size rSJ (hL memSJ) w (fun e env σ' => (match e with | .normal => True | .ret => True | _ => False) ∧ (resL std env σ' [.tmp 0]).1 = true ∧ retV (resL std env σ' [.tmp 0]).2 = .bool true)) (ofL (αl l6_0)) ⟨6, ofM (αm m6_0)⟩ (Tryz.f6.body.getD .skip) :=
    Good.endQ (c' := c6_0) (xs := [.tmp 0]) st mixed gamJ_ok hpu0' tQJ_ok bQJ_ok (Prod.mk.inj comp6).1 z6_0_eq u6_0_lt (by kernel_rfl) t6_0 (fun env σ h2 => by rw [h2]; exact ⟨trivial, rfl, rfl⟩)
  refine main rSJ w _ (by rw [h0]; exact hr0) ⟨by decide +kernel, by simp, rSJ_glob, fun t v ht => by cases ht⟩ (by rw [h0]; exact Stp.refl (Nat.le_refl _)) ⟨trivial, fun r hr => by cases hr⟩
end Go.Proofs.YtjgmpdklfcmelaaGreatDoor.V2
namespace Go.Proofs.YtjgmpdklfcmelaaGreatDoor
open Go.ChangeShapes Go.WideShapes Go.ChangeAt Go.RowKit
section
variable {H : Type} {enc : TypeId × Value → H} {P : Program}
theorem trodAll_stays (hl : laidOutB P = true) {W W' : World} {sp' : Nat → Bool} : ∀ {ts : List TypeId} {vs : List Value} {ds : List (DataW H)} {ps : List MemPlace}, (∀ t ∈ ts, P.readableRec t = true ∧ t < P.types.size) →
    DataW.TrodAll enc P W 0 (fun _ => true) true ts vs ds ps → (∀ p ∈ ps, W.sameAt W' p) → (∀ p ∈ ps, sp' p.block = true) → DataW.TrodAll enc P W' 0 sp' true ts vs ds ps
  | [], _, _, _, _, h, _, _ => by
    obtain ⟨rfl, rfl, rfl⟩ := trodAll_nil h
    exact trodAll_mk0
  | t :: ts, _, _, _, ht, h, h1, h2 => by
    obtain ⟨v, vs1, d, ds1, a, b, rfl, rfl, rfl, ha, hb⟩ := trodAll_cons h
    exact trodAll_cons_mk (WideElems.Trod_stays hl (ht t (by simp)).1 (ht t (by simp)).2 ha (fun p hp => h1 p (by simp [hp])) (fun p hp => h2 p (by simp [hp])))
      (trodAll_stays hl (fun t' h' => ht t' (by simp [h'])) hb (fun p hp => h1 p (by simp [hp])) (fun p hp => h2 p (by simp [hp])))
theorem post_of_below {f : Func} {s : ChangeSpec} {apart fresh handsOn again : Bool} {W W' : World} {args : Array Value} {v : Value} {ds gs : List (DataW H)} {before : List MemPlace}
    (hW : DataW.Whole enc P f.params.toList s.vars apart W args.toList ds gs before) (hl : laidOutB P = true) (hsv : s.vars = []) (hts : ∀ t ∈ f.params.toList, P.readableRec t = true ∧ t < P.types.size)
    (hb : Below W.heap.size W W') (ha : (s.fn H (ds ++ gs)).args = ds) (hgv : (s.fn H (ds ++ gs)).vars = [])
    (hres : ∀ (b : Nat) (sp : Nat → Bool) (hd : Bool), DataW.TrodAll enc P W' b sp hd f.resultTypes.toList (v.resultList f.resultTypes.size) (s.fn H (ds ++ gs)).results [])
    (hok : ∀ (j : Nat) (t : TypeId) (r : Value), f.resultTypes[j]? = some t → (v.resultList f.resultTypes.size)[j]? = some r → Value.okWide P W' .any 0 t r) :
    s.post enc P f apart fresh handsOn again W args v W' := by
  have hlt := hW.lt
  have hW0 := hW
  obtain ⟨p, q, hA0, hV, rfl, hz, hn⟩ := hW
  have hA : DataW.TrodAll enc P W 0 (fun _ => true) true f.params.toList args.toList ds p := hA0
  rw [hsv] at hV
  obtain ⟨rfl, rfl⟩ := trodVars_none hV
  rw [List.append_nil] at hlt hz hn
  have hs : ∀ x ∈ p, W.sameAt W' x := fun x hx => hb.same (hlt x hx)
  have hargs : ∀ sp : Nat → Bool, (∀ x ∈ p, sp x.block = true) → DataW.TrodAll enc P W' 0 sp true f.params.toList args.toList (s.fn H (ds ++ [])).args p := fun sp hsp => by
    rw [ha]; exact trodAll_stays hl hts hA hs hsp
  have hvars : ∀ sp : Nat → Bool, DataW.TrodVars enc P W' sp s.vars (s.fn H (ds ++ [])).vars [] := fun sp => by rw [hgv, hsv]; rfl
  have hold : ∀ x ∈ p, (fun b => decide (b < W.heap.size)) x.block = true := fun x hx => by simpa using hlt x hx
  refine ⟨ds, [], p ++ [], [], p, [], hW0, hres _ _ _, hargs _ hold, hvars _, ?_, fun _ => ?_⟩
  · exact hb.frame _
  · refine ⟨hok, _, _, ([] ++ p) ++ [], ⟨[] ++ p, [], trodAll_append (hargs _ (fun _ _ => rfl)) (hres _ _ _), hvars _, rfl, ?_, ?_⟩, ?_⟩
    · intro b off hp
      simp only [List.nil_append, List.append_nil] at hp
      rw [hb.frozen (hlt _ hp)]
      exact hz b off hp
    · intro h'
      simpa using hn h'
    · intro x hx _
      simpa using hx
end
theorem laidOut : laidOutB Tryz.prog = true := by kernel_rfl
theorem own : ownKnob Tryz.prog.godebug = none := by kernel_rfl
theorem gAcc : Tryz.prog.globalNamed "unicode/utf8.acceptRanges" = some 7 := by kernel_rfl
theorem size_of {W : World} {d : DataW Unit} {rest : List (String × DataW Unit)} (h : laidMet Tryz.prog (("unicode/utf8.acceptRanges", d) :: rest) W) : 6 ≤ W.heap.size := by
  obtain ⟨ps, ⟨g, t, cs, fuel, p, q, hg, _, hv, _⟩, _⟩ := h
  obtain rfl := Option.some.inj (gAcc.symm.trans hg)
  unfold World.var? at hv
  rw [gAcc, Option.bind_some] at hv
  split at hv
  · rename_i hh; have := (Array.getElem?_eq_some_iff.1 hh).1; omega
  · cases hv
mutual
def cellsD : DataW Unit → List Value
  | .lit (.int k n) => [.int k n]
  | .agg l => cellsDs l
  | _ => []
def cellsDs : List (DataW Unit) → List Value
  | [] => []
  | d :: l => cellsD d ++ cellsDs l
end
theorem gTable : Tryz.prog.globalNamed "longwire/scribe.table" = some 2 := by kernel_rfl
theorem gTableType : (Tryz.prog.globals[2]?).map (·.type) = some 349 := by kernel_rfl
theorem cells23_ : Tryz.prog.cellsOf 23 = 1 := by kernel_rfl
theorem cells349_ : Tryz.prog.cellsOf 349 = 16 := by kernel_rfl
theorem tabC_eq {H : Type} : (Rows.laid_longwire_scribe_table : DataW H) = Lib.tabData .u32 (TC.map N32) := by kernel_rfl
theorem row_laid {W : World} {name : String} {g t : Nat} {n : Nat} {T : List UInt32} {data : DataW Unit} {rest : List (String × DataW Unit)} (hg : Tryz.prog.globalNamed name = some g) (ht : (Tryz.prog.globals[g]?).map (·.type) = some t)
    (hu : Tryz.prog.underlying t = some (.array n 23)) (hc : Tryz.prog.cellsOf t = n) (hd : data = Lib.tabData .u32 (T.map N32)) (h : laidMet Tryz.prog ((name, data) :: rest) W) : ∀ i, i < T.length → W.cell? ⟨g, i, none⟩ = some (.int .u32 (N32 (at32 T i))) := by
  rw [hd] at h
  intro i hi
  have := (Lib.tabIs_of_head hg ht hu Tryz.underlying23 cells23_ hc h).cell hg i (by simpa using hi)
  rw [this]
  simp [at32, List.getD_eq_getElem?_getD, hi]
theorem tabC_of {W : World} {d : DataW Unit} {rest : List (String × DataW Unit)} (h : laidMet Tryz.prog (("unicode/utf8.acceptRanges", d) :: ("longwire/scribe.table", Rows.laid_longwire_scribe_table) :: rest) W) : TabC W :=
  row_laid gTable gTableType Tryz.underlying349 cells349_ tabC_eq h.tail
end Go.Proofs.YtjgmpdklfcmelaaGreatDoor
