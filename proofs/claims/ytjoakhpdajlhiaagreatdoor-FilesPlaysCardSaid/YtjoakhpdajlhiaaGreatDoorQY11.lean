/- Part 11 of the proof: texts of the proof. -/
import Derived.Test.YtjoakhpdajlhiaaGreatDoorQY10
namespace Go.Proofs.YtjoakhpdajlhiaaGreatDoor.V2
open Go
noncomputable section
def ltK (n : Nat) : Nat → Nat → Nat → FR → FR → FR := Nat.rec (motive := fun _ => Nat → Nat → Nat → FR → FR → FR) (fun m _ _ y s => Nat.rec s (fun _ _ => y) m)
  (fun _ ih m a b y s => Nat.rec (motive := fun _ => FR) s (fun m _ => Bool.rec (Bool.rec s (fN (Nat.div a 256) fun a => fN (Nat.div b 256) fun b => ih m a b y s) (Nat.beq (Nat.mod a 256) (Nat.mod b 256))) y (Nat.blt (Nat.mod a 256) (Nat.mod b 256))) m) n
theorem u8_lt {x y : Nat} : UInt8.ofNat (x % 256) < UInt8.ofNat (y % 256) ↔ x % 256 < y % 256 := by
  rw [UInt8.lt_iff_toNat_lt, UInt8.toNat_ofNat', UInt8.toNat_ofNat']; simp
theorem u8_eq {x y : Nat} : UInt8.ofNat (x % 256) = UInt8.ofNat (y % 256) ↔ x % 256 = y % 256 := by
  rw [← UInt8.toNat_inj, UInt8.toNat_ofNat', UInt8.toNat_ofNat']; simp
theorem ltK_eq : ∀ (n m a b : Nat) (y s : FR), ltK n m a b y s = bif decide (Dz n a < Dz m b) then y else s
  | 0, 0, a, b, y, s => by show s = _; simp [Dz]
  | 0, m + 1, a, b, y, s => by show y = _; simp [Dz]
  | n + 1, 0, a, b, y, s => by show s = _; simp [Dz]
  | n + 1, m + 1, a, b, y, s => by
    show (Bool.rec (Bool.rec s (fN (Nat.div a 256) fun a => fN (Nat.div b 256) fun b => ltK n m a b y s) (Nat.beq (Nat.mod a 256) (Nat.mod b 256))) y (Nat.blt (Nat.mod a 256) (Nat.mod b 256)) : FR) = _
    rw [Aj, Aj, ltK_eq n m]
    have h : decide (Dz (n + 1) a < Dz (m + 1) b) = (Nat.blt (Nat.mod a 256) (Nat.mod b 256) || (Nat.beq (Nat.mod a 256) (Nat.mod b 256) && decide (Dz n (Nat.div a 256) < Dz m (Nat.div b 256)))) := by
      rw [Bool.eq_iff_iff]
      simp only [Dz, List.cons_lt_cons_iff, decide_eq_true_eq, Bool.or_eq_true, Bool.and_eq_true, Nat.blt_eq, Nat.beq_eq, u8_lt, u8_eq]
      rfl
    rw [h]
    cases Nat.blt (Nat.mod a 256) (Nat.mod b 256)
    · cases Nat.beq (Nat.mod a 256) (Nat.mod b 256) <;> rfl
    · rfl
def ltC (x y : Nat) (t s : FR) : FR := ltK (bl x) (bl y) x y t s
theorem ltC_eq (x y : Nat) (t s : FR) : ltC x y t s = bif decide (unp x < unp y) then t else s := ltK_eq _ _ _ _ _ _
def insK (x : Nat) (l : List Nat) (k : List Nat → FR) : FR := List.rec (motive := fun _ => (List Nat → FR) → FR) (fun k => k [x]) (fun y m ih k => ltC y x (ih fun r => k (y :: r)) (k (x :: y :: m))) l k
def insN (x : Nat) : List Nat → List Nat
  | [] => [x]
  | y :: l => bif decide (unp y < unp x) then y :: insN x l else x :: y :: l
theorem insK_eq (x : Nat) : ∀ (l : List Nat) (k : List Nat → FR), insK x l k = k (insN x l)
  | [], _ => rfl
  | y :: l, k => by
    show ltC y x (insK x l fun r => k (y :: r)) (k (x :: y :: l)) = _
    rw [ltC_eq, insK_eq x l, insN]
    cases decide (unp y < unp x) <;> rfl
theorem insN_unp (x : Nat) : ∀ l : List Nat, (insN x l).map unp = insS (unp x) (l.map unp)
  | [] => rfl
  | y :: l => by
    rw [List.map_cons, insN, insS, ← insN_unp x l]
    cases decide (unp y < unp x) <;> rfl
def srtK (l : List Nat) (k : List Nat → FR) : FR := List.rec (motive := fun _ => (List Nat → FR) → FR) (fun k => k []) (fun x _ ih k => ih fun r => insK x r k) l k
theorem srtK_eq : ∀ (l : List Nat) (k : List Nat → FR), ∃ r, r.map unp = Hh (l.map unp) ∧ srtK l k = k r
  | [], _ => ⟨[], rfl, rfl⟩
  | x :: l, k => by
    obtain ⟨r, h1, h2⟩ := srtK_eq l fun r => insK x r k
    refine ⟨insN x r, ?_, ?_⟩
    · rw [insN_unp, h1]; rfl
    · show srtK l (fun r => insK x r k) = _
      rw [h2, insK_eq]
def Ha (l : List Nat) (s : FR) : FR := List.rec (motive := fun _ => FR → FR) (fun s => s) (fun x m ih s => List.rec (motive := fun _ => FR) (ih s) (fun y _ _ => ltC x y (ih s) .bad) m) l s
theorem Jd : ∀ {l : List Nat} {s : FR}, Ha l s ≠ .bad → risS (l.map unp) = true ∧ Ha l s = s
  | [], _, _ => ⟨rfl, rfl⟩
  | [x], s, _ => ⟨rfl, rfl⟩
  | x :: y :: l, s, h => by
    have h : ltC x y (Ha (y :: l) s) .bad ≠ .bad := h
    show _ ∧ ltC x y (Ha (y :: l) s) .bad = s
    rw [ltC_eq] at h ⊢
    cases hd : decide (unp x < unp y) <;> rw [hd] at h
    · exact absurd rfl h
    · obtain ⟨h1, h2⟩ := Jd (l := y :: l) (s := s) h
      refine ⟨?_, h2⟩
      rw [List.map_cons, List.map_cons]
      unfold risS
      rw [List.map_cons] at h1
      rw [h1]
      simp [hd]
def shK (l : List Nat) (s : FR) : FR := List.rec (motive := fun _ => FR) s (fun x _ ih => gB (Nat.ble (bl x) 1000000) ih) l
theorem K5 : ∀ {l : List Nat} {s : FR}, shK l s ≠ .bad → shS (l.map unp) = true ∧ shK l s = s
  | [], _, _ => ⟨rfl, rfl⟩
  | x :: l, s, h => by
    have h : gB (Nat.ble (bl x) 1000000) (shK l s) ≠ .bad := h
    show _ ∧ gB (Nat.ble (bl x) 1000000) (shK l s) = s
    rw [gB_eq] at h ⊢
    cases hd : Nat.ble (bl x) 1000000 <;> rw [hd] at h
    · exact absurd rfl h
    · obtain ⟨h1, h2⟩ := K5 (l := l) (s := s) h
      refine ⟨?_, h2⟩
      unfold shS at h1 ⊢
      rw [List.map_cons, List.all_cons, h1, B8, hd]; rfl
def Fq (l : List (FV × FV)) (k : List Nat → FR) : FR := List.rec (motive := fun _ => (List Nat → FR) → FR) (fun k => k []) (fun p _ ih k => Prod.rec (fun x _ => kS (fun c => ih fun r => k (c :: r)) x) p) l k
theorem Hv : ∀ {l : List (FV × FV)} {k : List Nat → FR}, Fq l k ≠ .bad → ∃ cs, G6 (αP l) = some (cs.map unp) ∧ Fq l k = k cs
  | [], _, _ => ⟨[], rfl, rfl⟩
  | (x, y) :: l, k, h => by
    have h : kS (fun c => Fq l fun r => k (c :: r)) x ≠ .bad := h
    show ∃ cs, _ ∧ kS (fun c => Fq l fun r => k (c :: r)) x = k cs
    obtain ⟨c, rfl, h1⟩ := C2 h
    rw [h1] at h ⊢
    obtain ⟨cs, h2, h3⟩ := Hv h
    refine ⟨c :: cs, ?_, h3⟩
    simp only [αP, G6, αV, h2, List.map_cons]
def txK (l : List Nat) (k : List FV → FR) : FR := List.rec (motive := fun _ => (List FV → FR) → FR) (fun k => k []) (fun c _ ih k => ih fun r => k (.s c :: r)) l k
theorem txK_eq : ∀ (l : List Nat) (k : List FV → FR), ∃ r, αL r = (l.map unp).map AV.str ∧ txK l k = k r
  | [], _ => ⟨[], rfl, rfl⟩
  | c :: l, k => by
    obtain ⟨r, h1, h2⟩ := txK_eq l fun r => k (.s c :: r)
    exact ⟨.s c :: r, by rw [αL, h1]; rfl, h2⟩
def lnK (l : List Nat) (k : Nat → FR) : FR := List.rec (motive := fun _ => (Nat → FR) → FR) (fun k => k 0) (fun _ _ ih k => ih fun n => fN (Nat.succ n) k) l k
theorem lnK_eq : ∀ (l : List Nat) (k : Nat → FR), lnK l k = k l.length
  | [], _ => rfl
  | c :: l, k => by
    show lnK l (fun n => fN (Nat.succ n) k) = _
    rw [lnK_eq l, Aj]; rfl
def srtQ (ks : List Nat) (σ : FH) (k : KV) : FR := shK ks (srtK ks fun r => List.rec (motive := fun _ => FR) (k (.o .sl) σ) (fun _ _ _ => Ha r (lnK r fun n => gB (Nat.ble n 1000000) (txK r fun l => nM σ (.cells l 9 .more) fun b σ => k (.sl b 0 n n false 1) σ))) r)
theorem srtQ_sm (ks : List Nat) (σ : FH) (k : KV) : Sm (srtQ ks σ k) k (Ja (αH σ) (ks.map unp)) := by
  intro h
  unfold srtQ at h ⊢
  obtain ⟨h1, h2⟩ := K5 h
  rw [h2] at h ⊢
  obtain ⟨r, h3, h4⟩ := srtK_eq ks (fun r => List.rec (motive := fun _ => FR) (k (.o .sl) σ) (fun _ _ _ => Ha r (lnK r fun n => gB (Nat.ble n 1000000) (txK r fun l => nM σ (.cells l 9 .more) fun b σ => k (.sl b 0 n n false 1) σ))) r)
  rw [h4] at h ⊢
  cases r with
  | nil =>
    refine ⟨.o .sl, σ, ?_, rfl⟩
    unfold Ja
    rw [← h3]; rfl
  | cons x t =>
    have h : Ha (x :: t) (lnK (x :: t) fun n => gB (Nat.ble n 1000000) (txK (x :: t) fun l => nM σ (.cells l 9 .more) fun b σ => k (.sl b 0 n n false 1) σ)) ≠ .bad := h
    show ∃ v σ', _ ∧ Ha (x :: t) (lnK (x :: t) fun n => gB (Nat.ble n 1000000) (txK (x :: t) fun l => nM σ (.cells l 9 .more) fun b σ => k (.sl b 0 n n false 1) σ)) = k v σ'
    obtain ⟨g1, g2⟩ := Jd h
    rw [g2] at h ⊢
    rw [lnK_eq, gB_eq] at h ⊢
    cases hb : Nat.ble (x :: t).length 1000000 <;> rw [hb] at h
    · exact absurd rfl h
    rw [cond_true] at h ⊢
    obtain ⟨l, g3, g4⟩ := txK_eq (x :: t) fun l => nM σ (.cells l 9 .more) fun b σ => k (.sl b 0 (x :: t).length (x :: t).length false 1) σ
    rw [g4] at h ⊢
    obtain ⟨g5, σ', g6, g7⟩ := Dp h
    refine ⟨.sl σ.next 0 (x :: t).length (x :: t).length false 1, σ', ?_, g7⟩
    have hlen : (ks.map unp).length = (x :: t).length := by
      have := (D8 (ks.map unp)).length_eq
      rw [← h3, List.length_map] at this; exact this.symm
    unfold Ja
    rw [← h3, List.map_cons]
    simp only
    rw [List.map_cons] at g1 g3
    rw [g1, h1, hlen, hb, g5, g6]
    simp only [αO, αV, g3, List.length_cons, List.length_map]
    rfl
def kFn (f : Fn → List FV → List FV → FR) (v : FV) : FR := FV.rec (motive_1 := fun _ => FR) (motive_2 := fun _ => FR) (fun _ _ => .bad) (fun _ _ => .bad) (fun _ => .bad) (fun _ => .bad) (fun _ _ => .bad) (fun _ _ _ _ _ _ => .bad) (fun _ => .bad) (fun _ => .bad) (fun g a b _ _ => f g a b) (fun _ _ _ => .bad) (fun _ _ => .bad) (fun _ => .bad) (fun _ _ => .bad) (fun _ _ => .bad) (fun _ => .bad) .bad (fun _ _ _ _ => .bad) v
theorem kFn_cases {f : Fn → List FV → List FV → FR} {v : FV} (h : kFn f v ≠ .bad) : ∃ g a b, v = .fn g a b ∧ kFn f v = f g a b := by
  cases v <;> first | exact ⟨_, _, _, rfl, rfl⟩ | exact absurd rfl h
def kFu (f : Nat → FR) (g : Fn) : FR := Fn.rec (motive := fun _ => FR) f (fun _ => .bad) (fun _ _ => .bad) (fun _ _ _ _ => .bad) (fun _ => .bad) g
theorem kFu_cases {f : Nat → FR} {g : Fn} (h : kFu f g ≠ .bad) : ∃ n, g = .func n ∧ kFu f g = f n := by
  cases g <;> first | exact ⟨_, rfl, rfl⟩ | exact absurd rfl h
def kNi (l : List FV) (s : FR) : FR := List.rec (motive := fun _ => FR) s (fun _ _ _ => .bad) l
theorem kNi_cases {l : List FV} {s : FR} (h : kNi l s ≠ .bad) : l = [] ∧ kNi l s = s := by
  cases l
  · exact ⟨rfl, rfl⟩
  · exact absurd rfl h
def kCe (f : List FV → FR) (ob : FObj) : FR := FObj.rec (motive := fun _ => FR) .bad (fun l _ _ => f l) (fun _ _ _ => .bad) (fun _ _ _ _ => .bad) (fun _ => .bad) .bad ob
theorem kCe_cases {f : List FV → FR} {ob : FObj} (h : kCe f ob ≠ .bad) : ∃ l e t, ob = .cells l e t ∧ kCe f ob = f l := by
  cases ob <;> first | exact ⟨_, _, _, rfl, rfl⟩ | exact absurd rfl h
def srMQ (σ : FH) (m : Nat) (k : KV) : FR := gM σ m (kMp fun l => Fq l fun cs => srtQ cs σ k)
def srQ (l : List FV) (σ : FH) (k : KV) : FR := k1L l (kFn fun g a c => kFu (fun q => gB (Nat.beq q 66 || Nat.beq q 66) (kNi a (k1L c (kP fun b o => gM σ b (kCe fun l => nthK l o (kM fun m => srMQ σ m k)))))) g)
theorem srMQ_sm (σ : FH) (m : Nat) (k : KV) : Sm (srMQ σ m k) k (srtM (αH σ) m) := by
  intro h
  unfold srMQ at h ⊢
  obtain ⟨ob, _, h3, h4⟩ := Bz h
  rw [h4] at h ⊢
  obtain ⟨l, rfl, h5⟩ := Ea h
  rw [h5] at h ⊢
  obtain ⟨cs, h6, h7⟩ := Hv h
  rw [h7] at h ⊢
  obtain ⟨v, σ', h8, h9⟩ := srtQ_sm cs σ k h
  refine ⟨v, σ', ?_, h9⟩
  unfold srtM
  rw [h3]
  simp only [αO, h6]
  exact h8
theorem srQ_sm (l : List FV) (σ : FH) (k : KV) : Sm (srQ l σ k) k (srtA (αL l) (αH σ)) := by
  intro h
  unfold srQ at h ⊢
  obtain ⟨x, rfl, h1⟩ := Cp h
  rw [h1] at h ⊢
  obtain ⟨g, a, c, rfl, h2⟩ := kFn_cases h
  rw [h2] at h ⊢
  obtain ⟨q, rfl, h3⟩ := kFu_cases h
  rw [h3] at h ⊢
  rw [gB_eq] at h ⊢
  cases hq : Nat.beq q 66 || Nat.beq q 66 <;> rw [hq] at h
  · exact absurd rfl h
  rw [cond_true] at h ⊢
  obtain ⟨rfl, h4⟩ := kNi_cases h
  rw [h4] at h ⊢
  obtain ⟨y, rfl, h5⟩ := Cp h
  rw [h5] at h ⊢
  obtain ⟨b, o, rfl, h6⟩ := Ek h
  rw [h6] at h ⊢
  obtain ⟨ob, _, h7, h8⟩ := Bz h
  rw [h8] at h ⊢
  obtain ⟨l, e, t, rfl, h9⟩ := kCe_cases h
  rw [h9] at h ⊢
  rw [nthK_eq] at h ⊢
  cases hl : l[o]? <;> rw [hl] at h
  · exact absurd rfl h
  rename_i v
  have h : kM (fun m => srMQ σ m k) v ≠ .bad := h
  show ∃ w σ', _ ∧ kM (fun m => srMQ σ m k) v = k w σ'
  obtain ⟨m, rfl, h10⟩ := Ka h
  rw [h10] at h ⊢
  obtain ⟨v, σ', h11, h12⟩ := srMQ_sm σ m k h
  refine ⟨v, σ', ?_, h12⟩
  rw [← h11]
  simp only [αL, αV, srtA, hq, h7, Option.bind_some, αO, AObj.at, αL_map, List.getElem?_map, hl, Option.map_some, cond_true]
end
end Go.Proofs.YtjoakhpdajlhiaaGreatDoor.V2
namespace Go.Proofs.YtjoakhpdajlhiaaGreatDoor.V2
open Go
open Go.RowKit Go.Maps Go.Sort
theorem srtO_of {ρ : Ren} {σ : AH} {W : World} (hr : HR ρ σ W) {os : List (List UInt8)} (h : (Ja σ os).1 = true) {f : FuncId} {vs : Array Value}
    (hC : Calls Tryz.prog f vs W fun e w' => ∃ (v : Value) (ss : List (List UInt8)), e = .returned v ∧ ss.Perm os ∧
      w'.ownsRow W.heap.size 9 1 v ss.length ((ss.mergeSort (fun x y => decide (x ≤ y))).map encStr) ∧ (v = .slice none 0 0 ↔ ss = []) ∧ Below W.heap.size W w') :
    Calls Tryz.prog f vs W fun e W' => ∃ v ρ', e = .returned v ∧ HR ρ' (Ja σ os).2.2 W' ∧ Stp σ.next ρ σ W ρ' (Ja σ os).2.2 W' ∧ VR ρ' (Ja σ os).2.1 v := by
  unfold Ja at h ⊢
  have hso := D8 os
  cases hS : Hh os with
  | nil =>
    rw [hS] at hso
    refine hC.mono ?_
    rintro e W' ⟨v, ss, rfl, g1, g2, g3, g4⟩
    have : ss = [] := by have := (g1.trans hso.symm).length_eq; simpa using this
    refine ⟨v, ρ, rfl, hr.below g4, .below (Nat.le_refl _) g4, ?_⟩
    unfold VR
    exact g3.2 this
  | cons x t =>
    rw [hS] at h
    simp only [Bool.and_eq_true, Nat.ble_eq, Nat.blt_eq] at h
    obtain ⟨⟨⟨h1, h2⟩, h3⟩, h4⟩ := h
    rw [← hS] at h1
    obtain ⟨i1, i2⟩ := K8 h1
    refine hC.mono ?_
    rintro e W' ⟨v, ss, rfl, g1, g2, g3, g4⟩
    have e1 : ss.mergeSort (fun x y => decide (x ≤ y)) = x :: t := by
      rw [← hS, ← i2]
      exact mergeSort_of_perm g1
    have e2 : ss.length = (x :: t).length := by rw [← hS, hso.length_eq, g1.length_eq]
    rw [e1, e2] at g2
    obtain ⟨ρ', k1, k2, k3⟩ := adopt_strs hr g4 h4 (by simp) g2
    exact ⟨v, ρ', rfl, k1, k2, k3⟩
def wiS (dir : List UInt8) (ks : List (List UInt8)) : Bool := Nat.ble dir.length 1000000 && ks.all fun x => !x.isEmpty && (!decide (J3 x = dir) || Nat.ble (G7 dir []).length x.length)
noncomputable def wiO (σ : AH) (dir : List UInt8) (ks : List (List UInt8)) : Out := bif wiS dir ks && (risS (Hh ks) && shS ks && Nat.ble ks.length 1000000) then Ja σ (D5 dir ks) else bad σ
noncomputable def wiM (σ : AH) (dir : List UInt8) (m : Nat) : Out := match σ.get m with
  | some (.map l) => match G6 l with
    | some ks => wiO σ dir ks
    | none => bad σ
  | _ => bad σ
noncomputable def wiA (args : List AV) (σ : AH) : Out := match args with
  | [.ptr b o, .str dir] => match (σ.get b).bind fun ob => ob.at o with
    | some (.map m) => wiM σ dir m
    | _ => bad σ
  | _ => bad σ
noncomputable def wnF (g : FuncId → List AV → AH → Out) (f : FuncId) (args : List AV) (σ : AH) : Out := bif Nat.beq f 48 then wiA args σ else g f args σ
theorem wnF_ok {Y : List Yl} {g : FuncId → List AV → AH → Out} (hg : FnOk Tryz.prog 3 g Y) : FnOk Tryz.prog 3 (wnF g) Y := by
  intro f args σ h
  unfold wnF at h ⊢
  cases hf : Nat.beq f 48
  case false => rw [hf] at h; rw [cond_false] at h ⊢; exact hg f args σ h
  rw [hf] at h
  simp only [cond_true] at h ⊢
  have e := Nat.eq_of_beq_eq_true hf
  subst e
  refine ⟨⟨_, Tryz.func48, by kernel_rfl, by kernel_rfl⟩, fun ρ W vs _ hG hr hvs => ?_⟩
  unfold wiA at h ⊢
  split at h
  case h_2 => cases h
  rename_i b o dir
  split at h
  case h_2 => cases h
  rename_i m hm
  obtain ⟨ob, hob, hat⟩ := Option.bind_eq_some_iff.1 hm
  obtain ⟨v, mm, rfl, hv, u, mmm, rfl, hu, hmm⟩ := hvs
  have hmm : mmm = [] := hmm
  subst hmm
  unfold VR at hv hu
  subst hu
  obtain ⟨c, d, hc, rfl⟩ := hv
  obtain ⟨_, hcl, ob', ho', hO⟩ := hr.dom b c d hc
  rw [hob] at ho'
  cases ho'
  have hcy : ob.cellsy = true := by cases ob <;> first | rfl | (exact absurd hat (by simp [AObj.at]))
  have hpos : 0 < ob.len := by
    cases ob <;> simp only [AObj.at] at hat
    · cases hat
    · exact Nat.lt_of_le_of_lt (Nat.zero_le _) (List.getElem?_eq_some_iff.1 hat).1
    · obtain ⟨_, h5, _⟩ := Option.map_eq_some_iff.1 hat; exact Nat.lt_of_le_of_lt (Nat.zero_le _) (List.getElem?_eq_some_iff.1 h5).1
    · cases hat
    · cases hat
  obtain ⟨cs, el, fr, hx, _, _, _, hall⟩ := (hO.1 hcy).2 fun _ => hpos
  obtain ⟨u, hu, huv⟩ := hall o _ hat
  unfold VR at huv
  obtain ⟨c2, d2, hc2, rfl⟩ := huv
  have hcell : W.cell? ⟨c, o + d.1, none⟩ = some (.map (some c2)) := by simp [World.cell?, hx, hu]
  obtain ⟨_, _, ob2, ho2, hO2⟩ := hr.dom m c2 d2 hc2
  unfold wiM at h ⊢
  split at h
  case h_2 => cases h
  rename_i l hl
  rw [hl] at ho2
  cases ho2
  cases hk : G6 l <;> simp only [hk] at h ⊢
  · cases h
  rename_i ks
  unfold wiO at h ⊢
  cases hb : wiS dir ks && (risS (Hh ks) && shS ks && Nat.ble ks.length 1000000) <;> rw [hb] at h
  · cases h
  rw [cond_true] at h ⊢
  simp only [Bool.and_eq_true, Nat.ble_eq] at hb
  obtain ⟨hw, ⟨h1, h2⟩, h3⟩ := hb
  obtain ⟨i1, _⟩ := K8 h1
  obtain ⟨D, j1, j2, j3⟩ := own_of (hO2.2 l rfl) hk i1 h2 h3
  unfold wiS at hw
  rw [Bool.and_eq_true, Nat.ble_eq] at hw
  refine srtO_of hr h ((within94 c (o + d.1) c2 ks.length D dir W hcl hcell j1 (by rw [j3]; exact h3) hw.1 fun x hx => ?_).mono ?_)
  · have hx := j2.subset hx
    have a1 := List.all_eq_true.1 hw.2 x hx
    have a2 := List.all_eq_true.1 h2 x hx
    rw [Nat.ble_eq] at a2
    rw [Bool.and_eq_true, Bool.or_eq_true, Nat.ble_eq] at a1
    refine ⟨fun e => (by rw [e] at a1; exact absurd a1.1 (by simp)), a2, fun e => ?_⟩
    rcases a1.2 with h | h
    · rw [decide_eq_true e] at h; cases h
    · exact h
  · rintro e W' ⟨v, ss, rfl, g1, g2, g3, g4⟩
    exact ⟨v, ss, rfl, g1.trans ((j2.filter _).map _), g2, g3, g4⟩
noncomputable section
def pkK (l : List (List UInt8)) (k : List Nat → FR) : FR := List.rec (motive := fun _ => (List Nat → FR) → FR) (fun k => k []) (fun x _ ih k => fN (pack x) fun c => ih fun r => k (c :: r)) l k
theorem pkK_eq : ∀ (l : List (List UInt8)) (k : List Nat → FR), pkK l k = k (l.map pack)
  | [], _ => rfl
  | x :: l, k => by
    show (fN (pack x) fun c => pkK l fun r => k (c :: r)) = _
    rw [Aj, pkK_eq l]; rfl
theorem Kx (l : List (List UInt8)) : (l.map pack).map unp = l := by
  rw [List.map_map]
  conv => rhs; rw [← List.map_id l]
  exact List.map_congr_left fun x _ => As x
def wiOQ (cs : List Nat) (d : Nat) (σ : FH) (k : KV) : FR := gB (wiS (unp d) (cs.map unp)) (shK cs (gB (Nat.ble cs.length 1000000) (srtK cs fun r => Ha r (pkK (D5 (unp d) (cs.map unp)) fun os => srtQ os σ k))))
def wiMQ (σ : FH) (d m : Nat) (k : KV) : FR := gM σ m (kMp fun l => Fq l fun cs => wiOQ cs d σ k)
def wiQ (l : List FV) (σ : FH) (k : KV) : FR := k2L l fun x y => kP (fun b o => kS (fun d => gM σ b (kCe fun l => nthK l o (kM fun m => wiMQ σ d m k))) y) x
theorem wiOQ_sm (cs : List Nat) (d : Nat) (σ : FH) (k : KV) : Sm (wiOQ cs d σ k) k (wiO (αH σ) (unp d) (cs.map unp)) := by
  intro h
  unfold wiOQ at h ⊢
  rw [gB_eq] at h ⊢
  cases hw : wiS (unp d) (cs.map unp) <;> rw [hw] at h
  · exact absurd rfl h
  rw [cond_true] at h ⊢
  obtain ⟨h1, h2⟩ := K5 h
  rw [h2] at h ⊢
  rw [gB_eq] at h ⊢
  cases hl : Nat.ble cs.length 1000000 <;> rw [hl] at h
  · exact absurd rfl h
  rw [cond_true] at h ⊢
  obtain ⟨r, h3, h4⟩ := srtK_eq cs fun r => Ha r (pkK (D5 (unp d) (cs.map unp)) fun os => srtQ os σ k)
  rw [h4] at h ⊢
  obtain ⟨h5, h6⟩ := Jd h
  rw [h6] at h ⊢
  rw [pkK_eq] at h ⊢
  obtain ⟨v, σ', h7, h8⟩ := srtQ_sm _ σ k h
  refine ⟨v, σ', ?_, h8⟩
  unfold wiO
  rw [hw, ← h3, h5, h1, List.length_map, hl]
  rw [Kx] at h7
  exact h7
theorem wiQ_sm (l : List FV) (σ : FH) (k : KV) : Sm (wiQ l σ k) k (wiA (αL l) (αH σ)) := by
  intro h
  unfold wiQ at h ⊢
  obtain ⟨x, y, rfl, h1⟩ := B7 h
  rw [h1] at h ⊢
  obtain ⟨b, o, rfl, h6⟩ := Ek h
  rw [h6] at h ⊢
  obtain ⟨d, rfl, h5⟩ := C2 h
  rw [h5] at h ⊢
  obtain ⟨ob, _, h7, h8⟩ := Bz h
  rw [h8] at h ⊢
  obtain ⟨l, e, t, rfl, h9⟩ := kCe_cases h
  rw [h9] at h ⊢
  rw [nthK_eq] at h ⊢
  cases hl : l[o]? <;> rw [hl] at h
  · exact absurd rfl h
  rename_i v
  have h : kM (fun m => wiMQ σ d m k) v ≠ .bad := h
  show ∃ w σ', _ ∧ kM (fun m => wiMQ σ d m k) v = k w σ'
  obtain ⟨m, rfl, h10⟩ := Ka h
  rw [h10] at h ⊢
  unfold wiMQ at h ⊢
  obtain ⟨ob2, _, g3, g4⟩ := Bz h
  rw [g4] at h ⊢
  obtain ⟨l2, rfl, g5⟩ := Ea h
  rw [g5] at h ⊢
  obtain ⟨cs, g6, g7⟩ := Hv h
  rw [g7] at h ⊢
  obtain ⟨v, σ', g8, g9⟩ := wiOQ_sm cs d σ k h
  refine ⟨v, σ', ?_, g9⟩
  rw [← g8]
  simp only [αL, αV, wiA, h7, Option.bind_some, αO, AObj.at, αL_map, List.getElem?_map, hl, Option.map_some, wiM, g3, g6]
end
end Go.Proofs.YtjoakhpdajlhiaaGreatDoor.V2
namespace Go.Proofs.YtjoakhpdajlhiaaGreatDoor.V2.S
open Go
set_option maxRecDepth 100000
set_option maxHeartbeats 4000000
set_option linter.unusedVariables false
attribute [local irreducible] fN fO nM gM pM Phi.fn mp bl Au Be Bh pack
theorem ltC_pack (a b : Bs) (t s : FR) : ltC (pack a) (pack b) t s = if a < b then t else s := by
  rw [ltC_eq, As, As]
  by_cases h : a < b
  · rw [if_pos h, decide_eq_true h]; rfl
  · rw [if_neg h, decide_eq_false h]; rfl
theorem insK_pack (x : Bs) : ∀ (l : List Bs) (k : List Nat → FR), insK (pack x) (l.map pack) k = k ((Hx x l).map pack)
  | [], k => rfl
  | y :: l, k => by
    show ltC (pack y) (pack x) (insK (pack x) (l.map pack) fun r => k (pack y :: r)) (k (pack x :: pack y :: l.map pack)) = _
    rw [ltC_pack, insK_pack x l, Hx]
    by_cases h : y < x
    · rw [if_pos h, if_pos h]; rfl
    · rw [if_neg h, if_neg h]; rfl
theorem F5 : ∀ (l : List Bs) (k : List Nat → FR), srtK (l.map pack) k = k ((Db l).map pack)
  | [], k => rfl
  | x :: l, k => by
    show srtK (l.map pack) (fun r => insK (pack x) r k) = _
    rw [F5 l, insK_pack]; rfl
theorem Hj : ∀ (l : List Bs) (s : FR), (∀ x ∈ l, x.length ≤ 1000000) → shK (l.map pack) s = s
  | [], s, _ => rfl
  | x :: l, s, h => by
    show gB (Nat.ble (bl (pack x)) 1000000) (shK (l.map pack) s) = s
    rw [Ci, A8 (h x List.mem_cons_self), Hj l s fun y hy => h y (List.mem_cons_of_mem _ hy)]; rfl
theorem txK_pack : ∀ (l : List Bs) (k : List FV → FR), txK (l.map pack) k = k (vsL l)
  | [], k => rfl
  | x :: l, k => by
    show txK (l.map pack) (fun r => k (.s (pack x) :: r)) = _
    rw [txK_pack l]; rfl
theorem Gv : ∀ (L : List En) (k : List Nat → FR), Fq (L.map fun a => (.s (pack (En.path a)), Eb a)) k = k ((L.map En.path).map pack)
  | [], k => rfl
  | e :: L, k => by
    show Fq (L.map fun a => (.s (pack (En.path a)), Eb a)) (fun r => k (pack e.path :: r)) = _
    rw [Gv L]; rfl
theorem Lj {a b : Bs} (h : ¬ b < a) (hne : a ≠ b) : a < b := by
  rcases Std.lt_trichotomy a b with h1 | h1 | h1
  · exact h1
  · exact absurd h1 hne
  · exact absurd h1 h
theorem insB_mem {x z : Bs} : ∀ {l : List Bs}, z ∈ Hx x l → z = x ∨ z ∈ l
  | [], h => .inl (by simpa [Hx] using h)
  | y :: l, h => by
    unfold Hx at h
    split at h
    · rcases List.mem_cons.1 h with h | h
      · exact .inr (h ▸ List.mem_cons_self)
      · rcases insB_mem h with h | h
        · exact .inl h
        · exact .inr (List.mem_cons_of_mem _ h)
    · rcases List.mem_cons.1 h with h | h
      · exact .inl h
      · exact .inr h
theorem insB_pw {x : Bs} : ∀ {l : List Bs}, l.Pairwise (· < ·) → x ∉ l → (Hx x l).Pairwise (· < ·)
  | [], _, _ => by simp [Hx]
  | y :: l, h, hx => by
    have h1 := List.pairwise_cons.1 h
    unfold Hx
    split
    · rename_i hlt
      refine List.pairwise_cons.2 ⟨fun z hz => ?_, insB_pw h1.2 fun hm => hx (List.mem_cons_of_mem _ hm)⟩
      rcases insB_mem hz with rfl | hz
      · exact hlt
      · exact h1.1 z hz
    · rename_i hlt
      have hxy : x < y := Lj hlt fun e => hx (e ▸ List.mem_cons_self)
      refine List.pairwise_cons.2 ⟨fun z hz => ?_, h⟩
      rcases List.mem_cons.1 hz with rfl | hz
      · exact hxy
      · exact List.lt_trans hxy (h1.1 z hz)
theorem sortB_mem {z : Bs} : ∀ {l : List Bs}, z ∈ Db l → z ∈ l
  | [], h => h
  | x :: l, h => by
    rcases insB_mem (show z ∈ Hx x (Db l) from h) with h | h
    · exact h ▸ List.mem_cons_self
    · exact List.mem_cons_of_mem _ (sortB_mem h)
theorem Da : ∀ {l : List Bs}, l.Nodup → (Db l).Pairwise (· < ·)
  | [], _ => List.Pairwise.nil
  | x :: l, h => by
    have h1 := List.nodup_cons.1 h
    exact insB_pw (Da h1.2) fun hm => h1.1 (sortB_mem hm)
theorem F9 : ∀ {l : List Bs} (s : FR), l.Pairwise (· < ·) → Ha (l.map pack) s = s
  | [], s, _ => rfl
  | [x], s, _ => rfl
  | x :: y :: l, s, h => by
    have h1 := List.pairwise_cons.1 h
    show ltC (pack x) (pack y) (Ha ((y :: l).map pack) s) .bad = s
    rw [ltC_pack, if_pos (h1.1 y List.mem_cons_self), F9 s h1.2]
end Go.Proofs.YtjoakhpdajlhiaaGreatDoor.V2.S
namespace Go.Proofs.YtjoakhpdajlhiaaGreatDoor.V2.S
open Go
set_option maxRecDepth 100000
set_option maxHeartbeats 4000000
set_option linter.unusedVariables false
attribute [local irreducible] fN fO nM gM pM Phi.fn Phi.yl Phi.up mp bl Au Be Bh pack
theorem srtQ_pack {L : List En} {n : Nat} {m : T FObj} {k : KV} (hnd : (L.map En.path).Nodup) (hl : L.length ≤ 1000) (hp : ∀ e ∈ L, e.path.length ≤ 1000000) (hn : n < 1000000) :
    srtQ ((L.map En.path).map pack) ⟨n, m⟩ k = if L = [] then k (.o .sl) ⟨n, m⟩ else k (.sl n 0 L.length L.length false 1) ⟨n + 1, mp m n (.cells (vsL (Db (L.map En.path))) 9 .more)⟩ := by
  have hlen := sortB_len L
  show shK ((L.map En.path).map pack) (srtK ((L.map En.path).map pack) fun r => List.rec (motive := fun _ => FR) (k (.o .sl) ⟨n, m⟩) (fun _ _ _ => Ha r (lnK r fun q => gB (Nat.ble q 1000000) (txK r fun l => nM ⟨n, m⟩ (.cells l 9 .more) fun b σ => k (.sl b 0 q q false 1) σ))) r) = _
  rw [Hj _ _ fun x hx => by obtain ⟨e, he, rfl⟩ := List.mem_map.1 hx; exact hp e he, F5]
  cases hs : Db (L.map En.path) with
  | nil =>
    have : L = [] := by rw [hs] at hlen; exact List.length_eq_zero_iff.1 hlen.symm
    rw [if_pos this]; rfl
  | cons x r =>
    have : L ≠ [] := fun h => by subst h; rw [hs] at hlen; cases hlen
    rw [if_neg this]
    show Ha ((x :: r).map pack) (lnK ((x :: r).map pack) fun q => gB (Nat.ble q 1000000) (txK ((x :: r).map pack) fun l => nM ⟨n, m⟩ (.cells l 9 .more) fun b σ => k (.sl b 0 q q false 1) σ)) = _
    rw [F9 _ (hs ▸ Da hnd), lnK_eq, List.length_map, ← hs, hlen, A8 (by omega), txK_pack]
    show (nM ⟨n, m⟩ (.cells (vsL (Db (L.map En.path))) 9 .more) fun b σ => k (.sl b 0 L.length L.length false 1) σ) = _
    rw [Dl hn]
theorem keys_s {O : Oz} (hO : O = zO) (Φ Φ1 : Phi) (H30 : Phi.fn Φ 57 = p57 O Φ1) (H29 : Phi.fn Φ 56 = srQ) : KeysS Φ := fun {mb L n m} ha hb hnd hl hp k P hn hf => by
  have key : ∀ (b : Nat) (n' : Nat) (m' : T FObj) (e : TypeId) (tl : Tl), n ≤ n' → n' ≤ n + 1 → Kp n m m' → Am m' b (.cells [.m mb] e tl) → Am m' mb (.map (L.map fun a => (.s (pack (En.path a)), Eb a))) → srQ [.fn (.func 66) [] [.p b 0]] ⟨n', m'⟩ k = P := fun b n' m' e tl h1 h2 hk hb2 hm2 => by
    show (gM ⟨n', m'⟩ b (kCe fun l => nthK l 0 (kM fun q => srMQ ⟨n', m'⟩ q k))) = P
    rw [Cx hb2]
    show gM ⟨n', m'⟩ mb (kMp fun l => Fq l fun cs => srtQ cs ⟨n', m'⟩ k) = P
    rw [Cx hm2]
    show Fq (L.map fun a => (.s (pack (En.path a)), Eb a)) (fun cs => srtQ cs ⟨n', m'⟩ k) = P
    rw [Gv, srtQ_pack hnd hl hp (by omega)]
    split
    · rename_i h0; exact hf _ _ _ h1 (by omega) hk (fun _ => rfl) (fun h => absurd h0 h)
    · rename_i h0; exact hf _ _ _ (by omega) (by omega) kQ (fun h => absurd h h0) (fun _ => ⟨n', rfl, h1, by omega, Ap (by omega)⟩)
  rw [H30]
  repeat' ((conv => lhs; whnf); first | ((with_reducible refine fa0 hO ?_)) | ((with_reducible refine faN hO ?_)) | ((with_reducible refine Br ?_); first | refine ldC hO aQ (by rfl) ?_ | refine ldB hO aQ (by omega) ?_ | refine ldI hO aQ (by rfl) ?_ | refine uld hO ?_) | (((with_reducible refine lsS hO ?_); try simp only [List.length_cons, List.length_nil, Nat.zero_add])) | ((with_reducible refine lvS hO ?_)) | ((with_reducible refine lvN hO ?_)) | ((with_reducible refine ltT hO (by omega) ?_)) | ((with_reducible refine ltF hO (by omega) ?_)) | ((with_reducible refine ltB hO (fun h => ?_) (fun h => ?_))) | ((with_reducible refine leT hO (by omega) ?_)) | ((with_reducible refine leF hO (by omega) ?_)) | ((with_reducible refine leB hO (fun h => ?_) (fun h => ?_))) | ((with_reducible refine gtT hO (by omega) ?_)) | ((with_reducible refine gtF hO (by omega) ?_)) | ((with_reducible refine gtB hO (fun h => ?_) (fun h => ?_))) | ((with_reducible refine geT hO (by omega) ?_)) | ((with_reducible refine geF hO (by omega) ?_)) | ((with_reducible refine geB hO (fun h => ?_) (fun h => ?_))) | ((with_reducible refine eqT hO (by omega) ?_)) | ((with_reducible refine eqF hO (by omega) ?_)) | ((with_reducible refine eqB hO (fun h => ?_) (fun h => ?_))) | ((with_reducible refine neT hO (by omega) ?_)) | ((with_reducible refine neF hO (by omega) ?_)) | ((with_reducible refine neB hO (fun h => ?_) (fun h => ?_))) | ((with_reducible refine eqST hO (by first | rfl | assumption) ?_)) | ((with_reducible refine eqSF hO (by first | assumption | decide) ?_)) | ((with_reducible refine Ly hO (fun h => ?_) (fun h => ?_))) | ((with_reducible refine neSF hO (by first | rfl | assumption) ?_)) | ((with_reducible refine neST hO (by first | assumption | decide) ?_)) | ((with_reducible refine neSB hO (fun h => ?_) (fun h => ?_))) | ((with_reducible refine adI hO (by omega) ?_)) | ((with_reducible refine adS hO (by first | omega | (simp only [List.length_cons, List.length_nil, List.length_append]; omega)) ?_)) | ((with_reducible refine sbI hO (by omega) (by omega) ?_)) | ((with_reducible refine sbZ hO (by omega) (by omega) ?_)) | ((with_reducible refine rmI hO (by omega) ?_)) | ((with_reducible refine quI hO (by omega) (by omega) ?_)) | ((with_reducible refine mtI hO (by omega) ?_)) | ((with_reducible refine cvI hO (by omega) ?_)) | ((with_reducible refine cvB hO (by omega) ?_)) | ((with_reducible refine mnI hO ?_)) | ((with_reducible refine mxI hO ?_)) | ((with_reducible refine ix01 hO (by omega) ?_)) | ((with_reducible refine ix0 hO (by omega) ?_)) | ((with_reducible refine ix1 hO (by omega) ?_)) | ((with_reducible refine ixN hO (by omega) ?_)) | ((with_reducible refine txS hO (by first | omega | decide) ?_)) | ((with_reducible refine ssH hO (by omega) ?_)) | ((with_reducible refine ssL hO (by omega) ?_)) | ((with_reducible refine ssB hO (by omega) (by omega) ?_)) | ((with_reducible refine svH hO (by omega) ?_)) | ((with_reducible refine svL hO (by omega) ?_)) | ((with_reducible refine svB hO (by omega) (by omega) ?_)) | ((with_reducible refine Hc ?_); first | refine stC hO aQ (by kernel_rfl) (fun _ _ _ => rfl) (fun _ => rfl) ?_ | refine ust hO ?_) | ((with_reducible refine alO hO (by omega) ?_)) | ((with_reducible refine atBx ?_); first | refine bxS hO (by omega) ?_ | refine bxSl hO (by omega) ?_ | refine bxI hO (by omega) ?_ | refine bxA hO (by omega) (by simp only [αL, αV, AObj.of, Cv, βO, βL, βV, As]) ?_ | refine ubx hO ?_) | ((with_reducible refine atLk ?_); first | refine lkS hO aQ (fun a hla => ?_) (fun hla => ?_) | refine lkS1 hO aQ (fun a hla => ?_) (fun hla => ?_)) | ((with_reducible refine atMu ?_); first | refine muS hO aQ (by rfl) (by rfl) ?_) | ((with_reducible refine atMd ?_); first | refine mdS hO aQ ?_) | ((with_reducible refine sBS hO (by omega) ?_)) | ((with_reducible refine rcE hO (by kernel_rfl) rfl ?_)) | ((with_reducible first | refine umt hO ?_ | refine uqu hO ?_ | refine urm hO ?_ | refine uan hO ?_ | refine uro hO ?_ | refine uxr hO ?_ | refine uhl hO ?_ | refine uhr hO ?_ | refine uad hO ?_ | refine usb hO ?_ | refine ult hO ?_ | refine ule hO ?_ | refine ugt hO ?_ | refine uge hO ?_ | refine ueq hO ?_ | refine une hO ?_ | refine ucv hO ?_ | refine uia hO ?_ | refine usv hO ?_ | refine ubu hO ?_ | refine uap hO ?_ | refine ubs hO ?_ | refine umm hO ?_ | refine upq hO ?_ | refine unq hO ?_ | refine uln hO ?_)) | (with_reducible refine (Aj _ _).trans ?_) | (with_reducible refine (Dl (by omega)).trans ?_) | (with_reducible refine pM_mp.trans ?_) | (refine Hy aQ ?_) | (with_reducible refine (Gf _ _).trans ?_) | (((with_reducible refine atB ?_); first | refine brecBT (by omega) ?_ | refine brecBF (by omega) ?_ | refine brecB (fun h => ?_) (fun h => ?_) | refine brecT (by assumption) ?_ | refine brecF (by assumption) ?_ | refine brec (fun h => ?_) (fun h => ?_))))
  all_goals (conv => lhs; whnf)
  all_goals first
    | (refine A4 ?_; rw [H29]; exact key _ _ _ _ _ (by omega) (by omega) kQ aQ aQ)
end Go.Proofs.YtjoakhpdajlhiaaGreatDoor.V2.S
namespace Go.Proofs.YtjoakhpdajlhiaaGreatDoor.V2.S
open Go
set_option maxRecDepth 100000
set_option maxHeartbeats 4000000
set_option linter.unusedVariables false
attribute [local irreducible] fN fO nM gM pM Phi.fn mp bl Au Be Bh pack
theorem hasSuf_spec {d : Bs} (h : Dg d [47] = true) : d = d.take (d.length - 1) ++ [47] := by
  unfold Dg at h
  rw [Bool.and_eq_true, decide_eq_true_iff, decide_eq_true_iff] at h
  have h2 : d.drop (d.length - 1) = [47] := h.2
  rw [← h2, List.take_append_drop]
theorem La {x d : Bs} (hx : x.head? = some 47) (hd : C9 x = d) : (Bt d []).length ≤ x.length ∧ x.take (Bt d []).length = Bt d [] := by
  have hxl : 1 ≤ x.length := by
    cases x with
    | nil => cases hx
    | cons c l => exact Nat.succ_le_succ (Nat.zero_le _)
  have hle := Ht x
  have hdl : d.length ≤ x.length := by rw [← hd]; exact Mz x
  have hdt : x.take d.length = d := by
    rw [← hd]; unfold C9
    rw [List.length_take, List.take_eq_take_iff]; omega
  cases hs : Dg d [47] with
  | true =>
    have hj : Bt d [] = d := by
      unfold Bt Eg
      rw [if_pos hs, List.append_nil]; exact (hasSuf_spec hs).symm
    rw [hj]; exact ⟨hdl, hdt⟩
  | false =>
    have hj : Bt d [] = d ++ [47] := by
      unfold Bt Eg
      rw [if_neg (by rw [hs]; simp), List.append_nil]
    by_cases h0 : lastS x - 1 ≤ 1
    · exfalso
      have : d = [47] := by
        rw [← hd]; unfold C9
        rw [Nat.max_eq_right h0]
        cases x with
        | nil => cases hx
        | cons c l => simp at hx; subst hx; rfl
      rw [this] at hs; exact absurd hs (by decide)
    · have hdl2 : d.length = lastS x - 1 := by
        rw [← hd]; unfold C9
        rw [List.length_take]; omega
      obtain ⟨h1, _⟩ := Il (l := x) (by omega)
      rw [hj, List.length_append, List.length_singleton]
      refine ⟨by omega, ?_⟩
      rw [List.take_add_one, hdt, hdl2, h1]; rfl
def C1 (d : Bs) (l : List Bs) : List Bs := (l.filter fun x => decide (C9 x = d)).map fun x => x.drop (Bt d []).length
theorem outG_nd {d : Bs} : ∀ {l : List Bs}, l.Nodup → (∀ x ∈ l, x.head? = some 47) → (C1 d l).Nodup := fun {l} hn hh => by
  unfold C1
  refine List.Pairwise.map _ (fun x y h => h) ?_ |> fun h => h
  exact (hn.filter _).imp_of_mem fun {x y} hx hy hne e => hne (by
    obtain ⟨hx1, hx2⟩ := List.mem_filter.1 hx
    obtain ⟨hy1, hy2⟩ := List.mem_filter.1 hy
    have e1 := (La (hh x hx1) (of_decide_eq_true hx2)).2
    have e2 := (La (hh y hy1) (of_decide_eq_true hy2)).2
    rw [← List.take_append_drop (Bt d []).length x, ← List.take_append_drop (Bt d []).length y, e1, e2, e])
end Go.Proofs.YtjoakhpdajlhiaaGreatDoor.V2.S
namespace Go.Proofs.YtjoakhpdajlhiaaGreatDoor.V2.S
open Go
set_option maxRecDepth 100000
set_option maxHeartbeats 4000000
set_option linter.unusedVariables false
attribute [local irreducible] fN fO nM gM pM Phi.fn mp bl Au Be Bh pack
theorem insB_len (x : Bs) : ∀ l : List Bs, (Hx x l).length = l.length + 1
  | [] => rfl
  | y :: l => by
    unfold Hx
    split
    · rw [List.length_cons, insB_len x l]; rfl
    · rfl
theorem Ev : ∀ l : List Bs, (Db l).length = l.length
  | [] => rfl
  | x :: l => by rw [Db, insB_len, Ev l]; rfl
theorem srtQ_bs {L : List Bs} {n : Nat} {m : T FObj} {k : KV} (hnd : L.Nodup) (hl : L.length ≤ 1000) (hp : ∀ e ∈ L, e.length ≤ 1000000) (hn : n < 1000000) :
    srtQ (L.map pack) ⟨n, m⟩ k = if L = [] then k (.o .sl) ⟨n, m⟩ else k (.sl n 0 L.length L.length false 1) ⟨n + 1, mp m n (.cells (vsL (Db L)) 9 .more)⟩ := by
  have hlen := Ev L
  show shK (L.map pack) (srtK (L.map pack) fun r => List.rec (motive := fun _ => FR) (k (.o .sl) ⟨n, m⟩) (fun _ _ _ => Ha r (lnK r fun q => gB (Nat.ble q 1000000) (txK r fun l => nM ⟨n, m⟩ (.cells l 9 .more) fun b σ => k (.sl b 0 q q false 1) σ))) r) = _
  rw [Hj _ _ hp, F5]
  cases hs : Db L with
  | nil =>
    have : L = [] := by rw [hs] at hlen; exact List.length_eq_zero_iff.1 hlen.symm
    rw [if_pos this]; rfl
  | cons x r =>
    have : L ≠ [] := fun h => by subst h; cases hs
    rw [if_neg this]
    show Ha ((x :: r).map pack) (lnK ((x :: r).map pack) fun q => gB (Nat.ble q 1000000) (txK ((x :: r).map pack) fun l => nM ⟨n, m⟩ (.cells l 9 .more) fun b σ => k (.sl b 0 q q false 1) σ)) = _
    rw [F9 _ (hs ▸ Da hnd), lnK_eq, List.length_map, ← hs, hlen, A8 (by omega), txK_pack]
    show (nM ⟨n, m⟩ (.cells (vsL (Db L)) 9 .more) fun b σ => k (.sl b 0 L.length L.length false 1) σ) = _
    rw [Dl hn]
theorem outS_out (d : Bs) (l : List Bs) : D5 d l = C1 d l := by
  unfold D5 C1
  have e1 : (fun x : Bs => decide (J3 x = d)) = fun x => decide (C9 x = d) := funext fun x => by rw [show J3 x = C9 x from par_eq x]
  rw [e1, show G7 d [] = Bt d [] from join_eq d []]
theorem out_none {t : Tr} {d : Bs} : C1 d (t.L.map En.path) = [] ↔ Bk t d = false := by
  unfold C1 Bk
  rw [List.map_eq_nil_iff, List.filter_eq_nil_iff, List.any_eq_false]
  constructor
  · intro h e he; exact h e.path (List.mem_map.2 ⟨e, he, rfl⟩)
  · intro h x hx
    obtain ⟨e, he, rfl⟩ := List.mem_map.1 hx
    exact h e he
theorem wi_s : WithinS wiQ := fun {tb mb t n m} hT htb hmb hW d hdl k P hn hf => by
  show (gM ⟨n, m⟩ tb (kCe fun l => nthK l 0 (kM fun q => wiMQ ⟨n, m⟩ (pack d) q k))) = P
  rw [Cx hT.s]
  show gM ⟨n, m⟩ mb (kMp fun l => Fq l fun cs => wiOQ cs (pack d) ⟨n, m⟩ k) = P
  rw [Cx hT.m]
  show Fq (t.L.map fun a => (.s (pack (En.path a)), Eb a)) (fun cs => wiOQ cs (pack d) ⟨n, m⟩ k) = P
  rw [Gv]
  have hpl : ∀ x ∈ t.L.map En.path, x.head? = some 47 ∧ x.length ≤ 256 := fun x hx => by
    obtain ⟨e, he, rfl⟩ := List.mem_map.1 hx
    exact ⟨hW.hd e he, (hW.pl e he).1⟩
  have hnd := outG_nd (d := d) hW.nd fun x hx => (hpl x hx).1
  have hol : (C1 d (t.L.map En.path)).length ≤ 128 := by
    unfold C1
    rw [List.length_map]
    exact Nat.le_trans (List.length_filter_le _ _) (by rw [List.length_map]; exact hW.len)
  have hop : ∀ x ∈ C1 d (t.L.map En.path), x.length ≤ 1000000 := fun x hx => by
    unfold C1 at hx
    obtain ⟨y, hy, rfl⟩ := List.mem_map.1 hx
    have := (hpl y (List.mem_filter.1 hy).1).2
    rw [List.length_drop]; omega
  have hu : ((t.L.map En.path).map pack).map unp = t.L.map En.path := Kx _
  have hwi : wiS d (t.L.map En.path) = true := by
    unfold wiS
    rw [Bool.and_eq_true]
    refine ⟨A8 (by omega), List.all_eq_true.2 fun x hx => ?_⟩
    obtain ⟨h1, h2⟩ := hpl x hx
    have hne : x.isEmpty = false := by
      cases x with
      | nil => cases h1
      | cons c l => rfl
    rw [hne]
    show (true && (!decide (J3 x = d) || Nat.ble (G7 d []).length x.length)) = true
    rw [Bool.true_and]
    by_cases hp : J3 x = d
    · rw [decide_eq_true hp, show G7 d [] = Bt d [] from join_eq d [], A8 (La h1 ((par_eq x).symm.trans hp)).1]; rfl
    · rw [decide_eq_false hp]; rfl
  have hsp := Da hW.nd
  show gB (wiS (unp (pack d)) (((t.L.map En.path).map pack).map unp)) (shK ((t.L.map En.path).map pack) (gB (Nat.ble ((t.L.map En.path).map pack).length 1000000) (srtK ((t.L.map En.path).map pack) fun r => Ha r (pkK (D5 (unp (pack d)) (((t.L.map En.path).map pack).map unp)) fun os => srtQ os ⟨n, m⟩ k)))) = P
  rw [As, hu, hwi, Hj _ _ fun x hx => by have := (hpl x hx).2; omega, List.length_map, List.length_map, A8 (by have := hW.len; omega), F5, F9 _ hsp, pkK_eq, outS_out, srtQ_bs hnd (by omega) hop (by omega)]
  show (if C1 d (t.L.map En.path) = [] then k (.o .sl) ⟨n, m⟩ else _) = P
  split
  · rename_i h0; exact hf _ _ _ (by omega) (by omega) (Kp.refl _ _) (fun _ => rfl) (fun h => by rw [out_none.1 h0] at h; cases h)
  · rename_i h0
    exact hf _ _ _ (by omega) (by omega) kQ (fun h => absurd (out_none.2 h) h0) (fun _ => ⟨n, _, List.length_pos_iff.2 h0, by omega, rfl⟩)
end Go.Proofs.YtjoakhpdajlhiaaGreatDoor.V2.S
namespace Go.Proofs.YtjoakhpdajlhiaaGreatDoor.V2.S
open Go
set_option linter.unusedVariables false
noncomputable section
def p36 (O : Oz) : Phi → HF := fnQ (Aw fun v1 => (Bc (cWr X2 (.o .sl) (Aa (Ad 13 [(rdV v1)]) fun v2 => (Ai (Af (rdV v2) (cWr X2 (.o .sl) Ao) Ab) (Aa (o1 ncF (rdV v1)) fun v3 => (Aa (o1 (O.fa 1) (rdV v3)) fun v4 => (Aa (m1 O.ld (rdV v4)) fun v5 => (Aa (o1 ncF (rdV v1)) fun v6 => (Aa (o1 (O.fa 0) (rdV v6)) fun v7 => (Aa (m1 O.ld (rdV v7)) fun v8 => (Aa (n0Z O.al (.cells [.o .sl] 67 .exact)) fun v9 => (Aa (Ad 53 [(rdV v5)]) fun v10 => (cRz O.rc (m1 O.ld (rdV v7)) v8 (Aa (m1 O.ml (rdV v8)) fun v11 => (Aa (Ad 54 [(rdV v11)]) fun v12 => (Aa (n2 (O.ap 5 false 1) (rdV v10) (rdV v12)) fun v13 => (Aa (n2 (O.st 1) (rdV v9) (rdV v13)) fun v14 => (Aa (nL (mfG (.func 38) 1) [(rdV v1)]) fun v15 => (Ai (Bo 0 (Ai (cRf (rdV v15) [X22] (cLetW (n0Z O.al (.cells [.s (pack []), .b false, .s (pack [])] 45 .exact)) X4 fun v16 => (cDo (n2 (O.st 3) (rdV v16) R22) Ab)) (Ai (Bo 1 (cWr X5 (.n .i64 2) (Aa (o1 (O.fa 1) R4) fun v17 => (Aa (m1 O.ld (rdV v17)) fun v18 => (Ai (Af (rdV v18) (cWr X5 (.n .i64 1) Ab) Ab) (Aa (m1 O.ld (rdV v9)) fun v19 => (Aa (oV R5) fun v20 => (Aa (o1 (O.cv .u8) (rdV v20)) fun v21 => (Aa (nL (O.bs 5 1 1) [(rdV v21)]) fun v22 => (Aa (o1 (O.fa 0) R4) fun v23 => (Aa (m1 O.ld (rdV v23)) fun v24 => (Aa (n2 (O.ap 5 false 1) (rdV v19) (rdV v22)) fun v25 => (cRz O.rc (m1 O.ld (rdV v23)) v24 (Aa (Ad 53 [(rdV v24)]) fun v26 => (Aa (n2 (O.ap 5 false 1) (rdV v25) (rdV v26)) fun v27 => (Aa (n2 (O.st 1) (rdV v9) (rdV v27)) fun v28 => (Aa (o1 (O.fa 1) R4) fun v29 => (Aa (m1 O.ld (rdV v29)) fun v30 => (Aa (o1 Mp (rdV v30)) fun v31 => (Ai (Af (rdV v31) (Aa (m1 O.ld (rdV v9)) fun v32 => (Aa (o1 (O.fa 2) R4) fun v33 => (Aa (m1 O.ld (rdV v33)) fun v34 => (Aa (Ad 53 [(rdV v34)]) fun v35 => (cRz O.rc (m1 O.ld (rdV v9)) v32 (Aa (n2 (O.ap 5 false 1) (rdV v32) (rdV v35)) fun v36 => (Aa (n2 (O.st 1) (rdV v9) (rdV v36)) fun v37 => Ab))))))) Ab) Ab)))))))))))))))))))) Ab)) Ab)) (Aa (m1 O.ld (rdV v9)) fun v38 => (cWr X2 v38 Ao)))))))))))))))))))) [vT R2]))
theorem k36 : QeOk ⟨36, eZ Tryz.f36, p36 zO⟩ := qz 43 1 [2, 4, 5, 22] Tryz.func36 (by kernel_rfl) (by kernel_rfl)
def p53 (O : Oz) : Phi → HF := fnQ (Aw fun v1 => (Bc (cWr X2 (.o .sl) (Aa (o1 O.ls (rdV v1)) fun v2 => (Aa (Ad 54 [(rdV v2)]) fun v3 => (Aa (n2 (O.ap 5 true 1) (rdV v3) (rdV v1)) fun v4 => (cWr X2 v4 Ao))))) [vT R2]))
theorem k53 : QeOk ⟨53, eZ Tryz.f53, p53 zO⟩ := qz 8 1 [2] Tryz.func53 (by kernel_rfl) (by kernel_rfl)
def p54 (O : Oz) : Phi → HF := fnQ (Aw fun v1 => (Bc (cWr X2 (.o .sl) (Aa (o2 O.hr (rdV v1) (rdV (.n .u64 8))) fun v2 => (Aa (o1 (O.cv .u8) (rdV v2)) fun v3 => (Aa (o1 (O.cv .u8) (rdV v1)) fun v4 => (Aa (nL (O.bs 5 1 2) [(rdV v3), (rdV v4)]) fun v5 => (cWr X2 v5 Ao)))))) [vT R2]))
theorem k54 : QeOk ⟨54, eZ Tryz.f54, p54 zO⟩ := qz 9 1 [2] Tryz.func54 (by kernel_rfl) (by kernel_rfl)
def p7 (O : Oz) : Phi → HF := fnQ (Aw fun v1 => (Bc (cWr X2 (.o .ptr) (Aa (Ad 13 [(rdV v1)]) fun v2 => (Ai (Af (rdV v2) (cWr X2 (.o .ptr) Ao) Ab) (Aa (o1 ncF (rdV v1)) fun v3 => (Aa (o1 (O.fa 0) (rdV v3)) fun v4 => (Aa (m1 O.ld (rdV v4)) fun v5 => (Aa (o1 ncF (rdV v1)) fun v6 => (Aa (o1 (O.fa 1) (rdV v6)) fun v7 => (Aa (m1 O.ld (rdV v7)) fun v8 => (Aa (Ad 14 [(rdV v5)]) fun v9 => (cRz O.rc (m1 O.ld (rdV v7)) v8 (Aa (nL (O.bu [.o .map, .s (pack [])] [.nilmap, (.str [])] [(0, 1), (1, 1)]) [(rdV v9), (rdV v8)]) fun v10 => (Aa (n1 (O.bx 39) (rdV v10)) fun v11 => (cWr X2 v11 Ao)))))))))))))) [vT R2]))
theorem k7 : QeOk ⟨7, eZ Tryz.f7, p7 zO⟩ := qz 16 1 [2] Tryz.func7 (by kernel_rfl) (by kernel_rfl)
def p27 (O : Oz) : Phi → HF := fnQ (Aw fun v1 => (Aw fun v2 => (Bc (cWr X4 (.o .sl) (cWr X5 (.n .i64 0) (Aa (Ad 18 [(rdV v1), (rdV v2), (rdV (.n .i64 1))]) fun v3 => (Aa (o1 (exG 0) (rdV v3)) fun v4 => (Aa (o1 (exG 1) (rdV v3)) fun v5 => (Aa (o2 O.ne (rdV v5) (rdV (.n .i64 0))) fun v6 => (Ai (Af (rdV v6) (cWr X4 (.o .sl) (cWr X5 v5 Ao)) Ab) (Aa (Ad 48 [(rdV v1), (rdV v4)]) fun v7 => (cWr X4 v7 (cWr X5 (.n .i64 0) Ao)))))))))) [vT R4, vT R5])))
theorem k27 : QeOk ⟨27, eZ Tryz.f27, p27 zO⟩ := qz 20 2 [4, 5] Tryz.func27 (by kernel_rfl) (by kernel_rfl)
end
end Go.Proofs.YtjoakhpdajlhiaaGreatDoor.V2.S
namespace Go.Proofs.YtjoakhpdajlhiaaGreatDoor.V2.S
open Go
set_option maxRecDepth 100000
set_option linter.unusedVariables false
theorem bare_fn (Φ : Phi) (f : Nat) : Phi.fn (Phi.bare Φ) f = Phi.fn Φ f := by cases Φ <;> rfl
section
variable {O : Oz} (hO : O = zO) {P : FR} {c : FV → FR} {k : KV} {n : Nat} {m : T FObj}
include hO
theorem hr8 {a : Nat} (hc : c (.n .i64 (a / 256)) = P) : O.hr (.n .i64 a) (.n .u64 8) c = P := by
  subst hO
  show (Bool.rec (gI .shr .i64 (Int.ofNat a) (Int.ofNat 8) c) (fN (Nat.shiftRight a 8) fun r => c (.n .i64 r)) (Nat.ble 8 (bitsF .i64)) : FR) = P
  rw [show Nat.ble 8 (bitsF .i64) = true from rfl, Aj, show Nat.shiftRight a 8 = a / 256 from Nat.shiftRight_eq_div_pow a 8]
  exact hc
theorem cvW {k : IntKind} {a : Nat} (hc : c (.n .u8 (a % 256)) = P) : O.cv .u8 (.n k a) c = P := by
  subst hO
  show (fN a fun m => Bool.rec (sW .u8 (Int.ofNat m) c) (c (.n .u8 m)) (Nat.ble m (lim .u8)) : FR) = P
  rw [Aj]
  by_cases h : a ≤ 255
  · rw [show Nat.ble a (lim .u8) = true from A8 h]
    rw [Nat.mod_eq_of_lt (by omega)] at hc; exact hc
  · rw [show Nat.ble a (lim .u8) = false from Ml (by show 255 < a; omega)]
    show vI .u8 (wr .u8 (Int.ofNat a)) c = P
    rw [show wr .u8 (Int.ofNat a) = Int.ofNat (a % 256) by show ((a : Nat) : Int) % 256 = ((a % 256 : Nat) : Int); omega]
    show (fN (a % 256) fun m => c (.n .u8 m)) = P
    rw [Aj]; exact hc
theorem bs1 {a : Nat} {e : TypeId} (ha : a < 256) (hn : n < 1000000) (h : k (.sl n 0 1 1 true 1) ⟨n + 1, mp m n (.bs (pack [UInt8.ofNat a]) e .exact)⟩ = P) : O.bs e 1 1 [.n .u8 a] ⟨n, m⟩ k = P := by
  subst hO
  show (ofQ [.n .u8 a] e .exact fun o => nM ⟨n, m⟩ o fun b σ => k (.sl b 0 1 1 true 1) σ) = P
  have e2 : βO (.ints .u8 [Int.ofNat a] e .exact) = .bs (pack [UInt8.ofNat a]) e .exact := by
    have : G3 [Int.ofNat a] = some (pack [UInt8.ofNat a]) := by
      simp only [G3, Nat.blt_eq, ha, cond_true, Option.map_some, pack, show Nat.blt a 256 = true by rw [Nat.blt_eq]; exact ha, show (UInt8.ofNat a).toNat = a by rw [UInt8.toNat_ofNat']; omega]
    simp only [βO, this]
  show (fO (βO (.ints .u8 [Int.ofNat a] e .exact)) fun o => nM ⟨n, m⟩ o fun b σ => k (.sl b 0 1 1 true 1) σ) = P
  rw [e2, Gf, Dl hn]; exact h
theorem bs2 {a b : Nat} {e : TypeId} (ha : a < 256) (hb : b < 256) (hn : n < 1000000) (h : k (.sl n 0 2 2 true 1) ⟨n + 1, mp m n (.bs (pack [UInt8.ofNat a, UInt8.ofNat b]) e .exact)⟩ = P) : O.bs e 1 2 [.n .u8 a, .n .u8 b] ⟨n, m⟩ k = P := by
  subst hO
  show (ofQ [.n .u8 a, .n .u8 b] e .exact fun o => nM ⟨n, m⟩ o fun b σ => k (.sl b 0 2 2 true 1) σ) = P
  have e2 : βO (.ints .u8 [Int.ofNat a, Int.ofNat b] e .exact) = .bs (pack [UInt8.ofNat a, UInt8.ofNat b]) e .exact := by
    have : G3 [Int.ofNat a, Int.ofNat b] = some (pack [UInt8.ofNat a, UInt8.ofNat b]) := by
      simp only [G3, cond_true, Option.map_some, pack, show Nat.blt a 256 = true by rw [Nat.blt_eq]; exact ha, show Nat.blt b 256 = true by rw [Nat.blt_eq]; exact hb, show (UInt8.ofNat a).toNat = a by rw [UInt8.toNat_ofNat']; omega, show (UInt8.ofNat b).toNat = b by rw [UInt8.toNat_ofNat']; omega]
    simp only [βO, this]
  show (fO (βO (.ints .u8 [Int.ofNat a, Int.ofNat b] e .exact)) fun o => nM ⟨n, m⟩ o fun b σ => k (.sl b 0 2 2 true 1) σ) = P
  rw [e2, Gf, Dl hn]; exact h
theorem apXS {e el : TypeId} {tl : Tl} {l l' : Bs} {b o L Kk : Nat} (ha : Am m b (.bs (pack l) el tl)) (hl : o + L ≤ l.length) (hK : Kk = L) (hp : 0 < l'.length) (hb : L + l'.length ≤ 1000000000000) (hn : n < 1000000)
    (h : k (.sl n 0 (L + l'.length) (L + l'.length) false 1) ⟨n + 1, mp m n (.bs (pack ((l.drop o).take L ++ l')) e .more)⟩ = P) : O.ap e true 1 (.sl b o L Kk true 1) (.s (pack l')) ⟨n, m⟩ k = P := by
  subst hO hK
  obtain ⟨q, hq⟩ : ∃ q, l'.length = q + 1 := ⟨l'.length - 1, by omega⟩
  show (gT (Nat.beq 1 1) (fN (bl (pack l')) fun mm => apR e 1 (.sl b o Kk Kk true 1) mm (.bs (pack l')) ⟨n, m⟩ k)) = P
  rw [gTt (b := Nat.beq 1 1) rfl, Aj, Ci, hq]
  refine apR_ ?_
  rw [rowQs, rowSb ha hl, Aj, show Nat.add Kk (Nat.succ q) = Kk + (q + 1) from rfl, gTt (A8 (show Kk + (q + 1) ≤ 1000000000000 by omega)), baBx ha (by omega)]
  show (fN (Be (pack ((l.drop o).take Kk)) (pack l')) fun s => nM ⟨n, m⟩ (.bs s e .more) fun b σ => k (.sl b 0 (Kk + (q + 1)) (Kk + (q + 1)) false 1) σ) = P
  rw [Aj, bappP, Dl hn, ← hq]; exact h
theorem mlS {α : Type} {b : Nat} {l : List α} {g : α → FV × FV} (ha : Am m b (.map (l.map g))) (h : c (.n .i64 l.length) = P) : O.ml (.m b) ⟨n, m⟩ c = P := by
  subst hO
  show gM ⟨n, m⟩ b (kMp fun l => Bj l 0 fun n => c (.n .i64 n)) = P
  rw [Cx ha]
  show (Bj (l.map g) 0 fun n => c (.n .i64 n)) = P
  rw [Bv, Nat.zero_add, List.length_map]; exact h
end
end Go.Proofs.YtjoakhpdajlhiaaGreatDoor.V2.S
namespace Go.Proofs.YtjoakhpdajlhiaaGreatDoor.V2.S
open Go
set_option maxRecDepth 100000
set_option maxHeartbeats 4000000
set_option linter.unusedVariables false
attribute [local irreducible] fN fO nM gM pM Phi.fn mp bl Au Be Bh pack
def CloneS (H : HF) : Prop := ∀ {mb n : Nat} {m : T FObj} {L : List (FV × FV)}, Am m mb (.map L) → mb < n → ∀ (k : KV) (P : FR), n + 1 ≤ 1000000 → (∀ m', Kp n m m' → Am m' n (.map L) → k (.m n) ⟨n + 1, m'⟩ = P) → H [.m mb] ⟨n, m⟩ k = P
theorem clone_s : CloneS cmQ := fun {mb n m L} ha hb k P hn hf => by
  show (gM ⟨n, m⟩ mb (kMp fun l => nM ⟨n, m⟩ (.map l) fun b σ => k (.m b) σ)) = P
  rw [Cx ha]
  show (nM ⟨n, m⟩ (.map L) fun b σ => k (.m b) σ) = P
  rw [Dl (by omega)]
  exact hf _ kQ (Ap (by omega))
def CopyS (H : HF) : Prop := ∀ {tb mb : Nat} {t : Tr} {n : Nat} {m : T FObj}, TreeAt m tb mb 39 t → tb < n → mb < n → Iv 2 [] H [.p tb 0] n m (fun v n' m' => ∃ tb2 mb2, v = .p tb2 0 ∧ tb2 ≠ mb2 ∧ n ≤ tb2 ∧ tb2 < n' ∧ n ≤ mb2 ∧ mb2 < n' ∧ TreeAt m' tb2 mb2 39 t)
theorem copy_s {O : Oz} (hO : O = zO) (Φ : Phi) (HN : NoneS (Phi.fn Φ 13)) (HC : CloneS (Phi.fn Φ 14)) : CopyS (p7 O Φ) := fun {tb mb t n m} hT htb hmb k P hn hf => by
  have hT1 := hT.s
  have hT2 := hT.m
  repeat' ((conv => lhs; whnf); first | ((with_reducible refine A4 ?_); first | refine HN (hT.kp kQ htb hmb) _ _ ?_ | (refine HC hT2 (by omega) _ _ (by omega) (fun m1 k1 a1 => ?_))) | ((with_reducible refine fa0 hO ?_)) | ((with_reducible refine Br ?_); refine ldC hO aQ (by rfl) ?_) | ((with_reducible refine atBx ?_); refine bxA hO (by omega) (by simp only [αL, αV, AObj.of, Cv, βO, βL, βV, As]) ?_) | ((with_reducible refine rcE hO (by kernel_rfl) rfl ?_)) | ((with_reducible first | refine umt hO ?_ | refine uqu hO ?_ | refine urm hO ?_ | refine uan hO ?_ | refine uro hO ?_ | refine uxr hO ?_ | refine uhl hO ?_ | refine uhr hO ?_ | refine uad hO ?_ | refine usb hO ?_ | refine ult hO ?_ | refine ule hO ?_ | refine ugt hO ?_ | refine uge hO ?_ | refine ueq hO ?_ | refine une hO ?_ | refine ucv hO ?_ | refine uia hO ?_ | refine usv hO ?_ | refine ubu hO ?_ | refine uap hO ?_ | refine ubs hO ?_ | refine umm hO ?_ | refine upq hO ?_ | refine unq hO ?_ | refine uln hO ?_)))
  all_goals (conv => lhs; whnf)
  all_goals first
    | exact hf _ _ _ (by omega) (by omega) qQ ⟨n + 1, n, rfl, by omega, by omega, by omega, by omega, by omega, Ap (by omega), aQ⟩
end Go.Proofs.YtjoakhpdajlhiaaGreatDoor.V2.S
namespace Go.Proofs.YtjoakhpdajlhiaaGreatDoor.V2.S
open Go
set_option linter.unusedVariables false
noncomputable section
def p11 (O : Oz) : Phi → HF := fnQ (Aw fun v1 => (Aw fun v2 => (Bc (Aa (n1 (O.bx 25) (rdV v2)) fun v3 => (cLetW (n0Z O.al (.cells [.b false] 4 .exact)) X4 fun v4 => (Aa (Ad 33 [(rdV v1)]) fun v5 => (Aa (o1 (exG 0) (rdV v5)) fun v6 => (Aa (o1 (exG 1) (rdV v5)) fun v7 => (Aa (m1 O.ld (rdV v3)) fun v8 => (Aa (Ad 34 [(rdV v8)]) fun v9 => (Aa (o1 (exG 0) (rdV v9)) fun v10 => (Aa (o1 (exG 1) (rdV v9)) fun v11 => (Aa (o2 O.ne (rdV v6) (rdV v10)) fun v12 => (Aa (oG false (rdV v12) (oV (rdV v7))) fun v13 => (Aa (oG false (rdV v12) (oV (rdV v11))) fun v14 => (Aa (oG false (rdV v12) (o2 O.ne (rdV v13) (rdV v14))) fun v15 => (Aa (o3 pkF (rdV v12) (rdV (.b true)) (rdV v15)) fun v16 => (Aa (oG false (rdV v16) (oV (rdV v1))) fun v17 => (Aa (oG false (rdV v16) (m1 O.ld (rdV v3))) fun v18 => (Aa (oG false (rdV v16) (o1 ncF (rdV v18))) fun v19 => (Aa (oG false (rdV v16) (o1 (O.fa 1) (rdV v19))) fun v20 => (Aa (oG false (rdV v16) (m1 O.ld (rdV v20))) fun v21 => (Aa (oG false (rdV v16) (Ad 35 [(rdV v17)])) fun v22 => (cRz O.rc (oG false (rdV v16) (m1 O.ld (rdV v3))) v18 (cRz O.rc (oG false (rdV v16) (m1 O.ld (rdV v20))) v21 (Aa (oG false (rdV v16) (o2 O.ne (rdV v22) (rdV v21))) fun v23 => (Aa (o3 pkF (rdV v16) (rdV (.b true)) (rdV v23)) fun v24 => (Aa (oG false (rdV v24) (oV (rdV v1))) fun v25 => (Aa (oG false (rdV v24) (m1 O.ld (rdV v3))) fun v26 => (Aa (oG false (rdV v24) (Ad 36 [(rdV v25)])) fun v27 => (cRz O.rc (oG false (rdV v24) (m1 O.ld (rdV v3))) v26 (Aa (oG false (rdV v24) (m1 O.bS (rdV v27))) fun v28 => (Aa (oG false (rdV v24) (Ad 37 [(rdV v26)])) fun v29 => (cRz O.rc (oG false (rdV v24) (m1 O.bS (rdV v27))) v28 (Aa (oG false (rdV v24) (m1 O.bS (rdV v29))) fun v30 => (Aa (oG false (rdV v24) (o2 O.ne (rdV v28) (rdV v30))) fun v31 => (Aa (o3 pkF (rdV v24) (rdV (.b true)) (rdV v31)) fun v32 => (Ai (Af (rdV v32) (cDo (n2 (O.st 1) (rdV v4) (rdV (.b false))) Ao) Ab) (Aa (n0Z O.al (.ints .i64 [Int.ofNat 0] 3 .exact)) fun v33 => (cDo (n2 (O.st 1) (rdV v33) (rdV (.n .i64 0))) (Aa (nL (mfG (.func 38) 1) [(rdV v1)]) fun v34 => (Ai (Bo 0 (Ai (cRf (rdV v34) [X49] (cLetW (n0Z O.al (.cells [.s (pack []), .b false, .s (pack [])] 45 .exact)) X10 fun v35 => (cDo (n2 (O.st 3) (rdV v35) R49) Ab)) (Ai (Bo 1 (Aa (m1 O.ld (rdV v33)) fun v36 => (Aa (m1 O.ld (rdV v3)) fun v37 => (Aa (o1 ncF (rdV v37)) fun v38 => (Aa (o1 (O.fa 0) (rdV v38)) fun v39 => (Aa (m1 O.ld (rdV v39)) fun v40 => (Aa (o1 O.lv (rdV v40)) fun v41 => (Aa (o2 O.ge (rdV v36) (rdV v41)) fun v42 => (Aa (oG false (rdV v42) (m1 (O.ln 3) R10)) fun v43 => (Aa (oG false (rdV v42) (m1 O.ld (rdV v3))) fun v44 => (Aa (oG false (rdV v42) (o1 ncF (rdV v44))) fun v45 => (Aa (oG false (rdV v42) (o1 (O.fa 0) (rdV v45))) fun v46 => (Aa (oG false (rdV v42) (m1 O.ld (rdV v46))) fun v47 => (Aa (oG false (rdV v42) (m1 O.ld (rdV v33))) fun v48 => (Aa (oG false (rdV v42) (o2 (O.ix 3) (rdV v47) (rdV v48))) fun v49 => (Aa (oG false (rdV v42) (m1 (O.ln 3) (rdV v49))) fun v50 => (Aa (oG false (rdV v42) (nL (O.pq (.eqF true [.str, .bool, .str])) [(rdV v43), (rdV v50)])) fun v51 => (Aa (o3 pkF (rdV v42) (rdV (.b true)) (rdV v51)) fun v52 => (Ai (Af (rdV v52) (cDo (n2 (O.st 1) (rdV v4) (rdV (.b false))) Ao) Ab) (Aa (m1 O.ld (rdV v33)) fun v53 => (Aa (o2 O.ad (rdV v53) (rdV (.n .i64 1))) fun v54 => (cDo (n2 (O.st 1) (rdV v33) (rdV v54)) Ab)))))))))))))))))))))) Ab)) Ab)) (Aa (m1 O.ld (rdV v33)) fun v55 => (Aa (m1 O.ld (rdV v3)) fun v56 => (Aa (o1 ncF (rdV v56)) fun v57 => (Aa (o1 (O.fa 0) (rdV v57)) fun v58 => (Aa (m1 O.ld (rdV v58)) fun v59 => (Aa (o1 O.lv (rdV v59)) fun v60 => (Aa (o2 O.eq (rdV v55) (rdV v60)) fun v61 => (Aa (n2 (O.st 1) (rdV v4) (rdV v61)) fun v62 => Ao))))))))))))))))))))))))))))))))))))))))))))))) [vC R4])))
theorem k11 : QeOk ⟨11, eZ Tryz.f11, p11 zO⟩ := qz 77 2 [4, 10, 49] Tryz.func11 (by kernel_rfl) (by kernel_rfl)
def p5 (O : Oz) : Phi → HF := fnQ (Bc (cWr X0 (.o .ptr) (Aa (nL (O.bu [.o .sl, .s (pack [])] [.nilsl, (.str [])] [(1, 1)]) [(rdV (.s (pack [47])))]) fun v1 => (Aa (n1 (O.bx 42) (rdV v1)) fun v2 => (cWr X0 v2 Ao)))) [vT R0])
theorem k5 : QeOk ⟨5, eZ Tryz.f5, p5 zO⟩ := qz 3 0 [0] Tryz.func5 (by kernel_rfl) (by kernel_rfl)
def p32 (O : Oz) : Phi → HF := fnQ (Aw fun v1 => (Aw fun v2 => (Bc (cWr X4 (.s (pack [])) (cWr X5 (.n .i64 0) (Aa (o1 O.ls (rdV v2)) fun v3 => (Aa (o2 O.lt (rdV v3) (rdV (.n .i64 1))) fun v4 => (Aa (oG false (rdV v4) (oV (rdV v2))) fun v5 => (Aa (oG false (rdV v4) (o1 O.ls (rdV v5))) fun v6 => (Aa (oG false (rdV v4) (o2 O.gt (rdV v6) (rdV (.n .i64 256)))) fun v7 => (Aa (o3 pkF (rdV v4) (rdV (.b true)) (rdV v7)) fun v8 => (Ai (Af (rdV v8) (cWr X4 (.s (pack [])) (cWr X5 (.n .i64 23) Ao)) Ab) (Aa (o1 ncF (rdV v1)) fun v9 => (Aa (o1 (O.fa 1) (rdV v9)) fun v10 => (Aa (m1 O.ld (rdV v10)) fun v11 => (cWr X6 v11 (Aa (o2 O.tx (rdV v2) (rdV (.n .i64 0))) fun v12 => (Aa (o2 O.eq (rdV v12) (rdV (.n .u8 47))) fun v13 => (Ai (Af (rdV v13) (cWr X6 (.s (pack [47])) Ab) Ab) (cWr X7 (.n .i64 0) (cWr X8 (.n .i64 0) (Ai (Bo 0 (O.lp 1000000 (Aa (oV R8) fun v14 => (Aa (o1 O.ls (rdV v2)) fun v15 => (Aa (o2 O.le (rdV v14) (rdV v15)) fun v16 => (Ai (Af (rdV v16) Ab (Cu 0)) (Ai (Bo 1 (Aa (oV R8) fun v17 => (Aa (o1 O.ls (rdV v2)) fun v18 => (Aa (o2 O.lt (rdV v17) (rdV v18)) fun v19 => (Aa (oG true (rdV v19) (oV (rdV v2))) fun v20 => (Aa (oG true (rdV v19) (oV R8)) fun v21 => (Aa (oG true (rdV v19) (o2 O.tx (rdV v20) (rdV v21))) fun v22 => (Aa (oG true (rdV v19) (o2 O.ne (rdV v22) (rdV (.n .u8 47)))) fun v23 => (Aa (o3 pkF (rdV v19) (rdV v23) (rdV (.b false))) fun v24 => (Ai (Af (rdV v24) (Cu 1) Ab) (Aa (oV R7) fun v25 => (Aa (oV R8) fun v26 => (Aa (oSz O.ss (rdV v2) (some (rdV v25)) (some (rdV v26))) fun v27 => (Aa (oV R8) fun v28 => (Aa (o2 O.ad (rdV v28) (rdV (.n .i64 1))) fun v29 => (cWr X7 v29 (Aa (o2 O.eq (rdV v27) (rdV (.s (pack [])))) fun v30 => (Aa (oG false (rdV v30) (oV (rdV v27))) fun v31 => (Aa (oG false (rdV v30) (o2 O.eq (rdV v31) (rdV (.s (pack [46]))))) fun v32 => (Aa (o3 pkF (rdV v30) (rdV (.b true)) (rdV v32)) fun v33 => (Ai (Af (rdV v33) (Cu 1) Ab) (Aa (o2 O.ne (rdV v27) (rdV (.s (pack [46, 46])))) fun v34 => (Aa (oG true (rdV v34) (oV (rdV v27))) fun v35 => (Aa (oG true (rdV v34) (Ad 52 [(rdV v35)])) fun v36 => (Aa (oG true (rdV v34) (o1 Mp (rdV v36))) fun v37 => (Aa (o3 pkF (rdV v34) (rdV v37) (rdV (.b false))) fun v38 => (Ai (Af (rdV v38) (cWr X4 (.s (pack [])) (cWr X5 (.n .i64 23) Ao)) Ab) (Aa (oV R6) fun v39 => (Aa (Ad 45 [(rdV v1), (rdV v39)]) fun v40 => (Aa (o2 O.eq (rdV v40) (rdV (.n .i64 0))) fun v41 => (Ai (Af (rdV v41) (cWr X4 (.s (pack [])) (cWr X5 (.n .i64 6) Ao)) Ab) (Aa (o2 O.eq (rdV v40) (rdV (.n .i64 2))) fun v42 => (Ai (Af (rdV v42) (cWr X4 (.s (pack [])) (cWr X5 (.n .i64 5) Ao)) Ab) (Aa (o2 O.eq (rdV v27) (rdV (.s (pack [46, 46])))) fun v43 => (Ai (Af (rdV v43) (Aa (oV R6) fun v44 => (Aa (Ad 49 [(rdV v44)]) fun v45 => (cWr X6 v45 Ab))) (Aa (oV R6) fun v46 => (Aa (o2 O.eq (rdV v46) (rdV (.s (pack [47])))) fun v47 => (Ai (Af (rdV v47) (Aa (o2 O.ad (rdV (.s (pack [47]))) (rdV v27)) fun v48 => (cWr X6 v48 Ab)) (Aa (oV R6) fun v49 => (Aa (o2 O.ad (rdV v49) (rdV (.s (pack [47])))) fun v50 => (Aa (o2 O.ad (rdV v50) (rdV v27)) fun v51 => (cWr X6 v51 Ab))))) Ab)))) Ab))))))))))))))))))))))))))))))))))) (Aa (oV R8) fun v52 => (Aa (o2 O.ad (rdV v52) (rdV (.n .i64 1))) fun v53 => (cWr X8 v53 Ab)))))))))) (Aa (oV R6) fun v54 => (cWr X4 v54 (cWr X5 (.n .i64 0) Ao)))))))))))))))))))))) [vT R4, vT R5])))
theorem k32 : QeOk ⟨32, eZ Tryz.f32, p32 zO⟩ := qz 81 2 [4, 5, 6, 7, 8] Tryz.func32 (by kernel_rfl) (by kernel_rfl)
def p45 (O : Oz) : Phi → HF := fnQ (Aw fun v1 => (Aw fun v2 => (Bc (cWr X4 (.n .i64 0) (Aa (o2 O.eq (rdV v2) (rdV (.s (pack [47])))) fun v3 => (Ai (Af (rdV v3) (cWr X4 (.n .i64 1) Ao) Ab) (Aa (Ad 46 [(rdV v1), (rdV v2)]) fun v4 => (Aa (o2 O.lt (rdV v4) (rdV (.n .i64 0))) fun v5 => (Ai (Af (rdV v5) (cWr X4 (.n .i64 0) Ao) Ab) (Aa (o1 ncF (rdV v1)) fun v6 => (Aa (o1 (O.fa 0) (rdV v6)) fun v7 => (Aa (m1 O.ld (rdV v7)) fun v8 => (Aa (o2 (O.ix 3) (rdV v8) (rdV v4)) fun v9 => (Aa (o1 (O.fa 1) (rdV v9)) fun v10 => (Aa (m1 O.ld (rdV v10)) fun v11 => (Ai (Af (rdV v11) (cWr X4 (.n .i64 1) Ao) Ab) (cWr X4 (.n .i64 2) Ao)))))))))))))) [vT R4])))
theorem k45 : QeOk ⟨45, eZ Tryz.f45, p45 zO⟩ := qz 21 2 [4] Tryz.func45 (by kernel_rfl) (by kernel_rfl)
def p47 (O : Oz) : Phi → HF := fnQ (Aw fun v1 => (Aw fun v2 => (Bc (Aa (n1 (O.bx 70) (rdV v2)) fun v3 => (cWr X4 (.n .i64 0) (Aa (o1 (O.fa 0) (rdV v3)) fun v4 => (Aa (m1 O.ld (rdV v4)) fun v5 => (Aa (o1 O.ls (rdV v5)) fun v6 => (Aa (o2 O.gt (rdV v6) (rdV (.n .i64 256))) fun v7 => (Aa (oG false (rdV v7) (o1 (O.fa 2) (rdV v3))) fun v8 => (Aa (oG false (rdV v7) (m1 O.ld (rdV v8))) fun v9 => (Aa (oG false (rdV v7) (o1 O.ls (rdV v9))) fun v10 => (Aa (oG false (rdV v7) (o2 O.gt (rdV v10) (rdV (.n .i64 8192)))) fun v11 => (Aa (o3 pkF (rdV v7) (rdV (.b true)) (rdV v11)) fun v12 => (Ai (Af (rdV v12) (cWr X4 (.n .i64 3) Ao) Ab) (cWr X5 (.o .sl) (cWr X6 (.b false) (cWr X7 (.n .i64 0) (Ai (Bo 0 (O.lp 1000000 (Aa (oV R7) fun v13 => (Aa (o1 ncF (rdV v1)) fun v14 => (Aa (o1 (O.fa 0) (rdV v14)) fun v15 => (Aa (m1 O.ld (rdV v15)) fun v16 => (Aa (o1 O.lv (rdV v16)) fun v17 => (Aa (o2 O.lt (rdV v13) (rdV v17)) fun v18 => (Ai (Af (rdV v18) Ab (Cu 0)) (Ai (Bo 1 (Aa (oV R6) fun v19 => (Aa (o1 Mp (rdV v19)) fun v20 => (Aa (oG true (rdV v20) (oV (rdV v1))) fun v21 => (Aa (oG true (rdV v20) (o1 ncF (rdV v21))) fun v22 => (Aa (oG true (rdV v20) (o1 (O.fa 0) (rdV v22))) fun v23 => (Aa (oG true (rdV v20) (m1 O.ld (rdV v23))) fun v24 => (Aa (oG true (rdV v20) (oV R7)) fun v25 => (Aa (oG true (rdV v20) (o2 (O.ix 3) (rdV v24) (rdV v25))) fun v26 => (Aa (oG true (rdV v20) (o1 (O.fa 0) (rdV v26))) fun v27 => (Aa (oG true (rdV v20) (m1 O.ld (rdV v27))) fun v28 => (Aa (oG true (rdV v20) (o1 (O.fa 0) (rdV v3))) fun v29 => (Aa (oG true (rdV v20) (m1 O.ld (rdV v29))) fun v30 => (Aa (oG true (rdV v20) (o2 O.ge (rdV v28) (rdV v30))) fun v31 => (Aa (o3 pkF (rdV v20) (rdV v31) (rdV (.b false))) fun v32 => (Ai (Af (rdV v32) (Aa (oV R5) fun v33 => (Aa (m1 (O.ln 3) (rdV v3)) fun v34 => (Aa (nL (O.bs 70 3 1) [(rdV v34)]) fun v35 => (Aa (n2 (O.ap 70 false 3) (rdV v33) (rdV v35)) fun v36 => (cWr X5 v36 (cWr X6 (.b true) Ab)))))) Ab) (Aa (o1 ncF (rdV v1)) fun v37 => (Aa (o1 (O.fa 0) (rdV v37)) fun v38 => (Aa (m1 O.ld (rdV v38)) fun v39 => (Aa (oV R7) fun v40 => (Aa (o2 (O.ix 3) (rdV v39) (rdV v40)) fun v41 => (Aa (o1 (O.fa 0) (rdV v41)) fun v42 => (Aa (m1 O.ld (rdV v42)) fun v43 => (Aa (o1 (O.fa 0) (rdV v3)) fun v44 => (Aa (m1 O.ld (rdV v44)) fun v45 => (Aa (o2 O.ne (rdV v43) (rdV v45)) fun v46 => (Ai (Af (rdV v46) (Aa (oV R5) fun v47 => (Aa (o1 ncF (rdV v1)) fun v48 => (Aa (o1 (O.fa 0) (rdV v48)) fun v49 => (Aa (m1 O.ld (rdV v49)) fun v50 => (Aa (oV R7) fun v51 => (Aa (o2 (O.ix 3) (rdV v50) (rdV v51)) fun v52 => (Aa (m1 (O.ln 3) (rdV v52)) fun v53 => (Aa (nL (O.bs 70 3 1) [(rdV v53)]) fun v54 => (Aa (n2 (O.ap 70 false 3) (rdV v47) (rdV v54)) fun v55 => (cWr X5 v55 Ab)))))))))) Ab) Ab))))))))))))))))))))))))))) (Aa (oV R7) fun v56 => (Aa (o2 O.ad (rdV v56) (rdV (.n .i64 1))) fun v57 => (cWr X7 v57 Ab))))))))))))) (Aa (oV R6) fun v58 => (Aa (o1 Mp (rdV v58)) fun v59 => (Ai (Af (rdV v59) (Aa (oV R5) fun v60 => (Aa (m1 (O.ln 3) (rdV v3)) fun v61 => (Aa (nL (O.bs 70 3 1) [(rdV v61)]) fun v62 => (Aa (n2 (O.ap 70 false 3) (rdV v60) (rdV v62)) fun v63 => (cWr X5 v63 Ab))))) Ab) (Aa (oV R5) fun v64 => (Aa (nL (O.bu [.o .sl, .s (pack [])] [.nilsl, (.str [])] [(0, 1)]) [(rdV v64)]) fun v65 => (Aa (n1 (O.bx 42) (rdV v65)) fun v66 => (Aa (Ad 34 [(rdV v66)]) fun v67 => (Aa (o1 (exG 0) (rdV v67)) fun v68 => (Aa (o1 (exG 1) (rdV v67)) fun v69 => (Aa (o2 O.gt (rdV v68) (rdV (.n .i64 128))) fun v70 => (Aa (oG false (rdV v70) (oV (rdV v69))) fun v71 => (Aa (oG false (rdV v70) (o2 O.gt (rdV v71) (rdV (.n .i64 32768)))) fun v72 => (Aa (o3 pkF (rdV v70) (rdV (.b true)) (rdV v72)) fun v73 => (Ai (Af (rdV v73) (cWr X4 (.n .i64 7) Ao) Ab) (Aa (oV R5) fun v74 => (Aa (o1 ncF (rdV v1)) fun v75 => (Aa (o1 (O.fa 0) (rdV v75)) fun v76 => (cDo (n2 (O.st 1) (rdV v76) (rdV v74)) (cWr X4 (.n .i64 0) Ao))))))))))))))))))))))))))))))))))) [vT R4])))
theorem k47 : QeOk ⟨47, eZ Tryz.f47, p47 zO⟩ := qz 94 2 [4, 5, 6, 7] Tryz.func47 (by kernel_rfl) (by kernel_rfl)
def p24 (O : Oz) : Phi → HF := fnQ (Aw fun v1 => (Aw fun v2 => (Bc (cWr X4 (.n .i64 0) (Aa (Ad 51 [(rdV v1), (rdV v2), (rdV (.n .i64 1))]) fun v3 => (Aa (o1 (exG 0) (rdV v3)) fun v4 => (Aa (o1 (exG 1) (rdV v3)) fun v5 => (Aa (o2 O.eq (rdV v5) (rdV (.n .i64 0))) fun v6 => (Ai (Af (rdV v6) (Aa (o1 ncF (rdV v1)) fun v7 => (Aa (o1 (O.fa 1) (rdV v7)) fun v8 => (cDo (n2 (O.st 1) (rdV v8) (rdV v4)) Ab))) Ab) (cWr X4 v5 Ao))))))) [vT R4])))
theorem k24 : QeOk ⟨24, eZ Tryz.f24, p24 zO⟩ := qz 20 2 [4] Tryz.func24 (by kernel_rfl) (by kernel_rfl)
def p37 (O : Oz) : Phi → HF := fnQ (Aw fun v1 => (Bc (cWr X2 (.o .sl) (Aa (o1 ncF (rdV v1)) fun v2 => (Aa (o1 (O.fa 1) (rdV v2)) fun v3 => (Aa (m1 O.ld (rdV v3)) fun v4 => (Aa (Ad 55 [(rdV v4)]) fun v5 => (cWr X3 v5 (Aa (o1 ncF (rdV v1)) fun v6 => (Aa (o1 (O.fa 0) (rdV v6)) fun v7 => (Aa (m1 O.ld (rdV v7)) fun v8 => (Aa (o1 O.lv (rdV v8)) fun v9 => (Aa (o2 O.qu (rdV v9) (rdV (.n .i64 256))) fun v10 => (Aa (o1 (O.cv .u8) (rdV v10)) fun v11 => (Aa (o1 ncF (rdV v1)) fun v12 => (Aa (o1 (O.fa 0) (rdV v12)) fun v13 => (Aa (m1 O.ld (rdV v13)) fun v14 => (Aa (o1 O.lv (rdV v14)) fun v15 => (Aa (o2 O.rm (rdV v15) (rdV (.n .i64 256))) fun v16 => (Aa (o1 (O.cv .u8) (rdV v16)) fun v17 => (Aa (nL (O.bs 5 1 2) [(rdV v11), (rdV v17)]) fun v18 => (Aa (n2 (O.ap 5 false 1) (rdV v5) (rdV v18)) fun v19 => (cWr X3 v19 (cWr X4 (.n .i64 0) (Ai (Bo 0 (O.lp 1000000 (Aa (oV R4) fun v20 => (Aa (o1 ncF (rdV v1)) fun v21 => (Aa (o1 (O.fa 0) (rdV v21)) fun v22 => (Aa (m1 O.ld (rdV v22)) fun v23 => (Aa (o1 O.lv (rdV v23)) fun v24 => (Aa (o2 O.lt (rdV v20) (rdV v24)) fun v25 => (Ai (Af (rdV v25) Ab (Cu 0)) (Ai (Bo 1 (Aa (o1 ncF (rdV v1)) fun v26 => (Aa (o1 (O.fa 0) (rdV v26)) fun v27 => (Aa (m1 O.ld (rdV v27)) fun v28 => (Aa (oV R4) fun v29 => (Aa (o2 (O.ix 3) (rdV v28) (rdV v29)) fun v30 => (Aa (o1 (O.fa 1) (rdV v30)) fun v31 => (Aa (m1 O.ld (rdV v31)) fun v32 => (Ai (Af (rdV v32) (Aa (oV R3) fun v33 => (Aa (nL (O.bs 5 1 1) [(rdV (.n .u8 1))]) fun v34 => (Aa (n2 (O.ap 5 false 1) (rdV v33) (rdV v34)) fun v35 => (cWr X3 v35 (Aa (o1 ncF (rdV v1)) fun v36 => (Aa (o1 (O.fa 0) (rdV v36)) fun v37 => (Aa (m1 O.ld (rdV v37)) fun v38 => (Aa (oV R4) fun v39 => (Aa (o2 (O.ix 3) (rdV v38) (rdV v39)) fun v40 => (Aa (o1 (O.fa 0) (rdV v40)) fun v41 => (Aa (m1 O.ld (rdV v41)) fun v42 => (Aa (Ad 55 [(rdV v42)]) fun v43 => (Aa (n2 (O.ap 5 false 1) (rdV v35) (rdV v43)) fun v44 => (cWr X3 v44 (Cu 1))))))))))))))) Ab) (Aa (oV R3) fun v45 => (Aa (nL (O.bs 5 1 1) [(rdV (.n .u8 2))]) fun v46 => (Aa (n2 (O.ap 5 false 1) (rdV v45) (rdV v46)) fun v47 => (cWr X3 v47 (Aa (o1 ncF (rdV v1)) fun v48 => (Aa (o1 (O.fa 0) (rdV v48)) fun v49 => (Aa (m1 O.ld (rdV v49)) fun v50 => (Aa (oV R4) fun v51 => (Aa (o2 (O.ix 3) (rdV v50) (rdV v51)) fun v52 => (Aa (o1 (O.fa 0) (rdV v52)) fun v53 => (Aa (m1 O.ld (rdV v53)) fun v54 => (Aa (Ad 55 [(rdV v54)]) fun v55 => (Aa (n2 (O.ap 5 false 1) (rdV v47) (rdV v55)) fun v56 => (cWr X3 v56 (Aa (o1 ncF (rdV v1)) fun v57 => (Aa (o1 (O.fa 0) (rdV v57)) fun v58 => (Aa (m1 O.ld (rdV v58)) fun v59 => (Aa (oV R4) fun v60 => (Aa (o2 (O.ix 3) (rdV v59) (rdV v60)) fun v61 => (Aa (o1 (O.fa 2) (rdV v61)) fun v62 => (Aa (m1 O.ld (rdV v62)) fun v63 => (Aa (Ad 55 [(rdV v63)]) fun v64 => (Aa (n2 (O.ap 5 false 1) (rdV v56) (rdV v64)) fun v65 => (cWr X3 v65 Ab))))))))))))))))))))))))))))))))) (Aa (oV R4) fun v66 => (Aa (o2 O.ad (rdV v66) (rdV (.n .i64 1))) fun v67 => (cWr X4 v67 Ab))))))))))))) (Aa (oV R3) fun v68 => (cWr X2 v68 Ao))))))))))))))))))))))))) [vT R2]))
theorem k37 : QeOk ⟨37, eZ Tryz.f37, p37 zO⟩ := qz 84 1 [2, 3, 4] Tryz.func37 (by kernel_rfl) (by kernel_rfl)
def p34 (O : Oz) : Phi → HF := fnQ (Aw fun v1 => (Bc (cWr X2 (.n .i64 0) (cWr X3 (.n .i64 0) (cWr X4 (.n .i64 0) (cWr X5 (.n .i64 0) (Ai (Bo 0 (O.lp 1000000 (Aa (oV R5) fun v2 => (Aa (o1 ncF (rdV v1)) fun v3 => (Aa (o1 (O.fa 0) (rdV v3)) fun v4 => (Aa (m1 O.ld (rdV v4)) fun v5 => (Aa (o1 O.lv (rdV v5)) fun v6 => (Aa (o2 O.lt (rdV v2) (rdV v6)) fun v7 => (Ai (Af (rdV v7) Ab (Cu 0)) (Ai (Bo 1 (Aa (oV R4) fun v8 => (Aa (o1 ncF (rdV v1)) fun v9 => (Aa (o1 (O.fa 0) (rdV v9)) fun v10 => (Aa (m1 O.ld (rdV v10)) fun v11 => (Aa (oV R5) fun v12 => (Aa (o2 (O.ix 3) (rdV v11) (rdV v12)) fun v13 => (Aa (o1 (O.fa 0) (rdV v13)) fun v14 => (Aa (m1 O.ld (rdV v14)) fun v15 => (Aa (o1 O.ls (rdV v15)) fun v16 => (Aa (o2 O.ad (rdV v8) (rdV v16)) fun v17 => (Aa (o1 ncF (rdV v1)) fun v18 => (Aa (o1 (O.fa 0) (rdV v18)) fun v19 => (Aa (m1 O.ld (rdV v19)) fun v20 => (Aa (oV R5) fun v21 => (Aa (o2 (O.ix 3) (rdV v20) (rdV v21)) fun v22 => (Aa (o1 (O.fa 2) (rdV v22)) fun v23 => (Aa (m1 O.ld (rdV v23)) fun v24 => (Aa (o1 O.ls (rdV v24)) fun v25 => (Aa (o2 O.ad (rdV v17) (rdV v25)) fun v26 => (cWr X4 v26 Ab))))))))))))))))))))) (Aa (oV R5) fun v27 => (Aa (o2 O.ad (rdV v27) (rdV (.n .i64 1))) fun v28 => (cWr X5 v28 Ab))))))))))))) (Aa (o1 ncF (rdV v1)) fun v29 => (Aa (o1 (O.fa 0) (rdV v29)) fun v30 => (Aa (m1 O.ld (rdV v30)) fun v31 => (Aa (o1 O.lv (rdV v31)) fun v32 => (Aa (oV R4) fun v33 => (cWr X2 v32 (cWr X3 v33 Ao)))))))))))) [vT R2, vT R3]))
theorem k34 : QeOk ⟨34, eZ Tryz.f34, p34 zO⟩ := qz 42 1 [2, 3, 4, 5] Tryz.func34 (by kernel_rfl) (by kernel_rfl)
def p52 (O : Oz) : Phi → HF := fnQ (Aw fun v1 => (Bc (cWr X2 (.b false) (cWr X3 (.n .i64 0) (Ai (Bo 0 (O.lp 1000000 (Aa (oV R3) fun v2 => (Aa (o1 O.ls (rdV v1)) fun v3 => (Aa (o2 O.lt (rdV v2) (rdV v3)) fun v4 => (Ai (Af (rdV v4) Ab (Cu 0)) (Ai (Bo 1 (Aa (oV R3) fun v5 => (Aa (o2 O.tx (rdV v1) (rdV v5)) fun v6 => (Aa (o2 O.lt (rdV v6) (rdV (.n .u8 32))) fun v7 => (Aa (oG false (rdV v7) (oV (rdV v1))) fun v8 => (Aa (oG false (rdV v7) (oV R3)) fun v9 => (Aa (oG false (rdV v7) (o2 O.tx (rdV v8) (rdV v9))) fun v10 => (Aa (oG false (rdV v7) (o2 O.eq (rdV v10) (rdV (.n .u8 127)))) fun v11 => (Aa (o3 pkF (rdV v7) (rdV (.b true)) (rdV v11)) fun v12 => (Aa (oG false (rdV v12) (oV (rdV v1))) fun v13 => (Aa (oG false (rdV v12) (oV R3)) fun v14 => (Aa (oG false (rdV v12) (o2 O.tx (rdV v13) (rdV v14))) fun v15 => (Aa (oG false (rdV v12) (o2 O.eq (rdV v15) (rdV (.n .u8 47)))) fun v16 => (Aa (o3 pkF (rdV v12) (rdV (.b true)) (rdV v16)) fun v17 => (Ai (Af (rdV v17) (cWr X2 (.b false) Ao) Ab) Ab))))))))))))))) (Aa (oV R3) fun v18 => (Aa (o2 O.ad (rdV v18) (rdV (.n .i64 1))) fun v19 => (cWr X3 v19 Ab)))))))))) (Aa (o1 O.ls (rdV v1)) fun v20 => (Aa (o2 O.ge (rdV v20) (rdV (.n .i64 1))) fun v21 => (Aa (oG true (rdV v21) (oV (rdV v1))) fun v22 => (Aa (oG true (rdV v21) (o1 O.ls (rdV v22))) fun v23 => (Aa (oG true (rdV v21) (o2 O.le (rdV v23) (rdV (.n .i64 32)))) fun v24 => (Aa (o3 pkF (rdV v21) (rdV v24) (rdV (.b false))) fun v25 => (Aa (oG true (rdV v25) (oV (rdV v1))) fun v26 => (Aa (oG true (rdV v25) (o2 O.ne (rdV v26) (rdV (.s (pack [46]))))) fun v27 => (Aa (o3 pkF (rdV v25) (rdV v27) (rdV (.b false))) fun v28 => (Aa (oG true (rdV v28) (oV (rdV v1))) fun v29 => (Aa (oG true (rdV v28) (o2 O.ne (rdV v29) (rdV (.s (pack [46, 46]))))) fun v30 => (Aa (o3 pkF (rdV v28) (rdV v30) (rdV (.b false))) fun v31 => (cWr X2 v31 Ao)))))))))))))))) [vT R2]))
theorem k52 : QeOk ⟨52, eZ Tryz.f52, p52 zO⟩ := qz 42 1 [2, 3] Tryz.func52 (by kernel_rfl) (by kernel_rfl)
def p49 (O : Oz) : Phi → HF := fnQ (Aw fun v1 => (Bc (cWr X2 (.s (pack [])) (Aa (o1 O.ls (rdV v1)) fun v2 => (Aa (o2 O.sb (rdV v2) (rdV (.n .i64 1))) fun v3 => (cWr X3 v3 (Ai (Bo 0 (O.lp 1000000 (Aa (oV R3) fun v4 => (Aa (o2 O.gt (rdV v4) (rdV (.n .i64 0))) fun v5 => (Aa (oG true (rdV v5) (oV (rdV v1))) fun v6 => (Aa (oG true (rdV v5) (oV R3)) fun v7 => (Aa (oG true (rdV v5) (o2 O.tx (rdV v6) (rdV v7))) fun v8 => (Aa (oG true (rdV v5) (o2 O.ne (rdV v8) (rdV (.n .u8 47)))) fun v9 => (Aa (o3 pkF (rdV v5) (rdV v9) (rdV (.b false))) fun v10 => (Ai (Af (rdV v10) Ab (Cu 0)) (Ai (Bo 1 (Aa (oV R3) fun v11 => (Aa (o2 O.sb (rdV v11) (rdV (.n .i64 1))) fun v12 => (cWr X3 v12 Ab)))) Ab))))))))))) (Aa (oV R3) fun v13 => (Aa (o2 O.eq (rdV v13) (rdV (.n .i64 0))) fun v14 => (Ai (Af (rdV v14) (cWr X2 (.s (pack [47])) Ao) Ab) (Aa (oV R3) fun v15 => (Aa (oSz O.ss (rdV v1) none (some (rdV v15))) fun v16 => (cWr X2 v16 Ao))))))))))) [vT R2]))
theorem k49 : QeOk ⟨49, eZ Tryz.f49, p49 zO⟩ := qz 22 1 [2, 3] Tryz.func49 (by kernel_rfl) (by kernel_rfl)
def p46 (O : Oz) : Phi → HF := fnQ (Aw fun v1 => (Aw fun v2 => (Bc (cWr X4 (.n .i64 0) (cWr X5 (.n .i64 0) (Ai (Bo 0 (O.lp 1000000 (Aa (oV R5) fun v3 => (Aa (o1 ncF (rdV v1)) fun v4 => (Aa (o1 (O.fa 0) (rdV v4)) fun v5 => (Aa (m1 O.ld (rdV v5)) fun v6 => (Aa (o1 O.lv (rdV v6)) fun v7 => (Aa (o2 O.lt (rdV v3) (rdV v7)) fun v8 => (Ai (Af (rdV v8) Ab (Cu 0)) (Ai (Bo 1 (Aa (o1 ncF (rdV v1)) fun v9 => (Aa (o1 (O.fa 0) (rdV v9)) fun v10 => (Aa (m1 O.ld (rdV v10)) fun v11 => (Aa (oV R5) fun v12 => (Aa (o2 (O.ix 3) (rdV v11) (rdV v12)) fun v13 => (Aa (o1 (O.fa 0) (rdV v13)) fun v14 => (Aa (m1 O.ld (rdV v14)) fun v15 => (Aa (o2 O.eq (rdV v15) (rdV v2)) fun v16 => (Ai (Af (rdV v16) (Aa (oV R5) fun v17 => (cWr X4 v17 Ao)) Ab) Ab)))))))))) (Aa (oV R5) fun v18 => (Aa (o2 O.ad (rdV v18) (rdV (.n .i64 1))) fun v19 => (cWr X5 v19 Ab))))))))))))) (cWr X4 (.z .i64 0) Ao)))) [vT R4])))
theorem k46 : QeOk ⟨46, eZ Tryz.f46, p46 zO⟩ := qz 26 2 [4, 5] Tryz.func46 (by kernel_rfl) (by kernel_rfl)
def p51 (O : Oz) : Phi → HF := fnQ (Aw fun v1 => (Aw fun v2 => (Aw fun v3 => (Bc (cWr X6 (.s (pack [])) (cWr X7 (.n .i64 0) (Aa (Ad 32 [(rdV v1), (rdV v2)]) fun v4 => (Aa (o1 (exG 0) (rdV v4)) fun v5 => (Aa (o1 (exG 1) (rdV v4)) fun v6 => (Aa (o2 O.ne (rdV v6) (rdV (.n .i64 0))) fun v7 => (Ai (Af (rdV v7) (cWr X6 (.s (pack [])) (cWr X7 v6 Ao)) Ab) (Aa (Ad 45 [(rdV v1), (rdV v5)]) fun v8 => (Aa (o2 O.eq (rdV v8) (rdV (.n .i64 0))) fun v9 => (Ai (Af (rdV v9) (cWr X6 (.s (pack [])) (cWr X7 (.n .i64 6) Ao)) Ab) (Aa (o2 O.ne (rdV v8) (rdV v3)) fun v10 => (Ai (Af (rdV v10) (cWr X6 (.s (pack [])) (cWr X7 (.n .i64 5) Ao)) Ab) (cWr X6 v5 (cWr X7 (.n .i64 0) Ao)))))))))))))) [vT R6, vT R7]))))
theorem k51 : QeOk ⟨51, eZ Tryz.f51, p51 zO⟩ := qz 29 3 [6, 7] Tryz.func51 (by kernel_rfl) (by kernel_rfl)
def p55 (O : Oz) : Phi → HF := fnQ (Aw fun v1 => (Bc (cWr X2 (.o .sl) (Aa (o1 O.ls (rdV v1)) fun v2 => (Aa (o2 O.qu (rdV v2) (rdV (.n .i64 256))) fun v3 => (Aa (o1 (O.cv .u8) (rdV v3)) fun v4 => (Aa (o1 O.ls (rdV v1)) fun v5 => (Aa (o2 O.rm (rdV v5) (rdV (.n .i64 256))) fun v6 => (Aa (o1 (O.cv .u8) (rdV v6)) fun v7 => (Aa (nL (O.bs 5 1 2) [(rdV v4), (rdV v7)]) fun v8 => (Aa (n2 (O.ap 5 true 1) (rdV v8) (rdV v1)) fun v9 => (cWr X2 v9 Ao)))))))))) [vT R2]))
theorem k55 : QeOk ⟨55, eZ Tryz.f55, p55 zO⟩ := qz 16 1 [2] Tryz.func55 (by kernel_rfl) (by kernel_rfl)
end
end Go.Proofs.YtjoakhpdajlhiaaGreatDoor.V2.S
namespace Go.Proofs.YtjoakhpdajlhiaaGreatDoor.V2.S
open Go
set_option maxRecDepth 100000
set_option maxHeartbeats 4000000
set_option linter.unusedVariables false
attribute [local irreducible] fN fO nM gM pM Phi.fn mp bl Au Be Bh pack
/-! Rows of entries: their cells. -/
def enV (e : En) : List FV := [.s (pack e.path), .b e.dir, .s (pack e.data)]
def ens : List En → List FV
  | [] => []
  | a :: l => enV a ++ ens l
theorem Ef : ∀ l : List En, (ens l).length = l.length * 3
  | [] => rfl
  | a :: l => by rw [ens, List.length_append, Ef l, List.length_cons]; show 3 + _ = _; omega
theorem ens_app : ∀ a b : List En, ens (a ++ b) = ens a ++ ens b
  | [], b => rfl
  | x :: a, b => by rw [List.cons_append, ens, ens, ens_app a b, List.append_assoc]
theorem ens_one1 (a : En) : ens [a] = enV a := by rw [ens, ens, List.append_nil]
theorem Fu : ∀ (l : List En) (r : FR), Ep (ens l) r = r
  | [], r => rfl
  | a :: l, r => Fu l r
theorem enV_one (a : En) (x : FR) : Ep (enV a) x = x := rfl
theorem ens_drop : ∀ {l : List En} {i : Nat} {a : En}, l[i]? = some a → (ens l).drop (i * 3) = enV a ++ ens (l.drop (i + 1))
  | [], i, a, h => by simp at h
  | b :: l, 0, a, h => by simp at h; subst h; rfl
  | b :: l, i + 1, a, h => by
    have h' : l[i]? = some a := by simpa using h
    have := ens_drop h'
    rw [ens, show (i + 1) * 3 = (enV b).length + i * 3 by show _ = 3 + _; omega, List.drop_length_add_append]; exact this
theorem ens_at {l : List En} {i j : Nat} {a : En} (h : l[i]? = some a) (hj : j < 3) : (ens l)[i * 3 + j]? = (enV a)[j]? := by
  have h1 := ens_drop h
  rw [← List.getElem?_drop, h1, List.getElem?_append_left (by show j < 3; exact hj)]
theorem In {l : List En} {i : Nat} {a : En} (h : l[i]? = some a) : (ens l)[i * 3]? = some (.s (pack a.path)) := ens_at (j := 0) h (by decide)
theorem ens_at1 {l : List En} {i : Nat} {a : En} (h : l[i]? = some a) : (ens l)[i * 3 + 1]? = some (.b a.dir) := ens_at (j := 1) h (by decide)
theorem M4 {l : List En} {i : Nat} {a : En} (h : l[i]? = some a) : (ens l)[i * 3 + 2]? = some (.s (pack a.data)) := ens_at (j := 2) h (by decide)
theorem enV_agg (a : En) : βV (Cm (αL (enV a))) = .agg (enV a) := by
  unfold enV
  simp only [αL, αV, Cm, Cv, βV, βL, As]
theorem lnEn {O : Oz} (hO : O = zO) {P : FR} {c : FV → FR} {n : Nat} {m : T FObj} {b i : Nat} {a : En} {l : List En} {e : TypeId} {t : Tl} (ha : Am m b (.cells (ens l) e t)) (hi : l[i]? = some a) (h : c (Eb a) = P) : O.ln 3 (.p b (i * 3)) ⟨n, m⟩ c = P := by
  subst hO
  show (gM ⟨n, m⟩ b fun ob => FObj.rec (motive := fun _ => FR) .bad (fun l _ _ => Ce (i * 3) l fun l => Bw 3 l fun l => Bj l 0 fun m => Bool.rec .bad (agF l c) (Nat.beq m 3 && Nat.ble 1 3)) (fun s _ _ => Bool.rec .bad (fN (Au s (i * 3) 3) fun m => c (.bs m)) (Nat.ble (Nat.add (i * 3) 3) (bl s))) (fun k l e t => slV ((αO (.ints k l e t)).readOk std (i * 3) 3, (αO (.ints k l e t)).read std (i * 3) 3) c) (fun _ => .bad) .bad ob) = P
  rw [Cx ha]
  show (Ce (i * 3) (ens l) fun l => Bw 3 l fun l => Bj l 0 fun m => (Bool.rec .bad (agF l c) (Nat.beq m 3 && Nat.ble 1 3) : FR)) = P
  rw [Cr, Ca, ens_drop hi, show (enV a ++ ens (l.drop (i + 1))).take 3 = enV a from rfl]
  rw [Bv]; show agF (enV a) c = P
  rw [L6 (enV_agg a)]; exact h
theorem lnE1 {O : Oz} (hO : O = zO) {P : FR} {c : FV → FR} {n : Nat} {m : T FObj} {b : Nat} {a : En} {e : TypeId} {t : Tl} (ha : Am m b (.cells (enV a) e t)) (h : c (Eb a) = P) : O.ln 3 (.p b 0) ⟨n, m⟩ c = P := lnA hO ha rfl rfl (enV_agg a) h
theorem bsEn {O : Oz} (hO : O = zO) {P : FR} {k : KV} {n : Nat} {m : T FObj} {e : TypeId} {a : En} (hn : n < 1000000) (h : k (.sl n 0 1 1 true 3) ⟨n + 1, mp m n (.cells (enV a) e .exact)⟩ = P) : O.bs e 3 1 [Eb a] ⟨n, m⟩ k = P := by
  subst hO
  show slN (Bl std (.bslice e 3 1) (αL [.agg (enV a)])) ⟨n, m⟩ k = P
  have e1 : Bl std (.bslice e 3 1) (αL [.agg (enV a)]) = (true, fun b => αV (.sl b 0 1 1 true 3), αO (.cells (enV a) e .exact)) := by
    unfold enV
    generalize pack _ = s1; generalize pack _ = s2; rfl
  rw [e1]
  show (fO (βO (αO (.cells (enV a) e .exact))) fun o => nM ⟨n, m⟩ o fun b σ => fV (βV (αV (.sl b 0 1 1 true 3))) fun w => k w σ) = P
  have e2 : βO (αO (.cells (enV a) e .exact)) = .cells (enV a) e .exact := by
    unfold enV
    simp only [αO, αL, αV, βO, βV, βL, As]
  rw [Gf, e2, Dl hn, Ge]; exact h
theorem bxEn {O : Oz} (hO : O = zO) {P : FR} {k : KV} {n : Nat} {m : T FObj} {e : TypeId} {a : En} (hn : n < 1000000) (h : k (.p n 0) ⟨n + 1, mp m n (.cells (enV a) e .exact)⟩ = P) : O.bx e (Eb a) ⟨n, m⟩ k = P := bxA hO hn (by simp only [αL, αV, AObj.of, Cv, βO, βL, βV, As]) h
theorem ofQ_ens (a : En) (l : List En) (e : TypeId) (t : Tl) (c : FObj → FR) : ofQ (ens (a :: l)) e t c = c (.cells (ens (a :: l)) e t) := rfl
theorem ofQ_ens2 (l : List En) (a : En) (e : TypeId) (t : Tl) (c : FObj → FR) : ofQ (ens (l ++ [a])) e t c = c (.cells (ens (l ++ [a])) e t) := by
  cases l with
  | nil => exact ofQ_ens a [] e t c
  | cons x l => exact ofQ_ens x _ e t c
theorem ens_cat (l : List En) (a : En) : ((ens l).drop 0).take (l.length * 3) ++ ((enV a).drop 0).take (1 * 3) = ens (l ++ [a]) := by
  rw [ens_app, ens_one1, List.drop_zero, List.drop_zero, List.take_of_length_le (by rw [Ef]; exact Nat.le_refl _)]; rfl
def EnAt (m : T FObj) (lo hi : Nat) (v : FV) (o : List En) : Prop := (o = [] ∧ v = .o .sl) ∨ ∃ b, v = .sl b 0 o.length o.length false 3 ∧ lo ≤ b ∧ b < hi ∧ Am m b (.cells (ens o) 70 .more)
theorem apEn {O : Oz} (hO : O = zO) {P : FR} {k : KV} {lo n : Nat} {m : T FObj} {e' : TypeId} {tl' : Tl} {out : List En} {a : En} {v : FV} {b' K' : Nat} {x' : Bool} (hE : EnAt m lo b' v out) (ha' : Am m b' (.cells (enV a) e' tl')) (hb : out.length ≤ 1000) (hlo : lo ≤ n) (hbn : b' < n) (hn : n < 1000000)
    (h : ∀ m2, (∀ b o, b < lo → Am m b o → Am m2 b o) → EnAt m2 lo (n + 1) (.sl n 0 (out.length + 1) (out.length + 1) false 3) (out ++ [a]) → k (.sl n 0 (out.length + 1) (out.length + 1) false 3) ⟨n + 1, m2⟩ = P) : O.ap 70 false 3 v (.sl b' 0 1 K' x' 3) ⟨n, m⟩ k = P := by
  rcases hE with ⟨rfl, rfl⟩ | ⟨b, rfl, h1, h2, h3⟩
  · refine apNC hO ha' (by show 0 + 1 * 3 ≤ 3; omega) (enV_one _) (by omega) (by omega) hn (fun c => ofQ_ens2 [] a 70 _ c) (h _ (fun b o hb ha => Ff hn (by omega) ha) (.inr ⟨n, rfl, hlo, by omega, Ap hn⟩))
  · refine apCC hO h3 ha' (by rw [Ef]; omega) (by show 0 + 1 * 3 ≤ 3; omega) (Fu _) (enV_one _) (by omega) (by rfl) (fun _ => rfl) (by omega) hn (fun c => ?_) ?_
    · rw [ens_cat]; exact ofQ_ens2 _ _ _ _ _
    · rw [ens_cat]
      refine h _ (fun b o hb ha => Ff hn (by omega) (Ff (by omega) (by omega) ha)) (.inr ⟨n, by rw [List.length_append]; rfl, hlo, by omega, Ap hn⟩)
def RowE (m : T FObj) (n : Nat) (v : FV) (l : List En) : Prop := (l = [] ∧ v = .o .sl) ∨ ∃ b K x e tl, v = .sl b 0 l.length K x 3 ∧ b < n ∧ Am m b (.cells (ens l) e tl)
theorem RowE.kq {m m' : T FObj} {n k : Nat} {v : FV} {l : List En} {xs : List Nat} (h : RowE m n v l) (hk : Kq xs k m m') (hn : n ≤ k) (hx : ∀ x ∈ xs, n ≤ x) : RowE m' n v l := by
  rcases h with h | ⟨b, K, x, e, tl, h1, h2, h3⟩
  · exact .inl h
  · exact .inr ⟨b, K, x, e, tl, h1, h2, hk _ _ (by omega) (fun x hx2 => by have := hx x hx2; omega) h3⟩
theorem RowE.kp {m m' : T FObj} {n k : Nat} {v : FV} {l : List En} (h : RowE m n v l) (hk : Kp k m m') (hn : n ≤ k) : RowE m' n v l := h.kq (Kq.of hk []) hn (fun x hx => absurd hx List.not_mem_nil)
theorem RowE.up {m : T FObj} {n n' : Nat} {v : FV} {l : List En} (h : RowE m n v l) (hn : n ≤ n') : RowE m n' v l := by
  rcases h with h | ⟨b, K, x, e, tl, h1, h2, h3⟩
  · exact .inl h
  · exact .inr ⟨b, K, x, e, tl, h1, by omega, h3⟩
theorem EnAt.row {m : T FObj} {lo hi : Nat} {v : FV} {o : List En} (h : EnAt m lo hi v o) : RowE m hi v o := by
  rcases h with h | ⟨b, h1, h2, h3, h4⟩
  · exact .inl h
  · exact .inr ⟨b, _, _, _, _, h1, h3, h4⟩
theorem EnAt.nil (m : T FObj) (lo hi : Nat) : EnAt m lo hi (.o .sl) [] := .inl ⟨rfl, rfl⟩
theorem EnAt.kp {m m' : T FObj} {lo hi k : Nat} {v : FV} {o : List En} (h : EnAt m lo hi v o) (hk : Kp k m m') (hn : hi ≤ k) : EnAt m' lo hi v o := by
  rcases h with h | ⟨b, h1, h2, h3, h4⟩
  · exact .inl h
  · exact .inr ⟨b, h1, h2, h3, hk _ _ (by omega) h4⟩
theorem EnAt.up {m : T FObj} {lo hi hi' : Nat} {v : FV} {o : List En} (h : EnAt m lo hi v o) (hn : hi ≤ hi') : EnAt m lo hi' v o := by
  rcases h with h | ⟨b, h1, h2, h3, h4⟩
  · exact .inl h
  · exact .inr ⟨b, h1, h2, by omega, h4⟩
theorem lvE {O : Oz} (hO : O = zO) {P : FR} {c : FV → FR} {m : T FObj} {n : Nat} {v : FV} {l : List En} (h : RowE m n v l) (hc : c (.n .i64 l.length) = P) : O.lv v c = P := by
  rcases h with ⟨rfl, rfl⟩ | ⟨b, K, x, e, tl, rfl, h2, h3⟩
  · exact lvN hO hc
  · exact lvS hO hc
structure RTree (m : T FObj) (rb n : Nat) (v : FV) (t : Tr) : Prop where
  s : Am m rb (.cells [v, .s (pack t.cwd)] 42 .exact)
  r : RowE m n v t.L
/-! Strings compared. -/
theorem geSB {O : Oz} (hO : O = zO) {P : FR} {c : FV → FR} {a b : Bs} (h1 : ¬ a < b → c (.b true) = P) (h0 : a < b → c (.b false) = P) : O.ge (.s (pack a)) (.s (pack b)) c = P := by
  subst hO
  show gS .geq (pack a) (pack b) c = P
  unfold gS
  rw [As, As]
  show gB true (c (.b (!Op.bytesLess a b))) = P
  rw [bytesLess_eq]
  by_cases h : a < b
  · rw [decide_eq_true h]; exact h0 h
  · rw [decide_eq_false h]; exact h1 h
end Go.Proofs.YtjoakhpdajlhiaaGreatDoor.V2.S
namespace Go.Proofs.YtjoakhpdajlhiaaGreatDoor.V2.S
open Go
set_option maxRecDepth 100000
set_option linter.unusedVariables false
theorem nm0 {y : Nat} : ∀ x ∈ ([] : List Nat), y ≠ x := fun x hx => absurd hx List.not_mem_nil
theorem nm1 {y a : Nat} (h : y ≠ a) : ∀ x ∈ [a], y ≠ x := fun x hx => by rw [List.mem_singleton.1 hx]; exact h
theorem nm2 {y a b : Nat} (h : y ≠ a) (h2 : y ≠ b) : ∀ x ∈ [a, b], y ≠ x := fun x hx => by
  rcases List.mem_cons.1 hx with hx | hx
  · rw [hx]; exact h
  · rw [List.mem_singleton.1 hx]; exact h2
theorem RTree.kp {m m' : T FObj} {rb nn n : Nat} {v : FV} {t : Tr} (h : RTree m rb nn v t) (hk : Kp n m m') (h1 : rb < n) (h2 : nn ≤ n) : RTree m' rb nn v t := ⟨hk _ _ h1 h.s, h.r.kp hk h2⟩
theorem RTree.up {m : T FObj} {rb nn n : Nat} {v : FV} {t : Tr} (h : RTree m rb nn v t) (h2 : nn ≤ n) : RTree m rb n v t := ⟨h.s, h.r.up h2⟩
end Go.Proofs.YtjoakhpdajlhiaaGreatDoor.V2.S
namespace Go.Proofs.YtjoakhpdajlhiaaGreatDoor.V2.S
open Go
set_option maxRecDepth 100000
set_option maxHeartbeats 4000000
set_option linter.unusedVariables false
attribute [local irreducible] fN fO nM gM pM Phi.fn mp bl Au Be Bh pack
theorem few_nil {O : Oz} (hO : O = zO) (Φ : Phi) (n : Nat) (m : T FObj) : Eq (p6 O Φ) [.o .sl] n m (.o .sl) := fun k P hf => by
  skip
  all_goals (conv => lhs; whnf)
  all_goals first
    | refine lpI hO (fun q e n' m' => q = 0 ∧ n' = n ∧ m' = m ∧ e = eof [(2, .o .sl), (3, .o .sl), (4, .n .i64 0)]) ?_ ?_ _ 0 _ _ _ (by omega) ⟨rfl, rfl, rfl, rfl⟩
  · rintro q e n' m' ⟨_, rfl, _⟩; omega
  · rintro q e n' m' ih ⟨rfl, rfl, rfl, rfl⟩ hih
    repeat' ((conv => lhs; whnf); first | ((with_reducible refine lvN hO ?_)) | ((with_reducible refine ltF hO (by omega) ?_)))
    all_goals (conv => lhs; whnf)
    all_goals first
      | exact hf
end Go.Proofs.YtjoakhpdajlhiaaGreatDoor.V2.S
namespace Go.Proofs.YtjoakhpdajlhiaaGreatDoor.V2.S
open Go
set_option maxRecDepth 100000
set_option linter.unusedVariables false
theorem good_of {n : Bs} (h : Bg n = true) : Good n := by
  have h' := h
  unfold Bg at h
  simp only [Bool.and_eq_true, decide_eq_true_eq, Bool.not_eq_true'] at h
  obtain ⟨⟨⟨⟨h1, h2⟩, h3⟩, h4⟩, h5⟩ := h
  refine ⟨h', ?_, h1, h2, h3⟩
  unfold An
  rw [List.count_eq_zero]
  intro hm
  rw [List.any_eq_false] at h5
  exact h5 47 hm (by decide)
structure St (t : Tr) (a : Bs) (ns : List Bs) : Prop where
  g : ∀ x ∈ ns, Good x
  e : a = Ck ns
  k : ∀ j, j < ns.length → Al t (Ck (ns.take j)) = 1
theorem Gh {a : List Bs} {n : Bs} (hn : Good n) : Ck (a ++ [n]) ≠ [47] := by
  rw [C6]
  intro h
  have := congrArg List.length h
  have h1 := List.length_pos_iff.2 hn.e1
  simp only [List.length_append, List.length_cons, List.length_nil] at this
  omega
theorem dirP_inj {a b : List Bs} (ha : ∀ x ∈ a, Good x) (hb : ∀ x ∈ b, Good x) (h : Ck a = Ck b) : a = b := by
  rcases List.eq_nil_or_concat a with rfl | ⟨c, x, rfl⟩
  · rcases List.eq_nil_or_concat b with rfl | ⟨d, y, rfl⟩
    · rfl
    · rw [List.concat_eq_append] at *
      exact absurd h.symm (Gh (hb y (by simp)))
  · rw [List.concat_eq_append] at *
    rcases List.eq_nil_or_concat b with rfl | ⟨d, y, rfl⟩
    · exact absurd h (Gh (ha x (by simp)))
    · rw [List.concat_eq_append] at *
      rw [Ck, if_neg (by simp), Ck, if_neg (by simp)] at h
      have := congrArg Ak h
      rw [split_pF fun n hn => (ha n hn).c0, split_pF fun n hn => (hb n hn).c0] at this
      exact (List.cons.inj this).2
theorem kind_some {t : Tr} {p : Bs} (h : Al t p ≠ 0) (hp : p ≠ [47]) : ∃ e, Dy t p = some e ∧ e ∈ t.L ∧ e.path = p ∧ Al t p = if e.dir then 1 else 2 := by
  unfold Al at h ⊢
  rw [if_neg hp] at h ⊢
  cases hl : Dy t p with
  | none => rw [hl] at h; exact absurd rfl h
  | some e => exact ⟨e, rfl, Gs hl, (B2 hl).2, rfl⟩
theorem kind_of {t : Tr} {p : Bs} {e : En} (hl : Dy t p = some e) (hp : p ≠ [47]) : Al t p = if e.dir then 1 else 2 := by
  unfold Al; rw [if_neg hp, hl]
theorem kind_no {t : Tr} {p : Bs} (hl : Dy t p = none) (hp : p ≠ [47]) : Al t p = 0 := by
  unfold Al; rw [if_neg hp, hl]
theorem J9 (t : Tr) (p : Bs) : Al t p = 0 ∨ Al t p = 1 ∨ Al t p = 2 := by
  unfold Al
  split
  · exact .inr (.inl rfl)
  split
  · split
    · exact .inr (.inl rfl)
    · exact .inr (.inr rfl)
  · exact .inl rfl
structure OkT (t : Tr) : Prop where
  en : ∀ e ∈ t.L, ∃ ns n, (∀ x ∈ ns, Good x) ∧ Good n ∧ e.path = Ck (ns ++ [n]) ∧ Al t (Ck ns) = 1
  cw : ∃ ns, (∀ x ∈ ns, Good x) ∧ t.cwd = Ck ns ∧ Al t t.cwd = 1
  dd : ∀ e ∈ t.L, e.dir = true → e.data = []
theorem OkT.up {t : Tr} (h : OkT t) {ms : List Bs} {n : Bs} (hm : ∀ x ∈ ms, Good x) (hn : Good n) (hk : Al t (Ck (ms ++ [n])) ≠ 0) : Al t (Ck ms) = 1 := by
  obtain ⟨e, h1, h2, h3, _⟩ := kind_some hk (Gh hn)
  obtain ⟨ns, n', g1, g2, g3, g4⟩ := h.en e h2
  have : ms ++ [n] = ns ++ [n'] := dirP_inj (fun x hx => (List.mem_append.1 hx).elim (hm x) fun h => by rw [List.mem_singleton.1 h]; exact hn) (fun x hx => (List.mem_append.1 hx).elim (g1 x) fun h => by rw [List.mem_singleton.1 h]; exact g2) (h3.symm.trans g3)
  obtain ⟨rfl, _⟩ := List.append_inj' this rfl
  exact g4
theorem OkT.chain {t : Tr} (h : OkT t) : ∀ (k : Nat) (ns : List Bs), ns.length = k → (∀ x ∈ ns, Good x) → Al t (Ck ns) ≠ 0 → ∀ j, j < ns.length → Al t (Ck (ns.take j)) = 1
  | 0, ns, hl, _, _, j, hj => by omega
  | k + 1, ns, hl, hg, hk, j, hj => by
    rcases List.eq_nil_or_concat ns with rfl | ⟨ms, n, rfl⟩
    · cases hl
    · rw [List.concat_eq_append] at *
      rw [List.length_append, List.length_singleton] at hl hj
      have hm : ∀ x ∈ ms, Good x := fun x hx => hg x (by simp [hx])
      have h1 := h.up hm (hg n (by simp)) hk
      rcases Nat.lt_or_ge j ms.length with h2 | h2
      · rw [List.take_append_of_le_length (by omega)]
        exact OkT.chain h k ms (by omega) hm (by omega) j h2
      · rw [List.take_left' (by omega)]; exact h1
theorem OkT.st {t : Tr} (h : OkT t) {ns : List Bs} (hg : ∀ x ∈ ns, Good x) (hk : Al t (Ck ns) ≠ 0) : St t (Ck ns) ns := ⟨hg, rfl, h.chain _ ns rfl hg hk⟩
theorem Ju {t : Tr} {a b p : Bs} {ns : List Bs} (hs : St t a ns) (h : Bb t a p = .inr b) : ∃ ms, St t b ms := by
  obtain ⟨hg, rfl, hk⟩ := hs
  unfold Bb at h
  split at h
  · cases h; exact ⟨ns, hg, rfl, hk⟩
  rename_i h1
  split at h
  · cases h
  rename_i h2
  split at h
  · cases h
  rename_i h3
  split at h
  · cases h
  rename_i h4
  have h5 : Al t (Ck ns) = 1 := by have := J9 t (Ck ns); omega
  split at h
  · cases h
    rcases List.eq_nil_or_concat ns with rfl | ⟨ms, n, rfl⟩
    · exact ⟨[], hg, by decide, hk⟩
    · rw [List.concat_eq_append] at *
      rw [Hn ms (hg n (by simp))]
      exact ⟨ms, fun x hx => hg x (by simp [hx]), rfl, fun j hj => by
        have := hk j (by rw [List.length_append]; omega)
        rwa [List.take_append_of_le_length (by omega)] at this⟩
  · rename_i h6
    cases h
    have hn : Good p := good_of (by
      cases hq : Bg p with
      | true => rfl
      | false => exact absurd ⟨h6, hq⟩ h2)
    rw [Ga hg]
    refine ⟨ns ++ [p], fun x hx => (List.mem_append.1 hx).elim (hg x) fun h => by rw [List.mem_singleton.1 h]; exact hn, rfl, fun j hj => ?_⟩
    rw [List.length_append, List.length_singleton] at hj
    rcases Nat.lt_or_ge j ns.length with h7 | h7
    · rw [List.take_append_of_le_length (by omega)]; exact hk j h7
    · rw [List.take_left' (by omega)]; exact h5
theorem loop_st {t : Tr} : ∀ {ps : List Bs} {a b : Bs} {ns : List Bs}, St t a ns → A3 t a ps = .inr b → ∃ ms, St t b ms
  | [], a, b, ns, hs, h => by unfold A3 at h; cases h; exact ⟨ns, hs⟩
  | p :: ps, a, b, ns, hs, h => by
    unfold A3 at h
    cases hq : Bb t a p with
    | inl e => rw [hq] at h; cases h
    | inr c =>
      rw [hq] at h
      obtain ⟨ms, h1⟩ := Ju hs hq
      exact loop_st h1 h
theorem OkT.abs {t : Tr} (h : OkT t) {path : Bs} (h0 : (Ae t path).2 = 0) : ∃ ns, St t (Ae t path).1 ns := by
  unfold Ae at h0 ⊢
  split
  · rename_i hh; rw [if_pos hh] at h0; cases h0
  · rename_i hh
    rw [if_neg hh] at h0
    cases hl : A3 t (if Cq path [47] then [47] else t.cwd) (Ak path) with
    | inl e =>
      rw [hl] at h0
      have : e = 0 := h0
      exact absurd hl (by subst this; exact Lk)
    | inr a =>
      obtain ⟨ns, g1, g2, g3⟩ := h.cw
      have hc : St t t.cwd ns := ⟨g1, g2, h.chain _ ns rfl g1 (by rw [← g2, g3]; decide)⟩
      by_cases hp : Cq path [47] = true
      · rw [if_pos hp] at hl
        exact loop_st (ns := []) ⟨fun x hx => absurd hx List.not_mem_nil, rfl, fun j hj => absurd hj (Nat.not_lt_zero _)⟩ hl
      · rw [if_neg hp] at hl
        exact loop_st hc hl
theorem look_set (p : Bs) (x : En) : ∀ L : List En, Av En.path p (setM En.path x L) = if x.path = p then some x else Av En.path p L
  | [] => rfl
  | a :: L => by
    unfold setM
    by_cases ha : a.path = x.path
    · rw [if_pos ha]
      unfold Av
      by_cases hp : x.path = p
      · rw [if_pos hp, if_pos hp]
      · rw [if_neg hp, if_neg hp, if_neg (by rw [ha]; exact hp)]
    · rw [if_neg ha]
      unfold Av
      by_cases hp : a.path = p
      · rw [if_pos hp, if_pos hp, if_neg (fun h => ha (by rw [hp, h]))]
      · rw [if_neg hp, if_neg hp, look_set p x L]
theorem J7 {p a : Bs} : ∀ {L : List En}, (L.map En.path).Nodup → Av En.path p (D4 En.path a L) = if p = a then none else Av En.path p L
  | [], _ => by simp [D4, Av]
  | b :: L, hn => by
    rw [List.map_cons, List.nodup_cons] at hn
    unfold D4
    by_cases hb : b.path = a
    · rw [if_pos hb]
      by_cases hp : p = a
      · rw [if_pos hp]
        cases hl : Av En.path p L with
        | none => rfl
        | some e =>
          have h1 := Gs hl
          have h2 := (B2 hl).2
          exact absurd (List.mem_map_of_mem (f := En.path) h1) (by rw [h2, hp, ← hb]; exact hn.1)
      · rw [if_neg hp]
        conv => rhs; unfold Av
        rw [if_neg (fun h => hp (by rw [← h, hb]))]
    · rw [if_neg hb]
      unfold Av
      by_cases hp : b.path = p
      · rw [if_pos hp, if_pos hp, if_neg (fun h => hb (by rw [hp, h]))]
      · rw [if_neg hp, if_neg hp, J7 hn.2]
theorem kind_set {t : Tr} {x : En} {p : Bs} (hx : x.path ≠ [47]) : Al { t with L := setM En.path x t.L } p = if x.path = p then (if x.dir then 1 else 2) else Al t p := by
  unfold Al Dy
  rw [look_set]
  by_cases hp : x.path = p
  · rw [if_pos hp, if_pos hp, if_neg (fun h => hx (by rw [hp, h]))]
  · rw [if_neg hp, if_neg hp]
theorem kind_del {t : Tr} {a p : Bs} (hn : (t.L.map En.path).Nodup) (ha : a ≠ [47]) : Al { t with L := D4 En.path a t.L } p = if p = a then 0 else Al t p := by
  unfold Al Dy
  rw [J7 hn]
  by_cases hp : p = a
  · rw [if_pos hp, if_pos hp, if_neg (fun h => ha (by rw [← hp, h]))]
  · rw [if_neg hp, if_neg hp]
theorem putG_ok {t : Tr} {x : En} (h : (Cn t x).2 = 0) : (Cn t x).1 = { t with L := setM En.path x t.L } ∧ x.path.length ≤ 256 ∧ x.data.length ≤ 8192 := by
  unfold Cn at h ⊢
  split
  · rename_i hh; rw [if_pos hh] at h; cases h
  rename_i h1
  rw [if_neg h1] at h
  split
  · rename_i hh; rw [if_pos hh] at h; cases h
  · exact ⟨rfl, by omega, by omega⟩
theorem putG_no {t : Tr} {x : En} (h : (Cn t x).2 ≠ 0) : (Cn t x).1 = t := by
  unfold Cn at h ⊢
  split
  · rfl
  rename_i h1
  rw [if_neg h1] at h
  split
  · rfl
  rename_i h2
  rw [if_neg h2] at h; exact absurd rfl h
theorem OkT.set {t : Tr} (h : OkT t) {x : En} {ns : List Bs} {n : Bs} (hg : ∀ y ∈ ns, Good y) (hn : Good n) (hx : x.path = Ck (ns ++ [n])) (hp : Al t (Ck ns) = 1) (hk : x.dir = true ∧ x.data = [] ∨ x.dir = false ∧ Al t x.path ≠ 1) : OkT { t with L := setM En.path x t.L } := by
  have hxn : x.path ≠ [47] := by rw [hx]; exact Gh hn
  have keep : ∀ p, Al t p = 1 → Al { t with L := setM En.path x t.L } p = 1 := fun p hp => by
    rw [kind_set hxn]
    split
    · rename_i he
      subst he
      rcases hk with ⟨h1, _⟩ | ⟨h1, h2⟩
      · rw [if_pos h1]
      · exact absurd hp h2
    · exact hp
  refine ⟨fun e he => ?_, ?_, fun e he hd => ?_⟩
  · rcases setM_mem he with rfl | he
    · exact ⟨ns, n, hg, hn, hx, keep _ hp⟩
    · obtain ⟨ms, m, h1, h2, h3, h4⟩ := h.en e he
      exact ⟨ms, m, h1, h2, h3, keep _ h4⟩
  · obtain ⟨ms, h1, h2, h3⟩ := h.cw
    exact ⟨ms, h1, h2, keep _ h3⟩
  · rcases setM_mem he with rfl | he
    · rcases hk with ⟨_, h1⟩ | ⟨h1, _⟩
      · exact h1
      · rw [hd] at h1; cases h1
    · exact h.dd e he hd
theorem OkT.del {t : Tr} (h : OkT t) (hW : WfT t) {a : Bs} (ha : a ≠ [47]) (hc : a ≠ t.cwd) (hw : Bk t a = false) : OkT { t with L := D4 En.path a t.L } := by
  have hsub : ∀ e, e ∈ D4 En.path a t.L → e ∈ t.L := fun e he => (Hz a t.L).subset he
  refine ⟨fun e he => ?_, ?_, fun e he hd => h.dd e (hsub e he) hd⟩
  · obtain ⟨ms, m, h1, h2, h3, h4⟩ := h.en e (hsub e he)
    refine ⟨ms, m, h1, h2, h3, ?_⟩
    show Al { t with L := D4 En.path a t.L } (Ck ms) = 1
    rw [kind_del hW.nd ha, if_neg, h4]
    intro hq
    unfold Bk at hw
    rw [List.any_eq_false] at hw
    exact hw e (hsub e he) (by rw [h3, Hn ms h2, hq]; simp)
  · obtain ⟨ms, h1, h2, h3⟩ := h.cw
    refine ⟨ms, h1, h2, ?_⟩
    show Al { t with L := D4 En.path a t.L } t.cwd = 1
    rw [kind_del hW.nd ha, if_neg (fun hq => hc hq.symm), h3]
theorem St.last {t : Tr} {a : Bs} {ns : List Bs} (h : St t a ns) (ha : a ≠ [47]) : ∃ ms m, (∀ y ∈ ms, Good y) ∧ Good m ∧ a = Ck (ms ++ [m]) ∧ Al t (Ck ms) = 1 ∧ ns = ms ++ [m] := by
  obtain ⟨hg, rfl, hk⟩ := h
  rcases List.eq_nil_or_concat ns with rfl | ⟨ms, m, rfl⟩
  · exact absurd rfl ha
  · rw [List.concat_eq_append] at *
    refine ⟨ms, m, fun y hy => hg y (by simp [hy]), hg m (by simp), rfl, ?_, rfl⟩
    have := hk ms.length (by simp)
    rwa [List.take_left' rfl] at this
theorem write_eq {t : Tr} {path data : Bs} {more : Bool} (h : (Bp t path data more).2 = 0) : (Ae t path).2 = 0 ∧ Al t (Ae t path).1 ≠ 1 ∧ (Cn t ⟨(Ae t path).1, false, if more then C3 t (Ae t path).1 ++ data else data⟩).2 = 0 ∧ (Bp t path data more).1 = { t with L := setM En.path ⟨(Ae t path).1, false, if more then C3 t (Ae t path).1 ++ data else data⟩ t.L } := by
  unfold Bp at h ⊢
  by_cases h1 : (Ae t path).2 ≠ 0
  · rw [if_pos h1] at h; exact absurd h h1
  rw [if_neg h1] at h ⊢
  by_cases h2 : Al t (Ae t path).1 = 1
  · rw [if_pos h2] at h; cases h
  rw [if_neg h2] at h ⊢
  exact ⟨by omega, h2, h, (putG_ok h).1⟩
theorem write_no {t : Tr} {path data : Bs} {more : Bool} (h : (Bp t path data more).2 ≠ 0) : (Bp t path data more).1 = t := by
  unfold Bp at h ⊢
  split
  · rfl
  rename_i h1
  rw [if_neg h1] at h
  split
  · rfl
  rename_i h2
  rw [if_neg h2] at h; exact putG_no h
theorem make_eq {t : Tr} {path : Bs} (h : (Co t path).2 = 0) : (Ae t path).2 = 0 ∧ Al t (Ae t path).1 = 0 ∧ (Cn t ⟨(Ae t path).1, true, []⟩).2 = 0 ∧ (Co t path).1 = { t with L := setM En.path ⟨(Ae t path).1, true, []⟩ t.L } := by
  unfold Co at h ⊢
  by_cases h1 : (Ae t path).2 ≠ 0
  · rw [if_pos h1] at h; exact absurd h h1
  rw [if_neg h1] at h ⊢
  by_cases h2 : Al t (Ae t path).1 ≠ 0
  · rw [if_pos h2] at h; cases h
  rw [if_neg h2] at h ⊢
  exact ⟨by omega, by omega, h, (putG_ok h).1⟩
theorem make_no {t : Tr} {path : Bs} (h : (Co t path).2 ≠ 0) : (Co t path).1 = t := by
  unfold Co at h ⊢
  split
  · rfl
  rename_i h1
  rw [if_neg h1] at h
  split
  · rfl
  rename_i h2
  rw [if_neg h2] at h; exact putG_no h
theorem remove_eq {t : Tr} {path : Bs} (h : (Ax t path).2 = 0) : (Ae t path).2 = 0 ∧ Al t (Ae t path).1 ≠ 0 ∧ ¬ G9 t (Ae t path).1 ∧ Bk t (Ae t path).1 = false ∧ (Ax t path).1 = { t with L := D4 En.path (Ae t path).1 t.L } := by
  unfold Ax at h ⊢
  by_cases h1 : (Ae t path).2 ≠ 0
  · rw [if_pos h1] at h; exact absurd h h1
  rw [if_neg h1] at h ⊢
  by_cases h2 : Al t (Ae t path).1 = 0
  · rw [if_pos h2] at h; cases h
  rw [if_neg h2] at h ⊢
  by_cases h3 : G9 t (Ae t path).1
  · rw [if_pos h3] at h; cases h
  rw [if_neg h3] at h ⊢
  by_cases h4 : Bk t (Ae t path).1 = true
  · rw [if_pos h4] at h; cases h
  rw [if_neg h4]
  exact ⟨by omega, h2, h3, by simpa using h4, rfl⟩
theorem remove_no {t : Tr} {path : Bs} (h : (Ax t path).2 ≠ 0) : (Ax t path).1 = t := by
  unfold Ax at h ⊢
  split
  · rfl
  rename_i h1
  rw [if_neg h1] at h
  split
  · rfl
  rename_i h2
  rw [if_neg h2] at h
  split
  · rfl
  rename_i h3
  rw [if_neg h3] at h
  split
  · rfl
  rename_i h4
  rw [if_neg h4] at h; exact absurd rfl h
theorem is_eq {t : Tr} {path : Bs} {kd : Nat} (h : (isG t path kd).2 = 0) : (Ae t path).2 = 0 ∧ Al t (Ae t path).1 = kd ∧ (isG t path kd).1 = (Ae t path).1 := by
  unfold isG at h ⊢
  by_cases h1 : (Ae t path).2 ≠ 0
  · rw [if_pos h1] at h; exact absurd h h1
  rw [if_neg h1] at h ⊢
  by_cases h2 : Al t (Ae t path).1 = kd
  · rw [if_pos h2]; exact ⟨by omega, h2, rfl⟩
  rw [if_neg h2] at h
  split at h <;> cases h
theorem cd_no {t : Tr} {path : Bs} (h : (cdG t path).2 ≠ 0) : (cdG t path).1 = t := by
  unfold cdG at h ⊢
  split
  · rfl
  rename_i h1
  rw [if_neg h1] at h; exact absurd rfl h
theorem cd_eq {t : Tr} {path : Bs} (h : (cdG t path).2 = 0) : (Ae t path).2 = 0 ∧ Al t (Ae t path).1 = 1 ∧ (cdG t path).1 = { t with cwd := (Ae t path).1 } := by
  unfold cdG at h ⊢
  by_cases h1 : (isG t path 1).2 ≠ 0
  · rw [if_pos h1] at h; exact absurd h h1
  rw [if_neg h1]
  obtain ⟨g1, g2, g3⟩ := is_eq (by omega : (isG t path 1).2 = 0)
  exact ⟨g1, g2, by rw [g3]⟩
theorem OkT.new : OkT newG := ⟨fun e he => absurd he List.not_mem_nil, ⟨[], fun x hx => absurd hx List.not_mem_nil, rfl, rfl⟩, fun e he => absurd he List.not_mem_nil⟩
theorem OkT.write {t : Tr} (h : OkT t) (path data : Bs) (more : Bool) : OkT (Bp t path data more).1 := by
  by_cases h0 : (Bp t path data more).2 = 0
  · obtain ⟨h1, h2, h3, h4⟩ := write_eq h0
    rw [h4]
    obtain ⟨ns, hs⟩ := h.abs h1
    obtain ⟨ms, m, g1, g2, g3, g4, _⟩ := hs.last (fun he => h2 (by rw [he]; rfl))
    exact h.set g1 g2 g3 g4 (.inr ⟨rfl, h2⟩)
  · rw [write_no h0]; exact h
theorem OkT.make {t : Tr} (h : OkT t) (path : Bs) : OkT (Co t path).1 := by
  by_cases h0 : (Co t path).2 = 0
  · obtain ⟨h1, h2, h3, h4⟩ := make_eq h0
    rw [h4]
    obtain ⟨ns, hs⟩ := h.abs h1
    obtain ⟨ms, m, g1, g2, g3, g4, _⟩ := hs.last (fun he => by rw [he] at h2; cases h2)
    exact h.set g1 g2 g3 g4 (.inl ⟨rfl, rfl⟩)
  · rw [make_no h0]; exact h
theorem OkT.remove {t : Tr} (h : OkT t) (hW : WfT t) (path : Bs) : OkT (Ax t path).1 := by
  by_cases h0 : (Ax t path).2 = 0
  · obtain ⟨h1, h2, h3, h4, h5⟩ := remove_eq h0
    rw [h5]
    exact h.del hW (fun he => h3 (.inl he)) (fun he => h3 (.inr (.inl he))) h4
  · rw [remove_no h0]; exact h
theorem OkT.cd {t : Tr} (h : OkT t) (path : Bs) : OkT (cdG t path).1 := by
  by_cases h0 : (cdG t path).2 = 0
  · obtain ⟨h1, h2, h3⟩ := cd_eq h0
    rw [h3]
    obtain ⟨ns, hs⟩ := h.abs h1
    exact ⟨fun e he => h.en e he, ⟨ns, hs.g, hs.e, h2⟩, h.dd⟩
  · rw [cd_no h0]; exact h
end Go.Proofs.YtjoakhpdajlhiaaGreatDoor.V2.S
namespace Go.Proofs.YtjoakhpdajlhiaaGreatDoor.V2.S
open Go
set_option maxRecDepth 100000
set_option linter.unusedVariables false
def twoB (a : Nat) : Bs := [UInt8.ofNat (a / 256 % 256), UInt8.ofNat (a % 256)]
def Es (s : Bs) : Bs := (twoB s.length).take 2 ++ s
theorem A6 (s : Bs) : (Es s).length = 2 + s.length := by unfold Es; rw [List.length_append]; rfl
def entB (e : En) : Bs := [if e.dir then 1 else 2] ++ Es e.path ++ (if e.dir then [] else Es e.data)
def G0 (t : Tr) : Bs := Es t.cwd ++ twoB t.L.length ++ (A2 t.L).flatMap entB
def preB (t : Tr) : Bs := Es t.cwd ++ twoB t.L.length
def byI (t : Tr) (i : Nat) : Bs := preB t ++ ((A2 t.L).take i).flatMap entB
theorem byI_0 (t : Tr) : byI t 0 = preB t := by unfold byI; rw [List.take_zero, List.flatMap_nil, List.append_nil]
theorem byI_all (t : Tr) : byI t t.L.length = G0 t := by unfold byI G0 preB; rw [List.take_of_length_le (by rw [C4]; exact Nat.le_refl _)]
theorem Kj {t : Tr} {i : Nat} {e : En} (h : (A2 t.L)[i]? = some e) : byI t (i + 1) = byI t i ++ entB e := by
  unfold byI
  rw [List.take_add_one, h, List.flatMap_append, List.append_assoc]
  show _ ++ (_ ++ [e].flatMap entB) = _
  rw [List.flatMap_singleton]
theorem entB_len (e : En) : (entB e).length ≤ 5 + e.path.length + e.data.length := by
  unfold entB
  split <;> simp only [List.length_append, A6, List.length_cons, List.length_nil] <;> omega
theorem ents_len : ∀ l : List En, (l.flatMap entB).length ≤ 5 * l.length + At l
  | [] => Nat.le_refl _
  | e :: l => by
    rw [List.flatMap_cons, List.length_append, List.length_cons]
    have := entB_len e
    have := ents_len l
    show _ ≤ _ + (e.path.length + e.data.length + At l)
    omega
theorem byI_len {t : Tr} (hW : WfT t) (i : Nat) : (byI t i).length ≤ 34000 := by
  unfold byI preB
  rw [List.length_append, List.length_append, A6]
  have h1 := ents_len ((A2 t.L).take i)
  have h2 := D2 (A2 t.L) i
  rw [Eh (A0 t.L)] at h2
  have h3 := hW.len
  have h4 := hW.sz
  have h5 := hW.c2
  have h6 : ((A2 t.L).take i).length ≤ t.L.length := by rw [List.length_take, C4]; omega
  show _ + 2 + _ ≤ _
  omega
theorem tk0 {l : Bs} {L : Nat} (h : L = l.length) : (l.drop 0).take L = l := by rw [List.drop_zero, h, List.take_length]
theorem preB_eq (t : Tr) : preB t = ((Es t.cwd).drop 0).take (2 + t.cwd.length) ++ ((twoB t.L.length).drop 0).take 2 := by
  rw [tk0 (A6 _).symm]; rfl
theorem preB_len (t : Tr) : 2 + t.cwd.length + 2 = (byI t 0).length := by rw [byI_0]; unfold preB; rw [List.length_append, A6]; rfl
theorem ent_dir {t : Tr} {i L : Nat} {e : En} (hL : L = (byI t i).length) (he : (A2 t.L)[i]? = some e) (hd : e.dir = true) : byI t (i + 1) = ((((byI t i).drop 0).take L ++ (([UInt8.ofNat 1] : Bs).drop 0).take 1).drop 0).take (L + 1) ++ ((Es e.path).drop 0).take (2 + e.path.length) := by
  rw [tk0 hL, tk0 (l := [UInt8.ofNat 1]) (L := 1) rfl, tk0 (by rw [List.length_append, hL]; rfl), tk0 (A6 _).symm, Kj he]
  unfold entB
  rw [if_pos hd, if_pos hd, List.append_nil, ← List.append_assoc]; rfl
theorem ent_file {t : Tr} {i L : Nat} {e : En} (hL : L = (byI t i).length) (he : (A2 t.L)[i]? = some e) (hd : e.dir = false) : byI t (i + 1) = ((((((byI t i).drop 0).take L ++ (([UInt8.ofNat 2] : Bs).drop 0).take 1).drop 0).take (L + 1) ++ ((Es e.path).drop 0).take (2 + e.path.length)).drop 0).take (L + 1 + (2 + e.path.length)) ++ ((Es e.data).drop 0).take (2 + e.data.length) := by
  rw [tk0 hL, tk0 (l := [UInt8.ofNat 2]) (L := 1) rfl, tk0 (l := byI t i ++ [UInt8.ofNat 2]) (L := L + 1) (by rw [List.length_append, hL]; rfl), tk0 (l := Es e.path) (A6 _).symm, tk0 (l := Es e.data) (A6 _).symm, tk0 (l := byI t i ++ [UInt8.ofNat 2] ++ Es e.path) (L := L + 1 + (2 + e.path.length)) (by rw [List.length_append, List.length_append, A6, hL]; rfl), Kj he]
  unfold entB
  rw [if_neg (by simp [hd]), if_neg (by simp [hd]), ← List.append_assoc, ← List.append_assoc]; rfl
theorem len_dir {t : Tr} {i L : Nat} {e : En} (hL : L = (byI t i).length) (he : (A2 t.L)[i]? = some e) (hd : e.dir = true) : L + 1 + (2 + e.path.length) = (byI t (i + 1)).length := by
  rw [Kj he, List.length_append, ← hL]
  unfold entB
  rw [if_pos hd, if_pos hd, List.append_nil, List.length_append, A6, List.length_singleton]; omega
theorem len_file {t : Tr} {i L : Nat} {e : En} (hL : L = (byI t i).length) (he : (A2 t.L)[i]? = some e) (hd : e.dir = false) : L + 1 + (2 + e.path.length) + (2 + e.data.length) = (byI t (i + 1)).length := by
  rw [Kj he, List.length_append, ← hL]
  unfold entB
  rw [if_neg (by simp [hd]), if_neg (by simp [hd]), List.length_append, List.length_append, A6, A6, List.length_singleton]; omega
end Go.Proofs.YtjoakhpdajlhiaaGreatDoor.V2.S
namespace Go.Proofs.YtjoakhpdajlhiaaGreatDoor.V2.S
open Go
set_option maxRecDepth 100000
set_option linter.unusedVariables false
theorem entV_eq (a b : En) : a = b ↔ a.path = b.path ∧ a.dir = b.dir ∧ a.data = b.data := by
  cases a; cases b; simp
instance : DecidableEq En := fun a b => decidable_of_iff _ (entV_eq a b).symm
theorem pqE {O : Oz} (hO : O = zO) {P : FR} {k : KV} {σ : FH} {neg : Bool} {a b : En} (h : k (.b (bif neg then !decide (a = b) else decide (a = b))) σ = P) : O.pq (.eqF neg [.str, .bool, .str]) [Eb a, Eb b] σ k = P := by
  subst hO
  show slV (Aq std (.eqF neg [.str, .bool, .str]) [αV (Eb a), αV (Eb b)]) (fun v => k v σ) = P
  have e : Aq std (.eqF neg [.str, .bool, .str]) [αV (Eb a), αV (Eb b)] = (true, .bool (bif neg then !decide (a = b) else decide (a = b))) := by
    have e1 : B0 std false [.str, .bool, .str] (αV (Eb a)) (αV (Eb b)) = (true, decide (a = b)) := by
      show (true && (true && (true && true)), (unp (pack a.path) == unp (pack b.path)) && ((a.dir == b.dir) && ((unp (pack a.data) == unp (pack b.data)) && true))) = _
      rw [As, As, As, As]
      congr 1
      rw [Bool.and_true]
      by_cases h : a = b
      · rw [decide_eq_true h]; subst h; simp
      · rw [decide_eq_false h]
        rw [entV_eq] at h
        rw [Bool.eq_false_iff]
        intro h2
        simp only [Bool.and_eq_true, beq_iff_eq] at h2
        exact h ⟨h2.1, h2.2.1, h2.2.2⟩
    simp only [Aq, e1]
  rw [e]
  show (fV (βV (.bool _)) fun v => k v σ) = P
  rw [Ge]; exact h
theorem pqSame {O : Oz} (hO : O = zO) {P : FR} {k : KV} {σ : FH} {a : En} (h : k (.b false) σ = P) : O.pq (.eqF true [.str, .bool, .str]) [Eb a, Eb a] σ k = P := pqE hO (by rw [decide_eq_true rfl]; exact h)
theorem bxAc {O : Oz} (hO : O = zO) {P : FR} {k : KV} {n : Nat} {m : T FObj} {e : TypeId} {a : Ac} (hn : n < 1000000) (h : k (.p n 0) ⟨n + 1, mp m n (.cells (acV a) e .exact)⟩ = P) : O.bx e (.agg (acV a)) ⟨n, m⟩ k = P := by
  refine bxA hO hn ?_ h
  unfold acV
  rcases a with ⟨w | w, p, d, m⟩ <;> simp only [wV, αL, αV, AObj.of, Cv, βO, βL, βV, As]
end Go.Proofs.YtjoakhpdajlhiaaGreatDoor.V2.S
namespace Go.Proofs.YtjoakhpdajlhiaaGreatDoor.V2.S
open Go
set_option maxRecDepth 100000
set_option linter.unusedVariables false
theorem sortE_id : ∀ {l : List En}, (l.map En.path).Pairwise (· < ·) → A2 l = l
  | [], _ => rfl
  | e :: l, h => by
    rw [List.map_cons, List.pairwise_cons] at h
    rw [A2, sortE_id h.2]
    cases l with
    | nil => rfl
    | cons y l =>
      have h1 := h.1 y.path (by simp)
      rw [insE, if_neg (List.lt_asymm h1)]
theorem look_out {p : Bs} : ∀ {L : List En}, p ∉ L.map En.path → Av En.path p L = none
  | [], _ => rfl
  | a :: L, h => by
    rw [List.map_cons, List.mem_cons, not_or] at h
    unfold Av
    rw [if_neg (fun e => h.1 e.symm), look_out h.2]
theorem Hi {t : Tr} (hW : WfT t) : ((A2 t.L).map En.path).Pairwise (· < ·) := by rw [Dt]; exact Da hW.nd
end Go.Proofs.YtjoakhpdajlhiaaGreatDoor.V2.S
